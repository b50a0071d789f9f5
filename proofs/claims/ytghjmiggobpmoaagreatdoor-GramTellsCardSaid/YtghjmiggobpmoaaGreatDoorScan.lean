import Derived.Test.YtghjmiggobpmoaaGreatDoorTok
import Derived.Test.YtghjmiggobpmoaaGreatDoorUb
import Derived.Test.YtghjmiggobpmoaaGreatDoorTokV
set_option linter.unusedVariables false
set_option linter.unusedSimpArgs false
set_option autoImplicit false
set_option maxRecDepth 20000
namespace Go.Proofs.YtghjmiggobpmoaaGreatDoor.K
open Go Go.Proofs Go.RowKit

theorem blankL_b {k : Nat} {r : Bytes} (hr : r ≠ []) (h : byte r 0 = 32 ∨ byte r 0 = 9) : blankL (k + 1) r = blankL k (r.drop 1) + 1 := by
  match r, hr with
  | c :: t, _ => have e : c = 32 ∨ c = 9 := h; show blankL (k + 1) (c :: t) = blankL k t + 1; rw [blankL, if_pos e]
theorem blankL_n {k : Nat} {r : Bytes} (hr : r ≠ []) (h : ¬ (byte r 0 = 32 ∨ byte r 0 = 9)) (hp : Lib.hasPrefix r [92, 10] = true) : blankL (k + 1) r = blankL k (r.drop 2) + 2 := by
  match r, hr with
  | c :: t, _ => have e : ¬ (c = 32 ∨ c = 9) := h; show blankL (k + 1) (c :: t) = blankL k (t.drop 1) + 2; rw [blankL, if_neg e, if_pos hp]
theorem blankL_c {k : Nat} {r : Bytes} (hr : r ≠ []) (h : ¬ (byte r 0 = 32 ∨ byte r 0 = 9)) (hp : Lib.hasPrefix r [92, 10] = false) (hc : byte r 0 = 35) (hi : ¬ idx r 10 < 0) : blankL (k + 1) r = blankL k (r.drop (idx r 10).toNat) + (idx r 10).toNat := by
  match r, hr with
  | c :: t, _ => have e : ¬ (c = 32 ∨ c = 9) := h; have e2 : c = 35 := hc; rw [blankL, if_neg e, if_neg (by rw [hp]; simp), if_pos e2, if_neg hi]
theorem blankL_a {k : Nat} {r : Bytes} (hr : r ≠ []) (h : ¬ (byte r 0 = 32 ∨ byte r 0 = 9)) (hp : Lib.hasPrefix r [92, 10] = false) (hc : byte r 0 = 35) (hi : idx r 10 < 0) : blankL (k + 1) r = r.length := by
  match r, hr with
  | c :: t, _ => have e : ¬ (c = 32 ∨ c = 9) := h; have e2 : c = 35 := hc; rw [blankL, if_neg e, if_neg (by rw [hp]; simp), if_pos e2, if_pos hi]; rfl
theorem blankL_z {k : Nat} {r : Bytes} (hr : r ≠ []) (h : ¬ (byte r 0 = 32 ∨ byte r 0 = 9)) (hp : Lib.hasPrefix r [92, 10] = false) (hc : byte r 0 ≠ 35) : blankL (k + 1) r = 0 := by
  match r, hr with
  | c :: t, _ => have e : ¬ (c = 32 ∨ c = 9) := h; have e2 : c ≠ 35 := hc; rw [blankL, if_neg e, if_neg (by rw [hp]; simp), if_neg e2]
def blkB (c : UInt8) : Bool := decide (c.toNat = 32) || decide (c.toNat = 9)
theorem blkB_iff {c : UInt8} : blkB c = true ↔ c = 32 ∨ c = 9 := by
  simp only [blkB, Bool.or_eq_true, decide_eq_true_eq]
  constructor
  · rintro (h | h); exact .inl (UInt8.toNat_inj.1 h); exact .inr (UInt8.toNat_inj.1 h)
  · rintro (h | h) <;> simp [h]
theorem drop_ne {s : Bytes} {j : Nat} (h : j < s.length) : s.drop j ≠ [] := fun e => by have := List.drop_eq_nil_iff.1 e; omega

theorem c_blank (c : UInt8) (w : World) : CallR Tryz.prog 45 #[.int .u8 (c.toNat : Int)] w fun v w' => v = .bool (blkB c) ∧ Chg [] w w' := by
 refine callR_of_wp (args := [_]) Tryz.func45 rfl (Nat.le_of_ble_eq_true rfl) ?_
 have HC : Chg [] w w := .refl _
 refine sr rfl <| aB rfl <| en <| sr rfl <| mI rfl <| Wp rfl <| st_eql rfl rfl <| mB rfl <| w_split (d := 5) rfl (fun g1 => ?_) (fun g1 => ?_)
 ·try simp only [nm, ne_eq] at g1
  refine w_no 2 5 false <| w_no 2 5 false <| pT rfl rfl <| aB rfl <| en <| x_ret <| ret_tmp (v := .bool _) rfl rfl ?_
  have hc := c.toNat_lt
  refine ⟨congrArg Value.bool ?_, HC⟩
  rw [Bool.eq_iff_iff]
  (try simp only [upB, loB, blkB, digB, alphaB, begB, wordB, wrap_u8, Bool.or_eq_true, Bool.and_eq_true, Bool.or_eq_false_iff, Bool.and_eq_false_imp, decide_eq_true_eq, decide_eq_false_iff_not] at *)
  (try simp only [true_iff, false_iff, iff_true, iff_false, Bool.false_eq_true])
  omega
 ·try simp only [nm, ne_eq] at g1
  refine w_yes 2 5 false <| st_move (v := .int _ _) rfl <| w_yes 2 5 false <| st_eql rfl rfl <| pF rfl rfl <| aB rfl <| en <| x_ret <| ret_tmp (v := .bool _) rfl rfl ?_
  have hc := c.toNat_lt
  refine ⟨congrArg Value.bool ?_, HC⟩
  rw [Bool.eq_iff_iff]
  (try simp only [upB, loB, blkB, digB, alphaB, begB, wordB, wrap_u8, Bool.or_eq_true, Bool.and_eq_true, Bool.or_eq_false_iff, Bool.and_eq_false_imp, decide_eq_true_eq, decide_eq_false_iff_not] at *)
  (try simp only [true_iff, false_iff, iff_true, iff_false, Bool.false_eq_true])
  omega

theorem blank_spec (s : Bytes) (i : Nat) (w : World) (hs : s.length < 4294967281) (hi : i ≤ s.length) : CallR Tryz.prog 34 #[S s, .int .i64 (i : Int)] w fun v w' => v = .int .i64 ((i + blankV (s.drop i) : Nat) : Int) ∧ Chg [] w w' := by
 refine callR_of_wp (args := [_, _]) Tryz.func34 rfl (Nat.le_of_ble_eq_true rfl) ?_
 have HC : Chg [] w w := .refl _
 refine sr rfl <| aI rfl <| en <| x_seq <| x_block <| x_loop (ι := Nat × Nat) [1, 4, 5, 6, 7, 8, 9, 10, 11, 12, 13, 14, 15, 16, 17, 18, 19, 20, 21, 22, 23, 24, 25, 26, 27, 28, 29, 30, 31, 32, 33, 34, 35, 36, 37, 38] (fun ⟨j, k⟩ => [(1, .int .i64 (j : Int))]) (fun ⟨j, k⟩ W => (j ≤ s.length ∧ s.length - j ≤ k ∧ i + blankV (s.drop i) = j + blankL k (s.drop j)) ∧ (Chg [] w W)) (fun ⟨j, k⟩ => s.length - j) (i, (s.drop i).length) ?_ ?_ ?_
 · exact ⟨rfl, trivial⟩
 ·refine ⟨?_, HC⟩
  exact ⟨hi, by rw [List.length_drop]; exact Nat.le_refl _, rfl⟩
 intro ⟨j, k⟩ G2 w1 ⟨⟨hj, hk, hr⟩, HC⟩
 change wp _ _ _ _ _ (upds (over _ _ G2) [(1, .int .i64 (j : Int))]) _ _
 refine x_seq <| sr rfl <| mI rfl <| mS rfl <| Wp rfl <| st_slen (ct := #[9]) T.u9 rfl <| Wp rfl <| st_lss rfl rfl <| en <| x_cond rfl (fun h0 => ?_) (fun h0 => ?_)
 ·try simp only [nm, ne_eq] at h0
  have hne : s.drop j ≠ [] := drop_ne (by omega)
  obtain ⟨k, rfl⟩ : ∃ z, k = z + 1 := ⟨k - 1, by omega⟩
  refine x_skip <| then_n <| x_block <| sr rfl <| mS rfl <| mI rfl <| Wp rfl <| st_sslo (i := j) T.u9 rfl ⟨_, rfl⟩ (by omega) <| aS rfl <| en <| x_block <| sr rfl <| mS rfl <| Wp rfl <| st_sidx T.u9 rfl rfl (by decide) (by (simp only [List.length_drop]; omega)) <| Wp rfl <| st_call (ags := [_]) rfl rfl T.ent45 rfl (c_blank (byte (s.drop j) 0) _) ?_
  rintro _ w3 ⟨rfl, c4⟩
  replace HC := HC.then c4
  refine aB rfl <| en <| x_cond rfl (fun h1 => ?_) (fun h1 => ?_)
  ·try simp only [nm, ne_eq] at h1
   have hun := blankL_b (k := k) hne (blkB_iff.1 h1)
   refine x_region rfl <| mI rfl <| Wp rfl <| st_addn rfl rfl (by constructor <;> omega) <| aI rfl <| wops_nil <| block_n <| block_n <| then_n <| ⟨(j + 1, k), ?_, ?_, rfl, ⟨rfl, trivial⟩, ?_⟩
   ·refine ⟨?_, HC⟩
    exact ⟨by omega, by omega, by rw [hr, hun, List.drop_drop]; omega⟩
   ·show s.length - (j + 1) < s.length - j; omega
   exact q9
  ·try simp only [nm, ne_eq] at h1
   have hnb : ¬ (byte (s.drop j) 0 = 32 ∨ byte (s.drop j) 0 = 9) := fun e => by rw [blkB_iff.2 e] at h1; cases h1
   refine sr rfl <| mS rfl <| Wp rfl <| st_call (ags := [_, _]) rfl rfl T.ent27 rfl (HasPrefix_spec (s.drop j) [92, 10] _) ?_
   rintro _ w5 ⟨rfl, c6⟩
   replace HC := HC.then c6
   refine aB rfl <| en <| x_cond rfl (fun h2 => ?_) (fun h2 => ?_)
   ·try simp only [nm, ne_eq] at h2
    have hun := blankL_n (k := k) hne hnb h2
    have hp2 := pre_len h2
    simp only [List.length_drop, List.length_cons, List.length_nil] at hp2
    refine x_region rfl <| mI rfl <| Wp rfl <| st_addn rfl rfl (by constructor <;> omega) <| aI rfl <| wops_nil <| block_n <| block_n <| then_n <| ⟨(j + 2, k), ?_, ?_, rfl, ⟨rfl, trivial⟩, ?_⟩
    ·refine ⟨?_, HC⟩
     exact ⟨by omega, by omega, by rw [hr, hun, List.drop_drop]; omega⟩
    ·show s.length - (j + 2) < s.length - j; omega
    exact q9
   ·try simp only [nm, ne_eq] at h2
    refine sr rfl <| mS rfl <| Wp rfl <| st_sidx T.u9 rfl rfl (by decide) (by (simp only [List.length_drop]; omega)) <| Wp rfl <| st_eql rfl rfl <| aB rfl <| en <| x_cond rfl (fun h3 => ?_) (fun h3 => ?_)
    ·try simp only [nm, ne_eq] at h3
     have hc0 : byte (s.drop j) 0 = 35 := u8_eq h3 rfl
     refine sr rfl <| mS rfl <| Wp rfl <| st_call (ags := [_, _]) rfl rfl T.ent46 rfl (IndexByte_spec (s.drop j) 10 _) ?_
     rintro _ w7 ⟨rfl, c8⟩
     replace HC := HC.then c8
     refine aI rfl <| en <| x_seq <| sr rfl <| mI rfl <| Wp rfl <| st_lss rfl rfl <| en <| x_cond rfl (fun h4 => ?_) (fun h4 => ?_)
     ·try simp only [nm, ne_eq] at h4
      have hun : blankL (k + 1) (s.drop j) = blankL k ((s.drop j).drop (s.drop j).length) + (s.drop j).length := by rw [blankL_a hne hnb h2 hc0 h4, List.drop_length]; cases k <;> simp [blankL]
      have hdl : (s.drop j).length = s.length - j := List.length_drop
      refine x_region rfl <| mS rfl <| Wp rfl <| st_slen (ct := #[9]) T.u9 rfl <| aI rfl <| en <| x_region rfl <| mI rfl <| mI rfl <| Wp rfl <| st_addn rfl rfl (by constructor <;> omega) <| aI rfl <| wops_nil <| block_n <| block_n <| then_n <| ⟨(j + (s.drop j).length, k), ?_, ?_, rfl, ⟨rfl, trivial⟩, ?_⟩
      ·refine ⟨?_, HC⟩
       exact ⟨by omega, by omega, by rw [hr, hun, List.drop_drop]; omega⟩
      ·show s.length - (j + (s.drop j).length) < s.length - j; omega
      exact q9
     ·try simp only [nm, ne_eq] at h4
      have hun := blankL_c (k := k) hne hnb h2 hc0 h4
      have hil := idx_le (s.drop j) 10
      have hi0 : idx (s.drop j) 10 ≠ 0 := by intro h0; obtain ⟨c9, t9, he9⟩ : ∃ c t, s.drop j = c :: t := List.exists_cons_of_ne_nil hne; rw [he9] at h0 hc0; have hc9 : c9 = 35 := hc0; subst hc9; simp only [idx, Lib.indexByte] at h0; split at h0; rename_i h8; exact absurd h8 (by decide); split at h0; omega; rename_i h8; rcases Int.lt_or_le (Lib.indexByte t9 10) 0 with h7 | h7; exact h8 (by simpa using idx_neg h7); omega
      have hdl : (s.drop j).length = s.length - j := List.length_drop
      refine x_skip <| then_n <| x_region rfl <| mI rfl <| mI rfl <| Wp rfl <| st_addn rfl rfl (by constructor <;> omega) <| aI rfl <| wops_nil <| block_n <| block_n <| then_n <| ⟨(j + (idx (s.drop j) 10).toNat, k), ?_, ?_, rfl, ⟨(congrArg (Value.int .i64) (by omega)), trivial⟩, ?_⟩
      ·refine ⟨?_, HC⟩
       exact ⟨by omega, by omega, by rw [hr, hun, List.drop_drop]; omega⟩
      ·show s.length - (j + (idx (s.drop j) 10).toNat) < s.length - j; omega
      exact q9
    ·try simp only [nm, ne_eq] at h3
     refine sr rfl <| mI rfl <| aI rfl <| en <| x_ret <| block_r <| block_r <| then_r <| block_r <| then_r <| ret_tmp (v := .int _ _) rfl rfl <| ⟨congrArg (Value.int .i64) (congrArg Int.ofNat ?_), HC⟩
     show j = i + blankV (s.drop i)
     rw [hr, blankL_z hne hnb h2 (fun e => h3 (by rw [e]; rfl))]; rfl
 ·try simp only [nm, ne_eq] at h0
  refine x_exit <| then_x <| then_x <| block_x <| then_n <| sr rfl <| mI rfl <| aI rfl <| en <| x_ret <| ret_tmp (v := .int _ _) rfl rfl <| ⟨congrArg (Value.int .i64) (congrArg Int.ofNat ?_), HC⟩
  show j = i + blankV (s.drop i)
  rw [hr, List.drop_eq_nil_of_le (by omega)]; cases k <;> rfl

end Go.Proofs.YtghjmiggobpmoaaGreatDoor.K
set_option linter.unusedVariables false
set_option linter.unusedSimpArgs false
set_option autoImplicit false
set_option maxRecDepth 20000
namespace Go.Proofs.YtghjmiggobpmoaaGreatDoor.K
open Go Go.RowKit

def scanF : Nat → Bytes → Int → List Tok → List (Nat × Bool) → List Tok × Int × Int
  | 0, _, _, out, _ => (out, 0, 0)
  | k + 1, r, i, out, ws =>
    let r1 := r.drop (blankV r)
    let i1 := i + blankV r
    let t := nextT r1 i1
    if t.2.2 ≠ 0 then ([], t.1.at_, t.2.2)
    else if t.1.kind = 0 then ((linesV (out ++ [t.1]) (pushW out ws t.1) []).1, 0, 0)
    else if t.1.kind = 3 then
      let x := linesV (out ++ [t.1]) (pushW out ws t.1) (r1.drop t.2.1)
      scanF k ((r1.drop t.2.1).drop x.2) (i1 + t.2.1 + x.2) x.1 []
    else scanF k (r1.drop t.2.1) (i1 + t.2.1) (out ++ [t.1]) (pushW out ws t.1)
def tokensV (s : Bytes) : List Tok × Int × Int := if 16384 < s.length then ([], 0, 108) else scanF (s.length + 1) s 0 [] []

theorem blankL_le : ∀ (k : Nat) (r : Bytes), blankL k r ≤ r.length
  | 0, r => by simp [blankL]
  | k + 1, [] => by simp [blankL]
  | k + 1, c :: t => by
    simp only [blankL]
    split
    · have := blankL_le k t; simp; omega
    · split
      · rename_i h
        have h1 := blankL_le k (t.drop 1)
        have h2 := pre_len h
        simp only [List.length_drop, List.length_cons, List.length_nil] at h1 h2 ⊢; omega
      · split
        · split
          · simp
          · have h1 := blankL_le k ((c :: t).drop (idx (c :: t) 10).toNat)
            have h2 := idx_le (c :: t) 10
            simp only [List.length_drop, List.length_cons] at h1 h2 ⊢; omega
        · simp
theorem blankL_stop : ∀ (k : Nat) (r : Bytes), r.length ≤ k → r.drop (blankL k r) = [] ∨ (byte (r.drop (blankL k r)) 0 ≠ 32 ∧ byte (r.drop (blankL k r)) 0 ≠ 9 ∧ byte (r.drop (blankL k r)) 0 ≠ 35)
  | 0, r, h => .inl (by rw [show r = [] from List.length_eq_zero_iff.1 (by omega)]; rfl)
  | k + 1, [], _ => .inl rfl
  | k + 1, c :: t, h => by
    simp only [List.length_cons] at h
    simp only [blankL]
    split
    · rw [List.drop_succ_cons]; exact blankL_stop k t (by omega)
    · rename_i hc
      split
      · rename_i hp
        have h2 := pre_len hp
        have e : (c :: t).drop (blankL k (t.drop 1) + 2) = (t.drop 1).drop (blankL k (t.drop 1)) := by
          rw [List.drop_succ_cons, List.drop_drop, Nat.add_comm 1]
        rw [e]
        exact blankL_stop k (t.drop 1) (by simp only [List.length_drop]; omega)
      · split
        · rename_i hc2
          split
          · exact .inl (List.drop_eq_nil_of_le (by simp))
          · rename_i hi
            have e : (c :: t).drop (blankL k ((c :: t).drop (idx (c :: t) 10).toNat) + (idx (c :: t) 10).toNat) = ((c :: t).drop (idx (c :: t) 10).toNat).drop (blankL k ((c :: t).drop (idx (c :: t) 10).toNat)) := by
              rw [List.drop_drop, Nat.add_comm]
            rw [e]
            refine blankL_stop k _ ?_
            have h0 : (idx (c :: t) 10).toNat ≠ 0 := by
              intro h0
              have h1 : idx (c :: t) 10 = 0 := by omega
              have : c = 10 := by
                simp only [idx, Lib.indexByte] at h1
                simp [List.findIdx?_cons] at h1
                by_cases h9 : c = 10
                · exact h9
                · exfalso; revert h1; simp [h9]; split <;> omega
              rw [this] at hc2; exact absurd hc2 (by decide)
            simp only [List.length_drop, List.length_cons]; omega
        · rename_i hc2
          right
          refine ⟨fun h => hc (.inl h), fun h => hc (.inr h), hc2⟩
theorem findN_hit {q : Bytes → Bool} : ∀ (l : List Bytes) (i : Nat), (∃ x, x ∈ l ∧ q x = true) → ∃ j, findN q i l = ((i + j : Nat) : Int) ∧ j < l.length ∧ q (l.getD j []) = true
  | [], i, ⟨x, h, _⟩ => by cases h
  | y :: l, i, ⟨x, h, hq⟩ => by
    by_cases hy : q y = true
    · exact ⟨0, by simp [findN, hy], by simp, by simpa using hy⟩
    · rcases List.mem_cons.1 h with rfl | h
      · exact absurd hq hy
      · obtain ⟨j, h1, h2, h3⟩ := findN_hit l (i + 1) ⟨x, h, hq⟩
        exact ⟨j + 1, by simp only [findN, if_neg hy, h1]; congr 1; omega, by simp; omega, by simpa using h3⟩
theorem op_hit {r : Bytes} (h : metaB (byte r 0) = true) (h10 : byte r 0 ≠ 10) (h32 : byte r 0 ≠ 32) (h9 : byte r 0 ≠ 9) (hr : r ≠ []) :
    ∃ j, findN (preO r) 0 opsT = ((j : Nat) : Int) ∧ j < opsT.length ∧ opT r = opsT.getD j [] ∧ Lib.hasPrefix r (opT r) = true ∧ 1 ≤ (opT r).length ∧ (opT r).length ≤ r.length := by
  obtain ⟨c, t, rfl⟩ : ∃ c t, r = c :: t := by cases r with | nil => exact absurd rfl hr | cons c t => exact ⟨c, t, rfl⟩
  have hb : byte (c :: t) 0 = c := rfl
  rw [hb] at h h10 h32 h9
  have hm : c ∈ metas := idx_mem.1 (by simpa [metaB] using h)
  have hx : ∃ x, x ∈ opsT ∧ preO (c :: t) x = true := by
    refine ⟨[c], ?_, by simp [preO, Lib.hasPrefix]⟩
    simp only [metas, List.mem_cons, List.mem_nil_iff, or_false] at hm
    rcases hm with rfl | rfl | rfl | rfl | rfl | rfl | rfl | rfl | rfl | rfl <;> first | exact absurd rfl h10 | exact absurd rfl h32 | exact absurd rfl h9 | (simp [opsT])
  obtain ⟨j, h1, h2, h3⟩ := findN_hit opsT 0 hx
  simp only [Nat.zero_add] at h1
  have h4 : opT (c :: t) = opsT.getD j [] := by simp only [opT, h1]; rfl
  have h5 : ∀ x, x ∈ opsT → 1 ≤ x.length := by decide
  refine ⟨j, h1, h2, h4, by rw [h4]; exact h3, ?_, by rw [h4]; exact pre_len h3⟩
  rw [h4]; refine h5 _ ?_
  rw [List.getD_eq_getElem?_getD, List.getElem?_eq_getElem h2]; exact List.getElem_mem _
theorem wordL_le : ∀ (k : Nat) (r : Bytes), (wordL k r).1 ≤ r.length
  | 0, r => by simp [wordL]
  | k + 1, [] => by simp [wordL]
  | k + 1, c :: t => by
    simp only [wordL]
    split
    · simp
    · split
      · simp
      · rename_i n hn
        have h1 := skipL_le _ _ _ (by simp) hn
        have h2 := wordL_le k ((c :: t).drop n)
        simp only [List.length_drop] at h2
        omega
theorem wordL_err : ∀ (k : Nat) (r : Bytes), (wordL k r).2 ≠ 0 → (wordL k r).1 < r.length
  | 0, r, h => by simp [wordL] at h
  | k + 1, [], h => by simp [wordL] at h
  | k + 1, c :: t, h => by
    simp only [wordL] at h ⊢
    split at h
    · simp at h
    · rename_i hm
      rw [if_neg hm]
      split at h
      · rename_i e he; simp
      · rename_i n hn
        have h1 := skipL_le _ _ _ (by simp) hn
        have h2 := wordL_err k ((c :: t).drop n) h
        simp only [List.length_drop] at h2
        show _ + n < _
        omega
theorem wordV_pos {r : Bytes} (hr : r ≠ []) (hm : metaB (byte r 0) = false) (he : (wordV r).2 = 0) : 1 ≤ (wordV r).1 := by
  obtain ⟨c, t, rfl⟩ : ∃ c t, r = c :: t := by cases r with | nil => exact absurd rfl hr | cons c t => exact ⟨c, t, rfl⟩
  have hb : byte (c :: t) 0 = c := rfl
  rw [hb] at hm
  simp only [wordV, List.length_cons, wordL] at he ⊢
  rw [if_neg (by simp [hm])] at he ⊢
  cases hk : skipL 64 (c :: t) with
  | error e =>
    rw [hk] at he
    have : e ≠ 0 := skipL_err _ _ _ hk
    exact absurd he this
  | ok n => have := skipL_le _ _ _ (by simp) hk; show 1 ≤ _ + n; omega
end Go.Proofs.YtghjmiggobpmoaaGreatDoor.K
