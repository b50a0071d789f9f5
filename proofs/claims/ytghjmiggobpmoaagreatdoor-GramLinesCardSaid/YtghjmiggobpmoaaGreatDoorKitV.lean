import Derived.Test.YtghjmiggobpmoaaGreatDoorTok
import Derived.Test.YtghjmiggobpmoaaGreatDoorUb
import Derived.Lib.AppendZerosOnto
import Derived.Lib.Overlaps
set_option linter.unusedVariables false
set_option linter.unusedSimpArgs false
set_option autoImplicit false
set_option maxRecDepth 20000
namespace Go.Proofs.YtghjmiggobpmoaaGreatDoor.K
open Go Go.Proofs Go.RowKit
theorem blankL_b {k : Nat} {r : Bytes} (hr : r ≠ []) (h : byte r 0 = 32 ∨ byte r 0 = 9) : blankL (k + 1) r = blankL k (r.drop 1) + 1 := by
  match r, hr with
  | c :: t, _ => have e : c = 32 ∨ c = 9 := h; show blankL (k + 1) (c :: t) = blankL k t + 1; rw [blankL, if_pos e]
theorem blankL_n {k : Nat} {r : Bytes} (hr : r ≠ []) (h : ¬ (byte r 0 = 32 ∨ byte r 0 = 9)) (hp : Lib.hasPrefix r [92, 10] = true) : blankL (k + 1) r = blankL k (r.drop 2) + 2 := by
  match r, hr with
  | c :: t, _ => have e : ¬ (c = 32 ∨ c = 9) := h; show blankL (k + 1) (c :: t) = blankL k (t.drop 1) + 2; rw [blankL, if_neg e, if_pos hp]
theorem blankL_c {k : Nat} {r : Bytes} (hr : r ≠ []) (h : ¬ (byte r 0 = 32 ∨ byte r 0 = 9)) (hp : Lib.hasPrefix r [92, 10] = false) (hc : byte r 0 = 35) (hi : ¬ idx r 10 < 0) : blankL (k + 1) r = blankL k (r.drop (idx r 10).toNat) + (idx r 10).toNat := by
  match r, hr with
  | c :: t, _ => have e : ¬ (c = 32 ∨ c = 9) := h; have e2 : c = 35 := hc; rw [blankL, if_neg e, if_neg (by rw [hp]; simp), if_pos e2, if_neg hi]
theorem blankL_a {k : Nat} {r : Bytes} (hr : r ≠ []) (h : ¬ (byte r 0 = 32 ∨ byte r 0 = 9)) (hp : Lib.hasPrefix r [92, 10] = false) (hc : byte r 0 = 35) (hi : idx r 10 < 0) : blankL (k + 1) r = r.length := by
  match r, hr with
  | c :: t, _ => have e : ¬ (c = 32 ∨ c = 9) := h; have e2 : c = 35 := hc; rw [blankL, if_neg e, if_neg (by rw [hp]; simp), if_pos e2, if_pos hi]; rfl
theorem blankL_z {k : Nat} {r : Bytes} (hr : r ≠ []) (h : ¬ (byte r 0 = 32 ∨ byte r 0 = 9)) (hp : Lib.hasPrefix r [92, 10] = false) (hc : byte r 0 ≠ 35) : blankL (k + 1) r = 0 := by
  match r, hr with
  | c :: t, _ => have e : ¬ (c = 32 ∨ c = 9) := h; have e2 : c ≠ 35 := hc; rw [blankL, if_neg e, if_neg (by rw [hp]; simp), if_neg e2]
def blkB (c : UInt8) : Bool := decide (c.toNat = 32) || decide (c.toNat = 9)
theorem blkB_iff {c : UInt8} : blkB c = true ↔ c = 32 ∨ c = 9 := by
  simp only [blkB, Bool.or_eq_true, decide_eq_true_eq]
  constructor
  · rintro (h | h); exact .inl (UInt8.toNat_inj.1 h); exact .inr (UInt8.toNat_inj.1 h)
  rintro (h | h) <;> simp [h]
theorem drop_ne {s : Bytes} {j : Nat} (h : j < s.length) : s.drop j ≠ [] := fun e => by have := List.drop_eq_nil_iff.1 e; omega
theorem c_blank (c : UInt8) (w : World) : CallR Tryz.prog 45 #[.int .u8 (c.toNat : Int)] w fun v w' => v = .bool (blkB c) ∧ Chg [] w w' := by
 refine callR_of_wp (args := [_]) Tryz.func45 rfl (Nat.le_of_ble_eq_true rfl) ?_;have HC : Chg [] w w := .refl _;refine sr rfl <| aB rfl <| en <| sr rfl <| mI rfl <| Wp rfl <| st_eql rfl rfl <| mB rfl <| w_split (d := 5) rfl (fun g1 => ?_) (fun g1 => ?_)
 ·try simp only [nm, ne_eq] at g1
  refine w_no 2 5 false <| w_no 2 5 false <| pT rfl rfl <| aB rfl <| en <| x_ret <| ret_tmp (v := .bool _) rfl rfl ?_;have hc := c.toNat_lt;refine ⟨congrArg Value.bool ?_, HC⟩;rw [Bool.eq_iff_iff]
  (try simp only [upB, loB, blkB, digB, alphaB, begB, wordB, wrap_u8, Bool.or_eq_true, Bool.and_eq_true, Bool.or_eq_false_iff, Bool.and_eq_false_imp, decide_eq_true_eq, decide_eq_false_iff_not] at *)
  (try simp only [true_iff, false_iff, iff_true, iff_false, Bool.false_eq_true])
  omega
 try simp only [nm, ne_eq] at g1
 refine w_yes 2 5 false <| st_move (v := .int _ _) rfl <| w_yes 2 5 false <| st_eql rfl rfl <| pF rfl rfl <| aB rfl <| en <| x_ret <| ret_tmp (v := .bool _) rfl rfl ?_;have hc := c.toNat_lt;refine ⟨congrArg Value.bool ?_, HC⟩;rw [Bool.eq_iff_iff]
 (try simp only [upB, loB, blkB, digB, alphaB, begB, wordB, wrap_u8, Bool.or_eq_true, Bool.and_eq_true, Bool.or_eq_false_iff, Bool.and_eq_false_imp, decide_eq_true_eq, decide_eq_false_iff_not] at *)
 (try simp only [true_iff, false_iff, iff_true, iff_false, Bool.false_eq_true])
 omega
theorem blank_spec (s : Bytes) (i : Nat) (w : World) (hs : s.length < 4294967281) (hi : i ≤ s.length) : CallR Tryz.prog 34 #[S s, .int .i64 (i : Int)] w fun v w' => v = .int .i64 ((i + blankV (s.drop i) : Nat) : Int) ∧ Chg [] w w' := by
 refine callR_of_wp (args := [_, _]) Tryz.func34 rfl (Nat.le_of_ble_eq_true rfl) ?_;have HC : Chg [] w w := .refl _;refine sr rfl <| aI rfl <| en <| x_seq <| x_block <| x_loop (ι := Nat × Nat) [1, 4, 5, 6, 7, 8, 9, 10, 11, 12, 13, 14, 15, 16, 17, 18, 19, 20, 21, 22, 23, 24, 25, 26, 27, 28, 29, 30, 31, 32, 33, 34, 35, 36, 37, 38] (fun ⟨j, k⟩ => [(1, .int .i64 (j : Int))]) (fun ⟨j, k⟩ W => (j ≤ s.length ∧ s.length - j ≤ k ∧ i + blankV (s.drop i) = j + blankL k (s.drop j)) ∧ (Chg [] w W)) (fun ⟨j, k⟩ => s.length - j) (i, (s.drop i).length) ?_ ?_ ?_
 · exact ⟨rfl, trivial⟩
 ·refine ⟨?_, HC⟩;exact ⟨hi, by rw [List.length_drop]; exact Nat.le_refl _, rfl⟩
 intro ⟨j, k⟩ G2 w1 ⟨⟨hj, hk, hr⟩, HC⟩
 change wp _ _ _ _ _ (upds (over _ _ G2) [(1, .int .i64 (j : Int))]) _ _
 refine x_seq <| sr rfl <| mI rfl <| mS rfl <| Wp rfl <| st_slen (ct := #[9]) T.u9 rfl <| Wp rfl <| st_lss rfl rfl <| en <| x_cond rfl (fun h0 => ?_) (fun h0 => ?_)
 ·try simp only [nm, ne_eq] at h0
  have hne : s.drop j ≠ [] := drop_ne q0;obtain ⟨k, rfl⟩ : ∃ z, k = z + 1 := ⟨k - 1, by omega⟩
  refine x_skip <| then_n <| x_block <| sr rfl <| mS rfl <| mI rfl <| Wp rfl <| st_sslo (i := j) T.u9 rfl ⟨_, rfl⟩ q0 <| aS rfl <| en <| x_block <| sr rfl <| mS rfl <| Wp rfl <| st_sidx T.u9 rfl rfl (by decide) (by (simp only [List.length_drop]; omega)) <| Wp rfl <| st_call (ags := [_]) rfl rfl T.ent45 rfl (c_blank (byte (s.drop j) 0) _) ?_
  rintro _ w3 ⟨rfl, c4⟩;replace HC := HC.then c4;refine aB rfl <| en <| x_cond rfl (fun h1 => ?_) (fun h1 => ?_)
  ·try simp only [nm, ne_eq] at h1
   have hun := blankL_b (k := k) hne (blkB_iff.1 h1);refine x_region rfl <| mI rfl <| Wp rfl <| st_addn rfl rfl (by constructor <;> omega) <| aI rfl <| wops_nil <| block_n <| block_n <| then_n <| ⟨(j + 1, k), ?_, ?_, rfl, ⟨rfl, trivial⟩, ?_⟩
   ·refine ⟨?_, HC⟩;exact ⟨by omega, by omega, by rw [hr, hun, List.drop_drop]; omega⟩
   ·show s.length - (j + 1) < s.length - j; omega
   exact q9
  try simp only [nm, ne_eq] at h1
  have hnb : ¬ (byte (s.drop j) 0 = 32 ∨ byte (s.drop j) 0 = 9) := fun e => by rw [blkB_iff.2 e] at h1; cases h1
  refine sr rfl <| mS rfl <| Wp rfl <| st_call (ags := [_, _]) rfl rfl T.ent27 rfl (HasPrefix_spec (s.drop j) [92, 10] _) ?_;rintro _ w5 ⟨rfl, c6⟩;replace HC := HC.then c6;refine aB rfl <| en <| x_cond rfl (fun h2 => ?_) (fun h2 => ?_)
  ·try simp only [nm, ne_eq] at h2
   have hun := blankL_n (k := k) hne hnb h2;have hp2 := pre_len h2;simp only [List.length_drop, List.length_cons, List.length_nil] at hp2;refine x_region rfl <| mI rfl <| Wp rfl <| st_addn rfl rfl (by constructor <;> omega) <| aI rfl <| wops_nil <| block_n <| block_n <| then_n <| ⟨(j + 2, k), ?_, ?_, rfl, ⟨rfl, trivial⟩, ?_⟩
   ·refine ⟨?_, HC⟩;exact ⟨by omega, by omega, by rw [hr, hun, List.drop_drop]; omega⟩
   ·show s.length - (j + 2) < s.length - j; omega
   exact q9
  try simp only [nm, ne_eq] at h2
  refine sr rfl <| mS rfl <| Wp rfl <| st_sidx T.u9 rfl rfl (by decide) (by (simp only [List.length_drop]; omega)) <| Wp rfl <| st_eql rfl rfl <| aB rfl <| en <| x_cond rfl (fun h3 => ?_) (fun h3 => ?_)
  ·try simp only [nm, ne_eq] at h3
   have hc0 : byte (s.drop j) 0 = 35 := u8_eq h3 rfl;refine sr rfl <| mS rfl <| Wp rfl <| st_call (ags := [_, _]) rfl rfl T.ent46 rfl (IndexByte_spec (s.drop j) 10 _) ?_;rintro _ w7 ⟨rfl, c8⟩;replace HC := HC.then c8;refine aI rfl <| en <| x_seq <| sr rfl <| mI rfl <| Wp rfl <| st_lss rfl rfl <| en <| x_cond rfl (fun h4 => ?_) (fun h4 => ?_)
   ·try simp only [nm, ne_eq] at h4
    have hun : blankL (k + 1) (s.drop j) = blankL k ((s.drop j).drop (s.drop j).length) + (s.drop j).length := by rw [blankL_a hne hnb h2 hc0 h4, List.drop_length]; cases k <;> simp [blankL]
    have hdl : (s.drop j).length = s.length - j := List.length_drop;refine x_region rfl <| mS rfl <| Wp rfl <| st_slen (ct := #[9]) T.u9 rfl <| aI rfl <| en <| x_region rfl <| mI rfl <| mI rfl <| Wp rfl <| st_addn rfl rfl (by constructor <;> omega) <| aI rfl <| wops_nil <| block_n <| block_n <| then_n <| ⟨(j + (s.drop j).length, k), ?_, ?_, rfl, ⟨rfl, trivial⟩, ?_⟩
    ·refine ⟨?_, HC⟩;exact ⟨by omega, by omega, by rw [hr, hun, List.drop_drop]; omega⟩
    ·show s.length - (j + (s.drop j).length) < s.length - j; omega
    exact q9
   try simp only [nm, ne_eq] at h4
   have hun := blankL_c (k := k) hne hnb h2 hc0 h4;have hil := idx_le (s.drop j) 10;have hi0 : idx (s.drop j) 10 ≠ 0 := by intro h0; obtain ⟨c9, t9, he9⟩ : ∃ c t, s.drop j = c :: t := List.exists_cons_of_ne_nil hne; rw [he9] at h0 hc0; have hc9 : c9 = 35 := hc0; subst hc9; simp only [idx, Lib.indexByte] at h0; split at h0; rename_i h8; exact absurd h8 (by decide); split at h0; omega; rename_i h8; rcases Int.lt_or_le (Lib.indexByte t9 10) 0 with h7 | h7; exact h8 (by simpa using idx_neg h7); omega
   have hdl : (s.drop j).length = s.length - j := List.length_drop;refine x_skip <| then_n <| x_region rfl <| mI rfl <| mI rfl <| Wp rfl <| st_addn rfl rfl (by constructor <;> omega) <| aI rfl <| wops_nil <| block_n <| block_n <| then_n <| ⟨(j + (idx (s.drop j) 10).toNat, k), ?_, ?_, rfl, ⟨(congrArg (Value.int .i64) q0), trivial⟩, ?_⟩
   ·refine ⟨?_, HC⟩;exact ⟨by omega, by omega, by rw [hr, hun, List.drop_drop]; omega⟩
   ·show s.length - (j + (idx (s.drop j) 10).toNat) < s.length - j; omega
   exact q9
  try simp only [nm, ne_eq] at h3
  refine sr rfl <| mI rfl <| aI rfl <| en <| x_ret <| block_r <| block_r <| then_r <| block_r <| then_r <| ret_tmp (v := .int _ _) rfl rfl <| ⟨congrArg (Value.int .i64) (congrArg Int.ofNat ?_), HC⟩
  show j = i + blankV (s.drop i)
  rw [hr, blankL_z hne hnb h2 (fun e => h3 (by rw [e]; rfl))]; rfl
 try simp only [nm, ne_eq] at h0
 refine x_exit <| then_x <| then_x <| block_x <| then_n <| sr rfl <| mI rfl <| aI rfl <| en <| x_ret <| ret_tmp (v := .int _ _) rfl rfl <| ⟨congrArg (Value.int .i64) (congrArg Int.ofNat ?_), HC⟩
 show j = i + blankV (s.drop i)
 rw [hr, List.drop_eq_nil_of_le q0]; cases k <;> rfl
open Go Go.RowKit
def scanF : Nat → Bytes → Int → List Tok → List (Nat × Bool) → List Tok × Int × Int
  | 0, _, _, out, _ => (out, 0, 0)
  | k + 1, r, i, out, ws =>
    let r1 := r.drop (blankV r)
    let i1 := i + blankV r
    let t := nextT r1 i1
    if t.2.2 ≠ 0 then ([], t.1.at_, t.2.2)
    else if t.1.kind = 0 then ((linesV (out ++ [t.1]) (pushW out ws t.1) []).1, 0, 0)
    else if t.1.kind = 3 then
      let x := linesV (out ++ [t.1]) (pushW out ws t.1) (r1.drop t.2.1)
      scanF k ((r1.drop t.2.1).drop x.2) (i1 + t.2.1 + x.2) x.1 []
    else scanF k (r1.drop t.2.1) (i1 + t.2.1) (out ++ [t.1]) (pushW out ws t.1)
def tokensV (s : Bytes) : List Tok × Int × Int := if 16384 < s.length then ([], 0, 108) else scanF (s.length + 1) s 0 [] []
theorem blankL_le : ∀ (k : Nat) (r : Bytes), blankL k r ≤ r.length
  | 0, r => by simp [blankL]
  | k + 1, [] => by simp [blankL]
  | k + 1, c :: t => by
    simp only [blankL]
    split
    · have := blankL_le k t; simp; omega
    split
    · rename_i h
      have h1 := blankL_le k (t.drop 1);have h2 := pre_len h;simp only [List.length_drop, List.length_cons, List.length_nil] at h1 h2 ⊢; omega
    split
    · split
      · simp
      have h1 := blankL_le k ((c :: t).drop (idx (c :: t) 10).toNat);have h2 := idx_le (c :: t) 10;simp only [List.length_drop, List.length_cons] at h1 h2 ⊢; omega
    simp
theorem hasP_cons {c d : UInt8} {s p : Bytes} : Lib.hasPrefix (c :: s) (d :: p) = (c == d && Lib.hasPrefix s p) := by
  simp only [Lib.hasPrefix, List.isPrefixOf]
  rw [show (d == c) = (c == d) from Bool.beq_comm]
theorem blankL_stop : ∀ (k : Nat) (r : Bytes), r.length ≤ k → r.drop (blankL k r) = [] ∨ (byte (r.drop (blankL k r)) 0 ≠ 32 ∧ byte (r.drop (blankL k r)) 0 ≠ 9 ∧ byte (r.drop (blankL k r)) 0 ≠ 35)
  | 0, r, h => .inl (by rw [show r = [] from List.length_eq_zero_iff.1 (by omega)]; rfl)
  | k + 1, [], _ => .inl rfl
  | k + 1, c :: t, h => by
    simp only [List.length_cons] at h
    simp only [blankL]
    split
    · rw [List.drop_succ_cons]; exact blankL_stop k t (by omega)
    rename_i hc
    split
    · rename_i hp
      have h2 := pre_len hp
      have e : (c :: t).drop (blankL k (t.drop 1) + 2) = (t.drop 1).drop (blankL k (t.drop 1)) := by
        rw [List.drop_succ_cons, List.drop_drop, Nat.add_comm 1]
      rw [e]
      exact blankL_stop k (t.drop 1) (by simp only [List.length_drop]; omega)
    split
    · rename_i hc2
      split
      · exact .inl (List.drop_eq_nil_of_le (by simp))
      rename_i hi
      have e : (c :: t).drop (blankL k ((c :: t).drop (idx (c :: t) 10).toNat) + (idx (c :: t) 10).toNat) = ((c :: t).drop (idx (c :: t) 10).toNat).drop (blankL k ((c :: t).drop (idx (c :: t) 10).toNat)) := by
        rw [List.drop_drop, Nat.add_comm]
      rw [e]
      refine blankL_stop k _ ?_
      have h0 : (idx (c :: t) 10).toNat ≠ 0 := by
        intro h0;have h1 : idx (c :: t) 10 = 0 := by omega
        have : c = 10 := by
          simp only [idx, Lib.indexByte] at h1
          simp [List.findIdx?_cons] at h1
          by_cases h9 : c = 10
          · exact h9
          exfalso; revert h1; simp [h9]; split <;> omega
        rw [this] at hc2; exact absurd hc2 (by decide)
      simp only [List.length_drop, List.length_cons]; omega
    rename_i hc2
    right
    refine ⟨fun h => hc (.inl h), fun h => hc (.inr h), hc2⟩
theorem findN_hit {q : Bytes → Bool} : ∀ (l : List Bytes) (i : Nat), (∃ x, x ∈ l ∧ q x = true) → ∃ j, findN q i l = ((i + j : Nat) : Int) ∧ j < l.length ∧ q (l.getD j []) = true
  | [], i, ⟨x, h, _⟩ => by cases h
  | y :: l, i, ⟨x, h, hq⟩ => by
    by_cases hy : q y = true
    · exact ⟨0, by simp [findN, hy], by simp, by simpa using hy⟩
    rcases List.mem_cons.1 h with rfl | h
    · exact absurd hq hy
    obtain ⟨j, h1, h2, h3⟩ := findN_hit l (i + 1) ⟨x, h, hq⟩;exact ⟨j + 1, by simp only [findN, if_neg hy, h1]; congr 1; omega, by simp; omega, by simpa using h3⟩
theorem op_hit {r : Bytes} (h : metaB (byte r 0) = true) (h10 : byte r 0 ≠ 10) (h32 : byte r 0 ≠ 32) (h9 : byte r 0 ≠ 9) (hr : r ≠ []) :
    ∃ j, findN (preO r) 0 opsT = ((j : Nat) : Int) ∧ j < opsT.length ∧ opT r = opsT.getD j [] ∧ Lib.hasPrefix r (opT r) = true ∧ 1 ≤ (opT r).length ∧ (opT r).length ≤ r.length := by
  obtain ⟨c, t, rfl⟩ : ∃ c t, r = c :: t := by cases r with | nil => exact absurd rfl hr | cons c t => exact ⟨c, t, rfl⟩
  have hb : byte (c :: t) 0 = c := rfl;rw [hb] at h h10 h32 h9;have hm : c ∈ metas := idx_mem.1 (by simpa [metaB] using h)
  have hx : ∃ x, x ∈ opsT ∧ preO (c :: t) x = true := by
    refine ⟨[c], ?_, by simp [preO, Lib.hasPrefix]⟩
    simp only [metas, List.mem_cons, List.mem_nil_iff, or_false] at hm
    rcases hm with rfl | rfl | rfl | rfl | rfl | rfl | rfl | rfl | rfl | rfl <;> first | exact absurd rfl h10 | exact absurd rfl h32 | exact absurd rfl h9 | (simp [opsT])
  obtain ⟨j, h1, h2, h3⟩ := findN_hit opsT 0 hx;simp only [Nat.zero_add] at h1;have h4 : opT (c :: t) = opsT.getD j [] := by simp only [opT, h1]; rfl
  have h5 : ∀ x, x ∈ opsT → 1 ≤ x.length := by decide
  refine ⟨j, h1, h2, h4, by rw [h4]; exact h3, ?_, by rw [h4]; exact pre_len h3⟩
  rw [h4]; refine h5 _ ?_
  rw [List.getD_eq_getElem?_getD, List.getElem?_eq_getElem h2]; exact List.getElem_mem _
theorem wordL_le : ∀ (k : Nat) (r : Bytes), (wordL k r).1 ≤ r.length
  | 0, r => by simp [wordL]
  | k + 1, [] => by simp [wordL]
  | k + 1, c :: t => by
    simp only [wordL]
    split
    · simp
    split
    · simp
    rename_i n hn
    have h1 := skipL_le _ _ _ (by simp) hn
    have h2 := wordL_le k ((c :: t).drop n);simp only [List.length_drop] at h2
    omega
theorem wordL_err : ∀ (k : Nat) (r : Bytes), (wordL k r).2 ≠ 0 → (wordL k r).1 < r.length
  | 0, r, h => by simp [wordL] at h
  | k + 1, [], h => by simp [wordL] at h
  | k + 1, c :: t, h => by
    simp only [wordL] at h ⊢
    split at h
    · simp at h
    rename_i hm
    rw [if_neg hm]
    split at h
    · rename_i e he; simp
    rename_i n hn
    have h1 := skipL_le _ _ _ (by simp) hn
    have h2 := wordL_err k ((c :: t).drop n) h;simp only [List.length_drop] at h2
    show _ + n < _
    omega
theorem wordV_pos {r : Bytes} (hr : r ≠ []) (hm : metaB (byte r 0) = false) (he : (wordV r).2 = 0) : 1 ≤ (wordV r).1 := by
  obtain ⟨c, t, rfl⟩ : ∃ c t, r = c :: t := by cases r with | nil => exact absurd rfl hr | cons c t => exact ⟨c, t, rfl⟩
  have hb : byte (c :: t) 0 = c := rfl;rw [hb] at hm;simp only [wordV, List.length_cons, wordL] at he ⊢;rw [if_neg (by simp [hm])] at he ⊢
  cases hk : skipL 64 (c :: t) with
  | error e =>
    rw [hk] at he
    have : e ≠ 0 := skipL_err _ _ _ hk;exact absurd he this
  | ok n => have := skipL_le _ _ _ (by simp) hk; show 1 ≤ _ + n; omega
open Go Go.Proofs Go.RowKit
theorem Skip_at_ok {n : Nat} (s : Bytes) (j : Nat) (w : World) (hs : s.length < 4294967281) (hj : j < s.length) (h : skipA 64 s j = .ok n) : CallR Tryz.prog 51 #[S s, .int .i64 (j : Int)] w fun v w' => v = .tuple ⟨[.int .i64 (n : Int), .int .i64 0]⟩ ∧ Chg [] w w' :=
  CallR.imp (Skip_spec s j w hs) fun v w' ⟨h1, h2⟩ => ⟨by rw [h1, skipV_ok hj h], h2⟩
theorem Skip_at_err {e : Nat} (s : Bytes) (j : Nat) (w : World) (hs : s.length < 4294967281) (hj : j < s.length) (h : skipA 64 s j = .error e) : CallR Tryz.prog 51 #[S s, .int .i64 (j : Int)] w fun v w' => v = .tuple ⟨[.int .i64 (j : Int), .int .i64 (e : Int)]⟩ ∧ Chg [] w w' :=
  CallR.imp (Skip_spec s j w hs) fun v w' ⟨h1, h2⟩ => ⟨by rw [h1, skipV_err hj h], h2⟩
theorem skipA_cases (s : Bytes) (j : Nat) (hj : j < s.length) : (∃ n, skipA 64 s j = .ok n ∧ j < n ∧ n ≤ s.length) ∨ ∃ e, skipA 64 s j = .error e ∧ e ≠ 0 := by
  cases h : skipA 64 s j with
  | ok n => exact .inl ⟨n, rfl, skipA_le hj h⟩
  | error e => exact .inr ⟨e, rfl, skipL_err _ _ _ (except_map_err h)⟩
theorem wordL_meta {k : Nat} {s : Bytes} {j : Nat} (hj : j < s.length) (h : metaB (byte s j) = true) : wordL (k + 1) (s.drop j) = (0, 0) := by
  rw [dropB hj, wordL, if_pos h]
theorem wordL_end {k : Nat} {s : Bytes} {j : Nat} (hj : s.length ≤ j) : wordL k (s.drop j) = (0, 0) := by
  rw [List.drop_eq_nil_of_le hj]; cases k <;> rfl
theorem wordL_ok {k : Nat} {s : Bytes} {j n : Nat} (hj : j < s.length) (h : metaB (byte s j) = false) (hn : skipA 64 s j = .ok n) : wordL (k + 1) (s.drop j) = ((wordL k (s.drop n)).1 + (n - j), (wordL k (s.drop n)).2) := by
  obtain ⟨i, h1, rfl⟩ := map_ok hn;rw [dropB hj] at h1;rw [dropB hj, wordL, if_neg (by rw [h]; simp), h1]
  simp only []
  rw [← dropB hj, List.drop_drop, Nat.add_comm j i, Nat.add_sub_cancel]
theorem wordL_er {k : Nat} {s : Bytes} {j e : Nat} (hj : j < s.length) (h : metaB (byte s j) = false) (he : skipA 64 s j = .error e) : wordL (k + 1) (s.drop j) = (0, e) := by
  have h1 := except_map_err he;rw [dropB hj] at h1;rw [dropB hj, wordL, if_neg (by rw [h]; simp), h1]
theorem op_at {r : Bytes} (h : metaB (byte r 0) = true) (h10 : byte r 0 ≠ 10) (h32 : byte r 0 ≠ 32) (h9 : byte r 0 ≠ 9) (hr : r ≠ []) :
    ∃ j : Nat, findN (preO r) 0 opsT = (j : Int) ∧ j < opsT.length ∧ opsT[j]? = some (opT r) ∧ (opT r).length ≤ r.length := by
  obtain ⟨j, h1, h2, h3, h4, h5, h6⟩ := op_hit h h10 h32 h9 hr;exact ⟨j, h1, h2, by rw [h3, List.getD_eq_getElem?_getD, List.getElem?_eq_getElem h2]; rfl, h6⟩
theorem nextT_nil {r : Bytes} (i : Int) (h : r = []) : nextT r i = (⟨0, [], i, [], false⟩, 0, 0) := by unfold nextT; rw [if_pos h]
theorem nextT_line {r : Bytes} (i : Int) (hr : r ≠ []) (h : byte r 0 = 10) : nextT r i = (⟨3, [10], i, [], false⟩, 1, 0) := by unfold nextT; rw [if_neg hr, if_pos h]
theorem nextT_op {r : Bytes} (i : Int) (hr : r ≠ []) (h : byte r 0 ≠ 10) (hm : metaB (byte r 0) = true) : nextT r i = (⟨2, opT r, i, [], false⟩, (opT r).length, 0) := by unfold nextT; rw [if_neg hr, if_neg h, if_pos hm]
theorem nextT_bad {r : Bytes} (i : Int) {n e : Nat} (hr : r ≠ []) (h : byte r 0 ≠ 10) (hm : metaB (byte r 0) = false) (hw : wordV r = (n, e)) (he : e ≠ 0) : nextT r i = ((⟨0, [], i + n, [], false⟩ : Tok), 0, (e : Int)) := by unfold nextT; rw [if_neg hr, if_neg h, if_neg (by rw [hm]; simp), hw, if_pos (by simpa using he)]
theorem nextT_word {r : Bytes} (i : Int) {n : Nat} {kd : Int} (hr : r ≠ []) (h : byte r 0 ≠ 10) (hm : metaB (byte r 0) = false) (hw : wordV r = (n, 0)) (hk : (if n = 1 ∧ digB (byte r 0) = true ∧ (byte r 1 = 60 ∨ byte r 1 = 62) ∧ 1 < r.length then (4 : Int) else 1) = kd) : nextT r i = (⟨kd, r.take n, i, [], false⟩, n, 0) := by
  unfold nextT; rw [if_neg hr, if_neg h, if_neg (by rw [hm]; simp), hw, if_neg (by simp)]
  simp only [hk]
theorem tnext_spec (s : Bytes) (i : Nat) (w : World) (hs : s.length < 4294967281) (hi : i ≤ s.length) (hb : s.drop i ≠ [] → byte (s.drop i) 0 ≠ 32 ∧ byte (s.drop i) 0 ≠ 9) (ht : Tab w) : CallR Tryz.prog 35 #[S s, .int .i64 (i : Int)] w fun v w' => ∃ z : Int, v = .tuple ⟨[.agg ⟨[.int .i64 (nextT (s.drop i) i).1.kind, S (nextT (s.drop i) i).1.text, .int .i64 (nextT (s.drop i) i).1.at_, S (nextT (s.drop i) i).1.here, .bool (nextT (s.drop i) i).1.raw]⟩, .int .i64 z, .int .i64 (nextT (s.drop i) i).2.2]⟩ ∧ ((nextT (s.drop i) i).2.2 = 0 → z = ((i + (nextT (s.drop i) i).2.1 : Nat) : Int)) ∧ Chg [] w w' := by
 refine callR_of_wp (args := [_, _]) Tryz.func35 rfl (Nat.le_of_ble_eq_true rfl) ?_;have HC : Chg [] w w := .refl _;have ht1 := ht.lt;refine sr rfl <| Wp rfl <| st_alloc T.zero51 ?_;intro bq4 w1 e2 c3 hb4;have ge_bq4 := gB e2 HC.size;replace HC := HC.then c3;replace ht := ht.tr0 c3;clear e2;refine aI rfl <| aI rfl <| en <| sr rfl <| mI rfl <| Wp rfl <| st_bld (ps := [(2, .tmp 13)]) (vs := [.int _ _, S _, .int _ _, S _, .bool _]) T.bld51 rfl <| Wp rfl <| st_alloc T.zero51 ?_;intro bq7 w5 e6 c7 hb8;have ge_bq7 := gB e6 HC.size;have ne_bq4_bq7 := nF e6 hb4.ne_size;replace HC := HC.then c7;replace ht := ht.tr0 c7;replace hb4 := hb4.tr0 c7;clear e6;refine Wp rfl <| st_st (v := .agg ⟨[_, _, _, _, _]⟩) T.size51 rfl rfl rfl hb8 ?_;intro w9 c10 hb11; simp only [setVs, setV] at hb11;clear hb8;replace HC := HC.then1 c10 ge_bq7;replace ht := ht.tr c10 q1;replace hb4 := hb4.tr1 c10 ne_bq4_bq7;refine en <| sr rfl <| mS rfl <| mI rfl <| Wp rfl <| st_sslo (i := i) T.u9 rfl ⟨_, rfl⟩ q0 <| Wp rfl <| st_alloc T.zero9 ?_;intro bq8 w12 e13 c14 hb15;have ge_bq8 := gB e13 HC.size;have ne_bq4_bq8 := nF e13 hb4.ne_size;have ne_bq7_bq8 := nF e13 hb11.ne_size;replace HC := HC.then c14;replace ht := ht.tr0 c14;replace hb4 := hb4.tr0 c14;replace hb11 := hb11.tr0 c14;clear e13;refine Wp rfl <| st_st (v := S _) T.size9 rfl rfl rfl hb15 ?_;intro w16 c17 hb18; simp only [setVs, setV] at hb18;clear hb15;replace HC := HC.then1 c17 ge_bq8;replace ht := ht.tr c17 q1;replace hb4 := hb4.tr1 c17 ne_bq4_bq8;replace hb11 := hb11.tr1 c17 ne_bq7_bq8;refine en <| x_seq <| x_block <| sr rfl <| lS T.one9 rfl (hb18.cell rfl) <| Wp rfl <| st_seql rfl rfl <| aB rfl <| en <| x_cond rfl (fun h0 => ?_) (fun h0 => ?_)
 ·try simp only [nm, ne_eq] at h0
  refine sr rfl <| Wp rfl <| st_loadA (vs := [_, _, _, _, _]) T.agg51 rfl (hb11.cells (n := 5) (vs := [_, _, _, _, _]) rfl) rfl <| mI rfl <| Wp rfl <| st_st (v := .agg ⟨[_, _, _, _, _]⟩) T.size51 rfl rfl rfl hb4 ?_;intro w19 c20 hb21; simp only [setVs, setV] at hb21;clear hb4;replace HC := HC.then1 c20 ge_bq4;refine aI rfl <| aI rfl <| en <| x_ret <| block_r <| then_r <| ret_many (vs := [.agg ⟨[_, _, _, _, _]⟩, .int _ _, .int _ _]) rfl ⟨⟨_, _, rfl, run_loadVarA T.agg51 (hb21.cells (n := 5) rfl) rfl⟩, ⟨rfl, ⟨rfl, trivial⟩⟩⟩ (Nat.le_of_ble_eq_true rfl) ?_;have hq9 := nextT_nil (i : Int) h0;rw [hq9];exact ⟨_, rfl, (fun _ => rfl), HC⟩
 try simp only [nm, ne_eq] at h0
 have hil : i < s.length := by rcases Nat.lt_or_ge i s.length with h | h; exact h; exact absurd (List.drop_eq_nil_of_le h) h0
 have hbb := hb h0;refine sr rfl <| lS T.one9 rfl (hb18.cell rfl) <| Wp rfl <| st_sidx T.u9 rfl rfl (by decide) (by (simp only [List.length_drop]; omega)) <| Wp rfl <| st_eql rfl rfl <| aB rfl <| en <| x_cond rfl (fun h1 => ?_) (fun h1 => ?_)
 ·try simp only [nm, ne_eq] at h1
  refine sr rfl <| fa T.fld51_0 rfl <| Wp rfl <| st_st (v := .int _ _) T.size3 rfl rfl rfl hb11 ?_;intro w22 c23 hb24; simp only [setVs, setV] at hb24;clear hb11;replace HC := HC.then1 c23 ge_bq7;replace hb4 := hb4.tr1 c23 ne_bq4_bq7;refine fa T.fld51_1 rfl <| Wp rfl <| st_st (v := S _) T.size9 rfl rfl rfl hb24 ?_;intro w25 c26 hb27; simp only [setVs, setV] at hb27;clear hb24;replace HC := HC.then1 c26 ge_bq7;replace hb4 := hb4.tr1 c26 ne_bq4_bq7;refine en <| sr rfl <| Wp rfl <| st_loadA (vs := [_, _, _, _, _]) T.agg51 rfl (hb27.cells (n := 5) (vs := [_, _, _, _, _]) rfl) rfl <| mI rfl <| Wp rfl <| st_addn rfl rfl (by constructor <;> omega) <| Wp rfl <| st_st (v := .agg ⟨[_, _, _, _, _]⟩) T.size51 rfl rfl rfl hb4 ?_
  intro w28 c29 hb30; simp only [setVs, setV] at hb30;clear hb4;replace HC := HC.then1 c29 ge_bq4;refine aI rfl <| aI rfl <| en <| x_ret <| block_r <| then_r <| ret_many (vs := [.agg ⟨[_, _, _, _, _]⟩, .int _ _, .int _ _]) rfl ⟨⟨_, _, rfl, run_loadVarA T.agg51 (hb30.cells (n := 5) rfl) rfl⟩, ⟨rfl, ⟨rfl, trivial⟩⟩⟩ (Nat.le_of_ble_eq_true rfl) ?_;have hq9 := nextT_line (i : Int) h0 (u8_eq h1 rfl);rw [hq9];exact ⟨_, rfl, (fun _ => rfl), HC⟩
 try simp only [nm, ne_eq] at h1
 have hn10 : byte (s.drop i) 0 ≠ 10 := fun e => h1 (by rw [e]; rfl)
 refine sr rfl <| lS T.one9 rfl (hb18.cell rfl) <| Wp rfl <| st_sidx T.u9 rfl rfl (by decide) (by (simp only [List.length_drop]; omega)) <| Wp rfl <| st_call (ags := [_]) rfl rfl T.ent47 rfl (meta_spec (byte (s.drop i) 0) _) ?_
 rintro _ w31 ⟨rfl, c32⟩;replace HC := HC.then c32;replace ht := ht.tr0 c32;replace hb4 := hb4.tr0 c32;replace hb11 := hb11.tr0 c32;replace hb18 := hb18.tr0 c32;refine aB rfl <| en <| x_cond rfl (fun h2 => ?_) (fun h2 => ?_)
 ·try simp only [nm, ne_eq] at h2
  obtain ⟨j, hje, hjl, hjx, hol⟩ := op_at h2 hn10 hbb.1 hbb.2 h0;simp only [List.length_drop] at hol;refine sr rfl <| Wp rfl <| st_call (ags := []) rfl rfl T.ent48 rfl (operators_spec _ ht) ?_;rintro _ w33 ⟨bf, rfl, hgf, hsf, c34⟩;have ge_bf : w.heap.size ≤ bf := Nat.le_trans HC.size hgf;have ne_bq4_bf : bq4 ≠ bf := Nat.ne_of_lt (Nat.lt_of_lt_of_le hb4.lt hgf);have ne_bq7_bf : bq7 ≠ bf := Nat.ne_of_lt (Nat.lt_of_lt_of_le hb11.lt hgf);have ne_bq8_bf : bq8 ≠ bf := Nat.ne_of_lt (Nat.lt_of_lt_of_le hb18.lt hgf);replace HC := HC.then c34;replace hb4 := hb4.tr0 c34;replace hb11 := hb11.tr0 c34;replace hb18 := hb18.tr0 c34;refine aL rfl <| en <| x_seq ?_;obtain ⟨lb39, _, vs38, hA35, hR37, hC36⟩ := hsf.at (i := j) (x := (opT (s.drop i))) (hjx);obtain rfl : vs38 = [S (opT (s.drop i))] := hR37;refine x_draw [(0, 0), (1, 0), (2, 0), (6, 0), (3, 1), (4, 0), (5, 0), (7, 1), (8, 0), (9, 2)] T.mixed rfl rfl rfl (fun W => W.heap[bq4]? = w33.heap[bq4]? ∧ W.heap[bq8]? = w33.heap[bq8]? ∧ W.heap[lb39]? = w33.heap[lb39]? ∧ True) ⟨rfl, rfl, rfl, trivial⟩ ?_
  have o42 := hb4;have o43 := hb18;have c41 := Chg.drew w33;generalize World.drew w33 = w40 at c41 ⊢;have ht_lb39 : lb39 < w40.heap.size ∧ w40.heap[lb39]? = w33.heap[lb39]? := ⟨Nat.lt_of_lt_of_le hC36.lt c41.size, c41.block lb39 hC36.lt (by simp)⟩
  replace HC := HC.then c41;replace hb4 := hb4.tr0 c41;replace hb11 := hb11.tr0 c41;replace hb18 := hb18.tr0 c41;replace hsf := hsf.tr0 c41;refine sq_q rfl (fun W hT => r_move (v := .slice _ _ _) rfl) <| sq_q rfl (fun W hT => r_move (v := .slice _ _ _) rfl) <| sq_q rfl (fun W hT => r_makeFunc) <| sq_q rfl (fun W hT => r_fieldAddr T.fld51_0 rfl) <| sq_call1 rfl (r_call (ags := [_, _]) rfl rfl T.ent49 rfl) (IndexFunc_spec (q := preO (s.drop i)) hsf (by decide) T.ent50 (fun c W hc => tnext1_spec c (hb18.tr0 hc))) ?_
  rintro _ w44 ⟨rfl, c45⟩;replace HC := HC.then c45;replace hb4 := hb4.tr0 c45;replace hb11 := hb11.tr0 c45;replace hb18 := hb18.tr0 c45;replace ht_lb39 := And.intro (Nat.lt_of_lt_of_le ht_lb39.1 c45.size) ((c45.block lb39 ht_lb39.1 (by simp)).trans ht_lb39.2)
  refine ⟨_, fun _ h => h, ⟨(Eq.trans hb4 o42.symm), (Eq.trans hb18 o43.symm), (by first | assumption | exact ht_lb39.2), trivial⟩, ?_⟩
  rw [hje]
  refine sq_q rfl (fun W hT => r_indexAddr T.u23 T.size9 (congrArg (fun z => Value.slice z _ _) hA35) rfl q0 q0) <| sq_q rfl (fun W hT => r_load1 (v := S _) T.one9 rfl (Cells.at (j := 0) (Cells.tr hC36 hT.2.2.1) rfl)) <| sq_store1 rfl T.size3 (v := .int _ _) rfl rfl rfl hb11 rfl (Nat.le_of_ble_eq_true rfl) q5 rfl ?_
  intro w46 c47 hb48; simp only [setVs, setV] at hb48;clear hb11;replace HC := HC.then1 c47 ge_bq7;replace hb4 := hb4.tr1 c47 ne_bq4_bq7;replace hb18 := hb18.tr1 c47 (Ne.symm ne_bq7_bq8);replace ht_lb39 := And.intro (Nat.lt_of_lt_of_le ht_lb39.1 c47.size) ((c47.block lb39 ht_lb39.1 (by intro hx; have hD := hA35; simp only [List.mem_cons, List.mem_nil_iff, or_false, Option.some.injEq, Addr.mk.injEq] at hx hD; omega)).trans ht_lb39.2)
  refine ⟨_, fun _ h => h, ⟨(Eq.trans hb4 o42.symm), (Eq.trans hb18 o43.symm), (by first | assumption | exact ht_lb39.2), trivial⟩, ?_⟩
  refine sq_q rfl (fun W hT => r_fieldAddr T.fld51_1 rfl) <| sq_store2 rfl T.size9 (v := S _) rfl rfl rfl hb48 rfl (Nat.le_of_ble_eq_true rfl) q5 rfl ?_
  intro w49 c50 hb51; simp only [setVs, setV] at hb51;clear hb48;replace HC := HC.then1 c50 ge_bq7;replace hb4 := hb4.tr1 c50 ne_bq4_bq7;replace hb18 := hb18.tr1 c50 (Ne.symm ne_bq7_bq8);replace ht_lb39 := And.intro (Nat.lt_of_lt_of_le ht_lb39.1 c50.size) ((c50.block lb39 ht_lb39.1 (by intro hx; have hD := hA35; simp only [List.mem_cons, List.mem_nil_iff, or_false, Option.some.injEq, Addr.mk.injEq] at hx hD; omega)).trans ht_lb39.2)
  clear o42;clear o43;refine sq_nil <| then_n <| x_seq <| x_draw [(0, 0), (1, 0), (2, 0), (3, 0), (4, 0), (5, 0), (6, 1), (7, 0), (8, 0)] T.mixed rfl rfl rfl (fun W => W.heap[bq8]? = w49.heap[bq8]? ∧ W.heap[bq7]? = w49.heap[bq7]? ∧ True) ⟨rfl, rfl, trivial⟩ ?_
  have o54 := hb18;have o55 := hb51;have c53 := Chg.drew w49;generalize World.drew w49 = w52 at c53 ⊢;replace HC := HC.then c53;replace hb4 := hb4.tr0 c53;replace hb18 := hb18.tr0 c53;replace hb51 := hb51.tr0 c53;refine sq_q rfl (fun W hT => r_loadA (vs := [_, _, _, _, _]) T.agg51 rfl (Blk.cells (n := 5) (vs := [_, _, _, _, _]) (show Blk W bq7 _ _ from hT.2.1.trans o55) rfl) rfl) <| sq_q rfl (fun W hT => r_move (v := .int _ _) rfl) <| sq_q rfl (fun W hT => r_fieldAddr T.fld51_1 rfl) <| sq_q rfl (fun W hT => r_load1 (v := S _) T.one9 rfl (Blk.cell (show Blk W bq7 _ _ from hT.2.1.trans o55) rfl)) <| sq_q rfl (fun W hT => r_slen (ct := #[9]) T.u9 rfl) <| sq_q rfl (fun W hT => r_addn rfl rfl (by constructor <;> omega)) <| sq_store1 rfl T.size51 (v := .agg ⟨[.int _ _, S _, .int _ _, S _, .bool _]⟩) rfl rfl rfl hb4 rfl (Nat.le_of_ble_eq_true rfl) q5 rfl ?_
  intro w56 c57 hb58; simp only [setVs, setV] at hb58;clear hb4;replace HC := HC.then1 c57 ge_bq4;replace hb18 := hb18.tr1 c57 (Ne.symm ne_bq4_bq8);replace hb51 := hb51.tr1 c57 (Ne.symm ne_bq4_bq7);refine ⟨_, fun _ h => h, ⟨(Eq.trans hb18 o54.symm), (Eq.trans hb51 o55.symm), trivial⟩, ?_⟩
  refine sq_q rfl (fun W hT => r_assign (v := .int _ _) rfl) <| sq_q rfl (fun W hT => r_assign (v := .int _ _) rfl) ?_
  clear o54;clear o55;refine sq_nil <| then_n <| x_ret <| block_r <| then_r <| ret_many (vs := [.agg ⟨[_, _, _, _, _]⟩, .int _ _, .int _ _]) rfl ⟨⟨_, _, rfl, run_loadVarA T.agg51 (hb58.cells (n := 5) rfl) rfl⟩, ⟨rfl, ⟨rfl, trivial⟩⟩⟩ (Nat.le_of_ble_eq_true rfl) ?_;have hq9 := nextT_op (i : Int) h0 hn10 h2;rw [hq9];exact ⟨_, rfl, (fun _ => rfl), HC⟩
 try simp only [nm, ne_eq] at h2
 have hnm : metaB (byte (s.drop i) 0) = false := by first | assumption | simpa using h2
 refine x_skip <| block_n <| then_n <| sr rfl <| mI rfl <| aI rfl <| en <| x_seq <| x_block <| x_loop (ι := Nat × Nat) [5, 6, 10, 11, 12, 52, 53, 54, 55, 56, 57, 58, 59, 60, 61, 62, 63, 64, 65, 66, 67, 68, 69, 70, 71, 72, 73, 74] (fun ⟨j, k⟩ => [(10, .int .i64 (j : Int))]) (fun ⟨j, k⟩ W => (i ≤ j ∧ j ≤ s.length ∧ s.length - j ≤ k ∧ wordV (s.drop i) = ((wordL k (s.drop j)).1 + (j - i), (wordL k (s.drop j)).2)) ∧ (Chg [] w W) ∧ (Tab W) ∧ (Blk W bq8 [S (s.drop i)] 9) ∧ (Blk W bq7 [.int .i64 0, S [], .int .i64 (i : Int), S [], .bool false] 51) ∧ (Blk W bq4 [.int .i64 0, S [], .int .i64 0, S [], .bool false] 51)) (fun ⟨j, k⟩ => s.length - j) (i, (s.drop i).length) ?_ ?_ ?_
 · exact ⟨rfl, trivial⟩
 ·refine ⟨?_, HC, ht, hb18, hb11, hb4⟩;exact ⟨Nat.le_refl _, hi, by rw [List.length_drop]; exact Nat.le_refl _, by rw [Nat.sub_self]; rfl⟩
 intro ⟨j, k⟩ G60 w59 ⟨⟨hij, hjs, hk, hr⟩, HC, ht, hb18, hb11, hb4⟩
 change wp _ _ _ _ _ (upds (over _ _ G60) [(10, .int .i64 (j : Int))]) _ _
 refine x_seq <| sr rfl <| mI rfl <| mS rfl <| Wp rfl <| st_slen (ct := #[9]) T.u9 rfl <| Wp rfl <| st_lss rfl rfl <| mB rfl <| w_split (d := 56) rfl (fun g61 => ?_) (fun g61 => ?_)
 ·try simp only [nm, ne_eq] at g61
  refine w_yes 4 56 true <| st_move (v := S _) rfl <| w_yes 4 56 true <| st_move (v := .int _ _) rfl <| w_yes 4 56 true <| st_sidx T.u9 rfl rfl q0 q0 <| w_yes 4 56 true <| st_call (ags := [_]) rfl rfl T.ent47 rfl (meta_spec (byte s j) _) ?_;rintro _ w62 ⟨rfl, c63⟩;replace HC := HC.then c63;replace ht := ht.tr0 c63;replace hb18 := hb18.tr0 c63;replace hb11 := hb11.tr0 c63;replace hb4 := hb4.tr0 c63;refine w_yes 4 56 true <| st_not rfl <| pT rfl rfl <| en <| x_cond rfl (fun h3 => ?_) (fun h3 => ?_)
  ·try simp only [nm, ne_eq] at h3
   have hmj : metaB (byte s j) = false := by first | assumption | simp_all
   have hjl : j < s.length := by first | omega | simp_all
   obtain ⟨k, rfl⟩ : ∃ z, k = z + 1 := ⟨k - 1, by omega⟩
   refine x_skip <| then_n <| x_block <| x_seq ?_
   rcases skipA_cases s j hjl with ⟨n, hn, hn1, hn2⟩ | ⟨e, he, he0⟩
   ·refine x_region rfl <| mS rfl <| mI rfl <| Wp rfl <| st_call (ags := [_, _]) rfl rfl T.ent51 rfl (Skip_at_ok s j _ hs hjl hn) ?_;rintro _ w64 ⟨rfl, c65⟩;replace HC := HC.then c65;replace ht := ht.tr0 c65;replace hb18 := hb18.tr0 c65;replace hb11 := hb11.tr0 c65;replace hb4 := hb4.tr0 c65;refine mv (v := .tuple ⟨[_, _]⟩) rfl <| Wp rfl <| st_extract (vs := [_, _]) (v := .int _ _) rfl rfl <| Wp rfl <| st_extract (vs := [_, _]) (v := .int _ _) rfl rfl <| aI rfl <| aI rfl <| en <| x_seq <| sr rfl <| mI rfl <| Wp rfl <| st_neq rfl rfl <| en <| x_cond rfl (fun h4 => ?_) (fun h4 => ?_)
    ·try simp only [nm, ne_eq] at h4
     first | exact absurd rfl h4 | exact absurd trivial h4 | (simp at h4; done)
    try simp only [nm, ne_eq] at h4
    refine x_skip <| then_n <| x_region rfl <| mI rfl <| aI rfl <| wops_nil <| block_n <| then_n <| ⟨(n, k), ?_, ?_, rfl, ⟨rfl, trivial⟩, ?_⟩
    ·refine ⟨?_, HC, ht, hb18, hb11, hb4⟩;exact ⟨by omega, hn2, by omega, by rw [hr, wordL_ok q0 hmj hn]; congr 1; omega⟩
    ·show s.length - n < s.length - j; omega
    exact q9
   refine x_region rfl <| mS rfl <| mI rfl <| Wp rfl <| st_call (ags := [_, _]) rfl rfl T.ent51 rfl (Skip_at_err s j _ hs hjl he) ?_;rintro _ w66 ⟨rfl, c67⟩;replace HC := HC.then c67;replace hb4 := hb4.tr0 c67;refine mv (v := .tuple ⟨[_, _]⟩) rfl <| Wp rfl <| st_extract (vs := [_, _]) (v := .int _ _) rfl rfl <| Wp rfl <| st_extract (vs := [_, _]) (v := .int _ _) rfl rfl <| aI rfl <| aI rfl <| en <| x_seq <| sr rfl <| mI rfl <| Wp rfl <| st_neq rfl rfl <| en <| x_cond rfl (fun h4 => ?_) (fun h4 => ?_)
   ·try simp only [nm, ne_eq] at h4
    have hwv : wordV (s.drop i) = (j - i, e) := by rw [hr, wordL_er q0 hmj he]; simp
    refine sr rfl <| mI rfl <| Wp rfl <| st_bld (ps := [(2, .tmp 71)]) (vs := [.int _ _, S _, .int _ _, S _, .bool _]) T.bld51 rfl <| mI rfl <| Wp rfl <| st_st (v := .agg ⟨[_, _, _, _, _]⟩) T.size51 rfl rfl rfl hb4 ?_;intro w68 c69 hb70; simp only [setVs, setV] at hb70;clear hb4;replace HC := HC.then1 c69 ge_bq4;refine aI rfl <| aI rfl <| en <| x_ret <| then_r <| block_r <| then_r <| block_r <| then_r <| ret_many (vs := [.agg ⟨[_, _, _, _, _]⟩, .int _ _, .int _ _]) rfl ⟨⟨_, _, rfl, run_loadVarA T.agg51 (hb70.cells (n := 5) rfl) rfl⟩, ⟨rfl, ⟨rfl, trivial⟩⟩⟩ (Nat.le_of_ble_eq_true rfl) ?_;have hq9 := nextT_bad (i : Int) h0 hn10 hnm hwv he0;rw [← show (i : Int) + ((j - i : Nat) : Int) = (j : Int) by omega]
    rw [hq9]
    exact ⟨_, rfl, (fun h => absurd h (by simpa using he0)), HC⟩
   try simp only [nm, ne_eq] at h4
   exfalso; first | omega | simp_all
  try simp only [nm, ne_eq] at h3
  have hwv : wordV (s.drop i) = (j - i, 0) := by first | (rw [hr, wordL_end q0]; simp; done) | (obtain ⟨k, rfl⟩ : ∃ z, k = z + 1 := ⟨k - 1, by omega⟩; rw [hr, wordL_meta q0 (by first | assumption | simp_all)]; simp)
  refine x_exit <| then_x <| then_x <| block_x <| then_n <| x_seq <| x_draw [(0, 0), (1, 0), (2, 0), (3, 0), (4, 0), (5, 1), (6, 0), (7, 2)] T.mixed rfl rfl rfl (fun W => W.heap[bq8]? = w62.heap[bq8]? ∧ W.heap[bq4]? = w62.heap[bq4]? ∧ True) ⟨rfl, rfl, trivial⟩ ?_
  have o73 := hb18;have o74 := hb4;have c72 := Chg.drew w62;generalize World.drew w62 = w71 at c72 ⊢;replace HC := HC.then c72;replace hb18 := hb18.tr0 c72;replace hb11 := hb11.tr0 c72;replace hb4 := hb4.tr0 c72;refine sq_q rfl (fun W hT => r_move (v := S _) rfl) <| sq_q rfl (fun W hT => r_move (v := .int _ _) rfl) <| sq_q rfl (fun W hT => r_move (v := .int _ _) rfl) <| sq_q rfl (fun W hT => r_sslice (i := i) (j := j) T.u9 rfl ⟨_, rfl⟩ ⟨_, rfl⟩ q0 q0) <| sq_q rfl (fun W hT => r_fieldAddr T.fld51_0 rfl) <| sq_store1 rfl T.size3 (v := .int _ _) rfl rfl rfl hb11 rfl (Nat.le_of_ble_eq_true rfl) q5 rfl ?_
  intro w75 c76 hb77; simp only [setVs, setV] at hb77;clear hb11;replace HC := HC.then1 c76 ge_bq7;replace hb18 := hb18.tr1 c76 (Ne.symm ne_bq7_bq8);replace hb4 := hb4.tr1 c76 ne_bq4_bq7;refine ⟨_, fun _ h => h, ⟨(Eq.trans hb18 o73.symm), (Eq.trans hb4 o74.symm), trivial⟩, ?_⟩
  refine sq_q rfl (fun W hT => r_fieldAddr T.fld51_1 rfl) <| sq_store2 rfl T.size9 (v := S _) rfl rfl rfl hb77 rfl (Nat.le_of_ble_eq_true rfl) q5 rfl ?_
  intro w78 c79 hb80; simp only [setVs, setV] at hb80;clear hb77;replace HC := HC.then1 c79 ge_bq7;replace hb4 := hb4.tr1 c79 ne_bq4_bq7;clear o73;clear o74;refine sq_nil <| then_n <| x_seq <| x_seq ?_;have hwp := wordV_pos h0 hnm (by rw [hwv])
  rw [hwv] at hwp
  replace hwp : 1 ≤ j - i := hwp;have htl : ((s.take j).drop i).length = j - i := by simp only [List.length_drop, List.length_take]; omega
  have hb0 : byte ((s.take j).drop i) 0 = byte (s.drop i) 0 := by rw [byte_dropk, byte_dropk]; simp only [byte, List.getD_eq_getElem?_getD, List.getElem?_take]; rw [if_pos q0]
  have hb1 : byte (s.drop i) 1 = byte s (i + 1) := byte_dropk s i 1;have hdl : (s.drop i).length = s.length - i := List.length_drop
  skip
  refine x_region rfl <| fa T.fld51_1 rfl <| lS T.one9 rfl (hb80.cell rfl) <| Wp rfl <| st_slen (ct := #[9]) T.u9 rfl <| Wp rfl <| st_eql rfl rfl <| mB rfl <| w_split (d := 85) rfl (fun g81 => ?_) (fun g81 => ?_)
  ·try simp only [nm, ne_eq] at g81
   refine w_yes 4 85 true <| st_fieldAddr T.fld51_1 rfl <| w_yes 4 85 true <| st_load1 (v := S _) T.one9 rfl (hb80.cell rfl) <| w_yes 4 85 true <| st_sidx T.u9 rfl rfl (by decide) q0 <| w_yes 4 85 true <| st_call (ags := [_]) rfl rfl T.ent52 rfl (c_digit (byte ((s.take j).drop i) 0) _) ?_
   rintro _ w82 ⟨rfl, c83⟩;replace HC := HC.then c83;replace hb4 := hb4.tr0 c83;replace hb80 := hb80.tr0 c83;refine pT rfl rfl <| mB rfl <| w_split (d := 91) rfl (fun g84 => ?_) (fun g84 => ?_)
   ·try simp only [nm, ne_eq] at g84
    refine w_yes 10 91 true <| st_move (v := .int _ _) rfl <| w_yes 10 91 true <| st_move (v := S _) rfl <| w_yes 10 91 true <| st_slen (ct := #[9]) T.u9 rfl <| w_yes 10 91 true <| st_lss rfl rfl <| pT rfl rfl <| mB rfl <| w_split (d := 97) rfl (fun g85 => ?_) (fun g85 => ?_)
    ·try simp only [nm, ne_eq] at g85
     refine w_yes 16 97 true <| st_move (v := S _) rfl <| w_yes 16 97 true <| st_move (v := .int _ _) rfl <| w_yes 16 97 true <| st_sidx T.u9 rfl rfl q0 q0 <| w_yes 16 97 true <| st_eql rfl rfl <| w_yes 16 97 true <| st_move (v := .bool _) rfl <| w_split (d := 102) rfl (fun g86 => ?_) (fun g86 => ?_)
     ·try simp only [nm, ne_eq] at g86
      iterate 4 refine w_no 21 102 false ?_
      refine w_yes 16 97 true <| st_pick (b := true) (v := .bool _) rfl rfl <| pT rfl rfl <| en <| x_cond (t := true) rfl (fun h5 => ?_) (fun h5 => ?_)
      rotate_left
      · exact absurd h5 (by decide)
      have hji : j = i + 1 := by first | omega | simp_all
      have hio : (if j - i = 1 ∧ digB (byte (s.drop i) 0) = true ∧ (byte (s.drop i) 1 = 60 ∨ byte (s.drop i) 1 = 62) ∧ 1 < (s.drop i).length then (4 : Int) else 1) = 4 := if_pos ⟨by omega, by rw [← hb0]; first | assumption | simp_all, by rw [hb1, ← hji]; first | (left; exact u8_eq (by assumption) rfl) | (right; exact u8_eq (by assumption) rfl), by rw [hdl]; first | omega | simp_all⟩
      refine x_region rfl <| fa T.fld51_0 rfl <| Wp rfl <| st_st (v := .int _ _) T.size3 rfl rfl rfl hb80 ?_;intro w87 c88 hb89; simp only [setVs, setV] at hb89;clear hb80;replace HC := HC.then1 c88 ge_bq7;replace hb4 := hb4.tr1 c88 ne_bq4_bq7;refine en <| sr rfl <| Wp rfl <| st_loadA (vs := [_, _, _, _, _]) T.agg51 rfl (hb89.cells (n := 5) (vs := [_, _, _, _, _]) rfl) rfl <| mI rfl <| Wp rfl <| st_st (v := .agg ⟨[_, _, _, _, _]⟩) T.size51 rfl rfl rfl hb4 ?_;intro w90 c91 hb92; simp only [setVs, setV] at hb92;clear hb4;replace HC := HC.then1 c91 ge_bq4;refine aI rfl <| aI rfl <| en <| x_ret <| ret_many (vs := [.agg ⟨[_, _, _, _, _]⟩, .int _ _, .int _ _]) rfl ⟨⟨_, _, rfl, run_loadVarA T.agg51 (hb92.cells (n := 5) rfl) rfl⟩, ⟨rfl, ⟨rfl, trivial⟩⟩⟩ (Nat.le_of_ble_eq_true rfl) ?_;have hq9 := nextT_word (i : Int) h0 hn10 hnm hwv hio;rw [show ((s.take j).drop i) = (s.drop i).take (j - i) by rw [List.drop_take]]
      rw [hq9]
      exact ⟨_, rfl, (fun _ => by show (j : Int) = ((i + (j - i) : Nat) : Int); omega), HC⟩
     try simp only [nm, ne_eq] at g86
     refine w_yes 21 102 false <| st_move (v := S _) rfl <| w_yes 21 102 false <| st_move (v := .int _ _) rfl <| w_yes 21 102 false <| st_sidx T.u9 rfl rfl q0 q0 <| w_yes 21 102 false <| st_eql rfl rfl <| w_yes 16 97 true <| st_pick (b := false) (v := .bool _) rfl rfl <| pT rfl rfl <| en <| x_cond rfl (fun h5 => ?_) (fun h5 => ?_)
     ·try simp only [nm, ne_eq] at h5
      have hji : j = i + 1 := by first | omega | simp_all
      have hio : (if j - i = 1 ∧ digB (byte (s.drop i) 0) = true ∧ (byte (s.drop i) 1 = 60 ∨ byte (s.drop i) 1 = 62) ∧ 1 < (s.drop i).length then (4 : Int) else 1) = 4 := if_pos ⟨by omega, by rw [← hb0]; first | assumption | simp_all, by rw [hb1, ← hji]; first | (left; exact u8_eq (by assumption) rfl) | (right; exact u8_eq (by assumption) rfl), by rw [hdl]; first | omega | simp_all⟩
      refine x_region rfl <| fa T.fld51_0 rfl <| Wp rfl <| st_st (v := .int _ _) T.size3 rfl rfl rfl hb80 ?_;intro w93 c94 hb95; simp only [setVs, setV] at hb95;clear hb80;replace HC := HC.then1 c94 ge_bq7;replace hb4 := hb4.tr1 c94 ne_bq4_bq7;refine en <| sr rfl <| Wp rfl <| st_loadA (vs := [_, _, _, _, _]) T.agg51 rfl (hb95.cells (n := 5) (vs := [_, _, _, _, _]) rfl) rfl <| mI rfl <| Wp rfl <| st_st (v := .agg ⟨[_, _, _, _, _]⟩) T.size51 rfl rfl rfl hb4 ?_;intro w96 c97 hb98; simp only [setVs, setV] at hb98;clear hb4;replace HC := HC.then1 c97 ge_bq4;refine aI rfl <| aI rfl <| en <| x_ret <| ret_many (vs := [.agg ⟨[_, _, _, _, _]⟩, .int _ _, .int _ _]) rfl ⟨⟨_, _, rfl, run_loadVarA T.agg51 (hb98.cells (n := 5) rfl) rfl⟩, ⟨rfl, ⟨rfl, trivial⟩⟩⟩ (Nat.le_of_ble_eq_true rfl) ?_;have hq9 := nextT_word (i : Int) h0 hn10 hnm hwv hio;rw [show ((s.take j).drop i) = (s.drop i).take (j - i) by rw [List.drop_take]]
      rw [hq9]
      exact ⟨_, rfl, (fun _ => by show (j : Int) = ((i + (j - i) : Nat) : Int); omega), HC⟩
     try simp only [nm, ne_eq] at h5
     have hio : (if j - i = 1 ∧ digB (byte (s.drop i) 0) = true ∧ (byte (s.drop i) 1 = 60 ∨ byte (s.drop i) 1 = 62) ∧ 1 < (s.drop i).length then (4 : Int) else 1) = 1 := if_neg (by rintro ⟨q1, q2, q3, q4⟩; rw [hdl] at q4; rw [← hb0] at q2; rw [hb1, show i + 1 = j by omega] at q3; first | omega | (rw [q2] at *; simp_all; done) | (rcases q3 with q3 | q3 <;> first | (have q5 : ((byte s j).toNat : Int) = 60 := (by rw [q3]; rfl); omega) | (have q5 : ((byte s j).toNat : Int) = 62 := (by rw [q3]; rfl); omega) | simp_all))
     refine x_skip <| then_n <| sr rfl <| Wp rfl <| st_loadA (vs := [_, _, _, _, _]) T.agg51 rfl (hb80.cells (n := 5) (vs := [_, _, _, _, _]) rfl) rfl <| mI rfl <| Wp rfl <| st_st (v := .agg ⟨[_, _, _, _, _]⟩) T.size51 rfl rfl rfl hb4 ?_;intro w99 c100 hb101; simp only [setVs, setV] at hb101;clear hb4;replace HC := HC.then1 c100 ge_bq4;refine aI rfl <| aI rfl <| en <| x_ret <| ret_many (vs := [.agg ⟨[_, _, _, _, _]⟩, .int _ _, .int _ _]) rfl ⟨⟨_, _, rfl, run_loadVarA T.agg51 (hb101.cells (n := 5) rfl) rfl⟩, ⟨rfl, ⟨rfl, trivial⟩⟩⟩ (Nat.le_of_ble_eq_true rfl) ?_;have hq9 := nextT_word (i : Int) h0 hn10 hnm hwv hio;rw [show ((s.take j).drop i) = (s.drop i).take (j - i) by rw [List.drop_take]]
     rw [hq9]
     exact ⟨_, rfl, (fun _ => by show (j : Int) = ((i + (j - i) : Nat) : Int); omega), HC⟩
    try simp only [nm, ne_eq] at g85
    iterate 5 refine w_no 16 97 true ?_
    iterate 4 refine w_no 21 102 false ?_
    refine w_no 16 97 true <| pF rfl rfl <| en <| x_cond (t := false) rfl (fun h5 => ?_) (fun h5 => ?_)
    · exact absurd h5 (by decide)
    have hio : (if j - i = 1 ∧ digB (byte (s.drop i) 0) = true ∧ (byte (s.drop i) 1 = 60 ∨ byte (s.drop i) 1 = 62) ∧ 1 < (s.drop i).length then (4 : Int) else 1) = 1 := if_neg (by rintro ⟨q1, q2, q3, q4⟩; rw [hdl] at q4; rw [← hb0] at q2; rw [hb1, show i + 1 = j by omega] at q3; first | omega | (rw [q2] at *; simp_all; done) | (rcases q3 with q3 | q3 <;> first | (have q5 : ((byte s j).toNat : Int) = 60 := (by rw [q3]; rfl); omega) | (have q5 : ((byte s j).toNat : Int) = 62 := (by rw [q3]; rfl); omega) | simp_all))
    refine x_skip <| then_n <| sr rfl <| Wp rfl <| st_loadA (vs := [_, _, _, _, _]) T.agg51 rfl (hb80.cells (n := 5) (vs := [_, _, _, _, _]) rfl) rfl <| mI rfl <| Wp rfl <| st_st (v := .agg ⟨[_, _, _, _, _]⟩) T.size51 rfl rfl rfl hb4 ?_;intro w102 c103 hb104; simp only [setVs, setV] at hb104;clear hb4;replace HC := HC.then1 c103 ge_bq4;refine aI rfl <| aI rfl <| en <| x_ret <| ret_many (vs := [.agg ⟨[_, _, _, _, _]⟩, .int _ _, .int _ _]) rfl ⟨⟨_, _, rfl, run_loadVarA T.agg51 (hb104.cells (n := 5) rfl) rfl⟩, ⟨rfl, ⟨rfl, trivial⟩⟩⟩ (Nat.le_of_ble_eq_true rfl) ?_;have hq9 := nextT_word (i : Int) h0 hn10 hnm hwv hio;rw [show ((s.take j).drop i) = (s.drop i).take (j - i) by rw [List.drop_take]]
    rw [hq9]
    exact ⟨_, rfl, (fun _ => by show (j : Int) = ((i + (j - i) : Nat) : Int); omega), HC⟩
   try simp only [nm, ne_eq] at g84
   iterate 4 refine w_no 10 91 true ?_
   refine pF rfl rfl <| mB rfl ?_;iterate 5 refine w_no 16 97 true ?_
   iterate 4 refine w_no 21 102 false ?_
   refine w_no 16 97 true <| pF rfl rfl <| en <| x_cond (t := false) rfl (fun h5 => ?_) (fun h5 => ?_)
   · exact absurd h5 (by decide)
   have hio : (if j - i = 1 ∧ digB (byte (s.drop i) 0) = true ∧ (byte (s.drop i) 1 = 60 ∨ byte (s.drop i) 1 = 62) ∧ 1 < (s.drop i).length then (4 : Int) else 1) = 1 := if_neg (by rintro ⟨q1, q2, q3, q4⟩; rw [hdl] at q4; rw [← hb0] at q2; rw [hb1, show i + 1 = j by omega] at q3; first | omega | (rw [q2] at *; simp_all; done) | (rcases q3 with q3 | q3 <;> first | (have q5 : ((byte s j).toNat : Int) = 60 := (by rw [q3]; rfl); omega) | (have q5 : ((byte s j).toNat : Int) = 62 := (by rw [q3]; rfl); omega) | simp_all))
   refine x_skip <| then_n <| sr rfl <| Wp rfl <| st_loadA (vs := [_, _, _, _, _]) T.agg51 rfl (hb80.cells (n := 5) (vs := [_, _, _, _, _]) rfl) rfl <| mI rfl <| Wp rfl <| st_st (v := .agg ⟨[_, _, _, _, _]⟩) T.size51 rfl rfl rfl hb4 ?_;intro w105 c106 hb107; simp only [setVs, setV] at hb107;clear hb4;replace HC := HC.then1 c106 ge_bq4;refine aI rfl <| aI rfl <| en <| x_ret <| ret_many (vs := [.agg ⟨[_, _, _, _, _]⟩, .int _ _, .int _ _]) rfl ⟨⟨_, _, rfl, run_loadVarA T.agg51 (hb107.cells (n := 5) rfl) rfl⟩, ⟨rfl, ⟨rfl, trivial⟩⟩⟩ (Nat.le_of_ble_eq_true rfl) ?_;have hq9 := nextT_word (i : Int) h0 hn10 hnm hwv hio;rw [show ((s.take j).drop i) = (s.drop i).take (j - i) by rw [List.drop_take]]
   rw [hq9]
   exact ⟨_, rfl, (fun _ => by show (j : Int) = ((i + (j - i) : Nat) : Int); omega), HC⟩
  try simp only [nm, ne_eq] at g81
  iterate 4 refine w_no 4 85 true ?_
  refine pF rfl rfl <| mB rfl ?_;iterate 4 refine w_no 10 91 true ?_
  refine pF rfl rfl <| mB rfl ?_;iterate 5 refine w_no 16 97 true ?_
  iterate 4 refine w_no 21 102 false ?_
  refine w_no 16 97 true <| pF rfl rfl <| en <| x_cond (t := false) rfl (fun h5 => ?_) (fun h5 => ?_)
  · exact absurd h5 (by decide)
  have hio : (if j - i = 1 ∧ digB (byte (s.drop i) 0) = true ∧ (byte (s.drop i) 1 = 60 ∨ byte (s.drop i) 1 = 62) ∧ 1 < (s.drop i).length then (4 : Int) else 1) = 1 := if_neg (by rintro ⟨q1, q2, q3, q4⟩; rw [hdl] at q4; rw [← hb0] at q2; rw [hb1, show i + 1 = j by omega] at q3; first | omega | (rw [q2] at *; simp_all; done) | (rcases q3 with q3 | q3 <;> first | (have q5 : ((byte s j).toNat : Int) = 60 := (by rw [q3]; rfl); omega) | (have q5 : ((byte s j).toNat : Int) = 62 := (by rw [q3]; rfl); omega) | simp_all))
  refine x_skip <| then_n <| sr rfl <| Wp rfl <| st_loadA (vs := [_, _, _, _, _]) T.agg51 rfl (hb80.cells (n := 5) (vs := [_, _, _, _, _]) rfl) rfl <| mI rfl <| Wp rfl <| st_st (v := .agg ⟨[_, _, _, _, _]⟩) T.size51 rfl rfl rfl hb4 ?_;intro w108 c109 hb110; simp only [setVs, setV] at hb110;clear hb4;replace HC := HC.then1 c109 ge_bq4;refine aI rfl <| aI rfl <| en <| x_ret <| ret_many (vs := [.agg ⟨[_, _, _, _, _]⟩, .int _ _, .int _ _]) rfl ⟨⟨_, _, rfl, run_loadVarA T.agg51 (hb110.cells (n := 5) rfl) rfl⟩, ⟨rfl, ⟨rfl, trivial⟩⟩⟩ (Nat.le_of_ble_eq_true rfl) ?_;have hq9 := nextT_word (i : Int) h0 hn10 hnm hwv hio;rw [show ((s.take j).drop i) = (s.drop i).take (j - i) by rw [List.drop_take]]
  rw [hq9]
  exact ⟨_, rfl, (fun _ => by show (j : Int) = ((i + (j - i) : Nat) : Int); omega), HC⟩
 try simp only [nm, ne_eq] at g61
 iterate 5 refine w_no 4 56 true ?_
 refine pF rfl rfl <| en <| x_cond (t := false) rfl (fun h3 => ?_) (fun h3 => ?_)
 · exact absurd h3 (by decide)
 have hwv : wordV (s.drop i) = (j - i, 0) := by first | (rw [hr, wordL_end q0]; simp; done) | (obtain ⟨k, rfl⟩ : ∃ z, k = z + 1 := ⟨k - 1, by omega⟩; rw [hr, wordL_meta q0 (by first | assumption | simp_all)]; simp)
 refine x_exit <| then_x <| then_x <| block_x <| then_n <| x_seq <| x_draw [(0, 0), (1, 0), (2, 0), (3, 0), (4, 0), (5, 1), (6, 0), (7, 2)] T.mixed rfl rfl rfl (fun W => W.heap[bq8]? = w59.heap[bq8]? ∧ W.heap[bq4]? = w59.heap[bq4]? ∧ True) ⟨rfl, rfl, trivial⟩ ?_
 have o113 := hb18;have o114 := hb4;have c112 := Chg.drew w59;generalize World.drew w59 = w111 at c112 ⊢;replace HC := HC.then c112;replace hb18 := hb18.tr0 c112;replace hb11 := hb11.tr0 c112;replace hb4 := hb4.tr0 c112;refine sq_q rfl (fun W hT => r_move (v := S _) rfl) <| sq_q rfl (fun W hT => r_move (v := .int _ _) rfl) <| sq_q rfl (fun W hT => r_move (v := .int _ _) rfl) <| sq_q rfl (fun W hT => r_sslice (i := i) (j := j) T.u9 rfl ⟨_, rfl⟩ ⟨_, rfl⟩ q0 q0) <| sq_q rfl (fun W hT => r_fieldAddr T.fld51_0 rfl) <| sq_store1 rfl T.size3 (v := .int _ _) rfl rfl rfl hb11 rfl (Nat.le_of_ble_eq_true rfl) q5 rfl ?_
 intro w115 c116 hb117; simp only [setVs, setV] at hb117;clear hb11;replace HC := HC.then1 c116 ge_bq7;replace hb18 := hb18.tr1 c116 (Ne.symm ne_bq7_bq8);replace hb4 := hb4.tr1 c116 ne_bq4_bq7;refine ⟨_, fun _ h => h, ⟨(Eq.trans hb18 o113.symm), (Eq.trans hb4 o114.symm), trivial⟩, ?_⟩
 refine sq_q rfl (fun W hT => r_fieldAddr T.fld51_1 rfl) <| sq_store2 rfl T.size9 (v := S _) rfl rfl rfl hb117 rfl (Nat.le_of_ble_eq_true rfl) q5 rfl ?_
 intro w118 c119 hb120; simp only [setVs, setV] at hb120;clear hb117;replace HC := HC.then1 c119 ge_bq7;replace hb4 := hb4.tr1 c119 ne_bq4_bq7;clear o113;clear o114;refine sq_nil <| then_n <| x_seq <| x_seq ?_;have hwp := wordV_pos h0 hnm (by rw [hwv])
 rw [hwv] at hwp
 replace hwp : 1 ≤ j - i := hwp;have htl : ((s.take j).drop i).length = j - i := by simp only [List.length_drop, List.length_take]; omega
 have hb0 : byte ((s.take j).drop i) 0 = byte (s.drop i) 0 := by rw [byte_dropk, byte_dropk]; simp only [byte, List.getD_eq_getElem?_getD, List.getElem?_take]; rw [if_pos q0]
 have hb1 : byte (s.drop i) 1 = byte s (i + 1) := byte_dropk s i 1;have hdl : (s.drop i).length = s.length - i := List.length_drop
 skip
 refine x_region rfl <| fa T.fld51_1 rfl <| lS T.one9 rfl (hb120.cell rfl) <| Wp rfl <| st_slen (ct := #[9]) T.u9 rfl <| Wp rfl <| st_eql rfl rfl <| mB rfl <| w_split (d := 85) rfl (fun g121 => ?_) (fun g121 => ?_)
 ·try simp only [nm, ne_eq] at g121
  refine w_yes 4 85 true <| st_fieldAddr T.fld51_1 rfl <| w_yes 4 85 true <| st_load1 (v := S _) T.one9 rfl (hb120.cell rfl) <| w_yes 4 85 true <| st_sidx T.u9 rfl rfl (by decide) q0 <| w_yes 4 85 true <| st_call (ags := [_]) rfl rfl T.ent52 rfl (c_digit (byte ((s.take j).drop i) 0) _) ?_
  rintro _ w122 ⟨rfl, c123⟩;replace HC := HC.then c123;replace hb4 := hb4.tr0 c123;replace hb120 := hb120.tr0 c123;refine pT rfl rfl <| mB rfl <| w_split (d := 91) rfl (fun g124 => ?_) (fun g124 => ?_)
  ·try simp only [nm, ne_eq] at g124
   refine w_yes 10 91 true <| st_move (v := .int _ _) rfl <| w_yes 10 91 true <| st_move (v := S _) rfl <| w_yes 10 91 true <| st_slen (ct := #[9]) T.u9 rfl <| w_yes 10 91 true <| st_lss rfl rfl <| pT rfl rfl <| mB rfl <| w_split (d := 97) rfl (fun g125 => ?_) (fun g125 => ?_)
   ·try simp only [nm, ne_eq] at g125
    refine w_yes 16 97 true <| st_move (v := S _) rfl <| w_yes 16 97 true <| st_move (v := .int _ _) rfl <| w_yes 16 97 true <| st_sidx T.u9 rfl rfl q0 q0 <| w_yes 16 97 true <| st_eql rfl rfl <| w_yes 16 97 true <| st_move (v := .bool _) rfl <| w_split (d := 102) rfl (fun g126 => ?_) (fun g126 => ?_)
    ·try simp only [nm, ne_eq] at g126
     iterate 4 refine w_no 21 102 false ?_
     refine w_yes 16 97 true <| st_pick (b := true) (v := .bool _) rfl rfl <| pT rfl rfl <| en <| x_cond (t := true) rfl (fun h5 => ?_) (fun h5 => ?_)
     rotate_left
     · exact absurd h5 (by decide)
     have hji : j = i + 1 := by first | omega | simp_all
     have hio : (if j - i = 1 ∧ digB (byte (s.drop i) 0) = true ∧ (byte (s.drop i) 1 = 60 ∨ byte (s.drop i) 1 = 62) ∧ 1 < (s.drop i).length then (4 : Int) else 1) = 4 := if_pos ⟨by omega, by rw [← hb0]; first | assumption | simp_all, by rw [hb1, ← hji]; first | (left; exact u8_eq (by assumption) rfl) | (right; exact u8_eq (by assumption) rfl), by rw [hdl]; first | omega | simp_all⟩
     refine x_region rfl <| fa T.fld51_0 rfl <| Wp rfl <| st_st (v := .int _ _) T.size3 rfl rfl rfl hb120 ?_;intro w127 c128 hb129; simp only [setVs, setV] at hb129;clear hb120;replace HC := HC.then1 c128 ge_bq7;replace hb4 := hb4.tr1 c128 ne_bq4_bq7;refine en <| sr rfl <| Wp rfl <| st_loadA (vs := [_, _, _, _, _]) T.agg51 rfl (hb129.cells (n := 5) (vs := [_, _, _, _, _]) rfl) rfl <| mI rfl <| Wp rfl <| st_st (v := .agg ⟨[_, _, _, _, _]⟩) T.size51 rfl rfl rfl hb4 ?_;intro w130 c131 hb132; simp only [setVs, setV] at hb132;clear hb4;replace HC := HC.then1 c131 ge_bq4;refine aI rfl <| aI rfl <| en <| x_ret <| ret_many (vs := [.agg ⟨[_, _, _, _, _]⟩, .int _ _, .int _ _]) rfl ⟨⟨_, _, rfl, run_loadVarA T.agg51 (hb132.cells (n := 5) rfl) rfl⟩, ⟨rfl, ⟨rfl, trivial⟩⟩⟩ (Nat.le_of_ble_eq_true rfl) ?_;have hq9 := nextT_word (i : Int) h0 hn10 hnm hwv hio;rw [show ((s.take j).drop i) = (s.drop i).take (j - i) by rw [List.drop_take]]
     rw [hq9]
     exact ⟨_, rfl, (fun _ => by show (j : Int) = ((i + (j - i) : Nat) : Int); omega), HC⟩
    try simp only [nm, ne_eq] at g126
    refine w_yes 21 102 false <| st_move (v := S _) rfl <| w_yes 21 102 false <| st_move (v := .int _ _) rfl <| w_yes 21 102 false <| st_sidx T.u9 rfl rfl q0 q0 <| w_yes 21 102 false <| st_eql rfl rfl <| w_yes 16 97 true <| st_pick (b := false) (v := .bool _) rfl rfl <| pT rfl rfl <| en <| x_cond rfl (fun h5 => ?_) (fun h5 => ?_)
    ·try simp only [nm, ne_eq] at h5
     have hji : j = i + 1 := by first | omega | simp_all
     have hio : (if j - i = 1 ∧ digB (byte (s.drop i) 0) = true ∧ (byte (s.drop i) 1 = 60 ∨ byte (s.drop i) 1 = 62) ∧ 1 < (s.drop i).length then (4 : Int) else 1) = 4 := if_pos ⟨by omega, by rw [← hb0]; first | assumption | simp_all, by rw [hb1, ← hji]; first | (left; exact u8_eq (by assumption) rfl) | (right; exact u8_eq (by assumption) rfl), by rw [hdl]; first | omega | simp_all⟩
     refine x_region rfl <| fa T.fld51_0 rfl <| Wp rfl <| st_st (v := .int _ _) T.size3 rfl rfl rfl hb120 ?_;intro w133 c134 hb135; simp only [setVs, setV] at hb135;clear hb120;replace HC := HC.then1 c134 ge_bq7;replace hb4 := hb4.tr1 c134 ne_bq4_bq7;refine en <| sr rfl <| Wp rfl <| st_loadA (vs := [_, _, _, _, _]) T.agg51 rfl (hb135.cells (n := 5) (vs := [_, _, _, _, _]) rfl) rfl <| mI rfl <| Wp rfl <| st_st (v := .agg ⟨[_, _, _, _, _]⟩) T.size51 rfl rfl rfl hb4 ?_;intro w136 c137 hb138; simp only [setVs, setV] at hb138;clear hb4;replace HC := HC.then1 c137 ge_bq4;refine aI rfl <| aI rfl <| en <| x_ret <| ret_many (vs := [.agg ⟨[_, _, _, _, _]⟩, .int _ _, .int _ _]) rfl ⟨⟨_, _, rfl, run_loadVarA T.agg51 (hb138.cells (n := 5) rfl) rfl⟩, ⟨rfl, ⟨rfl, trivial⟩⟩⟩ (Nat.le_of_ble_eq_true rfl) ?_;have hq9 := nextT_word (i : Int) h0 hn10 hnm hwv hio;rw [show ((s.take j).drop i) = (s.drop i).take (j - i) by rw [List.drop_take]]
     rw [hq9]
     exact ⟨_, rfl, (fun _ => by show (j : Int) = ((i + (j - i) : Nat) : Int); omega), HC⟩
    try simp only [nm, ne_eq] at h5
    have hio : (if j - i = 1 ∧ digB (byte (s.drop i) 0) = true ∧ (byte (s.drop i) 1 = 60 ∨ byte (s.drop i) 1 = 62) ∧ 1 < (s.drop i).length then (4 : Int) else 1) = 1 := if_neg (by rintro ⟨q1, q2, q3, q4⟩; rw [hdl] at q4; rw [← hb0] at q2; rw [hb1, show i + 1 = j by omega] at q3; first | omega | (rw [q2] at *; simp_all; done) | (rcases q3 with q3 | q3 <;> first | (have q5 : ((byte s j).toNat : Int) = 60 := (by rw [q3]; rfl); omega) | (have q5 : ((byte s j).toNat : Int) = 62 := (by rw [q3]; rfl); omega) | simp_all))
    refine x_skip <| then_n <| sr rfl <| Wp rfl <| st_loadA (vs := [_, _, _, _, _]) T.agg51 rfl (hb120.cells (n := 5) (vs := [_, _, _, _, _]) rfl) rfl <| mI rfl <| Wp rfl <| st_st (v := .agg ⟨[_, _, _, _, _]⟩) T.size51 rfl rfl rfl hb4 ?_;intro w139 c140 hb141; simp only [setVs, setV] at hb141;clear hb4;replace HC := HC.then1 c140 ge_bq4;refine aI rfl <| aI rfl <| en <| x_ret <| ret_many (vs := [.agg ⟨[_, _, _, _, _]⟩, .int _ _, .int _ _]) rfl ⟨⟨_, _, rfl, run_loadVarA T.agg51 (hb141.cells (n := 5) rfl) rfl⟩, ⟨rfl, ⟨rfl, trivial⟩⟩⟩ (Nat.le_of_ble_eq_true rfl) ?_;have hq9 := nextT_word (i : Int) h0 hn10 hnm hwv hio;rw [show ((s.take j).drop i) = (s.drop i).take (j - i) by rw [List.drop_take]]
    rw [hq9]
    exact ⟨_, rfl, (fun _ => by show (j : Int) = ((i + (j - i) : Nat) : Int); omega), HC⟩
   try simp only [nm, ne_eq] at g125
   iterate 5 refine w_no 16 97 true ?_
   iterate 4 refine w_no 21 102 false ?_
   refine w_no 16 97 true <| pF rfl rfl <| en <| x_cond (t := false) rfl (fun h5 => ?_) (fun h5 => ?_)
   · exact absurd h5 (by decide)
   have hio : (if j - i = 1 ∧ digB (byte (s.drop i) 0) = true ∧ (byte (s.drop i) 1 = 60 ∨ byte (s.drop i) 1 = 62) ∧ 1 < (s.drop i).length then (4 : Int) else 1) = 1 := if_neg (by rintro ⟨q1, q2, q3, q4⟩; rw [hdl] at q4; rw [← hb0] at q2; rw [hb1, show i + 1 = j by omega] at q3; first | omega | (rw [q2] at *; simp_all; done) | (rcases q3 with q3 | q3 <;> first | (have q5 : ((byte s j).toNat : Int) = 60 := (by rw [q3]; rfl); omega) | (have q5 : ((byte s j).toNat : Int) = 62 := (by rw [q3]; rfl); omega) | simp_all))
   refine x_skip <| then_n <| sr rfl <| Wp rfl <| st_loadA (vs := [_, _, _, _, _]) T.agg51 rfl (hb120.cells (n := 5) (vs := [_, _, _, _, _]) rfl) rfl <| mI rfl <| Wp rfl <| st_st (v := .agg ⟨[_, _, _, _, _]⟩) T.size51 rfl rfl rfl hb4 ?_;intro w142 c143 hb144; simp only [setVs, setV] at hb144;clear hb4;replace HC := HC.then1 c143 ge_bq4;refine aI rfl <| aI rfl <| en <| x_ret <| ret_many (vs := [.agg ⟨[_, _, _, _, _]⟩, .int _ _, .int _ _]) rfl ⟨⟨_, _, rfl, run_loadVarA T.agg51 (hb144.cells (n := 5) rfl) rfl⟩, ⟨rfl, ⟨rfl, trivial⟩⟩⟩ (Nat.le_of_ble_eq_true rfl) ?_;have hq9 := nextT_word (i : Int) h0 hn10 hnm hwv hio;rw [show ((s.take j).drop i) = (s.drop i).take (j - i) by rw [List.drop_take]]
   rw [hq9]
   exact ⟨_, rfl, (fun _ => by show (j : Int) = ((i + (j - i) : Nat) : Int); omega), HC⟩
  try simp only [nm, ne_eq] at g124
  iterate 4 refine w_no 10 91 true ?_
  refine pF rfl rfl <| mB rfl ?_;iterate 5 refine w_no 16 97 true ?_
  iterate 4 refine w_no 21 102 false ?_
  refine w_no 16 97 true <| pF rfl rfl <| en <| x_cond (t := false) rfl (fun h5 => ?_) (fun h5 => ?_)
  · exact absurd h5 (by decide)
  have hio : (if j - i = 1 ∧ digB (byte (s.drop i) 0) = true ∧ (byte (s.drop i) 1 = 60 ∨ byte (s.drop i) 1 = 62) ∧ 1 < (s.drop i).length then (4 : Int) else 1) = 1 := if_neg (by rintro ⟨q1, q2, q3, q4⟩; rw [hdl] at q4; rw [← hb0] at q2; rw [hb1, show i + 1 = j by omega] at q3; first | omega | (rw [q2] at *; simp_all; done) | (rcases q3 with q3 | q3 <;> first | (have q5 : ((byte s j).toNat : Int) = 60 := (by rw [q3]; rfl); omega) | (have q5 : ((byte s j).toNat : Int) = 62 := (by rw [q3]; rfl); omega) | simp_all))
  refine x_skip <| then_n <| sr rfl <| Wp rfl <| st_loadA (vs := [_, _, _, _, _]) T.agg51 rfl (hb120.cells (n := 5) (vs := [_, _, _, _, _]) rfl) rfl <| mI rfl <| Wp rfl <| st_st (v := .agg ⟨[_, _, _, _, _]⟩) T.size51 rfl rfl rfl hb4 ?_;intro w145 c146 hb147; simp only [setVs, setV] at hb147;clear hb4;replace HC := HC.then1 c146 ge_bq4;refine aI rfl <| aI rfl <| en <| x_ret <| ret_many (vs := [.agg ⟨[_, _, _, _, _]⟩, .int _ _, .int _ _]) rfl ⟨⟨_, _, rfl, run_loadVarA T.agg51 (hb147.cells (n := 5) rfl) rfl⟩, ⟨rfl, ⟨rfl, trivial⟩⟩⟩ (Nat.le_of_ble_eq_true rfl) ?_;have hq9 := nextT_word (i : Int) h0 hn10 hnm hwv hio;rw [show ((s.take j).drop i) = (s.drop i).take (j - i) by rw [List.drop_take]]
  rw [hq9]
  exact ⟨_, rfl, (fun _ => by show (j : Int) = ((i + (j - i) : Nat) : Int); omega), HC⟩
 try simp only [nm, ne_eq] at g121
 iterate 4 refine w_no 4 85 true ?_
 refine pF rfl rfl <| mB rfl ?_;iterate 4 refine w_no 10 91 true ?_
 refine pF rfl rfl <| mB rfl ?_;iterate 5 refine w_no 16 97 true ?_
 iterate 4 refine w_no 21 102 false ?_
 refine w_no 16 97 true <| pF rfl rfl <| en <| x_cond (t := false) rfl (fun h5 => ?_) (fun h5 => ?_)
 · exact absurd h5 (by decide)
 have hio : (if j - i = 1 ∧ digB (byte (s.drop i) 0) = true ∧ (byte (s.drop i) 1 = 60 ∨ byte (s.drop i) 1 = 62) ∧ 1 < (s.drop i).length then (4 : Int) else 1) = 1 := if_neg (by rintro ⟨q1, q2, q3, q4⟩; rw [hdl] at q4; rw [← hb0] at q2; rw [hb1, show i + 1 = j by omega] at q3; first | omega | (rw [q2] at *; simp_all; done) | (rcases q3 with q3 | q3 <;> first | (have q5 : ((byte s j).toNat : Int) = 60 := (by rw [q3]; rfl); omega) | (have q5 : ((byte s j).toNat : Int) = 62 := (by rw [q3]; rfl); omega) | simp_all))
 refine x_skip <| then_n <| sr rfl <| Wp rfl <| st_loadA (vs := [_, _, _, _, _]) T.agg51 rfl (hb120.cells (n := 5) (vs := [_, _, _, _, _]) rfl) rfl <| mI rfl <| Wp rfl <| st_st (v := .agg ⟨[_, _, _, _, _]⟩) T.size51 rfl rfl rfl hb4 ?_;intro w148 c149 hb150; simp only [setVs, setV] at hb150;clear hb4;replace HC := HC.then1 c149 ge_bq4;refine aI rfl <| aI rfl <| en <| x_ret <| ret_many (vs := [.agg ⟨[_, _, _, _, _]⟩, .int _ _, .int _ _]) rfl ⟨⟨_, _, rfl, run_loadVarA T.agg51 (hb150.cells (n := 5) rfl) rfl⟩, ⟨rfl, ⟨rfl, trivial⟩⟩⟩ (Nat.le_of_ble_eq_true rfl) ?_;have hq9 := nextT_word (i : Int) h0 hn10 hnm hwv hio;rw [show ((s.take j).drop i) = (s.drop i).take (j - i) by rw [List.drop_take]]
 rw [hq9]
 exact ⟨_, rfl, (fun _ => by show (j : Int) = ((i + (j - i) : Nat) : Int); omega), HC⟩
open Go Go.RowKit
def skel (t : Tok) : Int × Bytes × Int := (t.kind, t.text, t.at_)
theorem linesV_skel : ∀ (ws : List (Nat × Bool)) (out : List Tok) (r : Bytes), (linesV out ws r).1.map skel = out.map skel
  | [], out, r => rfl
  | (j, st) :: ws, out, r => by
    simp only [linesV]
    rw [linesV_skel ws]
    apply List.ext_getElem?
    intro i;simp only [List.getElem?_map, List.getElem?_set]
    by_cases h : j = i
    · subst h
      by_cases hj : j < out.length
      · rw [if_pos rfl, if_pos hj]
        simp [List.getD_eq_getElem?_getD, hj, skel]
      rw [if_pos rfl, if_neg hj]
      simp [hj]
    rw [if_neg h]
theorem linesV_len (ws : List (Nat × Bool)) (out : List Tok) (r : Bytes) : (linesV out ws r).1.length = out.length := by
  have := congrArg List.length (linesV_skel ws out r); simpa using this
theorem cut_le (s c : Bytes) : (Lib.cut s c).1.length ≤ s.length := by
  unfold Lib.cut; split
  · simp only [List.length_take]; omega
  exact Nat.le_refl _
theorem cut_more {s c : Bytes} (h : (Lib.cut s c).2.2 = true) : (Lib.cut s c).1.length + c.length ≤ s.length := by
  unfold Lib.cut at h ⊢; split
  · rename_i hk
    have := Lib.index_room s c hk;simp only [List.length_take]
    omega
  rename_i hk; rw [if_neg hk] at h; cases h
theorem bodyL_le (fin : Bytes) (strip : Bool) : ∀ (k : Nat) (r : Bytes), (bodyL fin strip k r).2 ≤ r.length
  | 0, r => by simp [bodyL]
  | k + 1, r => by
    simp only [bodyL]
    split
    · simp
    have h1 : (Lib.cut r [10]).1.length + (if (Lib.cut r [10]).2.2 = true then 1 else 0) ≤ r.length := by
      by_cases h : (Lib.cut r [10]).2.2 = true
      · rw [if_pos h]; exact cut_more h
      rw [if_neg h]; exact cut_le _ _
    generalize (if strip = true then trimT (Lib.cut r [10]).1 else (Lib.cut r [10]).1) = q
    split
    · exact h1
    have h2 := bodyL_le fin strip k (r.drop ((Lib.cut r [10]).1.length + (if (Lib.cut r [10]).2.2 = true then 1 else 0)))
    simp only [List.length_drop] at h2
    show _ + (_ + _) ≤ _
    omega
theorem linesV_le : ∀ (ws : List (Nat × Bool)) (out : List Tok) (r : Bytes), (linesV out ws r).2 ≤ r.length
  | [], out, r => by simp [linesV]
  | (j, st) :: ws, out, r => by
    simp only [linesV]
    have h1 := linesV_le ws (out.set j { (out.getD j ⟨0, [], 0, [], false⟩) with here := (out.getD j ⟨0, [], 0, [], false⟩).here ++ (bodyV (plainV (out.getD j ⟨0, [], 0, [], false⟩).text).1 st r).1, raw := (plainV (out.getD j ⟨0, [], 0, [], false⟩).text).2 }) (r.drop (bodyV (plainV (out.getD j ⟨0, [], 0, [], false⟩).text).1 st r).2);have h2 := bodyL_le (plainV (out.getD j ⟨0, [], 0, [], false⟩).text).1 st r.length r;simp only [List.length_drop] at h1
    show _ + (bodyL _ _ _ _).2 ≤ _
    simp only [bodyV] at h1 ⊢
    omega
structure Placed (s : Bytes) (i : Nat) (l : List (Int × Bytes × Int)) : Prop where
  at_ : ∀ x, x ∈ l → x.1 ≠ 0 ∧ 0 ≤ x.2.2 ∧ x.2.2.toNat + x.2.1.length ≤ i ∧ (s.drop x.2.2.toNat).take x.2.1.length = x.2.1
  up : ∀ (j : Nat) x y, l[j]? = some x → l[j + 1]? = some y → x.2.2 + x.2.1.length ≤ y.2.2
theorem Placed.nil {s : Bytes} {i : Nat} : Placed s i [] := ⟨fun x h => (by cases h), fun j x y h => (by simp at h)⟩
theorem Placed.push {s : Bytes} {i i2 : Nat} {l : List (Int × Bytes × Int)} {k : Int} {n : Nat} (h : Placed s i l) (hi : i ≤ i2) (hk : k ≠ 0) (hn : i2 + n ≤ s.length) : Placed s (i2 + n) (l ++ [(k, (s.drop i2).take n, (i2 : Int))]) := by
  have hl : ((s.drop i2).take n).length = n := by simp; omega
  refine ⟨fun x hx => ?_, fun j x y hx hy => ?_⟩
  · rcases List.mem_append.1 hx with hx | hx
    · obtain ⟨h1, h2, h3, h4⟩ := h.at_ x hx; exact ⟨h1, h2, by omega, h4⟩
    rw [List.mem_singleton.1 hx]
    refine ⟨hk, Int.natCast_nonneg _, ?_, ?_⟩
    · show (i2 : Int).toNat + ((s.drop i2).take n).length ≤ i2 + n
      rw [hl]; omega
    show (s.drop (i2 : Int).toNat).take ((s.drop i2).take n).length = _
    rw [hl, Int.toNat_natCast]
  by_cases hj : j + 1 < l.length
  · rw [List.getElem?_append_left (by omega)] at hx
    rw [List.getElem?_append_left hj] at hy
    exact h.up j x y hx hy
  have h1 : j + 1 = l.length := by
    have := (List.getElem?_eq_some_iff.1 hy).1;simp at this; omega
  rw [List.getElem?_append_left (by omega)] at hx
  rw [h1, List.getElem?_append_right (Nat.le_refl _), Nat.sub_self] at hy
  simp only [List.getElem?_cons_zero, Option.some.injEq] at hy
  subst hy
  obtain ⟨_, h2, h3, _⟩ := h.at_ x (List.mem_of_getElem? hx)
  show x.2.2 + _ ≤ (i2 : Int)
  omega
theorem nextT_ok {r : Bytes} (hr : r ≠ []) (hb : byte r 0 ≠ 32 ∧ byte r 0 ≠ 9 ∧ byte r 0 ≠ 35) (i : Int) :
    ((nextT r i).2.2 ≠ 0 ∧ ∃ j : Nat, (nextT r i).1.at_ = i + j ∧ j < r.length) ∨
    ((nextT r i).2.2 = 0 ∧ (nextT r i).1.kind ≠ 0 ∧ 1 ≤ (nextT r i).2.1 ∧ (nextT r i).2.1 ≤ r.length ∧ (nextT r i).1.text = r.take (nextT r i).2.1 ∧ (nextT r i).1.at_ = i ∧ (nextT r i).1.here = [] ∧ (nextT r i).1.raw = false) := by
  unfold nextT
  rw [if_neg hr]
  split
  · right
    rename_i h
    obtain ⟨c, t, rfl⟩ : ∃ c t, r = c :: t := by cases r with | nil => exact absurd rfl hr | cons c t => exact ⟨c, t, rfl⟩
    have hb : byte (c :: t) 0 = c := rfl;rw [hb] at h; subst h;simp
  rename_i h10
  split
  · rename_i hm
    obtain ⟨j, h1, h2, h3, h4, h5, h6⟩ := op_hit hm h10 hb.1 hb.2.1 hr
    right
    refine ⟨rfl, by show (2 : Int) ≠ 0; decide, h5, h6, ?_, rfl, rfl, rfl⟩
    have := List.isPrefixOf_iff_prefix.1 h4
    show opT r = r.take (opT r).length
    exact List.prefix_iff_eq_take.1 this
  rename_i hm
  have hm' : metaB (byte r 0) = false := by simpa using hm
  split
  · rename_i he
    exact .inl ⟨by simpa using he, _, rfl, wordL_err _ _ he⟩
  rename_i he
  have he' : (wordV r).2 = 0 := by simpa using he
  exact .inr ⟨rfl, by show ite _ _ _ ≠ (0 : Int); split <;> decide, wordV_pos hr hm' he', wordL_le _ _, rfl, rfl, rfl, rfl⟩
theorem drop_drop_at {s : Bytes} {i b : Nat} : (s.drop i).drop b = s.drop (i + b) := by rw [List.drop_drop]
theorem scan_places (s : Bytes) : ∀ (k i : Nat) (out : List Tok) (ws : List (Nat × Bool)), i ≤ s.length → s.length - i < k → Placed s i (out.map skel) →
    ((scanF k (s.drop i) i out ws).2.2 ≠ 0 ∧ (scanF k (s.drop i) i out ws).1 = [] ∧ 0 ≤ (scanF k (s.drop i) i out ws).2.1 ∧ (scanF k (s.drop i) i out ws).2.1 < s.length) ∨
    ((scanF k (s.drop i) i out ws).2 = (0, 0) ∧ ∃ pre, (scanF k (s.drop i) i out ws).1.map skel = pre ++ [(0, [], (s.length : Int))] ∧ Placed s s.length pre)
  | 0, i, out, ws, hi, hk, hp => by omega
  | k + 1, i, out, ws, hi, hk, hp => by
    have hbl := blankL_le (s.drop i).length (s.drop i);have hbs := blankL_stop (s.drop i).length (s.drop i) (Nat.le_refl _);simp only [List.length_drop] at hbl;have hbv : blankV (s.drop i) = blankL (s.length - i) (s.drop i) := by simp [blankV]
    simp only [List.length_drop, ← hbv] at hbl hbs
    simp only [scanF]
    generalize hB : blankV (s.drop i) = b at hbl hbs ⊢
    rw [drop_drop_at] at hbs ⊢
    by_cases hr : s.drop (i + b) = []
    · have hib : i + b = s.length := by have := List.drop_eq_nil_iff.1 hr; omega
      have hn : nextT (s.drop (i + b)) ((i : Int) + b) = (⟨0, [], (i : Int) + b, [], false⟩, 0, 0) := by unfold nextT; rw [if_pos hr]
      right
      rw [hn]
      simp only []
      rw [if_neg (by simp), if_pos trivial]
      refine ⟨rfl, out.map skel, ?_, ⟨fun x hx => ?_, hp.up⟩⟩
      · rw [linesV_skel, List.map_append]
        congr 1
        simp only [List.map_cons, List.map_nil, skel]
        rw [← hib]; simp
      obtain ⟨h1, h2, h3, h4⟩ := hp.at_ x hx; exact ⟨h1, h2, by omega, h4⟩
    have hb := hbs.resolve_left hr
    have hlt : i + b < s.length := by
      rcases Nat.lt_or_ge (i + b) s.length with h | h
      · exact h
      exact absurd (List.drop_eq_nil_of_le h) hr
    have hlen : (s.drop (i + b)).length = s.length - (i + b) := by simp
    rcases nextT_ok hr hb ((i : Int) + b) with ⟨he, j, hj, hj2⟩ | ⟨he, hk0, hn1, hn2, htx, hat, hh, hraw⟩
    · left
      rw [if_pos he]
      rw [hlen] at hj2
      exact ⟨he, rfl, by rw [hj]; show 0 ≤ (i : Int) + b + j; omega, by rw [hj]; show (i : Int) + b + j < _; omega⟩
    rw [if_neg (by simpa using he), if_neg hk0]
    generalize hN : nextT (s.drop (i + b)) ((i : Int) + b) = z at *
    rw [hlen] at hn2
    have hpl : Placed s (i + b + z.2.1) ((out ++ [z.1]).map skel) := by
      rw [List.map_append]
      have := Placed.push (n := z.2.1) hp (i2 := i + b) (by omega) hk0 (by omega)
      simpa [skel, htx, hat] using this
    have hc1 : ((i : Int) + b + z.2.1) = ((i + b + z.2.1 : Nat) : Int) := by omega
    split
    · have hl := linesV_le (pushW out ws z.1) (out ++ [z.1]) ((s.drop (i + b)).drop z.2.1);have hs := linesV_skel (pushW out ws z.1) (out ++ [z.1]) ((s.drop (i + b)).drop z.2.1);simp only [List.length_drop] at hl;rw [drop_drop_at] at hl hs;rw [drop_drop_at (b := z.2.1)];generalize linesV (out ++ [z.1]) (pushW out ws z.1) (s.drop (i + b + z.2.1)) = y at hl hs ⊢;rw [drop_drop_at, hc1, ← Int.natCast_add];refine scan_places s k (i + b + z.2.1 + y.2) y.1 [] (by omega) (by omega) ?_
      rw [hs]
      exact ⟨fun x hx => let ⟨h1, h2, h3, h4⟩ := hpl.at_ x hx; ⟨h1, h2, by omega, h4⟩, hpl.up⟩
    rw [drop_drop_at, hc1]
    exact scan_places s k (i + b + z.2.1) (out ++ [z.1]) (pushW out ws z.1) (by omega) (by omega) hpl
structure GoodT (s : Bytes) (l : List Tok) : Prop where
  at_ : ∀ (i : Nat) (x : Tok), l[i]? = some x → 0 ≤ x.at_ ∧ x.at_ ≤ s.length ∧ (x.text.length : Int) ≤ s.length - x.at_ ∧ (s.drop x.at_.toNat).take x.text.length = x.text
  up : ∀ (i : Nat) (x y : Tok), l[i]? = some x → l[i + 1]? = some y → x.at_ + x.text.length ≤ y.at_
  fin : ∀ (i : Nat) (x : Tok), l[i]? = some x → (x.kind = 0 ↔ i + 1 = l.length)
  last : ∃ n z, l.length = n + 1 ∧ l[n]? = some z ∧ z.at_ = s.length
theorem tokens_places {s : Bytes} (hs : s.length ≤ 3000) : ((tokensV s).2.2 ≠ 0 ∧ (tokensV s).1 = [] ∧ 0 ≤ (tokensV s).2.1 ∧ (tokensV s).2.1 < s.length) ∨ ((tokensV s).2 = (0, 0) ∧ GoodT s (tokensV s).1) := by
  have h := scan_places s (s.length + 1) 0 [] [] (Nat.zero_le _) (by omega) .nil
  rw [tokensV, if_neg (by omega)]
  rw [List.drop_zero] at h
  refine h.imp id ?_;rintro ⟨h1, pre, h2, h3⟩;refine ⟨h1, ?_⟩;generalize (scanF (s.length + 1) s ((0 : Nat) : Int) [] []).1 = l at h2;have hl : l.length = pre.length + 1 := by have := congrArg List.length h2; simpa using this
  have hx : ∀ (i : Nat) (x : Tok), l[i]? = some x → (pre ++ [(0, [], (s.length : Int))])[i]? = some (skel x) := fun i x hx => by
    rw [← h2, List.getElem?_map, hx]; rfl
  refine ⟨fun i x h => ?_, fun i x y h h' => ?_, fun i x h => ?_, ?_⟩
  · have h5 := hx i x h
    rcases Nat.lt_or_ge i pre.length with hi | hi
    · rw [List.getElem?_append_left hi] at h5
      obtain ⟨_, q2, q3, q4⟩ := h3.at_ _ (List.mem_of_getElem? h5);simp only [skel] at q2 q3 q4;exact ⟨q2, by omega, by omega, q4⟩
    have : i = pre.length := by have := (List.getElem?_eq_some_iff.1 h).1; omega
    rw [this, List.getElem?_append_right (Nat.le_refl _), Nat.sub_self] at h5
    simp only [List.getElem?_cons_zero, Option.some.injEq, skel, Prod.mk.injEq] at h5
    obtain ⟨_, q2, q3⟩ := h5;rw [← q2, ← q3]; simp
  · have h5 := hx i x h; have h6 := hx _ y h'
    rcases Nat.lt_or_ge (i + 1) pre.length with hi | hi
    · rw [List.getElem?_append_left (by omega)] at h5
      rw [List.getElem?_append_left hi] at h6
      exact h3.up i _ _ h5 h6
    have : i + 1 = pre.length := by have := (List.getElem?_eq_some_iff.1 h').1; omega
    rw [List.getElem?_append_left (by omega)] at h5
    rw [this, List.getElem?_append_right (Nat.le_refl _), Nat.sub_self] at h6
    simp only [List.getElem?_cons_zero, Option.some.injEq, skel, Prod.mk.injEq] at h6
    obtain ⟨_, q2, q3⟩ := h3.at_ _ (List.mem_of_getElem? h5);simp only [skel] at q2 q3
    omega
  · have h5 := hx i x h
    rcases Nat.lt_or_ge i pre.length with hi | hi
    · rw [List.getElem?_append_left hi] at h5
      have := (h3.at_ _ (List.mem_of_getElem? h5)).1;simp only [skel] at this;exact ⟨fun e => absurd e this, fun e => by omega⟩
    have : i = pre.length := by have := (List.getElem?_eq_some_iff.1 h).1; omega
    rw [this, List.getElem?_append_right (Nat.le_refl _), Nat.sub_self] at h5
    simp only [List.getElem?_cons_zero, Option.some.injEq, skel, Prod.mk.injEq] at h5
    exact ⟨fun _ => by omega, fun _ => h5.1.symm⟩
  obtain ⟨z, hz⟩ : ∃ z, l[pre.length]? = some z := ⟨_, List.getElem?_eq_getElem (by omega)⟩
  have h5 := hx _ z hz;rw [List.getElem?_append_right (Nat.le_refl _), Nat.sub_self] at h5;simp only [List.getElem?_cons_zero, Option.some.injEq, skel, Prod.mk.injEq] at h5;exact ⟨pre.length, z, hl, hz, h5.2.2.symm⟩
open Go Go.RowKit
def L10 (r : Bytes) : Prop := r.getLast? = some 10
theorem L10.drop {r : Bytes} (h : L10 r) {j : Nat} (hj : r.drop j ≠ []) : L10 (r.drop j) := by
  unfold L10 at h ⊢
  rw [List.getLast?_drop, if_neg (by intro h9; exact hj (List.drop_eq_nil_of_le h9))]; exact h
theorem L10.one {c : UInt8} (h : L10 [c]) : c = 10 := by simpa [L10] using h
theorem L10.ne {r : Bytes} (h : L10 r) : r ≠ [] := by intro e; subst e; simp [L10] at h
theorem L10.tail {c : UInt8} {u : Bytes} (h : L10 (c :: u)) (hu : u ≠ []) : L10 u := by
  have := L10.drop (j := 1) h (by simpa using hu); simpa using this
theorem runL_ext {m : UInt8} {esc : Bool} (t : Bytes) : ∀ (n : Nat) (r : Bytes) (k : Nat), r.length ≤ n → runL m esc r = some k → runL m esc (r ++ t) = some k
  | 0, r, k, hn, h => by rw [show r = [] from List.length_eq_zero_iff.1 (by omega)] at h; cases h
  | n + 1, [], k, _, h => by cases h
  | n + 1, [c], k, _, h => by
    simp only [runL] at h; split at h
    · rename_i hc; cases t <;> simp [runL, hc, ← h]
    cases h
  | n + 1, c :: d :: u, k, hn, h => by
    simp only [List.length_cons] at hn
    show runL m esc (c :: d :: (u ++ t)) = some k
    simp only [runL] at h ⊢
    split at h
    · rename_i hc; rw [if_pos hc]; exact h
    rename_i hc
    rw [if_neg hc]
    split at h
    · rename_i he
      rw [if_pos he]
      cases h1 : runL m esc u with
      | none => rw [h1] at h; cases h
      | some j => rw [runL_ext t n u j (by omega) h1]; rw [h1] at h; exact h
    rename_i he
    rw [if_neg he]
    cases h1 : runL m esc (d :: u) with
    | none => rw [h1] at h; cases h
    | some j =>
      have := runL_ext t n (d :: u) j (by simp only [List.length_cons]; omega) h1
      rw [show d :: (u ++ t) = (d :: u) ++ t from rfl, this]; rw [h1] at h; exact h
theorem untilN_ext {σ : Type} {sk : Bytes → Except Nat Nat} {beg : UInt8 → Bool} {fin : σ → UInt8 → Bool × σ} (t : Bytes) (hsk : ∀ r k, L10 r → sk r = .ok k → sk (r ++ t) = .ok k) : ∀ (n n' : Nat) (st : σ) (r : Bytes) (k : Nat), n ≤ n' → (r ≠ [] → L10 r) → untilN sk beg fin n st r = .ok k → untilN sk beg fin n' st (r ++ t) = .ok k
  | 0, _, _, _, k, _, _, h => by cases h
  | n + 1, 0, _, _, _, hn, _, _ => by omega
  | n + 1, n' + 1, st, [], k, _, _, h => by cases h
  | n + 1, n' + 1, st, c :: u, k, hn, hr, h => by
    have hL := hr (by simp)
    rw [List.cons_append]
    simp only [untilN] at h ⊢
    split at h
    · rename_i hf; rw [if_pos hf]; exact h
    rename_i hf
    rw [if_neg hf]
    split at h
    · rename_i hb
      rw [if_pos hb]
      split at h
      · cases h
      rename_i j hj
      have h2 := hsk _ _ hL hj;rw [List.cons_append] at h2;rw [h2];simp only [];obtain ⟨i, h3, rfl⟩ := map_ok h;have hne : (c :: u).drop j ≠ [] := by intro e; rw [e] at h3; cases n <;> cases h3
      have hjl : j ≤ (c :: u).length := by
        rcases Nat.lt_or_ge (c :: u).length j with h9 | h9
        · exact absurd (List.drop_eq_nil_of_le (Nat.le_of_lt h9)) hne
        exact h9
      have h4 := untilN_ext t hsk n n' _ _ _ (by omega) (fun _ => hL.drop hne) h3
      rw [← List.drop_append_of_le_length hjl, List.cons_append] at h4
      rw [h4]; rfl
    rename_i hb
    rw [if_neg hb]
    obtain ⟨i, h3, rfl⟩ := map_ok h;have hne : u ≠ [] := by intro e; rw [e] at h3; cases n <;> cases h3
    have h4 := untilN_ext t hsk n n' _ _ _ (by omega) (fun _ => hL.tail hne) h3
    rw [h4]; rfl
theorem skipL_ext (t : Bytes) : ∀ (f : Nat) (r : Bytes) (k : Nat), L10 r → skipL f r = .ok k → skipL f (r ++ t) = .ok k
  | 0, r, k, _, h => by cases h
  | f + 1, [], k, hL, _ => absurd rfl hL.ne
  | f + 1, c :: u, k, hL, h => by
    have run : ∀ {m : UInt8} {esc : Bool} {k : Nat}, (orSyn (runL m esc u)).map (· + 1) = .ok k → (orSyn (runL m esc (u ++ t))).map (· + 1) = .ok k := fun {m esc k} h => by
      cases h1 : runL m esc u with
      | none => rw [h1] at h; cases h
      | some j => rw [runL_ext t u.length u j (Nat.le_refl _) h1]; rw [h1] at h; exact h
    rw [List.cons_append, skipL_cons]
    rw [skipL_cons] at h
    split at h
    · rename_i hc
      rw [if_pos hc]
      have hu : u ≠ [] := by intro e; subst e; have := hL.one; rw [hc] at this; exact absurd this (by decide)
      have h1 := List.length_pos_iff.2 hu;rw [← h]; congr 1; rw [List.length_append]; omega
    rename_i hc
    rw [if_neg hc]
    split at h
    · rename_i h39; rw [if_pos h39]; exact run h
    rename_i h39
    rw [if_neg h39]
    split at h
    · rename_i h96; rw [if_pos h96]; exact run h
    rename_i h96
    rw [if_neg h96]
    split at h
    · rename_i h34
      rw [if_pos h34]
      obtain ⟨i, h3, rfl⟩ := map_ok h;rw [untilN_ext t (fun r k => skipL_ext t f r k) _ (u ++ t).length _ _ _ (by rw [List.length_append]; omega) (fun hu => hL.tail hu) h3]; rfl
    rename_i h34
    rw [if_neg h34]
    split at h
    · rename_i h36
      rw [if_pos h36]
      split at h
      · have := hL.one; rw [h36] at this; exact absurd this (by decide)
      rename_i d v
      rw [List.cons_append]
      simp only []
      split at h
      · rename_i h40
        rw [if_pos h40]
        obtain ⟨i, h3, rfl⟩ := map_ok h;rw [untilN_ext t (fun r k => skipL_ext t f r k) _ (v ++ t).length _ _ _ (by rw [List.length_append]; omega) (fun hv => (hL.tail (by simp)).tail hv) h3]; rfl
      rename_i h40
      rw [if_neg h40]
      split at h
      · rename_i h123
        rw [if_pos h123]
        obtain ⟨i, h3, rfl⟩ := map_ok h;rw [untilN_ext t (fun r k => skipL_ext t f r k) _ (v ++ t).length _ _ _ (by rw [List.length_append]; omega) (fun hv => (hL.tail (by simp)).tail hv) h3]; rfl
      rename_i h123; rw [if_neg h123]; exact h
    rename_i h36; rw [if_neg h36]; exact h
theorem idx_app {c : UInt8} : ∀ {s t : Bytes}, 0 ≤ idx s c → idx (s ++ t) c = idx s c
  | [], _, h => by simp [idx, Lib.indexByte] at h
  | d :: s, t, h => by
    simp only [idx, List.cons_append, Lib.indexByte] at h ⊢
    split at h
    · rename_i hd; rw [if_pos hd, if_pos hd]
    rename_i hd
    rw [if_neg hd, if_neg hd]
    split at h
    · omega
    rename_i hn
    have h1 : 0 ≤ idx s c := by
      rcases Int.lt_or_le (idx s c) 0 with h9 | h9
      · exact absurd (idx_neg h9) (by simpa using hn)
      exact h9
    have h2 := idx_app (t := t) h1;simp only [idx] at h2;rw [h2]
theorem hasP_app {r p t : Bytes} (h : p.length ≤ r.length) : Lib.hasPrefix (r ++ t) p = Lib.hasPrefix r p := by
  simp only [Lib.hasPrefix]
  rw [Bool.eq_iff_iff, List.isPrefixOf_iff_prefix, List.isPrefixOf_iff_prefix]
  constructor
  · intro h1; exact List.prefix_of_prefix_length_le h1 (List.prefix_append r t) h
  intro h1; exact h1.trans (List.prefix_append r t)
theorem hasP_no {r p t : Bytes} (hL : L10 r) (hp : (10 : UInt8) ∉ p) : Lib.hasPrefix (r ++ t) p = Lib.hasPrefix r p := by
  rcases Nat.lt_or_ge r.length p.length with h | h
  · have h1 : Lib.hasPrefix r p = false := by
      cases h2 : Lib.hasPrefix r p with
      | false => rfl
      | true => have := pre_len h2; omega
    rw [h1]
    cases h2 : Lib.hasPrefix (r ++ t) p with
    | false => rfl
    | true =>
      exfalso
      simp only [Lib.hasPrefix] at h2
      have h3 := List.isPrefixOf_iff_prefix.1 h2;have h4 : r <+: p := List.prefix_of_prefix_length_le (List.prefix_append r t) h3 (by omega)
      exact hp (h4.subset (List.mem_of_getLast? hL))
  exact hasP_app h
theorem findN_congr {p q : Bytes → Bool} : ∀ (l : List Bytes) (i : Nat), (∀ x, x ∈ l → p x = q x) → findN p i l = findN q i l
  | [], _, _ => rfl
  | x :: l, i, h => by
    simp only [findN, h x (by simp)]
    rw [findN_congr l (i + 1) fun y hy => h y (by simp [hy])]
theorem byte_app {r t : Bytes} {i : Nat} (h : i < r.length) : byte (r ++ t) i = byte r i := by
  simp [byte, List.getD_eq_getElem?_getD, List.getElem?_append_left h]
theorem blank_facts (r : Bytes) : blankV r ≤ r.length ∧ (r.drop (blankV r) = [] ∨ (byte (r.drop (blankV r)) 0 ≠ 32 ∧ byte (r.drop (blankV r)) 0 ≠ 9 ∧ byte (r.drop (blankV r)) 0 ≠ 35)) :=
  ⟨blankL_le _ _, blankL_stop _ _ (Nat.le_refl _)⟩
theorem step_len {r : Bytes} {i : Int} (hr : r.drop (blankV r) ≠ []) (he : (nextT (r.drop (blankV r)) i).2.2 = 0) : ((r.drop (blankV r)).drop (nextT (r.drop (blankV r)) i).2.1).length < r.length := by
  obtain ⟨h1, h2⟩ := blank_facts r;have hb := h2.resolve_left hr
  rcases nextT_ok hr hb i with ⟨h, _⟩ | ⟨_, _, hn1, hn2, _⟩
  · exact absurd he h
  simp only [List.length_drop] at hn2 ⊢
  have := List.length_pos_iff.2 hr;simp only [List.length_drop] at this
  omega
theorem scan_fuel : ∀ (k k' : Nat) (r : Bytes) (i : Int) (out : List Tok) (ws : List (Nat × Bool)), r.length < k → r.length < k' → scanF k r i out ws = scanF k' r i out ws
  | 0, _, r, i, out, ws, h, _ => by omega
  | _ + 1, 0, r, i, out, ws, _, h => by omega
  | k + 1, k' + 1, r, i, out, ws, h, h' => by
    simp only [scanF]
    split
    · rfl
    rename_i he
    split
    · rfl
    rename_i hk
    have he' : (nextT (r.drop (blankV r)) (i + blankV r)).2.2 = 0 := by simpa using he
    have hr : r.drop (blankV r) ≠ [] := by
      intro e; rw [e] at hk; exact hk (by unfold nextT; rw [if_pos rfl])
    have hl := step_len hr he'
    split
    · refine scan_fuel k k' _ _ _ _ ?_ ?_ <;> (rw [List.length_drop]; omega)
    exact scan_fuel k k' _ _ _ _ (by omega) (by omega)
def shT (d : Int) (t : Tok) : Tok := { t with at_ := t.at_ + d }
theorem nextT_shift (r : Bytes) (i d : Int) : nextT r (i + d) = (shT d (nextT r i).1, (nextT r i).2.1, (nextT r i).2.2) := by
  unfold nextT shT
  split
  · rfl
  split
  · rfl
  split
  · rfl
  split
  · simp only []; congr 2; omega
  rfl
theorem getD_app {α : Type} {a b : List α} {j : Nat} {d : α} : (a ++ b).getD (j + a.length) d = b.getD j d := by
  rw [List.getD_eq_getElem?_getD, List.getD_eq_getElem?_getD, List.getElem?_append_right (by omega), Nat.add_sub_cancel]
theorem linesV_shift (pre : List Tok) (d : Int) : ∀ (ws : List (Nat × Bool)) (out : List Tok) (r : Bytes), (∀ w, w ∈ ws → w.1 < out.length) →
    linesV (pre ++ out.map (shT d)) (ws.map fun w => (w.1 + pre.length, w.2)) r = (pre ++ (linesV out ws r).1.map (shT d), (linesV out ws r).2)
  | [], out, r, _ => rfl
  | (j, st) :: ws, out, r, h => by
    have hj : j < out.length := h (j, st) (by simp)
    simp only [List.map_cons, linesV]
    have h1 : (pre ++ out.map (shT d)).getD (j + pre.length) ⟨0, [], 0, [], false⟩ = shT d (out.getD j ⟨0, [], 0, [], false⟩) := by
      rw [getD_app, List.getD_eq_getElem?_getD, List.getD_eq_getElem?_getD, List.getElem?_map, List.getElem?_eq_getElem hj]; rfl
    rw [h1]
    have h2 : ∀ (y : Tok), (pre ++ out.map (shT d)).set (j + pre.length) (shT d y) = pre ++ (out.set j y).map (shT d) := fun y => by
      rw [List.set_append_right _ _ (by omega), Nat.add_sub_cancel, ← List.map_set]
    have h3 := h2 { (out.getD j ⟨0, [], 0, [], false⟩) with here := (out.getD j ⟨0, [], 0, [], false⟩).here ++ (bodyV (plainV (out.getD j ⟨0, [], 0, [], false⟩).text).1 st r).1, raw := (plainV (out.getD j ⟨0, [], 0, [], false⟩).text).2 };simp only [shT] at h3 ⊢;rw [h3];have h4 := linesV_shift pre d ws (out.set j { (out.getD j ⟨0, [], 0, [], false⟩) with here := (out.getD j ⟨0, [], 0, [], false⟩).here ++ (bodyV (plainV (out.getD j ⟨0, [], 0, [], false⟩).text).1 st r).1, raw := (plainV (out.getD j ⟨0, [], 0, [], false⟩).text).2 }) (r.drop (bodyV (plainV (out.getD j ⟨0, [], 0, [], false⟩).text).1 st r).2) (fun w hw => by rw [List.length_set]; exact h w (by simp [hw]))
    simp only [shT] at h4
    rw [h4]
def Quiet (pre : List Tok) : Prop := ∀ z, pre.getLast? = some z → ¬ (z.kind = 2 ∧ Lib.hasPrefix z.text [60, 60] = true)
theorem hereV_shift {pre out : List Tok} (hq : Quiet pre) (d : Int) (t : Tok) : hereV (pre ++ out.map (shT d)) (shT d t) = hereV out t := by
  unfold hereV
  cases hl : out.getLast? with
  | none =>
    have : out = [] := by simpa using hl
    subst this
    rw [List.map_nil, List.append_nil]
    cases hp : pre.getLast? with
    | none => rfl
    | some z =>
      simp only []
      rw [if_neg (fun h => hq z hp ⟨h.2.1, h.2.2⟩)]
  | some z =>
    have h1 : (pre ++ out.map (shT d)).getLast? = some (shT d z) := by
      rw [List.getLast?_append, List.getLast?_map, hl]; rfl
    rw [h1]; rfl
theorem pushW_shift {pre out : List Tok} (hq : Quiet pre) (d : Int) (ws : List (Nat × Bool)) (t : Tok) : pushW (pre ++ out.map (shT d)) (ws.map fun w => (w.1 + pre.length, w.2)) (shT d t) = (pushW out ws t).map fun w => (w.1 + pre.length, w.2) := by
  unfold pushW
  rw [hereV_shift hq]
  cases hereV out t with
  | none => rfl
  | some b => simp only [List.map_append, List.map_cons, List.map_nil, List.length_append, List.length_map]; rw [Nat.add_comm]
theorem pushW_lt {out : List Tok} {ws : List (Nat × Bool)} {t : Tok} (h : ∀ w, w ∈ ws → w.1 < out.length) : ∀ w, w ∈ pushW out ws t → w.1 < (out ++ [t]).length := fun w hw => by
  rw [List.length_append]
  unfold pushW at hw
  split at hw
  · rcases List.mem_append.1 hw with h1 | h1
    · have := h w h1; simp; omega
    rw [List.mem_singleton.1 h1]; simp
  have := h w hw; simp; omega
theorem scan_shift {pre : List Tok} (hq : Quiet pre) (d : Int) : ∀ (k : Nat) (r : Bytes) (i : Int) (out : List Tok) (ws : List (Nat × Bool)), (∀ w, w ∈ ws → w.1 < out.length) → r.length < k →
    scanF k r (i + d) (pre ++ out.map (shT d)) (ws.map fun w => (w.1 + pre.length, w.2)) = if (scanF k r i out ws).2.2 ≠ 0 then ([], (scanF k r i out ws).2.1 + d, (scanF k r i out ws).2.2) else (pre ++ (scanF k r i out ws).1.map (shT d), (scanF k r i out ws).2.1, 0)
  | 0, r, i, out, ws, _, h => by omega
  | k + 1, r, i, out, ws, hw, hk => by
    simp only [scanF]
    have hN := nextT_shift (r.drop (blankV r)) (i + blankV r) d;rw [show i + d + (blankV r : Int) = i + blankV r + d by omega, hN]
    by_cases he : (nextT (r.drop (blankV r)) (i + blankV r)).2.2 = 0
    · have he2 : ¬ (nextT (r.drop (blankV r)) (i + blankV r)).2.2 ≠ 0 := by simpa using he
      have hpw := pushW_shift (out := out) hq d ws (nextT (r.drop (blankV r)) (i + blankV r)).1;have hlt := pushW_lt (t := (nextT (r.drop (blankV r)) (i + blankV r)).1) hw;have hmap : pre ++ out.map (shT d) ++ [shT d (nextT (r.drop (blankV r)) (i + blankV r)).1] = pre ++ (out ++ [(nextT (r.drop (blankV r)) (i + blankV r)).1]).map (shT d) := by simp
      rw [if_neg he2, if_neg he2]
      have hkd : (shT d (nextT (r.drop (blankV r)) (i + blankV r)).1).kind = (nextT (r.drop (blankV r)) (i + blankV r)).1.kind := rfl;simp only [hkd, hmap, hpw]
      by_cases h0 : (nextT (r.drop (blankV r)) (i + blankV r)).1.kind = 0
      · rw [if_pos h0, if_pos h0]
        rw [linesV_shift pre d _ _ [] hlt]
        simp
      rw [if_neg h0, if_neg h0]
      have hr : r.drop (blankV r) ≠ [] := by
        intro e; rw [e] at h0; exact h0 (by unfold nextT; rw [if_pos rfl])
      have hl := step_len hr he
      split
      · rw [linesV_shift pre d _ _ _ hlt]
        simp only []
        have hlen : ∀ w : Nat × Bool, w ∈ [] → w.1 < (linesV (out ++ [(nextT (r.drop (blankV r)) (i + blankV r)).1]) (pushW out ws (nextT (r.drop (blankV r)) (i + blankV r)).1) ((r.drop (blankV r)).drop (nextT (r.drop (blankV r)) (i + blankV r)).2.1)).1.length := fun w h => by cases h
        have ih := scan_shift hq d k _ (i + blankV r + (nextT (r.drop (blankV r)) (i + blankV r)).2.1 + (linesV (out ++ [(nextT (r.drop (blankV r)) (i + blankV r)).1]) (pushW out ws (nextT (r.drop (blankV r)) (i + blankV r)).1) ((r.drop (blankV r)).drop (nextT (r.drop (blankV r)) (i + blankV r)).2.1)).2) _ [] hlen (by rw [List.length_drop]; omega : (((r.drop (blankV r)).drop (nextT (r.drop (blankV r)) (i + blankV r)).2.1).drop (linesV (out ++ [(nextT (r.drop (blankV r)) (i + blankV r)).1]) (pushW out ws (nextT (r.drop (blankV r)) (i + blankV r)).1) ((r.drop (blankV r)).drop (nextT (r.drop (blankV r)) (i + blankV r)).2.1)).2).length < k)
        rw [List.map_nil] at ih
        rw [← ih]
        congr 1
        omega
      have ih := scan_shift hq d k _ (i + blankV r + (nextT (r.drop (blankV r)) (i + blankV r)).2.1) (out ++ [(nextT (r.drop (blankV r)) (i + blankV r)).1]) (pushW out ws (nextT (r.drop (blankV r)) (i + blankV r)).1) hlt (by omega : ((r.drop (blankV r)).drop (nextT (r.drop (blankV r)) (i + blankV r)).2.1).length < k)
      rw [← ih]
      congr 1
      omega
    have he2 : (nextT (r.drop (blankV r)) (i + blankV r)).2.2 ≠ 0 := he;rw [if_pos he2, if_pos he2, if_pos he2]; rfl
open Go Go.RowKit
def SkOk (x : Int × Bytes × Int) : Prop := (x.1 = 2 → x.2.1 ∈ opsT) ∧ (x.1 = 3 → x.2.1 = [10])
theorem nextT_sk {r : Bytes} (hb : r ≠ [] → byte r 0 ≠ 32 ∧ byte r 0 ≠ 9 ∧ byte r 0 ≠ 35) (i : Int) : SkOk (skel (nextT r i).1) := by
  unfold nextT
  split
  · exact ⟨fun h => by simp [skel] at h, fun h => by simp [skel] at h⟩
  rename_i hr
  split
  · exact ⟨fun h => by simp [skel] at h, fun _ => rfl⟩
  rename_i h10
  split
  · rename_i hm
    obtain ⟨j, h1, h2, h3, _⟩ := op_hit hm h10 (hb hr).1 (hb hr).2.1 hr;refine ⟨fun _ => ?_, fun h => by simp [skel] at h⟩
    show opT r ∈ opsT
    rw [h3, List.getD_eq_getElem?_getD, List.getElem?_eq_getElem h2]; exact List.getElem_mem _
  split
  · exact ⟨fun h => by simp [skel] at h, fun h => by simp [skel] at h⟩
  refine ⟨fun h => ?_, fun h => ?_⟩ <;> (simp only [skel] at h; split at h <;> exact absurd h (by decide))
theorem scan_pre : ∀ (k : Nat) (r : Bytes) (i : Int) (out : List Tok) (ws : List (Nat × Bool)), (∀ x, x ∈ out.map skel → SkOk x) → (scanF k r i out ws).2.2 = 0 → (∃ suf, (scanF k r i out ws).1.map skel = out.map skel ++ suf) ∧ ∀ x, x ∈ (scanF k r i out ws).1.map skel → SkOk x
  | 0, r, i, out, ws, ho, _ => ⟨⟨[], by simp [scanF]⟩, ho⟩
  | k + 1, r, i, out, ws, ho, he => by
    simp only [scanF] at he ⊢
    have hb := blank_facts r;have hsk := nextT_sk (r := r.drop (blankV r)) (fun h => hb.2.resolve_left h) (i + blankV r)
    generalize nextT (r.drop (blankV r)) (i + blankV r) = z at he hsk ⊢
    have ho2 : ∀ x, x ∈ (out ++ [z.1]).map skel → SkOk x := fun x hx => by
      rw [List.map_append] at hx
      rcases List.mem_append.1 hx with h | h
      · exact ho x h
      rw [List.map_cons, List.map_nil, List.mem_singleton] at h; rw [h]; exact hsk
    split at he
    · rename_i h; exact absurd he h
    rename_i h
    rw [if_neg h]
    split at he
    · rename_i h0
      rw [if_pos h0]
      simp only []
      rw [linesV_skel]
      exact ⟨⟨[skel z.1], by simp⟩, ho2⟩
    rename_i h0
    rw [if_neg h0]
    split at he
    · rename_i h3
      rw [if_pos h3]
      have hs := linesV_skel (pushW out ws z.1) (out ++ [z.1]) ((r.drop (blankV r)).drop z.2.1);obtain ⟨⟨suf, q1⟩, q2⟩ := scan_pre k _ _ _ _ (by rw [hs]; exact ho2) he
      exact ⟨⟨skel z.1 :: suf, by rw [q1, hs]; simp⟩, q2⟩
    rename_i h3
    rw [if_neg h3]
    obtain ⟨⟨suf, q1⟩, q2⟩ := scan_pre k _ _ _ _ ho2 he;exact ⟨⟨skel z.1 :: suf, by rw [q1]; simp⟩, q2⟩
theorem scan_end {k : Nat} {i : Int} {out : List Tok} (hk : 0 < k) : scanF k [] i out [] = (out ++ [⟨0, [], i, [], false⟩], 0, 0) := by
  obtain ⟨k, rfl⟩ : ∃ j, k = j + 1 := ⟨k - 1, by omega⟩
  have hb : blankV [] = 0 := rfl;have hn : nextT [] (i + (0 : Nat)) = (⟨0, [], i + (0 : Nat), [], false⟩, 0, 0) := rfl;simp only [scanF, hb, List.drop_nil, hn];rw [if_neg (by simp), if_pos trivial]
  have hp : pushW out [] ⟨0, [], i + (0 : Nat), [], false⟩ = [] := by
    unfold pushW hereV
    cases out.getLast? with
    | none => rfl
    | some z => simp
  rw [hp]
  simp [linesV]
open Go Go.RowKit
structure Zst where
  i : Nat
  out : List Tok
  ws : List (Nat × Bool)
def tZ (s : Bytes) (Z : Zst) : Tok × Nat × Int := nextT (s.drop Z.i) (Z.i : Int)
def yZ (s : Bytes) (Z : Zst) : Tok × Int := ((tZ s Z).1, (tZ s Z).2.2)
def nxO (s : Bytes) (Z : Zst) : List Tok := Z.out ++ [(tZ s Z).1]
def nxW (s : Bytes) (Z : Zst) : List (Nat × Bool) := pushW Z.out Z.ws (tZ s Z).1
def nxI (s : Bytes) (Z : Zst) : Nat := Z.i + (tZ s Z).2.1
def nxZ (s : Bytes) (Z : Zst) : Zst :=
  if (tZ s Z).1.kind = 3 then ⟨nxI s Z + (linesV (nxO s Z) (nxW s Z) (s.drop (nxI s Z))).2 + blankV (s.drop (nxI s Z + (linesV (nxO s Z) (nxW s Z) (s.drop (nxI s Z))).2)), (linesV (nxO s Z) (nxW s Z) (s.drop (nxI s Z))).1, []⟩
  else ⟨nxI s Z + blankV (s.drop (nxI s Z)), nxO s Z, nxW s Z⟩
def endZ (s : Bytes) (Z : Zst) : Bool := decide ((tZ s Z).2.2 ≠ 0) || decide ((tZ s Z).1.kind = 0)
theorem endZ_iff {s : Bytes} {Z : Zst} : endZ s Z = true ↔ (tZ s Z).2.2 ≠ 0 ∨ (tZ s Z).1.kind = 0 := by simp [endZ]
theorem endZ_no {s : Bytes} {Z : Zst} : endZ s Z = false ↔ (tZ s Z).2.2 = 0 ∧ (tZ s Z).1.kind ≠ 0 := by simp [endZ]
def yldF (s : Bytes) : Nat → Zst → List (Tok × Int)
  | 0, _ => []
  | k + 1, Z => yZ s Z :: (if endZ s Z then [] else yldF s k (nxZ s Z))
def itZ (s : Bytes) : Nat → Zst → Zst
  | 0, Z => Z
  | n + 1, Z => itZ s n (nxZ s Z)
theorem itZ_succ (s : Bytes) : ∀ (n : Nat) (Z : Zst), itZ s (n + 1) Z = nxZ s (itZ s n Z)
  | 0, Z => rfl
  | n + 1, Z => itZ_succ s n (nxZ s Z)
def GoodO (n i : Nat) (l : List Tok) : Prop := ∀ z, z ∈ l → z.text.length ≤ n ∧ z.here.length ≤ i
theorem GoodO.mono {n i j : Nat} {l : List Tok} (h : GoodO n i l) (hij : i ≤ j) : GoodO n j l := fun z hz => ⟨(h z hz).1, Nat.le_trans (h z hz).2 hij⟩
theorem trimT_len : ∀ l : Bytes, (trimT l).length ≤ l.length
  | [] => Nat.le_refl _
  | c :: t => by rw [trimT]; split; (have := trimT_len t; simp only [List.length_cons]; omega); exact Nat.le_refl _
theorem bodyL_len (fin : Bytes) (st : Bool) : ∀ (k : Nat) (r : Bytes), (bodyL fin st k r).1.length ≤ (bodyL fin st k r).2
  | 0, r => by simp [bodyL]
  | k + 1, r => by
    rw [bodyL]
    split
    · simp
    have h2 : (if st = true then trimT (Lib.cut r [10]).1 else (Lib.cut r [10]).1).length ≤ (Lib.cut r [10]).1.length := by split; exact trimT_len _; exact Nat.le_refl _
    simp only []
    generalize (if st = true then trimT (Lib.cut r [10]).1 else (Lib.cut r [10]).1) = l2 at h2 ⊢
    by_cases hf : l2 = fin
    · rw [if_pos hf]; exact Nat.zero_le _
    rw [if_neg hf]
    cases hm : (Lib.cut r [10]).2.2 with
    | true => have h1 := bodyL_len fin st k (r.drop ((Lib.cut r [10]).1.length + 1)); simp; omega
    | false => have h1 := bodyL_len fin st k (r.drop (Lib.cut r [10]).1.length); simp; omega
theorem linesV_good {n : Nat} : ∀ (ws : List (Nat × Bool)) (out : List Tok) (r : Bytes) (i : Nat), GoodO n i out → (∀ x, x ∈ ws → x.1 < out.length) → GoodO n (i + (linesV out ws r).2) (linesV out ws r).1
  | [], out, r, i, h, _ => h
  | (j, st) :: ws, out, r, i, h, hw => by
    simp only [linesV]
    have hj : j < out.length := hw (j, st) (by simp)
    have hb := bodyL_len (plainV (out.getD j ⟨0, [], 0, [], false⟩).text).1 st r.length r;have hg : out.getD j ⟨0, [], 0, [], false⟩ ∈ out := by rw [List.getD_eq_getElem?_getD, List.getElem?_eq_getElem hj]; exact List.getElem_mem hj
    generalize out.getD j ⟨0, [], 0, [], false⟩ = z at hb hg ⊢
    have h2 := linesV_good ws (out.set j { z with here := z.here ++ (bodyV (plainV z.text).1 st r).1, raw := (plainV z.text).2 }) (r.drop (bodyV (plainV z.text).1 st r).2) (i + (bodyV (plainV z.text).1 st r).2) (by
      intro u hu
      rcases List.mem_or_eq_of_mem_set hu with h1 | h1
      · exact ⟨(h u h1).1, by have := (h u h1).2; omega⟩
      subst h1
      refine ⟨(h z hg).1, ?_⟩;have := (h z hg).2
      show (z.here ++ (bodyV (plainV z.text).1 st r).1).length ≤ _
      rw [List.length_append]; unfold bodyV; omega) (fun x hx => by rw [List.length_set]; exact hw x (List.mem_cons_of_mem _ hx))
    intro u hu;exact ⟨(h2 u hu).1, by have := (h2 u hu).2; omega⟩
structure InvZ (s : Bytes) (Z : Zst) : Prop where
  le : Z.i ≤ s.length
  bl : s.drop Z.i = [] ∨ (byte (s.drop Z.i) 0 ≠ 32 ∧ byte (s.drop Z.i) 0 ≠ 9 ∧ byte (s.drop Z.i) 0 ≠ 35)
  ws : ∀ x, x ∈ Z.ws → x.1 < Z.out.length
  good : GoodO s.length Z.i Z.out
theorem blank_at (s : Bytes) {j : Nat} (hj : j ≤ s.length) : j + blankV (s.drop j) ≤ s.length ∧ (s.drop (j + blankV (s.drop j)) = [] ∨ (byte (s.drop (j + blankV (s.drop j))) 0 ≠ 32 ∧ byte (s.drop (j + blankV (s.drop j))) 0 ≠ 9 ∧ byte (s.drop (j + blankV (s.drop j))) 0 ≠ 35)) := by
  have h := blank_facts (s.drop j);rw [List.drop_drop] at h;simp only [List.length_drop] at h;exact ⟨by omega, h.2⟩
theorem inv_first (s : Bytes) : InvZ s ⟨blankV s, [], []⟩ := by
  have h := blank_at s (Nat.zero_le s.length);simp only [Nat.zero_add, List.drop_zero] at h;exact ⟨h.1, h.2, fun _ h => (by cases h), fun _ h => (by cases h)⟩
theorem inv_mid {s : Bytes} {Z : Zst} (h : InvZ s Z) (he : endZ s Z = false) : Z.i < nxI s Z ∧ nxI s Z ≤ s.length ∧ (∀ x, x ∈ nxW s Z → x.1 < (nxO s Z).length) ∧ GoodO s.length (nxI s Z) (nxO s Z) := by
  obtain ⟨h1, h2⟩ := endZ_no.1 he;have hr : s.drop Z.i ≠ [] := by intro e; apply h2; unfold tZ nextT; rw [if_pos e]
  rcases nextT_ok hr (h.bl.resolve_left hr) (Z.i : Int) with ⟨h3, _⟩ | ⟨_, _, hn1, hn2, htx, _, hh, _⟩
  · exact absurd h1 h3
  have hle := h.le;simp only [List.length_drop] at hn2;refine ⟨by unfold nxI tZ; omega, by unfold nxI tZ; omega, pushW_lt h.ws, fun u hu => ?_⟩
  rcases List.mem_append.1 hu with hu | hu
  · have := h.good u hu; exact ⟨this.1, by unfold nxI; omega⟩
  rw [List.mem_singleton.1 hu]
  refine ⟨?_, ?_⟩
  · show (nextT (s.drop Z.i) Z.i).1.text.length ≤ _
    rw [htx, List.length_take, List.length_drop]; omega
  show (nextT (s.drop Z.i) Z.i).1.here.length ≤ _
  rw [hh]; exact Nat.zero_le _
theorem inv_next {s : Bytes} {Z : Zst} (h : InvZ s Z) (he : endZ s Z = false) : InvZ s (nxZ s Z) ∧ Z.i < (nxZ s Z).i := by
  obtain ⟨h1, h2, h3, h4⟩ := inv_mid h he
  unfold nxZ
  split
  · have hl := linesV_le (nxW s Z) (nxO s Z) (s.drop (nxI s Z));rw [List.length_drop] at hl;obtain ⟨b1, b2⟩ := blank_at s (j := nxI s Z + (linesV (nxO s Z) (nxW s Z) (s.drop (nxI s Z))).2) (by omega)
    exact ⟨⟨b1, b2, fun _ h => (by cases h), (linesV_good _ _ _ _ h4 h3).mono (Nat.le_add_right _ _)⟩, by show Z.i < nxI s Z + _ + _; omega⟩
  obtain ⟨b1, b2⟩ := blank_at s h2;exact ⟨⟨b1, b2, h3, h4.mono (Nat.le_add_right _ _)⟩, by show Z.i < nxI s Z + _; omega⟩
theorem yld_at (s : Bytes) : ∀ (k : Nat) (Z : Zst), InvZ s Z → s.length - Z.i < k → 0 < (yldF s k Z).length ∧
    ∀ n, n < (yldF s k Z).length → (yldF s k Z)[n]? = some (yZ s (itZ s n Z)) ∧ InvZ s (itZ s n Z) ∧ (endZ s (itZ s n Z) = true ↔ n + 1 = (yldF s k Z).length)
  | 0, Z, _, h => by omega
  | k + 1, Z, hi, hk => by
    rw [yldF]
    refine ⟨by simp, ?_⟩
    cases he : endZ s Z with
    | true =>
      intro n hn;simp at hn; subst hn;exact ⟨rfl, hi, by simp [itZ, he]⟩
    | false =>
      obtain ⟨h1, h2⟩ := inv_next hi he;have hle := h1.le;obtain ⟨h3, h4⟩ := yld_at s k (nxZ s Z) h1 (by omega)
      intro n hn;simp only [Bool.false_eq_true, if_false, List.length_cons] at hn ⊢
      cases n with
      | zero => exact ⟨rfl, hi, by rw [show itZ s 0 Z = Z from rfl, he]; constructor; (intro h; cases h); (intro h; omega)⟩
      | succ n =>
        obtain ⟨h5, h6, h7⟩ := h4 n (by omega)
        exact ⟨by rw [List.getElem?_cons_succ]; exact h5, h6, by rw [show itZ s (n + 1) Z = itZ s n (nxZ s Z) from rfl, h7]; omega⟩
def endV (s : Bytes) (Z : Zst) : List Tok × Int × Int := if (tZ s Z).2.2 ≠ 0 then ([], (tZ s Z).1.at_, (tZ s Z).2.2) else ((linesV (nxO s Z) (nxW s Z) []).1, 0, 0)
theorem scan_it (s : Bytes) : ∀ (k i : Nat) (out : List Tok) (ws : List (Nat × Bool)), InvZ s ⟨i + blankV (s.drop i), out, ws⟩ → i ≤ s.length → s.length - i < k → ∀ n, n + 1 = (yldF s k ⟨i + blankV (s.drop i), out, ws⟩).length → scanF k (s.drop i) i out ws = endV s (itZ s n ⟨i + blankV (s.drop i), out, ws⟩)
  | 0, i, out, ws, _, _, h, n, hn => by omega
  | k + 1, i, out, ws, hi, hil, hk, n, hn => by
    rw [yldF] at hn
    have et : tZ s ⟨i + blankV (s.drop i), out, ws⟩ = nextT ((s.drop i).drop (blankV (s.drop i))) ((i : Int) + (blankV (s.drop i) : Nat)) := by
      unfold tZ; rw [List.drop_drop]; rfl
    cases he : endZ s ⟨i + blankV (s.drop i), out, ws⟩ with
    | true =>
      rw [he] at hn
      obtain rfl : n = 0 := by simp at hn; exact hn
      simp only [scanF, ← et]
      show _ = endV s ⟨i + blankV (s.drop i), out, ws⟩
      unfold endV
      rcases endZ_iff.1 he with h | h
      · rw [if_pos h, if_pos h]
      by_cases h2 : (tZ s ⟨i + blankV (s.drop i), out, ws⟩).2.2 ≠ 0
      · rw [if_pos h2, if_pos h2]
      rw [if_neg h2, if_neg h2, if_pos h]; rfl
    | false =>
      rw [he] at hn
      simp only [Bool.false_eq_true, if_false, List.length_cons] at hn
      obtain ⟨h1, h2⟩ := endZ_no.1 he;obtain ⟨m1, m2, m3, m4⟩ := inv_mid hi he;obtain ⟨q1, q2⟩ := inv_next hi he;have hp := (yld_at s k _ q1 (by have := q1.le; show _ < k; have := hi.le; simp only at q2 this ⊢; omega)).1
      obtain ⟨n, rfl⟩ : ∃ z, n = z + 1 := ⟨n - 1, by omega⟩
      simp only [scanF, ← et]
      rw [if_neg (by rw [h1]; simp), if_neg h2]
      rw [show itZ s (n + 1) ⟨i + blankV (s.drop i), out, ws⟩ = itZ s n (nxZ s ⟨i + blankV (s.drop i), out, ws⟩) from rfl]
      by_cases h3 : (tZ s ⟨i + blankV (s.drop i), out, ws⟩).1.kind = 3
      · rw [if_pos h3]
        have enx : nxZ s ⟨i + blankV (s.drop i), out, ws⟩ = ⟨nxI s ⟨i + blankV (s.drop i), out, ws⟩ + (linesV (nxO s ⟨i + blankV (s.drop i), out, ws⟩) (nxW s ⟨i + blankV (s.drop i), out, ws⟩) (s.drop (nxI s ⟨i + blankV (s.drop i), out, ws⟩))).2 + blankV (s.drop (nxI s ⟨i + blankV (s.drop i), out, ws⟩ + (linesV (nxO s ⟨i + blankV (s.drop i), out, ws⟩) (nxW s ⟨i + blankV (s.drop i), out, ws⟩) (s.drop (nxI s ⟨i + blankV (s.drop i), out, ws⟩))).2)), (linesV (nxO s ⟨i + blankV (s.drop i), out, ws⟩) (nxW s ⟨i + blankV (s.drop i), out, ws⟩) (s.drop (nxI s ⟨i + blankV (s.drop i), out, ws⟩))).1, []⟩ := by unfold nxZ; rw [if_pos h3]
        have ed : ((s.drop i).drop (blankV (s.drop i))).drop (tZ s ⟨i + blankV (s.drop i), out, ws⟩).2.1 = s.drop (nxI s ⟨i + blankV (s.drop i), out, ws⟩) := by rw [List.drop_drop, List.drop_drop]; unfold nxI; congr 1; exact (Nat.add_assoc _ _ _).symm
        rw [ed, List.drop_drop]
        have hl := linesV_le (nxW s ⟨i + blankV (s.drop i), out, ws⟩) (nxO s ⟨i + blankV (s.drop i), out, ws⟩) (s.drop (nxI s ⟨i + blankV (s.drop i), out, ws⟩));rw [List.length_drop] at hl;rw [enx] at hn q1 ⊢;have hi2 := hi.le;simp only at m1 hi2;have r := scan_it s k (nxI s ⟨i + blankV (s.drop i), out, ws⟩ + (linesV (nxO s ⟨i + blankV (s.drop i), out, ws⟩) (nxW s ⟨i + blankV (s.drop i), out, ws⟩) (s.drop (nxI s ⟨i + blankV (s.drop i), out, ws⟩))).2) _ [] q1 (by omega) (by omega) n (by omega)
        rw [← r]
        congr 1
      rw [if_neg h3]
      have enx : nxZ s ⟨i + blankV (s.drop i), out, ws⟩ = ⟨nxI s ⟨i + blankV (s.drop i), out, ws⟩ + blankV (s.drop (nxI s ⟨i + blankV (s.drop i), out, ws⟩)), nxO s ⟨i + blankV (s.drop i), out, ws⟩, nxW s ⟨i + blankV (s.drop i), out, ws⟩⟩ := by unfold nxZ; rw [if_neg h3]
      have ed : ((s.drop i).drop (blankV (s.drop i))).drop (tZ s ⟨i + blankV (s.drop i), out, ws⟩).2.1 = s.drop (nxI s ⟨i + blankV (s.drop i), out, ws⟩) := by rw [List.drop_drop, List.drop_drop]; unfold nxI; congr 1; exact (Nat.add_assoc _ _ _).symm
      rw [ed]
      rw [enx] at hn q1 ⊢
      have hi2 := hi.le;simp only at m1 hi2;have r := scan_it s k (nxI s ⟨i + blankV (s.drop i), out, ws⟩) _ _ q1 m2 (by omega) n (by omega)
      rw [← r]
      congr 1
def mO (s : Bytes) (n : Nat) : List Tok := match n with | 0 => [] | n + 1 => nxO s (itZ s n ⟨blankV s, [], []⟩)
def mW (s : Bytes) (n : Nat) : List (Nat × Bool) := match n with | 0 => [] | n + 1 => nxW s (itZ s n ⟨blankV s, [], []⟩)
theorem tokensV_end {s : Bytes} (hs : s.length ≤ 16384) {n : Nat} (hn : n + 1 = (yldF s (s.length + 1) ⟨blankV s, [], []⟩).length) : tokensV s = endV s (itZ s n ⟨blankV s, [], []⟩) := by
  unfold tokensV; rw [if_neg (by omega)]
  have h := scan_it s (s.length + 1) 0 [] [] (by simpa using inv_first s) (Nat.zero_le _) (by omega) n (by simpa using hn)
  simpa using h
open Go
section rules
variable {P : Program} {X : Value → World → Prop} {r : Option Nat} {n : Nat} {O : Array Oper} {Q : Post} {l : List Oper} {E : Env} {ds : List Deferred} {w : World} {dst : Option Nat} {ty : TypeId} {pos : String} {af : Array Edge} {g : Option (Nat × Bool)}
end rules
def flatC {α : Type} (f : α → List Value) (xs : List α) : List Value := xs.flatMap f
section flat
variable {α : Type} {sz : Nat} {f : α → List Value} {hp : 0 < sz} {hl : ∀ x, (f x).length = sz} {ho : ∀ x, ∀ u ∈ f x, u.oneCell' = true} {w : World} {D : Nat → Prop}
theorem flatC_len (hl : ∀ x, (f x).length = sz) (xs : List α) : (flatC f xs).length = xs.length * sz := by
  induction xs with
  | nil => simp [flatC]
  | cons x xs ih => simp only [flatC, List.flatMap_cons, List.length_append, List.length_cons, hl] at *; rw [ih, Nat.add_mul]; omega
theorem flatC_chunks (hl : ∀ x, (f x).length = sz) (xs : List α) : Chunks (Enc.flat sz f hp hl ho) w D xs (flatC f xs) := by
  induction xs with
  | nil => exact .nil
  | cons x xs ih => exact Chunks.cons (rfl : (Enc.flat sz f hp hl ho).R w D x (f x)) ih
theorem chunks_flatC {xs : List α} {cs : List Value} (h : Chunks (Enc.flat sz f hp hl ho) w D xs cs) : cs = flatC f xs := by
  have h2 := flatC_chunks (w := w) (D := D) (hp := hp) (ho := ho) hl xs
  apply List.ext_getElem?
  intro j
  by_cases hj : j < cs.length
  · have hjx : j / sz < xs.length := by rw [h.1] at hj; exact Nat.div_lt_of_lt_mul (by rw [Nat.mul_comm]; exact hj)
    obtain ⟨x, hx⟩ : ∃ x, xs[j / sz]? = some x := ⟨_, List.getElem?_eq_getElem hjx⟩;obtain ⟨vs, rfl, h3⟩ := h.2 _ x hx;obtain ⟨us, rfl, h4⟩ := h2.2 _ x hx;have hm : j % sz < (f x).length := by rw [hl]; exact Nat.mod_lt _ hp
    have e : j / sz * sz + j % sz = j := Nat.div_add_mod' j sz;have h5 := h3 (j % sz) _ (List.getElem?_eq_getElem hm);have h6 := h4 (j % sz) _ (List.getElem?_eq_getElem hm);rw [show j / sz * (Enc.flat sz f hp hl ho).sz + j % sz = j from e] at h5 h6;rw [h5, h6]
  rw [List.getElem?_eq_none (by omega), List.getElem?_eq_none (by rw [flatC_len hl]; have := h.1; show xs.length * sz ≤ j; rw [show cs.length = xs.length * sz from this] at hj; omega)]
theorem Own.raw {e : TypeId} {a : Addr} {cap : Nat} {xs : List α} (h : Own (Enc.flat sz f hp hl ho) e w D (some a) cap xs) : ∃ g rest, a = ⟨g, 0, none⟩ ∧ Blk w g (flatC f xs ++ rest) e ∧ (flatC f xs ++ rest).length = cap * sz ∧ xs.length ≤ cap ∧ cap ≤ 9223372036854775807 ∧ D g := by
  obtain ⟨cs, h1, h2, h3⟩ := h
  rcases h1.2 with ⟨h4, _⟩ | ⟨g, cp, cur, h4, h5, h6, h7, h8, h9, h10⟩
  · simp at h4
  simp only [Value.slice.injEq, Option.some.injEq] at h4
  obtain ⟨rfl, _, rfl⟩ := h4;have hcs := chunks_flatC h3;subst hcs;replace h10 : List.take (xs.length * sz) cur.toList = flatC f xs := h10;replace h9 : cur.size = cap * sz := h9;refine ⟨g, cur.toList.drop (xs.length * sz), rfl, ?_, ?_, h7, by simpa [maxLen] using h8, h2 g (by simp [ob])⟩
  · rw [← h10, List.take_append_drop]; exact h6
  rw [← h10, List.take_append_drop]; simpa using h9
theorem Own.of_raw {e : TypeId} {g cap : Nat} {xs : List α} {rest : List Value} (hb : Blk w g (flatC f xs ++ rest) e) (hlen : (flatC f xs ++ rest).length = cap * sz) (hle : xs.length ≤ cap) (hcap : cap ≤ 9223372036854775807) (hD : D g) : Own (Enc.flat sz f hp hl ho) e w D (some ⟨g, 0, none⟩) cap xs := by
  refine ⟨flatC f xs, ⟨flatC_len hl xs, .inr ⟨g, cap, _, rfl, Nat.zero_le _, hb, hle, by simpa [maxLen] using hcap, (show Array.size ⟨flatC f xs ++ rest⟩ = cap * sz from by simpa using hlen), ?_⟩⟩, fun k hk => by simp [ob] at hk; subst hk; exact hD, flatC_chunks hl xs⟩
  show (flatC f xs ++ rest).take (xs.length * sz) = flatC f xs
  rw [← flatC_len hl xs, List.take_left]
end flat
end Go.Proofs.YtghjmiggobpmoaaGreatDoor.K
namespace Go.Proofs.YtghjmiggobpmoaaGreatDoor.K
open Go
section rules
variable {P : Program} {r : Option Nat} {n : Nat} {O : Array Oper} {Q : Post} {l : List Oper} {E : Env} {ds : List Deferred} {w : World} {dst : Option Nat} {ty : TypeId} {pos : String} {af : Array Edge} {g : Option (Nat × Bool)}
end rules
end Go.Proofs.YtghjmiggobpmoaaGreatDoor.K
namespace Go.Proofs.YtghjmiggobpmoaaGreatDoor.K
open Go Go.Proofs Go.RowKit
def MaxT (w : World) : Prop := ∃ m, w.cell? ⟨1, 0, none⟩ = some (.int .i64 m)
theorem MaxT.lt {w : World} (h : MaxT w) : 1 < w.heap.size := by
  obtain ⟨m, h⟩ := h
  rcases Nat.lt_or_ge 1 w.heap.size with h1 | h1
  · exact h1
  have h2 : w.heap[1]? = none := Array.getElem?_eq_none h1;simp [World.cell?, h2] at h
theorem MaxT.kept {w w' : World} (h : MaxT w) (e : w'.heap[1]? = w.heap[1]?) : MaxT w' := by
  obtain ⟨m, h⟩ := h; exact ⟨m, by rw [← h]; simp only [World.cell?, e]⟩
theorem MaxT.tr {w w' : World} {bs : List Nat} (h : MaxT w) (c : Chg bs w w') (hb : 1 ∉ bs) : MaxT w' := h.kept (c.block _ h.lt hb)
theorem MaxT.tr0 {w w' : World} (h : MaxT w) (c : Chg [] w w') : MaxT w' := h.tr c (by simp)
theorem Cut_spec (s c : Bytes) (w : World) (hs : s.length < 4294967281) (hm : MaxT w) : CallR Tryz.prog 38 #[S s, S c] w fun v w' => v = .tuple ⟨[S (Lib.cut s c).1, S (Lib.cut s c).2.1, .bool (Lib.cut s c).2.2]⟩ ∧ Chg [] w w' := by
  obtain ⟨m, hm⟩ := hm;exact CallR.of (Tryz.strings_Cut ⟨⟨s⟩⟩ ⟨⟨c⟩⟩ m w hs hm) fun e w' ⟨h1, n, h2⟩ => ⟨_, h1, rfl, by rw [h2]; exact Chg.drewN w n⟩
def wtC (x : Nat × Bool) : List Value := [.int .i64 (x.1 : Int), .bool x.2]
def wtE : Enc (Nat × Bool) := .flat 2 wtC q0 (fun _ => rfl) (fun _ u hu => by simp [wtC] at hu; rcases hu with rfl | rfl <;> rfl)
def withL (z : Tok) (h : Bytes) (r : Bool) : Tok := { z with here := h, raw := r }
theorem tokL (l : List Tok) : (flatC tokC5 l).length = l.length * 5 := flatC_len (sz := 5) (fun _ => rfl) l
theorem flat_split {l0 l1 : List Tok} {z : Tok} {rest : List Value} : flatC tokC5 (l0 ++ z :: l1) ++ rest = flatC tokC5 l0 ++ (tokC5 z ++ (flatC tokC5 l1 ++ rest)) := by
  simp [flatC]
theorem cell_tok {l0 l1 : List Tok} {z : Tok} {rest : List Value} (k : Nat) {v : Value} (h : (tokC5 z)[k]? = some v) : nthV (flatC tokC5 (l0 ++ z :: l1) ++ rest) (0 + l0.length * 5 + k) = some v := by
  rw [nthV_eq, flat_split, List.getElem?_append_right (by rw [tokL]; omega), tokL, show 0 + l0.length * 5 + k - l0.length * 5 = k by omega, List.getElem?_append_left (List.getElem?_eq_some_iff.1 h).1, h]
theorem set_tok {l0 l1 : List Tok} {z u : Tok} {rest : List Value} (k : Nat) {v : Value} (hk : k < 5) (h : (tokC5 z).set k v = tokC5 u) : setVs (flatC tokC5 (l0 ++ z :: l1) ++ rest) (0 + l0.length * 5 + k) [v] = flatC tokC5 (l0 ++ u :: l1) ++ rest := by
  show setV _ (0 + l0.length * 5 + k) v = _
  rw [setV_eq, flat_split, flat_split, List.set_append_right _ _ (by rw [tokL]; omega), tokL, show 0 + l0.length * 5 + k - l0.length * 5 = k by omega, List.set_append_left _ _ (show k < 5 from hk), h]
theorem flat_len {l0 l1 : List Tok} {z u : Tok} {rest : List Value} : (flatC tokC5 (l0 ++ u :: l1) ++ rest).length = (flatC tokC5 (l0 ++ z :: l1) ++ rest).length := by
  simp only [List.length_append, tokL, List.length_cons]
theorem at_split {l : List Tok} {j : Nat} (h : j < l.length) : ∃ l0 z l1, l = l0 ++ z :: l1 ∧ l0.length = j := by
  refine ⟨l.take j, l[j], l.drop (j + 1), ?_, by rw [List.length_take]; omega⟩
  rw [List.getElem_cons_drop, List.take_append_drop]
theorem linesV_cons {l0 l1 : List Tok} {z : Tok} {st : Bool} {ws : List (Nat × Bool)} {r x : Bytes} {m : Nat} (h : bodyV (plainV z.text).1 st r = (x, m)) :
    linesV (l0 ++ z :: l1) ((l0.length, st) :: ws) r = ((linesV (l0 ++ withL z (z.here ++ x) (plainV z.text).2 :: l1) ws (r.drop m)).1, (linesV (l0 ++ withL z (z.here ++ x) (plainV z.text).2 :: l1) ws (r.drop m)).2 + m) := by
  have e : (l0 ++ z :: l1).getD l0.length ⟨0, [], 0, [], false⟩ = z := by simp [List.getD_eq_getElem?_getD]
  have e2 : ∀ u : Tok, (l0 ++ z :: l1).set l0.length u = l0 ++ u :: l1 := fun u => by simp
  simp only [linesV, e, h, e2]; rfl
theorem cut_all {r c : Bytes} (h : (Lib.cut r c).2.2 = false) : (Lib.cut r c).1 = r := by
  unfold Lib.cut at h ⊢; split
  · rename_i h1; rw [if_pos h1] at h; cases h
  rfl
def lnV (st : Bool) (r : Bytes) : Bytes := if st then trimT (Lib.cut r [10]).1 else (Lib.cut r [10]).1
def lmV (r : Bytes) : Nat := (Lib.cut r [10]).1.length + (if (Lib.cut r [10]).2.2 then 1 else 0)
def laV (st : Bool) (r : Bytes) : Bytes := if (Lib.cut r [10]).2.2 then lnV st r ++ [10] else lnV st r
theorem lm_pos {r : Bytes} (h : r ≠ []) : 1 ≤ lmV r ∧ lmV r ≤ r.length := by
  unfold lmV
  cases hm : (Lib.cut r [10]).2.2 with
  | true => have := cut_more hm; simp at this ⊢; omega
  | false => rw [cut_all hm]; have := List.length_pos_iff.2 h; simp; omega
theorem la_len (st : Bool) (r : Bytes) : (laV st r).length ≤ lmV r := by
  have h : (lnV st r).length ≤ (Lib.cut r [10]).1.length := by unfold lnV; split; exact trimT_len _; exact Nat.le_refl _
  unfold laV lmV; split
  · simp; omega
  omega
theorem bodyL_end {fin : Bytes} {st : Bool} {k : Nat} {r : Bytes} (h : r = []) : bodyL fin st k r = ([], 0) := by cases k with | zero => rfl | succ k => rw [bodyL, if_pos h]
theorem bodyL_fin {fin : Bytes} {st : Bool} {k : Nat} {r : Bytes} (hr : r ≠ []) (h : lnV st r = fin) : bodyL fin st (k + 1) r = ([], lmV r) := by
  rw [bodyL, if_neg hr]; simp only []; rw [if_pos (show (if st = true then trimT _ else _) = fin from h)]; rfl
theorem bodyL_go {fin : Bytes} {st : Bool} {k : Nat} {r : Bytes} (hr : r ≠ []) (h : ¬ lnV st r = fin) : bodyL fin st (k + 1) r = (laV st r ++ (bodyL fin st k (r.drop (lmV r))).1, (bodyL fin st k (r.drop (lmV r))).2 + lmV r) := by
  rw [bodyL, if_neg hr]; simp only []; rw [if_neg (show ¬ (if st = true then trimT _ else _) = fin from h)]; rfl
theorem GoodO.set {n i j : Nat} {l0 l1 : List Tok} {z : Tok} {h : Bytes} {r : Bool} (hg : GoodO n i (l0 ++ z :: l1)) (hij : i ≤ j) (hh : h.length ≤ j) : GoodO n j (l0 ++ withL z h r :: l1) := fun u hu => by
  rcases List.mem_append.1 hu with h1 | h1
  · have := hg u (List.mem_append_left _ h1); exact ⟨this.1, by omega⟩
  rcases List.mem_cons.1 h1 with rfl | h1
  · exact ⟨(hg z (by simp)).1, hh⟩
  have := hg u (List.mem_append_right _ (List.mem_cons_of_mem _ h1)); exact ⟨this.1, by omega⟩
theorem drop_cons_at {α : Type} {l : List α} {k : Nat} {x : α} (h : l[k]? = some x) : l.drop k = x :: l.drop (k + 1) := by
  obtain ⟨h1, h2⟩ := List.getElem?_eq_some_iff.1 h;rw [List.drop_eq_getElem_cons h1, h2]
theorem lines_spec {b : Nat} {A Aw : Option Addr} {cap capw : Nat} {out : List Tok} {ws : List (Nat × Bool)} {D : Nat → Prop} (s : Bytes) (i0 : Nat) (w : World) (hb : Blk w b [S s, .slice A out.length cap, .slice Aw ws.length capw] 69) (ho : Own tok5E 51 w D A cap out) (hw : Own wtE 75 w D Aw capw ws) (hDb : ∀ k, D k → k ≠ b ∧ k ≠ 1) (hbx : b ≠ 1)
    (hwj : ∀ x, x ∈ ws → x.1 < out.length) (hi : i0 ≤ s.length) (hs : s.length ≤ 16384) (hg : GoodO s.length i0 out) (hmx : MaxT w) : CallR Tryz.prog 28 #[.pointer (some ⟨b, 0, none⟩), .int .i64 (i0 : Int)] w fun v w' => v = .int .i64 ((i0 + (linesV out ws (s.drop i0)).2 : Nat) : Int) ∧ Blk w' b [S s, .slice A out.length cap, .slice none 0 0] 69 ∧ Own tok5E 51 w' D A cap (linesV out ws (s.drop i0)).1 ∧ (GoodO s.length (i0 + (linesV out ws (s.drop i0)).2) (linesV out ws (s.drop i0)).1 ∧ i0 + (linesV out ws (s.drop i0)).2 ≤ s.length) ∧ Chg (b :: ob A) w w' := by
 refine callR_of_wp (args := [_, _]) Tryz.func28 rfl (Nat.le_of_ble_eq_true rfl) ?_;have HC : Chg (b :: ob A) w w := .refl _;have nao_b : b ∉ ob A := fun h => (hDb _ (ho.inD _ h)).1 rfl
 have naw_b : b ∉ ob Aw := fun h => (hDb _ (hw.inD _ h)).1 rfl
 have hws : ∀ k, (s.drop k).length ≤ 16384 := fun k => by rw [List.length_drop]; omega
 have hm1 := hmx.lt;have hwle := hw.le;refine sr rfl <| aI rfl <| en <| x_seq <| sr rfl <| mP rfl <| nc rfl <| fa T.fld69_2 rfl <| lL T.one67 rfl (hb.cell rfl) <| Wp rfl <| st_len (ct := #[67]) (by rw [show ((#[67] : Array TypeId)[0]?).bind Tryz.prog.underlying = some (.slice 75) from T.u67]; rfl) rfl <| mI rfl <| en <| x_block <| x_loop (ι := List Tok × Nat × Nat) [1, 6, 7, 8, 9, 10, 11, 17, 18, 19, 20, 21, 22, 23, 24, 25, 26, 27, 28, 29, 30, 31, 32, 33, 34, 35, 36, 37, 38, 39, 40, 41, 42, 43, 44, 45, 46, 47, 48, 49, 50, 51, 52, 53, 54, 55, 56, 57, 58, 59, 60, 61, 62, 63, 64, 65, 66, 67, 68, 69, 70, 71, 72, 73, 74, 75, 76, 77, 78, 79, 80, 81, 82] (fun ⟨L, k, i⟩ => [(1, .int .i64 (i : Int)), (17, .int .i64 (k : Int))]) (fun ⟨L, k, i⟩ W => (L.length = out.length ∧ GoodO s.length i L ∧ k ≤ ws.length ∧ i0 ≤ i ∧ i ≤ s.length ∧ linesV out ws (s.drop i0) = ((linesV L (ws.drop k) (s.drop i)).1, (linesV L (ws.drop k) (s.drop i)).2 + (i - i0))) ∧ (Chg (b :: ob A) w W) ∧ (Blk W b [S s, .slice A out.length cap, .slice Aw ws.length capw] 69) ∧ (Own tok5E 51 W D A cap L) ∧ (Own wtE 75 W D Aw capw ws) ∧ (MaxT W)) (fun ⟨L, k, i⟩ => ws.length - k) (out, 0, i0) ?_ ?_ ?_
 · exact ⟨rfl, rfl, trivial⟩
 ·refine ⟨?_, HC, hb, ho, hw, hmx⟩;exact ⟨rfl, hg, Nat.zero_le _, Nat.le_refl _, hi, by rw [Nat.sub_self]; rfl⟩
 intro ⟨L, k, i⟩ G2 w1 ⟨⟨hLl, hLg, hk, hi0, his, hlv⟩, HC, hb, ho, hw, hmx⟩
 change wp _ _ _ _ _ (upds (over _ _ G2) [(1, .int .i64 (i : Int)), (17, .int .i64 (k : Int))]) _ _
 refine sr rfl <| Wp rfl <| st_lss rfl rfl <| en <| x_seq <| x_cond rfl (fun h0 => ?_) (fun h0 => ?_)
 ·try simp only [nm, ne_eq] at h0
  obtain ⟨⟨j, st⟩, hx⟩ : ∃ x, ws[k]? = some x := ⟨ws[k], List.getElem?_eq_getElem q0⟩;have hjL : j < L.length := by rw [hLl]; exact hwj _ (List.mem_of_getElem? hx)
  obtain ⟨l0, z, l1, hLs, rfl⟩ := at_split hjL;subst hLs;obtain ⟨ga, hgA, hgaD⟩ : ∃ g, A = some ⟨g, 0, none⟩ ∧ D g := by rcases ho.form with ⟨_, _, h⟩ | ⟨g, h, _, _, _, h2⟩; (simp at h); exact ⟨g, h, h2⟩
  have hoz := ho;rw [hgA] at hoz;obtain ⟨g2, rest9, hge, hA, hlnA, hleA, hcapA, hDg⟩ := Own.raw (h := hoz);obtain rfl : ga = g2 := by cases hge; rfl
  have naw_ga : ga ∉ ob Aw := hw.ne_blk hA (by decide)
  have ne_b_ga : b ≠ ga := fun e => (hDb _ hgaD).1 e.symm
  have hga0 := (hDb _ hgaD).2;have hgz := hLg z (by simp)
  have hgs := hws i ;have hlen0 : (l0 ++ z :: l1).length = out.length := hLl;rw [List.length_append, List.length_cons] at hlen0 hjL;have hwl := drop_cons_at hx;have hz := hw.sl;refine x_skip <| then_n <| x_seq <| x_block <| sr rfl ?_;obtain ⟨lb7, _, vs6, hA3, hR5, hC4⟩ := hz.at (i := k) (x := (l0.length, st)) (hx);obtain rfl : vs6 = [.int .i64 (l0.length : Int), .bool st] := hR5;refine Wp rfl <| st_indexAddr T.u67 T.size75 (congrArg (fun z => Value.slice z _ _) hA3) rfl q0 q0 <| Wp rfl <| st_loadA (vs := [_, _]) T.agg75 rfl hC4 rfl <| Wp rfl <| st_alloc T.zero75 ?_
  intro b6 w8 e9 c10 hb11;have ge_b6 := gB e9 HC.size;have ne_b_b6 := nF e9 hb.ne_size;have ne_ga_b6 := nF e9 hA.ne_size;have na_wb6 : b6 ∉ ob Aw := hw.fresh (by rw [e9]; exact Nat.le_refl _)
  have nf_hz_b6 : ws = [] ∨ b6 ∉ ob (Aw) := hz.fresh (by rw [e9]; exact Nat.le_refl _)
  replace HC := HC.then c10;replace hb := hb.tr0 c10;replace hw := hw.tr0 c10;replace hmx := hmx.tr0 c10;replace hA := hA.tr0 c10;clear e9;refine Wp rfl <| st_st (v := .agg ⟨[_, _]⟩) T.size75 rfl rfl rfl hb11 ?_;intro w12 c13 hb14; simp only [setVs, setV] at hb14;clear hb11;replace HC := HC.then1 c13 ge_b6;replace hb := hb.tr1 c13 ne_b_b6;replace hw := hw.trF flat_flat c13 (by intro k hk hx; simp only [List.mem_singleton] at hx; subst hx; exact na_wb6 hk)
  replace hmx := hmx.tr c13 q1;replace hA := hA.tr1 c13 ne_ga_b6;refine en <| x_seq <| x_draw [(0, 0), (1, 0), (2, 0), (3, 0), (4, 0), (5, 0), (6, 0), (7, 0)] T.mixed rfl rfl rfl (fun W => W.heap[b]? = w12.heap[b]? ∧ W.heap[ga]? = w12.heap[ga]? ∧ W.heap[b6]? = w12.heap[b6]? ∧ True) ⟨rfl, rfl, rfl, trivial⟩ ?_
  have o17 := hb;have o18 := hA;have o19 := hb14;have c16 := Chg.drew w12;generalize World.drew w12 = w15 at c16 ⊢;replace HC := HC.then c16;replace hb := hb.tr0 c16;replace hw := hw.tr0 c16;replace hmx := hmx.tr0 c16;replace hA := hA.tr0 c16;replace hb14 := hb14.tr0 c16;refine sq_q rfl (fun W hT => r_move (v := .pointer _) rfl) <| sq_q rfl (fun W hT => r_nilCheck rfl) <| sq_q rfl (fun W hT => r_fieldAddr T.fld69_1 rfl) <| sq_q rfl (fun W hT => r_load1 (v := .slice _ _ _) T.one41 rfl (Blk.cell (show Blk W b _ _ from hT.1.trans o17) rfl)) <| sq_q rfl (fun W hT => r_fieldAddr T.fld75_0 rfl) <| sq_q rfl (fun W hT => r_load1 (v := .int _ _) T.one3 rfl (Blk.cell (show Blk W b6 _ _ from hT.2.2.1.trans o19) rfl)) <| sq_q rfl (fun W hT => r_indexAddr (b := ga) (o := 0) (i := (l0.length : Int)) T.u41 T.size51 (show Value.slice A out.length cap = _ by rw [hgA]) rfl q0 q0) <| sq_q rfl (fun W hT => r_assign (v := .pointer _) rfl) ?_
  clear o17;clear o18;clear o19;refine sq_nil <| then_n <| sr rfl <| aS rfl <| en <| sr rfl <| mP rfl <| mP rfl <| nc rfl <| fa T.fld51_1 rfl <| lS T.one9 rfl (hA.cell (cell_tok 1 rfl)) <| Wp rfl <| st_call (ags := [_]) rfl rfl T.ent37 rfl (Plain_spec z.text _ q0) ?_;rintro _ w20 ⟨rfl, c21⟩;replace HC := HC.then c21;replace hb := hb.tr0 c21;replace hw := hw.tr0 c21;replace hmx := hmx.tr0 c21;replace hA := hA.tr0 c21;replace hb14 := hb14.tr0 c21;refine mv (v := .tuple ⟨[_, _]⟩) rfl <| Wp rfl <| st_extract (vs := [_, _]) (v := S _) rfl rfl <| Wp rfl <| st_extract (vs := [_, _]) (v := .bool _) rfl rfl <| aS rfl <| nc rfl <| fa T.fld51_4 rfl <| Wp rfl <| st_store (v := .bool _) T.size4 rfl rfl rfl hA rfl (by show 0 + l0.length * 5 + 4 + 1 ≤ _; rw [flat_len (z := z), hlnA]; omega) q5 rfl ?_
  intro w22 c23 hb24;replace hb24 : Blk w22 ga (flatC tokC5 (l0 ++ withL z (z.here ++ []) (plainV z.text).2 :: l1) ++ rest9) 51 := by rw [List.append_nil, ← set_tok (z := z) (u := withL z z.here (plainV z.text).2) 4 q0 rfl]; exact hb24
  clear hA;replace hb := hb.tr1 c23 ne_b_ga;replace hw := hw.trF flat_flat c23 (by intro k hk hx; simp only [List.mem_singleton] at hx; subst hx; exact naw_ga hk)
  replace hmx := hmx.tr c23 q1;replace hb14 := hb14.tr1 c23 (Ne.symm ne_ga_b6);replace HC := HC.trans c23 (fun x hx => .inl (by rw [List.mem_singleton.1 hx, hgA]; exact List.mem_cons_of_mem _ (by simp [ob])))
  refine en <| x_block <| x_loop (ι := Bytes × Nat × Nat) [1, 9, 10, 11, 39, 40, 41, 42, 43, 44, 45, 46, 47, 48, 49, 50, 51, 52, 53, 54, 55, 56, 57, 58, 59, 60, 61, 62, 63, 64, 65, 66, 67, 68, 69, 70, 71, 72, 73, 74, 75, 76, 77, 78, 79, 80, 81] (fun ⟨acc, kf, p⟩ => [(1, .int .i64 (p : Int))]) (fun ⟨acc, kf, p⟩ W => (acc.length ≤ p - i ∧ i ≤ p ∧ p ≤ s.length ∧ s.length - p ≤ kf ∧ bodyV (plainV z.text).1 st (s.drop i) = (acc ++ (bodyL (plainV z.text).1 st kf (s.drop p)).1, (bodyL (plainV z.text).1 st kf (s.drop p)).2 + (p - i))) ∧ (Chg (b :: ob A) w W) ∧ (Blk W b [S s, .slice A out.length cap, .slice Aw ws.length capw] 69) ∧ (Own wtE 75 W D Aw capw ws) ∧ (MaxT W) ∧ (Blk W b6 [.int .i64 (l0.length : Int), .bool st] 75) ∧ (Blk W ga (flatC tokC5 (l0 ++ withL z (z.here ++ acc) (plainV z.text).2 :: l1) ++ rest9) 51)) (fun ⟨acc, kf, p⟩ => s.length - p) ([], (s.drop i).length, i) ?_ ?_ ?_
  · exact ⟨rfl, trivial⟩
  ·refine ⟨?_, HC, hb, hw, hmx, hb14, hb24⟩;exact ⟨by simp, Nat.le_refl _, his, by rw [List.length_drop]; exact Nat.le_refl _, by rw [Nat.sub_self]; rfl⟩
  intro ⟨acc, kf, p⟩ G26 w25 ⟨⟨hac, hip, hps, hkf, hbv⟩, HC, hb, hw, hmx, hb14, hA⟩
  change wp _ _ _ _ _ (upds (over _ _ G26) [(1, .int .i64 (p : Int))]) _ _
  refine x_seq <| sr rfl <| mI rfl <| mP rfl <| nc rfl <| fa T.fld69_0 rfl <| lS T.one9 rfl (hb.cell rfl) <| Wp rfl <| st_slen (ct := #[9]) T.u9 rfl <| Wp rfl <| st_lss rfl rfl <| en <| x_cond rfl (fun h1 => ?_) (fun h1 => ?_)
  ·try simp only [nm, ne_eq] at h1
   have hrn : s.drop p ≠ [] := drop_ne q0;have hlm := lm_pos hrn;have hla := la_len st (s.drop p);have hcl := cut_le (s.drop p) [10];obtain ⟨kf, rfl⟩ : ∃ z, kf = z + 1 := ⟨kf - 1, by omega⟩
   have hrl : (s.drop p).length = s.length - p := List.length_drop;rw [hrl] at hlm;refine x_skip <| then_n <| x_block <| sr rfl <| mP rfl <| nc rfl <| fa T.fld69_0 rfl <| lS T.one9 rfl (hb.cell rfl) <| mI rfl <| Wp rfl <| st_sslo (i := p) T.u9 rfl ⟨_, rfl⟩ q0 <| Wp rfl <| st_call (ags := [_, _]) rfl rfl T.ent38 rfl (Cut_spec (s.drop p) [10] _ q0 hmx) ?_;rintro _ w27 ⟨rfl, c28⟩;replace HC := HC.then c28;replace hb := hb.tr0 c28;replace hw := hw.tr0 c28;replace hmx := hmx.tr0 c28;replace hb14 := hb14.tr0 c28;replace hA := hA.tr0 c28;refine mv (v := .tuple ⟨[_, _, _]⟩) rfl <| Wp rfl <| st_extract (vs := [_, _, _]) (v := S _) rfl rfl <| Wp rfl <| st_extract (vs := [_, _, _]) (v := S _) rfl rfl <| Wp rfl <| st_extract (vs := [_, _, _]) (v := .bool _) rfl rfl <| aS rfl <| aS rfl <| aB rfl <| en <| sr rfl <| mI rfl <| mS rfl <| Wp rfl <| st_slen (ct := #[9]) T.u9 rfl <| Wp rfl <| st_addn rfl rfl (by constructor <;> omega) <| aI rfl <| en <| x_seq <| sr rfl <| fa T.fld75_1 rfl <| Wp rfl <| st_load1 (v := .bool _) T.one4 rfl (hb14.cell rfl) <| en <| x_cond rfl (fun h2 => ?_) (fun h2 => ?_)
   ·try simp only [nm, ne_eq] at h2
    have hlnq : lnV st (s.drop p) = trimT (Lib.cut (s.drop p) [10]).1 := by unfold lnV; rw [if_pos (by first | assumption | simp_all)]
    have hltr := trimT_len (Lib.cut (s.drop p) [10]).1;refine x_region rfl <| mS rfl <| Wp rfl <| st_call (ags := [_, _]) rfl rfl T.ent39 rfl (TrimLeft_spec (Lib.cut (s.drop p) [10]).1 _) ?_;rintro _ w29 ⟨rfl, c30⟩;replace HC := HC.then c30;replace hb := hb.tr0 c30;replace hw := hw.tr0 c30;replace hmx := hmx.tr0 c30;replace hb14 := hb14.tr0 c30;replace hA := hA.tr0 c30;refine aS rfl <| en <| x_seq <| sr rfl <| mB rfl <| en <| x_cond rfl (fun h3 => ?_) (fun h3 => ?_)
    ·try simp only [nm, ne_eq] at h3
     have hlmq : lmV (s.drop p) = (Lib.cut (s.drop p) [10]).1.length + 1 := by unfold lmV; rw [if_pos (by first | assumption | simp_all)]
     have hlaq : laV st (s.drop p) = lnV st (s.drop p) ++ [10] := by unfold laV; rw [if_pos (by first | assumption | simp_all)]
     rw [hlnq] at hlaq
     refine x_region rfl <| mI rfl <| Wp rfl <| st_addn rfl rfl (by constructor <;> omega) <| aI rfl <| en <| x_seq <| sr rfl <| mS rfl <| mS rfl <| Wp rfl <| st_seql rfl rfl <| en <| x_cond rfl (fun h4 => ?_) (fun h4 => ?_)
     ·try simp only [nm, ne_eq] at h4
      have hbq : bodyV (plainV z.text).1 st (s.drop i) = (acc, (p + ((Lib.cut (s.drop p) [10]).1.length + 1)) - i) := by rw [hbv, bodyL_fin hrn (hlnq.trans (by assumption)), hlmq]; simp; omega
      refine x_exit <| then_x <| block_o rfl <| then_x <| block_x <| block_n <| then_n ?_;have hoN : Own tok5E 51 w29 D A cap (l0 ++ withL z (z.here ++ acc) (plainV z.text).2 :: l1) := by rw [hgA]; exact Own.of_raw hA (by rw [← hlnA]; simp only [List.length_append, tokL, List.length_cons]) (by simpa using hleA) hcapA hgaD
      refine x_region rfl <| Wp rfl <| st_addn rfl rfl (by constructor <;> omega) <| mI rfl <| en <| ⟨(l0 ++ withL z (z.here ++ acc) (plainV z.text).2 :: l1, k + 1, (p + ((Lib.cut (s.drop p) [10]).1.length + 1))), ?_, ?_, rfl, ⟨rfl, rfl, trivial⟩, ?_⟩
      ·refine ⟨?_, HC, hb, hoN, hw, hmx⟩;exact ⟨by rw [← hLl]; simp, hLg.set q0 (by rw [List.length_append]; omega), by omega, by omega, by omega, by rw [hlv, hwl, linesV_cons hbq, List.drop_drop, show i + ((p + ((Lib.cut (s.drop p) [10]).1.length + 1)) - i) = (p + ((Lib.cut (s.drop p) [10]).1.length + 1)) by omega]; exact congrArg _ q0⟩
      ·show ws.length - (k + 1) < ws.length - k; omega
      exact q9
     try simp only [nm, ne_eq] at h4
     have hln : ¬ lnV st (s.drop p) = (plainV z.text).1 := by rw [hlnq]; assumption
     refine x_skip <| then_n <| x_seq <| sr rfl <| mB rfl <| en <| x_cond rfl (fun h5 => ?_) (fun h5 => ?_)
     ·try simp only [nm, ne_eq] at h5
      refine x_region rfl <| mS rfl <| Wp rfl <| st_sadd rfl rfl (by (try simp only [List.length_append, List.length_cons, List.length_nil] at *); omega) <| aS rfl <| en <| x_region rfl <| mP rfl <| nc rfl <| fa T.fld51_3 rfl <| lS T.one9 rfl (hA.cell (cell_tok 3 rfl)) <| mS rfl <| Wp rfl <| st_sadd rfl rfl (by have h7 : (withL z (z.here ++ acc) (plainV z.text).2).here.length = z.here.length + acc.length := List.length_append; have h8 := congrArg List.length hlaq; (try simp only [List.length_append, List.length_cons, List.length_nil] at h8 ⊢); omega) <| nc rfl <| fa T.fld51_3 rfl <| Wp rfl <| st_store (v := S _) T.size9 rfl rfl rfl hA rfl (by show 0 + l0.length * 5 + 3 + 1 ≤ _; rw [flat_len (z := z), hlnA]; omega) q5 rfl ?_
      intro w31 c32 hb33;replace hb33 : Blk w31 ga (flatC tokC5 (l0 ++ withL z (z.here ++ (acc ++ laV st (s.drop p))) (plainV z.text).2 :: l1) ++ rest9) 51 := by rw [← List.append_assoc, ← set_tok (z := withL z (z.here ++ acc) (plainV z.text).2) (u := withL z (z.here ++ acc ++ laV st (s.drop p)) (plainV z.text).2) 3 q0 rfl]; show Blk _ _ (setVs _ _ [S (z.here ++ acc ++ laV st (s.drop p))]) _; rw [hlaq]; exact hb33
      clear hA;replace hb := hb.tr1 c32 ne_b_ga;replace hw := hw.trF flat_flat c32 (by intro k hk hx; simp only [List.mem_singleton] at hx; subst hx; exact naw_ga hk)
      replace hmx := hmx.tr c32 q1;replace hb14 := hb14.tr1 c32 (Ne.symm ne_ga_b6);replace HC := HC.trans c32 (fun x hx => .inl (by rw [List.mem_singleton.1 hx, hgA]; exact List.mem_cons_of_mem _ (by simp [ob])))
      refine wops_nil <| block_n <| then_n <| ⟨(acc ++ laV st (s.drop p), kf, (p + ((Lib.cut (s.drop p) [10]).1.length + 1))), ?_, ?_, rfl, ⟨rfl, trivial⟩, ?_⟩
      ·refine ⟨?_, HC, hb, hw, hmx, hb14, hb33⟩;exact ⟨by rw [List.length_append]; omega, by omega, by omega, by omega, by rw [hbv, bodyL_go hrn hln, List.drop_drop, List.append_assoc, hlmq]; exact congrArg _ q0⟩
      ·show s.length - (p + ((Lib.cut (s.drop p) [10]).1.length + 1)) < s.length - p; omega
      exact q9
     try simp only [nm, ne_eq] at h5
     exact absurd h3 (by first | assumption | simp_all)
    try simp only [nm, ne_eq] at h3
    have hlmq : lmV (s.drop p) = (Lib.cut (s.drop p) [10]).1.length := by unfold lmV; rw [if_neg (by first | assumption | simp_all)]; rfl
    have hlaq : laV st (s.drop p) = lnV st (s.drop p) := by unfold laV; rw [if_neg (by first | assumption | simp_all)]
    rw [hlnq] at hlaq
    refine x_skip <| then_n <| x_seq <| sr rfl <| mS rfl <| mS rfl <| Wp rfl <| st_seql rfl rfl <| en <| x_cond rfl (fun h4 => ?_) (fun h4 => ?_)
    ·try simp only [nm, ne_eq] at h4
     have hbq : bodyV (plainV z.text).1 st (s.drop i) = (acc, (p + (Lib.cut (s.drop p) [10]).1.length) - i) := by rw [hbv, bodyL_fin hrn (hlnq.trans (by assumption)), hlmq]; simp; omega
     refine x_exit <| then_x <| block_o rfl <| then_x <| block_x <| block_n <| then_n ?_;have hoN : Own tok5E 51 w29 D A cap (l0 ++ withL z (z.here ++ acc) (plainV z.text).2 :: l1) := by rw [hgA]; exact Own.of_raw hA (by rw [← hlnA]; simp only [List.length_append, tokL, List.length_cons]) (by simpa using hleA) hcapA hgaD
     refine x_region rfl <| Wp rfl <| st_addn rfl rfl (by constructor <;> omega) <| mI rfl <| en <| ⟨(l0 ++ withL z (z.here ++ acc) (plainV z.text).2 :: l1, k + 1, (p + (Lib.cut (s.drop p) [10]).1.length)), ?_, ?_, rfl, ⟨rfl, rfl, trivial⟩, ?_⟩
     ·refine ⟨?_, HC, hb, hoN, hw, hmx⟩;exact ⟨by rw [← hLl]; simp, hLg.set q0 (by rw [List.length_append]; omega), by omega, by omega, by omega, by rw [hlv, hwl, linesV_cons hbq, List.drop_drop, show i + ((p + (Lib.cut (s.drop p) [10]).1.length) - i) = (p + (Lib.cut (s.drop p) [10]).1.length) by omega]; exact congrArg _ q0⟩
     ·show ws.length - (k + 1) < ws.length - k; omega
     exact q9
    try simp only [nm, ne_eq] at h4
    have hln : ¬ lnV st (s.drop p) = (plainV z.text).1 := by rw [hlnq]; assumption
    refine x_skip <| then_n <| x_seq <| sr rfl <| mB rfl <| en <| x_cond rfl (fun h5 => ?_) (fun h5 => ?_)
    ·try simp only [nm, ne_eq] at h5
     exact absurd h5 (by first | assumption | simp_all)
    try simp only [nm, ne_eq] at h5
    refine x_skip <| then_n <| x_region rfl <| mP rfl <| nc rfl <| fa T.fld51_3 rfl <| lS T.one9 rfl (hA.cell (cell_tok 3 rfl)) <| mS rfl <| Wp rfl <| st_sadd rfl rfl (by have h7 : (withL z (z.here ++ acc) (plainV z.text).2).here.length = z.here.length + acc.length := List.length_append; have h8 := congrArg List.length hlaq; (try simp only [List.length_append, List.length_cons, List.length_nil] at h8 ⊢); omega) <| nc rfl <| fa T.fld51_3 rfl <| Wp rfl <| st_store (v := S _) T.size9 rfl rfl rfl hA rfl (by show 0 + l0.length * 5 + 3 + 1 ≤ _; rw [flat_len (z := z), hlnA]; omega) q5 rfl ?_
    intro w34 c35 hb36;replace hb36 : Blk w34 ga (flatC tokC5 (l0 ++ withL z (z.here ++ (acc ++ laV st (s.drop p))) (plainV z.text).2 :: l1) ++ rest9) 51 := by rw [← List.append_assoc, ← set_tok (z := withL z (z.here ++ acc) (plainV z.text).2) (u := withL z (z.here ++ acc ++ laV st (s.drop p)) (plainV z.text).2) 3 q0 rfl]; show Blk _ _ (setVs _ _ [S (z.here ++ acc ++ laV st (s.drop p))]) _; rw [hlaq]; exact hb36
    clear hA;replace hb := hb.tr1 c35 ne_b_ga;replace hw := hw.trF flat_flat c35 (by intro k hk hx; simp only [List.mem_singleton] at hx; subst hx; exact naw_ga hk)
    replace hmx := hmx.tr c35 q1;replace hb14 := hb14.tr1 c35 (Ne.symm ne_ga_b6);replace HC := HC.trans c35 (fun x hx => .inl (by rw [List.mem_singleton.1 hx, hgA]; exact List.mem_cons_of_mem _ (by simp [ob])))
    refine wops_nil <| block_n <| then_n <| ⟨(acc ++ laV st (s.drop p), kf, (p + (Lib.cut (s.drop p) [10]).1.length)), ?_, ?_, rfl, ⟨rfl, trivial⟩, ?_⟩
    ·refine ⟨?_, HC, hb, hw, hmx, hb14, hb36⟩;exact ⟨by rw [List.length_append]; omega, by omega, by omega, by omega, by rw [hbv, bodyL_go hrn hln, List.drop_drop, List.append_assoc, hlmq]; exact congrArg _ q0⟩
    ·show s.length - (p + (Lib.cut (s.drop p) [10]).1.length) < s.length - p; omega
    exact q9
   try simp only [nm, ne_eq] at h2
   have hlnq : lnV st (s.drop p) = (Lib.cut (s.drop p) [10]).1 := by unfold lnV; rw [if_neg (by first | assumption | simp_all)]
   refine x_skip <| then_n <| x_seq <| sr rfl <| mB rfl <| en <| x_cond rfl (fun h3 => ?_) (fun h3 => ?_)
   ·try simp only [nm, ne_eq] at h3
    have hlmq : lmV (s.drop p) = (Lib.cut (s.drop p) [10]).1.length + 1 := by unfold lmV; rw [if_pos (by first | assumption | simp_all)]
    have hlaq : laV st (s.drop p) = lnV st (s.drop p) ++ [10] := by unfold laV; rw [if_pos (by first | assumption | simp_all)]
    rw [hlnq] at hlaq
    refine x_region rfl <| mI rfl <| Wp rfl <| st_addn rfl rfl (by constructor <;> omega) <| aI rfl <| en <| x_seq <| sr rfl <| mS rfl <| mS rfl <| Wp rfl <| st_seql rfl rfl <| en <| x_cond rfl (fun h4 => ?_) (fun h4 => ?_)
    ·try simp only [nm, ne_eq] at h4
     have hbq : bodyV (plainV z.text).1 st (s.drop i) = (acc, (p + ((Lib.cut (s.drop p) [10]).1.length + 1)) - i) := by rw [hbv, bodyL_fin hrn (hlnq.trans (by assumption)), hlmq]; simp; omega
     refine x_exit <| then_x <| block_o rfl <| then_x <| block_x <| block_n <| then_n ?_;have hoN : Own tok5E 51 w27 D A cap (l0 ++ withL z (z.here ++ acc) (plainV z.text).2 :: l1) := by rw [hgA]; exact Own.of_raw hA (by rw [← hlnA]; simp only [List.length_append, tokL, List.length_cons]) (by simpa using hleA) hcapA hgaD
     refine x_region rfl <| Wp rfl <| st_addn rfl rfl (by constructor <;> omega) <| mI rfl <| en <| ⟨(l0 ++ withL z (z.here ++ acc) (plainV z.text).2 :: l1, k + 1, (p + ((Lib.cut (s.drop p) [10]).1.length + 1))), ?_, ?_, rfl, ⟨rfl, rfl, trivial⟩, ?_⟩
     ·refine ⟨?_, HC, hb, hoN, hw, hmx⟩;exact ⟨by rw [← hLl]; simp, hLg.set q0 (by rw [List.length_append]; omega), by omega, by omega, by omega, by rw [hlv, hwl, linesV_cons hbq, List.drop_drop, show i + ((p + ((Lib.cut (s.drop p) [10]).1.length + 1)) - i) = (p + ((Lib.cut (s.drop p) [10]).1.length + 1)) by omega]; exact congrArg _ q0⟩
     ·show ws.length - (k + 1) < ws.length - k; omega
     exact q9
    try simp only [nm, ne_eq] at h4
    have hln : ¬ lnV st (s.drop p) = (plainV z.text).1 := by rw [hlnq]; assumption
    refine x_skip <| then_n <| x_seq <| sr rfl <| mB rfl <| en <| x_cond rfl (fun h5 => ?_) (fun h5 => ?_)
    ·try simp only [nm, ne_eq] at h5
     refine x_region rfl <| mS rfl <| Wp rfl <| st_sadd rfl rfl (by (try simp only [List.length_append, List.length_cons, List.length_nil] at *); omega) <| aS rfl <| en <| x_region rfl <| mP rfl <| nc rfl <| fa T.fld51_3 rfl <| lS T.one9 rfl (hA.cell (cell_tok 3 rfl)) <| mS rfl <| Wp rfl <| st_sadd rfl rfl (by have h7 : (withL z (z.here ++ acc) (plainV z.text).2).here.length = z.here.length + acc.length := List.length_append; have h8 := congrArg List.length hlaq; (try simp only [List.length_append, List.length_cons, List.length_nil] at h8 ⊢); omega) <| nc rfl <| fa T.fld51_3 rfl <| Wp rfl <| st_store (v := S _) T.size9 rfl rfl rfl hA rfl (by show 0 + l0.length * 5 + 3 + 1 ≤ _; rw [flat_len (z := z), hlnA]; omega) q5 rfl ?_
     intro w37 c38 hb39;replace hb39 : Blk w37 ga (flatC tokC5 (l0 ++ withL z (z.here ++ (acc ++ laV st (s.drop p))) (plainV z.text).2 :: l1) ++ rest9) 51 := by rw [← List.append_assoc, ← set_tok (z := withL z (z.here ++ acc) (plainV z.text).2) (u := withL z (z.here ++ acc ++ laV st (s.drop p)) (plainV z.text).2) 3 q0 rfl]; show Blk _ _ (setVs _ _ [S (z.here ++ acc ++ laV st (s.drop p))]) _; rw [hlaq]; exact hb39
     clear hA;replace hb := hb.tr1 c38 ne_b_ga;replace hw := hw.trF flat_flat c38 (by intro k hk hx; simp only [List.mem_singleton] at hx; subst hx; exact naw_ga hk)
     replace hmx := hmx.tr c38 q1;replace hb14 := hb14.tr1 c38 (Ne.symm ne_ga_b6);replace HC := HC.trans c38 (fun x hx => .inl (by rw [List.mem_singleton.1 hx, hgA]; exact List.mem_cons_of_mem _ (by simp [ob])))
     refine wops_nil <| block_n <| then_n <| ⟨(acc ++ laV st (s.drop p), kf, (p + ((Lib.cut (s.drop p) [10]).1.length + 1))), ?_, ?_, rfl, ⟨rfl, trivial⟩, ?_⟩
     ·refine ⟨?_, HC, hb, hw, hmx, hb14, hb39⟩;exact ⟨by rw [List.length_append]; omega, by omega, by omega, by omega, by rw [hbv, bodyL_go hrn hln, List.drop_drop, List.append_assoc, hlmq]; exact congrArg _ q0⟩
     ·show s.length - (p + ((Lib.cut (s.drop p) [10]).1.length + 1)) < s.length - p; omega
     exact q9
    try simp only [nm, ne_eq] at h5
    exact absurd h3 (by first | assumption | simp_all)
   try simp only [nm, ne_eq] at h3
   have hlmq : lmV (s.drop p) = (Lib.cut (s.drop p) [10]).1.length := by unfold lmV; rw [if_neg (by first | assumption | simp_all)]; rfl
   have hlaq : laV st (s.drop p) = lnV st (s.drop p) := by unfold laV; rw [if_neg (by first | assumption | simp_all)]
   rw [hlnq] at hlaq
   refine x_skip <| then_n <| x_seq <| sr rfl <| mS rfl <| mS rfl <| Wp rfl <| st_seql rfl rfl <| en <| x_cond rfl (fun h4 => ?_) (fun h4 => ?_)
   ·try simp only [nm, ne_eq] at h4
    have hbq : bodyV (plainV z.text).1 st (s.drop i) = (acc, (p + (Lib.cut (s.drop p) [10]).1.length) - i) := by rw [hbv, bodyL_fin hrn (hlnq.trans (by assumption)), hlmq]; simp; omega
    refine x_exit <| then_x <| block_o rfl <| then_x <| block_x <| block_n <| then_n ?_;have hoN : Own tok5E 51 w27 D A cap (l0 ++ withL z (z.here ++ acc) (plainV z.text).2 :: l1) := by rw [hgA]; exact Own.of_raw hA (by rw [← hlnA]; simp only [List.length_append, tokL, List.length_cons]) (by simpa using hleA) hcapA hgaD
    refine x_region rfl <| Wp rfl <| st_addn rfl rfl (by constructor <;> omega) <| mI rfl <| en <| ⟨(l0 ++ withL z (z.here ++ acc) (plainV z.text).2 :: l1, k + 1, (p + (Lib.cut (s.drop p) [10]).1.length)), ?_, ?_, rfl, ⟨rfl, rfl, trivial⟩, ?_⟩
    ·refine ⟨?_, HC, hb, hoN, hw, hmx⟩;exact ⟨by rw [← hLl]; simp, hLg.set q0 (by rw [List.length_append]; omega), by omega, by omega, by omega, by rw [hlv, hwl, linesV_cons hbq, List.drop_drop, show i + ((p + (Lib.cut (s.drop p) [10]).1.length) - i) = (p + (Lib.cut (s.drop p) [10]).1.length) by omega]; exact congrArg _ q0⟩
    ·show ws.length - (k + 1) < ws.length - k; omega
    exact q9
   try simp only [nm, ne_eq] at h4
   have hln : ¬ lnV st (s.drop p) = (plainV z.text).1 := by rw [hlnq]; assumption
   refine x_skip <| then_n <| x_seq <| sr rfl <| mB rfl <| en <| x_cond rfl (fun h5 => ?_) (fun h5 => ?_)
   ·try simp only [nm, ne_eq] at h5
    exact absurd h5 (by first | assumption | simp_all)
   try simp only [nm, ne_eq] at h5
   refine x_skip <| then_n <| x_region rfl <| mP rfl <| nc rfl <| fa T.fld51_3 rfl <| lS T.one9 rfl (hA.cell (cell_tok 3 rfl)) <| mS rfl <| Wp rfl <| st_sadd rfl rfl (by have h7 : (withL z (z.here ++ acc) (plainV z.text).2).here.length = z.here.length + acc.length := List.length_append; have h8 := congrArg List.length hlaq; (try simp only [List.length_append, List.length_cons, List.length_nil] at h8 ⊢); omega) <| nc rfl <| fa T.fld51_3 rfl <| Wp rfl <| st_store (v := S _) T.size9 rfl rfl rfl hA rfl (by show 0 + l0.length * 5 + 3 + 1 ≤ _; rw [flat_len (z := z), hlnA]; omega) q5 rfl ?_
   intro w40 c41 hb42;replace hb42 : Blk w40 ga (flatC tokC5 (l0 ++ withL z (z.here ++ (acc ++ laV st (s.drop p))) (plainV z.text).2 :: l1) ++ rest9) 51 := by rw [← List.append_assoc, ← set_tok (z := withL z (z.here ++ acc) (plainV z.text).2) (u := withL z (z.here ++ acc ++ laV st (s.drop p)) (plainV z.text).2) 3 q0 rfl]; show Blk _ _ (setVs _ _ [S (z.here ++ acc ++ laV st (s.drop p))]) _; rw [hlaq]; exact hb42
   clear hA;replace hb := hb.tr1 c41 ne_b_ga;replace hw := hw.trF flat_flat c41 (by intro k hk hx; simp only [List.mem_singleton] at hx; subst hx; exact naw_ga hk)
   replace hmx := hmx.tr c41 q1;replace hb14 := hb14.tr1 c41 (Ne.symm ne_ga_b6);replace HC := HC.trans c41 (fun x hx => .inl (by rw [List.mem_singleton.1 hx, hgA]; exact List.mem_cons_of_mem _ (by simp [ob])))
   refine wops_nil <| block_n <| then_n <| ⟨(acc ++ laV st (s.drop p), kf, (p + (Lib.cut (s.drop p) [10]).1.length)), ?_, ?_, rfl, ⟨rfl, trivial⟩, ?_⟩
   ·refine ⟨?_, HC, hb, hw, hmx, hb14, hb42⟩;exact ⟨by rw [List.length_append]; omega, by omega, by omega, by omega, by rw [hbv, bodyL_go hrn hln, List.drop_drop, List.append_assoc, hlmq]; exact congrArg _ q0⟩
   ·show s.length - (p + (Lib.cut (s.drop p) [10]).1.length) < s.length - p; omega
   exact q9
  try simp only [nm, ne_eq] at h1
  have hbq : bodyV (plainV z.text).1 st (s.drop i) = (acc, p - i) := by rw [hbv, bodyL_end (List.drop_eq_nil_of_le q0)]; simp
  refine x_exit <| then_x <| then_x <| block_x <| block_n <| then_n ?_;have hoN : Own tok5E 51 w25 D A cap (l0 ++ withL z (z.here ++ acc) (plainV z.text).2 :: l1) := by rw [hgA]; exact Own.of_raw hA (by rw [← hlnA]; simp only [List.length_append, tokL, List.length_cons]) (by simpa using hleA) hcapA hgaD
  refine x_region rfl <| Wp rfl <| st_addn rfl rfl (by constructor <;> omega) <| mI rfl <| en <| ⟨(l0 ++ withL z (z.here ++ acc) (plainV z.text).2 :: l1, k + 1, p), ?_, ?_, rfl, ⟨rfl, rfl, trivial⟩, ?_⟩
  ·refine ⟨?_, HC, hb, hoN, hw, hmx⟩;exact ⟨by rw [← hLl]; simp, hLg.set q0 (by rw [List.length_append]; omega), by omega, by omega, by omega, by rw [hlv, hwl, linesV_cons hbq, List.drop_drop, show i + (p - i) = p by omega]; exact congrArg _ q0⟩
  ·show ws.length - (k + 1) < ws.length - k; omega
  exact q9
 try simp only [nm, ne_eq] at h0
 have hkw : k = ws.length := by omega
 have hfv : linesV out ws (s.drop i0) = (L, i - i0) := by rw [hlv, hkw, List.drop_length]; simp [linesV]
 refine x_exit <| then_x <| then_x <| block_x <| then_n <| sr rfl <| mP rfl <| nc rfl <| fa T.fld69_2 rfl <| Wp rfl <| st_st (v := .slice _ _ _) T.size67 rfl rfl rfl hb ?_;intro w43 c44 hb45; simp only [setVs, setV] at hb45;clear hb;replace HC := HC.trans c44 q4;replace ho := ho.trF flat_flat c44 (by intro k hk hx; simp only [List.mem_singleton] at hx; subst hx; exact nao_b hk)
 refine en <| sr rfl <| mI rfl <| aI rfl <| en <| x_ret <| ret_tmp (v := .int _ _) rfl rfl ?_;rw [hfv];exact ⟨congrArg (Value.int .i64) (by show (i : Int) = ((i0 + (i - i0) : Nat) : Int); omega), hb45, ho, ⟨by show GoodO s.length (i0 + (i - i0)) L; rw [show i0 + (i - i0) = i by omega]; exact hLg, by show i0 + (i - i0) ≤ _; omega⟩, HC⟩
open Go Go.RowKit
variable {P : Program} {r : Option Nat} {n : Nat} {O : Array Oper} {Q : Post} {E : Env} {ds : List Deferred} {w : World} {l : List Oper}
end Go.Proofs.YtghjmiggobpmoaaGreatDoor.K
