/- The document's back, unticked. -/
import Derived.Test.YtiiahnpgomdfmaaDoorQc
set_option linter.unusedVariables false
set_option linter.unusedSimpArgs false
set_option autoImplicit false
set_option maxRecDepth 20000
namespace Go.Proofs.YtiiahnpgomdfmaaDoor.K
open Go Go.Proofs Go.RowKit

/-- What a \ begins: a text, how many bytes. -/
def bkV (m : Int) (w : Bytes) : Bytes × Nat := if 1 < w.length ∧ byte w 1 = 10 then ([], 2) else if 1 < w.length ∧ (byte w 1 = 36 ∨ byte w 1 = 92 ∨ byte w 1 = 96 ∨ (m = 1 ∧ byte w 1 = 34)) then ((w.take 2).drop 1, 2) else (w.take 1, 1)

theorem rback_spec (w : Bytes) (m : Int) (w0 : World) (hs : w.length < 4294967281) (hw : w ≠ []) : CallR Tryd.prog 35 #[S w, .int .i64 m] w0 fun v w' => v = .tuple ⟨[S (bkV m w).1, .int .i64 ((bkV m w).2 : Int)]⟩ ∧ Chg [] w0 w' := by
 refine callR_of_wp (args := [_, _]) Tryd.func35 rfl (Nat.le_of_ble_eq_true rfl) ?_
 have HC : Chg [] w0 w0 := .refl _
 have hwp := List.length_pos_iff.2 hw
 refine sr rfl <| aS rfl <| aI rfl <| en <| x_seq <| sr rfl <| mS rfl <| Wp rfl <| st_slen (ct := #[9]) T.u9 rfl <| Wp rfl <| st_gtr rfl rfl <| en <| x_cond rfl (fun h0 => ?_) (fun h0 => ?_)
 ·try simp only [nm, ne_eq] at h0
  refine sr rfl <| mS rfl <| Wp rfl <| st_sidx T.u9 rfl rfl (by decide) (by omega) <| aI rfl <| en <| x_seq <| sr rfl <| mI rfl <| Wp rfl <| st_eql rfl rfl <| en <| x_cond rfl (fun h1 => ?_) (fun h1 => ?_)
  ·try simp only [nm, ne_eq] at h1
   refine sr rfl <| aS rfl <| aI rfl <| en <| x_ret <| then_r <| then_r <| ret_tmp2 (v := S _) (v2 := .int _ _) rfl rfl rfl ?_
   unfold bkV
   rw [if_pos ⟨by omega, u8_eq h1 rfl⟩]
   exact ⟨rfl, HC⟩
  ·try simp only [nm, ne_eq] at h1
   have hn10 : ¬ (1 < w.length ∧ byte w 1 = 10) := fun h => h1 (by rw [h.2]; rfl)
   refine x_skip <| then_n <| sr rfl <| mI rfl <| Wp rfl <| st_eql rfl rfl <| mB rfl <| w_split (d := 16) rfl (fun g1 => ?_) (fun g1 => ?_)
   ·try simp only [nm, ne_eq] at g1
    refine w_no 2 16 false <| w_no 2 16 false <| pT rfl rfl <| mB rfl <| w_no 6 20 false <| w_no 6 20 false <| pT rfl rfl <| mB rfl ?_
    iterate 3 refine w_no 10 24 false ?_
    refine w_no 13 27 true <| w_no 13 27 true <| w_no 10 24 false <| pT rfl rfl <| en <| x_cond (t := true) rfl (fun h2 => ?_) (fun h2 => ?_)
    rotate_left
    · exact absurd h2 (by decide)
    have hset : byte w 1 = 36 ∨ byte w 1 = 92 ∨ byte w 1 = 96 ∨ (m = 1 ∧ byte w 1 = 34) := by first | exact .inl (u8_eq (by assumption) rfl) | exact .inr (.inl (u8_eq (by assumption) rfl)) | exact .inr (.inr (.inl (u8_eq (by assumption) rfl))) | exact .inr (.inr (.inr ⟨by first | assumption | simp_all, u8_eq (by assumption) rfl⟩))
    refine sr rfl <| mS rfl <| Wp rfl <| st_sslice (i := 1) (j := 2) T.u9 rfl ⟨_, rfl⟩ ⟨_, rfl⟩ (by decide) (by omega) <| aS rfl <| aI rfl <| en <| x_ret <| then_r <| ret_tmp2 (v := S _) (v2 := .int _ _) rfl rfl rfl ?_
    unfold bkV
    rw [if_neg hn10, if_pos ⟨by omega, hset⟩]
    exact ⟨rfl, HC⟩
   ·try simp only [nm, ne_eq] at g1
    refine w_yes 2 16 false <| st_move (v := .int _ _) rfl <| w_yes 2 16 false <| st_eql rfl rfl <| pF rfl rfl <| mB rfl <| w_split (d := 20) rfl (fun g2 => ?_) (fun g2 => ?_)
    ·try simp only [nm, ne_eq] at g2
     refine w_no 6 20 false <| w_no 6 20 false <| pT rfl rfl <| mB rfl ?_
     iterate 3 refine w_no 10 24 false ?_
     refine w_no 13 27 true <| w_no 13 27 true <| w_no 10 24 false <| pT rfl rfl <| en <| x_cond (t := true) rfl (fun h2 => ?_) (fun h2 => ?_)
     rotate_left
     · exact absurd h2 (by decide)
     have hset : byte w 1 = 36 ∨ byte w 1 = 92 ∨ byte w 1 = 96 ∨ (m = 1 ∧ byte w 1 = 34) := by first | exact .inl (u8_eq (by assumption) rfl) | exact .inr (.inl (u8_eq (by assumption) rfl)) | exact .inr (.inr (.inl (u8_eq (by assumption) rfl))) | exact .inr (.inr (.inr ⟨by first | assumption | simp_all, u8_eq (by assumption) rfl⟩))
     refine sr rfl <| mS rfl <| Wp rfl <| st_sslice (i := 1) (j := 2) T.u9 rfl ⟨_, rfl⟩ ⟨_, rfl⟩ (by decide) (by omega) <| aS rfl <| aI rfl <| en <| x_ret <| then_r <| ret_tmp2 (v := S _) (v2 := .int _ _) rfl rfl rfl ?_
     unfold bkV
     rw [if_neg hn10, if_pos ⟨by omega, hset⟩]
     exact ⟨rfl, HC⟩
    ·try simp only [nm, ne_eq] at g2
     refine w_yes 6 20 false <| st_move (v := .int _ _) rfl <| w_yes 6 20 false <| st_eql rfl rfl <| pF rfl rfl <| mB rfl <| w_split (d := 24) rfl (fun g3 => ?_) (fun g3 => ?_)
     ·try simp only [nm, ne_eq] at g3
      iterate 3 refine w_no 10 24 false ?_
      refine w_no 13 27 true <| w_no 13 27 true <| w_no 10 24 false <| pT rfl rfl <| en <| x_cond (t := true) rfl (fun h2 => ?_) (fun h2 => ?_)
      rotate_left
      · exact absurd h2 (by decide)
      have hset : byte w 1 = 36 ∨ byte w 1 = 92 ∨ byte w 1 = 96 ∨ (m = 1 ∧ byte w 1 = 34) := by first | exact .inl (u8_eq (by assumption) rfl) | exact .inr (.inl (u8_eq (by assumption) rfl)) | exact .inr (.inr (.inl (u8_eq (by assumption) rfl))) | exact .inr (.inr (.inr ⟨by first | assumption | simp_all, u8_eq (by assumption) rfl⟩))
      refine sr rfl <| mS rfl <| Wp rfl <| st_sslice (i := 1) (j := 2) T.u9 rfl ⟨_, rfl⟩ ⟨_, rfl⟩ (by decide) (by omega) <| aS rfl <| aI rfl <| en <| x_ret <| then_r <| ret_tmp2 (v := S _) (v2 := .int _ _) rfl rfl rfl ?_
      unfold bkV
      rw [if_neg hn10, if_pos ⟨by omega, hset⟩]
      exact ⟨rfl, HC⟩
     ·try simp only [nm, ne_eq] at g3
      refine w_yes 10 24 false <| st_move (v := .int _ _) rfl <| w_yes 10 24 false <| st_eql rfl rfl <| w_yes 10 24 false <| st_move (v := .bool _) rfl <| w_split (d := 27) rfl (fun g4 => ?_) (fun g4 => ?_)
      ·try simp only [nm, ne_eq] at g4
       refine w_yes 13 27 true <| st_move (v := .int _ _) rfl <| w_yes 13 27 true <| st_eql rfl rfl <| w_yes 10 24 false <| st_pick (b := true) (v := .bool _) rfl rfl <| pF rfl rfl <| en <| x_cond rfl (fun h2 => ?_) (fun h2 => ?_)
       ·try simp only [nm, ne_eq] at h2
        have hset : byte w 1 = 36 ∨ byte w 1 = 92 ∨ byte w 1 = 96 ∨ (m = 1 ∧ byte w 1 = 34) := by first | exact .inl (u8_eq (by assumption) rfl) | exact .inr (.inl (u8_eq (by assumption) rfl)) | exact .inr (.inr (.inl (u8_eq (by assumption) rfl))) | exact .inr (.inr (.inr ⟨by first | assumption | simp_all, u8_eq (by assumption) rfl⟩))
        refine sr rfl <| mS rfl <| Wp rfl <| st_sslice (i := 1) (j := 2) T.u9 rfl ⟨_, rfl⟩ ⟨_, rfl⟩ (by decide) (by omega) <| aS rfl <| aI rfl <| en <| x_ret <| then_r <| ret_tmp2 (v := S _) (v2 := .int _ _) rfl rfl rfl ?_
        unfold bkV
        rw [if_neg hn10, if_pos ⟨by omega, hset⟩]
        exact ⟨rfl, HC⟩
       ·try simp only [nm, ne_eq] at h2
        have hset : ¬ (byte w 1 = 36 ∨ byte w 1 = 92 ∨ byte w 1 = 96 ∨ (m = 1 ∧ byte w 1 = 34)) := by rintro (q | q | q | ⟨q0, q⟩) <;> (have q9 := congrArg (fun c : UInt8 => (c.toNat : Int)) q; simp only [show (36 : UInt8).toNat = 36 from rfl, show (92 : UInt8).toNat = 92 from rfl, show (96 : UInt8).toNat = 96 from rfl, show (34 : UInt8).toNat = 34 from rfl] at q9; first | omega | simp_all)
        refine x_skip <| then_n <| sr rfl <| mS rfl <| Wp rfl <| st_sshi (j := 1) T.u9 rfl ⟨_, rfl⟩ (by omega) <| aS rfl <| aI rfl <| en <| x_ret <| ret_tmp2 (v := S _) (v2 := .int _ _) rfl rfl rfl ?_
        unfold bkV
        rw [if_neg hn10, if_neg (fun h => hset h.2)]
        exact ⟨rfl, HC⟩
      ·try simp only [nm, ne_eq] at g4
       refine w_no 13 27 true <| w_no 13 27 true <| w_yes 10 24 false <| st_pick (b := false) (v := .bool _) rfl rfl <| pF rfl rfl <| en <| x_cond (t := false) rfl (fun h2 => ?_) (fun h2 => ?_)
       · exact absurd h2 (by decide)
       have hset : ¬ (byte w 1 = 36 ∨ byte w 1 = 92 ∨ byte w 1 = 96 ∨ (m = 1 ∧ byte w 1 = 34)) := by rintro (q | q | q | ⟨q0, q⟩) <;> (have q9 := congrArg (fun c : UInt8 => (c.toNat : Int)) q; simp only [show (36 : UInt8).toNat = 36 from rfl, show (92 : UInt8).toNat = 92 from rfl, show (96 : UInt8).toNat = 96 from rfl, show (34 : UInt8).toNat = 34 from rfl] at q9; first | omega | simp_all)
       refine x_skip <| then_n <| sr rfl <| mS rfl <| Wp rfl <| st_sshi (j := 1) T.u9 rfl ⟨_, rfl⟩ (by omega) <| aS rfl <| aI rfl <| en <| x_ret <| ret_tmp2 (v := S _) (v2 := .int _ _) rfl rfl rfl ?_
       unfold bkV
       rw [if_neg hn10, if_neg (fun h => hset h.2)]
       exact ⟨rfl, HC⟩
 ·try simp only [nm, ne_eq] at h0
  refine x_skip <| then_n <| sr rfl <| mS rfl <| Wp rfl <| st_sshi (j := 1) T.u9 rfl ⟨_, rfl⟩ (by omega) <| aS rfl <| aI rfl <| en <| x_ret <| ret_tmp2 (v := S _) (v2 := .int _ _) rfl rfl rfl ?_
  unfold bkV
  rw [if_neg (fun h => by omega), if_neg (fun h => by omega)]
  exact ⟨rfl, HC⟩

theorem unticked_spec (s : Bytes) (w : World) (hs : s.length < 4294967281) : CallR Tryd.prog 39 #[S s] w fun v w' => v = S (untick s) ∧ Chg [] w w' := by
 refine callR_of_wp (args := [_]) Tryd.func39 rfl (Nat.le_of_ble_eq_true rfl) ?_
 have HC : Chg [] w w := .refl _
 refine sr rfl <| aS rfl <| en <| sr rfl <| aL rfl <| en <| x_seq <| sr rfl <| aI rfl <| en <| x_block <| x_loop (ι := Nat × Bytes × Option Addr × Nat) [3, 4, 5, 6, 7, 8, 9, 10, 11, 12, 13, 14, 15, 16, 17, 18, 19, 20, 21, 22, 23, 24, 25, 26, 27, 28, 29, 30, 31, 32, 33, 34, 35, 36, 37, 38, 39, 40, 41, 42, 43, 44, 45, 46, 47, 48, 49, 50] (fun ⟨i, out, A, cap⟩ => [(3, .slice A out.length cap), (4, .int .i64 (i : Int))]) (fun ⟨i, out, A, cap⟩ W => (i ≤ s.length ∧ out.length ≤ i ∧ untick s = out ++ untick (s.drop i)) ∧ (Chg [] w W) ∧ (Own uE 5 W (fun k => w.heap.size ≤ k) A cap out)) (fun ⟨i, out, A, cap⟩ => s.length - i) (0, [], none, 0) ?_ ?_ ?_
 · exact ⟨rfl, rfl, trivial⟩
 ·refine ⟨?_, HC, Own.nil⟩
  exact ⟨Nat.zero_le _, Nat.le_refl _, rfl⟩
 intro ⟨i, out, A, cap⟩ G2 w1 ⟨⟨hi, hol, htot⟩, HC, ho⟩
 change wp _ _ _ _ _ (upds (over _ _ G2) [(3, .slice A out.length cap), (4, .int .i64 (i : Int))]) _ _
 refine x_seq <| sr rfl <| mI rfl <| mS rfl <| Wp rfl <| st_slen (ct := #[9]) T.u9 rfl <| Wp rfl <| st_lss rfl rfl <| en <| x_cond rfl (fun h0 => ?_) (fun h0 => ?_)
 ·try simp only [nm, ne_eq] at h0
  have hne : s.drop i ≠ [] := drop_neQ (by omega)
  have hdl : (s.drop i).length = s.length - i := List.length_drop
  refine x_skip <| then_n <| x_seq <| x_block <| x_seq <| sr rfl <| mS rfl <| mI rfl <| Wp rfl <| st_sidx T.u9 rfl rfl (by omega) (by omega) <| Wp rfl <| st_eql rfl rfl <| mB rfl <| w_split (d := 15) rfl (fun g3 => ?_) (fun g3 => ?_)
  ·try simp only [nm, ne_eq] at g3
   refine w_yes 4 15 true <| st_move (v := .int _ _) rfl <| w_yes 4 15 true <| st_addn rfl rfl (by constructor <;> omega) <| w_yes 4 15 true <| st_move (v := S _) rfl <| w_yes 4 15 true <| st_slen (ct := #[9]) T.u9 rfl <| w_yes 4 15 true <| st_lss rfl rfl <| pT rfl rfl <| mB rfl <| w_split (d := 22) rfl (fun g4 => ?_) (fun g4 => ?_)
   ·try simp only [nm, ne_eq] at g4
    refine w_yes 11 22 true <| st_move (v := S _) rfl <| w_yes 11 22 true <| st_move (v := .int _ _) rfl <| w_yes 11 22 true <| st_addn rfl rfl (by constructor <;> omega) <| w_yes 11 22 true <| st_sidx T.u9 rfl rfl (by omega) (by omega) <| w_yes 11 22 true <| st_eql rfl rfl <| w_yes 11 22 true <| st_move (v := .bool _) rfl <| w_split (d := 28) rfl (fun g5 => ?_) (fun g5 => ?_)
    ·try simp only [nm, ne_eq] at g5
     iterate 5 refine w_no 17 28 false ?_
     refine w_yes 11 22 true <| st_pick (b := true) (v := .bool _) rfl rfl <| w_yes 11 22 true <| st_move (v := .bool _) rfl ?_
     iterate 5 refine w_no 24 35 false ?_
     refine w_yes 11 22 true <| st_pick (b := true) (v := .bool _) rfl rfl <| pT rfl rfl <| en <| x_cond (t := true) rfl (fun h1 => ?_) (fun h1 => ?_)
     rotate_left
     · exact absurd h1 (by decide)
     have hun : untick (s.drop i) = byte s (i + 1) :: untick (s.drop (i + 1 + 1)) := by have h9 := untick_esc (r := s.drop i) (by omega) (by rw [byte_dropk]; exact u8_eq (by first | assumption | simp_all) rfl) (by rw [byte_dropk]; first | exact .inl (u8_eq (by assumption) rfl) | exact .inr (.inr (u8_eq (by assumption) rfl)) | exact .inr (.inl (u8_eq (by first | assumption | simp_all) rfl))); rw [byte_dropk, List.drop_drop] at h9; exact h9
     refine x_region rfl <| mI rfl <| Wp rfl <| st_addn rfl rfl (by constructor <;> omega) <| aI rfl <| en <| x_region rfl <| mL rfl <| mS rfl <| mI rfl <| Wp rfl <| st_sidx T.u9 rfl rfl (by omega) (by omega) <| Wp rfl <| st_lit (ps := [(0, .tmp 48)]) (vs := [.int _ _]) T.lit63 (by decide) rfl (by simp only [List.forall_mem_cons, List.not_mem_nil, false_imp_iff, implies_true, and_true]; exact rfl) rfl ?_
     intro b6 w7 e8 c9 hb10
     have ge_b6 : w.heap.size ≤ b6 := by rw [e8]; exact HC.size
     have na_b6 : b6 ∉ ob A := ho.fresh (by rw [e8]; exact Nat.le_refl _)
     replace HC := HC.then c9
     replace ho := ho.tr0 c9
     clear e8
     have hszA := HC.size
     refine Wp rfl <| st_append2 (c := uE) (D2 := fun _ => False) (xs := out) (ys := [(byte s (i + 1))]) T.slice63 rfl rfl ho rfl rfl (one_elem rfl (hb10.cells (n := 1) rfl)) (fun _ _ h => h.elim) (fun k hk => by have := HC.size; omega) (by simp only [List.length_append, List.length_cons, List.length_nil]; omega) (by simp only [List.length_append, List.length_cons, List.length_nil]; omega) ?_
     intro A11 cap12 w13 ho14 c15 hg16
     replace HC := HC.trans c15 (fun k hk => .inr ((ho.inD k hk)))
     replace hb10 := hb10.tr c15 (fun hx => by first | (have h1 := ho.inD _ hx; omega) | exact na_b6 hx | exact hav _ hx (by simp))
     refine aL rfl <| wops_nil <| block_n <| then_n <| x_region rfl <| mI rfl <| Wp rfl <| st_addn rfl rfl (by constructor <;> omega) <| aI rfl <| en <| ⟨(i + 1 + 1, out ++ [(byte s (i + 1))], A11, cap12), ?_, ?_, rfl, ⟨rfl, rfl, trivial⟩, ?_⟩
     ·refine ⟨?_, HC, ho14⟩
      exact ⟨by omega, by simp only [List.length_append, List.length_cons, List.length_nil]; omega, by rw [htot, hun]; simp⟩
     ·show s.length - (i + 1 + 1) < s.length - i; omega
     repeat (first | exact agree_upds agree_over rfl | refine agree_upd ?_ rfl | refine agree_upds ?_ rfl | refine agree_over_sub ?_ rfl)
    ·try simp only [nm, ne_eq] at g5
     refine w_yes 17 28 false <| st_move (v := S _) rfl <| w_yes 17 28 false <| st_move (v := .int _ _) rfl <| w_yes 17 28 false <| st_addn rfl rfl (by constructor <;> omega) <| w_yes 17 28 false <| st_sidx T.u9 rfl rfl (by omega) (by omega) <| w_yes 17 28 false <| st_eql rfl rfl <| w_yes 11 22 true <| st_pick (b := false) (v := .bool _) rfl rfl <| w_yes 11 22 true <| st_move (v := .bool _) rfl <| w_split (d := 35) rfl (fun g17 => ?_) (fun g17 => ?_)
     ·try simp only [nm, ne_eq] at g17
      iterate 5 refine w_no 24 35 false ?_
      refine w_yes 11 22 true <| st_pick (b := true) (v := .bool _) rfl rfl <| pT rfl rfl <| en <| x_cond (t := true) rfl (fun h1 => ?_) (fun h1 => ?_)
      rotate_left
      · exact absurd h1 (by decide)
      have hun : untick (s.drop i) = byte s (i + 1) :: untick (s.drop (i + 1 + 1)) := by have h9 := untick_esc (r := s.drop i) (by omega) (by rw [byte_dropk]; exact u8_eq (by first | assumption | simp_all) rfl) (by rw [byte_dropk]; first | exact .inl (u8_eq (by assumption) rfl) | exact .inr (.inr (u8_eq (by assumption) rfl)) | exact .inr (.inl (u8_eq (by first | assumption | simp_all) rfl))); rw [byte_dropk, List.drop_drop] at h9; exact h9
      refine x_region rfl <| mI rfl <| Wp rfl <| st_addn rfl rfl (by constructor <;> omega) <| aI rfl <| en <| x_region rfl <| mL rfl <| mS rfl <| mI rfl <| Wp rfl <| st_sidx T.u9 rfl rfl (by omega) (by omega) <| Wp rfl <| st_lit (ps := [(0, .tmp 48)]) (vs := [.int _ _]) T.lit63 (by decide) rfl (by simp only [List.forall_mem_cons, List.not_mem_nil, false_imp_iff, implies_true, and_true]; exact rfl) rfl ?_
      intro b18 w19 e20 c21 hb22
      have ge_b18 : w.heap.size ≤ b18 := by rw [e20]; exact HC.size
      have na_b18 : b18 ∉ ob A := ho.fresh (by rw [e20]; exact Nat.le_refl _)
      replace HC := HC.then c21
      replace ho := ho.tr0 c21
      clear e20
      have hszA := HC.size
      refine Wp rfl <| st_append2 (c := uE) (D2 := fun _ => False) (xs := out) (ys := [(byte s (i + 1))]) T.slice63 rfl rfl ho rfl rfl (one_elem rfl (hb22.cells (n := 1) rfl)) (fun _ _ h => h.elim) (fun k hk => by have := HC.size; omega) (by simp only [List.length_append, List.length_cons, List.length_nil]; omega) (by simp only [List.length_append, List.length_cons, List.length_nil]; omega) ?_
      intro A23 cap24 w25 ho26 c27 hg28
      replace HC := HC.trans c27 (fun k hk => .inr ((ho.inD k hk)))
      replace hb22 := hb22.tr c27 (fun hx => by first | (have h1 := ho.inD _ hx; omega) | exact na_b18 hx | exact hav _ hx (by simp))
      refine aL rfl <| wops_nil <| block_n <| then_n <| x_region rfl <| mI rfl <| Wp rfl <| st_addn rfl rfl (by constructor <;> omega) <| aI rfl <| en <| ⟨(i + 1 + 1, out ++ [(byte s (i + 1))], A23, cap24), ?_, ?_, rfl, ⟨rfl, rfl, trivial⟩, ?_⟩
      ·refine ⟨?_, HC, ho26⟩
       exact ⟨by omega, by simp only [List.length_append, List.length_cons, List.length_nil]; omega, by rw [htot, hun]; simp⟩
      ·show s.length - (i + 1 + 1) < s.length - i; omega
      repeat (first | exact agree_upds agree_over rfl | refine agree_upd ?_ rfl | refine agree_upds ?_ rfl | refine agree_over_sub ?_ rfl)
     ·try simp only [nm, ne_eq] at g17
      refine w_yes 24 35 false <| st_move (v := S _) rfl <| w_yes 24 35 false <| st_move (v := .int _ _) rfl <| w_yes 24 35 false <| st_addn rfl rfl (by constructor <;> omega) <| w_yes 24 35 false <| st_sidx T.u9 rfl rfl (by omega) (by omega) <| w_yes 24 35 false <| st_eql rfl rfl <| w_yes 11 22 true <| st_pick (b := false) (v := .bool _) rfl rfl <| pT rfl rfl <| en <| x_cond rfl (fun h1 => ?_) (fun h1 => ?_)
      ·try simp only [nm, ne_eq] at h1
       have hun : untick (s.drop i) = byte s (i + 1) :: untick (s.drop (i + 1 + 1)) := by have h9 := untick_esc (r := s.drop i) (by omega) (by rw [byte_dropk]; exact u8_eq (by first | assumption | simp_all) rfl) (by rw [byte_dropk]; first | exact .inl (u8_eq (by assumption) rfl) | exact .inr (.inr (u8_eq (by assumption) rfl)) | exact .inr (.inl (u8_eq (by first | assumption | simp_all) rfl))); rw [byte_dropk, List.drop_drop] at h9; exact h9
       refine x_region rfl <| mI rfl <| Wp rfl <| st_addn rfl rfl (by constructor <;> omega) <| aI rfl <| en <| x_region rfl <| mL rfl <| mS rfl <| mI rfl <| Wp rfl <| st_sidx T.u9 rfl rfl (by omega) (by omega) <| Wp rfl <| st_lit (ps := [(0, .tmp 48)]) (vs := [.int _ _]) T.lit63 (by decide) rfl (by simp only [List.forall_mem_cons, List.not_mem_nil, false_imp_iff, implies_true, and_true]; exact rfl) rfl ?_
       intro b29 w30 e31 c32 hb33
       have ge_b29 : w.heap.size ≤ b29 := by rw [e31]; exact HC.size
       have na_b29 : b29 ∉ ob A := ho.fresh (by rw [e31]; exact Nat.le_refl _)
       replace HC := HC.then c32
       replace ho := ho.tr0 c32
       clear e31
       have hszA := HC.size
       refine Wp rfl <| st_append2 (c := uE) (D2 := fun _ => False) (xs := out) (ys := [(byte s (i + 1))]) T.slice63 rfl rfl ho rfl rfl (one_elem rfl (hb33.cells (n := 1) rfl)) (fun _ _ h => h.elim) (fun k hk => by have := HC.size; omega) (by simp only [List.length_append, List.length_cons, List.length_nil]; omega) (by simp only [List.length_append, List.length_cons, List.length_nil]; omega) ?_
       intro A34 cap35 w36 ho37 c38 hg39
       replace HC := HC.trans c38 (fun k hk => .inr ((ho.inD k hk)))
       replace hb33 := hb33.tr c38 (fun hx => by first | (have h1 := ho.inD _ hx; omega) | exact na_b29 hx | exact hav _ hx (by simp))
       refine aL rfl <| wops_nil <| block_n <| then_n <| x_region rfl <| mI rfl <| Wp rfl <| st_addn rfl rfl (by constructor <;> omega) <| aI rfl <| en <| ⟨(i + 1 + 1, out ++ [(byte s (i + 1))], A34, cap35), ?_, ?_, rfl, ⟨rfl, rfl, trivial⟩, ?_⟩
       ·refine ⟨?_, HC, ho37⟩
        exact ⟨by omega, by simp only [List.length_append, List.length_cons, List.length_nil]; omega, by rw [htot, hun]; simp⟩
       ·show s.length - (i + 1 + 1) < s.length - i; omega
       repeat (first | exact agree_upds agree_over rfl | refine agree_upd ?_ rfl | refine agree_upds ?_ rfl | refine agree_over_sub ?_ rfl)
      ·try simp only [nm, ne_eq] at h1
       have hun : untick (s.drop i) = byte s i :: untick (s.drop (i + 1)) := by have h9 := untick_on hne (by rw [byte_dropk, byte_dropk, hdl]; rintro ⟨q0, q1, q2⟩; have q3 : ((byte s (i + 0)).toNat : Int) = 92 := (by rw [q1]; rfl); rw [Nat.add_zero] at q3; rcases q2 with q | q | q <;> (have q9 := congrArg (fun c : UInt8 => (c.toNat : Int)) q; simp only [show (36 : UInt8).toNat = 36 from rfl, show (92 : UInt8).toNat = 92 from rfl, show (96 : UInt8).toNat = 96 from rfl] at q9; first | omega | simp_all)); rw [byte_dropk, List.drop_drop] at h9; exact h9
       refine x_skip <| then_n <| x_region rfl <| mL rfl <| mS rfl <| mI rfl <| Wp rfl <| st_sidx T.u9 rfl rfl (by omega) (by omega) <| Wp rfl <| st_lit (ps := [(0, .tmp 48)]) (vs := [.int _ _]) T.lit63 (by decide) rfl (by simp only [List.forall_mem_cons, List.not_mem_nil, false_imp_iff, implies_true, and_true]; exact rfl) rfl ?_
       intro b40 w41 e42 c43 hb44
       have ge_b40 : w.heap.size ≤ b40 := by rw [e42]; exact HC.size
       have na_b40 : b40 ∉ ob A := ho.fresh (by rw [e42]; exact Nat.le_refl _)
       replace HC := HC.then c43
       replace ho := ho.tr0 c43
       clear e42
       have hszA := HC.size
       refine Wp rfl <| st_append2 (c := uE) (D2 := fun _ => False) (xs := out) (ys := [(byte s i)]) T.slice63 rfl rfl ho rfl rfl (one_elem rfl (hb44.cells (n := 1) rfl)) (fun _ _ h => h.elim) (fun k hk => by have := HC.size; omega) (by simp only [List.length_append, List.length_cons, List.length_nil]; omega) (by simp only [List.length_append, List.length_cons, List.length_nil]; omega) ?_
       intro A45 cap46 w47 ho48 c49 hg50
       replace HC := HC.trans c49 (fun k hk => .inr ((ho.inD k hk)))
       replace hb44 := hb44.tr c49 (fun hx => by first | (have h1 := ho.inD _ hx; omega) | exact na_b40 hx | exact hav _ hx (by simp))
       refine aL rfl <| wops_nil <| block_n <| then_n <| x_region rfl <| mI rfl <| Wp rfl <| st_addn rfl rfl (by constructor <;> omega) <| aI rfl <| en <| ⟨(i + 1, out ++ [(byte s i)], A45, cap46), ?_, ?_, rfl, ⟨rfl, rfl, trivial⟩, ?_⟩
       ·refine ⟨?_, HC, ho48⟩
        exact ⟨by omega, by simp only [List.length_append, List.length_cons, List.length_nil]; omega, by rw [htot, hun]; simp⟩
       ·show s.length - (i + 1) < s.length - i; omega
       repeat (first | exact agree_upds agree_over rfl | refine agree_upd ?_ rfl | refine agree_upds ?_ rfl | refine agree_over_sub ?_ rfl)
   ·try simp only [nm, ne_eq] at g4
    iterate 6 refine w_no 11 22 true ?_
    iterate 5 refine w_no 17 28 false ?_
    refine w_no 11 22 true <| w_no 11 22 true ?_
    iterate 5 refine w_no 24 35 false ?_
    refine w_no 11 22 true <| pF rfl rfl <| en <| x_cond (t := false) rfl (fun h1 => ?_) (fun h1 => ?_)
    · exact absurd h1 (by decide)
    have hun : untick (s.drop i) = byte s i :: untick (s.drop (i + 1)) := by have h9 := untick_on hne (by rw [byte_dropk, byte_dropk, hdl]; rintro ⟨q0, q1, q2⟩; have q3 : ((byte s (i + 0)).toNat : Int) = 92 := (by rw [q1]; rfl); rw [Nat.add_zero] at q3; rcases q2 with q | q | q <;> (have q9 := congrArg (fun c : UInt8 => (c.toNat : Int)) q; simp only [show (36 : UInt8).toNat = 36 from rfl, show (92 : UInt8).toNat = 92 from rfl, show (96 : UInt8).toNat = 96 from rfl] at q9; first | omega | simp_all)); rw [byte_dropk, List.drop_drop] at h9; exact h9
    refine x_skip <| then_n <| x_region rfl <| mL rfl <| mS rfl <| mI rfl <| Wp rfl <| st_sidx T.u9 rfl rfl (by omega) (by omega) <| Wp rfl <| st_lit (ps := [(0, .tmp 48)]) (vs := [.int _ _]) T.lit63 (by decide) rfl (by simp only [List.forall_mem_cons, List.not_mem_nil, false_imp_iff, implies_true, and_true]; exact rfl) rfl ?_
    intro b51 w52 e53 c54 hb55
    have ge_b51 : w.heap.size ≤ b51 := by rw [e53]; exact HC.size
    have na_b51 : b51 ∉ ob A := ho.fresh (by rw [e53]; exact Nat.le_refl _)
    replace HC := HC.then c54
    replace ho := ho.tr0 c54
    clear e53
    have hszA := HC.size
    refine Wp rfl <| st_append2 (c := uE) (D2 := fun _ => False) (xs := out) (ys := [(byte s i)]) T.slice63 rfl rfl ho rfl rfl (one_elem rfl (hb55.cells (n := 1) rfl)) (fun _ _ h => h.elim) (fun k hk => by have := HC.size; omega) (by simp only [List.length_append, List.length_cons, List.length_nil]; omega) (by simp only [List.length_append, List.length_cons, List.length_nil]; omega) ?_
    intro A56 cap57 w58 ho59 c60 hg61
    replace HC := HC.trans c60 (fun k hk => .inr ((ho.inD k hk)))
    replace hb55 := hb55.tr c60 (fun hx => by first | (have h1 := ho.inD _ hx; omega) | exact na_b51 hx | exact hav _ hx (by simp))
    refine aL rfl <| wops_nil <| block_n <| then_n <| x_region rfl <| mI rfl <| Wp rfl <| st_addn rfl rfl (by constructor <;> omega) <| aI rfl <| en <| ⟨(i + 1, out ++ [(byte s i)], A56, cap57), ?_, ?_, rfl, ⟨rfl, rfl, trivial⟩, ?_⟩
    ·refine ⟨?_, HC, ho59⟩
     exact ⟨by omega, by simp only [List.length_append, List.length_cons, List.length_nil]; omega, by rw [htot, hun]; simp⟩
    ·show s.length - (i + 1) < s.length - i; omega
    repeat (first | exact agree_upds agree_over rfl | refine agree_upd ?_ rfl | refine agree_upds ?_ rfl | refine agree_over_sub ?_ rfl)
  ·try simp only [nm, ne_eq] at g3
   iterate 5 refine w_no 4 15 true ?_
   refine pF rfl rfl <| mB rfl ?_
   iterate 6 refine w_no 11 22 true ?_
   iterate 5 refine w_no 17 28 false ?_
   refine w_no 11 22 true <| w_no 11 22 true ?_
   iterate 5 refine w_no 24 35 false ?_
   refine w_no 11 22 true <| pF rfl rfl <| en <| x_cond (t := false) rfl (fun h1 => ?_) (fun h1 => ?_)
   · exact absurd h1 (by decide)
   have hun : untick (s.drop i) = byte s i :: untick (s.drop (i + 1)) := by have h9 := untick_on hne (by rw [byte_dropk, byte_dropk, hdl]; rintro ⟨q0, q1, q2⟩; have q3 : ((byte s (i + 0)).toNat : Int) = 92 := (by rw [q1]; rfl); rw [Nat.add_zero] at q3; rcases q2 with q | q | q <;> (have q9 := congrArg (fun c : UInt8 => (c.toNat : Int)) q; simp only [show (36 : UInt8).toNat = 36 from rfl, show (92 : UInt8).toNat = 92 from rfl, show (96 : UInt8).toNat = 96 from rfl] at q9; first | omega | simp_all)); rw [byte_dropk, List.drop_drop] at h9; exact h9
   refine x_skip <| then_n <| x_region rfl <| mL rfl <| mS rfl <| mI rfl <| Wp rfl <| st_sidx T.u9 rfl rfl (by omega) (by omega) <| Wp rfl <| st_lit (ps := [(0, .tmp 48)]) (vs := [.int _ _]) T.lit63 (by decide) rfl (by simp only [List.forall_mem_cons, List.not_mem_nil, false_imp_iff, implies_true, and_true]; exact rfl) rfl ?_
   intro b62 w63 e64 c65 hb66
   have ge_b62 : w.heap.size ≤ b62 := by rw [e64]; exact HC.size
   have na_b62 : b62 ∉ ob A := ho.fresh (by rw [e64]; exact Nat.le_refl _)
   replace HC := HC.then c65
   replace ho := ho.tr0 c65
   clear e64
   have hszA := HC.size
   refine Wp rfl <| st_append2 (c := uE) (D2 := fun _ => False) (xs := out) (ys := [(byte s i)]) T.slice63 rfl rfl ho rfl rfl (one_elem rfl (hb66.cells (n := 1) rfl)) (fun _ _ h => h.elim) (fun k hk => by have := HC.size; omega) (by simp only [List.length_append, List.length_cons, List.length_nil]; omega) (by simp only [List.length_append, List.length_cons, List.length_nil]; omega) ?_
   intro A67 cap68 w69 ho70 c71 hg72
   replace HC := HC.trans c71 (fun k hk => .inr ((ho.inD k hk)))
   replace hb66 := hb66.tr c71 (fun hx => by first | (have h1 := ho.inD _ hx; omega) | exact na_b62 hx | exact hav _ hx (by simp))
   refine aL rfl <| wops_nil <| block_n <| then_n <| x_region rfl <| mI rfl <| Wp rfl <| st_addn rfl rfl (by constructor <;> omega) <| aI rfl <| en <| ⟨(i + 1, out ++ [(byte s i)], A67, cap68), ?_, ?_, rfl, ⟨rfl, rfl, trivial⟩, ?_⟩
   ·refine ⟨?_, HC, ho70⟩
    exact ⟨by omega, by simp only [List.length_append, List.length_cons, List.length_nil]; omega, by rw [htot, hun]; simp⟩
   ·show s.length - (i + 1) < s.length - i; omega
   repeat (first | exact agree_upds agree_over rfl | refine agree_upd ?_ rfl | refine agree_upds ?_ rfl | refine agree_over_sub ?_ rfl)
 ·try simp only [nm, ne_eq] at h0
  have hev : untick s = out := by rw [htot, List.drop_eq_nil_of_le (by omega)]; simp [untick]
  refine x_exit <| then_x <| then_x <| block_x <| then_n <| sr rfl <| mL rfl <| Wp rfl <| st_bytesStr T.u63 T.u5 T.u9 rfl (ho.sl) <| aS rfl <| en <| x_ret <| ret_tmp (v := S _) rfl rfl ?_
  rw [hev]
  exact ⟨rfl, HC⟩

end Go.Proofs.YtiiahnpgomdfmaaDoor.K
