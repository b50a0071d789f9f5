import Derived.Test.YtghjmiggobpmoaaGreatDoorTok
import Derived.Test.YtghjmiggobpmoaaGreatDoorTokV
set_option linter.unusedVariables false
set_option linter.unusedSimpArgs false
set_option autoImplicit false
set_option maxRecDepth 20000
namespace Go.Proofs.YtghjmiggobpmoaaGreatDoor.K
open Go Go.Proofs Go.RowKit

theorem inner_nl {r : Bytes} (h : 1 < r.length) (h0 : byte r 0 = 92) (h1 : byte r 1 = 10) : innerV r = innerV (r.drop 2) := by
  match r, h with
  | c :: d :: t, _ =>
    have e0 : c = 92 := h0
    have e1 : d = 10 := h1
    show innerV (c :: d :: t) = innerV t
    rw [innerV, if_pos e0, if_pos e1]
theorem inner_sp {r : Bytes} (h : 1 < r.length) (h0 : byte r 0 = 92) (h1 : byte r 1 ≠ 10) (h2 : byte r 1 = 36 ∨ byte r 1 = 96 ∨ byte r 1 = 34 ∨ byte r 1 = 92) : innerV r = (r.drop 1).take 1 ++ innerV ((r.drop 1).drop 1) := by
  match r, h with
  | c :: d :: t, _ =>
    have e0 : c = 92 := h0
    have e1 : ¬ d = 10 := h1
    have e2 : d = 36 ∨ d = 96 ∨ d = 34 ∨ d = 92 := h2
    show innerV (c :: d :: t) = [d] ++ innerV t
    rw [innerV, if_pos e0, if_neg e1, if_pos e2]; rfl
theorem inner_on {r : Bytes} (hr : r ≠ []) (h : ¬ (1 < r.length ∧ byte r 0 = 92 ∧ (byte r 1 = 10 ∨ byte r 1 = 36 ∨ byte r 1 = 96 ∨ byte r 1 = 34 ∨ byte r 1 = 92))) : innerV r = r.take 1 ++ innerV (r.drop 1) := by
  match r, hr with
  | [c], _ => rfl
  | c :: d :: t, _ =>
    show innerV (c :: d :: t) = [c] ++ innerV (d :: t)
    have h' : ¬ (1 < (c :: d :: t).length ∧ c = 92 ∧ (d = 10 ∨ d = 36 ∨ d = 96 ∨ d = 34 ∨ d = 92)) := h
    rw [innerV]
    by_cases hc : c = 92
    · rw [if_pos hc, if_neg (fun e => h' ⟨by simp, hc, .inl e⟩), if_neg (fun e => h' ⟨by simp, hc, .inr e⟩)]; rfl
    · rw [if_neg hc]; rfl
theorem fields_opsT : Lib.fields [60, 60, 45, 32, 38, 38, 32, 124, 124, 32, 59, 59, 32, 60, 60, 32, 62, 62, 32, 60, 38, 32, 62, 38, 32, 60, 62, 32, 62, 124, 32, 59, 32, 38, 32, 124, 32, 60, 32, 62, 32, 40, 32, 41] = opsT := by kernel_rfl
theorem trimT_cons {r : Bytes} (hr : 0 < r.length) (h : byte r 0 = 9) : trimT r = trimT (r.drop 1) := by
  match r, hr with
  | c :: t, _ => have e : c = 9 := h; show trimT (c :: t) = trimT t; rw [trimT, if_pos e]
theorem trimT_stop {r : Bytes} (h : r = [] ∨ byte r 0 ≠ 9) : trimT r = r := by
  match r with
  | [] => rfl
  | c :: t =>
    have h' : c :: t = [] ∨ c ≠ 9 := h
    rw [trimT, if_neg (fun e => h'.elim (fun h => by cases h) (fun h => h e))]

theorem inner_spec (s : Bytes) (w : World) (hs : s.length < 4294967281) : CallR Tryz.prog 54 #[S s] w fun v w' => v = S (innerV s) ∧ Chg [] w w' := by
 refine callR_of_wp (args := [_]) Tryz.func54 rfl (Nat.le_of_ble_eq_true rfl) ?_
 have HC : Chg [] w w := .refl _
 refine sr rfl <| aS rfl <| en <| sr rfl <| Wp rfl <| st_alloc T.zero98 ?_
 intro b3 w1 e2 c3 hb4
 have ge_b3 := gB e2 HC.size
 replace HC := HC.then c3
 clear e2
 refine en <| x_seq <| x_block ?_
 have hbd := BldP.new hb4
 refine x_loop (ι := Bytes × Bytes × Option Addr × Nat) [0, 4, 5, 6, 7, 8, 9, 10, 11, 12, 13, 14, 15, 16, 17, 18, 19, 20, 21, 22, 23, 24, 25, 26, 27, 28, 29, 30, 31, 32, 33, 34] (fun ⟨r, out, A, cap⟩ => [(0, S r)]) (fun ⟨r, out, A, cap⟩ W => (out.length + r.length ≤ s.length ∧ innerV s = out ++ innerV r ∧ (∀ k, k ∈ ob A → w.heap.size ≤ k)) ∧ (Chg [] w W) ∧ (BldP W b3 A cap out [])) (fun ⟨r, out, A, cap⟩ => r.length) (s, [], none, 0) ?_ ?_ ?_
 · exact ⟨rfl, trivial⟩
 ·refine ⟨?_, HC, hbd⟩
  exact ⟨by simp, by simp, (fun k hk => by cases hk)⟩
 intro ⟨r, out, A, cap⟩ G6 w5 ⟨⟨hol, htot, hob⟩, HC, hbd⟩
 change wp _ _ _ _ _ (upds (over _ _ G6) [(0, S r)]) _ _
 refine x_seq <| sr rfl <| mS rfl <| Wp rfl <| st_sneq rfl rfl <| en <| x_cond rfl (fun h0 => ?_) (fun h0 => ?_)
 ·try simp only [nm, ne_eq] at h0
  have hr1 := List.length_pos_iff.2 h0
  refine x_skip <| then_n <| x_block <| sr rfl <| aI rfl <| en <| x_seq <| sr rfl <| mS rfl <| Wp rfl <| st_slen (ct := #[9]) T.u9 rfl <| Wp rfl <| st_gtr rfl rfl <| mB rfl <| w_split (d := 10) rfl (fun g7 => ?_) (fun g7 => ?_)
  ·try simp only [nm, ne_eq] at g7
   refine w_yes 3 10 true <| st_move (v := S _) rfl <| w_yes 3 10 true <| st_sidx T.u9 rfl rfl (by decide) (by omega) <| w_yes 3 10 true <| st_eql rfl rfl <| pT rfl rfl <| en <| x_cond rfl (fun h1 => ?_) (fun h1 => ?_)
   ·try simp only [nm, ne_eq] at h1
    have hc0 : byte r 0 = 92 := u8_eq (by assumption) rfl
    have hl1 : 1 < r.length := by omega
    refine sr rfl <| mS rfl <| Wp rfl <| st_sidx T.u9 rfl rfl (by decide) (by omega) <| en <| x_block <| sr rfl <| Wp rfl <| st_eql rfl rfl <| aB rfl <| en <| x_cond rfl (fun h2 => ?_) (fun h2 => ?_)
    ·try simp only [nm, ne_eq] at h2
     have hun := inner_nl hl1 hc0 (u8_eq h2 rfl)
     refine sr rfl <| mS rfl <| Wp rfl <| st_sslo (i := 2) T.u9 rfl ⟨_, rfl⟩ (by omega) <| aS rfl <| en <| x_exit <| block_o rfl <| then_x <| block_x <| then_n <| ⟨((r.drop 2), out, A, cap), ?_, ?_, rfl, ⟨rfl, trivial⟩, ?_⟩
     ·refine ⟨?_, HC, hbd⟩
      exact ⟨by simp only [List.length_append, List.length_take, List.length_drop]; omega, by rw [htot, hun]; all_goals simp, hob⟩
     ·show ((r.drop 2)).length < r.length; simp only [List.length_drop]; omega
     exact q9
    ·try simp only [nm, ne_eq] at h2
     have hn10 : byte r 1 ≠ 10 := fun e => h2 (by rw [e]; rfl)
     refine x_seq <| sr rfl <| Wp rfl <| st_eql rfl rfl <| aB rfl <| en <| x_cond rfl (fun h3 => ?_) (fun h3 => ?_)
     ·try simp only [nm, ne_eq] at h3
      have hsp : byte r 1 = 36 ∨ byte r 1 = 96 ∨ byte r 1 = 34 ∨ byte r 1 = 92 := .inl (u8_eq h3 rfl)
      refine x_skip <| then_n <| x_cond rfl (fun h6 => ?_) (fun h6 => ?_)
      rotate_left
      · first | (simp only [nm, ne_eq] at h6; exact absurd (by assumption) h6) | (exfalso; simp_all)
      have hsp2 : byte r 1 = 36 ∨ byte r 1 = 96 ∨ byte r 1 = 34 ∨ byte r 1 = 92 := by first | assumption | exact .inr (.inr (.inr (u8_eq h6 rfl)))
      have hun := inner_sp hl1 hc0 hn10 hsp2
      refine x_region rfl <| mS rfl <| Wp rfl <| st_sslo (i := 1) T.u9 rfl ⟨_, rfl⟩ (by omega) <| aS rfl <| wops_nil <| block_n <| then_n <| sr rfl <| mS rfl <| mI rfl <| Wp rfl <| st_sshi (j := 1) T.u9 rfl ⟨_, rfl⟩ (by (first | omega | (simp only [List.length_drop]; omega))) <| Wp rfl <| st_call (ags := [_, _]) rfl rfl T.ent53 rfl (WriteStringP_spec ((r.drop 1).take 1) hbd (by simp only [List.length_take, List.length_drop]; omega)) ?_
      rintro _ w8 ⟨rfl, A10, cap11, hbd12, c9, hgr13⟩
      have hszW := HC.size
      replace HC := HC.trans c9 (fun k hk => (List.mem_cons.1 hk).elim (fun h => .inr (by rw [h]; exact ge_b3)) (fun h => .inr (hob k h)))
      replace hob : ∀ k, k ∈ ob A10 → w.heap.size ≤ k := fun k hk => (hgr13 k hk).elim (fun h => hob k h) (fun h => by omega)
      refine en <| x_region rfl <| mS rfl <| mI rfl <| Wp rfl <| st_sslo (i := 1) T.u9 rfl ⟨_, rfl⟩ (by (first | omega | (simp only [List.length_drop]; omega))) <| aS rfl <| wops_nil <| block_n <| then_n <| ⟨(((r.drop 1).drop 1), out ++ (r.drop 1).take 1, A10, cap11), ?_, ?_, rfl, ⟨rfl, trivial⟩, ?_⟩
      ·refine ⟨?_, HC, hbd12⟩
       exact ⟨by simp only [List.length_append, List.length_take, List.length_drop]; omega, by rw [htot, hun]; all_goals simp, hob⟩
      ·show (((r.drop 1).drop 1)).length < r.length; simp only [List.length_drop]; omega
      exact q9
     ·try simp only [nm, ne_eq] at h3
      have hn3 : byte r 1 ≠ 36 := fun e => h3 (by rw [e]; rfl)
      refine sr rfl <| Wp rfl <| st_eql rfl rfl <| aB rfl <| en <| x_cond rfl (fun h4 => ?_) (fun h4 => ?_)
      ·try simp only [nm, ne_eq] at h4
       have hsp : byte r 1 = 36 ∨ byte r 1 = 96 ∨ byte r 1 = 34 ∨ byte r 1 = 92 := .inr (.inl (u8_eq h4 rfl))
       refine x_skip <| then_n <| x_cond rfl (fun h6 => ?_) (fun h6 => ?_)
       rotate_left
       · first | (simp only [nm, ne_eq] at h6; exact absurd (by assumption) h6) | (exfalso; simp_all)
       have hsp2 : byte r 1 = 36 ∨ byte r 1 = 96 ∨ byte r 1 = 34 ∨ byte r 1 = 92 := by first | assumption | exact .inr (.inr (.inr (u8_eq h6 rfl)))
       have hun := inner_sp hl1 hc0 hn10 hsp2
       refine x_region rfl <| mS rfl <| Wp rfl <| st_sslo (i := 1) T.u9 rfl ⟨_, rfl⟩ (by omega) <| aS rfl <| wops_nil <| block_n <| then_n <| sr rfl <| mS rfl <| mI rfl <| Wp rfl <| st_sshi (j := 1) T.u9 rfl ⟨_, rfl⟩ (by (first | omega | (simp only [List.length_drop]; omega))) <| Wp rfl <| st_call (ags := [_, _]) rfl rfl T.ent53 rfl (WriteStringP_spec ((r.drop 1).take 1) hbd (by simp only [List.length_take, List.length_drop]; omega)) ?_
       rintro _ w14 ⟨rfl, A16, cap17, hbd18, c15, hgr19⟩
       have hszW := HC.size
       replace HC := HC.trans c15 (fun k hk => (List.mem_cons.1 hk).elim (fun h => .inr (by rw [h]; exact ge_b3)) (fun h => .inr (hob k h)))
       replace hob : ∀ k, k ∈ ob A16 → w.heap.size ≤ k := fun k hk => (hgr19 k hk).elim (fun h => hob k h) (fun h => by omega)
       refine en <| x_region rfl <| mS rfl <| mI rfl <| Wp rfl <| st_sslo (i := 1) T.u9 rfl ⟨_, rfl⟩ (by (first | omega | (simp only [List.length_drop]; omega))) <| aS rfl <| wops_nil <| block_n <| then_n <| ⟨(((r.drop 1).drop 1), out ++ (r.drop 1).take 1, A16, cap17), ?_, ?_, rfl, ⟨rfl, trivial⟩, ?_⟩
       ·refine ⟨?_, HC, hbd18⟩
        exact ⟨by simp only [List.length_append, List.length_take, List.length_drop]; omega, by rw [htot, hun]; all_goals simp, hob⟩
       ·show (((r.drop 1).drop 1)).length < r.length; simp only [List.length_drop]; omega
       exact q9
      ·try simp only [nm, ne_eq] at h4
       have hn4 : byte r 1 ≠ 96 := fun e => h4 (by rw [e]; rfl)
       refine sr rfl <| Wp rfl <| st_eql rfl rfl <| aB rfl <| en <| x_cond rfl (fun h5 => ?_) (fun h5 => ?_)
       ·try simp only [nm, ne_eq] at h5
        have hsp : byte r 1 = 36 ∨ byte r 1 = 96 ∨ byte r 1 = 34 ∨ byte r 1 = 92 := .inr (.inr (.inl (u8_eq h5 rfl)))
        refine x_skip <| then_n <| x_cond rfl (fun h6 => ?_) (fun h6 => ?_)
        rotate_left
        · first | (simp only [nm, ne_eq] at h6; exact absurd (by assumption) h6) | (exfalso; simp_all)
        have hsp2 : byte r 1 = 36 ∨ byte r 1 = 96 ∨ byte r 1 = 34 ∨ byte r 1 = 92 := by first | assumption | exact .inr (.inr (.inr (u8_eq h6 rfl)))
        have hun := inner_sp hl1 hc0 hn10 hsp2
        refine x_region rfl <| mS rfl <| Wp rfl <| st_sslo (i := 1) T.u9 rfl ⟨_, rfl⟩ (by omega) <| aS rfl <| wops_nil <| block_n <| then_n <| sr rfl <| mS rfl <| mI rfl <| Wp rfl <| st_sshi (j := 1) T.u9 rfl ⟨_, rfl⟩ (by (first | omega | (simp only [List.length_drop]; omega))) <| Wp rfl <| st_call (ags := [_, _]) rfl rfl T.ent53 rfl (WriteStringP_spec ((r.drop 1).take 1) hbd (by simp only [List.length_take, List.length_drop]; omega)) ?_
        rintro _ w20 ⟨rfl, A22, cap23, hbd24, c21, hgr25⟩
        have hszW := HC.size
        replace HC := HC.trans c21 (fun k hk => (List.mem_cons.1 hk).elim (fun h => .inr (by rw [h]; exact ge_b3)) (fun h => .inr (hob k h)))
        replace hob : ∀ k, k ∈ ob A22 → w.heap.size ≤ k := fun k hk => (hgr25 k hk).elim (fun h => hob k h) (fun h => by omega)
        refine en <| x_region rfl <| mS rfl <| mI rfl <| Wp rfl <| st_sslo (i := 1) T.u9 rfl ⟨_, rfl⟩ (by (first | omega | (simp only [List.length_drop]; omega))) <| aS rfl <| wops_nil <| block_n <| then_n <| ⟨(((r.drop 1).drop 1), out ++ (r.drop 1).take 1, A22, cap23), ?_, ?_, rfl, ⟨rfl, trivial⟩, ?_⟩
        ·refine ⟨?_, HC, hbd24⟩
         exact ⟨by simp only [List.length_append, List.length_take, List.length_drop]; omega, by rw [htot, hun]; all_goals simp, hob⟩
        ·show (((r.drop 1).drop 1)).length < r.length; simp only [List.length_drop]; omega
        exact q9
       ·try simp only [nm, ne_eq] at h5
        have hn5 : byte r 1 ≠ 34 := fun e => h5 (by rw [e]; rfl)
        refine x_region rfl <| Wp rfl <| st_eql rfl rfl <| aB rfl <| en <| x_cond rfl (fun h6 => ?_) (fun h6 => ?_)
        ·try simp only [nm, ne_eq] at h6
         have hsp2 : byte r 1 = 36 ∨ byte r 1 = 96 ∨ byte r 1 = 34 ∨ byte r 1 = 92 := by first | assumption | exact .inr (.inr (.inr (u8_eq h6 rfl)))
         have hun := inner_sp hl1 hc0 hn10 hsp2
         refine x_region rfl <| mS rfl <| Wp rfl <| st_sslo (i := 1) T.u9 rfl ⟨_, rfl⟩ (by omega) <| aS rfl <| wops_nil <| block_n <| then_n <| sr rfl <| mS rfl <| mI rfl <| Wp rfl <| st_sshi (j := 1) T.u9 rfl ⟨_, rfl⟩ (by (first | omega | (simp only [List.length_drop]; omega))) <| Wp rfl <| st_call (ags := [_, _]) rfl rfl T.ent53 rfl (WriteStringP_spec ((r.drop 1).take 1) hbd (by simp only [List.length_take, List.length_drop]; omega)) ?_
         rintro _ w26 ⟨rfl, A28, cap29, hbd30, c27, hgr31⟩
         have hszW := HC.size
         replace HC := HC.trans c27 (fun k hk => (List.mem_cons.1 hk).elim (fun h => .inr (by rw [h]; exact ge_b3)) (fun h => .inr (hob k h)))
         replace hob : ∀ k, k ∈ ob A28 → w.heap.size ≤ k := fun k hk => (hgr31 k hk).elim (fun h => hob k h) (fun h => by omega)
         refine en <| x_region rfl <| mS rfl <| mI rfl <| Wp rfl <| st_sslo (i := 1) T.u9 rfl ⟨_, rfl⟩ (by (first | omega | (simp only [List.length_drop]; omega))) <| aS rfl <| wops_nil <| block_n <| then_n <| ⟨(((r.drop 1).drop 1), out ++ (r.drop 1).take 1, A28, cap29), ?_, ?_, rfl, ⟨rfl, trivial⟩, ?_⟩
         ·refine ⟨?_, HC, hbd30⟩
          exact ⟨by simp only [List.length_append, List.length_take, List.length_drop]; omega, by rw [htot, hun]; all_goals simp, hob⟩
         ·show (((r.drop 1).drop 1)).length < r.length; simp only [List.length_drop]; omega
         exact q9
        ·try simp only [nm, ne_eq] at h6
         have hn6 : byte r 1 ≠ 92 := fun e => h6 (by rw [e]; rfl)
         have hun := inner_on h0 (by rintro ⟨h7, h8, h9⟩; rcases h9 with h9 | h9 | h9 | h9 | h9; exact hn10 h9; exact hn3 h9; exact hn4 h9; exact hn5 h9; exact hn6 h9)
         refine x_skip <| block_n <| then_n <| sr rfl <| mS rfl <| mI rfl <| Wp rfl <| st_sshi (j := 1) T.u9 rfl ⟨_, rfl⟩ (by (first | omega | (simp only [List.length_drop]; omega))) <| Wp rfl <| st_call (ags := [_, _]) rfl rfl T.ent53 rfl (WriteStringP_spec (r.take 1) hbd (by simp only [List.length_take, List.length_drop]; omega)) ?_
         rintro _ w32 ⟨rfl, A34, cap35, hbd36, c33, hgr37⟩
         have hszW := HC.size
         replace HC := HC.trans c33 (fun k hk => (List.mem_cons.1 hk).elim (fun h => .inr (by rw [h]; exact ge_b3)) (fun h => .inr (hob k h)))
         replace hob : ∀ k, k ∈ ob A34 → w.heap.size ≤ k := fun k hk => (hgr37 k hk).elim (fun h => hob k h) (fun h => by omega)
         refine en <| x_region rfl <| mS rfl <| mI rfl <| Wp rfl <| st_sslo (i := 1) T.u9 rfl ⟨_, rfl⟩ (by (first | omega | (simp only [List.length_drop]; omega))) <| aS rfl <| wops_nil <| block_n <| then_n <| ⟨((r.drop 1), out ++ r.take 1, A34, cap35), ?_, ?_, rfl, ⟨rfl, trivial⟩, ?_⟩
         ·refine ⟨?_, HC, hbd36⟩
          exact ⟨by simp only [List.length_append, List.length_take, List.length_drop]; omega, by rw [htot, hun]; all_goals simp, hob⟩
         ·show ((r.drop 1)).length < r.length; simp only [List.length_drop]; omega
         exact q9
   ·try simp only [nm, ne_eq] at h1
    have hun := inner_on h0 (by rintro ⟨h7, h8, _⟩; have h10 : ((byte r 0).toNat : Int) = 92 := (by rw [h8]; rfl); omega)
    refine x_skip <| then_n <| sr rfl <| mS rfl <| mI rfl <| Wp rfl <| st_sshi (j := 1) T.u9 rfl ⟨_, rfl⟩ (by (first | omega | (simp only [List.length_drop]; omega))) <| Wp rfl <| st_call (ags := [_, _]) rfl rfl T.ent53 rfl (WriteStringP_spec (r.take 1) hbd (by simp only [List.length_take, List.length_drop]; omega)) ?_
    rintro _ w38 ⟨rfl, A40, cap41, hbd42, c39, hgr43⟩
    have hszW := HC.size
    replace HC := HC.trans c39 (fun k hk => (List.mem_cons.1 hk).elim (fun h => .inr (by rw [h]; exact ge_b3)) (fun h => .inr (hob k h)))
    replace hob : ∀ k, k ∈ ob A40 → w.heap.size ≤ k := fun k hk => (hgr43 k hk).elim (fun h => hob k h) (fun h => by omega)
    refine en <| x_region rfl <| mS rfl <| mI rfl <| Wp rfl <| st_sslo (i := 1) T.u9 rfl ⟨_, rfl⟩ (by (first | omega | (simp only [List.length_drop]; omega))) <| aS rfl <| wops_nil <| block_n <| then_n <| ⟨((r.drop 1), out ++ r.take 1, A40, cap41), ?_, ?_, rfl, ⟨rfl, trivial⟩, ?_⟩
    ·refine ⟨?_, HC, hbd42⟩
     exact ⟨by simp only [List.length_append, List.length_take, List.length_drop]; omega, by rw [htot, hun]; all_goals simp, hob⟩
    ·show ((r.drop 1)).length < r.length; simp only [List.length_drop]; omega
    exact q9
  ·try simp only [nm, ne_eq] at g7
   iterate 3 refine w_no 3 10 true ?_
   refine pF rfl rfl <| en <| x_cond (t := false) rfl (fun h1 => ?_) (fun h1 => ?_)
   · exact absurd h1 (by decide)
   have hun := inner_on h0 (by rintro ⟨h7, h8, _⟩; have h10 : ((byte r 0).toNat : Int) = 92 := (by rw [h8]; rfl); omega)
   refine x_skip <| then_n <| sr rfl <| mS rfl <| mI rfl <| Wp rfl <| st_sshi (j := 1) T.u9 rfl ⟨_, rfl⟩ (by (first | omega | (simp only [List.length_drop]; omega))) <| Wp rfl <| st_call (ags := [_, _]) rfl rfl T.ent53 rfl (WriteStringP_spec (r.take 1) hbd (by simp only [List.length_take, List.length_drop]; omega)) ?_
   rintro _ w44 ⟨rfl, A46, cap47, hbd48, c45, hgr49⟩
   have hszW := HC.size
   replace HC := HC.trans c45 (fun k hk => (List.mem_cons.1 hk).elim (fun h => .inr (by rw [h]; exact ge_b3)) (fun h => .inr (hob k h)))
   replace hob : ∀ k, k ∈ ob A46 → w.heap.size ≤ k := fun k hk => (hgr49 k hk).elim (fun h => hob k h) (fun h => by omega)
   refine en <| x_region rfl <| mS rfl <| mI rfl <| Wp rfl <| st_sslo (i := 1) T.u9 rfl ⟨_, rfl⟩ (by (first | omega | (simp only [List.length_drop]; omega))) <| aS rfl <| wops_nil <| block_n <| then_n <| ⟨((r.drop 1), out ++ r.take 1, A46, cap47), ?_, ?_, rfl, ⟨rfl, trivial⟩, ?_⟩
   ·refine ⟨?_, HC, hbd48⟩
    exact ⟨by simp only [List.length_append, List.length_take, List.length_drop]; omega, by rw [htot, hun]; all_goals simp, hob⟩
   ·show ((r.drop 1)).length < r.length; simp only [List.length_drop]; omega
   exact q9
 ·try simp only [nm, ne_eq] at h0
  have hr0 : r = [] := by first | assumption | simpa using h0
  have hut : innerV s = out := by rw [htot, hr0]; simp [innerV]
  refine x_exit <| then_x <| then_x <| block_x <| then_n <| sr rfl <| Wp rfl <| st_call (ags := [_]) rfl rfl T.ent56 rfl (StringP_spec hbd) ?_
  rintro _ w50 ⟨rfl, hbz, c51⟩
  replace HC := HC.trans c51 (fun k hk => .inr (hob k hk))
  refine aS rfl <| en <| x_ret <| ret_tmp (v := S _) rfl rfl ?_
  rw [hut]
  exact ⟨rfl, HC⟩

theorem trimLB_spec (s : Bytes) (w : World) : CallR Tryz.prog 58 #[S s, .int .u8 9] w fun v w' => v = S (trimT s) ∧ Chg [] w w' := by
 refine callR_of_wp (args := [_, _]) Tryz.func58 rfl (Nat.le_of_ble_eq_true rfl) ?_
 have HC : Chg [] w w := .refl _
 refine sr rfl <| aS rfl <| en <| x_seq <| x_block <| x_loop (ι := Bytes) [0, 5, 6, 7, 8, 9, 10, 11, 12, 13, 14, 15] (fun r => [(0, S r)]) (fun r W => (trimT s = trimT r) ∧ (Chg [] w W)) (fun r => r.length) s ?_ ?_ ?_
 · exact ⟨rfl, trivial⟩
 ·refine ⟨?_, HC⟩
  exact rfl
 intro r G2 w1 ⟨htr, HC⟩
 change wp _ _ _ _ _ (upds (over _ _ G2) [(0, S r)]) _ _
 refine x_seq <| sr rfl <| mS rfl <| Wp rfl <| st_slen (ct := #[9]) T.u9 rfl <| Wp rfl <| st_gtr rfl rfl <| mB rfl <| w_split (d := 8) rfl (fun g3 => ?_) (fun g3 => ?_)
 ·try simp only [nm, ne_eq] at g3
  refine w_yes 3 8 true <| st_move (v := S _) rfl <| w_yes 3 8 true <| st_sidx T.u9 rfl rfl (by decide) (by omega) <| w_yes 3 8 true <| st_move (v := .int _ _) rfl <| w_yes 3 8 true <| st_eql rfl rfl <| pT rfl rfl <| en <| x_cond rfl (fun h0 => ?_) (fun h0 => ?_)
  ·try simp only [nm, ne_eq] at h0
   refine x_skip <| then_n <| x_block <| x_region rfl <| mS rfl <| Wp rfl <| st_sslo (i := 1) T.u9 rfl ⟨_, rfl⟩ (by omega) <| aS rfl <| wops_nil <| block_n <| then_n <| ⟨(r.drop 1), ?_, ?_, rfl, ⟨rfl, trivial⟩, ?_⟩
   ·refine ⟨?_, HC⟩
    exact (htr.trans (trimT_cons (by omega) (u8_eq (by assumption) rfl)))
   ·show (r.drop 1).length < r.length; rw [List.length_drop]; omega
   exact q9
  ·try simp only [nm, ne_eq] at h0
   have hst : trimT s = r := by rw [htr]; refine trimT_stop ?_; first | (left; exact List.length_eq_zero_iff.1 (by omega)) | (right; intro e; first | (have h10 : ((byte r 0).toNat : Int) = 9 := (by rw [e]; rfl); omega) | simp_all)
   refine x_exit <| then_x <| then_x <| block_x <| then_n <| sr rfl <| mS rfl <| aS rfl <| en <| x_ret <| ret_tmp (v := S _) rfl rfl ?_
   exact ⟨by rw [hst], HC⟩
 ·try simp only [nm, ne_eq] at g3
  iterate 4 refine w_no 3 8 true ?_
  refine pF rfl rfl <| en <| x_cond (t := false) rfl (fun h0 => ?_) (fun h0 => ?_)
  · exact absurd h0 (by decide)
  have hst : trimT s = r := by rw [htr]; refine trimT_stop ?_; first | (left; exact List.length_eq_zero_iff.1 (by omega)) | (right; intro e; first | (have h10 : ((byte r 0).toNat : Int) = 9 := (by rw [e]; rfl); omega) | simp_all)
  refine x_exit <| then_x <| then_x <| block_x <| then_n <| sr rfl <| mS rfl <| aS rfl <| en <| x_ret <| ret_tmp (v := S _) rfl rfl ?_
  exact ⟨by rw [hst], HC⟩

theorem TrimLeft_spec (s : Bytes) (w : World) : CallR Tryz.prog 39 #[S s, S [9]] w fun v w' => v = S (trimT s) ∧ Chg [] w w' := by
 refine callR_of_wp (args := [_, _]) Tryz.func39 rfl (Nat.le_of_ble_eq_true rfl) ?_
 have HC : Chg [] w w := .refl _
 refine sr rfl <| aS rfl <| en <| x_seq <| sr rfl <| mS rfl <| Wp rfl <| st_seql rfl rfl <| mB rfl <| w_split (d := 9) rfl (fun g1 => ?_) (fun g1 => ?_)
 ·try simp only [nm, ne_eq] at g1
  refine w_no 2 9 false <| w_no 2 9 false <| pT rfl rfl <| en <| x_cond (t := true) rfl (fun h0 => ?_) (fun h0 => ?_)
  rotate_left
  · exact absurd h0 (by decide)
  refine sr rfl <| mS rfl <| aS rfl <| en <| x_ret <| then_r <| ret_tmp (v := S _) rfl rfl ?_
  exact ⟨congrArg S (by rw [show s = [] by first | assumption | simp_all]; rfl), HC⟩
 ·try simp only [nm, ne_eq] at g1
  refine w_yes 2 9 false <| st_move (v := S _) rfl <| w_yes 2 9 false <| st_seql rfl rfl <| pF rfl rfl <| en <| x_cond rfl (fun h0 => ?_) (fun h0 => ?_)
  ·try simp only [nm, ne_eq] at h0
   refine sr rfl <| mS rfl <| aS rfl <| en <| x_ret <| then_r <| ret_tmp (v := S _) rfl rfl ?_
   exact ⟨congrArg S (by rw [show s = [] by first | assumption | simp_all]; rfl), HC⟩
  ·try simp only [nm, ne_eq] at h0
   refine x_skip <| then_n <| x_seq <| sr rfl <| mS rfl <| Wp rfl <| st_slen (ct := #[9]) T.u9 rfl <| Wp rfl <| st_eql rfl rfl <| mB rfl <| w_split (d := 17) rfl (fun g2 => ?_) (fun g2 => ?_)
   ·try simp only [nm, ne_eq] at g2
    refine w_yes 3 17 true <| st_move (v := S _) rfl <| w_yes 3 17 true <| st_sidx T.u9 rfl rfl (by decide) (by decide) <| w_yes 3 17 true <| st_lss rfl rfl <| pT rfl rfl <| en <| x_cond rfl (fun h1 => ?_) (fun h1 => ?_)
    ·try simp only [nm, ne_eq] at h1
     refine sr rfl <| mS rfl <| mS rfl <| Wp rfl <| st_sidx T.u9 rfl rfl (by decide) (by decide) <| Wp rfl <| st_call (ags := [_, _]) rfl rfl T.ent58 rfl (trimLB_spec s _) ?_
     rintro _ w3 ⟨rfl, c4⟩
     replace HC := HC.then c4
     refine aS rfl <| en <| x_ret <| then_r <| ret_tmp (v := S _) rfl rfl ?_
     exact ⟨rfl, HC⟩
    ·try simp only [nm, ne_eq] at h1
     first | exact absurd rfl h1 | (simp at h1; done) | exact absurd h1 (by decide)
   ·try simp only [nm, ne_eq] at g2
    first | exact absurd rfl g2 | (simp at g2; done) | exact absurd g2 (by decide)

theorem meta_spec (c : UInt8) (w : World) : CallR Tryz.prog 47 #[.int .u8 (c.toNat : Int)] w fun v w' => v = .bool (metaB c) ∧ Chg [] w w' := by
 refine callR_of_wp (args := [_]) Tryz.func47 rfl (Nat.le_of_ble_eq_true rfl) ?_
 have HC : Chg [] w w := .refl _
 refine sr rfl <| aB rfl <| en <| sr rfl <| mI rfl <| Wp rfl <| st_call (ags := [_, _]) rfl rfl T.ent46 rfl (IndexByte_spec metas c _) ?_
 rintro _ w1 ⟨rfl, c2⟩
 replace HC := HC.then c2
 refine Wp rfl <| st_geq rfl rfl <| aB rfl <| en <| x_ret <| ret_tmp (v := .bool _) rfl rfl ?_
 exact ⟨rfl, HC⟩

theorem operators_spec (w : World) (ht : Tab w) : CallR Tryz.prog 48 #[] w fun v w' => ∃ b, v = .slice (some ⟨b, 0, none⟩) opsT.length opsT.length ∧ w.heap.size ≤ b ∧ Sl sE w' (fun k => k = b) (some ⟨b, 0, none⟩) opsT ∧ Chg [] w w' := by
 refine callR_of_wp (args := []) Tryz.func48 rfl (Nat.le_of_ble_eq_true rfl) ?_
 have HC : Chg [] w w := .refl _
 have ht1 := ht.lt
 refine sr rfl <| aL rfl <| en <| sr rfl <| Wp rfl <| st_call (ags := [_]) rfl rfl T.ent62 rfl (Fields_spec [60, 60, 45, 32, 38, 38, 32, 124, 124, 32, 59, 59, 32, 60, 60, 32, 62, 62, 32, 60, 38, 32, 62, 38, 32, 60, 62, 32, 62, 124, 32, 59, 32, 38, 32, 124, 32, 60, 32, 62, 32, 40, 32, 41] _ (by decide) (all128 _ rfl) ht) ?_
 rintro _ w1 ⟨bf, rfl, hgf, hsf, c2⟩
 rw [fields_opsT] at hsf ⊢
 replace HC := HC.then c2
 refine aL rfl <| en <| x_ret <| ret_tmp (v := .slice _ _ _) rfl rfl ?_
 exact ⟨bf, rfl, hgf, hsf, HC⟩

theorem tnext1_spec {bs : Nat} {s : Bytes} {w : World} (o : Bytes) (hb : Blk w bs [S s] 9) : CallR Tryz.prog 50 #[S o, .pointer (some ⟨bs, 0, none⟩)] w fun v w' => v = .bool (preO s o) ∧ Chg [] w w' := by
 refine callR_of_wp (args := [_, _]) Tryz.func50 rfl (Nat.le_of_ble_eq_true rfl) ?_
 have HC : Chg [] w w := .refl _
 refine sr rfl <| aB rfl <| en <| sr rfl <| lS T.one9 rfl (hb.cell rfl) <| mS rfl <| Wp rfl <| st_call (ags := [_, _]) rfl rfl T.ent27 rfl (HasPrefix_spec _ _ _) ?_
 rintro _ w1 ⟨rfl, c2⟩
 replace HC := HC.then c2
 refine aB rfl <| en <| x_ret <| ret_tmp (v := .bool _) rfl rfl ?_
 exact ⟨rfl, HC⟩

end Go.Proofs.YtghjmiggobpmoaaGreatDoor.K
set_option linter.unusedVariables false
set_option linter.unusedSimpArgs false
set_option autoImplicit false
set_option maxRecDepth 20000
namespace Go.Proofs.YtghjmiggobpmoaaGreatDoor.K
open Go Go.Proofs Go.RowKit

theorem innerV_le : ∀ (n : Nat) (s : Bytes), s.length ≤ n → (innerV s).length ≤ s.length
  | 0, s, h => by rw [show s = [] from List.length_eq_zero_iff.1 (by omega)]; simp [innerV]
  | n + 1, [], _ => by simp [innerV]
  | n + 1, [c], _ => by simp [innerV]
  | n + 1, c :: d :: t, h => by
    simp only [List.length_cons] at h
    have h1 := innerV_le n t (by omega)
    have h2 := innerV_le n (d :: t) (by simp only [List.length_cons]; omega)
    simp only [List.length_cons] at h2
    rw [innerV]
    split
    · split
      · simp only [List.length_cons]; omega
      · split
        · simp only [List.length_cons]; omega
        · simp only [List.length_cons]; omega
    · simp only [List.length_cons]; omega
theorem trimP_le (s p : Bytes) : (trimP s p).length ≤ s.length := by unfold trimP; split <;> simp
theorem partW_le (w : Bytes) {n : Nat} (hn : n ≤ w.length) : (partW w n).length ≤ n := by
  unfold partW
  split
  · simp only [List.length_drop, List.length_take]; omega
  · split
    · have := innerV_le _ ((w.take (n - 1)).drop 1) (Nat.le_refl _)
      simp only [List.length_drop, List.length_take] at this; omega
    · split
      · have := trimP_le ((w.take n).drop 1) [10]
        simp only [List.length_drop, List.length_take] at this; omega
      · simp only [List.length_take]; omega
theorem quo_eq (c : UInt8) : decide (0 ≤ idx [39, 34, 92] c) = quoB c := by
  rw [Bool.eq_iff_iff, decide_eq_true_eq, in3a]; simp only [quoB, Bool.or_eq_true, beq_iff_eq]
  constructor
  · rintro (h | h | h) <;> simp [h]
  · rintro ((h | h) | h) <;> simp [h]
theorem plainF_ok {k : Nat} {r : Bytes} {n : Nat} (hr : r ≠ []) (hn : skipL 64 r = .ok n) : plainF (k + 1) r = (partW r n ++ (plainF k (r.drop n)).1, quoB (byte r 0) || (plainF k (r.drop n)).2) := by
  rw [plainF, if_neg hr, hn]
theorem plainF_err {k : Nat} {r : Bytes} {e : Nat} (hr : r ≠ []) (he : skipL 64 r = .error e) : plainF (k + 1) r = (r, quoB (byte r 0)) := by
  rw [plainF, if_neg hr, he]
theorem take_take' {r : Bytes} {n : Nat} : (r.take n).take (n - 1) = r.take (n - 1) := by rw [List.take_take, Nat.min_eq_left (by omega)]
theorem trimP_eq (s p : Bytes) : Lib.trimPrefix s p = trimP s p := rfl

theorem Plain_spec (s : Bytes) (w : World) (hs : s.length < 4294967281) : CallR Tryz.prog 37 #[S s] w fun v w' => v = .tuple ⟨[S (plainV s).1, .bool (plainV s).2]⟩ ∧ Chg [] w w' := by
 refine callR_of_wp (args := [_]) Tryz.func37 rfl (Nat.le_of_ble_eq_true rfl) ?_
 have HC : Chg [] w w := .refl _
 refine sr rfl <| aS rfl <| aB rfl <| en <| sr rfl <| Wp rfl <| st_alloc T.zero98 ?_
 intro b4 w1 e2 c3 hb4
 have ge_b4 := gB e2 HC.size
 replace HC := HC.then c3
 clear e2
 refine en <| sr rfl <| aB rfl <| en <| x_seq <| x_block ?_
 have hbd := BldP.new hb4
 refine x_loop (ι := Bytes × Nat × Bytes × Bool × Option Addr × Nat) [0, 5, 6, 7, 8, 9, 10, 11, 12, 13, 14, 15, 16, 17, 18, 19, 20, 21, 22, 23, 24, 25, 26, 27, 28, 29, 30, 31, 32, 33, 34, 35, 36, 37, 38, 39, 40, 41, 42, 43, 44, 45, 46, 47, 48, 49, 50, 51, 52, 53, 54] (fun ⟨r, k, out, q, A, cap⟩ => [(0, S r), (5, .bool q)]) (fun ⟨r, k, out, q, A, cap⟩ W => (r.length ≤ k ∧ out.length + r.length ≤ s.length ∧ plainV s = (out ++ (plainF k r).1, q || (plainF k r).2) ∧ (∀ k, k ∈ ob A → w.heap.size ≤ k)) ∧ (Chg [] w W) ∧ (BldP W b4 A cap out [])) (fun ⟨r, k, out, q, A, cap⟩ => r.length) (s, s.length, [], false, none, 0) ?_ ?_ ?_
 · exact ⟨rfl, rfl, trivial⟩
 ·refine ⟨?_, HC, hbd⟩
  exact ⟨Nat.le_refl _, by simp, by simp [plainV], (fun k hk => by cases hk)⟩
 intro ⟨r, k, out, q, A, cap⟩ G6 w5 ⟨⟨hrk, hol, htot, hob⟩, HC, hbd⟩
 change wp _ _ _ _ _ (upds (over _ _ G6) [(0, S r), (5, .bool q)]) _ _
 refine x_seq <| sr rfl <| mS rfl <| Wp rfl <| st_sneq rfl rfl <| en <| x_cond rfl (fun h0 => ?_) (fun h0 => ?_)
 ·try simp only [nm, ne_eq] at h0
  have hr1 := List.length_pos_iff.2 h0
  obtain ⟨k, rfl⟩ : ∃ j, k = j + 1 := ⟨k - 1, by omega⟩
  refine x_skip <| then_n <| x_block <| sr rfl <| mB rfl <| mB rfl <| w_split (d := 12) rfl (fun g7 => ?_) (fun g7 => ?_)
  ·try simp only [nm, ne_eq] at g7
   iterate 4 refine w_no 1 12 false ?_
   refine pT rfl rfl <| aB rfl <| en <| x_seq ?_
   rcases skip_cases r h0 with ⟨n, hn, hn1, hn2⟩ | ⟨e, he, he0⟩
   ·refine x_region rfl <| mS rfl <| Wp rfl <| st_call (ags := [_, _]) rfl rfl T.ent51 rfl (Skip_ok r _ (by omega) h0 hn) ?_
    rintro _ w8 ⟨rfl, c9⟩
    replace HC := HC.then c9
    replace hbd := hbd.tr0 c9
    refine mv (v := .tuple ⟨[_, _]⟩) rfl <| Wp rfl <| st_extract (vs := [_, _]) (v := .int _ _) rfl rfl <| Wp rfl <| st_extract (vs := [_, _]) (v := .int _ _) rfl rfl <| aI rfl <| aI rfl <| en <| x_seq <| sr rfl <| mI rfl <| Wp rfl <| st_neq rfl rfl <| en <| x_cond rfl (fun h1 => ?_) (fun h1 => ?_)
    ·try simp only [nm, ne_eq] at h1
     first | exact absurd rfl h1 | exact absurd trivial h1 | (simp at h1; done)
    ·try simp only [nm, ne_eq] at h1
     refine x_skip <| then_n <| sr rfl <| mS rfl <| mI rfl <| Wp rfl <| st_sshi (j := n) T.u9 rfl ⟨_, rfl⟩ (by omega) <| aS rfl <| en <| x_seq <| sr rfl <| mS rfl <| Wp rfl <| st_sidx T.u9 rfl rfl (by decide) (by omega) <| en <| x_block <| sr rfl <| Wp rfl <| st_eql rfl rfl <| aB rfl <| en <| x_cond rfl (fun h2 => ?_) (fun h2 => ?_)
     ·try simp only [nm, ne_eq] at h2
      have hc0 : byte r 0 = 39 := u8_eq h2 rfl
      have hn3 := two_le h0 hn (.inl hc0)
      have hs1 : IntKind.i64.wrap ((n : Int) - 1) = ((n - 1 : Nat) : Int) := by rw [wrap64_id (by omega) (by omega)]; omega
      have hpw : ((r.take n).take (n - 1)).drop 1 = partW r n := by rw [take_take', partW, if_pos hc0]
      refine x_region rfl <| mS rfl <| mI rfl <| Wp rfl <| st_subk rfl rfl (by exact hs1) <| Wp rfl <| st_sslice (i := 1) (j := n - 1) T.u9 rfl ⟨_, rfl⟩ ⟨_, rfl⟩ (by omega) (by (simp only [List.length_take]; omega)) <| aS rfl <| wops_nil <| block_n <| then_n <| x_seq ?_
      rw [hpw]
      refine x_region rfl <| mS rfl <| Wp rfl <| st_call (ags := [_, _]) rfl rfl T.ent53 rfl (WriteStringP_spec (partW r n) hbd (by have := partW_le r hn2; omega)) ?_
      rintro _ w10 ⟨rfl, A12, cap13, hbd14, c11, hgr15⟩
      have hszW := HC.size
      replace HC := HC.trans c11 (fun k hk => (List.mem_cons.1 hk).elim (fun h => .inr (by rw [h]; exact ge_b4)) (fun h => .inr (hob k h)))
      replace hob : ∀ k, k ∈ ob A12 → w.heap.size ≤ k := fun k hk => (hgr15 k hk).elim (fun h => hob k h) (fun h => by omega)
      refine en <| x_region rfl <| mS rfl <| mI rfl <| Wp rfl <| st_sslo (i := n) T.u9 rfl ⟨_, rfl⟩ (by omega) <| aS rfl <| wops_nil <| block_n <| then_n <| ⟨(r.drop n, k, out ++ (partW r n), q || quoB (byte r 0), A12, cap13), ?_, ?_, rfl, ⟨rfl, (congrArg Value.bool (by rw [show q = true by first | assumption | simp_all]; rfl)), trivial⟩, ?_⟩
      ·refine ⟨?_, HC, hbd14⟩
       exact ⟨by rw [List.length_drop]; omega, by have := partW_le r hn2; simp only [List.length_append, List.length_drop]; omega, by rw [htot, plainF_ok h0 hn]; simp [Bool.or_assoc], hob⟩
      ·show (r.drop n).length < r.length; rw [List.length_drop]; omega
      exact q9
     ·try simp only [nm, ne_eq] at h2
      have hc2 : byte r 0 ≠ 39 := fun e => h2 (by rw [e]; rfl)
      refine sr rfl <| Wp rfl <| st_eql rfl rfl <| aB rfl <| en <| x_cond rfl (fun h3 => ?_) (fun h3 => ?_)
      ·try simp only [nm, ne_eq] at h3
       have hc0 : byte r 0 = 34 := u8_eq h3 rfl
       have hn3 := two_le h0 hn (.inr (.inl hc0))
       have hs1 : IntKind.i64.wrap ((n : Int) - 1) = ((n - 1 : Nat) : Int) := by rw [wrap64_id (by omega) (by omega)]; omega
       have hpw : innerV (((r.take n).take (n - 1)).drop 1) = partW r n := by rw [take_take', partW, if_neg hc2, if_pos hc0]
       refine x_region rfl <| mS rfl <| mI rfl <| Wp rfl <| st_subk rfl rfl (by exact hs1) <| Wp rfl <| st_sslice (i := 1) (j := n - 1) T.u9 rfl ⟨_, rfl⟩ ⟨_, rfl⟩ (by omega) (by (simp only [List.length_take]; omega)) <| Wp rfl <| st_call (ags := [_]) rfl rfl T.ent54 rfl (inner_spec (((r.take n).take (n - 1)).drop 1) _ (by simp only [List.length_drop, List.length_take]; omega)) ?_
       rintro _ w16 ⟨rfl, c17⟩
       replace HC := HC.then c17
       replace hbd := hbd.tr0 c17
       refine aS rfl <| wops_nil <| block_n <| then_n <| x_seq ?_
       rw [hpw]
       refine x_region rfl <| mS rfl <| Wp rfl <| st_call (ags := [_, _]) rfl rfl T.ent53 rfl (WriteStringP_spec (partW r n) hbd (by have := partW_le r hn2; omega)) ?_
       rintro _ w18 ⟨rfl, A20, cap21, hbd22, c19, hgr23⟩
       have hszW := HC.size
       replace HC := HC.trans c19 (fun k hk => (List.mem_cons.1 hk).elim (fun h => .inr (by rw [h]; exact ge_b4)) (fun h => .inr (hob k h)))
       replace hob : ∀ k, k ∈ ob A20 → w.heap.size ≤ k := fun k hk => (hgr23 k hk).elim (fun h => hob k h) (fun h => by omega)
       refine en <| x_region rfl <| mS rfl <| mI rfl <| Wp rfl <| st_sslo (i := n) T.u9 rfl ⟨_, rfl⟩ (by omega) <| aS rfl <| wops_nil <| block_n <| then_n <| ⟨(r.drop n, k, out ++ (partW r n), q || quoB (byte r 0), A20, cap21), ?_, ?_, rfl, ⟨rfl, (congrArg Value.bool (by rw [show q = true by first | assumption | simp_all]; rfl)), trivial⟩, ?_⟩
       ·refine ⟨?_, HC, hbd22⟩
        exact ⟨by rw [List.length_drop]; omega, by have := partW_le r hn2; simp only [List.length_append, List.length_drop]; omega, by rw [htot, plainF_ok h0 hn]; simp [Bool.or_assoc], hob⟩
       ·show (r.drop n).length < r.length; rw [List.length_drop]; omega
       exact q9
      ·try simp only [nm, ne_eq] at h3
       have hc3 : byte r 0 ≠ 34 := fun e => h3 (by rw [e]; rfl)
       refine sr rfl <| Wp rfl <| st_eql rfl rfl <| aB rfl <| en <| x_cond rfl (fun h4 => ?_) (fun h4 => ?_)
       ·try simp only [nm, ne_eq] at h4
        have hc0 : byte r 0 = 92 := u8_eq h4 rfl
        have hpw : trimP ((r.take n).drop 1) [10] = partW r n := by rw [partW, if_neg hc2, if_neg hc3, if_pos hc0]
        refine x_region rfl <| mS rfl <| Wp rfl <| st_sslo (i := 1) T.u9 rfl ⟨_, rfl⟩ (by (simp only [List.length_take]; omega)) <| Wp rfl <| st_call (ags := [_, _]) rfl rfl T.ent55 rfl (TrimPrefix_spec ((r.take n).drop 1) [10] _) ?_
        rintro _ w24 ⟨rfl, c25⟩
        replace HC := HC.then c25
        replace hbd := hbd.tr0 c25
        rw [trimP_eq]
        refine aS rfl <| wops_nil <| block_n <| then_n <| x_seq ?_
        rw [hpw]
        refine x_region rfl <| mS rfl <| Wp rfl <| st_call (ags := [_, _]) rfl rfl T.ent53 rfl (WriteStringP_spec (partW r n) hbd (by have := partW_le r hn2; omega)) ?_
        rintro _ w26 ⟨rfl, A28, cap29, hbd30, c27, hgr31⟩
        have hszW := HC.size
        replace HC := HC.trans c27 (fun k hk => (List.mem_cons.1 hk).elim (fun h => .inr (by rw [h]; exact ge_b4)) (fun h => .inr (hob k h)))
        replace hob : ∀ k, k ∈ ob A28 → w.heap.size ≤ k := fun k hk => (hgr31 k hk).elim (fun h => hob k h) (fun h => by omega)
        refine en <| x_region rfl <| mS rfl <| mI rfl <| Wp rfl <| st_sslo (i := n) T.u9 rfl ⟨_, rfl⟩ (by omega) <| aS rfl <| wops_nil <| block_n <| then_n <| ⟨(r.drop n, k, out ++ (partW r n), q || quoB (byte r 0), A28, cap29), ?_, ?_, rfl, ⟨rfl, (congrArg Value.bool (by rw [show q = true by first | assumption | simp_all]; rfl)), trivial⟩, ?_⟩
        ·refine ⟨?_, HC, hbd30⟩
         exact ⟨by rw [List.length_drop]; omega, by have := partW_le r hn2; simp only [List.length_append, List.length_drop]; omega, by rw [htot, plainF_ok h0 hn]; simp [Bool.or_assoc], hob⟩
        ·show (r.drop n).length < r.length; rw [List.length_drop]; omega
        exact q9
       ·try simp only [nm, ne_eq] at h4
        have hc4 : byte r 0 ≠ 92 := fun e => h4 (by rw [e]; rfl)
        have hpw : r.take n = partW r n := by rw [partW, if_neg hc2, if_neg hc3, if_neg hc4]
        refine x_skip <| block_n <| then_n <| x_seq ?_
        rw [hpw]
        refine x_region rfl <| mS rfl <| Wp rfl <| st_call (ags := [_, _]) rfl rfl T.ent53 rfl (WriteStringP_spec (partW r n) hbd (by have := partW_le r hn2; omega)) ?_
        rintro _ w32 ⟨rfl, A34, cap35, hbd36, c33, hgr37⟩
        have hszW := HC.size
        replace HC := HC.trans c33 (fun k hk => (List.mem_cons.1 hk).elim (fun h => .inr (by rw [h]; exact ge_b4)) (fun h => .inr (hob k h)))
        replace hob : ∀ k, k ∈ ob A34 → w.heap.size ≤ k := fun k hk => (hgr37 k hk).elim (fun h => hob k h) (fun h => by omega)
        refine en <| x_region rfl <| mS rfl <| mI rfl <| Wp rfl <| st_sslo (i := n) T.u9 rfl ⟨_, rfl⟩ (by omega) <| aS rfl <| wops_nil <| block_n <| then_n <| ⟨(r.drop n, k, out ++ (partW r n), q || quoB (byte r 0), A34, cap35), ?_, ?_, rfl, ⟨rfl, (congrArg Value.bool (by rw [show q = true by first | assumption | simp_all]; rfl)), trivial⟩, ?_⟩
        ·refine ⟨?_, HC, hbd36⟩
         exact ⟨by rw [List.length_drop]; omega, by have := partW_le r hn2; simp only [List.length_append, List.length_drop]; omega, by rw [htot, plainF_ok h0 hn]; simp [Bool.or_assoc], hob⟩
        ·show (r.drop n).length < r.length; rw [List.length_drop]; omega
        exact q9
   ·refine x_region rfl <| mS rfl <| Wp rfl <| st_call (ags := [_, _]) rfl rfl T.ent51 rfl (Skip_err r _ (by omega) h0 he) ?_
    rintro _ w38 ⟨rfl, c39⟩
    replace HC := HC.then c39
    replace hbd := hbd.tr0 c39
    refine mv (v := .tuple ⟨[_, _]⟩) rfl <| Wp rfl <| st_extract (vs := [_, _]) (v := .int _ _) rfl rfl <| Wp rfl <| st_extract (vs := [_, _]) (v := .int _ _) rfl rfl <| aI rfl <| aI rfl <| en <| x_seq <| sr rfl <| mI rfl <| Wp rfl <| st_neq rfl rfl <| en <| x_cond rfl (fun h1 => ?_) (fun h1 => ?_)
    ·try simp only [nm, ne_eq] at h1
     have hut : plainV s = (out ++ r, q || quoB (byte r 0)) := by rw [htot, plainF_err h0 he]
     refine sr rfl <| mS rfl <| Wp rfl <| st_call (ags := [_, _]) rfl rfl T.ent53 rfl (WriteStringP_spec r hbd (by omega)) ?_
     rintro _ w40 ⟨rfl, A42, cap43, hbd44, c41, hgr45⟩
     have hszW := HC.size
     replace HC := HC.trans c41 (fun k hk => (List.mem_cons.1 hk).elim (fun h => .inr (by rw [h]; exact ge_b4)) (fun h => .inr (hob k h)))
     replace hob : ∀ k, k ∈ ob A42 → w.heap.size ≤ k := fun k hk => (hgr45 k hk).elim (fun h => hob k h) (fun h => by omega)
     refine en <| x_exit <| then_x <| block_o rfl <| then_x <| block_x <| then_n <| sr rfl <| Wp rfl <| st_call (ags := [_]) rfl rfl T.ent56 rfl (StringP_spec hbd44) ?_
     rintro _ w46 ⟨rfl, hbz, c47⟩
     replace HC := HC.trans c47 (fun k hk => .inr (hob k hk))
     refine mB rfl <| aS rfl <| aB rfl <| en <| x_ret <| ret_tmp2 (v := S _) (v2 := .bool _) rfl rfl rfl ?_
     rw [hut]
     exact ⟨by rw [show true = (q || quoB (byte r 0)) from by rw [show q = true by first | assumption | simp_all]; rfl], HC⟩
    ·try simp only [nm, ne_eq] at h1
     exfalso; first | omega | simp_all
  ·try simp only [nm, ne_eq] at g7
   refine w_yes 1 12 false <| st_move (v := S _) rfl <| w_yes 1 12 false <| st_sidx T.u9 rfl rfl (by decide) (by omega) <| w_yes 1 12 false <| st_call (ags := [_, _]) rfl rfl T.ent46 rfl (IndexByte_spec [39, 34, 92] (byte r 0) _) ?_
   rintro _ w48 ⟨rfl, c49⟩
   replace HC := HC.then c49
   replace hbd := hbd.tr0 c49
   refine w_yes 1 12 false <| st_geq rfl rfl <| pF rfl rfl <| aB rfl <| en <| x_seq ?_
   rcases skip_cases r h0 with ⟨n, hn, hn1, hn2⟩ | ⟨e, he, he0⟩
   ·refine x_region rfl <| mS rfl <| Wp rfl <| st_call (ags := [_, _]) rfl rfl T.ent51 rfl (Skip_ok r _ (by omega) h0 hn) ?_
    rintro _ w50 ⟨rfl, c51⟩
    replace HC := HC.then c51
    replace hbd := hbd.tr0 c51
    refine mv (v := .tuple ⟨[_, _]⟩) rfl <| Wp rfl <| st_extract (vs := [_, _]) (v := .int _ _) rfl rfl <| Wp rfl <| st_extract (vs := [_, _]) (v := .int _ _) rfl rfl <| aI rfl <| aI rfl <| en <| x_seq <| sr rfl <| mI rfl <| Wp rfl <| st_neq rfl rfl <| en <| x_cond rfl (fun h1 => ?_) (fun h1 => ?_)
    ·try simp only [nm, ne_eq] at h1
     first | exact absurd rfl h1 | exact absurd trivial h1 | (simp at h1; done)
    ·try simp only [nm, ne_eq] at h1
     refine x_skip <| then_n <| sr rfl <| mS rfl <| mI rfl <| Wp rfl <| st_sshi (j := n) T.u9 rfl ⟨_, rfl⟩ (by omega) <| aS rfl <| en <| x_seq <| sr rfl <| mS rfl <| Wp rfl <| st_sidx T.u9 rfl rfl (by decide) (by omega) <| en <| x_block <| sr rfl <| Wp rfl <| st_eql rfl rfl <| aB rfl <| en <| x_cond rfl (fun h2 => ?_) (fun h2 => ?_)
     ·try simp only [nm, ne_eq] at h2
      have hc0 : byte r 0 = 39 := u8_eq h2 rfl
      have hn3 := two_le h0 hn (.inl hc0)
      have hs1 : IntKind.i64.wrap ((n : Int) - 1) = ((n - 1 : Nat) : Int) := by rw [wrap64_id (by omega) (by omega)]; omega
      have hpw : ((r.take n).take (n - 1)).drop 1 = partW r n := by rw [take_take', partW, if_pos hc0]
      refine x_region rfl <| mS rfl <| mI rfl <| Wp rfl <| st_subk rfl rfl (by exact hs1) <| Wp rfl <| st_sslice (i := 1) (j := n - 1) T.u9 rfl ⟨_, rfl⟩ ⟨_, rfl⟩ (by omega) (by (simp only [List.length_take]; omega)) <| aS rfl <| wops_nil <| block_n <| then_n <| x_seq ?_
      rw [hpw]
      refine x_region rfl <| mS rfl <| Wp rfl <| st_call (ags := [_, _]) rfl rfl T.ent53 rfl (WriteStringP_spec (partW r n) hbd (by have := partW_le r hn2; omega)) ?_
      rintro _ w52 ⟨rfl, A54, cap55, hbd56, c53, hgr57⟩
      have hszW := HC.size
      replace HC := HC.trans c53 (fun k hk => (List.mem_cons.1 hk).elim (fun h => .inr (by rw [h]; exact ge_b4)) (fun h => .inr (hob k h)))
      replace hob : ∀ k, k ∈ ob A54 → w.heap.size ≤ k := fun k hk => (hgr57 k hk).elim (fun h => hob k h) (fun h => by omega)
      refine en <| x_region rfl <| mS rfl <| mI rfl <| Wp rfl <| st_sslo (i := n) T.u9 rfl ⟨_, rfl⟩ (by omega) <| aS rfl <| wops_nil <| block_n <| then_n <| ⟨(r.drop n, k, out ++ (partW r n), q || quoB (byte r 0), A54, cap55), ?_, ?_, rfl, ⟨rfl, (congrArg Value.bool (by rw [show q = false by first | assumption | simp_all, Bool.false_or]; exact quo_eq _)), trivial⟩, ?_⟩
      ·refine ⟨?_, HC, hbd56⟩
       exact ⟨by rw [List.length_drop]; omega, by have := partW_le r hn2; simp only [List.length_append, List.length_drop]; omega, by rw [htot, plainF_ok h0 hn]; simp [Bool.or_assoc], hob⟩
      ·show (r.drop n).length < r.length; rw [List.length_drop]; omega
      exact q9
     ·try simp only [nm, ne_eq] at h2
      have hc2 : byte r 0 ≠ 39 := fun e => h2 (by rw [e]; rfl)
      refine sr rfl <| Wp rfl <| st_eql rfl rfl <| aB rfl <| en <| x_cond rfl (fun h3 => ?_) (fun h3 => ?_)
      ·try simp only [nm, ne_eq] at h3
       have hc0 : byte r 0 = 34 := u8_eq h3 rfl
       have hn3 := two_le h0 hn (.inr (.inl hc0))
       have hs1 : IntKind.i64.wrap ((n : Int) - 1) = ((n - 1 : Nat) : Int) := by rw [wrap64_id (by omega) (by omega)]; omega
       have hpw : innerV (((r.take n).take (n - 1)).drop 1) = partW r n := by rw [take_take', partW, if_neg hc2, if_pos hc0]
       refine x_region rfl <| mS rfl <| mI rfl <| Wp rfl <| st_subk rfl rfl (by exact hs1) <| Wp rfl <| st_sslice (i := 1) (j := n - 1) T.u9 rfl ⟨_, rfl⟩ ⟨_, rfl⟩ (by omega) (by (simp only [List.length_take]; omega)) <| Wp rfl <| st_call (ags := [_]) rfl rfl T.ent54 rfl (inner_spec (((r.take n).take (n - 1)).drop 1) _ (by simp only [List.length_drop, List.length_take]; omega)) ?_
       rintro _ w58 ⟨rfl, c59⟩
       replace HC := HC.then c59
       replace hbd := hbd.tr0 c59
       refine aS rfl <| wops_nil <| block_n <| then_n <| x_seq ?_
       rw [hpw]
       refine x_region rfl <| mS rfl <| Wp rfl <| st_call (ags := [_, _]) rfl rfl T.ent53 rfl (WriteStringP_spec (partW r n) hbd (by have := partW_le r hn2; omega)) ?_
       rintro _ w60 ⟨rfl, A62, cap63, hbd64, c61, hgr65⟩
       have hszW := HC.size
       replace HC := HC.trans c61 (fun k hk => (List.mem_cons.1 hk).elim (fun h => .inr (by rw [h]; exact ge_b4)) (fun h => .inr (hob k h)))
       replace hob : ∀ k, k ∈ ob A62 → w.heap.size ≤ k := fun k hk => (hgr65 k hk).elim (fun h => hob k h) (fun h => by omega)
       refine en <| x_region rfl <| mS rfl <| mI rfl <| Wp rfl <| st_sslo (i := n) T.u9 rfl ⟨_, rfl⟩ (by omega) <| aS rfl <| wops_nil <| block_n <| then_n <| ⟨(r.drop n, k, out ++ (partW r n), q || quoB (byte r 0), A62, cap63), ?_, ?_, rfl, ⟨rfl, (congrArg Value.bool (by rw [show q = false by first | assumption | simp_all, Bool.false_or]; exact quo_eq _)), trivial⟩, ?_⟩
       ·refine ⟨?_, HC, hbd64⟩
        exact ⟨by rw [List.length_drop]; omega, by have := partW_le r hn2; simp only [List.length_append, List.length_drop]; omega, by rw [htot, plainF_ok h0 hn]; simp [Bool.or_assoc], hob⟩
       ·show (r.drop n).length < r.length; rw [List.length_drop]; omega
       exact q9
      ·try simp only [nm, ne_eq] at h3
       have hc3 : byte r 0 ≠ 34 := fun e => h3 (by rw [e]; rfl)
       refine sr rfl <| Wp rfl <| st_eql rfl rfl <| aB rfl <| en <| x_cond rfl (fun h4 => ?_) (fun h4 => ?_)
       ·try simp only [nm, ne_eq] at h4
        have hc0 : byte r 0 = 92 := u8_eq h4 rfl
        have hpw : trimP ((r.take n).drop 1) [10] = partW r n := by rw [partW, if_neg hc2, if_neg hc3, if_pos hc0]
        refine x_region rfl <| mS rfl <| Wp rfl <| st_sslo (i := 1) T.u9 rfl ⟨_, rfl⟩ (by (simp only [List.length_take]; omega)) <| Wp rfl <| st_call (ags := [_, _]) rfl rfl T.ent55 rfl (TrimPrefix_spec ((r.take n).drop 1) [10] _) ?_
        rintro _ w66 ⟨rfl, c67⟩
        replace HC := HC.then c67
        replace hbd := hbd.tr0 c67
        rw [trimP_eq]
        refine aS rfl <| wops_nil <| block_n <| then_n <| x_seq ?_
        rw [hpw]
        refine x_region rfl <| mS rfl <| Wp rfl <| st_call (ags := [_, _]) rfl rfl T.ent53 rfl (WriteStringP_spec (partW r n) hbd (by have := partW_le r hn2; omega)) ?_
        rintro _ w68 ⟨rfl, A70, cap71, hbd72, c69, hgr73⟩
        have hszW := HC.size
        replace HC := HC.trans c69 (fun k hk => (List.mem_cons.1 hk).elim (fun h => .inr (by rw [h]; exact ge_b4)) (fun h => .inr (hob k h)))
        replace hob : ∀ k, k ∈ ob A70 → w.heap.size ≤ k := fun k hk => (hgr73 k hk).elim (fun h => hob k h) (fun h => by omega)
        refine en <| x_region rfl <| mS rfl <| mI rfl <| Wp rfl <| st_sslo (i := n) T.u9 rfl ⟨_, rfl⟩ (by omega) <| aS rfl <| wops_nil <| block_n <| then_n <| ⟨(r.drop n, k, out ++ (partW r n), q || quoB (byte r 0), A70, cap71), ?_, ?_, rfl, ⟨rfl, (congrArg Value.bool (by rw [show q = false by first | assumption | simp_all, Bool.false_or]; exact quo_eq _)), trivial⟩, ?_⟩
        ·refine ⟨?_, HC, hbd72⟩
         exact ⟨by rw [List.length_drop]; omega, by have := partW_le r hn2; simp only [List.length_append, List.length_drop]; omega, by rw [htot, plainF_ok h0 hn]; simp [Bool.or_assoc], hob⟩
        ·show (r.drop n).length < r.length; rw [List.length_drop]; omega
        exact q9
       ·try simp only [nm, ne_eq] at h4
        have hc4 : byte r 0 ≠ 92 := fun e => h4 (by rw [e]; rfl)
        have hpw : r.take n = partW r n := by rw [partW, if_neg hc2, if_neg hc3, if_neg hc4]
        refine x_skip <| block_n <| then_n <| x_seq ?_
        rw [hpw]
        refine x_region rfl <| mS rfl <| Wp rfl <| st_call (ags := [_, _]) rfl rfl T.ent53 rfl (WriteStringP_spec (partW r n) hbd (by have := partW_le r hn2; omega)) ?_
        rintro _ w74 ⟨rfl, A76, cap77, hbd78, c75, hgr79⟩
        have hszW := HC.size
        replace HC := HC.trans c75 (fun k hk => (List.mem_cons.1 hk).elim (fun h => .inr (by rw [h]; exact ge_b4)) (fun h => .inr (hob k h)))
        replace hob : ∀ k, k ∈ ob A76 → w.heap.size ≤ k := fun k hk => (hgr79 k hk).elim (fun h => hob k h) (fun h => by omega)
        refine en <| x_region rfl <| mS rfl <| mI rfl <| Wp rfl <| st_sslo (i := n) T.u9 rfl ⟨_, rfl⟩ (by omega) <| aS rfl <| wops_nil <| block_n <| then_n <| ⟨(r.drop n, k, out ++ (partW r n), q || quoB (byte r 0), A76, cap77), ?_, ?_, rfl, ⟨rfl, (congrArg Value.bool (by rw [show q = false by first | assumption | simp_all, Bool.false_or]; exact quo_eq _)), trivial⟩, ?_⟩
        ·refine ⟨?_, HC, hbd78⟩
         exact ⟨by rw [List.length_drop]; omega, by have := partW_le r hn2; simp only [List.length_append, List.length_drop]; omega, by rw [htot, plainF_ok h0 hn]; simp [Bool.or_assoc], hob⟩
        ·show (r.drop n).length < r.length; rw [List.length_drop]; omega
        exact q9
   ·refine x_region rfl <| mS rfl <| Wp rfl <| st_call (ags := [_, _]) rfl rfl T.ent51 rfl (Skip_err r _ (by omega) h0 he) ?_
    rintro _ w80 ⟨rfl, c81⟩
    replace HC := HC.then c81
    replace hbd := hbd.tr0 c81
    refine mv (v := .tuple ⟨[_, _]⟩) rfl <| Wp rfl <| st_extract (vs := [_, _]) (v := .int _ _) rfl rfl <| Wp rfl <| st_extract (vs := [_, _]) (v := .int _ _) rfl rfl <| aI rfl <| aI rfl <| en <| x_seq <| sr rfl <| mI rfl <| Wp rfl <| st_neq rfl rfl <| en <| x_cond rfl (fun h1 => ?_) (fun h1 => ?_)
    ·try simp only [nm, ne_eq] at h1
     have hut : plainV s = (out ++ r, q || quoB (byte r 0)) := by rw [htot, plainF_err h0 he]
     refine sr rfl <| mS rfl <| Wp rfl <| st_call (ags := [_, _]) rfl rfl T.ent53 rfl (WriteStringP_spec r hbd (by omega)) ?_
     rintro _ w82 ⟨rfl, A84, cap85, hbd86, c83, hgr87⟩
     have hszW := HC.size
     replace HC := HC.trans c83 (fun k hk => (List.mem_cons.1 hk).elim (fun h => .inr (by rw [h]; exact ge_b4)) (fun h => .inr (hob k h)))
     replace hob : ∀ k, k ∈ ob A84 → w.heap.size ≤ k := fun k hk => (hgr87 k hk).elim (fun h => hob k h) (fun h => by omega)
     refine en <| x_exit <| then_x <| block_o rfl <| then_x <| block_x <| then_n <| sr rfl <| Wp rfl <| st_call (ags := [_]) rfl rfl T.ent56 rfl (StringP_spec hbd86) ?_
     rintro _ w88 ⟨rfl, hbz, c89⟩
     replace HC := HC.trans c89 (fun k hk => .inr (hob k hk))
     refine mB rfl <| aS rfl <| aB rfl <| en <| x_ret <| ret_tmp2 (v := S _) (v2 := .bool _) rfl rfl rfl ?_
     rw [hut]
     exact ⟨by rw [show decide (0 ≤ idx [39, 34, 92] (byte r 0)) = (q || quoB (byte r 0)) from by rw [show q = false by first | assumption | simp_all, Bool.false_or]; exact quo_eq _], HC⟩
    ·try simp only [nm, ne_eq] at h1
     exfalso; first | omega | simp_all
 ·try simp only [nm, ne_eq] at h0
  have hr0 : r = [] := by first | assumption | simpa using h0
  have hut : plainV s = (out, q) := by rw [htot, hr0]; cases k <;> simp [plainF]
  refine x_exit <| then_x <| then_x <| block_x <| then_n <| sr rfl <| Wp rfl <| st_call (ags := [_]) rfl rfl T.ent56 rfl (StringP_spec hbd) ?_
  rintro _ w90 ⟨rfl, hbz, c91⟩
  replace HC := HC.trans c91 (fun k hk => .inr (hob k hk))
  refine mB rfl <| aS rfl <| aB rfl <| en <| x_ret <| ret_tmp2 (v := S _) (v2 := .bool _) rfl rfl rfl ?_
  rw [hut]
  exact ⟨rfl, HC⟩

end Go.Proofs.YtghjmiggobpmoaaGreatDoor.K
