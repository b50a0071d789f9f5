import Derived.Test.YtpelmhoocepenaaGreatDoorWs
import Derived.Test.YtpelmhoocepenaaGreatDoorKitE
set_option linter.unusedVariables false
set_option linter.unusedSimpArgs false
set_option autoImplicit false
set_option maxRecDepth 20000
namespace Go.Proofs.YtpelmhoocepenaaGreatDoor.K
open Go Go.Proofs Go.RowKit

end Go.Proofs.YtpelmhoocepenaaGreatDoor.K
set_option linter.unusedVariables false
set_option linter.unusedSimpArgs false
set_option autoImplicit false
namespace Go.Proofs.YtpelmhoocepenaaGreatDoor.K
open Go Go.RowKit
variable {P : Program} {r : Option Nat} {n : Nat} {l : List Oper} {Q : Post} {ds : List Deferred}
/-- A tree of orders: all is done; no branch more; an effect, the quiet operations that it sets free, what follows, and the next branch. -/
inductive OT
  | stop
  | nil
  | br (i : Nat) (qs : List Nat) (sub next : OT)
def z0 (qs : List Nat) : List (Nat × Nat) := qs.map (·, 0)
section main
variable (E0 : Env) (hpl : l.all plainOp = true) (hds : dstsOK l = true)
end main
section
variable {K : Env → World → Prop} {T : World → Prop} {E : Env} {w : World}
end
end Go.Proofs.YtpelmhoocepenaaGreatDoor.K
set_option linter.unusedVariables false
set_option linter.unusedSimpArgs false
set_option autoImplicit false
set_option maxRecDepth 20000
namespace Go.Proofs.YtpelmhoocepenaaGreatDoor.K
open Go Go.Proofs Go.RowKit

theorem test_in (Z : Tre) (cwd : Int) : ∀ l : List Bytes, testV Z cwd l = 0 ∨ testV Z cwd l = 1 ∨ testV Z cwd l = 2
  | [] => .inr (.inl rfl)
  | [a] => tru_in _
  | [a, b] => two_in _ _ _ _
  | [a, b, c] => three_in _ _ _ _ _
  | [a, b, c, d] => by
    show fourV Z cwd a b c d = 0 ∨ fourV Z cwd a b c d = 1 ∨ fourV Z cwd a b c d = 2
    unfold fourV; split
    · exact turn_in (three_in _ _ _ _ _)
    · split
      · exact two_in _ _ _ _
      · simp
  | _ :: _ :: _ :: _ :: _ :: _ => .inr (.inr rfl)
/-- ! ahead of one to three. -/
theorem test_turn {Z : Tre} {cwd : Int} {l : List Bytes} (h1 : 1 ≤ l.length) (h3 : l.length ≤ 3) (h2 : ∀ a b, l = [a, b] → a ∉ binL) : testV Z cwd ([33] :: l) = turnN (testV Z cwd l) := by
  match l, h1, h3, h2 with
  | [a], _, _, _ => show twoV Z cwd [33] a = _; unfold twoV; rw [if_pos rfl]; rfl
  | [a, b], _, _, h2 => show threeV Z cwd [33] a b = _; unfold threeV; rw [if_neg (h2 a b rfl), if_pos rfl]; rfl
  | [a, b, c], _, _, _ => show fourV Z cwd [33] a b c = _; unfold fourV; rw [if_pos rfl]; rfl
section
variable {P : Program} {r : Option Nat} {n : Nat} {O : Array Oper} {Q : Post} {E : Env} {ds : List Deferred} {w : World} {l : List Oper} {i : Nat} {rest : List (Nat × Nat)} {K : (World → Prop) → Env → World → Prop} {T : World → Prop}
variable {dst : Option Nat} {ty : TypeId} {pos : String} {af : Array Edge} {g : Option (Nat × Bool)}
theorem r_append0 {t e : TypeId} {x y : Operand} {m cap c sz bytes : Nat} {A B : Option Addr} (hS : sliceB P t e sz bytes) (hx : ev E x = .slice B m cap) (hy : ev E y = .slice A 0 c) (hm : m ≤ cap) :
    (execOp (ev E) ⟨dst, .call ⟨.builtin .append, #[x, y], #[t, t]⟩, ty, pos, af, g⟩).run P w = .ok (.value (.slice B m cap)) w := by
  obtain ⟨ht, hi0, i0, z, hi, hzz, hzs⟩ := hS
  have ha : (Builtin.append_ #[t, t] ty #[.slice B m cap, .slice A 0 c]).run P w = .ok (.slice B m cap) w := by
    cases A <;> cases B <;> simp [Builtin.append_, run_underlying ht, sizeOf, typeInfo, hi, Builtin.lenOf, Builtin.firstCells, hm, storeCells, loadCells, loadCellsFrom, go_sem]
  simp only [execOp, resolve, invoke, builtin, List.map_toArray, List.map_cons, List.map_nil, hx, hy, Sem.run_bind, Sem.run_pure, ha, Result.andThen]
end

end Go.Proofs.YtpelmhoocepenaaGreatDoor.K
set_option linter.unusedVariables false
set_option linter.unusedSimpArgs false
set_option autoImplicit false
set_option maxRecDepth 20000
namespace Go.Proofs.YtpelmhoocepenaaGreatDoor.K
open Go Go.Proofs Go.RowKit

theorem cut_cons (c : UInt8) (s : Bytes) : Lib.cut (c :: s) [47] = if c.toNat = 47 then ([], s, true) else (c :: (Lib.cut s [47]).1, (Lib.cut s [47]).2.1, (Lib.cut s [47]).2.2) := by
  have hp : ([47] : Bytes).isPrefixOf (c :: s) = decide (c.toNat = 47) := by
    simp only [List.isPrefixOf, Bool.and_true]
    by_cases h : c.toNat = 47
    · have : c = 47 := UInt8.toNat_inj.1 h
      subst this; rfl
    · rw [decide_eq_false h, beq_eq_false_iff_ne]; intro e; exact h (by rw [← e]; rfl)
  have hg := Lib.index_ge s [47]
  by_cases h : c.toNat = 47
  · rw [if_pos h]
    have hi : Lib.index (c :: s) [47] = 0 := by unfold Lib.index; rw [hp, decide_eq_true h]; rfl
    unfold Lib.cut; rw [hi]; simp
  · rw [if_neg h]
    have hi : Lib.index (c :: s) [47] = if Lib.index s [47] == -1 then -1 else Lib.index s [47] + 1 := by
      rw [Lib.index, hp, decide_eq_false h]; rfl
    unfold Lib.cut; rw [hi]
    by_cases h1 : Lib.index s [47] = -1
    · rw [h1]; simp
    · have h2 : (Lib.index s [47] == -1) = false := by rw [beq_eq_false_iff_ne]; exact h1
      rw [h2]
      have e : (Lib.index s [47] + 1).toNat = (Lib.index s [47]).toNat + 1 := by omega
      simp only [Bool.false_eq_true, if_false]
      rw [if_pos (by omega), if_pos (by omega), e]
      simp
theorem cut_nil : Lib.cut [] [47] = ([], [], false) := rfl
/-- A path's names, byte by byte. -/
def prF : Bytes → Bytes → List Bytes
  | cur, [] => if cur = [] then [] else [cur]
  | cur, c :: s => if c.toNat = 47 then (if cur = [] then prF [] s else cur :: prF [] s) else prF (cur ++ [c]) s
theorem prF_cut : ∀ (s cur : Bytes), prF cur s = if (Lib.cut s [47]).2.2 = true then (if cur ++ (Lib.cut s [47]).1 = [] then prF [] (Lib.cut s [47]).2.1 else (cur ++ (Lib.cut s [47]).1) :: prF [] (Lib.cut s [47]).2.1) else if cur ++ s = [] then [] else [cur ++ s]
  | [], cur => by rw [cut_nil]; simp [prF]
  | c :: s, cur => by
    rw [prF, cut_cons]
    by_cases h : c.toNat = 47
    · rw [if_pos h, if_pos h]; simp
    · rw [if_neg h, if_neg h, prF_cut s (cur ++ [c])]
      simp
theorem cut_no : ∀ (s : Bytes), (Lib.cut s [47]).2.2 = false → Lib.cut s [47] = (s, [], false)
  | [], _ => rfl
  | c :: s, h => by
    rw [cut_cons] at h ⊢
    by_cases e : c.toNat = 47
    · rw [if_pos e] at h; cases h
    · rw [if_neg e] at h ⊢
      rw [cut_no s h]
theorem partsF_pr : ∀ (k : Nat) (s : Bytes), s.length < k → partsF k s = prF [] s
  | 0, s, h => by omega
  | k + 1, s, h => by
    rw [partsF]
    by_cases hs : s = []
    · rw [if_pos hs, hs]; rfl
    · rw [if_neg hs, prF_cut s []]
      have h1 := (cut_len (c := [47]) hs (by simp)).1
      simp only [List.nil_append]
      cases hc : (Lib.cut s [47]).2.2 with
      | true =>
        simp only [if_true]
        rw [partsF_pr k _ (by omega)]
      | false =>
        have h2 := cut_no s hc
        rw [h2]
        simp only [Bool.false_eq_true, if_false]
        rw [if_neg hs, if_neg hs]
        cases k with
        | zero => rfl
        | succ k => rfl
theorem parts_pr (s : Bytes) : partsV s = prF [] s := partsF_pr _ _ (Nat.lt_succ_self _)
theorem pr_on {p : Bytes} {i j : Nat} (h : i < p.length) (hj : j ≤ i) (hb : ¬ (byte p i).toNat = 47) : prF ((p.take i).drop j) (p.drop i) = prF ((p.take (i + 1)).drop j) (p.drop (i + 1)) := by
  rw [drop_byte h, prF, if_neg hb, take_byte h hj]
theorem pr_cut {p : Bytes} {i j : Nat} (h : i < p.length) (hb : (byte p i).toNat = 47) (hj : j ≤ i) : prF ((p.take i).drop j) (p.drop i) = (if j < i then [(p.take i).drop j] else []) ++ prF ((p.take (i + 1)).drop (i + 1)) (p.drop (i + 1)) := by
  have e0 : (p.take (i + 1)).drop (i + 1) = [] := List.drop_of_length_le (by rw [List.length_take]; omega)
  rw [drop_byte h, prF, if_pos hb, e0]
  by_cases e : j < i
  · rw [if_pos e, if_neg (fun h9 => by have := congrArg List.length h9; simp at this; omega)]; rfl
  · rw [if_neg e, if_pos (List.drop_of_length_le (by simp; omega))]; rfl
theorem pr_end {p : Bytes} {j : Nat} (hj : j ≤ p.length) : prF ((p.take p.length).drop j) (p.drop p.length) = if j < p.length then [(p.take p.length).drop j] else [] := by
  rw [List.drop_length, prF]
  by_cases e : j < p.length
  · rw [if_pos e, if_neg (fun h9 => by have := congrArg List.length h9; simp at this; omega)]
  · rw [if_neg e, if_pos (List.drop_of_length_le (by simp; omega))]

theorem RParts_spec (p : Bytes) (w : World) (hp : p.length ≤ 100000000) : CallR Tryz.prog 49 #[S p] w fun v w' => (∃ A cap, v = .slice A (partsV p).length cap ∧ Own sE 9 w' (fun k => w.heap.size ≤ k) A cap (partsV p)) ∧ Chg [] w w' := by
 refine callR_of_wp (args := [_]) Tryz.func49 rfl (Nat.le_of_ble_eq_true rfl) ?_
 have HC : Chg [] w w := .refl _
 refine sr rfl <| aL rfl <| en <| sr rfl <| aL rfl <| en <| sr rfl <| aI rfl <| en <| x_seq <| sr rfl <| aI rfl <| en <| x_block <| x_loop (ι := Nat × Nat × List Bytes × Option Addr × Nat) [3, 4, 5, 6, 7, 8, 9, 10, 11, 12, 13, 14, 15, 16, 17, 18, 19, 20, 21, 22, 23, 24, 25, 26, 27, 28, 29, 30, 31, 32, 33] (fun ⟨i, j, out, A, cap⟩ => [(3, .slice A out.length cap), (4, .int .i64 (j : Int)), (5, .int .i64 (i : Int))]) (fun ⟨i, j, out, A, cap⟩ W => (i ≤ p.length + 1 ∧ j ≤ i ∧ (i ≤ p.length → out ++ prF ((p.take i).drop j) (p.drop i) = prF [] p) ∧ (p.length < i → out = prF [] p) ∧ out.length ≤ i) ∧ (Chg [] w W) ∧ (Own sE 9 W (fun k => w.heap.size ≤ k) A cap out)) (fun ⟨i, j, out, A, cap⟩ => p.length + 2 - i) (0, 0, [], none, 0) ?_ ?_ ?_
 · exact ⟨rfl, rfl, rfl, trivial⟩
 ·refine ⟨?_, HC, Own.nil⟩
  exact ⟨Nat.zero_le _, Nat.le_refl _, fun _ => by simp, fun h => by omega, Nat.le_refl _⟩
 intro ⟨i, j, out, A, cap⟩ G2 w1 ⟨⟨hi, hj, hin, hen, hol⟩, HC, ho⟩
 change wp _ _ _ _ _ (upds (over _ _ G2) [(3, .slice A out.length cap), (4, .int .i64 (j : Int)), (5, .int .i64 (i : Int))]) _ _
 refine x_seq <| sr rfl <| mI rfl <| mS rfl <| Wp rfl <| st_slen (ct := #[9]) T.u9 rfl <| Wp rfl <| st_leq rfl rfl <| en <| x_cond rfl (fun h0 => ?_) (fun h0 => ?_)
 ·try simp only [nm, ne_eq] at h0
  refine x_skip <| then_n <| x_seq <| x_block <| x_seq <| sr rfl <| mI rfl <| mS rfl <| Wp rfl <| st_slen (ct := #[9]) T.u9 rfl <| Wp rfl <| st_lss rfl rfl <| mB rfl <| w_split (d := 16) rfl (fun g3 => ?_) (fun g3 => ?_)
  ·try simp only [nm, ne_eq] at g3
   refine w_yes 4 16 true <| st_move (v := S _) rfl <| w_yes 4 16 true <| st_move (v := .int _ _) rfl <| w_yes 4 16 true <| st_sidx T.u9 rfl rfl (by omega) (by omega) <| w_yes 4 16 true <| st_neq rfl rfl <| pT rfl rfl <| en <| x_cond rfl (fun h1 => ?_) (fun h1 => ?_)
   ·try simp only [nm, ne_eq] at h1
    refine x_exit <| then_x <| block_x <| then_n <| x_region rfl <| mI rfl <| Wp rfl <| st_addn rfl rfl (by constructor <;> omega) <| aI rfl <| en <| ⟨(i + 1, j, out, A, cap), ?_, ?_, rfl, ⟨rfl, rfl, rfl, trivial⟩, ?_⟩
    ·refine ⟨?_, HC, ho⟩
     exact ⟨by omega, by omega, fun h => by rw [← hin (by omega)]; rw [pr_on (p := p) (i := i) (j := j) (by omega) (by omega) (by omega)], fun h => by omega, by omega⟩
    ·show p.length + 2 - (i + 1) < p.length + 2 - i; omega
    repeat (first | exact agree_upds agree_over rfl | refine agree_upd ?_ rfl | refine agree_upds ?_ rfl | refine agree_over_sub ?_ rfl)
   ·try simp only [nm, ne_eq] at h1
    refine x_skip <| then_n <| x_seq <| sr rfl <| mI rfl <| mI rfl <| Wp rfl <| st_gtr rfl rfl <| en <| x_cond rfl (fun h2 => ?_) (fun h2 => ?_)
    ·try simp only [nm, ne_eq] at h2
     refine x_region rfl <| mL rfl <| mS rfl <| mI rfl <| mI rfl <| Wp rfl <| st_sslice (i := j) (j := i) T.u9 rfl ⟨_, rfl⟩ ⟨_, rfl⟩ (by omega) (by omega) <| Wp rfl <| st_lit (ps := [(0, .tmp 29)]) (vs := [S _]) T.lit25 (by decide) rfl (by simp only [List.forall_mem_cons, List.not_mem_nil, false_imp_iff, implies_true, and_true]; exact rfl) rfl ?_
     intro b4 w5 e6 c7 hb8
     have ge_b4 : w.heap.size ≤ b4 := by rw [e6]; exact HC.size
     have na_b4 : b4 ∉ ob A := ho.fresh (by rw [e6]; exact Nat.le_refl _)
     replace HC := HC.then c7
     replace ho := ho.tr0 c7
     clear e6
     have hszA := HC.size
     refine Wp rfl <| st_append2 (c := sE) (D2 := fun _ => False) (xs := out) (ys := [(p.take i).drop j]) T.slice25 rfl rfl ho rfl rfl (one_elem rfl (hb8.cells (n := 1) rfl)) (fun _ _ h => h.elim) (fun k hk => by have := HC.size; omega) (by simp only [List.length_append, List.length_cons, List.length_nil]; omega) (by simp only [List.length_append, List.length_cons, List.length_nil]; omega) ?_
     intro A9 cap10 w11 ho12 c13 hg14
     replace HC := HC.trans c13 (fun k hk => .inr (ho.inD k hk))
     replace hb8 := hb8.tr c13 (fun hx => by first | (have h1 := ho.inD _ hx; omega) | exact na_b4 hx | exact hav _ hx (by simp))
     refine aL rfl <| en <| x_region rfl <| mI rfl <| Wp rfl <| st_addn rfl rfl (by constructor <;> omega) <| aI rfl <| wops_nil <| block_n <| then_n <| x_region rfl <| mI rfl <| Wp rfl <| st_addn rfl rfl (by constructor <;> omega) <| aI rfl <| en <| ⟨(i + 1, i + 1, out ++ [(p.take i).drop j], A9, cap10), ?_, ?_, rfl, ⟨rfl, rfl, rfl, trivial⟩, ?_⟩
     ·refine ⟨?_, HC, ho12⟩
      exact ⟨by omega, Nat.le_refl _, fun h => by rw [← hin (by omega), pr_cut (p := p) (i := i) (j := j) (by omega) (by omega) (by omega), if_pos (by omega), List.append_assoc], fun h => (by obtain rfl : i = p.length := (by omega); rw [← hin (Nat.le_refl _), pr_end (p := p) (j := j) (by omega), if_pos (by omega)]), by simp only [List.length_append, List.length_cons, List.length_nil]; omega⟩
     ·show p.length + 2 - (i + 1) < p.length + 2 - i; omega
     repeat (first | exact agree_upds agree_over rfl | refine agree_upd ?_ rfl | refine agree_upds ?_ rfl | refine agree_over_sub ?_ rfl)
    ·try simp only [nm, ne_eq] at h2
     refine x_skip <| then_n <| x_region rfl <| mI rfl <| Wp rfl <| st_addn rfl rfl (by constructor <;> omega) <| aI rfl <| wops_nil <| block_n <| then_n <| x_region rfl <| mI rfl <| Wp rfl <| st_addn rfl rfl (by constructor <;> omega) <| aI rfl <| en <| ⟨(i + 1, i + 1, out, A, cap), ?_, ?_, rfl, ⟨rfl, rfl, rfl, trivial⟩, ?_⟩
     ·refine ⟨?_, HC, ho⟩
      exact ⟨by omega, Nat.le_refl _, fun h => by rw [← hin (by omega), pr_cut (p := p) (i := i) (j := j) (by omega) (by omega) (by omega), if_neg (by omega), List.nil_append], fun h => (by obtain rfl : i = p.length := (by omega); rw [← hin (Nat.le_refl _), pr_end (p := p) (j := j) (by omega), if_neg (by omega), List.append_nil]), by omega⟩
     ·show p.length + 2 - (i + 1) < p.length + 2 - i; omega
     repeat (first | exact agree_upds agree_over rfl | refine agree_upd ?_ rfl | refine agree_upds ?_ rfl | refine agree_over_sub ?_ rfl)
  ·try simp only [nm, ne_eq] at g3
   iterate 4 refine w_no 4 16 true ?_
   refine pF rfl rfl <| en <| x_cond (t := false) rfl (fun h1 => ?_) (fun h1 => ?_)
   · exact absurd h1 (by decide)
   refine x_skip <| then_n <| x_seq <| sr rfl <| mI rfl <| mI rfl <| Wp rfl <| st_gtr rfl rfl <| en <| x_cond rfl (fun h2 => ?_) (fun h2 => ?_)
   ·try simp only [nm, ne_eq] at h2
    refine x_region rfl <| mL rfl <| mS rfl <| mI rfl <| mI rfl <| Wp rfl <| st_sslice (i := j) (j := i) T.u9 rfl ⟨_, rfl⟩ ⟨_, rfl⟩ (by omega) (by omega) <| Wp rfl <| st_lit (ps := [(0, .tmp 29)]) (vs := [S _]) T.lit25 (by decide) rfl (by simp only [List.forall_mem_cons, List.not_mem_nil, false_imp_iff, implies_true, and_true]; exact rfl) rfl ?_
    intro b15 w16 e17 c18 hb19
    have ge_b15 : w.heap.size ≤ b15 := by rw [e17]; exact HC.size
    have na_b15 : b15 ∉ ob A := ho.fresh (by rw [e17]; exact Nat.le_refl _)
    replace HC := HC.then c18
    replace ho := ho.tr0 c18
    clear e17
    have hszA := HC.size
    refine Wp rfl <| st_append2 (c := sE) (D2 := fun _ => False) (xs := out) (ys := [(p.take i).drop j]) T.slice25 rfl rfl ho rfl rfl (one_elem rfl (hb19.cells (n := 1) rfl)) (fun _ _ h => h.elim) (fun k hk => by have := HC.size; omega) (by simp only [List.length_append, List.length_cons, List.length_nil]; omega) (by simp only [List.length_append, List.length_cons, List.length_nil]; omega) ?_
    intro A20 cap21 w22 ho23 c24 hg25
    replace HC := HC.trans c24 (fun k hk => .inr (ho.inD k hk))
    replace hb19 := hb19.tr c24 (fun hx => by first | (have h1 := ho.inD _ hx; omega) | exact na_b15 hx | exact hav _ hx (by simp))
    refine aL rfl <| en <| x_region rfl <| mI rfl <| Wp rfl <| st_addn rfl rfl (by constructor <;> omega) <| aI rfl <| wops_nil <| block_n <| then_n <| x_region rfl <| mI rfl <| Wp rfl <| st_addn rfl rfl (by constructor <;> omega) <| aI rfl <| en <| ⟨(i + 1, i + 1, out ++ [(p.take i).drop j], A20, cap21), ?_, ?_, rfl, ⟨rfl, rfl, rfl, trivial⟩, ?_⟩
    ·refine ⟨?_, HC, ho23⟩
     exact ⟨by omega, Nat.le_refl _, fun h => by rw [← hin (by omega), pr_cut (p := p) (i := i) (j := j) (by omega) (by omega) (by omega), if_pos (by omega), List.append_assoc], fun h => (by obtain rfl : i = p.length := (by omega); rw [← hin (Nat.le_refl _), pr_end (p := p) (j := j) (by omega), if_pos (by omega)]), by simp only [List.length_append, List.length_cons, List.length_nil]; omega⟩
    ·show p.length + 2 - (i + 1) < p.length + 2 - i; omega
    repeat (first | exact agree_upds agree_over rfl | refine agree_upd ?_ rfl | refine agree_upds ?_ rfl | refine agree_over_sub ?_ rfl)
   ·try simp only [nm, ne_eq] at h2
    refine x_skip <| then_n <| x_region rfl <| mI rfl <| Wp rfl <| st_addn rfl rfl (by constructor <;> omega) <| aI rfl <| wops_nil <| block_n <| then_n <| x_region rfl <| mI rfl <| Wp rfl <| st_addn rfl rfl (by constructor <;> omega) <| aI rfl <| en <| ⟨(i + 1, i + 1, out, A, cap), ?_, ?_, rfl, ⟨rfl, rfl, rfl, trivial⟩, ?_⟩
    ·refine ⟨?_, HC, ho⟩
     exact ⟨by omega, Nat.le_refl _, fun h => by rw [← hin (by omega), pr_cut (p := p) (i := i) (j := j) (by omega) (by omega) (by omega), if_neg (by omega), List.nil_append], fun h => (by obtain rfl : i = p.length := (by omega); rw [← hin (Nat.le_refl _), pr_end (p := p) (j := j) (by omega), if_neg (by omega), List.append_nil]), by omega⟩
    ·show p.length + 2 - (i + 1) < p.length + 2 - i; omega
    repeat (first | exact agree_upds agree_over rfl | refine agree_upd ?_ rfl | refine agree_upds ?_ rfl | refine agree_over_sub ?_ rfl)
 ·try simp only [nm, ne_eq] at h0
  refine x_exit <| then_x <| then_x <| block_x <| then_n <| sr rfl <| mL rfl <| aL rfl <| en <| x_ret <| ret_tmp (v := .slice _ _ _) rfl rfl <| ⟨⟨A, cap, ?_, ?_⟩, HC⟩
  · rw [parts_pr, ← hen (by omega)]
  · rw [parts_pr, ← hen (by omega)]; exact ho

end Go.Proofs.YtpelmhoocepenaaGreatDoor.K
set_option linter.unusedVariables false
set_option linter.unusedSimpArgs false
set_option autoImplicit false
set_option maxRecDepth 20000
namespace Go.Proofs.YtpelmhoocepenaaGreatDoor.K
open Go Go.Proofs Go.RowKit

theorem kid_hit {ks : List Ke} {n : Bytes} {i : Nat} {q : Ke} (h : RiseK ks) (hq : ks[i]? = some q) (he : q.1 = n) : kidK ks n = q.2 := by
  have hil := (List.getElem?_eq_some_iff.1 hq).1
  have hp : plK ks n = i := plK_at (by omega) (fun k p hk hp => by rw [← he]; exact riseK_lt h hk hp hq) (fun p hp => by rw [hq] at hp; obtain rfl := Option.some.inj hp; rw [he]; exact less_irrefl n)
  have hk : isK ks n = true := by unfold isK; rw [hp, hq]; simp [he]
  unfold kidK; rw [if_pos hk, hp, hq]; rfl
theorem kid_miss {ks : List Ke} {n : Bytes} (h : ∀ (i : Nat) q, ks[i]? = some q → q.1 ≠ n) : kidK ks n = -1 := by
  unfold kidK
  cases hk : isK ks n with
  | false => rfl
  | true =>
    exfalso
    unfold isK at hk; rw [decide_eq_true_eq] at hk
    cases h5 : ks[plK ks n]? with
    | none => rw [h5] at hk; cases hk
    | some p => rw [h5] at hk; exact h _ p h5 (by simpa using hk)
theorem may_tab {md m : Int} (h0 : 0 ≤ md) (h7 : md ≤ 7) (hm : m = 1 ∨ m = 2 ∨ m = 4) : andV .i64 md m = m ↔ (m / 4 = 0 ∨ md / 4 = 1) ∧ (m / 2 % 2 = 0 ∨ md / 2 % 2 = 1) ∧ (m % 2 = 0 ∨ md % 2 = 1) := by
  have hd : md = 0 ∨ md = 1 ∨ md = 2 ∨ md = 3 ∨ md = 4 ∨ md = 5 ∨ md = 6 ∨ md = 7 := by omega
  rcases hm with rfl | rfl | rfl <;> rcases hd with rfl | rfl | rfl | rfl | rfl | rfl | rfl | rfl <;> decide
theorem dir_kind {Z : Tre} {k : Int} {x : Ino} (h : inoV Z k = some x) : dirV Z k = decide (x.kind = 2) := by unfold dirV kindV; rw [h]; rfl
theorem there_kind {Z : Tre} {k : Int} {x : Ino} (h : inoV Z k = some x) : thereV Z k = !decide (x.kind = 0) := by unfold thereV kindV; rw [h]; rfl
theorem may_kind {Z : Tre} {k m : Int} {x : Ino} (h : inoV Z k = some x) (ht : ¬ x.kind = 0) : mayV Z k m = decide (andV .i64 x.mode m = m) := by unfold mayV modeV; rw [there_kind h, h, decide_eq_false ht]; rfl
theorem hasPre1 (c : UInt8) (p : Bytes) : decide (((byte (c :: p) 0).toNat : Int) = 47) = Lib.hasPrefix (c :: p) [47] := by
  rw [Bool.eq_iff_iff, decide_eq_true_eq]
  show ((c.toNat : Int) = 47) ↔ _
  unfold Lib.hasPrefix
  simp only [List.isPrefixOf, Bool.and_true, beq_iff_eq]
  constructor
  · intro h; exact (UInt8.toNat_inj.1 (show c.toNat = (47 : UInt8).toNat by show c.toNat = 47; omega)).symm
  · rintro rfl; rfl
theorem kid_dir {Z : Tre} {k : Int} {x : Ino} {n : Bytes} (h : inoV Z k = some x) (hd : x.kind = 2) : kidV Z k n = kidK x.kids n := by unfold kidV kidsV; rw [dir_kind h, decide_eq_true hd, h]; rfl

theorem RKid_spec {Z : Tre} {An : Option Addr} {capn : Nat} {mx my : Int} {D : Nat → Prop} {w : World} (hT : Sl inE w D An Z) (hTl : Z.length ≤ 1000000000) (hF : FitT Z) (k : Int) (n : Bytes) : CallR Tryz.prog 71 #[.agg ⟨[.slice An Z.length capn, .int .i64 mx, .int .i64 my]⟩, .int .i64 k, S n] w fun v w' => v = .int .i64 (kidV Z k n) ∧ Chg [] w w' := by
 replace hT := hT.mono (D' := fun k => k < w.heap.size) (fun k hk _ => hk)
 refine callR_of_wp (args := [_, _, _]) Tryz.func71 rfl (Nat.le_of_ble_eq_true rfl) ?_
 have HC : Chg [] w w := .refl _
 refine sr rfl <| Wp rfl <| st_box (v := .agg ⟨[.slice _ _ _, .int _ _, .int _ _]⟩) (vs := [_, _, _]) rfl rfl ?_
 intro b3 w1 e2 c3 hb4
 have ge_b3 : w.heap.size ≤ b3 := by rw [e2]; exact HC.size
 replace HC := HC.then c3
 replace hT := hT.tr0 c3
 clear e2
 refine aI rfl <| en <| x_seq <| sr rfl <| Wp rfl <| st_loadA (vs := [_, _, _]) T.agg24 rfl (hb4.cells (n := 3) (vs := [_, _, _]) rfl) rfl <| mI rfl <| Wp rfl <| st_call (ags := [_, _]) rfl rfl T.ent23 rfl (rthere_spec hT hTl _) ?_
 rintro _ w5 ⟨rfl, c6⟩
 replace HC := HC.then c6
 replace hT := hT.tr0 c6
 replace hb4 := hb4.tr0 c6
 refine Wp rfl <| st_not rfl <| mB rfl <| w_split (d := 13) rfl (fun g7 => ?_) (fun g7 => ?_)
 ·try simp only [nm, ne_eq] at g7
  iterate 7 refine w_no 4 13 false ?_
  refine pT rfl rfl <| en <| x_cond (t := true) rfl (fun h0 => ?_) (fun h0 => ?_)
  rotate_left
  · exact absurd h0 (by decide)
  refine sr rfl <| aI rfl <| en <| x_ret <| then_r <| ret_tmp (v := .int _ _) rfl rfl <| ⟨congrArg (Value.int .i64) ?_, HC⟩
  unfold kidV; rw [if_neg]
  have hin : inV Z k = false := by assumption
  intro hd; have := dir_in hd; unfold inV at hin; simp [this] at hin
 ·try simp only [nm, ne_eq] at g7
  obtain ⟨hk0, hk1⟩ := inV_in (by assumption : inV Z k = true)
  obtain ⟨x, hx, hio⟩ := ino_some (Z := Z) (k := k) (by omega) (by omega)
  refine w_yes 4 13 false <| st_fieldAddr T.fld24_0 rfl <| w_yes 4 13 false <| st_load1 (v := .slice _ _ _) T.one22 rfl (hb4.cell rfl) <| w_yes 4 13 false <| st_move (v := .int _ _) rfl ?_
  obtain ⟨lb12, _, vs11, hA8, hR10, hC9⟩ := hT.at (i := (k.toNat)) (x := x) (hx)
  obtain ⟨K13, cK13, rfl, hk1_13, hk2_13, hk3_13⟩ := hR10
  refine w_yes 4 13 false <| st_indexAddr T.u22 T.size44 (congrArg (fun z => Value.slice z _ _) hA8) rfl (by omega) (by omega) <| w_yes 4 13 false <| st_fieldAddr T.fld44_0 rfl <| w_yes 4 13 false <| st_load1 (v := .int _ _) T.one3 rfl (hC9.at (j := 0) rfl) <| w_yes 4 13 false <| st_neq rfl rfl <| pF rfl rfl <| en <| x_cond rfl (fun h0 => ?_) (fun h0 => ?_)
  ·try simp only [nm, ne_eq] at h0
   refine sr rfl <| aI rfl <| en <| x_ret <| then_r <| ret_tmp (v := .int _ _) rfl rfl <| ⟨congrArg (Value.int .i64) ?_, HC⟩
   unfold kidV; rw [if_neg]
   rw [dir_kind hio, decide_eq_true_eq]; first | assumption | omega
  ·try simp only [nm, ne_eq] at h0
   have hd2 : x.kind = 2 := by first | assumption | omega | simp_all
   obtain ⟨hkr, hkl, hki⟩ := hF.kids x (List.mem_of_getElem? hx)
   have hkv := kid_dir (n := n) hio hd2
   refine x_skip <| then_n <| sr rfl <| fa T.fld24_0 rfl <| lL T.one22 rfl (hb4.cell rfl) <| mI rfl ?_
   obtain ⟨lb18, _, vs17, hA14, hR16, hC15⟩ := hT.at (i := (k.toNat)) (x := x) (hx)
   obtain ⟨K19, cK19, rfl, hk1_19, hk2_19, hk3_19⟩ := hR16
   refine Wp rfl <| st_indexAddr T.u22 T.size44 (congrArg (fun z => Value.slice z _ _) hA14) rfl (by omega) (by omega) <| fa T.fld44_4 rfl <| lL T.one42 rfl (hC15.at (j := 4) rfl) <| aL rfl <| en <| x_seq <| sr rfl <| aI rfl <| en <| x_block <| x_loop (ι := Nat) [6, 8, 28, 29, 30, 31, 32, 33, 34, 35, 36, 37, 38, 39, 40, 41, 42, 43, 44, 45] (fun i => [(8, .int .i64 (i : Int))]) (fun i W => (i ≤ x.kids.length ∧ ∀ (j : Nat) q, j < i → x.kids[j]? = some q → q.1 ≠ n) ∧ (Chg [] w W) ∧ (Sl inE W (fun k => k < w.heap.size) An Z) ∧ (Blk W b3 [.slice An Z.length capn, .int .i64 mx, .int .i64 my] 24) ∧ (Sl keE W (fun k => k < w.heap.size) K13 x.kids) ∧ (Sl keE W (fun k => k < w.heap.size) K19 x.kids)) (fun i => x.kids.length - i) 0 ?_ ?_ ?_
   · exact ⟨rfl, trivial⟩
   ·refine ⟨?_, HC, hT, hb4, hk3_13, hk3_19⟩
    exact ⟨Nat.zero_le _, fun j q hj => absurd hj (Nat.not_lt_zero _)⟩
   intro i G21 w20 ⟨⟨hi, hno⟩, HC, hT, hb4, hk3_13, hk3_19⟩
   change wp _ _ _ _ _ (upds (over _ _ G21) [(8, .int .i64 (i : Int))]) _ _
   refine x_seq <| sr rfl <| mI rfl <| mL rfl <| Wp rfl <| st_len (ct := #[42]) (by rw [show ((#[42] : Array TypeId)[0]?).bind Tryz.prog.underlying = some (.slice 56) from T.u42]; rfl) rfl <| Wp rfl <| st_lss rfl rfl <| en <| x_cond rfl (fun h1 => ?_) (fun h1 => ?_)
   ·try simp only [nm, ne_eq] at h1
    refine x_skip <| then_n <| x_seq <| x_block <| x_seq ?_
    obtain ⟨q, hq⟩ : ∃ q, x.kids[i]? = some q := ⟨_, List.getElem?_eq_getElem (by omega)⟩
    refine x_region rfl <| mL rfl <| mI rfl ?_
    obtain ⟨lb26, _, vs25, hA22, hR24, hC23⟩ := hk3_19.at (i := i) (x := q) (hq)
    obtain rfl : vs25 = [S q.1, .int .i64 q.2] := hR24
    refine Wp rfl <| st_indexAddr T.u42 T.size56 (congrArg (fun z => Value.slice z _ _) hA22) rfl (by omega) (by omega) <| fa T.fld56_0 rfl <| lS T.one9 rfl (hC23.at (j := 0) rfl) <| mS rfl <| Wp rfl <| st_seql rfl rfl <| en <| x_cond rfl (fun h2 => ?_) (fun h2 => ?_)
    ·try simp only [nm, ne_eq] at h2
     refine sr rfl <| mL rfl <| mI rfl ?_
     obtain ⟨lb31, _, vs30, hA27, hR29, hC28⟩ := hk3_19.at (i := i) (x := q) (hq)
     obtain rfl : vs30 = [S q.1, .int .i64 q.2] := hR29
     refine Wp rfl <| st_indexAddr T.u42 T.size56 (congrArg (fun z => Value.slice z _ _) hA27) rfl (by omega) (by omega) <| fa T.fld56_1 rfl <| lI T.one3 rfl (hC28.at (j := 1) rfl) <| aI rfl <| en <| x_ret <| block_r <| then_r <| then_r <| block_r <| then_r <| ret_tmp (v := .int _ _) rfl rfl <| ⟨congrArg (Value.int .i64) ?_, HC⟩
     rw [hkv]; exact (kid_hit hkr hq (by assumption)).symm
    ·try simp only [nm, ne_eq] at h2
     refine x_skip <| block_n <| then_n <| x_region rfl <| mI rfl <| Wp rfl <| st_addn rfl rfl (by constructor <;> omega) <| aI rfl <| en <| ⟨i + 1, ?_, ?_, rfl, ⟨rfl, trivial⟩, ?_⟩
     ·refine ⟨?_, HC, hT, hb4, hk3_13, hk3_19⟩
      exact ⟨by omega, fun j y hj hy => by by_cases e : j = i; (subst e; rw [hq] at hy; obtain rfl := Option.some.inj hy; first | assumption | exact h2); exact hno j y (by omega) hy⟩
     ·show x.kids.length - (i + 1) < x.kids.length - i; omega
     repeat (first | exact agree_upds agree_over rfl | refine agree_upd ?_ rfl | refine agree_upds ?_ rfl | refine agree_over_sub ?_ rfl)
   ·try simp only [nm, ne_eq] at h1
    refine x_exit <| then_x <| then_x <| block_x <| then_n <| sr rfl <| aI rfl <| en <| x_ret <| ret_tmp (v := .int _ _) rfl rfl <| ⟨congrArg (Value.int .i64) ?_, HC⟩
    rw [hkv]; exact (kid_miss fun j q hq => hno j q (by have := (List.getElem?_eq_some_iff.1 hq).1; omega) hq).symm

theorem r4there_spec {Z : Tre} {An : Option Addr} {capn : Nat} {mx my : Int} {D : Nat → Prop} {w : World} (hT : Sl inE w D An Z) (hTl : Z.length ≤ 1000000000) (k : Int) : CallR Tryz.prog 51 #[.agg ⟨[.slice An Z.length capn, .int .i64 mx, .int .i64 my]⟩, .int .i64 k] w fun v w' => v = .bool (thereV Z k) ∧ Chg [] w w' := by
 replace hT := hT.mono (D' := fun k => k < w.heap.size) (fun k hk _ => hk)
 refine callR_of_wp (args := [_, _]) Tryz.func51 rfl (Nat.le_of_ble_eq_true rfl) ?_
 have HC : Chg [] w w := .refl _
 refine sr rfl <| Wp rfl <| st_box (v := .agg ⟨[.slice _ _ _, .int _ _, .int _ _]⟩) (vs := [_, _, _]) rfl rfl ?_
 intro b2 w1 e2 c3 hb4
 have ge_b2 : w.heap.size ≤ b2 := by rw [e2]; exact HC.size
 replace HC := HC.then c3
 replace hT := hT.tr0 c3
 clear e2
 refine aB rfl <| en <| sr rfl <| mI rfl <| Wp rfl <| st_geq rfl rfl <| mB rfl <| w_split (d := 7) rfl (fun g5 => ?_) (fun g5 => ?_)
 ·try simp only [nm, ne_eq] at g5
  refine w_yes 2 7 true <| st_move (v := .int _ _) rfl <| w_yes 2 7 true <| st_fieldAddr T.fld24_0 rfl <| w_yes 2 7 true <| st_load1 (v := .slice _ _ _) T.one22 rfl (hb4.cell rfl) <| w_yes 2 7 true <| st_len (ct := #[22]) (by rw [show ((#[22] : Array TypeId)[0]?).bind Tryz.prog.underlying = some (.slice 44) from T.u22]; rfl) rfl <| w_yes 2 7 true <| st_lss rfl rfl <| pT rfl rfl <| mB rfl <| w_split (d := 14) rfl (fun g6 => ?_) (fun g6 => ?_)
  ·try simp only [nm, ne_eq] at g6
   obtain ⟨x, hx, hio⟩ := ino_some (Z := Z) (k := k) (by omega) (by omega)
   refine w_yes 9 14 true <| st_fieldAddr T.fld24_0 rfl <| w_yes 9 14 true <| st_load1 (v := .slice _ _ _) T.one22 rfl (hb4.cell rfl) <| w_yes 9 14 true <| st_move (v := .int _ _) rfl ?_
   obtain ⟨lb11, _, vs10, hA7, hR9, hC8⟩ := hT.at (i := (k.toNat)) (x := x) (hx)
   obtain ⟨K12, cK12, rfl, hk1_12, hk2_12, hk3_12⟩ := hR9
   refine w_yes 9 14 true <| st_indexAddr T.u22 T.size44 (congrArg (fun z => Value.slice z _ _) hA7) rfl (by omega) (by omega) <| w_yes 9 14 true <| st_fieldAddr T.fld44_0 rfl <| w_yes 9 14 true <| st_load1 (v := .int _ _) T.one3 rfl (hC8.at (j := 0) rfl) <| w_yes 9 14 true <| st_neq rfl rfl <| pT rfl rfl <| aB rfl <| en <| x_ret <| ret_tmp (v := .bool _) rfl rfl <| ⟨?_, HC⟩
   unfold thereV kindV; rw [hio]; first | rfl | (simp; done)
  ·try simp only [nm, ne_eq] at g6
   have hio := ino_none (Z := Z) (k := k) (by omega)
   iterate 7 refine w_no 9 14 true ?_
   refine pF rfl rfl <| aB rfl <| en <| x_ret <| ret_tmp (v := .bool _) rfl rfl <| ⟨?_, HC⟩
   unfold thereV kindV; rw [hio]; first | rfl | (simp; done)
 ·try simp only [nm, ne_eq] at g5
  have hio := ino_none (Z := Z) (k := k) (by omega)
  iterate 5 refine w_no 2 7 true ?_
  refine pF rfl rfl <| mB rfl ?_
  iterate 7 refine w_no 9 14 true ?_
  refine pF rfl rfl <| aB rfl <| en <| x_ret <| ret_tmp (v := .bool _) rfl rfl <| ⟨?_, HC⟩
  unfold thereV kindV; rw [hio]; first | rfl | (simp; done)

theorem r4dir_spec {Z : Tre} {An : Option Addr} {capn : Nat} {mx my : Int} {D : Nat → Prop} {w : World} (hT : Sl inE w D An Z) (hTl : Z.length ≤ 1000000000) (k : Int) : CallR Tryz.prog 50 #[.agg ⟨[.slice An Z.length capn, .int .i64 mx, .int .i64 my]⟩, .int .i64 k] w fun v w' => v = .bool (dirV Z k) ∧ Chg [] w w' := by
 replace hT := hT.mono (D' := fun k => k < w.heap.size) (fun k hk _ => hk)
 refine callR_of_wp (args := [_, _]) Tryz.func50 rfl (Nat.le_of_ble_eq_true rfl) ?_
 have HC : Chg [] w w := .refl _
 refine sr rfl <| Wp rfl <| st_box (v := .agg ⟨[.slice _ _ _, .int _ _, .int _ _]⟩) (vs := [_, _, _]) rfl rfl ?_
 intro b2 w1 e2 c3 hb4
 have ge_b2 : w.heap.size ≤ b2 := by rw [e2]; exact HC.size
 replace HC := HC.then c3
 replace hT := hT.tr0 c3
 clear e2
 refine aB rfl <| en <| sr rfl <| Wp rfl <| st_loadA (vs := [_, _, _]) T.agg24 rfl (hb4.cells (n := 3) (vs := [_, _, _]) rfl) rfl <| mI rfl <| Wp rfl <| st_call (ags := [_, _]) rfl rfl T.ent51 rfl (r4there_spec hT hTl _) ?_
 rintro _ w5 ⟨rfl, c6⟩
 replace HC := HC.then c6
 replace hT := hT.tr0 c6
 replace hb4 := hb4.tr0 c6
 refine mB rfl <| w_split (d := 8) rfl (fun g7 => ?_) (fun g7 => ?_)
 ·try simp only [nm, ne_eq] at g7
  obtain ⟨hk0, hk1⟩ := there_in (by assumption)
  obtain ⟨x, hx, hio⟩ := ino_some (Z := Z) (k := k) (by omega) (by omega)
  refine w_yes 3 8 true <| st_fieldAddr T.fld24_0 rfl <| w_yes 3 8 true <| st_load1 (v := .slice _ _ _) T.one22 rfl (hb4.cell rfl) <| w_yes 3 8 true <| st_move (v := .int _ _) rfl ?_
  obtain ⟨lb12, _, vs11, hA8, hR10, hC9⟩ := hT.at (i := (k.toNat)) (x := x) (hx)
  obtain ⟨K13, cK13, rfl, hk1_13, hk2_13, hk3_13⟩ := hR10
  refine w_yes 3 8 true <| st_indexAddr T.u22 T.size44 (congrArg (fun z => Value.slice z _ _) hA8) rfl (by omega) (by omega) <| w_yes 3 8 true <| st_fieldAddr T.fld44_0 rfl <| w_yes 3 8 true <| st_load1 (v := .int _ _) T.one3 rfl (hC9.at (j := 0) rfl) <| w_yes 3 8 true <| st_eql rfl rfl <| pT rfl rfl <| aB rfl <| en <| x_ret <| ret_tmp (v := .bool _) rfl rfl <| ⟨?_, HC⟩
  unfold dirV kindV; rw [hio]; first | rfl | (simp; done)
 ·try simp only [nm, ne_eq] at g7
  iterate 7 refine w_no 3 8 true ?_
  refine pF rfl rfl <| aB rfl <| en <| x_ret <| ret_tmp (v := .bool _) rfl rfl ?_
  have h9 : kindV Z k = 0 := by have h8 : thereV Z k = false := (by assumption); unfold thereV at h8; simpa using h8
  refine ⟨?_, HC⟩
  unfold dirV; rw [h9]; rfl

theorem RMay_spec {Z : Tre} {An : Option Addr} {capn : Nat} {mx my : Int} {D : Nat → Prop} {w : World} (hT : Sl inE w D An Z) (hTl : Z.length ≤ 1000000000) (hF : FitT Z) (k m : Int) (hm : m = 1 ∨ m = 2 ∨ m = 4) : CallR Tryz.prog 34 #[.agg ⟨[.slice An Z.length capn, .int .i64 mx, .int .i64 my]⟩, .int .i64 k, .int .i64 m] w fun v w' => v = .bool (mayV Z k m) ∧ Chg [] w w' := by
 replace hT := hT.mono (D' := fun k => k < w.heap.size) (fun k hk _ => hk)
 refine callR_of_wp (args := [_, _, _]) Tryz.func34 rfl (Nat.le_of_ble_eq_true rfl) ?_
 have HC : Chg [] w w := .refl _
 refine sr rfl <| Wp rfl <| st_box (v := .agg ⟨[.slice _ _ _, .int _ _, .int _ _]⟩) (vs := [_, _, _]) rfl rfl ?_
 intro b3 w1 e2 c3 hb4
 have ge_b3 : w.heap.size ≤ b3 := by rw [e2]; exact HC.size
 replace HC := HC.then c3
 replace hT := hT.tr0 c3
 clear e2
 refine aB rfl <| en <| x_seq <| sr rfl <| mI rfl <| Wp rfl <| st_lss rfl rfl <| mB rfl <| w_split (d := 10) rfl (fun g5 => ?_) (fun g5 => ?_)
 ·try simp only [nm, ne_eq] at g5
  exfalso; omega
 ·try simp only [nm, ne_eq] at g5
  refine w_yes 2 10 false <| st_move (v := .int _ _) rfl <| w_yes 2 10 false <| st_gtr rfl rfl <| pF rfl rfl <| mB rfl <| w_split (d := 14) rfl (fun g6 => ?_) (fun g6 => ?_)
  ·try simp only [nm, ne_eq] at g6
   exfalso; omega
  ·try simp only [nm, ne_eq] at g6
   refine w_yes 6 14 false <| st_loadA (vs := [_, _, _]) T.agg24 rfl (hb4.cells (n := 3) (vs := [_, _, _]) rfl) rfl <| w_yes 6 14 false <| st_move (v := .int _ _) rfl <| w_yes 6 14 false <| st_call (ags := [_, _]) rfl rfl T.ent51 rfl (r4there_spec hT hTl _) ?_
   rintro _ w7 ⟨rfl, c8⟩
   replace HC := HC.then c8
   replace hT := hT.tr0 c8
   replace hb4 := hb4.tr0 c8
   refine w_yes 6 14 false <| st_not rfl <| pF rfl rfl <| en <| x_cond rfl (fun h0 => ?_) (fun h0 => ?_)
   ·try simp only [nm, ne_eq] at h0
    refine sr rfl <| aB rfl <| en <| x_ret <| then_r <| ret_tmp (v := .bool _) rfl rfl ?_
    have hth : thereV Z k = false := by first | assumption | simp_all
    refine ⟨?_, HC⟩
    unfold mayV; rw [hth]; rfl
   ·try simp only [nm, ne_eq] at h0
    have hth : thereV Z k = true := by first | assumption | simp_all
    obtain ⟨hk0, hk1⟩ := there_in hth
    obtain ⟨x, hx, hio⟩ := ino_some (Z := Z) (k := k) (by omega) (by omega)
    obtain ⟨hd0, hd7⟩ := hF.mode x (List.mem_of_getElem? hx)
    have hkn : ¬ x.kind = 0 := by rw [there_kind hio] at hth; simpa using hth
    have hmt := may_tab hd0 hd7 hm
    refine x_skip <| then_n <| sr rfl <| fa T.fld24_0 rfl <| lL T.one22 rfl (hb4.cell rfl) <| mI rfl ?_
    obtain ⟨lb13, _, vs12, hA9, hR11, hC10⟩ := hT.at (i := (k.toNat)) (x := x) (hx)
    obtain ⟨K14, cK14, rfl, hk1_14, hk2_14, hk3_14⟩ := hR11
    refine Wp rfl <| st_indexAddr T.u22 T.size44 (congrArg (fun z => Value.slice z _ _) hA9) rfl (by omega) (by omega) <| fa T.fld44_1 rfl <| lI T.one3 rfl (hC10.at (j := 1) rfl) <| aI rfl <| en <| sr rfl <| mI rfl <| Wp rfl <| st_quok rfl rfl (by decide) (by exact quoi64 (by first | omega | assumption) (by first | omega | assumption) (by first | omega | assumption)) <| Wp rfl <| st_eql rfl rfl <| mB rfl <| w_split (d := 29) rfl (fun g15 => ?_) (fun g15 => ?_)
    ·try simp only [nm, ne_eq] at g15
     iterate 3 refine w_no 3 29 false ?_
     refine pT rfl rfl <| mB rfl <| w_yes 8 34 true <| st_move (v := .int _ _) rfl <| w_yes 8 34 true <| st_quok rfl rfl (by decide) (by exact quoi64 (by first | omega | assumption) (by first | omega | assumption) (by first | omega | assumption)) <| w_yes 8 34 true <| st_remk rfl rfl (by decide) (by exact Int.tmod_eq_emod_of_nonneg (by first | omega | assumption)) <| w_yes 8 34 true <| st_eql rfl rfl <| w_yes 8 34 true <| st_move (v := .bool _) rfl <| w_split (d := 39) rfl (fun g16 => ?_) (fun g16 => ?_)
     ·try simp only [nm, ne_eq] at g16
      iterate 4 refine w_no 13 39 false ?_
      refine w_yes 8 34 true <| st_pick (b := true) (v := .bool _) rfl rfl <| pT rfl rfl <| mB rfl <| w_yes 20 46 true <| st_move (v := .int _ _) rfl <| w_yes 20 46 true <| st_remk rfl rfl (by decide) (by exact Int.tmod_eq_emod_of_nonneg (by first | omega | assumption)) <| w_yes 20 46 true <| st_eql rfl rfl <| w_yes 20 46 true <| st_move (v := .bool _) rfl <| w_split (d := 50) rfl (fun g17 => ?_) (fun g17 => ?_)
      ·try simp only [nm, ne_eq] at g17
       iterate 3 refine w_no 24 50 false ?_
       refine w_yes 20 46 true <| st_pick (b := true) (v := .bool _) rfl rfl <| pT rfl rfl <| aB rfl <| en <| x_ret <| ret_tmp (v := .bool _) rfl rfl <| ⟨congrArg Value.bool ?_, HC⟩
       rw [may_kind hio hkn, Bool.eq_iff_iff]
       simp only [decide_eq_true_eq, hmt, Bool.false_eq_true, false_iff, true_iff]
       omega
      ·try simp only [nm, ne_eq] at g17
       refine w_yes 24 50 false <| st_move (v := .int _ _) rfl <| w_yes 24 50 false <| st_remk rfl rfl (by decide) (by exact Int.tmod_eq_emod_of_nonneg (by first | omega | assumption)) <| w_yes 24 50 false <| st_eql rfl rfl <| w_yes 20 46 true <| st_pick (b := false) (v := .bool _) rfl rfl <| pT rfl rfl <| aB rfl <| en <| x_ret <| ret_tmp (v := .bool _) rfl rfl <| ⟨congrArg Value.bool ?_, HC⟩
       rw [may_kind hio hkn, Bool.eq_iff_iff]
       simp only [decide_eq_true_eq, hmt, Bool.false_eq_true, false_iff, true_iff]
       omega
     ·try simp only [nm, ne_eq] at g16
      refine w_yes 13 39 false <| st_move (v := .int _ _) rfl <| w_yes 13 39 false <| st_quok rfl rfl (by decide) (by exact quoi64 (by first | omega | assumption) (by first | omega | assumption) (by first | omega | assumption)) <| w_yes 13 39 false <| st_remk rfl rfl (by decide) (by exact Int.tmod_eq_emod_of_nonneg (by first | omega | assumption)) <| w_yes 13 39 false <| st_eql rfl rfl <| w_yes 8 34 true <| st_pick (b := false) (v := .bool _) rfl rfl <| pT rfl rfl <| mB rfl <| w_split (d := 46) rfl (fun g18 => ?_) (fun g18 => ?_)
      ·try simp only [nm, ne_eq] at g18
       refine w_yes 20 46 true <| st_move (v := .int _ _) rfl <| w_yes 20 46 true <| st_remk rfl rfl (by decide) (by exact Int.tmod_eq_emod_of_nonneg (by first | omega | assumption)) <| w_yes 20 46 true <| st_eql rfl rfl <| w_yes 20 46 true <| st_move (v := .bool _) rfl <| w_split (d := 50) rfl (fun g19 => ?_) (fun g19 => ?_)
       ·try simp only [nm, ne_eq] at g19
        iterate 3 refine w_no 24 50 false ?_
        refine w_yes 20 46 true <| st_pick (b := true) (v := .bool _) rfl rfl <| pT rfl rfl <| aB rfl <| en <| x_ret <| ret_tmp (v := .bool _) rfl rfl <| ⟨congrArg Value.bool ?_, HC⟩
        rw [may_kind hio hkn, Bool.eq_iff_iff]
        simp only [decide_eq_true_eq, hmt, Bool.false_eq_true, false_iff, true_iff]
        omega
       ·try simp only [nm, ne_eq] at g19
        refine w_yes 24 50 false <| st_move (v := .int _ _) rfl <| w_yes 24 50 false <| st_remk rfl rfl (by decide) (by exact Int.tmod_eq_emod_of_nonneg (by first | omega | assumption)) <| w_yes 24 50 false <| st_eql rfl rfl <| w_yes 20 46 true <| st_pick (b := false) (v := .bool _) rfl rfl <| pT rfl rfl <| aB rfl <| en <| x_ret <| ret_tmp (v := .bool _) rfl rfl <| ⟨congrArg Value.bool ?_, HC⟩
        rw [may_kind hio hkn, Bool.eq_iff_iff]
        simp only [decide_eq_true_eq, hmt, Bool.false_eq_true, false_iff, true_iff]
        omega
      ·try simp only [nm, ne_eq] at g18
       iterate 4 refine w_no 20 46 true ?_
       iterate 3 refine w_no 24 50 false ?_
       refine w_no 20 46 true <| pF rfl rfl <| aB rfl <| en <| x_ret <| ret_tmp (v := .bool _) rfl rfl <| ⟨congrArg Value.bool ?_, HC⟩
       rw [may_kind hio hkn, Bool.eq_iff_iff]
       simp only [decide_eq_true_eq, hmt, Bool.false_eq_true, false_iff, true_iff]
       omega
    ·try simp only [nm, ne_eq] at g15
     refine w_yes 3 29 false <| st_move (v := .int _ _) rfl <| w_yes 3 29 false <| st_quok rfl rfl (by decide) (by exact quoi64 (by first | omega | assumption) (by first | omega | assumption) (by first | omega | assumption)) <| w_yes 3 29 false <| st_eql rfl rfl <| pF rfl rfl <| mB rfl <| w_split (d := 34) rfl (fun g20 => ?_) (fun g20 => ?_)
     ·try simp only [nm, ne_eq] at g20
      refine w_yes 8 34 true <| st_move (v := .int _ _) rfl <| w_yes 8 34 true <| st_quok rfl rfl (by decide) (by exact quoi64 (by first | omega | assumption) (by first | omega | assumption) (by first | omega | assumption)) <| w_yes 8 34 true <| st_remk rfl rfl (by decide) (by exact Int.tmod_eq_emod_of_nonneg (by first | omega | assumption)) <| w_yes 8 34 true <| st_eql rfl rfl <| w_yes 8 34 true <| st_move (v := .bool _) rfl <| w_split (d := 39) rfl (fun g21 => ?_) (fun g21 => ?_)
      ·try simp only [nm, ne_eq] at g21
       iterate 4 refine w_no 13 39 false ?_
       refine w_yes 8 34 true <| st_pick (b := true) (v := .bool _) rfl rfl <| pT rfl rfl <| mB rfl <| w_yes 20 46 true <| st_move (v := .int _ _) rfl <| w_yes 20 46 true <| st_remk rfl rfl (by decide) (by exact Int.tmod_eq_emod_of_nonneg (by first | omega | assumption)) <| w_yes 20 46 true <| st_eql rfl rfl <| w_yes 20 46 true <| st_move (v := .bool _) rfl <| w_split (d := 50) rfl (fun g22 => ?_) (fun g22 => ?_)
       ·try simp only [nm, ne_eq] at g22
        iterate 3 refine w_no 24 50 false ?_
        refine w_yes 20 46 true <| st_pick (b := true) (v := .bool _) rfl rfl <| pT rfl rfl <| aB rfl <| en <| x_ret <| ret_tmp (v := .bool _) rfl rfl <| ⟨congrArg Value.bool ?_, HC⟩
        rw [may_kind hio hkn, Bool.eq_iff_iff]
        simp only [decide_eq_true_eq, hmt, Bool.false_eq_true, false_iff, true_iff]
        omega
       ·try simp only [nm, ne_eq] at g22
        refine w_yes 24 50 false <| st_move (v := .int _ _) rfl <| w_yes 24 50 false <| st_remk rfl rfl (by decide) (by exact Int.tmod_eq_emod_of_nonneg (by first | omega | assumption)) <| w_yes 24 50 false <| st_eql rfl rfl <| w_yes 20 46 true <| st_pick (b := false) (v := .bool _) rfl rfl <| pT rfl rfl <| aB rfl <| en <| x_ret <| ret_tmp (v := .bool _) rfl rfl <| ⟨congrArg Value.bool ?_, HC⟩
        rw [may_kind hio hkn, Bool.eq_iff_iff]
        simp only [decide_eq_true_eq, hmt, Bool.false_eq_true, false_iff, true_iff]
        omega
      ·try simp only [nm, ne_eq] at g21
       refine w_yes 13 39 false <| st_move (v := .int _ _) rfl <| w_yes 13 39 false <| st_quok rfl rfl (by decide) (by exact quoi64 (by first | omega | assumption) (by first | omega | assumption) (by first | omega | assumption)) <| w_yes 13 39 false <| st_remk rfl rfl (by decide) (by exact Int.tmod_eq_emod_of_nonneg (by first | omega | assumption)) <| w_yes 13 39 false <| st_eql rfl rfl <| w_yes 8 34 true <| st_pick (b := false) (v := .bool _) rfl rfl <| pT rfl rfl <| mB rfl <| w_split (d := 46) rfl (fun g23 => ?_) (fun g23 => ?_)
       ·try simp only [nm, ne_eq] at g23
        refine w_yes 20 46 true <| st_move (v := .int _ _) rfl <| w_yes 20 46 true <| st_remk rfl rfl (by decide) (by exact Int.tmod_eq_emod_of_nonneg (by first | omega | assumption)) <| w_yes 20 46 true <| st_eql rfl rfl <| w_yes 20 46 true <| st_move (v := .bool _) rfl <| w_split (d := 50) rfl (fun g24 => ?_) (fun g24 => ?_)
        ·try simp only [nm, ne_eq] at g24
         iterate 3 refine w_no 24 50 false ?_
         refine w_yes 20 46 true <| st_pick (b := true) (v := .bool _) rfl rfl <| pT rfl rfl <| aB rfl <| en <| x_ret <| ret_tmp (v := .bool _) rfl rfl <| ⟨congrArg Value.bool ?_, HC⟩
         rw [may_kind hio hkn, Bool.eq_iff_iff]
         simp only [decide_eq_true_eq, hmt, Bool.false_eq_true, false_iff, true_iff]
         omega
        ·try simp only [nm, ne_eq] at g24
         refine w_yes 24 50 false <| st_move (v := .int _ _) rfl <| w_yes 24 50 false <| st_remk rfl rfl (by decide) (by exact Int.tmod_eq_emod_of_nonneg (by first | omega | assumption)) <| w_yes 24 50 false <| st_eql rfl rfl <| w_yes 20 46 true <| st_pick (b := false) (v := .bool _) rfl rfl <| pT rfl rfl <| aB rfl <| en <| x_ret <| ret_tmp (v := .bool _) rfl rfl <| ⟨congrArg Value.bool ?_, HC⟩
         rw [may_kind hio hkn, Bool.eq_iff_iff]
         simp only [decide_eq_true_eq, hmt, Bool.false_eq_true, false_iff, true_iff]
         omega
       ·try simp only [nm, ne_eq] at g23
        iterate 4 refine w_no 20 46 true ?_
        iterate 3 refine w_no 24 50 false ?_
        refine w_no 20 46 true <| pF rfl rfl <| aB rfl <| en <| x_ret <| ret_tmp (v := .bool _) rfl rfl <| ⟨congrArg Value.bool ?_, HC⟩
        rw [may_kind hio hkn, Bool.eq_iff_iff]
        simp only [decide_eq_true_eq, hmt, Bool.false_eq_true, false_iff, true_iff]
        omega
     ·try simp only [nm, ne_eq] at g20
      iterate 5 refine w_no 8 34 true ?_
      iterate 4 refine w_no 13 39 false ?_
      refine w_no 8 34 true <| pF rfl rfl <| mB rfl ?_
      iterate 4 refine w_no 20 46 true ?_
      iterate 3 refine w_no 24 50 false ?_
      refine w_no 20 46 true <| pF rfl rfl <| aB rfl <| en <| x_ret <| ret_tmp (v := .bool _) rfl rfl <| ⟨congrArg Value.bool ?_, HC⟩
      rw [may_kind hio hkn, Bool.eq_iff_iff]
      simp only [decide_eq_true_eq, hmt, Bool.false_eq_true, false_iff, true_iff]
      omega

theorem Rstep_spec {Z : Tre} {An : Option Addr} {capn : Nat} {mx my : Int} {D : Nat → Prop} {w : World} (hT : Sl inE w D An Z) (hTl : Z.length ≤ 1000000000) (hF : FitT Z) (k : Int) (n : Bytes) : CallR Tryz.prog 62 #[.agg ⟨[.slice An Z.length capn, .int .i64 mx, .int .i64 my]⟩, .int .i64 k, S n] w fun v w' => v = .tuple ⟨[.int .i64 (stepV Z k n).1, .int .i64 (stepV Z k n).2]⟩ ∧ Chg [] w w' := by
 replace hT := hT.mono (D' := fun k => k < w.heap.size) (fun k hk _ => hk)
 refine callR_of_wp (args := [_, _, _]) Tryz.func62 rfl (Nat.le_of_ble_eq_true rfl) ?_
 have HC : Chg [] w w := .refl _
 refine sr rfl <| Wp rfl <| st_box (v := .agg ⟨[.slice _ _ _, .int _ _, .int _ _]⟩) (vs := [_, _, _]) rfl rfl ?_
 intro b3 w1 e2 c3 hb4
 have ge_b3 : w.heap.size ≤ b3 := by rw [e2]; exact HC.size
 replace HC := HC.then c3
 replace hT := hT.tr0 c3
 clear e2
 refine aI rfl <| aI rfl <| en <| x_seq <| sr rfl <| Wp rfl <| st_loadA (vs := [_, _, _]) T.agg24 rfl (hb4.cells (n := 3) (vs := [_, _, _]) rfl) rfl <| mI rfl <| Wp rfl <| st_call (ags := [_, _]) rfl rfl T.ent50 rfl (r4dir_spec hT hTl _) ?_
 rintro _ w5 ⟨rfl, c6⟩
 replace HC := HC.then c6
 replace hT := hT.tr0 c6
 replace hb4 := hb4.tr0 c6
 refine Wp rfl <| st_not rfl <| en <| x_cond rfl (fun h0 => ?_) (fun h0 => ?_)
 ·try simp only [nm, ne_eq] at h0
  refine sr rfl <| aI rfl <| aI rfl <| en <| x_ret <| then_r <| ret_tmp2 (v := .int _ _) (v2 := .int _ _) rfl rfl rfl <| ⟨?_, HC⟩
  unfold stepV; rw [if_pos (by simpa using h0)]
 ·try simp only [nm, ne_eq] at h0
  have hd : dirV Z k = true := by simpa using h0
  obtain ⟨hk0, hk1⟩ := dir_in hd
  obtain ⟨x, hx, hio⟩ := ino_some (Z := Z) (k := k) (by omega) (by omega)
  refine x_skip <| then_n <| x_seq <| sr rfl <| Wp rfl <| st_loadA (vs := [_, _, _]) T.agg24 rfl (hb4.cells (n := 3) (vs := [_, _, _]) rfl) rfl <| mI rfl <| Wp rfl <| st_call (ags := [_, _, _]) rfl rfl T.ent34 rfl (RMay_spec hT hTl hF _ 1 (.inl rfl)) ?_
  rintro _ w7 ⟨rfl, c8⟩
  replace HC := HC.then c8
  replace hT := hT.tr0 c8
  replace hb4 := hb4.tr0 c8
  refine Wp rfl <| st_not rfl <| en <| x_cond rfl (fun h1 => ?_) (fun h1 => ?_)
  ·try simp only [nm, ne_eq] at h1
   refine sr rfl <| aI rfl <| aI rfl <| en <| x_ret <| then_r <| ret_tmp2 (v := .int _ _) (v2 := .int _ _) rfl rfl rfl <| ⟨?_, HC⟩
   unfold stepV; rw [if_neg (by simpa using h0), if_pos (by simpa using h1)]
  ·try simp only [nm, ne_eq] at h1
   refine x_skip <| then_n <| x_seq <| sr rfl <| mS rfl <| Wp rfl <| st_seql rfl rfl <| en <| x_cond rfl (fun h2 => ?_) (fun h2 => ?_)
   ·try simp only [nm, ne_eq] at h2
    refine sr rfl <| mI rfl <| aI rfl <| aI rfl <| en <| x_ret <| then_r <| ret_tmp2 (v := .int _ _) (v2 := .int _ _) rfl rfl rfl <| ⟨?_, HC⟩
    unfold stepV; rw [if_neg (by simpa using h0), if_neg (by simpa using h1), if_pos h2]
   ·try simp only [nm, ne_eq] at h2
    refine x_skip <| then_n <| x_seq <| sr rfl <| mS rfl <| Wp rfl <| st_seql rfl rfl <| en <| x_cond rfl (fun h3 => ?_) (fun h3 => ?_)
    ·try simp only [nm, ne_eq] at h3
     refine sr rfl <| fa T.fld24_0 rfl <| lL T.one22 rfl (hb4.cell rfl) <| mI rfl ?_
     obtain ⟨lb13, _, vs12, hA9, hR11, hC10⟩ := hT.at (i := (k.toNat)) (x := x) (hx)
     obtain ⟨K14, cK14, rfl, hk1_14, hk2_14, hk3_14⟩ := hR11
     refine Wp rfl <| st_indexAddr T.u22 T.size44 (congrArg (fun z => Value.slice z _ _) hA9) rfl (by omega) (by omega) <| fa T.fld44_5 rfl <| lI T.one3 rfl (hC10.at (j := 5) rfl) <| aI rfl <| aI rfl <| en <| x_ret <| then_r <| ret_tmp2 (v := .int _ _) (v2 := .int _ _) rfl rfl rfl <| ⟨?_, HC⟩
     unfold stepV; rw [if_neg (by simpa using h0), if_neg (by simpa using h1), if_neg h2, if_pos h3]
     unfold upV; rw [hio]; rfl
    ·try simp only [nm, ne_eq] at h3
     refine x_skip <| then_n <| sr rfl <| Wp rfl <| st_loadA (vs := [_, _, _]) T.agg24 rfl (hb4.cells (n := 3) (vs := [_, _, _]) rfl) rfl <| mI rfl <| mS rfl <| Wp rfl <| st_call (ags := [_, _, _]) rfl rfl T.ent71 rfl (RKid_spec hT hTl hF _ _) ?_
     rintro _ w15 ⟨rfl, c16⟩
     replace HC := HC.then c16
     replace hT := hT.tr0 c16
     replace hb4 := hb4.tr0 c16
     refine aI rfl <| en <| x_seq <| sr rfl <| mI rfl <| Wp rfl <| st_lss rfl rfl <| en <| x_cond rfl (fun h4 => ?_) (fun h4 => ?_)
     ·try simp only [nm, ne_eq] at h4
      refine sr rfl <| aI rfl <| aI rfl <| en <| x_ret <| then_r <| ret_tmp2 (v := .int _ _) (v2 := .int _ _) rfl rfl rfl <| ⟨?_, HC⟩
      unfold stepV; rw [if_neg (by simpa using h0), if_neg (by simpa using h1), if_neg h2, if_neg h3, if_neg (by omega)]
     ·try simp only [nm, ne_eq] at h4
      refine x_skip <| then_n <| sr rfl <| mI rfl <| aI rfl <| aI rfl <| en <| x_ret <| ret_tmp2 (v := .int _ _) (v2 := .int _ _) rfl rfl rfl <| ⟨?_, HC⟩
      unfold stepV; rw [if_neg (by simpa using h0), if_neg (by simpa using h1), if_neg h2, if_neg h3, if_pos (by omega)]

theorem RWhole_spec (p : Bytes) (w : World) : CallR Tryz.prog 63 #[S p] w fun v w' => v = .bool (Lib.hasPrefix p [47]) ∧ Chg [] w w' := by
 refine callR_of_wp (args := [_]) Tryz.func63 rfl (Nat.le_of_ble_eq_true rfl) ?_
 have HC : Chg [] w w := .refl _
 refine sr rfl <| aB rfl <| en <| sr rfl <| mS rfl <| Wp rfl <| st_sneq rfl rfl <| mB rfl <| w_split (d := 5) rfl (fun g1 => ?_) (fun g1 => ?_)
 ·try simp only [nm, ne_eq] at g1
  obtain ⟨c0, p0, rfl⟩ : ∃ a b, p = a :: b := by cases p with | nil => exact absurd rfl (by assumption) | cons a b => exact ⟨a, b, rfl⟩
  refine w_yes 2 5 true <| st_move (v := S _) rfl <| w_yes 2 5 true <| st_sidx T.u9 rfl rfl (by omega) (by simp) <| w_yes 2 5 true <| st_eql rfl rfl <| pT rfl rfl <| aB rfl <| en <| x_ret <| ret_tmp (v := .bool _) rfl rfl <| ⟨congrArg Value.bool ?_, HC⟩
  first | exact hasPre1 _ _ | rfl
 ·try simp only [nm, ne_eq] at g1
  obtain rfl : p = [] := by first | assumption | simp_all
  iterate 3 refine w_no 2 5 true ?_
  refine pF rfl rfl <| aB rfl <| en <| x_ret <| ret_tmp (v := .bool _) rfl rfl <| ⟨congrArg Value.bool ?_, HC⟩
  first | exact hasPre1 _ _ | rfl

end Go.Proofs.YtpelmhoocepenaaGreatDoor.K
