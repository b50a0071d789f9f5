/- The law TestTurns. -/
import Derived.Test.YtpelmhoocepenaaDoorKitX
set_option linter.unusedVariables false
set_option linter.unusedSimpArgs false
set_option autoImplicit false
set_option maxRecDepth 20000
namespace Go.Proofs.YtpelmhoocepenaaDoor.K
open Go Go.Proofs Go.RowKit

theorem test_in (Z : Tre) (cwd : Int) : ∀ l : List Bytes, testV Z cwd l = 0 ∨ testV Z cwd l = 1 ∨ testV Z cwd l = 2
  | [] => .inr (.inl rfl)
  | [a] => tru_in _
  | [a, b] => two_in _ _ _ _
  | [a, b, c] => three_in _ _ _ _ _
  | [a, b, c, d] => by
    show fourV Z cwd a b c d = 0 ∨ fourV Z cwd a b c d = 1 ∨ fourV Z cwd a b c d = 2
    unfold fourV; split
    · exact turn_in (three_in _ _ _ _ _)
    · split
      · exact two_in _ _ _ _
      · simp
  | _ :: _ :: _ :: _ :: _ :: _ => .inr (.inr rfl)
/-- ! ahead of one to three. -/
theorem test_turn {Z : Tre} {cwd : Int} {l : List Bytes} (h1 : 1 ≤ l.length) (h3 : l.length ≤ 3) (h2 : ∀ a b, l = [a, b] → a ∉ binL) : testV Z cwd ([33] :: l) = turnN (testV Z cwd l) := by
  match l, h1, h3, h2 with
  | [a], _, _, _ => show twoV Z cwd [33] a = _; unfold twoV; rw [if_pos rfl]; rfl
  | [a, b], _, _, h2 => show threeV Z cwd [33] a b = _; unfold threeV; rw [if_neg (h2 a b rfl), if_pos rfl]; rfl
  | [a, b, c], _, _, _ => show fourV Z cwd [33] a b c = _; unfold fourV; rw [if_pos rfl]; rfl
theorem turn_tell {n : Int} (h : n = 0 ∨ n = 1 ∨ n = 2) : (decide (n = 2) = decide (turnN n = 2)) ∧ (n = 2 ∨ n + turnN n = 1) := by
  rcases h with rfl | rfl | rfl <;> simp [turnN]
section
variable {P : Program} {r : Option Nat} {n : Nat} {O : Array Oper} {Q : Post} {E : Env} {ds : List Deferred} {w : World} {l : List Oper} {i : Nat} {rest : List (Nat × Nat)} {K : (World → Prop) → Env → World → Prop} {T : World → Prop}
variable {dst : Option Nat} {ty : TypeId} {pos : String} {af : Array Edge} {g : Option (Nat × Bool)}
theorem r_append0 {t e : TypeId} {x y : Operand} {m cap c sz bytes : Nat} {A B : Option Addr} (hS : sliceB P t e sz bytes) (hx : ev E x = .slice B m cap) (hy : ev E y = .slice A 0 c) (hm : m ≤ cap) :
    (execOp (ev E) ⟨dst, .call ⟨.builtin .append, #[x, y], #[t, t]⟩, ty, pos, af, g⟩).run P w = .ok (.value (.slice B m cap)) w := by
  obtain ⟨ht, hi0, i0, z, hi, hzz, hzs⟩ := hS
  have ha : (Builtin.append_ #[t, t] ty #[.slice B m cap, .slice A 0 c]).run P w = .ok (.slice B m cap) w := by
    cases A <;> cases B <;> simp [Builtin.append_, run_underlying ht, sizeOf, typeInfo, hi, Builtin.lenOf, Builtin.firstCells, hm, storeCells, loadCells, loadCellsFrom, go_sem]
  simp only [execOp, resolve, invoke, builtin, List.map_toArray, List.map_cons, List.map_nil, hx, hy, Sem.run_bind, Sem.run_pure, ha, Result.andThen]
/-- Texts that lie elsewhere are appended. -/
theorem sq_appendS {D Dl : Nat → Prop} {A B : Option Addr} {cap m k m2 : Nat} {xs ys : List Bytes} {t e : TypeId} {bytes : Nat} {x y : Operand} (ho' : l[i]? = some ⟨dst, .call ⟨.builtin .append, #[x, y], #[t, t]⟩, ty, pos, af, g⟩) (hS : sliceB P t e 1 bytes)
    (hx : ev E x = .slice A m cap) (hm : m = xs.length) (ho : Own sE e w D A cap xs) (hyv : ev E y = .slice B k m2) (hk : k = ys.length) (hy : Sl sE w Dl B ys)
    (hfr : ∀ k, w.heap.size ≤ k → D k) (h63 : xs.length + ys.length ≤ 9223372036854775807) (hby : (xs.length + ys.length) * bytes ≤ 140737488355328)
    (h : ∀ A' cap' w', Own sE e w' D A' cap' (xs ++ ys) → Chg (ob A) w w' → ∃ T' : World → Prop, (∀ x, T' x → T x) ∧ T' w' ∧ seqP P l K rest T' (updo E dst (.slice A' (xs ++ ys).length cap')) w') (hw : wantE l ⟨dst, .call ⟨.builtin .append, #[x, y], #[t, t]⟩, ty, pos, af, g⟩ E = true := by rfl) :
    seqP P l K ((i, 1) :: rest) T E w := by
  cases ys with
  | nil =>
    subst hm hk
    have hr := r_append0 (dst := dst) (ty := ty) (pos := pos) (af := af) (g := g) (w := w) hS hx hyv ho.le.1
    obtain ⟨T', q1, q2, q3⟩ := h A cap w (by rw [List.append_nil]; exact ho) (.refl _)
    rw [List.append_nil] at q3
    exact sq_run1 ho' hr T' q1 q2 q3 hw
  | cons y0 ys0 =>
    rcases hy with hy | ⟨b, o, rfl, _, _, hc⟩
    · cases hy
    obtain ⟨A', cap', w', h1, h2, h3, h4⟩ := r_append (dst := dst) (ty := ty) (pos := pos) (af := af) (g := g) (D2 := fun _ => False) hS hx hm ho hyv hk (fun j y hj => by obtain ⟨vs, q1, q2⟩ := hc j y hj; exact ⟨vs, q1, q2⟩) (fun _ _ h => h.elim) hfr h63 hby
    obtain ⟨T', q1, q2, q3⟩ := h A' cap' w' h2 h3
    rw [List.length_append] at q3
    exact sq_run1 ho' h1 T' q1 q2 q3 hw
end

set_option maxHeartbeats 1000000 in
theorem TestTurns_spec {Z : Tre} {An : Option Addr} {capn : Nat} {mx my : Int} {D : Nat → Prop} {w : World} (hT : Sl inE w D An Z) (hTl : Z.length ≤ 9223372036854775807) (hD : ∀ x, x ∈ Z → x.data.length ≤ 140737488351232 ∧ ∀ p, p ∈ x.kids → p.1.length ≤ 140737488351232) (cwd : Int) {A : Option Addr} {c : Nat} {Dl : Nat → Prop} {l : List Bytes} (hl : Sl sE w Dl A l) (hc : l.length ≤ c) (hb : ∀ s, s ∈ l → s.length ≤ 140737488351232) (hll : l.length ≤ 1000000000000000000) (hmx : MaxT w) (ht : Tab w) : CallR Tryd.prog 5 #[.agg ⟨[.slice An Z.length capn, .int .i64 mx, .int .i64 my]⟩, .int .i64 cwd, .slice A l.length c] w fun v w' => v = .bool true ∧ Chg [] w w' := by
 replace hT := hT.mono (D' := fun k => k < w.heap.size) (fun k hk _ => hk)
 have hm1 := hmx.lt
 have ht1 := ht.lt
 replace hl := hl.mono (D' := fun k => k < w.heap.size) (fun k hk _ => hk)
 replace hb : ∀ s, s ∈ l → s.length ≤ 140737488355328 := fun s hs => by have := hb s hs; omega
 refine callR_of_wp (args := [_, _, _]) Tryd.func5 rfl (Nat.le_of_ble_eq_true rfl) ?_
 have HC : Chg [] w w := .refl _
 refine sr rfl <| Wp rfl <| st_box (v := .agg ⟨[.slice _ _ _, .int _ _, .int _ _]⟩) (vs := [_, _, _]) rfl rfl ?_
 intro b3 w1 e2 c3 hb4
 have ge_b3 : w.heap.size ≤ b3 := by rw [e2]; exact HC.size
 replace HC := HC.then c3
 replace hT := hT.tr0 c3
 replace hl := hl.tr0 c3
 replace hmx := hmx.tr0 c3
 replace ht := ht.tr0 c3
 clear e2
 refine aB rfl <| en <| x_seq <| sr rfl <| Wp rfl <| st_loadA (vs := [_, _, _]) T.agg24 rfl (hb4.cells (n := 3) (vs := [_, _, _]) rfl) rfl <| mL rfl <| Wp rfl <| st_call (ags := [_, _]) rfl rfl T.ent11 rfl (good_spec hT hTl hD hl hb hll) ?_
 rintro _ w5 ⟨⟨bg, rfl, hgp⟩, c6⟩
 replace HC := HC.then c6
 replace hT := hT.tr0 c6
 replace hl := hl.tr0 c6
 replace hmx := hmx.tr0 c6
 replace ht := ht.tr0 c6
 replace hb4 := hb4.tr0 c6
 refine Wp rfl <| st_not rfl <| en <| x_cond rfl (fun h0 => ?_) (fun h0 => ?_)
 ·try simp only [nm, ne_eq] at h0
  refine sr rfl <| Wp rfl <| st_call (ags := []) rfl rfl T.ent10 rfl (awake24_spec hmx ht) ?_
  rintro _ w7 ⟨rfl, c8⟩
  replace HC := HC.then c8
  replace hT := hT.tr0 c8
  replace hl := hl.tr0 c8
  replace hmx := hmx.tr0 c8
  replace ht := ht.tr0 c8
  replace hb4 := hb4.tr0 c8
  refine aB rfl <| en <| x_ret <| then_r <| ret_tmp (v := .bool _) rfl rfl ?_
  exact ⟨rfl, HC⟩
 ·try simp only [nm, ne_eq] at h0
  obtain ⟨hF, hl20⟩ := hgp (by simpa using h0)
  replace hTl : Z.length ≤ 1000000000 := Nat.le_trans hF.few (by decide)
  have hn := test_in Z cwd l
  refine x_skip <| then_n <| sr rfl <| Wp rfl <| st_loadA (vs := [_, _, _]) T.agg24 rfl (hb4.cells (n := 3) (vs := [_, _, _]) rfl) rfl <| mI rfl <| mL rfl <| Wp rfl <| st_call (ags := [_, _, _]) rfl rfl T.ent8 rfl (test_spec hT hTl hF hl hc hmx ht hb) ?_
  rintro _ w9 ⟨rfl, c10⟩
  replace HC := HC.then c10
  replace hT := hT.tr0 c10
  replace hl := hl.tr0 c10
  replace hmx := hmx.tr0 c10
  replace ht := ht.tr0 c10
  replace hb4 := hb4.tr0 c10
  refine aI rfl <| en <| x_seq <| x_seq <| x_open [0, 1, 2, 3, 4, 5, 6, 7, 8, 10, 15] (.br 9 [] (.br 11 [] (.br 12 [] (.br 13 [] (.br 14 [16, 17] (.stop) (.nil)) (.nil)) (.nil)) (.br 12 [] (.br 11 [] (.br 13 [] (.br 14 [16, 17] (.stop) (.nil)) (.nil)) (.nil)) (.nil))) (.br 12 [] (.br 9 [] (.br 11 [] (.br 13 [] (.br 14 [16, 17] (.stop) (.nil)) (.nil)) (.nil)) (.nil)) (.nil))) T.mixed rfl rfl (fun W => W.heap[b3]? = w9.heap[b3]? ∧ True) ⟨rfl, trivial⟩ ?_
  have o13 := hb4
  have c12 := Chg.drew w9
  generalize World.drew w9 = w11 at c12 ⊢
  replace HC := HC.then c12
  replace hT := hT.tr0 c12
  replace hl := hl.tr0 c12
  replace hmx := hmx.tr0 c12
  replace ht := ht.tr0 c12
  replace hb4 := hb4.tr0 c12
  refine sq_q rfl (fun W hT => r_move (v := .int _ _) rfl) <| sq_q rfl (fun W hT => r_lss rfl rfl) <| sq_q rfl (fun W hT => r_move (v := .bool _) rfl) <| sq_split (d := 20) rfl (fun g14 => ?_) (fun g14 => ?_)
  ·try simp only [nm, ne_eq] at g14
   exfalso; omega
  ·try simp only [nm, ne_eq] at g14
   refine sq_q rfl (fun W hT => r_move (v := .int _ _) rfl) <| sq_q rfl (fun W hT => r_gtr rfl rfl) <| sq_q rfl (fun W hT => r_pick (b := false) (v := .bool _) rfl rfl) <| sq_q rfl (fun W hT => r_move (v := .bool _) rfl) <| sq_split (d := 24) rfl (fun g15 => ?_) (fun g15 => ?_)
   ·try simp only [nm, ne_eq] at g15
    exfalso; omega
   ·try simp only [nm, ne_eq] at g15
    refine sq_q rfl (fun W hT => r_loadA (vs := [_, _, _]) T.agg24 rfl (Blk.cells (n := 3) (vs := [_, _, _]) (show Blk W b3 _ _ from hT.1.trans o13) rfl) rfl) <| sq_q rfl (fun W hT => r_move (v := .int _ _) rfl) <| sq_q rfl (fun W hT => r_move (v := .slice _ _ _) rfl) <| sq_q rfl (fun W hT => r_move (v := .int _ _) rfl) <| sq_nil <| tr_br ?_ ?_
    ·refine sq_lit1 (ps := []) (vs := []) rfl T.lit29 (by decide) rfl (by simp) rfl ?_
     intro b16 w17 e18 c19 hb20
     have ge_b16 : w.heap.size ≤ b16 := by rw [e18]; exact HC.size
     have ne_b3_b16 : b3 ≠ b16 := by rw [e18]; exact hb4.ne_size
     replace HC := HC.then c19
     replace hT := hT.tr0 c19
     replace hl := hl.tr0 c19
     replace hmx := hmx.tr0 c19
     replace ht := ht.tr0 c19
     replace hb4 := hb4.tr0 c19
     clear e18
     refine ⟨_, fun _ h => h, ⟨(Eq.trans hb4 o13.symm), trivial⟩, ?_⟩
     refine sq_nil <| tr_br ?_ ?_
     ·have hoL : Own sE 9 w17 (fun k => w.heap.size ≤ k ∧ k ≠ b3) (some ⟨b16, 0, none⟩) _ ([] : List Bytes) := Own.of_blk (xs := ([] : List Bytes)) (c := sE) hb20 ⟨ge_b16, Ne.symm ne_b3_b16⟩ (by simp) (chunks_flat _)
      have hszA := HC.size
      refine sq_appendS (D := (fun k => w.heap.size ≤ k ∧ k ≠ b3)) (xs := ([] : List Bytes)) (ys := l) rfl T.slice29 rfl rfl hoL rfl rfl hl (fun k hk => ⟨by omega, by have := hb4.lt; omega⟩) (by simp only [List.length_append, List.length_cons, List.length_nil]; omega) (by simp only [List.length_append, List.length_cons, List.length_nil]; omega) ?_
      intro A1 c1 w21 ho23 c22
      replace HC := HC.trans c22 (fun k hk => .inr (hoL.inD k hk).1)
      replace hT := hT.tr c22 (fun k hk hD => Nat.not_le.2 (show k < w.heap.size from hD) (hoL.inD k hk).1)
      replace hl := hl.tr c22 (fun k hk hD => Nat.not_le.2 (show k < w.heap.size from hD) (hoL.inD k hk).1)
      replace hmx := hmx.tr c22 (fun hx => Nat.not_le.2 hm1 (hoL.inD _ hx).1)
      replace ht := ht.tr c22 (fun hx => Nat.not_le.2 ht1 (hoL.inD _ hx).1)
      replace hb4 := hb4.tr c22 (fun hx => (hoL.inD _ hx).2 rfl)
      refine ⟨_, fun _ h => h, ⟨(Eq.trans hb4 o13.symm), trivial⟩, ?_⟩
      refine sq_nil <| tr_br ?_ ?_
      ·refine sq_lit1 (ps := [(0, .const (S [93]))]) (vs := [S _]) rfl T.lit29 (by decide) rfl (by simp only [List.forall_mem_cons, List.not_mem_nil, false_imp_iff, implies_true, and_true]; exact rfl) rfl ?_
       intro b24 w25 e26 c27 hb28
       have ge_b24 : w.heap.size ≤ b24 := by rw [e26]; exact HC.size
       have ne_b3_b24 : b3 ≠ b24 := by rw [e26]; exact hb4.ne_size
       replace HC := HC.then c27
       replace hT := hT.tr0 c27
       replace hl := hl.tr0 c27
       replace hmx := hmx.tr0 c27
       replace ht := ht.tr0 c27
       replace hb4 := hb4.tr0 c27
       replace ho23 := ho23.tr0 c27
       clear e26
       refine ⟨_, fun _ h => h, ⟨(Eq.trans hb4 o13.symm), trivial⟩, ?_⟩
       refine sq_nil <| tr_br ?_ ?_
       ·have hszA := HC.size
        refine sq_appendS (D := (fun k => w.heap.size ≤ k ∧ k ≠ b3)) (xs := ([] ++ l : List Bytes)) (ys := [[(93 : UInt8)]]) rfl T.slice29 rfl rfl ho23 rfl rfl (sl_lit (f := fun s : Bytes => [S s]) [[(93 : UInt8)]] (by simp) hb28) (fun k hk => ⟨by omega, by have := hb4.lt; omega⟩) (by simp only [List.length_append, List.length_cons, List.length_nil]; omega) (by simp only [List.length_append, List.length_cons, List.length_nil]; omega) ?_
        intro A2 c2 w29 ho31 c30
        replace HC := HC.trans c30 (fun k hk => .inr (ho23.inD k hk).1)
        replace hT := hT.tr c30 (fun k hk hD => Nat.not_le.2 (show k < w.heap.size from hD) (ho23.inD k hk).1)
        replace hl := hl.tr c30 (fun k hk hD => Nat.not_le.2 (show k < w.heap.size from hD) (ho23.inD k hk).1)
        replace hmx := hmx.tr c30 (fun hx => Nat.not_le.2 hm1 (ho23.inD _ hx).1)
        replace ht := ht.tr c30 (fun hx => Nat.not_le.2 ht1 (ho23.inD _ hx).1)
        replace hb4 := hb4.tr c30 (fun hx => (ho23.inD _ hx).2 rfl)
        obtain ⟨gz, rfl, hgz⟩ : ∃ g, A2 = some ⟨g, 0, none⟩ ∧ l.length < c2 := by rcases ho31.form with ⟨_, _, h⟩ | ⟨g, h1, _, h3, _⟩; (simp at h); exact ⟨g, h1, by simp at h3; omega⟩
        rw [show (([] ++ l : List Bytes) ++ [[(93 : UInt8)]]).length = l.length + 1 from by simp]
        refine ⟨_, fun _ h => h, ⟨(Eq.trans hb4 o13.symm), trivial⟩, ?_⟩
        refine sq_nil <| tr_br ?_ ?_
        ·refine sq_call1 rfl (r_call (ags := [_, _, _]) rfl rfl T.ent13 rfl) (Bracket_at hT hTl hF ho31.sl hgz (by omega) hmx ht hb) ?_
         rintro _ w32 ⟨rfl, c33⟩
         replace HC := HC.then c33
         replace hT := hT.tr0 c33
         replace hl := hl.tr0 c33
         replace hmx := hmx.tr0 c33
         replace ht := ht.tr0 c33
         replace hb4 := hb4.tr0 c33
         refine ⟨_, fun _ h => h, ⟨(Eq.trans hb4 o13.symm), trivial⟩, ?_⟩
         refine sq_q rfl (fun W hT => r_neq rfl rfl) <| sq_q rfl (fun W hT => r_pick (b := false) (v := .bool _) rfl rfl) <| sq_nil ?_
         clear o13
         refine tr_stop <| then_n <| x_cond rfl (fun h1 => ?_) (fun h1 => ?_)
         ·try simp only [nm, ne_eq] at h1
          first | exact absurd rfl h1 | exact absurd trivial h1 | (simp at h1; done)
         ·try simp only [nm, ne_eq] at h1
          refine x_skip <| then_n <| x_seq <| sr rfl <| mL rfl <| Wp rfl <| st_len (ct := #[29]) (by rw [show ((#[29] : Array TypeId)[0]?).bind Tryd.prog.underlying = some (.slice 9) from T.u29]; rfl) rfl <| Wp rfl <| st_lss rfl rfl <| mB rfl <| w_split (d := 39) rfl (fun g34 => ?_) (fun g34 => ?_)
          ·try simp only [nm, ne_eq] at g34
           iterate 3 refine w_no 3 39 false ?_
           refine pT rfl rfl <| en <| x_cond (t := true) rfl (fun h2 => ?_) (fun h2 => ?_)
           rotate_left
           · exact absurd h2 (by decide)
           refine sr rfl <| Wp rfl <| st_call (ags := []) rfl rfl T.ent10 rfl (awake24_spec hmx ht) ?_
           rintro _ w35 ⟨rfl, c36⟩
           replace HC := HC.then c36
           replace hT := hT.tr0 c36
           replace hl := hl.tr0 c36
           replace hmx := hmx.tr0 c36
           replace ht := ht.tr0 c36
           replace hb4 := hb4.tr0 c36
           refine aB rfl <| en <| x_ret <| then_r <| ret_tmp (v := .bool _) rfl rfl ?_
           exact ⟨rfl, HC⟩
          ·try simp only [nm, ne_eq] at g34
           refine w_yes 3 39 false <| st_move (v := .slice _ _ _) rfl <| w_yes 3 39 false <| st_len (ct := #[29]) (by rw [show ((#[29] : Array TypeId)[0]?).bind Tryd.prog.underlying = some (.slice 9) from T.u29]; rfl) rfl <| w_yes 3 39 false <| st_gtr rfl rfl <| pF rfl rfl <| en <| x_cond rfl (fun h2 => ?_) (fun h2 => ?_)
           ·try simp only [nm, ne_eq] at h2
            refine sr rfl <| Wp rfl <| st_call (ags := []) rfl rfl T.ent10 rfl (awake24_spec hmx ht) ?_
            rintro _ w37 ⟨rfl, c38⟩
            replace HC := HC.then c38
            replace hT := hT.tr0 c38
            replace hl := hl.tr0 c38
            replace hmx := hmx.tr0 c38
            replace ht := ht.tr0 c38
            replace hb4 := hb4.tr0 c38
            refine aB rfl <| en <| x_ret <| then_r <| ret_tmp (v := .bool _) rfl rfl ?_
            exact ⟨rfl, HC⟩
           ·try simp only [nm, ne_eq] at h2
            refine x_skip <| then_n <| x_seq <| x_draw [(0, 0), (1, 0), (3, 0), (2, 1), (4, 1), (5, 1), (6, 0)] T.mixed rfl rfl rfl (fun W => W.heap[b3]? = w32.heap[b3]? ∧ True) ⟨rfl, trivial⟩ ?_
            have o41 := hb4
            have c40 := Chg.drew w32
            generalize World.drew w32 = w39 at c40 ⊢
            replace HC := HC.then c40
            replace hT := hT.tr0 c40
            replace hl := hl.tr0 c40
            replace hmx := hmx.tr0 c40
            replace ht := ht.tr0 c40
            replace hb4 := hb4.tr0 c40
            refine sq_q rfl (fun W hT => r_loadA (vs := [_, _, _]) T.agg24 rfl (Blk.cells (n := 3) (vs := [_, _, _]) (show Blk W b3 _ _ from hT.1.trans o41) rfl) rfl) <| sq_q rfl (fun W hT => r_move (v := .int _ _) rfl) <| sq_q rfl (fun W hT => r_move (v := .slice _ _ _) rfl) <| sq_lit1 (ps := [(0, .const (S [33]))]) (vs := [S _]) rfl T.lit29 (by decide) rfl (by simp only [List.forall_mem_cons, List.not_mem_nil, false_imp_iff, implies_true, and_true]; exact rfl) rfl ?_
            intro b42 w43 e44 c45 hb46
            have ge_b42 : w.heap.size ≤ b42 := by rw [e44]; exact HC.size
            have ne_b3_b42 : b3 ≠ b42 := by rw [e44]; exact hb4.ne_size
            replace HC := HC.then c45
            replace hT := hT.tr0 c45
            replace hl := hl.tr0 c45
            replace hmx := hmx.tr0 c45
            replace ht := ht.tr0 c45
            replace hb4 := hb4.tr0 c45
            clear e44
            refine ⟨_, fun _ h => h, ⟨(Eq.trans hb4 o41.symm), trivial⟩, ?_⟩
            have hoL : Own sE 9 w43 (fun k => w.heap.size ≤ k ∧ k ≠ b3) (some ⟨b42, 0, none⟩) _ [[(33 : UInt8)]] := Own.of_blk (xs := [[(33 : UInt8)]]) (c := sE) hb46 ⟨ge_b42, Ne.symm ne_b3_b42⟩ (by simp) (chunks_flat _)
            have hszA := HC.size
            refine sq_appendS (D := (fun k => w.heap.size ≤ k ∧ k ≠ b3)) (xs := [[(33 : UInt8)]]) (ys := l) rfl T.slice29 rfl rfl hoL rfl rfl hl (fun k hk => ⟨by omega, by have := hb4.lt; omega⟩) (by simp only [List.length_append, List.length_cons, List.length_nil]; omega) (by simp only [List.length_append, List.length_cons, List.length_nil]; omega) ?_
            intro A1 c1 w47 ho49 c48
            replace HC := HC.trans c48 (fun k hk => .inr (hoL.inD k hk).1)
            replace hT := hT.tr c48 (fun k hk hD => Nat.not_le.2 (show k < w.heap.size from hD) (hoL.inD k hk).1)
            replace hl := hl.tr c48 (fun k hk hD => Nat.not_le.2 (show k < w.heap.size from hD) (hoL.inD k hk).1)
            replace hmx := hmx.tr c48 (fun hx => Nat.not_le.2 hm1 (hoL.inD _ hx).1)
            replace ht := ht.tr c48 (fun hx => Nat.not_le.2 ht1 (hoL.inD _ hx).1)
            replace hb4 := hb4.tr c48 (fun hx => (hoL.inD _ hx).2 rfl)
            refine ⟨_, fun _ h => h, ⟨(Eq.trans hb4 o41.symm), trivial⟩, ?_⟩
            refine sq_call1 rfl (r_call (ags := [_, _, _]) rfl rfl T.ent8 rfl) (test_spec (l := [33] :: l) hT hTl hF ho49.sl (by have h9 := ho49.le.1; simpa using h9) hmx ht (fun s hs => by rcases List.mem_cons.1 hs with rfl | hs; (simp); exact hb s hs)) ?_
            rintro _ w50 ⟨rfl, c51⟩
            replace HC := HC.then c51
            replace hT := hT.tr0 c51
            replace hl := hl.tr0 c51
            replace hmx := hmx.tr0 c51
            replace ht := ht.tr0 c51
            replace hb4 := hb4.tr0 c51
            refine ⟨_, fun _ h => h, ⟨(Eq.trans hb4 o41.symm), trivial⟩, ?_⟩
            refine sq_q rfl (fun W hT => r_assign (v := .int _ _) rfl) ?_
            clear o41
            refine sq_nil <| then_n <| x_seq <| sr rfl <| mL rfl <| Wp rfl <| st_len (ct := #[29]) (by rw [show ((#[29] : Array TypeId)[0]?).bind Tryd.prog.underlying = some (.slice 9) from T.u29]; rfl) rfl <| Wp rfl <| st_eql rfl rfl <| en <| x_cond rfl (fun h3 => ?_) (fun h3 => ?_)
            ·try simp only [nm, ne_eq] at h3
             obtain ⟨a, b, rfl⟩ : ∃ a b, l = [a, b] := by match l, (show l.length = 2 by omega) with | [a, b], _ => exact ⟨a, b, rfl⟩
             refine sr rfl <| mL rfl ?_
             obtain ⟨lb56, _, vs55, hA52, hR54, hC53⟩ := hl.at (i := 0) (x := a) (rfl)
             obtain rfl : vs55 = [S a] := hR54
             refine Wp rfl <| st_indexAddr T.u29 T.size9 (congrArg (fun z => Value.slice z _ _) hA52) rfl (by simp) (by simp) <| lS T.one9 rfl (hC53.at (j := 0) rfl) <| en <| x_block <| x_seq <| sr rfl <| Wp rfl <| st_seql rfl rfl <| aB rfl <| en <| x_cond rfl (fun h4 => ?_) (fun h4 => ?_)
             ·try simp only [nm, ne_eq] at h4
              refine x_skip <| then_n <| x_cond rfl (fun h11 => ?_) (fun h11 => ?_)
              rotate_left
              · exfalso; simp_all
              refine sr rfl <| Wp rfl <| st_call (ags := []) rfl rfl T.ent10 rfl (awake24_spec hmx ht) ?_
              rintro _ w57 ⟨rfl, c58⟩
              replace HC := HC.then c58
              replace hT := hT.tr0 c58
              replace hl := hl.tr0 c58
              replace hmx := hmx.tr0 c58
              replace ht := ht.tr0 c58
              replace hb4 := hb4.tr0 c58
              refine aB rfl <| en <| x_ret <| block_r <| then_r <| ret_tmp (v := .bool _) rfl rfl ?_
              exact ⟨rfl, HC⟩
             ·try simp only [nm, ne_eq] at h4
              refine sr rfl <| Wp rfl <| st_seql rfl rfl <| aB rfl <| en <| x_cond rfl (fun h5 => ?_) (fun h5 => ?_)
              ·try simp only [nm, ne_eq] at h5
               refine x_skip <| then_n <| x_cond rfl (fun h11 => ?_) (fun h11 => ?_)
               rotate_left
               · exfalso; simp_all
               refine sr rfl <| Wp rfl <| st_call (ags := []) rfl rfl T.ent10 rfl (awake24_spec hmx ht) ?_
               rintro _ w59 ⟨rfl, c60⟩
               replace HC := HC.then c60
               replace hT := hT.tr0 c60
               replace hl := hl.tr0 c60
               replace hmx := hmx.tr0 c60
               replace ht := ht.tr0 c60
               replace hb4 := hb4.tr0 c60
               refine aB rfl <| en <| x_ret <| block_r <| then_r <| ret_tmp (v := .bool _) rfl rfl ?_
               exact ⟨rfl, HC⟩
              ·try simp only [nm, ne_eq] at h5
               refine sr rfl <| Wp rfl <| st_seql rfl rfl <| aB rfl <| en <| x_cond rfl (fun h6 => ?_) (fun h6 => ?_)
               ·try simp only [nm, ne_eq] at h6
                refine x_skip <| then_n <| x_cond rfl (fun h11 => ?_) (fun h11 => ?_)
                rotate_left
                · exfalso; simp_all
                refine sr rfl <| Wp rfl <| st_call (ags := []) rfl rfl T.ent10 rfl (awake24_spec hmx ht) ?_
                rintro _ w61 ⟨rfl, c62⟩
                replace HC := HC.then c62
                replace hT := hT.tr0 c62
                replace hl := hl.tr0 c62
                replace hmx := hmx.tr0 c62
                replace ht := ht.tr0 c62
                replace hb4 := hb4.tr0 c62
                refine aB rfl <| en <| x_ret <| block_r <| then_r <| ret_tmp (v := .bool _) rfl rfl ?_
                exact ⟨rfl, HC⟩
               ·try simp only [nm, ne_eq] at h6
                refine sr rfl <| Wp rfl <| st_seql rfl rfl <| aB rfl <| en <| x_cond rfl (fun h7 => ?_) (fun h7 => ?_)
                ·try simp only [nm, ne_eq] at h7
                 refine x_skip <| then_n <| x_cond rfl (fun h11 => ?_) (fun h11 => ?_)
                 rotate_left
                 · exfalso; simp_all
                 refine sr rfl <| Wp rfl <| st_call (ags := []) rfl rfl T.ent10 rfl (awake24_spec hmx ht) ?_
                 rintro _ w63 ⟨rfl, c64⟩
                 replace HC := HC.then c64
                 replace hT := hT.tr0 c64
                 replace hl := hl.tr0 c64
                 replace hmx := hmx.tr0 c64
                 replace ht := ht.tr0 c64
                 replace hb4 := hb4.tr0 c64
                 refine aB rfl <| en <| x_ret <| block_r <| then_r <| ret_tmp (v := .bool _) rfl rfl ?_
                 exact ⟨rfl, HC⟩
                ·try simp only [nm, ne_eq] at h7
                 refine sr rfl <| Wp rfl <| st_seql rfl rfl <| aB rfl <| en <| x_cond rfl (fun h8 => ?_) (fun h8 => ?_)
                 ·try simp only [nm, ne_eq] at h8
                  refine x_skip <| then_n <| x_cond rfl (fun h11 => ?_) (fun h11 => ?_)
                  rotate_left
                  · exfalso; simp_all
                  refine sr rfl <| Wp rfl <| st_call (ags := []) rfl rfl T.ent10 rfl (awake24_spec hmx ht) ?_
                  rintro _ w65 ⟨rfl, c66⟩
                  replace HC := HC.then c66
                  replace hT := hT.tr0 c66
                  replace hl := hl.tr0 c66
                  replace hmx := hmx.tr0 c66
                  replace ht := ht.tr0 c66
                  replace hb4 := hb4.tr0 c66
                  refine aB rfl <| en <| x_ret <| block_r <| then_r <| ret_tmp (v := .bool _) rfl rfl ?_
                  exact ⟨rfl, HC⟩
                 ·try simp only [nm, ne_eq] at h8
                  refine sr rfl <| Wp rfl <| st_seql rfl rfl <| aB rfl <| en <| x_cond rfl (fun h9 => ?_) (fun h9 => ?_)
                  ·try simp only [nm, ne_eq] at h9
                   refine x_skip <| then_n <| x_cond rfl (fun h11 => ?_) (fun h11 => ?_)
                   rotate_left
                   · exfalso; simp_all
                   refine sr rfl <| Wp rfl <| st_call (ags := []) rfl rfl T.ent10 rfl (awake24_spec hmx ht) ?_
                   rintro _ w67 ⟨rfl, c68⟩
                   replace HC := HC.then c68
                   replace hT := hT.tr0 c68
                   replace hl := hl.tr0 c68
                   replace hmx := hmx.tr0 c68
                   replace ht := ht.tr0 c68
                   replace hb4 := hb4.tr0 c68
                   refine aB rfl <| en <| x_ret <| block_r <| then_r <| ret_tmp (v := .bool _) rfl rfl ?_
                   exact ⟨rfl, HC⟩
                  ·try simp only [nm, ne_eq] at h9
                   refine sr rfl <| Wp rfl <| st_seql rfl rfl <| aB rfl <| en <| x_cond rfl (fun h10 => ?_) (fun h10 => ?_)
                   ·try simp only [nm, ne_eq] at h10
                    refine x_skip <| then_n <| x_cond rfl (fun h11 => ?_) (fun h11 => ?_)
                    rotate_left
                    · exfalso; simp_all
                    refine sr rfl <| Wp rfl <| st_call (ags := []) rfl rfl T.ent10 rfl (awake24_spec hmx ht) ?_
                    rintro _ w69 ⟨rfl, c70⟩
                    replace HC := HC.then c70
                    replace hT := hT.tr0 c70
                    replace hl := hl.tr0 c70
                    replace hmx := hmx.tr0 c70
                    replace ht := ht.tr0 c70
                    replace hb4 := hb4.tr0 c70
                    refine aB rfl <| en <| x_ret <| block_r <| then_r <| ret_tmp (v := .bool _) rfl rfl ?_
                    exact ⟨rfl, HC⟩
                   ·try simp only [nm, ne_eq] at h10
                    refine x_region rfl <| Wp rfl <| st_seql rfl rfl <| aB rfl <| en <| x_cond rfl (fun h11 => ?_) (fun h11 => ?_)
                    ·try simp only [nm, ne_eq] at h11
                     refine sr rfl <| Wp rfl <| st_call (ags := []) rfl rfl T.ent10 rfl (awake24_spec hmx ht) ?_
                     rintro _ w71 ⟨rfl, c72⟩
                     replace HC := HC.then c72
                     replace hT := hT.tr0 c72
                     replace hl := hl.tr0 c72
                     replace hmx := hmx.tr0 c72
                     replace ht := ht.tr0 c72
                     replace hb4 := hb4.tr0 c72
                     refine aB rfl <| en <| x_ret <| block_r <| then_r <| ret_tmp (v := .bool _) rfl rfl ?_
                     exact ⟨rfl, HC⟩
                    ·try simp only [nm, ne_eq] at h11
                     have hmt : testV Z cwd ([33] :: [a, b]) = turnN (testV Z cwd [a, b]) := test_turn (by simp) (by simp) (fun a' b' h => by cases h; unfold binL; simp only [List.mem_cons, List.mem_nil_iff, or_false, not_or]; exact ⟨h4, h5, h6, h7, h8, h9, h10, h11⟩)
                     have hn2 := test_in Z cwd ([33] :: [a, b])
                     refine x_skip <| block_n <| then_n <| sr rfl <| mI rfl <| Wp rfl <| st_eql rfl rfl <| mI rfl <| Wp rfl <| st_eql rfl rfl <| Wp rfl <| st_beql T.u4 rfl rfl <| mB rfl <| w_split (d := 72) rfl (fun g73 => ?_) (fun g73 => ?_)
                     ·try simp only [nm, ne_eq] at g73
                      refine w_yes 5 72 true <| st_move (v := .int _ _) rfl <| w_yes 5 72 true <| st_eql rfl rfl <| w_yes 5 72 true <| st_move (v := .bool _) rfl <| w_split (d := 75) rfl (fun g74 => ?_) (fun g74 => ?_)
                      ·try simp only [nm, ne_eq] at g74
                       iterate 4 refine w_no 8 75 false ?_
                       refine w_yes 5 72 true <| st_pick (b := true) (v := .bool _) rfl rfl <| pT rfl rfl <| mB rfl <| w_yes 15 82 true <| st_call (ags := []) rfl rfl T.ent10 rfl (awake24_spec hmx ht) ?_
                       rintro _ w75 ⟨rfl, c76⟩
                       replace HC := HC.then c76
                       replace hT := hT.tr0 c76
                       replace hl := hl.tr0 c76
                       replace hmx := hmx.tr0 c76
                       replace ht := ht.tr0 c76
                       replace hb4 := hb4.tr0 c76
                       refine pT rfl rfl <| aB rfl <| en <| x_ret <| ret_tmp (v := .bool _) rfl rfl ?_
                       exact ⟨rfl, HC⟩
                      ·try simp only [nm, ne_eq] at g74
                       refine w_yes 8 75 false <| st_move (v := .int _ _) rfl <| w_yes 8 75 false <| st_move (v := .int _ _) rfl <| w_yes 8 75 false <| st_addn rfl rfl (by constructor <;> omega) <| w_yes 8 75 false <| st_eql rfl rfl <| w_yes 5 72 true <| st_pick (b := false) (v := .bool _) rfl rfl <| pT rfl rfl <| mB rfl <| w_split (d := 82) rfl (fun g77 => ?_) (fun g77 => ?_)
                       ·try simp only [nm, ne_eq] at g77
                        refine w_yes 15 82 true <| st_call (ags := []) rfl rfl T.ent10 rfl (awake24_spec hmx ht) ?_
                        rintro _ w78 ⟨rfl, c79⟩
                        replace HC := HC.then c79
                        replace hT := hT.tr0 c79
                        replace hl := hl.tr0 c79
                        replace hmx := hmx.tr0 c79
                        replace ht := ht.tr0 c79
                        replace hb4 := hb4.tr0 c79
                        refine pT rfl rfl <| aB rfl <| en <| x_ret <| ret_tmp (v := .bool _) rfl rfl ?_
                        exact ⟨rfl, HC⟩
                       ·try simp only [nm, ne_eq] at g77
                        exfalso; first | (rcases hn with h | h | h <;> rw [h] at * <;> omega) | (have ha := turn_tell hn; rw [← hmt] at ha; simp_all; done) | (have ha := turn_tell hn; rw [← hmt] at ha; rcases ha.2 with h | h <;> simp_all)
                     ·try simp only [nm, ne_eq] at g73
                      exfalso; first | (rcases hn with h | h | h <;> rw [h] at * <;> omega) | (have ha := turn_tell hn; rw [← hmt] at ha; simp_all; done) | (have ha := turn_tell hn; rw [← hmt] at ha; rcases ha.2 with h | h <;> simp_all)
            ·try simp only [nm, ne_eq] at h3
             have hmt : testV Z cwd ([33] :: l) = turnN (testV Z cwd l) := test_turn (by omega) (by omega) (fun a b h => by subst h; simp_all)
             have hn2 := test_in Z cwd ([33] :: l)
             refine x_skip <| then_n <| sr rfl <| mI rfl <| Wp rfl <| st_eql rfl rfl <| mI rfl <| Wp rfl <| st_eql rfl rfl <| Wp rfl <| st_beql T.u4 rfl rfl <| mB rfl <| w_split (d := 72) rfl (fun g80 => ?_) (fun g80 => ?_)
             ·try simp only [nm, ne_eq] at g80
              refine w_yes 5 72 true <| st_move (v := .int _ _) rfl <| w_yes 5 72 true <| st_eql rfl rfl <| w_yes 5 72 true <| st_move (v := .bool _) rfl <| w_split (d := 75) rfl (fun g81 => ?_) (fun g81 => ?_)
              ·try simp only [nm, ne_eq] at g81
               iterate 4 refine w_no 8 75 false ?_
               refine w_yes 5 72 true <| st_pick (b := true) (v := .bool _) rfl rfl <| pT rfl rfl <| mB rfl <| w_yes 15 82 true <| st_call (ags := []) rfl rfl T.ent10 rfl (awake24_spec hmx ht) ?_
               rintro _ w82 ⟨rfl, c83⟩
               replace HC := HC.then c83
               replace hT := hT.tr0 c83
               replace hl := hl.tr0 c83
               replace hmx := hmx.tr0 c83
               replace ht := ht.tr0 c83
               replace hb4 := hb4.tr0 c83
               refine pT rfl rfl <| aB rfl <| en <| x_ret <| ret_tmp (v := .bool _) rfl rfl ?_
               exact ⟨rfl, HC⟩
              ·try simp only [nm, ne_eq] at g81
               refine w_yes 8 75 false <| st_move (v := .int _ _) rfl <| w_yes 8 75 false <| st_move (v := .int _ _) rfl <| w_yes 8 75 false <| st_addn rfl rfl (by constructor <;> omega) <| w_yes 8 75 false <| st_eql rfl rfl <| w_yes 5 72 true <| st_pick (b := false) (v := .bool _) rfl rfl <| pT rfl rfl <| mB rfl <| w_split (d := 82) rfl (fun g84 => ?_) (fun g84 => ?_)
               ·try simp only [nm, ne_eq] at g84
                refine w_yes 15 82 true <| st_call (ags := []) rfl rfl T.ent10 rfl (awake24_spec hmx ht) ?_
                rintro _ w85 ⟨rfl, c86⟩
                replace HC := HC.then c86
                replace hT := hT.tr0 c86
                replace hl := hl.tr0 c86
                replace hmx := hmx.tr0 c86
                replace ht := ht.tr0 c86
                replace hb4 := hb4.tr0 c86
                refine pT rfl rfl <| aB rfl <| en <| x_ret <| ret_tmp (v := .bool _) rfl rfl ?_
                exact ⟨rfl, HC⟩
               ·try simp only [nm, ne_eq] at g84
                exfalso; first | (rcases hn with h | h | h <;> rw [h] at * <;> omega) | (have ha := turn_tell hn; rw [← hmt] at ha; simp_all; done) | (have ha := turn_tell hn; rw [← hmt] at ha; rcases ha.2 with h | h <;> simp_all)
             ·try simp only [nm, ne_eq] at g80
              exfalso; first | (rcases hn with h | h | h <;> rw [h] at * <;> omega) | (have ha := turn_tell hn; rw [← hmt] at ha; simp_all; done) | (have ha := turn_tell hn; rw [← hmt] at ha; rcases ha.2 with h | h <;> simp_all)
        exact tr_nil
       exact tr_nil
      exact tr_nil
     refine tr_br ?_ ?_
     ·refine sq_lit1 (ps := [(0, .const (S [93]))]) (vs := [S _]) rfl T.lit29 (by decide) rfl (by simp only [List.forall_mem_cons, List.not_mem_nil, false_imp_iff, implies_true, and_true]; exact rfl) rfl ?_
      intro b87 w88 e89 c90 hb91
      have ge_b87 : w.heap.size ≤ b87 := by rw [e89]; exact HC.size
      have ne_b3_b87 : b3 ≠ b87 := by rw [e89]; exact hb4.ne_size
      have ne_b16_b87 : b16 ≠ b87 := by rw [e89]; exact hb20.ne_size
      replace HC := HC.then c90
      replace hT := hT.tr0 c90
      replace hl := hl.tr0 c90
      replace hmx := hmx.tr0 c90
      replace ht := ht.tr0 c90
      replace hb4 := hb4.tr0 c90
      replace hb20 := hb20.tr0 c90
      clear e89
      refine ⟨_, fun _ h => h, ⟨(Eq.trans hb4 o13.symm), trivial⟩, ?_⟩
      refine sq_nil <| tr_br ?_ ?_
      ·have hoL : Own sE 9 w88 (fun k => w.heap.size ≤ k ∧ k ≠ b3) (some ⟨b16, 0, none⟩) _ ([] : List Bytes) := Own.of_blk (xs := ([] : List Bytes)) (c := sE) hb20 ⟨ge_b16, Ne.symm ne_b3_b16⟩ (by simp) (chunks_flat _)
       have hszA := HC.size
       refine sq_appendS (D := (fun k => w.heap.size ≤ k ∧ k ≠ b3)) (xs := ([] : List Bytes)) (ys := l) rfl T.slice29 rfl rfl hoL rfl rfl hl (fun k hk => ⟨by omega, by have := hb4.lt; omega⟩) (by simp only [List.length_append, List.length_cons, List.length_nil]; omega) (by simp only [List.length_append, List.length_cons, List.length_nil]; omega) ?_
       intro A1 c1 w92 ho94 c93
       replace HC := HC.trans c93 (fun k hk => .inr (hoL.inD k hk).1)
       replace hT := hT.tr c93 (fun k hk hD => Nat.not_le.2 (show k < w.heap.size from hD) (hoL.inD k hk).1)
       replace hl := hl.tr c93 (fun k hk hD => Nat.not_le.2 (show k < w.heap.size from hD) (hoL.inD k hk).1)
       replace hmx := hmx.tr c93 (fun hx => Nat.not_le.2 hm1 (hoL.inD _ hx).1)
       replace ht := ht.tr c93 (fun hx => Nat.not_le.2 ht1 (hoL.inD _ hx).1)
       replace hb4 := hb4.tr c93 (fun hx => (hoL.inD _ hx).2 rfl)
       replace hb91 := hb91.tr c93 (fun hx => absurd (List.mem_singleton.1 (show b87 ∈ [b16] from hx)) (Ne.symm ne_b16_b87))
       refine ⟨_, fun _ h => h, ⟨(Eq.trans hb4 o13.symm), trivial⟩, ?_⟩
       refine sq_nil <| tr_br ?_ ?_
       ·have hszA := HC.size
        refine sq_appendS (D := (fun k => w.heap.size ≤ k ∧ k ≠ b3)) (xs := ([] ++ l : List Bytes)) (ys := [[(93 : UInt8)]]) rfl T.slice29 rfl rfl ho94 rfl rfl (sl_lit (f := fun s : Bytes => [S s]) [[(93 : UInt8)]] (by simp) hb91) (fun k hk => ⟨by omega, by have := hb4.lt; omega⟩) (by simp only [List.length_append, List.length_cons, List.length_nil]; omega) (by simp only [List.length_append, List.length_cons, List.length_nil]; omega) ?_
        intro A2 c2 w95 ho97 c96
        replace HC := HC.trans c96 (fun k hk => .inr (ho94.inD k hk).1)
        replace hT := hT.tr c96 (fun k hk hD => Nat.not_le.2 (show k < w.heap.size from hD) (ho94.inD k hk).1)
        replace hl := hl.tr c96 (fun k hk hD => Nat.not_le.2 (show k < w.heap.size from hD) (ho94.inD k hk).1)
        replace hmx := hmx.tr c96 (fun hx => Nat.not_le.2 hm1 (ho94.inD _ hx).1)
        replace ht := ht.tr c96 (fun hx => Nat.not_le.2 ht1 (ho94.inD _ hx).1)
        replace hb4 := hb4.tr c96 (fun hx => (ho94.inD _ hx).2 rfl)
        obtain ⟨gz, rfl, hgz⟩ : ∃ g, A2 = some ⟨g, 0, none⟩ ∧ l.length < c2 := by rcases ho97.form with ⟨_, _, h⟩ | ⟨g, h1, _, h3, _⟩; (simp at h); exact ⟨g, h1, by simp at h3; omega⟩
        rw [show (([] ++ l : List Bytes) ++ [[(93 : UInt8)]]).length = l.length + 1 from by simp]
        refine ⟨_, fun _ h => h, ⟨(Eq.trans hb4 o13.symm), trivial⟩, ?_⟩
        refine sq_nil <| tr_br ?_ ?_
        ·refine sq_call1 rfl (r_call (ags := [_, _, _]) rfl rfl T.ent13 rfl) (Bracket_at hT hTl hF ho97.sl hgz (by omega) hmx ht hb) ?_
         rintro _ w98 ⟨rfl, c99⟩
         replace HC := HC.then c99
         replace hT := hT.tr0 c99
         replace hl := hl.tr0 c99
         replace hmx := hmx.tr0 c99
         replace ht := ht.tr0 c99
         replace hb4 := hb4.tr0 c99
         refine ⟨_, fun _ h => h, ⟨(Eq.trans hb4 o13.symm), trivial⟩, ?_⟩
         refine sq_q rfl (fun W hT => r_neq rfl rfl) <| sq_q rfl (fun W hT => r_pick (b := false) (v := .bool _) rfl rfl) <| sq_nil ?_
         clear o13
         refine tr_stop <| then_n <| x_cond rfl (fun h1 => ?_) (fun h1 => ?_)
         ·try simp only [nm, ne_eq] at h1
          first | exact absurd rfl h1 | exact absurd trivial h1 | (simp at h1; done)
         ·try simp only [nm, ne_eq] at h1
          refine x_skip <| then_n <| x_seq <| sr rfl <| mL rfl <| Wp rfl <| st_len (ct := #[29]) (by rw [show ((#[29] : Array TypeId)[0]?).bind Tryd.prog.underlying = some (.slice 9) from T.u29]; rfl) rfl <| Wp rfl <| st_lss rfl rfl <| mB rfl <| w_split (d := 39) rfl (fun g100 => ?_) (fun g100 => ?_)
          ·try simp only [nm, ne_eq] at g100
           iterate 3 refine w_no 3 39 false ?_
           refine pT rfl rfl <| en <| x_cond (t := true) rfl (fun h2 => ?_) (fun h2 => ?_)
           rotate_left
           · exact absurd h2 (by decide)
           refine sr rfl <| Wp rfl <| st_call (ags := []) rfl rfl T.ent10 rfl (awake24_spec hmx ht) ?_
           rintro _ w101 ⟨rfl, c102⟩
           replace HC := HC.then c102
           replace hT := hT.tr0 c102
           replace hl := hl.tr0 c102
           replace hmx := hmx.tr0 c102
           replace ht := ht.tr0 c102
           replace hb4 := hb4.tr0 c102
           refine aB rfl <| en <| x_ret <| then_r <| ret_tmp (v := .bool _) rfl rfl ?_
           exact ⟨rfl, HC⟩
          ·try simp only [nm, ne_eq] at g100
           refine w_yes 3 39 false <| st_move (v := .slice _ _ _) rfl <| w_yes 3 39 false <| st_len (ct := #[29]) (by rw [show ((#[29] : Array TypeId)[0]?).bind Tryd.prog.underlying = some (.slice 9) from T.u29]; rfl) rfl <| w_yes 3 39 false <| st_gtr rfl rfl <| pF rfl rfl <| en <| x_cond rfl (fun h2 => ?_) (fun h2 => ?_)
           ·try simp only [nm, ne_eq] at h2
            refine sr rfl <| Wp rfl <| st_call (ags := []) rfl rfl T.ent10 rfl (awake24_spec hmx ht) ?_
            rintro _ w103 ⟨rfl, c104⟩
            replace HC := HC.then c104
            replace hT := hT.tr0 c104
            replace hl := hl.tr0 c104
            replace hmx := hmx.tr0 c104
            replace ht := ht.tr0 c104
            replace hb4 := hb4.tr0 c104
            refine aB rfl <| en <| x_ret <| then_r <| ret_tmp (v := .bool _) rfl rfl ?_
            exact ⟨rfl, HC⟩
           ·try simp only [nm, ne_eq] at h2
            refine x_skip <| then_n <| x_seq <| x_draw [(0, 0), (1, 0), (3, 0), (2, 1), (4, 1), (5, 1), (6, 0)] T.mixed rfl rfl rfl (fun W => W.heap[b3]? = w98.heap[b3]? ∧ True) ⟨rfl, trivial⟩ ?_
            have o107 := hb4
            have c106 := Chg.drew w98
            generalize World.drew w98 = w105 at c106 ⊢
            replace HC := HC.then c106
            replace hT := hT.tr0 c106
            replace hl := hl.tr0 c106
            replace hmx := hmx.tr0 c106
            replace ht := ht.tr0 c106
            replace hb4 := hb4.tr0 c106
            refine sq_q rfl (fun W hT => r_loadA (vs := [_, _, _]) T.agg24 rfl (Blk.cells (n := 3) (vs := [_, _, _]) (show Blk W b3 _ _ from hT.1.trans o107) rfl) rfl) <| sq_q rfl (fun W hT => r_move (v := .int _ _) rfl) <| sq_q rfl (fun W hT => r_move (v := .slice _ _ _) rfl) <| sq_lit1 (ps := [(0, .const (S [33]))]) (vs := [S _]) rfl T.lit29 (by decide) rfl (by simp only [List.forall_mem_cons, List.not_mem_nil, false_imp_iff, implies_true, and_true]; exact rfl) rfl ?_
            intro b108 w109 e110 c111 hb112
            have ge_b108 : w.heap.size ≤ b108 := by rw [e110]; exact HC.size
            have ne_b3_b108 : b3 ≠ b108 := by rw [e110]; exact hb4.ne_size
            replace HC := HC.then c111
            replace hT := hT.tr0 c111
            replace hl := hl.tr0 c111
            replace hmx := hmx.tr0 c111
            replace ht := ht.tr0 c111
            replace hb4 := hb4.tr0 c111
            clear e110
            refine ⟨_, fun _ h => h, ⟨(Eq.trans hb4 o107.symm), trivial⟩, ?_⟩
            have hoL : Own sE 9 w109 (fun k => w.heap.size ≤ k ∧ k ≠ b3) (some ⟨b108, 0, none⟩) _ [[(33 : UInt8)]] := Own.of_blk (xs := [[(33 : UInt8)]]) (c := sE) hb112 ⟨ge_b108, Ne.symm ne_b3_b108⟩ (by simp) (chunks_flat _)
            have hszA := HC.size
            refine sq_appendS (D := (fun k => w.heap.size ≤ k ∧ k ≠ b3)) (xs := [[(33 : UInt8)]]) (ys := l) rfl T.slice29 rfl rfl hoL rfl rfl hl (fun k hk => ⟨by omega, by have := hb4.lt; omega⟩) (by simp only [List.length_append, List.length_cons, List.length_nil]; omega) (by simp only [List.length_append, List.length_cons, List.length_nil]; omega) ?_
            intro A1 c1 w113 ho115 c114
            replace HC := HC.trans c114 (fun k hk => .inr (hoL.inD k hk).1)
            replace hT := hT.tr c114 (fun k hk hD => Nat.not_le.2 (show k < w.heap.size from hD) (hoL.inD k hk).1)
            replace hl := hl.tr c114 (fun k hk hD => Nat.not_le.2 (show k < w.heap.size from hD) (hoL.inD k hk).1)
            replace hmx := hmx.tr c114 (fun hx => Nat.not_le.2 hm1 (hoL.inD _ hx).1)
            replace ht := ht.tr c114 (fun hx => Nat.not_le.2 ht1 (hoL.inD _ hx).1)
            replace hb4 := hb4.tr c114 (fun hx => (hoL.inD _ hx).2 rfl)
            refine ⟨_, fun _ h => h, ⟨(Eq.trans hb4 o107.symm), trivial⟩, ?_⟩
            refine sq_call1 rfl (r_call (ags := [_, _, _]) rfl rfl T.ent8 rfl) (test_spec (l := [33] :: l) hT hTl hF ho115.sl (by have h9 := ho115.le.1; simpa using h9) hmx ht (fun s hs => by rcases List.mem_cons.1 hs with rfl | hs; (simp); exact hb s hs)) ?_
            rintro _ w116 ⟨rfl, c117⟩
            replace HC := HC.then c117
            replace hT := hT.tr0 c117
            replace hl := hl.tr0 c117
            replace hmx := hmx.tr0 c117
            replace ht := ht.tr0 c117
            replace hb4 := hb4.tr0 c117
            refine ⟨_, fun _ h => h, ⟨(Eq.trans hb4 o107.symm), trivial⟩, ?_⟩
            refine sq_q rfl (fun W hT => r_assign (v := .int _ _) rfl) ?_
            clear o107
            refine sq_nil <| then_n <| x_seq <| sr rfl <| mL rfl <| Wp rfl <| st_len (ct := #[29]) (by rw [show ((#[29] : Array TypeId)[0]?).bind Tryd.prog.underlying = some (.slice 9) from T.u29]; rfl) rfl <| Wp rfl <| st_eql rfl rfl <| en <| x_cond rfl (fun h3 => ?_) (fun h3 => ?_)
            ·try simp only [nm, ne_eq] at h3
             obtain ⟨a, b, rfl⟩ : ∃ a b, l = [a, b] := by match l, (show l.length = 2 by omega) with | [a, b], _ => exact ⟨a, b, rfl⟩
             refine sr rfl <| mL rfl ?_
             obtain ⟨lb122, _, vs121, hA118, hR120, hC119⟩ := hl.at (i := 0) (x := a) (rfl)
             obtain rfl : vs121 = [S a] := hR120
             refine Wp rfl <| st_indexAddr T.u29 T.size9 (congrArg (fun z => Value.slice z _ _) hA118) rfl (by simp) (by simp) <| lS T.one9 rfl (hC119.at (j := 0) rfl) <| en <| x_block <| x_seq <| sr rfl <| Wp rfl <| st_seql rfl rfl <| aB rfl <| en <| x_cond rfl (fun h4 => ?_) (fun h4 => ?_)
             ·try simp only [nm, ne_eq] at h4
              refine x_skip <| then_n <| x_cond rfl (fun h11 => ?_) (fun h11 => ?_)
              rotate_left
              · exfalso; simp_all
              refine sr rfl <| Wp rfl <| st_call (ags := []) rfl rfl T.ent10 rfl (awake24_spec hmx ht) ?_
              rintro _ w123 ⟨rfl, c124⟩
              replace HC := HC.then c124
              replace hT := hT.tr0 c124
              replace hl := hl.tr0 c124
              replace hmx := hmx.tr0 c124
              replace ht := ht.tr0 c124
              replace hb4 := hb4.tr0 c124
              refine aB rfl <| en <| x_ret <| block_r <| then_r <| ret_tmp (v := .bool _) rfl rfl ?_
              exact ⟨rfl, HC⟩
             ·try simp only [nm, ne_eq] at h4
              refine sr rfl <| Wp rfl <| st_seql rfl rfl <| aB rfl <| en <| x_cond rfl (fun h5 => ?_) (fun h5 => ?_)
              ·try simp only [nm, ne_eq] at h5
               refine x_skip <| then_n <| x_cond rfl (fun h11 => ?_) (fun h11 => ?_)
               rotate_left
               · exfalso; simp_all
               refine sr rfl <| Wp rfl <| st_call (ags := []) rfl rfl T.ent10 rfl (awake24_spec hmx ht) ?_
               rintro _ w125 ⟨rfl, c126⟩
               replace HC := HC.then c126
               replace hT := hT.tr0 c126
               replace hl := hl.tr0 c126
               replace hmx := hmx.tr0 c126
               replace ht := ht.tr0 c126
               replace hb4 := hb4.tr0 c126
               refine aB rfl <| en <| x_ret <| block_r <| then_r <| ret_tmp (v := .bool _) rfl rfl ?_
               exact ⟨rfl, HC⟩
              ·try simp only [nm, ne_eq] at h5
               refine sr rfl <| Wp rfl <| st_seql rfl rfl <| aB rfl <| en <| x_cond rfl (fun h6 => ?_) (fun h6 => ?_)
               ·try simp only [nm, ne_eq] at h6
                refine x_skip <| then_n <| x_cond rfl (fun h11 => ?_) (fun h11 => ?_)
                rotate_left
                · exfalso; simp_all
                refine sr rfl <| Wp rfl <| st_call (ags := []) rfl rfl T.ent10 rfl (awake24_spec hmx ht) ?_
                rintro _ w127 ⟨rfl, c128⟩
                replace HC := HC.then c128
                replace hT := hT.tr0 c128
                replace hl := hl.tr0 c128
                replace hmx := hmx.tr0 c128
                replace ht := ht.tr0 c128
                replace hb4 := hb4.tr0 c128
                refine aB rfl <| en <| x_ret <| block_r <| then_r <| ret_tmp (v := .bool _) rfl rfl ?_
                exact ⟨rfl, HC⟩
               ·try simp only [nm, ne_eq] at h6
                refine sr rfl <| Wp rfl <| st_seql rfl rfl <| aB rfl <| en <| x_cond rfl (fun h7 => ?_) (fun h7 => ?_)
                ·try simp only [nm, ne_eq] at h7
                 refine x_skip <| then_n <| x_cond rfl (fun h11 => ?_) (fun h11 => ?_)
                 rotate_left
                 · exfalso; simp_all
                 refine sr rfl <| Wp rfl <| st_call (ags := []) rfl rfl T.ent10 rfl (awake24_spec hmx ht) ?_
                 rintro _ w129 ⟨rfl, c130⟩
                 replace HC := HC.then c130
                 replace hT := hT.tr0 c130
                 replace hl := hl.tr0 c130
                 replace hmx := hmx.tr0 c130
                 replace ht := ht.tr0 c130
                 replace hb4 := hb4.tr0 c130
                 refine aB rfl <| en <| x_ret <| block_r <| then_r <| ret_tmp (v := .bool _) rfl rfl ?_
                 exact ⟨rfl, HC⟩
                ·try simp only [nm, ne_eq] at h7
                 refine sr rfl <| Wp rfl <| st_seql rfl rfl <| aB rfl <| en <| x_cond rfl (fun h8 => ?_) (fun h8 => ?_)
                 ·try simp only [nm, ne_eq] at h8
                  refine x_skip <| then_n <| x_cond rfl (fun h11 => ?_) (fun h11 => ?_)
                  rotate_left
                  · exfalso; simp_all
                  refine sr rfl <| Wp rfl <| st_call (ags := []) rfl rfl T.ent10 rfl (awake24_spec hmx ht) ?_
                  rintro _ w131 ⟨rfl, c132⟩
                  replace HC := HC.then c132
                  replace hT := hT.tr0 c132
                  replace hl := hl.tr0 c132
                  replace hmx := hmx.tr0 c132
                  replace ht := ht.tr0 c132
                  replace hb4 := hb4.tr0 c132
                  refine aB rfl <| en <| x_ret <| block_r <| then_r <| ret_tmp (v := .bool _) rfl rfl ?_
                  exact ⟨rfl, HC⟩
                 ·try simp only [nm, ne_eq] at h8
                  refine sr rfl <| Wp rfl <| st_seql rfl rfl <| aB rfl <| en <| x_cond rfl (fun h9 => ?_) (fun h9 => ?_)
                  ·try simp only [nm, ne_eq] at h9
                   refine x_skip <| then_n <| x_cond rfl (fun h11 => ?_) (fun h11 => ?_)
                   rotate_left
                   · exfalso; simp_all
                   refine sr rfl <| Wp rfl <| st_call (ags := []) rfl rfl T.ent10 rfl (awake24_spec hmx ht) ?_
                   rintro _ w133 ⟨rfl, c134⟩
                   replace HC := HC.then c134
                   replace hT := hT.tr0 c134
                   replace hl := hl.tr0 c134
                   replace hmx := hmx.tr0 c134
                   replace ht := ht.tr0 c134
                   replace hb4 := hb4.tr0 c134
                   refine aB rfl <| en <| x_ret <| block_r <| then_r <| ret_tmp (v := .bool _) rfl rfl ?_
                   exact ⟨rfl, HC⟩
                  ·try simp only [nm, ne_eq] at h9
                   refine sr rfl <| Wp rfl <| st_seql rfl rfl <| aB rfl <| en <| x_cond rfl (fun h10 => ?_) (fun h10 => ?_)
                   ·try simp only [nm, ne_eq] at h10
                    refine x_skip <| then_n <| x_cond rfl (fun h11 => ?_) (fun h11 => ?_)
                    rotate_left
                    · exfalso; simp_all
                    refine sr rfl <| Wp rfl <| st_call (ags := []) rfl rfl T.ent10 rfl (awake24_spec hmx ht) ?_
                    rintro _ w135 ⟨rfl, c136⟩
                    replace HC := HC.then c136
                    replace hT := hT.tr0 c136
                    replace hl := hl.tr0 c136
                    replace hmx := hmx.tr0 c136
                    replace ht := ht.tr0 c136
                    replace hb4 := hb4.tr0 c136
                    refine aB rfl <| en <| x_ret <| block_r <| then_r <| ret_tmp (v := .bool _) rfl rfl ?_
                    exact ⟨rfl, HC⟩
                   ·try simp only [nm, ne_eq] at h10
                    refine x_region rfl <| Wp rfl <| st_seql rfl rfl <| aB rfl <| en <| x_cond rfl (fun h11 => ?_) (fun h11 => ?_)
                    ·try simp only [nm, ne_eq] at h11
                     refine sr rfl <| Wp rfl <| st_call (ags := []) rfl rfl T.ent10 rfl (awake24_spec hmx ht) ?_
                     rintro _ w137 ⟨rfl, c138⟩
                     replace HC := HC.then c138
                     replace hT := hT.tr0 c138
                     replace hl := hl.tr0 c138
                     replace hmx := hmx.tr0 c138
                     replace ht := ht.tr0 c138
                     replace hb4 := hb4.tr0 c138
                     refine aB rfl <| en <| x_ret <| block_r <| then_r <| ret_tmp (v := .bool _) rfl rfl ?_
                     exact ⟨rfl, HC⟩
                    ·try simp only [nm, ne_eq] at h11
                     have hmt : testV Z cwd ([33] :: [a, b]) = turnN (testV Z cwd [a, b]) := test_turn (by simp) (by simp) (fun a' b' h => by cases h; unfold binL; simp only [List.mem_cons, List.mem_nil_iff, or_false, not_or]; exact ⟨h4, h5, h6, h7, h8, h9, h10, h11⟩)
                     have hn2 := test_in Z cwd ([33] :: [a, b])
                     refine x_skip <| block_n <| then_n <| sr rfl <| mI rfl <| Wp rfl <| st_eql rfl rfl <| mI rfl <| Wp rfl <| st_eql rfl rfl <| Wp rfl <| st_beql T.u4 rfl rfl <| mB rfl <| w_split (d := 72) rfl (fun g139 => ?_) (fun g139 => ?_)
                     ·try simp only [nm, ne_eq] at g139
                      refine w_yes 5 72 true <| st_move (v := .int _ _) rfl <| w_yes 5 72 true <| st_eql rfl rfl <| w_yes 5 72 true <| st_move (v := .bool _) rfl <| w_split (d := 75) rfl (fun g140 => ?_) (fun g140 => ?_)
                      ·try simp only [nm, ne_eq] at g140
                       iterate 4 refine w_no 8 75 false ?_
                       refine w_yes 5 72 true <| st_pick (b := true) (v := .bool _) rfl rfl <| pT rfl rfl <| mB rfl <| w_yes 15 82 true <| st_call (ags := []) rfl rfl T.ent10 rfl (awake24_spec hmx ht) ?_
                       rintro _ w141 ⟨rfl, c142⟩
                       replace HC := HC.then c142
                       replace hT := hT.tr0 c142
                       replace hl := hl.tr0 c142
                       replace hmx := hmx.tr0 c142
                       replace ht := ht.tr0 c142
                       replace hb4 := hb4.tr0 c142
                       refine pT rfl rfl <| aB rfl <| en <| x_ret <| ret_tmp (v := .bool _) rfl rfl ?_
                       exact ⟨rfl, HC⟩
                      ·try simp only [nm, ne_eq] at g140
                       refine w_yes 8 75 false <| st_move (v := .int _ _) rfl <| w_yes 8 75 false <| st_move (v := .int _ _) rfl <| w_yes 8 75 false <| st_addn rfl rfl (by constructor <;> omega) <| w_yes 8 75 false <| st_eql rfl rfl <| w_yes 5 72 true <| st_pick (b := false) (v := .bool _) rfl rfl <| pT rfl rfl <| mB rfl <| w_split (d := 82) rfl (fun g143 => ?_) (fun g143 => ?_)
                       ·try simp only [nm, ne_eq] at g143
                        refine w_yes 15 82 true <| st_call (ags := []) rfl rfl T.ent10 rfl (awake24_spec hmx ht) ?_
                        rintro _ w144 ⟨rfl, c145⟩
                        replace HC := HC.then c145
                        replace hT := hT.tr0 c145
                        replace hl := hl.tr0 c145
                        replace hmx := hmx.tr0 c145
                        replace ht := ht.tr0 c145
                        replace hb4 := hb4.tr0 c145
                        refine pT rfl rfl <| aB rfl <| en <| x_ret <| ret_tmp (v := .bool _) rfl rfl ?_
                        exact ⟨rfl, HC⟩
                       ·try simp only [nm, ne_eq] at g143
                        exfalso; first | (rcases hn with h | h | h <;> rw [h] at * <;> omega) | (have ha := turn_tell hn; rw [← hmt] at ha; simp_all; done) | (have ha := turn_tell hn; rw [← hmt] at ha; rcases ha.2 with h | h <;> simp_all)
                     ·try simp only [nm, ne_eq] at g139
                      exfalso; first | (rcases hn with h | h | h <;> rw [h] at * <;> omega) | (have ha := turn_tell hn; rw [← hmt] at ha; simp_all; done) | (have ha := turn_tell hn; rw [← hmt] at ha; rcases ha.2 with h | h <;> simp_all)
            ·try simp only [nm, ne_eq] at h3
             have hmt : testV Z cwd ([33] :: l) = turnN (testV Z cwd l) := test_turn (by omega) (by omega) (fun a b h => by subst h; simp_all)
             have hn2 := test_in Z cwd ([33] :: l)
             refine x_skip <| then_n <| sr rfl <| mI rfl <| Wp rfl <| st_eql rfl rfl <| mI rfl <| Wp rfl <| st_eql rfl rfl <| Wp rfl <| st_beql T.u4 rfl rfl <| mB rfl <| w_split (d := 72) rfl (fun g146 => ?_) (fun g146 => ?_)
             ·try simp only [nm, ne_eq] at g146
              refine w_yes 5 72 true <| st_move (v := .int _ _) rfl <| w_yes 5 72 true <| st_eql rfl rfl <| w_yes 5 72 true <| st_move (v := .bool _) rfl <| w_split (d := 75) rfl (fun g147 => ?_) (fun g147 => ?_)
              ·try simp only [nm, ne_eq] at g147
               iterate 4 refine w_no 8 75 false ?_
               refine w_yes 5 72 true <| st_pick (b := true) (v := .bool _) rfl rfl <| pT rfl rfl <| mB rfl <| w_yes 15 82 true <| st_call (ags := []) rfl rfl T.ent10 rfl (awake24_spec hmx ht) ?_
               rintro _ w148 ⟨rfl, c149⟩
               replace HC := HC.then c149
               replace hT := hT.tr0 c149
               replace hl := hl.tr0 c149
               replace hmx := hmx.tr0 c149
               replace ht := ht.tr0 c149
               replace hb4 := hb4.tr0 c149
               refine pT rfl rfl <| aB rfl <| en <| x_ret <| ret_tmp (v := .bool _) rfl rfl ?_
               exact ⟨rfl, HC⟩
              ·try simp only [nm, ne_eq] at g147
               refine w_yes 8 75 false <| st_move (v := .int _ _) rfl <| w_yes 8 75 false <| st_move (v := .int _ _) rfl <| w_yes 8 75 false <| st_addn rfl rfl (by constructor <;> omega) <| w_yes 8 75 false <| st_eql rfl rfl <| w_yes 5 72 true <| st_pick (b := false) (v := .bool _) rfl rfl <| pT rfl rfl <| mB rfl <| w_split (d := 82) rfl (fun g150 => ?_) (fun g150 => ?_)
               ·try simp only [nm, ne_eq] at g150
                refine w_yes 15 82 true <| st_call (ags := []) rfl rfl T.ent10 rfl (awake24_spec hmx ht) ?_
                rintro _ w151 ⟨rfl, c152⟩
                replace HC := HC.then c152
                replace hT := hT.tr0 c152
                replace hl := hl.tr0 c152
                replace hmx := hmx.tr0 c152
                replace ht := ht.tr0 c152
                replace hb4 := hb4.tr0 c152
                refine pT rfl rfl <| aB rfl <| en <| x_ret <| ret_tmp (v := .bool _) rfl rfl ?_
                exact ⟨rfl, HC⟩
               ·try simp only [nm, ne_eq] at g150
                exfalso; first | (rcases hn with h | h | h <;> rw [h] at * <;> omega) | (have ha := turn_tell hn; rw [← hmt] at ha; simp_all; done) | (have ha := turn_tell hn; rw [← hmt] at ha; rcases ha.2 with h | h <;> simp_all)
             ·try simp only [nm, ne_eq] at g146
              exfalso; first | (rcases hn with h | h | h <;> rw [h] at * <;> omega) | (have ha := turn_tell hn; rw [← hmt] at ha; simp_all; done) | (have ha := turn_tell hn; rw [← hmt] at ha; rcases ha.2 with h | h <;> simp_all)
        exact tr_nil
       exact tr_nil
      exact tr_nil
     exact tr_nil
    refine tr_br ?_ ?_
    ·refine sq_lit1 (ps := [(0, .const (S [93]))]) (vs := [S _]) rfl T.lit29 (by decide) rfl (by simp only [List.forall_mem_cons, List.not_mem_nil, false_imp_iff, implies_true, and_true]; exact rfl) rfl ?_
     intro b153 w154 e155 c156 hb157
     have ge_b153 : w.heap.size ≤ b153 := by rw [e155]; exact HC.size
     have ne_b3_b153 : b3 ≠ b153 := by rw [e155]; exact hb4.ne_size
     replace HC := HC.then c156
     replace hT := hT.tr0 c156
     replace hl := hl.tr0 c156
     replace hmx := hmx.tr0 c156
     replace ht := ht.tr0 c156
     replace hb4 := hb4.tr0 c156
     clear e155
     refine ⟨_, fun _ h => h, ⟨(Eq.trans hb4 o13.symm), trivial⟩, ?_⟩
     refine sq_nil <| tr_br ?_ ?_
     ·refine sq_lit1 (ps := []) (vs := []) rfl T.lit29 (by decide) rfl (by simp) rfl ?_
      intro b158 w159 e160 c161 hb162
      have ge_b158 : w.heap.size ≤ b158 := by rw [e160]; exact HC.size
      have ne_b3_b158 : b3 ≠ b158 := by rw [e160]; exact hb4.ne_size
      have ne_b153_b158 : b153 ≠ b158 := by rw [e160]; exact hb157.ne_size
      replace HC := HC.then c161
      replace hT := hT.tr0 c161
      replace hl := hl.tr0 c161
      replace hmx := hmx.tr0 c161
      replace ht := ht.tr0 c161
      replace hb4 := hb4.tr0 c161
      replace hb157 := hb157.tr0 c161
      clear e160
      refine ⟨_, fun _ h => h, ⟨(Eq.trans hb4 o13.symm), trivial⟩, ?_⟩
      refine sq_nil <| tr_br ?_ ?_
      ·have hoL : Own sE 9 w159 (fun k => w.heap.size ≤ k ∧ k ≠ b3) (some ⟨b158, 0, none⟩) _ ([] : List Bytes) := Own.of_blk (xs := ([] : List Bytes)) (c := sE) hb162 ⟨ge_b158, Ne.symm ne_b3_b158⟩ (by simp) (chunks_flat _)
       have hszA := HC.size
       refine sq_appendS (D := (fun k => w.heap.size ≤ k ∧ k ≠ b3)) (xs := ([] : List Bytes)) (ys := l) rfl T.slice29 rfl rfl hoL rfl rfl hl (fun k hk => ⟨by omega, by have := hb4.lt; omega⟩) (by simp only [List.length_append, List.length_cons, List.length_nil]; omega) (by simp only [List.length_append, List.length_cons, List.length_nil]; omega) ?_
       intro A1 c1 w163 ho165 c164
       replace HC := HC.trans c164 (fun k hk => .inr (hoL.inD k hk).1)
       replace hT := hT.tr c164 (fun k hk hD => Nat.not_le.2 (show k < w.heap.size from hD) (hoL.inD k hk).1)
       replace hl := hl.tr c164 (fun k hk hD => Nat.not_le.2 (show k < w.heap.size from hD) (hoL.inD k hk).1)
       replace hmx := hmx.tr c164 (fun hx => Nat.not_le.2 hm1 (hoL.inD _ hx).1)
       replace ht := ht.tr c164 (fun hx => Nat.not_le.2 ht1 (hoL.inD _ hx).1)
       replace hb4 := hb4.tr c164 (fun hx => (hoL.inD _ hx).2 rfl)
       replace hb157 := hb157.tr c164 (fun hx => absurd (List.mem_singleton.1 (show b153 ∈ [b158] from hx)) ne_b153_b158)
       refine ⟨_, fun _ h => h, ⟨(Eq.trans hb4 o13.symm), trivial⟩, ?_⟩
       refine sq_nil <| tr_br ?_ ?_
       ·have hszA := HC.size
        refine sq_appendS (D := (fun k => w.heap.size ≤ k ∧ k ≠ b3)) (xs := ([] ++ l : List Bytes)) (ys := [[(93 : UInt8)]]) rfl T.slice29 rfl rfl ho165 rfl rfl (sl_lit (f := fun s : Bytes => [S s]) [[(93 : UInt8)]] (by simp) hb157) (fun k hk => ⟨by omega, by have := hb4.lt; omega⟩) (by simp only [List.length_append, List.length_cons, List.length_nil]; omega) (by simp only [List.length_append, List.length_cons, List.length_nil]; omega) ?_
        intro A2 c2 w166 ho168 c167
        replace HC := HC.trans c167 (fun k hk => .inr (ho165.inD k hk).1)
        replace hT := hT.tr c167 (fun k hk hD => Nat.not_le.2 (show k < w.heap.size from hD) (ho165.inD k hk).1)
        replace hl := hl.tr c167 (fun k hk hD => Nat.not_le.2 (show k < w.heap.size from hD) (ho165.inD k hk).1)
        replace hmx := hmx.tr c167 (fun hx => Nat.not_le.2 hm1 (ho165.inD _ hx).1)
        replace ht := ht.tr c167 (fun hx => Nat.not_le.2 ht1 (ho165.inD _ hx).1)
        replace hb4 := hb4.tr c167 (fun hx => (ho165.inD _ hx).2 rfl)
        obtain ⟨gz, rfl, hgz⟩ : ∃ g, A2 = some ⟨g, 0, none⟩ ∧ l.length < c2 := by rcases ho168.form with ⟨_, _, h⟩ | ⟨g, h1, _, h3, _⟩; (simp at h); exact ⟨g, h1, by simp at h3; omega⟩
        rw [show (([] ++ l : List Bytes) ++ [[(93 : UInt8)]]).length = l.length + 1 from by simp]
        refine ⟨_, fun _ h => h, ⟨(Eq.trans hb4 o13.symm), trivial⟩, ?_⟩
        refine sq_nil <| tr_br ?_ ?_
        ·refine sq_call1 rfl (r_call (ags := [_, _, _]) rfl rfl T.ent13 rfl) (Bracket_at hT hTl hF ho168.sl hgz (by omega) hmx ht hb) ?_
         rintro _ w169 ⟨rfl, c170⟩
         replace HC := HC.then c170
         replace hT := hT.tr0 c170
         replace hl := hl.tr0 c170
         replace hmx := hmx.tr0 c170
         replace ht := ht.tr0 c170
         replace hb4 := hb4.tr0 c170
         refine ⟨_, fun _ h => h, ⟨(Eq.trans hb4 o13.symm), trivial⟩, ?_⟩
         refine sq_q rfl (fun W hT => r_neq rfl rfl) <| sq_q rfl (fun W hT => r_pick (b := false) (v := .bool _) rfl rfl) <| sq_nil ?_
         clear o13
         refine tr_stop <| then_n <| x_cond rfl (fun h1 => ?_) (fun h1 => ?_)
         ·try simp only [nm, ne_eq] at h1
          first | exact absurd rfl h1 | exact absurd trivial h1 | (simp at h1; done)
         ·try simp only [nm, ne_eq] at h1
          refine x_skip <| then_n <| x_seq <| sr rfl <| mL rfl <| Wp rfl <| st_len (ct := #[29]) (by rw [show ((#[29] : Array TypeId)[0]?).bind Tryd.prog.underlying = some (.slice 9) from T.u29]; rfl) rfl <| Wp rfl <| st_lss rfl rfl <| mB rfl <| w_split (d := 39) rfl (fun g171 => ?_) (fun g171 => ?_)
          ·try simp only [nm, ne_eq] at g171
           iterate 3 refine w_no 3 39 false ?_
           refine pT rfl rfl <| en <| x_cond (t := true) rfl (fun h2 => ?_) (fun h2 => ?_)
           rotate_left
           · exact absurd h2 (by decide)
           refine sr rfl <| Wp rfl <| st_call (ags := []) rfl rfl T.ent10 rfl (awake24_spec hmx ht) ?_
           rintro _ w172 ⟨rfl, c173⟩
           replace HC := HC.then c173
           replace hT := hT.tr0 c173
           replace hl := hl.tr0 c173
           replace hmx := hmx.tr0 c173
           replace ht := ht.tr0 c173
           replace hb4 := hb4.tr0 c173
           refine aB rfl <| en <| x_ret <| then_r <| ret_tmp (v := .bool _) rfl rfl ?_
           exact ⟨rfl, HC⟩
          ·try simp only [nm, ne_eq] at g171
           refine w_yes 3 39 false <| st_move (v := .slice _ _ _) rfl <| w_yes 3 39 false <| st_len (ct := #[29]) (by rw [show ((#[29] : Array TypeId)[0]?).bind Tryd.prog.underlying = some (.slice 9) from T.u29]; rfl) rfl <| w_yes 3 39 false <| st_gtr rfl rfl <| pF rfl rfl <| en <| x_cond rfl (fun h2 => ?_) (fun h2 => ?_)
           ·try simp only [nm, ne_eq] at h2
            refine sr rfl <| Wp rfl <| st_call (ags := []) rfl rfl T.ent10 rfl (awake24_spec hmx ht) ?_
            rintro _ w174 ⟨rfl, c175⟩
            replace HC := HC.then c175
            replace hT := hT.tr0 c175
            replace hl := hl.tr0 c175
            replace hmx := hmx.tr0 c175
            replace ht := ht.tr0 c175
            replace hb4 := hb4.tr0 c175
            refine aB rfl <| en <| x_ret <| then_r <| ret_tmp (v := .bool _) rfl rfl ?_
            exact ⟨rfl, HC⟩
           ·try simp only [nm, ne_eq] at h2
            refine x_skip <| then_n <| x_seq <| x_draw [(0, 0), (1, 0), (3, 0), (2, 1), (4, 1), (5, 1), (6, 0)] T.mixed rfl rfl rfl (fun W => W.heap[b3]? = w169.heap[b3]? ∧ True) ⟨rfl, trivial⟩ ?_
            have o178 := hb4
            have c177 := Chg.drew w169
            generalize World.drew w169 = w176 at c177 ⊢
            replace HC := HC.then c177
            replace hT := hT.tr0 c177
            replace hl := hl.tr0 c177
            replace hmx := hmx.tr0 c177
            replace ht := ht.tr0 c177
            replace hb4 := hb4.tr0 c177
            refine sq_q rfl (fun W hT => r_loadA (vs := [_, _, _]) T.agg24 rfl (Blk.cells (n := 3) (vs := [_, _, _]) (show Blk W b3 _ _ from hT.1.trans o178) rfl) rfl) <| sq_q rfl (fun W hT => r_move (v := .int _ _) rfl) <| sq_q rfl (fun W hT => r_move (v := .slice _ _ _) rfl) <| sq_lit1 (ps := [(0, .const (S [33]))]) (vs := [S _]) rfl T.lit29 (by decide) rfl (by simp only [List.forall_mem_cons, List.not_mem_nil, false_imp_iff, implies_true, and_true]; exact rfl) rfl ?_
            intro b179 w180 e181 c182 hb183
            have ge_b179 : w.heap.size ≤ b179 := by rw [e181]; exact HC.size
            have ne_b3_b179 : b3 ≠ b179 := by rw [e181]; exact hb4.ne_size
            replace HC := HC.then c182
            replace hT := hT.tr0 c182
            replace hl := hl.tr0 c182
            replace hmx := hmx.tr0 c182
            replace ht := ht.tr0 c182
            replace hb4 := hb4.tr0 c182
            clear e181
            refine ⟨_, fun _ h => h, ⟨(Eq.trans hb4 o178.symm), trivial⟩, ?_⟩
            have hoL : Own sE 9 w180 (fun k => w.heap.size ≤ k ∧ k ≠ b3) (some ⟨b179, 0, none⟩) _ [[(33 : UInt8)]] := Own.of_blk (xs := [[(33 : UInt8)]]) (c := sE) hb183 ⟨ge_b179, Ne.symm ne_b3_b179⟩ (by simp) (chunks_flat _)
            have hszA := HC.size
            refine sq_appendS (D := (fun k => w.heap.size ≤ k ∧ k ≠ b3)) (xs := [[(33 : UInt8)]]) (ys := l) rfl T.slice29 rfl rfl hoL rfl rfl hl (fun k hk => ⟨by omega, by have := hb4.lt; omega⟩) (by simp only [List.length_append, List.length_cons, List.length_nil]; omega) (by simp only [List.length_append, List.length_cons, List.length_nil]; omega) ?_
            intro A1 c1 w184 ho186 c185
            replace HC := HC.trans c185 (fun k hk => .inr (hoL.inD k hk).1)
            replace hT := hT.tr c185 (fun k hk hD => Nat.not_le.2 (show k < w.heap.size from hD) (hoL.inD k hk).1)
            replace hl := hl.tr c185 (fun k hk hD => Nat.not_le.2 (show k < w.heap.size from hD) (hoL.inD k hk).1)
            replace hmx := hmx.tr c185 (fun hx => Nat.not_le.2 hm1 (hoL.inD _ hx).1)
            replace ht := ht.tr c185 (fun hx => Nat.not_le.2 ht1 (hoL.inD _ hx).1)
            replace hb4 := hb4.tr c185 (fun hx => (hoL.inD _ hx).2 rfl)
            refine ⟨_, fun _ h => h, ⟨(Eq.trans hb4 o178.symm), trivial⟩, ?_⟩
            refine sq_call1 rfl (r_call (ags := [_, _, _]) rfl rfl T.ent8 rfl) (test_spec (l := [33] :: l) hT hTl hF ho186.sl (by have h9 := ho186.le.1; simpa using h9) hmx ht (fun s hs => by rcases List.mem_cons.1 hs with rfl | hs; (simp); exact hb s hs)) ?_
            rintro _ w187 ⟨rfl, c188⟩
            replace HC := HC.then c188
            replace hT := hT.tr0 c188
            replace hl := hl.tr0 c188
            replace hmx := hmx.tr0 c188
            replace ht := ht.tr0 c188
            replace hb4 := hb4.tr0 c188
            refine ⟨_, fun _ h => h, ⟨(Eq.trans hb4 o178.symm), trivial⟩, ?_⟩
            refine sq_q rfl (fun W hT => r_assign (v := .int _ _) rfl) ?_
            clear o178
            refine sq_nil <| then_n <| x_seq <| sr rfl <| mL rfl <| Wp rfl <| st_len (ct := #[29]) (by rw [show ((#[29] : Array TypeId)[0]?).bind Tryd.prog.underlying = some (.slice 9) from T.u29]; rfl) rfl <| Wp rfl <| st_eql rfl rfl <| en <| x_cond rfl (fun h3 => ?_) (fun h3 => ?_)
            ·try simp only [nm, ne_eq] at h3
             obtain ⟨a, b, rfl⟩ : ∃ a b, l = [a, b] := by match l, (show l.length = 2 by omega) with | [a, b], _ => exact ⟨a, b, rfl⟩
             refine sr rfl <| mL rfl ?_
             obtain ⟨lb193, _, vs192, hA189, hR191, hC190⟩ := hl.at (i := 0) (x := a) (rfl)
             obtain rfl : vs192 = [S a] := hR191
             refine Wp rfl <| st_indexAddr T.u29 T.size9 (congrArg (fun z => Value.slice z _ _) hA189) rfl (by simp) (by simp) <| lS T.one9 rfl (hC190.at (j := 0) rfl) <| en <| x_block <| x_seq <| sr rfl <| Wp rfl <| st_seql rfl rfl <| aB rfl <| en <| x_cond rfl (fun h4 => ?_) (fun h4 => ?_)
             ·try simp only [nm, ne_eq] at h4
              refine x_skip <| then_n <| x_cond rfl (fun h11 => ?_) (fun h11 => ?_)
              rotate_left
              · exfalso; simp_all
              refine sr rfl <| Wp rfl <| st_call (ags := []) rfl rfl T.ent10 rfl (awake24_spec hmx ht) ?_
              rintro _ w194 ⟨rfl, c195⟩
              replace HC := HC.then c195
              replace hT := hT.tr0 c195
              replace hl := hl.tr0 c195
              replace hmx := hmx.tr0 c195
              replace ht := ht.tr0 c195
              replace hb4 := hb4.tr0 c195
              refine aB rfl <| en <| x_ret <| block_r <| then_r <| ret_tmp (v := .bool _) rfl rfl ?_
              exact ⟨rfl, HC⟩
             ·try simp only [nm, ne_eq] at h4
              refine sr rfl <| Wp rfl <| st_seql rfl rfl <| aB rfl <| en <| x_cond rfl (fun h5 => ?_) (fun h5 => ?_)
              ·try simp only [nm, ne_eq] at h5
               refine x_skip <| then_n <| x_cond rfl (fun h11 => ?_) (fun h11 => ?_)
               rotate_left
               · exfalso; simp_all
               refine sr rfl <| Wp rfl <| st_call (ags := []) rfl rfl T.ent10 rfl (awake24_spec hmx ht) ?_
               rintro _ w196 ⟨rfl, c197⟩
               replace HC := HC.then c197
               replace hT := hT.tr0 c197
               replace hl := hl.tr0 c197
               replace hmx := hmx.tr0 c197
               replace ht := ht.tr0 c197
               replace hb4 := hb4.tr0 c197
               refine aB rfl <| en <| x_ret <| block_r <| then_r <| ret_tmp (v := .bool _) rfl rfl ?_
               exact ⟨rfl, HC⟩
              ·try simp only [nm, ne_eq] at h5
               refine sr rfl <| Wp rfl <| st_seql rfl rfl <| aB rfl <| en <| x_cond rfl (fun h6 => ?_) (fun h6 => ?_)
               ·try simp only [nm, ne_eq] at h6
                refine x_skip <| then_n <| x_cond rfl (fun h11 => ?_) (fun h11 => ?_)
                rotate_left
                · exfalso; simp_all
                refine sr rfl <| Wp rfl <| st_call (ags := []) rfl rfl T.ent10 rfl (awake24_spec hmx ht) ?_
                rintro _ w198 ⟨rfl, c199⟩
                replace HC := HC.then c199
                replace hT := hT.tr0 c199
                replace hl := hl.tr0 c199
                replace hmx := hmx.tr0 c199
                replace ht := ht.tr0 c199
                replace hb4 := hb4.tr0 c199
                refine aB rfl <| en <| x_ret <| block_r <| then_r <| ret_tmp (v := .bool _) rfl rfl ?_
                exact ⟨rfl, HC⟩
               ·try simp only [nm, ne_eq] at h6
                refine sr rfl <| Wp rfl <| st_seql rfl rfl <| aB rfl <| en <| x_cond rfl (fun h7 => ?_) (fun h7 => ?_)
                ·try simp only [nm, ne_eq] at h7
                 refine x_skip <| then_n <| x_cond rfl (fun h11 => ?_) (fun h11 => ?_)
                 rotate_left
                 · exfalso; simp_all
                 refine sr rfl <| Wp rfl <| st_call (ags := []) rfl rfl T.ent10 rfl (awake24_spec hmx ht) ?_
                 rintro _ w200 ⟨rfl, c201⟩
                 replace HC := HC.then c201
                 replace hT := hT.tr0 c201
                 replace hl := hl.tr0 c201
                 replace hmx := hmx.tr0 c201
                 replace ht := ht.tr0 c201
                 replace hb4 := hb4.tr0 c201
                 refine aB rfl <| en <| x_ret <| block_r <| then_r <| ret_tmp (v := .bool _) rfl rfl ?_
                 exact ⟨rfl, HC⟩
                ·try simp only [nm, ne_eq] at h7
                 refine sr rfl <| Wp rfl <| st_seql rfl rfl <| aB rfl <| en <| x_cond rfl (fun h8 => ?_) (fun h8 => ?_)
                 ·try simp only [nm, ne_eq] at h8
                  refine x_skip <| then_n <| x_cond rfl (fun h11 => ?_) (fun h11 => ?_)
                  rotate_left
                  · exfalso; simp_all
                  refine sr rfl <| Wp rfl <| st_call (ags := []) rfl rfl T.ent10 rfl (awake24_spec hmx ht) ?_
                  rintro _ w202 ⟨rfl, c203⟩
                  replace HC := HC.then c203
                  replace hT := hT.tr0 c203
                  replace hl := hl.tr0 c203
                  replace hmx := hmx.tr0 c203
                  replace ht := ht.tr0 c203
                  replace hb4 := hb4.tr0 c203
                  refine aB rfl <| en <| x_ret <| block_r <| then_r <| ret_tmp (v := .bool _) rfl rfl ?_
                  exact ⟨rfl, HC⟩
                 ·try simp only [nm, ne_eq] at h8
                  refine sr rfl <| Wp rfl <| st_seql rfl rfl <| aB rfl <| en <| x_cond rfl (fun h9 => ?_) (fun h9 => ?_)
                  ·try simp only [nm, ne_eq] at h9
                   refine x_skip <| then_n <| x_cond rfl (fun h11 => ?_) (fun h11 => ?_)
                   rotate_left
                   · exfalso; simp_all
                   refine sr rfl <| Wp rfl <| st_call (ags := []) rfl rfl T.ent10 rfl (awake24_spec hmx ht) ?_
                   rintro _ w204 ⟨rfl, c205⟩
                   replace HC := HC.then c205
                   replace hT := hT.tr0 c205
                   replace hl := hl.tr0 c205
                   replace hmx := hmx.tr0 c205
                   replace ht := ht.tr0 c205
                   replace hb4 := hb4.tr0 c205
                   refine aB rfl <| en <| x_ret <| block_r <| then_r <| ret_tmp (v := .bool _) rfl rfl ?_
                   exact ⟨rfl, HC⟩
                  ·try simp only [nm, ne_eq] at h9
                   refine sr rfl <| Wp rfl <| st_seql rfl rfl <| aB rfl <| en <| x_cond rfl (fun h10 => ?_) (fun h10 => ?_)
                   ·try simp only [nm, ne_eq] at h10
                    refine x_skip <| then_n <| x_cond rfl (fun h11 => ?_) (fun h11 => ?_)
                    rotate_left
                    · exfalso; simp_all
                    refine sr rfl <| Wp rfl <| st_call (ags := []) rfl rfl T.ent10 rfl (awake24_spec hmx ht) ?_
                    rintro _ w206 ⟨rfl, c207⟩
                    replace HC := HC.then c207
                    replace hT := hT.tr0 c207
                    replace hl := hl.tr0 c207
                    replace hmx := hmx.tr0 c207
                    replace ht := ht.tr0 c207
                    replace hb4 := hb4.tr0 c207
                    refine aB rfl <| en <| x_ret <| block_r <| then_r <| ret_tmp (v := .bool _) rfl rfl ?_
                    exact ⟨rfl, HC⟩
                   ·try simp only [nm, ne_eq] at h10
                    refine x_region rfl <| Wp rfl <| st_seql rfl rfl <| aB rfl <| en <| x_cond rfl (fun h11 => ?_) (fun h11 => ?_)
                    ·try simp only [nm, ne_eq] at h11
                     refine sr rfl <| Wp rfl <| st_call (ags := []) rfl rfl T.ent10 rfl (awake24_spec hmx ht) ?_
                     rintro _ w208 ⟨rfl, c209⟩
                     replace HC := HC.then c209
                     replace hT := hT.tr0 c209
                     replace hl := hl.tr0 c209
                     replace hmx := hmx.tr0 c209
                     replace ht := ht.tr0 c209
                     replace hb4 := hb4.tr0 c209
                     refine aB rfl <| en <| x_ret <| block_r <| then_r <| ret_tmp (v := .bool _) rfl rfl ?_
                     exact ⟨rfl, HC⟩
                    ·try simp only [nm, ne_eq] at h11
                     have hmt : testV Z cwd ([33] :: [a, b]) = turnN (testV Z cwd [a, b]) := test_turn (by simp) (by simp) (fun a' b' h => by cases h; unfold binL; simp only [List.mem_cons, List.mem_nil_iff, or_false, not_or]; exact ⟨h4, h5, h6, h7, h8, h9, h10, h11⟩)
                     have hn2 := test_in Z cwd ([33] :: [a, b])
                     refine x_skip <| block_n <| then_n <| sr rfl <| mI rfl <| Wp rfl <| st_eql rfl rfl <| mI rfl <| Wp rfl <| st_eql rfl rfl <| Wp rfl <| st_beql T.u4 rfl rfl <| mB rfl <| w_split (d := 72) rfl (fun g210 => ?_) (fun g210 => ?_)
                     ·try simp only [nm, ne_eq] at g210
                      refine w_yes 5 72 true <| st_move (v := .int _ _) rfl <| w_yes 5 72 true <| st_eql rfl rfl <| w_yes 5 72 true <| st_move (v := .bool _) rfl <| w_split (d := 75) rfl (fun g211 => ?_) (fun g211 => ?_)
                      ·try simp only [nm, ne_eq] at g211
                       iterate 4 refine w_no 8 75 false ?_
                       refine w_yes 5 72 true <| st_pick (b := true) (v := .bool _) rfl rfl <| pT rfl rfl <| mB rfl <| w_yes 15 82 true <| st_call (ags := []) rfl rfl T.ent10 rfl (awake24_spec hmx ht) ?_
                       rintro _ w212 ⟨rfl, c213⟩
                       replace HC := HC.then c213
                       replace hT := hT.tr0 c213
                       replace hl := hl.tr0 c213
                       replace hmx := hmx.tr0 c213
                       replace ht := ht.tr0 c213
                       replace hb4 := hb4.tr0 c213
                       refine pT rfl rfl <| aB rfl <| en <| x_ret <| ret_tmp (v := .bool _) rfl rfl ?_
                       exact ⟨rfl, HC⟩
                      ·try simp only [nm, ne_eq] at g211
                       refine w_yes 8 75 false <| st_move (v := .int _ _) rfl <| w_yes 8 75 false <| st_move (v := .int _ _) rfl <| w_yes 8 75 false <| st_addn rfl rfl (by constructor <;> omega) <| w_yes 8 75 false <| st_eql rfl rfl <| w_yes 5 72 true <| st_pick (b := false) (v := .bool _) rfl rfl <| pT rfl rfl <| mB rfl <| w_split (d := 82) rfl (fun g214 => ?_) (fun g214 => ?_)
                       ·try simp only [nm, ne_eq] at g214
                        refine w_yes 15 82 true <| st_call (ags := []) rfl rfl T.ent10 rfl (awake24_spec hmx ht) ?_
                        rintro _ w215 ⟨rfl, c216⟩
                        replace HC := HC.then c216
                        replace hT := hT.tr0 c216
                        replace hl := hl.tr0 c216
                        replace hmx := hmx.tr0 c216
                        replace ht := ht.tr0 c216
                        replace hb4 := hb4.tr0 c216
                        refine pT rfl rfl <| aB rfl <| en <| x_ret <| ret_tmp (v := .bool _) rfl rfl ?_
                        exact ⟨rfl, HC⟩
                       ·try simp only [nm, ne_eq] at g214
                        exfalso; first | (rcases hn with h | h | h <;> rw [h] at * <;> omega) | (have ha := turn_tell hn; rw [← hmt] at ha; simp_all; done) | (have ha := turn_tell hn; rw [← hmt] at ha; rcases ha.2 with h | h <;> simp_all)
                     ·try simp only [nm, ne_eq] at g210
                      exfalso; first | (rcases hn with h | h | h <;> rw [h] at * <;> omega) | (have ha := turn_tell hn; rw [← hmt] at ha; simp_all; done) | (have ha := turn_tell hn; rw [← hmt] at ha; rcases ha.2 with h | h <;> simp_all)
            ·try simp only [nm, ne_eq] at h3
             have hmt : testV Z cwd ([33] :: l) = turnN (testV Z cwd l) := test_turn (by omega) (by omega) (fun a b h => by subst h; simp_all)
             have hn2 := test_in Z cwd ([33] :: l)
             refine x_skip <| then_n <| sr rfl <| mI rfl <| Wp rfl <| st_eql rfl rfl <| mI rfl <| Wp rfl <| st_eql rfl rfl <| Wp rfl <| st_beql T.u4 rfl rfl <| mB rfl <| w_split (d := 72) rfl (fun g217 => ?_) (fun g217 => ?_)
             ·try simp only [nm, ne_eq] at g217
              refine w_yes 5 72 true <| st_move (v := .int _ _) rfl <| w_yes 5 72 true <| st_eql rfl rfl <| w_yes 5 72 true <| st_move (v := .bool _) rfl <| w_split (d := 75) rfl (fun g218 => ?_) (fun g218 => ?_)
              ·try simp only [nm, ne_eq] at g218
               iterate 4 refine w_no 8 75 false ?_
               refine w_yes 5 72 true <| st_pick (b := true) (v := .bool _) rfl rfl <| pT rfl rfl <| mB rfl <| w_yes 15 82 true <| st_call (ags := []) rfl rfl T.ent10 rfl (awake24_spec hmx ht) ?_
               rintro _ w219 ⟨rfl, c220⟩
               replace HC := HC.then c220
               replace hT := hT.tr0 c220
               replace hl := hl.tr0 c220
               replace hmx := hmx.tr0 c220
               replace ht := ht.tr0 c220
               replace hb4 := hb4.tr0 c220
               refine pT rfl rfl <| aB rfl <| en <| x_ret <| ret_tmp (v := .bool _) rfl rfl ?_
               exact ⟨rfl, HC⟩
              ·try simp only [nm, ne_eq] at g218
               refine w_yes 8 75 false <| st_move (v := .int _ _) rfl <| w_yes 8 75 false <| st_move (v := .int _ _) rfl <| w_yes 8 75 false <| st_addn rfl rfl (by constructor <;> omega) <| w_yes 8 75 false <| st_eql rfl rfl <| w_yes 5 72 true <| st_pick (b := false) (v := .bool _) rfl rfl <| pT rfl rfl <| mB rfl <| w_split (d := 82) rfl (fun g221 => ?_) (fun g221 => ?_)
               ·try simp only [nm, ne_eq] at g221
                refine w_yes 15 82 true <| st_call (ags := []) rfl rfl T.ent10 rfl (awake24_spec hmx ht) ?_
                rintro _ w222 ⟨rfl, c223⟩
                replace HC := HC.then c223
                replace hT := hT.tr0 c223
                replace hl := hl.tr0 c223
                replace hmx := hmx.tr0 c223
                replace ht := ht.tr0 c223
                replace hb4 := hb4.tr0 c223
                refine pT rfl rfl <| aB rfl <| en <| x_ret <| ret_tmp (v := .bool _) rfl rfl ?_
                exact ⟨rfl, HC⟩
               ·try simp only [nm, ne_eq] at g221
                exfalso; first | (rcases hn with h | h | h <;> rw [h] at * <;> omega) | (have ha := turn_tell hn; rw [← hmt] at ha; simp_all; done) | (have ha := turn_tell hn; rw [← hmt] at ha; rcases ha.2 with h | h <;> simp_all)
             ·try simp only [nm, ne_eq] at g217
              exfalso; first | (rcases hn with h | h | h <;> rw [h] at * <;> omega) | (have ha := turn_tell hn; rw [← hmt] at ha; simp_all; done) | (have ha := turn_tell hn; rw [← hmt] at ha; rcases ha.2 with h | h <;> simp_all)
        exact tr_nil
       exact tr_nil
      exact tr_nil
     exact tr_nil
    exact tr_nil

end Go.Proofs.YtpelmhoocepenaaDoor.K
