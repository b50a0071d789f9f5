import Derived.Test.YtpelmhoocepenaaGreatDoorWl
import Derived.Laws.MakeOwn
import Derived.Test.YtpelmhoocepenaaGreatDoorKitS
set_option linter.unusedVariables false
set_option linter.unusedSimpArgs false
set_option autoImplicit false
set_option maxRecDepth 20000
namespace Go.Proofs.YtpelmhoocepenaaGreatDoor.K
open Go Go.Proofs Go.RowKit

theorem test0_spec {Z : Tre} {An : Option Addr} {capn : Nat} {mx my : Int} {cwd : Int} {D : Nat → Prop} {w : World} (hT : Sl inE w D An Z) (hTl : Z.length ≤ 1000000000) (hF : FitT Z) {A : Option Addr} {c : Nat} (hmx : MaxT w) (ht : Tab w)  : CallR Tryz.prog 6 #[.agg ⟨[.slice An Z.length capn, .int .i64 mx, .int .i64 my]⟩, .int .i64 cwd, .slice A 0 c] w fun v w' => v = .int .i64 (testV Z cwd []) ∧ Chg [] w w' := by
 replace hT := hT.mono (D' := fun k => k < w.heap.size) (fun k hk _ => hk)
 refine callR_of_wp (args := [_, _, _]) Tryz.func6 rfl (Nat.le_of_ble_eq_true rfl) ?_
 have HC : Chg [] w w := .refl _
 have hm1 := hmx.lt
 have ht1 := ht.lt
 refine sr rfl <| Wp rfl <| st_box (v := .agg ⟨[.slice _ _ _, .int _ _, .int _ _]⟩) (vs := [_, _, _]) rfl rfl ?_
 intro b3 w1 e2 c3 hb4
 have ge_b3 : w.heap.size ≤ b3 := by rw [e2]; exact HC.size
 replace HC := HC.then c3
 replace hT := hT.tr0 c3
 replace hmx := hmx.tr0 c3
 replace ht := ht.tr0 c3
 clear e2
 refine aI rfl <| en <| sr rfl <| Wp rfl <| st_loadA (vs := [_, _, _]) T.agg24 rfl (hb4.cells (n := 3) (vs := [_, _, _]) rfl) rfl <| mI rfl <| Wp rfl <| st_bld (ps := [(0, .tmp 9), (1, .tmp 10)]) (vs := [.slice _ _ _, .int _ _, .int _ _, .int _ _]) T.bld34 rfl <| Wp rfl <| st_alloc T.zero34 ?_
 intro b7 w5 e6 c7 hb8
 have ge_b7 : w.heap.size ≤ b7 := by rw [e6]; exact HC.size
 have ne_b3_b7 : b3 ≠ b7 := by rw [e6]; exact hb4.ne_size
 replace HC := HC.then c7
 replace hT := hT.tr0 c7
 replace hmx := hmx.tr0 c7
 replace ht := ht.tr0 c7
 replace hb4 := hb4.tr0 c7
 clear e6
 refine Wp rfl <| st_store (v := .agg ⟨[.slice _ _ _, .int _ _, .int _ _, .int _ _]⟩) T.size34 rfl rfl rfl hb8 rfl (Nat.le_of_ble_eq_true rfl) (by simp [Value.oneCell', S]) rfl ?_
 intro w9 c10 hb11; simp only [setVs, setV] at hb11
 clear hb8
 replace HC := HC.then1 c10 ge_b7
 replace hT := hT.tr c10 (by intro k hx hD; simp only [List.mem_cons, List.mem_nil_iff, or_false] at hx; have hD2 : k < w.heap.size := hD; omega)
 replace hmx := hmx.tr c10 (by intro hx; simp only [List.mem_cons, List.mem_nil_iff, or_false] at hx; omega)
 replace ht := ht.tr c10 (by intro hx; have := ht.lt; have := ht1; simp only [List.mem_cons, List.mem_nil_iff, or_false] at hx; omega)
 replace hb4 := hb4.tr1 c10 ne_b3_b7
 refine en <| sr rfl <| Wp rfl <| st_loadA (vs := [_, _, _, _]) T.agg34 rfl (hb11.cells (n := 4) (vs := [_, _, _, _]) rfl) rfl <| Wp rfl <| st_makeFunc <| Wp rfl <| st_loadA (vs := [_, _, _, _]) T.agg34 rfl (hb11.cells (n := 4) (vs := [_, _, _, _]) rfl) rfl <| Wp rfl <| st_makeFunc <| Wp rfl <| st_loadA (vs := [_, _, _, _]) T.agg34 rfl (hb11.cells (n := 4) (vs := [_, _, _, _]) rfl) rfl <| Wp rfl <| st_makeFunc <| Wp rfl <| st_loadA (vs := [_, _, _, _]) T.agg34 rfl (hb11.cells (n := 4) (vs := [_, _, _, _]) rfl) rfl <| Wp rfl <| st_makeFunc <| Wp rfl <| st_loadA (vs := [_, _, _, _]) T.agg34 rfl (hb11.cells (n := 4) (vs := [_, _, _, _]) rfl) rfl <| Wp rfl <| st_makeFunc <| Wp rfl <| st_bldA (ps := [(0, .tmp 13), (1, .tmp 15), (2, .tmp 17), (3, .tmp 19), (4, .tmp 21)]) (vs := [_, _, _, _, _]) T.u36 T.size35 T.zagg36 rfl <| Wp rfl <| st_alloc T.zero36 ?_
 intro b8 w12 e13 c14 hb15
 have ge_b8 : w.heap.size ≤ b8 := by rw [e13]; exact HC.size
 have ne_b3_b8 : b3 ≠ b8 := by rw [e13]; exact hb4.ne_size
 have ne_b7_b8 : b7 ≠ b8 := by rw [e13]; exact hb11.ne_size
 replace HC := HC.then c14
 replace hT := hT.tr0 c14
 replace hmx := hmx.tr0 c14
 replace ht := ht.tr0 c14
 replace hb4 := hb4.tr0 c14
 replace hb11 := hb11.tr0 c14
 clear e13
 refine Wp rfl <| st_store (v := .agg ⟨[.func (.func 12) #[.agg ⟨[.slice An Z.length capn, .int .i64 mx, .int .i64 my, .int .i64 cwd]⟩] #[], .func (.func 13) #[.agg ⟨[.slice An Z.length capn, .int .i64 mx, .int .i64 my, .int .i64 cwd]⟩] #[], .func (.func 14) #[.agg ⟨[.slice An Z.length capn, .int .i64 mx, .int .i64 my, .int .i64 cwd]⟩] #[], .func (.func 15) #[.agg ⟨[.slice An Z.length capn, .int .i64 mx, .int .i64 my, .int .i64 cwd]⟩] #[], .func (.func 16) #[.agg ⟨[.slice An Z.length capn, .int .i64 mx, .int .i64 my, .int .i64 cwd]⟩] #[]]⟩) (vs := [.func (.func 12) #[.agg ⟨[.slice An Z.length capn, .int .i64 mx, .int .i64 my, .int .i64 cwd]⟩] #[], .func (.func 13) #[.agg ⟨[.slice An Z.length capn, .int .i64 mx, .int .i64 my, .int .i64 cwd]⟩] #[], .func (.func 14) #[.agg ⟨[.slice An Z.length capn, .int .i64 mx, .int .i64 my, .int .i64 cwd]⟩] #[], .func (.func 15) #[.agg ⟨[.slice An Z.length capn, .int .i64 mx, .int .i64 my, .int .i64 cwd]⟩] #[], .func (.func 16) #[.agg ⟨[.slice An Z.length capn, .int .i64 mx, .int .i64 my, .int .i64 cwd]⟩] #[]]) T.size36 rfl rfl rfl hb15 rfl (Nat.le_of_ble_eq_true rfl) (by intro u hu; simp only [List.mem_cons, List.mem_nil_iff, or_false] at hu; rcases hu with rfl | rfl | rfl | rfl | rfl <;> rfl) rfl ?_
 intro w16 c17 hb18
 replace hb18 : Blk w16 b8 [.func (.func 12) #[.agg ⟨[.slice An Z.length capn, .int .i64 mx, .int .i64 my, .int .i64 cwd]⟩] #[], .func (.func 13) #[.agg ⟨[.slice An Z.length capn, .int .i64 mx, .int .i64 my, .int .i64 cwd]⟩] #[], .func (.func 14) #[.agg ⟨[.slice An Z.length capn, .int .i64 mx, .int .i64 my, .int .i64 cwd]⟩] #[], .func (.func 15) #[.agg ⟨[.slice An Z.length capn, .int .i64 mx, .int .i64 my, .int .i64 cwd]⟩] #[], .func (.func 16) #[.agg ⟨[.slice An Z.length capn, .int .i64 mx, .int .i64 my, .int .i64 cwd]⟩] #[]] 36 := hb18
 clear hb15
 replace HC := HC.then1 c17 ge_b8
 replace hT := hT.tr c17 (by intro k hx hD; simp only [List.mem_cons, List.mem_nil_iff, or_false] at hx; have hD2 : k < w.heap.size := hD; omega)
 replace hmx := hmx.tr c17 (by intro hx; simp only [List.mem_cons, List.mem_nil_iff, or_false] at hx; omega)
 replace ht := ht.tr c17 (by intro hx; have := ht.lt; have := ht1; simp only [List.mem_cons, List.mem_nil_iff, or_false] at hx; omega)
 replace hb4 := hb4.tr1 c17 ne_b3_b8
 replace hb11 := hb11.tr1 c17 ne_b7_b8
 refine en <| x_seq <| sr rfl <| mL rfl <| Wp rfl <| st_len (ct := #[25]) (by rw [show ((#[25] : Array TypeId)[0]?).bind Tryz.prog.underlying = some (.slice 9) from T.u25]; rfl) rfl <| Wp rfl <| st_geq rfl rfl <| en <| x_cond rfl (fun h0 => ?_) (fun h0 => ?_)
 ·try simp only [nm, ne_eq] at h0
  exfalso; first | exact absurd h0 (by decide) | omega
 ·try simp only [nm, ne_eq] at h0
  refine x_skip <| then_n <| sr rfl <| mL rfl <| Wp rfl <| st_len (ct := #[25]) (by rw [show ((#[25] : Array TypeId)[0]?).bind Tryz.prog.underlying = some (.slice 9) from T.u25]; rfl) rfl <| Wp rfl <| st_arrAddr T.u36 T.size35 rfl rfl (by omega) (by omega) <| Wp rfl <| st_load1 (v := .func (.func 12) #[.agg ⟨[.slice An Z.length capn, .int .i64 mx, .int .i64 my, .int .i64 cwd]⟩] #[]) T.one42 rfl (hb18.cell rfl) <| mL rfl <| Wp rfl <| st_callB (f := 12) (rv := #[.agg ⟨[.slice An Z.length capn, .int .i64 mx, .int .i64 my, .int .i64 cwd]⟩]) (ags := [_, _]) rfl rfl T.ent12 rfl (zero_spec _) ?_
  rintro _ w19 ⟨rfl, c20⟩
  replace HC := HC.then c20
  replace hT := hT.tr0 c20
  replace hmx := hmx.tr0 c20
  replace ht := ht.tr0 c20
  replace hb4 := hb4.tr0 c20
  replace hb11 := hb11.tr0 c20
  replace hb18 := hb18.tr0 c20
  refine aI rfl <| en <| x_ret <| ret_tmp (v := .int _ _) rfl rfl ?_
  exact ⟨rfl, HC⟩

theorem test1_spec {Z : Tre} {An : Option Addr} {capn : Nat} {mx my : Int} {cwd : Int} {D : Nat → Prop} {w : World} (hT : Sl inE w D An Z) (hTl : Z.length ≤ 1000000000) (hF : FitT Z) {bl ol c : Nat} {Dl : Nat → Prop} {a : Bytes} (hl : Sl sE w Dl (some ⟨bl, ol, none⟩) [a]) (hc : 1 ≤ c) (hmx : MaxT w) (ht : Tab w) (ha : a.length ≤ 140737488355328) : CallR Tryz.prog 6 #[.agg ⟨[.slice An Z.length capn, .int .i64 mx, .int .i64 my]⟩, .int .i64 cwd, .slice (some ⟨bl, ol, none⟩) 1 c] w fun v w' => v = .int .i64 (testV Z cwd [a]) ∧ Chg [] w w' := by
 replace hT := hT.mono (D' := fun k => k < w.heap.size) (fun k hk _ => hk)
 refine callR_of_wp (args := [_, _, _]) Tryz.func6 rfl (Nat.le_of_ble_eq_true rfl) ?_
 have HC : Chg [] w w := .refl _
 have hm1 := hmx.lt
 have ht1 := ht.lt
 refine sr rfl <| Wp rfl <| st_box (v := .agg ⟨[.slice _ _ _, .int _ _, .int _ _]⟩) (vs := [_, _, _]) rfl rfl ?_
 intro b3 w1 e2 c3 hb4
 have ge_b3 : w.heap.size ≤ b3 := by rw [e2]; exact HC.size
 have nf_hl_b3 : [a] = [] ∨ b3 ∉ ob ((some ⟨bl, ol, none⟩)) := hl.fresh (by rw [e2]; exact Nat.le_refl _)
 replace HC := HC.then c3
 replace hT := hT.tr0 c3
 replace hmx := hmx.tr0 c3
 replace ht := ht.tr0 c3
 replace hl := hl.tr0 c3
 clear e2
 refine aI rfl <| en <| sr rfl <| Wp rfl <| st_loadA (vs := [_, _, _]) T.agg24 rfl (hb4.cells (n := 3) (vs := [_, _, _]) rfl) rfl <| mI rfl <| Wp rfl <| st_bld (ps := [(0, .tmp 9), (1, .tmp 10)]) (vs := [.slice _ _ _, .int _ _, .int _ _, .int _ _]) T.bld34 rfl <| Wp rfl <| st_alloc T.zero34 ?_
 intro b7 w5 e6 c7 hb8
 have ge_b7 : w.heap.size ≤ b7 := by rw [e6]; exact HC.size
 have ne_b3_b7 : b3 ≠ b7 := by rw [e6]; exact hb4.ne_size
 have nf_hl_b7 : [a] = [] ∨ b7 ∉ ob ((some ⟨bl, ol, none⟩)) := hl.fresh (by rw [e6]; exact Nat.le_refl _)
 replace HC := HC.then c7
 replace hT := hT.tr0 c7
 replace hmx := hmx.tr0 c7
 replace ht := ht.tr0 c7
 replace hl := hl.tr0 c7
 replace hb4 := hb4.tr0 c7
 clear e6
 refine Wp rfl <| st_store (v := .agg ⟨[.slice _ _ _, .int _ _, .int _ _, .int _ _]⟩) T.size34 rfl rfl rfl hb8 rfl (Nat.le_of_ble_eq_true rfl) (by simp [Value.oneCell', S]) rfl ?_
 intro w9 c10 hb11; simp only [setVs, setV] at hb11
 clear hb8
 replace HC := HC.then1 c10 ge_b7
 replace hT := hT.tr c10 (by intro k hx hD; simp only [List.mem_cons, List.mem_nil_iff, or_false] at hx; have hD2 : k < w.heap.size := hD; omega)
 replace hmx := hmx.tr c10 (by intro hx; simp only [List.mem_cons, List.mem_nil_iff, or_false] at hx; omega)
 replace ht := ht.tr c10 (by intro hx; have := ht.lt; have := ht1; simp only [List.mem_cons, List.mem_nil_iff, or_false] at hx; omega)
 replace hl := hl.trF flat_flat c10 (by intro k hx; simp only [List.mem_singleton] at hx; subst hx; exact nf_hl_b7)
 replace hb4 := hb4.tr1 c10 ne_b3_b7
 refine en <| sr rfl <| Wp rfl <| st_loadA (vs := [_, _, _, _]) T.agg34 rfl (hb11.cells (n := 4) (vs := [_, _, _, _]) rfl) rfl <| Wp rfl <| st_makeFunc <| Wp rfl <| st_loadA (vs := [_, _, _, _]) T.agg34 rfl (hb11.cells (n := 4) (vs := [_, _, _, _]) rfl) rfl <| Wp rfl <| st_makeFunc <| Wp rfl <| st_loadA (vs := [_, _, _, _]) T.agg34 rfl (hb11.cells (n := 4) (vs := [_, _, _, _]) rfl) rfl <| Wp rfl <| st_makeFunc <| Wp rfl <| st_loadA (vs := [_, _, _, _]) T.agg34 rfl (hb11.cells (n := 4) (vs := [_, _, _, _]) rfl) rfl <| Wp rfl <| st_makeFunc <| Wp rfl <| st_loadA (vs := [_, _, _, _]) T.agg34 rfl (hb11.cells (n := 4) (vs := [_, _, _, _]) rfl) rfl <| Wp rfl <| st_makeFunc <| Wp rfl <| st_bldA (ps := [(0, .tmp 13), (1, .tmp 15), (2, .tmp 17), (3, .tmp 19), (4, .tmp 21)]) (vs := [_, _, _, _, _]) T.u36 T.size35 T.zagg36 rfl <| Wp rfl <| st_alloc T.zero36 ?_
 intro b8 w12 e13 c14 hb15
 have ge_b8 : w.heap.size ≤ b8 := by rw [e13]; exact HC.size
 have ne_b3_b8 : b3 ≠ b8 := by rw [e13]; exact hb4.ne_size
 have ne_b7_b8 : b7 ≠ b8 := by rw [e13]; exact hb11.ne_size
 have nf_hl_b8 : [a] = [] ∨ b8 ∉ ob ((some ⟨bl, ol, none⟩)) := hl.fresh (by rw [e13]; exact Nat.le_refl _)
 replace HC := HC.then c14
 replace hT := hT.tr0 c14
 replace hmx := hmx.tr0 c14
 replace ht := ht.tr0 c14
 replace hl := hl.tr0 c14
 replace hb4 := hb4.tr0 c14
 replace hb11 := hb11.tr0 c14
 clear e13
 refine Wp rfl <| st_store (v := .agg ⟨[.func (.func 12) #[.agg ⟨[.slice An Z.length capn, .int .i64 mx, .int .i64 my, .int .i64 cwd]⟩] #[], .func (.func 13) #[.agg ⟨[.slice An Z.length capn, .int .i64 mx, .int .i64 my, .int .i64 cwd]⟩] #[], .func (.func 14) #[.agg ⟨[.slice An Z.length capn, .int .i64 mx, .int .i64 my, .int .i64 cwd]⟩] #[], .func (.func 15) #[.agg ⟨[.slice An Z.length capn, .int .i64 mx, .int .i64 my, .int .i64 cwd]⟩] #[], .func (.func 16) #[.agg ⟨[.slice An Z.length capn, .int .i64 mx, .int .i64 my, .int .i64 cwd]⟩] #[]]⟩) (vs := [.func (.func 12) #[.agg ⟨[.slice An Z.length capn, .int .i64 mx, .int .i64 my, .int .i64 cwd]⟩] #[], .func (.func 13) #[.agg ⟨[.slice An Z.length capn, .int .i64 mx, .int .i64 my, .int .i64 cwd]⟩] #[], .func (.func 14) #[.agg ⟨[.slice An Z.length capn, .int .i64 mx, .int .i64 my, .int .i64 cwd]⟩] #[], .func (.func 15) #[.agg ⟨[.slice An Z.length capn, .int .i64 mx, .int .i64 my, .int .i64 cwd]⟩] #[], .func (.func 16) #[.agg ⟨[.slice An Z.length capn, .int .i64 mx, .int .i64 my, .int .i64 cwd]⟩] #[]]) T.size36 rfl rfl rfl hb15 rfl (Nat.le_of_ble_eq_true rfl) (by intro u hu; simp only [List.mem_cons, List.mem_nil_iff, or_false] at hu; rcases hu with rfl | rfl | rfl | rfl | rfl <;> rfl) rfl ?_
 intro w16 c17 hb18
 replace hb18 : Blk w16 b8 [.func (.func 12) #[.agg ⟨[.slice An Z.length capn, .int .i64 mx, .int .i64 my, .int .i64 cwd]⟩] #[], .func (.func 13) #[.agg ⟨[.slice An Z.length capn, .int .i64 mx, .int .i64 my, .int .i64 cwd]⟩] #[], .func (.func 14) #[.agg ⟨[.slice An Z.length capn, .int .i64 mx, .int .i64 my, .int .i64 cwd]⟩] #[], .func (.func 15) #[.agg ⟨[.slice An Z.length capn, .int .i64 mx, .int .i64 my, .int .i64 cwd]⟩] #[], .func (.func 16) #[.agg ⟨[.slice An Z.length capn, .int .i64 mx, .int .i64 my, .int .i64 cwd]⟩] #[]] 36 := hb18
 clear hb15
 replace HC := HC.then1 c17 ge_b8
 replace hT := hT.tr c17 (by intro k hx hD; simp only [List.mem_cons, List.mem_nil_iff, or_false] at hx; have hD2 : k < w.heap.size := hD; omega)
 replace hmx := hmx.tr c17 (by intro hx; simp only [List.mem_cons, List.mem_nil_iff, or_false] at hx; omega)
 replace ht := ht.tr c17 (by intro hx; have := ht.lt; have := ht1; simp only [List.mem_cons, List.mem_nil_iff, or_false] at hx; omega)
 replace hl := hl.trF flat_flat c17 (by intro k hx; simp only [List.mem_singleton] at hx; subst hx; exact nf_hl_b8)
 replace hb4 := hb4.tr1 c17 ne_b3_b8
 replace hb11 := hb11.tr1 c17 ne_b7_b8
 refine en <| x_seq <| sr rfl <| mL rfl <| Wp rfl <| st_len (ct := #[25]) (by rw [show ((#[25] : Array TypeId)[0]?).bind Tryz.prog.underlying = some (.slice 9) from T.u25]; rfl) rfl <| Wp rfl <| st_geq rfl rfl <| en <| x_cond rfl (fun h0 => ?_) (fun h0 => ?_)
 ·try simp only [nm, ne_eq] at h0
  exfalso; first | exact absurd h0 (by decide) | omega
 ·try simp only [nm, ne_eq] at h0
  refine x_skip <| then_n <| sr rfl <| mL rfl <| Wp rfl <| st_len (ct := #[25]) (by rw [show ((#[25] : Array TypeId)[0]?).bind Tryz.prog.underlying = some (.slice 9) from T.u25]; rfl) rfl <| Wp rfl <| st_arrAddr T.u36 T.size35 rfl rfl (by omega) (by omega) <| Wp rfl <| st_load1 (v := .func (.func 13) #[.agg ⟨[.slice An Z.length capn, .int .i64 mx, .int .i64 my, .int .i64 cwd]⟩] #[]) T.one42 rfl (hb18.cell rfl) <| mL rfl <| Wp rfl <| st_callB (f := 13) (rv := #[.agg ⟨[.slice An Z.length capn, .int .i64 mx, .int .i64 my, .int .i64 cwd]⟩]) (ags := [_, _]) rfl rfl T.ent13 rfl (one_spec (a := a) (r := []) hl) ?_
  rintro _ w19 ⟨rfl, c20⟩
  replace HC := HC.then c20
  replace hT := hT.tr0 c20
  replace hmx := hmx.tr0 c20
  replace ht := ht.tr0 c20
  replace hl := hl.tr0 c20
  replace hb4 := hb4.tr0 c20
  replace hb11 := hb11.tr0 c20
  replace hb18 := hb18.tr0 c20
  refine aI rfl <| en <| x_ret <| ret_tmp (v := .int _ _) rfl rfl ?_
  exact ⟨rfl, HC⟩

theorem test2_spec {Z : Tre} {An : Option Addr} {capn : Nat} {mx my : Int} {cwd : Int} {D : Nat → Prop} {w : World} (hT : Sl inE w D An Z) (hTl : Z.length ≤ 1000000000) (hF : FitT Z) {bl ol c : Nat} {Dl : Nat → Prop} {a b : Bytes} (hl : Sl sE w Dl (some ⟨bl, ol, none⟩) [a, b]) (hc : 2 ≤ c) (hmx : MaxT w) (ht : Tab w) (ha : a.length ≤ 140737488355328) (hb : b.length ≤ 140737488355328) : CallR Tryz.prog 6 #[.agg ⟨[.slice An Z.length capn, .int .i64 mx, .int .i64 my]⟩, .int .i64 cwd, .slice (some ⟨bl, ol, none⟩) 2 c] w fun v w' => v = .int .i64 (testV Z cwd [a, b]) ∧ Chg [] w w' := by
 replace hT := hT.mono (D' := fun k => k < w.heap.size) (fun k hk _ => hk)
 refine callR_of_wp (args := [_, _, _]) Tryz.func6 rfl (Nat.le_of_ble_eq_true rfl) ?_
 have HC : Chg [] w w := .refl _
 have hm1 := hmx.lt
 have ht1 := ht.lt
 refine sr rfl <| Wp rfl <| st_box (v := .agg ⟨[.slice _ _ _, .int _ _, .int _ _]⟩) (vs := [_, _, _]) rfl rfl ?_
 intro b3 w1 e2 c3 hb4
 have ge_b3 : w.heap.size ≤ b3 := by rw [e2]; exact HC.size
 have nf_hl_b3 : [a, b] = [] ∨ b3 ∉ ob ((some ⟨bl, ol, none⟩)) := hl.fresh (by rw [e2]; exact Nat.le_refl _)
 replace HC := HC.then c3
 replace hT := hT.tr0 c3
 replace hmx := hmx.tr0 c3
 replace ht := ht.tr0 c3
 replace hl := hl.tr0 c3
 clear e2
 refine aI rfl <| en <| sr rfl <| Wp rfl <| st_loadA (vs := [_, _, _]) T.agg24 rfl (hb4.cells (n := 3) (vs := [_, _, _]) rfl) rfl <| mI rfl <| Wp rfl <| st_bld (ps := [(0, .tmp 9), (1, .tmp 10)]) (vs := [.slice _ _ _, .int _ _, .int _ _, .int _ _]) T.bld34 rfl <| Wp rfl <| st_alloc T.zero34 ?_
 intro b7 w5 e6 c7 hb8
 have ge_b7 : w.heap.size ≤ b7 := by rw [e6]; exact HC.size
 have ne_b3_b7 : b3 ≠ b7 := by rw [e6]; exact hb4.ne_size
 have nf_hl_b7 : [a, b] = [] ∨ b7 ∉ ob ((some ⟨bl, ol, none⟩)) := hl.fresh (by rw [e6]; exact Nat.le_refl _)
 replace HC := HC.then c7
 replace hT := hT.tr0 c7
 replace hmx := hmx.tr0 c7
 replace ht := ht.tr0 c7
 replace hl := hl.tr0 c7
 replace hb4 := hb4.tr0 c7
 clear e6
 refine Wp rfl <| st_store (v := .agg ⟨[.slice _ _ _, .int _ _, .int _ _, .int _ _]⟩) T.size34 rfl rfl rfl hb8 rfl (Nat.le_of_ble_eq_true rfl) (by simp [Value.oneCell', S]) rfl ?_
 intro w9 c10 hb11; simp only [setVs, setV] at hb11
 clear hb8
 replace HC := HC.then1 c10 ge_b7
 replace hT := hT.tr c10 (by intro k hx hD; simp only [List.mem_cons, List.mem_nil_iff, or_false] at hx; have hD2 : k < w.heap.size := hD; omega)
 replace hmx := hmx.tr c10 (by intro hx; simp only [List.mem_cons, List.mem_nil_iff, or_false] at hx; omega)
 replace ht := ht.tr c10 (by intro hx; have := ht.lt; have := ht1; simp only [List.mem_cons, List.mem_nil_iff, or_false] at hx; omega)
 replace hl := hl.trF flat_flat c10 (by intro k hx; simp only [List.mem_singleton] at hx; subst hx; exact nf_hl_b7)
 replace hb4 := hb4.tr1 c10 ne_b3_b7
 refine en <| sr rfl <| Wp rfl <| st_loadA (vs := [_, _, _, _]) T.agg34 rfl (hb11.cells (n := 4) (vs := [_, _, _, _]) rfl) rfl <| Wp rfl <| st_makeFunc <| Wp rfl <| st_loadA (vs := [_, _, _, _]) T.agg34 rfl (hb11.cells (n := 4) (vs := [_, _, _, _]) rfl) rfl <| Wp rfl <| st_makeFunc <| Wp rfl <| st_loadA (vs := [_, _, _, _]) T.agg34 rfl (hb11.cells (n := 4) (vs := [_, _, _, _]) rfl) rfl <| Wp rfl <| st_makeFunc <| Wp rfl <| st_loadA (vs := [_, _, _, _]) T.agg34 rfl (hb11.cells (n := 4) (vs := [_, _, _, _]) rfl) rfl <| Wp rfl <| st_makeFunc <| Wp rfl <| st_loadA (vs := [_, _, _, _]) T.agg34 rfl (hb11.cells (n := 4) (vs := [_, _, _, _]) rfl) rfl <| Wp rfl <| st_makeFunc <| Wp rfl <| st_bldA (ps := [(0, .tmp 13), (1, .tmp 15), (2, .tmp 17), (3, .tmp 19), (4, .tmp 21)]) (vs := [_, _, _, _, _]) T.u36 T.size35 T.zagg36 rfl <| Wp rfl <| st_alloc T.zero36 ?_
 intro b8 w12 e13 c14 hb15
 have ge_b8 : w.heap.size ≤ b8 := by rw [e13]; exact HC.size
 have ne_b3_b8 : b3 ≠ b8 := by rw [e13]; exact hb4.ne_size
 have ne_b7_b8 : b7 ≠ b8 := by rw [e13]; exact hb11.ne_size
 have nf_hl_b8 : [a, b] = [] ∨ b8 ∉ ob ((some ⟨bl, ol, none⟩)) := hl.fresh (by rw [e13]; exact Nat.le_refl _)
 replace HC := HC.then c14
 replace hT := hT.tr0 c14
 replace hmx := hmx.tr0 c14
 replace ht := ht.tr0 c14
 replace hl := hl.tr0 c14
 replace hb4 := hb4.tr0 c14
 replace hb11 := hb11.tr0 c14
 clear e13
 refine Wp rfl <| st_store (v := .agg ⟨[.func (.func 12) #[.agg ⟨[.slice An Z.length capn, .int .i64 mx, .int .i64 my, .int .i64 cwd]⟩] #[], .func (.func 13) #[.agg ⟨[.slice An Z.length capn, .int .i64 mx, .int .i64 my, .int .i64 cwd]⟩] #[], .func (.func 14) #[.agg ⟨[.slice An Z.length capn, .int .i64 mx, .int .i64 my, .int .i64 cwd]⟩] #[], .func (.func 15) #[.agg ⟨[.slice An Z.length capn, .int .i64 mx, .int .i64 my, .int .i64 cwd]⟩] #[], .func (.func 16) #[.agg ⟨[.slice An Z.length capn, .int .i64 mx, .int .i64 my, .int .i64 cwd]⟩] #[]]⟩) (vs := [.func (.func 12) #[.agg ⟨[.slice An Z.length capn, .int .i64 mx, .int .i64 my, .int .i64 cwd]⟩] #[], .func (.func 13) #[.agg ⟨[.slice An Z.length capn, .int .i64 mx, .int .i64 my, .int .i64 cwd]⟩] #[], .func (.func 14) #[.agg ⟨[.slice An Z.length capn, .int .i64 mx, .int .i64 my, .int .i64 cwd]⟩] #[], .func (.func 15) #[.agg ⟨[.slice An Z.length capn, .int .i64 mx, .int .i64 my, .int .i64 cwd]⟩] #[], .func (.func 16) #[.agg ⟨[.slice An Z.length capn, .int .i64 mx, .int .i64 my, .int .i64 cwd]⟩] #[]]) T.size36 rfl rfl rfl hb15 rfl (Nat.le_of_ble_eq_true rfl) (by intro u hu; simp only [List.mem_cons, List.mem_nil_iff, or_false] at hu; rcases hu with rfl | rfl | rfl | rfl | rfl <;> rfl) rfl ?_
 intro w16 c17 hb18
 replace hb18 : Blk w16 b8 [.func (.func 12) #[.agg ⟨[.slice An Z.length capn, .int .i64 mx, .int .i64 my, .int .i64 cwd]⟩] #[], .func (.func 13) #[.agg ⟨[.slice An Z.length capn, .int .i64 mx, .int .i64 my, .int .i64 cwd]⟩] #[], .func (.func 14) #[.agg ⟨[.slice An Z.length capn, .int .i64 mx, .int .i64 my, .int .i64 cwd]⟩] #[], .func (.func 15) #[.agg ⟨[.slice An Z.length capn, .int .i64 mx, .int .i64 my, .int .i64 cwd]⟩] #[], .func (.func 16) #[.agg ⟨[.slice An Z.length capn, .int .i64 mx, .int .i64 my, .int .i64 cwd]⟩] #[]] 36 := hb18
 clear hb15
 replace HC := HC.then1 c17 ge_b8
 replace hT := hT.tr c17 (by intro k hx hD; simp only [List.mem_cons, List.mem_nil_iff, or_false] at hx; have hD2 : k < w.heap.size := hD; omega)
 replace hmx := hmx.tr c17 (by intro hx; simp only [List.mem_cons, List.mem_nil_iff, or_false] at hx; omega)
 replace ht := ht.tr c17 (by intro hx; have := ht.lt; have := ht1; simp only [List.mem_cons, List.mem_nil_iff, or_false] at hx; omega)
 replace hl := hl.trF flat_flat c17 (by intro k hx; simp only [List.mem_singleton] at hx; subst hx; exact nf_hl_b8)
 replace hb4 := hb4.tr1 c17 ne_b3_b8
 replace hb11 := hb11.tr1 c17 ne_b7_b8
 refine en <| x_seq <| sr rfl <| mL rfl <| Wp rfl <| st_len (ct := #[25]) (by rw [show ((#[25] : Array TypeId)[0]?).bind Tryz.prog.underlying = some (.slice 9) from T.u25]; rfl) rfl <| Wp rfl <| st_geq rfl rfl <| en <| x_cond rfl (fun h0 => ?_) (fun h0 => ?_)
 ·try simp only [nm, ne_eq] at h0
  exfalso; first | exact absurd h0 (by decide) | omega
 ·try simp only [nm, ne_eq] at h0
  refine x_skip <| then_n <| sr rfl <| mL rfl <| Wp rfl <| st_len (ct := #[25]) (by rw [show ((#[25] : Array TypeId)[0]?).bind Tryz.prog.underlying = some (.slice 9) from T.u25]; rfl) rfl <| Wp rfl <| st_arrAddr T.u36 T.size35 rfl rfl (by omega) (by omega) <| Wp rfl <| st_load1 (v := .func (.func 14) #[.agg ⟨[.slice An Z.length capn, .int .i64 mx, .int .i64 my, .int .i64 cwd]⟩] #[]) T.one42 rfl (hb18.cell rfl) <| mL rfl <| Wp rfl <| st_callB (f := 14) (rv := #[.agg ⟨[.slice An Z.length capn, .int .i64 mx, .int .i64 my, .int .i64 cwd]⟩]) (ags := [_, _]) rfl rfl T.ent14 rfl (two_spec hT hTl hF hl hc hmx ha hb) ?_
  rintro _ w19 ⟨rfl, c20⟩
  replace HC := HC.then c20
  replace hT := hT.tr0 c20
  replace hmx := hmx.tr0 c20
  replace ht := ht.tr0 c20
  replace hl := hl.tr0 c20
  replace hb4 := hb4.tr0 c20
  replace hb11 := hb11.tr0 c20
  replace hb18 := hb18.tr0 c20
  refine aI rfl <| en <| x_ret <| ret_tmp (v := .int _ _) rfl rfl ?_
  exact ⟨rfl, HC⟩

theorem test3_spec {Z : Tre} {An : Option Addr} {capn : Nat} {mx my : Int} {cwd : Int} {D : Nat → Prop} {w : World} (hT : Sl inE w D An Z) (hTl : Z.length ≤ 1000000000) (hF : FitT Z) {bl ol c : Nat} {Dl : Nat → Prop} {a b d : Bytes} (hl : Sl sE w Dl (some ⟨bl, ol, none⟩) [a, b, d]) (hc : 3 ≤ c) (hmx : MaxT w) (ht : Tab w) (ha : a.length ≤ 140737488355328) (hb : b.length ≤ 140737488355328) (hd : d.length ≤ 140737488355328) : CallR Tryz.prog 6 #[.agg ⟨[.slice An Z.length capn, .int .i64 mx, .int .i64 my]⟩, .int .i64 cwd, .slice (some ⟨bl, ol, none⟩) 3 c] w fun v w' => v = .int .i64 (testV Z cwd [a, b, d]) ∧ Chg [] w w' := by
 replace hT := hT.mono (D' := fun k => k < w.heap.size) (fun k hk _ => hk)
 refine callR_of_wp (args := [_, _, _]) Tryz.func6 rfl (Nat.le_of_ble_eq_true rfl) ?_
 have HC : Chg [] w w := .refl _
 have hm1 := hmx.lt
 have ht1 := ht.lt
 refine sr rfl <| Wp rfl <| st_box (v := .agg ⟨[.slice _ _ _, .int _ _, .int _ _]⟩) (vs := [_, _, _]) rfl rfl ?_
 intro b3 w1 e2 c3 hb4
 have ge_b3 : w.heap.size ≤ b3 := by rw [e2]; exact HC.size
 have nf_hl_b3 : [a, b, d] = [] ∨ b3 ∉ ob ((some ⟨bl, ol, none⟩)) := hl.fresh (by rw [e2]; exact Nat.le_refl _)
 replace HC := HC.then c3
 replace hT := hT.tr0 c3
 replace hmx := hmx.tr0 c3
 replace ht := ht.tr0 c3
 replace hl := hl.tr0 c3
 clear e2
 refine aI rfl <| en <| sr rfl <| Wp rfl <| st_loadA (vs := [_, _, _]) T.agg24 rfl (hb4.cells (n := 3) (vs := [_, _, _]) rfl) rfl <| mI rfl <| Wp rfl <| st_bld (ps := [(0, .tmp 9), (1, .tmp 10)]) (vs := [.slice _ _ _, .int _ _, .int _ _, .int _ _]) T.bld34 rfl <| Wp rfl <| st_alloc T.zero34 ?_
 intro b7 w5 e6 c7 hb8
 have ge_b7 : w.heap.size ≤ b7 := by rw [e6]; exact HC.size
 have ne_b3_b7 : b3 ≠ b7 := by rw [e6]; exact hb4.ne_size
 have nf_hl_b7 : [a, b, d] = [] ∨ b7 ∉ ob ((some ⟨bl, ol, none⟩)) := hl.fresh (by rw [e6]; exact Nat.le_refl _)
 replace HC := HC.then c7
 replace hT := hT.tr0 c7
 replace hmx := hmx.tr0 c7
 replace ht := ht.tr0 c7
 replace hl := hl.tr0 c7
 replace hb4 := hb4.tr0 c7
 clear e6
 refine Wp rfl <| st_store (v := .agg ⟨[.slice _ _ _, .int _ _, .int _ _, .int _ _]⟩) T.size34 rfl rfl rfl hb8 rfl (Nat.le_of_ble_eq_true rfl) (by simp [Value.oneCell', S]) rfl ?_
 intro w9 c10 hb11; simp only [setVs, setV] at hb11
 clear hb8
 replace HC := HC.then1 c10 ge_b7
 replace hT := hT.tr c10 (by intro k hx hD; simp only [List.mem_cons, List.mem_nil_iff, or_false] at hx; have hD2 : k < w.heap.size := hD; omega)
 replace hmx := hmx.tr c10 (by intro hx; simp only [List.mem_cons, List.mem_nil_iff, or_false] at hx; omega)
 replace ht := ht.tr c10 (by intro hx; have := ht.lt; have := ht1; simp only [List.mem_cons, List.mem_nil_iff, or_false] at hx; omega)
 replace hl := hl.trF flat_flat c10 (by intro k hx; simp only [List.mem_singleton] at hx; subst hx; exact nf_hl_b7)
 replace hb4 := hb4.tr1 c10 ne_b3_b7
 refine en <| sr rfl <| Wp rfl <| st_loadA (vs := [_, _, _, _]) T.agg34 rfl (hb11.cells (n := 4) (vs := [_, _, _, _]) rfl) rfl <| Wp rfl <| st_makeFunc <| Wp rfl <| st_loadA (vs := [_, _, _, _]) T.agg34 rfl (hb11.cells (n := 4) (vs := [_, _, _, _]) rfl) rfl <| Wp rfl <| st_makeFunc <| Wp rfl <| st_loadA (vs := [_, _, _, _]) T.agg34 rfl (hb11.cells (n := 4) (vs := [_, _, _, _]) rfl) rfl <| Wp rfl <| st_makeFunc <| Wp rfl <| st_loadA (vs := [_, _, _, _]) T.agg34 rfl (hb11.cells (n := 4) (vs := [_, _, _, _]) rfl) rfl <| Wp rfl <| st_makeFunc <| Wp rfl <| st_loadA (vs := [_, _, _, _]) T.agg34 rfl (hb11.cells (n := 4) (vs := [_, _, _, _]) rfl) rfl <| Wp rfl <| st_makeFunc <| Wp rfl <| st_bldA (ps := [(0, .tmp 13), (1, .tmp 15), (2, .tmp 17), (3, .tmp 19), (4, .tmp 21)]) (vs := [_, _, _, _, _]) T.u36 T.size35 T.zagg36 rfl <| Wp rfl <| st_alloc T.zero36 ?_
 intro b8 w12 e13 c14 hb15
 have ge_b8 : w.heap.size ≤ b8 := by rw [e13]; exact HC.size
 have ne_b3_b8 : b3 ≠ b8 := by rw [e13]; exact hb4.ne_size
 have ne_b7_b8 : b7 ≠ b8 := by rw [e13]; exact hb11.ne_size
 have nf_hl_b8 : [a, b, d] = [] ∨ b8 ∉ ob ((some ⟨bl, ol, none⟩)) := hl.fresh (by rw [e13]; exact Nat.le_refl _)
 replace HC := HC.then c14
 replace hT := hT.tr0 c14
 replace hmx := hmx.tr0 c14
 replace ht := ht.tr0 c14
 replace hl := hl.tr0 c14
 replace hb4 := hb4.tr0 c14
 replace hb11 := hb11.tr0 c14
 clear e13
 refine Wp rfl <| st_store (v := .agg ⟨[.func (.func 12) #[.agg ⟨[.slice An Z.length capn, .int .i64 mx, .int .i64 my, .int .i64 cwd]⟩] #[], .func (.func 13) #[.agg ⟨[.slice An Z.length capn, .int .i64 mx, .int .i64 my, .int .i64 cwd]⟩] #[], .func (.func 14) #[.agg ⟨[.slice An Z.length capn, .int .i64 mx, .int .i64 my, .int .i64 cwd]⟩] #[], .func (.func 15) #[.agg ⟨[.slice An Z.length capn, .int .i64 mx, .int .i64 my, .int .i64 cwd]⟩] #[], .func (.func 16) #[.agg ⟨[.slice An Z.length capn, .int .i64 mx, .int .i64 my, .int .i64 cwd]⟩] #[]]⟩) (vs := [.func (.func 12) #[.agg ⟨[.slice An Z.length capn, .int .i64 mx, .int .i64 my, .int .i64 cwd]⟩] #[], .func (.func 13) #[.agg ⟨[.slice An Z.length capn, .int .i64 mx, .int .i64 my, .int .i64 cwd]⟩] #[], .func (.func 14) #[.agg ⟨[.slice An Z.length capn, .int .i64 mx, .int .i64 my, .int .i64 cwd]⟩] #[], .func (.func 15) #[.agg ⟨[.slice An Z.length capn, .int .i64 mx, .int .i64 my, .int .i64 cwd]⟩] #[], .func (.func 16) #[.agg ⟨[.slice An Z.length capn, .int .i64 mx, .int .i64 my, .int .i64 cwd]⟩] #[]]) T.size36 rfl rfl rfl hb15 rfl (Nat.le_of_ble_eq_true rfl) (by intro u hu; simp only [List.mem_cons, List.mem_nil_iff, or_false] at hu; rcases hu with rfl | rfl | rfl | rfl | rfl <;> rfl) rfl ?_
 intro w16 c17 hb18
 replace hb18 : Blk w16 b8 [.func (.func 12) #[.agg ⟨[.slice An Z.length capn, .int .i64 mx, .int .i64 my, .int .i64 cwd]⟩] #[], .func (.func 13) #[.agg ⟨[.slice An Z.length capn, .int .i64 mx, .int .i64 my, .int .i64 cwd]⟩] #[], .func (.func 14) #[.agg ⟨[.slice An Z.length capn, .int .i64 mx, .int .i64 my, .int .i64 cwd]⟩] #[], .func (.func 15) #[.agg ⟨[.slice An Z.length capn, .int .i64 mx, .int .i64 my, .int .i64 cwd]⟩] #[], .func (.func 16) #[.agg ⟨[.slice An Z.length capn, .int .i64 mx, .int .i64 my, .int .i64 cwd]⟩] #[]] 36 := hb18
 clear hb15
 replace HC := HC.then1 c17 ge_b8
 replace hT := hT.tr c17 (by intro k hx hD; simp only [List.mem_cons, List.mem_nil_iff, or_false] at hx; have hD2 : k < w.heap.size := hD; omega)
 replace hmx := hmx.tr c17 (by intro hx; simp only [List.mem_cons, List.mem_nil_iff, or_false] at hx; omega)
 replace ht := ht.tr c17 (by intro hx; have := ht.lt; have := ht1; simp only [List.mem_cons, List.mem_nil_iff, or_false] at hx; omega)
 replace hl := hl.trF flat_flat c17 (by intro k hx; simp only [List.mem_singleton] at hx; subst hx; exact nf_hl_b8)
 replace hb4 := hb4.tr1 c17 ne_b3_b8
 replace hb11 := hb11.tr1 c17 ne_b7_b8
 refine en <| x_seq <| sr rfl <| mL rfl <| Wp rfl <| st_len (ct := #[25]) (by rw [show ((#[25] : Array TypeId)[0]?).bind Tryz.prog.underlying = some (.slice 9) from T.u25]; rfl) rfl <| Wp rfl <| st_geq rfl rfl <| en <| x_cond rfl (fun h0 => ?_) (fun h0 => ?_)
 ·try simp only [nm, ne_eq] at h0
  exfalso; first | exact absurd h0 (by decide) | omega
 ·try simp only [nm, ne_eq] at h0
  refine x_skip <| then_n <| sr rfl <| mL rfl <| Wp rfl <| st_len (ct := #[25]) (by rw [show ((#[25] : Array TypeId)[0]?).bind Tryz.prog.underlying = some (.slice 9) from T.u25]; rfl) rfl <| Wp rfl <| st_arrAddr T.u36 T.size35 rfl rfl (by omega) (by omega) <| Wp rfl <| st_load1 (v := .func (.func 15) #[.agg ⟨[.slice An Z.length capn, .int .i64 mx, .int .i64 my, .int .i64 cwd]⟩] #[]) T.one42 rfl (hb18.cell rfl) <| mL rfl <| Wp rfl <| st_callB (f := 15) (rv := #[.agg ⟨[.slice An Z.length capn, .int .i64 mx, .int .i64 my, .int .i64 cwd]⟩]) (ags := [_, _]) rfl rfl T.ent15 rfl (three_spec hT hTl hF hl hc hmx ht ha hb hd) ?_
  rintro _ w19 ⟨rfl, c20⟩
  replace HC := HC.then c20
  replace hT := hT.tr0 c20
  replace hmx := hmx.tr0 c20
  replace ht := ht.tr0 c20
  replace hl := hl.tr0 c20
  replace hb4 := hb4.tr0 c20
  replace hb11 := hb11.tr0 c20
  replace hb18 := hb18.tr0 c20
  refine aI rfl <| en <| x_ret <| ret_tmp (v := .int _ _) rfl rfl ?_
  exact ⟨rfl, HC⟩

theorem test4_spec {Z : Tre} {An : Option Addr} {capn : Nat} {mx my : Int} {cwd : Int} {D : Nat → Prop} {w : World} (hT : Sl inE w D An Z) (hTl : Z.length ≤ 1000000000) (hF : FitT Z) {bl ol c : Nat} {Dl : Nat → Prop} {a b d e : Bytes} (hl : Sl sE w Dl (some ⟨bl, ol, none⟩) [a, b, d, e]) (hc : 4 ≤ c) (hmx : MaxT w) (ht : Tab w) (ha : a.length ≤ 140737488355328) (hb : b.length ≤ 140737488355328) (hd : d.length ≤ 140737488355328) (he : e.length ≤ 140737488355328) : CallR Tryz.prog 6 #[.agg ⟨[.slice An Z.length capn, .int .i64 mx, .int .i64 my]⟩, .int .i64 cwd, .slice (some ⟨bl, ol, none⟩) 4 c] w fun v w' => v = .int .i64 (testV Z cwd [a, b, d, e]) ∧ Chg [] w w' := by
 replace hT := hT.mono (D' := fun k => k < w.heap.size) (fun k hk _ => hk)
 refine callR_of_wp (args := [_, _, _]) Tryz.func6 rfl (Nat.le_of_ble_eq_true rfl) ?_
 have HC : Chg [] w w := .refl _
 have hm1 := hmx.lt
 have ht1 := ht.lt
 refine sr rfl <| Wp rfl <| st_box (v := .agg ⟨[.slice _ _ _, .int _ _, .int _ _]⟩) (vs := [_, _, _]) rfl rfl ?_
 intro b3 w1 e2 c3 hb4
 have ge_b3 : w.heap.size ≤ b3 := by rw [e2]; exact HC.size
 have nf_hl_b3 : [a, b, d, e] = [] ∨ b3 ∉ ob ((some ⟨bl, ol, none⟩)) := hl.fresh (by rw [e2]; exact Nat.le_refl _)
 replace HC := HC.then c3
 replace hT := hT.tr0 c3
 replace hmx := hmx.tr0 c3
 replace ht := ht.tr0 c3
 replace hl := hl.tr0 c3
 clear e2
 refine aI rfl <| en <| sr rfl <| Wp rfl <| st_loadA (vs := [_, _, _]) T.agg24 rfl (hb4.cells (n := 3) (vs := [_, _, _]) rfl) rfl <| mI rfl <| Wp rfl <| st_bld (ps := [(0, .tmp 9), (1, .tmp 10)]) (vs := [.slice _ _ _, .int _ _, .int _ _, .int _ _]) T.bld34 rfl <| Wp rfl <| st_alloc T.zero34 ?_
 intro b7 w5 e6 c7 hb8
 have ge_b7 : w.heap.size ≤ b7 := by rw [e6]; exact HC.size
 have ne_b3_b7 : b3 ≠ b7 := by rw [e6]; exact hb4.ne_size
 have nf_hl_b7 : [a, b, d, e] = [] ∨ b7 ∉ ob ((some ⟨bl, ol, none⟩)) := hl.fresh (by rw [e6]; exact Nat.le_refl _)
 replace HC := HC.then c7
 replace hT := hT.tr0 c7
 replace hmx := hmx.tr0 c7
 replace ht := ht.tr0 c7
 replace hl := hl.tr0 c7
 replace hb4 := hb4.tr0 c7
 clear e6
 refine Wp rfl <| st_store (v := .agg ⟨[.slice _ _ _, .int _ _, .int _ _, .int _ _]⟩) T.size34 rfl rfl rfl hb8 rfl (Nat.le_of_ble_eq_true rfl) (by simp [Value.oneCell', S]) rfl ?_
 intro w9 c10 hb11; simp only [setVs, setV] at hb11
 clear hb8
 replace HC := HC.then1 c10 ge_b7
 replace hT := hT.tr c10 (by intro k hx hD; simp only [List.mem_cons, List.mem_nil_iff, or_false] at hx; have hD2 : k < w.heap.size := hD; omega)
 replace hmx := hmx.tr c10 (by intro hx; simp only [List.mem_cons, List.mem_nil_iff, or_false] at hx; omega)
 replace ht := ht.tr c10 (by intro hx; have := ht.lt; have := ht1; simp only [List.mem_cons, List.mem_nil_iff, or_false] at hx; omega)
 replace hl := hl.trF flat_flat c10 (by intro k hx; simp only [List.mem_singleton] at hx; subst hx; exact nf_hl_b7)
 replace hb4 := hb4.tr1 c10 ne_b3_b7
 refine en <| sr rfl <| Wp rfl <| st_loadA (vs := [_, _, _, _]) T.agg34 rfl (hb11.cells (n := 4) (vs := [_, _, _, _]) rfl) rfl <| Wp rfl <| st_makeFunc <| Wp rfl <| st_loadA (vs := [_, _, _, _]) T.agg34 rfl (hb11.cells (n := 4) (vs := [_, _, _, _]) rfl) rfl <| Wp rfl <| st_makeFunc <| Wp rfl <| st_loadA (vs := [_, _, _, _]) T.agg34 rfl (hb11.cells (n := 4) (vs := [_, _, _, _]) rfl) rfl <| Wp rfl <| st_makeFunc <| Wp rfl <| st_loadA (vs := [_, _, _, _]) T.agg34 rfl (hb11.cells (n := 4) (vs := [_, _, _, _]) rfl) rfl <| Wp rfl <| st_makeFunc <| Wp rfl <| st_loadA (vs := [_, _, _, _]) T.agg34 rfl (hb11.cells (n := 4) (vs := [_, _, _, _]) rfl) rfl <| Wp rfl <| st_makeFunc <| Wp rfl <| st_bldA (ps := [(0, .tmp 13), (1, .tmp 15), (2, .tmp 17), (3, .tmp 19), (4, .tmp 21)]) (vs := [_, _, _, _, _]) T.u36 T.size35 T.zagg36 rfl <| Wp rfl <| st_alloc T.zero36 ?_
 intro b8 w12 e13 c14 hb15
 have ge_b8 : w.heap.size ≤ b8 := by rw [e13]; exact HC.size
 have ne_b3_b8 : b3 ≠ b8 := by rw [e13]; exact hb4.ne_size
 have ne_b7_b8 : b7 ≠ b8 := by rw [e13]; exact hb11.ne_size
 have nf_hl_b8 : [a, b, d, e] = [] ∨ b8 ∉ ob ((some ⟨bl, ol, none⟩)) := hl.fresh (by rw [e13]; exact Nat.le_refl _)
 replace HC := HC.then c14
 replace hT := hT.tr0 c14
 replace hmx := hmx.tr0 c14
 replace ht := ht.tr0 c14
 replace hl := hl.tr0 c14
 replace hb4 := hb4.tr0 c14
 replace hb11 := hb11.tr0 c14
 clear e13
 refine Wp rfl <| st_store (v := .agg ⟨[.func (.func 12) #[.agg ⟨[.slice An Z.length capn, .int .i64 mx, .int .i64 my, .int .i64 cwd]⟩] #[], .func (.func 13) #[.agg ⟨[.slice An Z.length capn, .int .i64 mx, .int .i64 my, .int .i64 cwd]⟩] #[], .func (.func 14) #[.agg ⟨[.slice An Z.length capn, .int .i64 mx, .int .i64 my, .int .i64 cwd]⟩] #[], .func (.func 15) #[.agg ⟨[.slice An Z.length capn, .int .i64 mx, .int .i64 my, .int .i64 cwd]⟩] #[], .func (.func 16) #[.agg ⟨[.slice An Z.length capn, .int .i64 mx, .int .i64 my, .int .i64 cwd]⟩] #[]]⟩) (vs := [.func (.func 12) #[.agg ⟨[.slice An Z.length capn, .int .i64 mx, .int .i64 my, .int .i64 cwd]⟩] #[], .func (.func 13) #[.agg ⟨[.slice An Z.length capn, .int .i64 mx, .int .i64 my, .int .i64 cwd]⟩] #[], .func (.func 14) #[.agg ⟨[.slice An Z.length capn, .int .i64 mx, .int .i64 my, .int .i64 cwd]⟩] #[], .func (.func 15) #[.agg ⟨[.slice An Z.length capn, .int .i64 mx, .int .i64 my, .int .i64 cwd]⟩] #[], .func (.func 16) #[.agg ⟨[.slice An Z.length capn, .int .i64 mx, .int .i64 my, .int .i64 cwd]⟩] #[]]) T.size36 rfl rfl rfl hb15 rfl (Nat.le_of_ble_eq_true rfl) (by intro u hu; simp only [List.mem_cons, List.mem_nil_iff, or_false] at hu; rcases hu with rfl | rfl | rfl | rfl | rfl <;> rfl) rfl ?_
 intro w16 c17 hb18
 replace hb18 : Blk w16 b8 [.func (.func 12) #[.agg ⟨[.slice An Z.length capn, .int .i64 mx, .int .i64 my, .int .i64 cwd]⟩] #[], .func (.func 13) #[.agg ⟨[.slice An Z.length capn, .int .i64 mx, .int .i64 my, .int .i64 cwd]⟩] #[], .func (.func 14) #[.agg ⟨[.slice An Z.length capn, .int .i64 mx, .int .i64 my, .int .i64 cwd]⟩] #[], .func (.func 15) #[.agg ⟨[.slice An Z.length capn, .int .i64 mx, .int .i64 my, .int .i64 cwd]⟩] #[], .func (.func 16) #[.agg ⟨[.slice An Z.length capn, .int .i64 mx, .int .i64 my, .int .i64 cwd]⟩] #[]] 36 := hb18
 clear hb15
 replace HC := HC.then1 c17 ge_b8
 replace hT := hT.tr c17 (by intro k hx hD; simp only [List.mem_cons, List.mem_nil_iff, or_false] at hx; have hD2 : k < w.heap.size := hD; omega)
 replace hmx := hmx.tr c17 (by intro hx; simp only [List.mem_cons, List.mem_nil_iff, or_false] at hx; omega)
 replace ht := ht.tr c17 (by intro hx; have := ht.lt; have := ht1; simp only [List.mem_cons, List.mem_nil_iff, or_false] at hx; omega)
 replace hl := hl.trF flat_flat c17 (by intro k hx; simp only [List.mem_singleton] at hx; subst hx; exact nf_hl_b8)
 replace hb4 := hb4.tr1 c17 ne_b3_b8
 replace hb11 := hb11.tr1 c17 ne_b7_b8
 refine en <| x_seq <| sr rfl <| mL rfl <| Wp rfl <| st_len (ct := #[25]) (by rw [show ((#[25] : Array TypeId)[0]?).bind Tryz.prog.underlying = some (.slice 9) from T.u25]; rfl) rfl <| Wp rfl <| st_geq rfl rfl <| en <| x_cond rfl (fun h0 => ?_) (fun h0 => ?_)
 ·try simp only [nm, ne_eq] at h0
  exfalso; first | exact absurd h0 (by decide) | omega
 ·try simp only [nm, ne_eq] at h0
  refine x_skip <| then_n <| sr rfl <| mL rfl <| Wp rfl <| st_len (ct := #[25]) (by rw [show ((#[25] : Array TypeId)[0]?).bind Tryz.prog.underlying = some (.slice 9) from T.u25]; rfl) rfl <| Wp rfl <| st_arrAddr T.u36 T.size35 rfl rfl (by omega) (by omega) <| Wp rfl <| st_load1 (v := .func (.func 16) #[.agg ⟨[.slice An Z.length capn, .int .i64 mx, .int .i64 my, .int .i64 cwd]⟩] #[]) T.one42 rfl (hb18.cell rfl) <| mL rfl <| Wp rfl <| st_callB (f := 16) (rv := #[.agg ⟨[.slice An Z.length capn, .int .i64 mx, .int .i64 my, .int .i64 cwd]⟩]) (ags := [_, _]) rfl rfl T.ent16 rfl (four_spec hT hTl hF hl hc hmx ht ha hb hd he) ?_
  rintro _ w19 ⟨rfl, c20⟩
  replace HC := HC.then c20
  replace hT := hT.tr0 c20
  replace hmx := hmx.tr0 c20
  replace ht := ht.tr0 c20
  replace hl := hl.tr0 c20
  replace hb4 := hb4.tr0 c20
  replace hb11 := hb11.tr0 c20
  replace hb18 := hb18.tr0 c20
  refine aI rfl <| en <| x_ret <| ret_tmp (v := .int _ _) rfl rfl ?_
  exact ⟨rfl, HC⟩

theorem test5_spec {Z : Tre} {An : Option Addr} {capn : Nat} {mx my : Int} {cwd : Int} {D : Nat → Prop} {w : World} (hT : Sl inE w D An Z) (hTl : Z.length ≤ 1000000000) (hF : FitT Z) {A : Option Addr} {n c : Nat} (hn : 5 ≤ n) (hmx : MaxT w) (ht : Tab w)  : CallR Tryz.prog 6 #[.agg ⟨[.slice An Z.length capn, .int .i64 mx, .int .i64 my]⟩, .int .i64 cwd, .slice A n c] w fun v w' => v = .int .i64 (2) ∧ Chg [] w w' := by
 replace hT := hT.mono (D' := fun k => k < w.heap.size) (fun k hk _ => hk)
 refine callR_of_wp (args := [_, _, _]) Tryz.func6 rfl (Nat.le_of_ble_eq_true rfl) ?_
 have HC : Chg [] w w := .refl _
 have hm1 := hmx.lt
 have ht1 := ht.lt
 refine sr rfl <| Wp rfl <| st_box (v := .agg ⟨[.slice _ _ _, .int _ _, .int _ _]⟩) (vs := [_, _, _]) rfl rfl ?_
 intro b3 w1 e2 c3 hb4
 have ge_b3 : w.heap.size ≤ b3 := by rw [e2]; exact HC.size
 replace HC := HC.then c3
 replace hT := hT.tr0 c3
 replace hmx := hmx.tr0 c3
 replace ht := ht.tr0 c3
 clear e2
 refine aI rfl <| en <| sr rfl <| Wp rfl <| st_loadA (vs := [_, _, _]) T.agg24 rfl (hb4.cells (n := 3) (vs := [_, _, _]) rfl) rfl <| mI rfl <| Wp rfl <| st_bld (ps := [(0, .tmp 9), (1, .tmp 10)]) (vs := [.slice _ _ _, .int _ _, .int _ _, .int _ _]) T.bld34 rfl <| Wp rfl <| st_alloc T.zero34 ?_
 intro b7 w5 e6 c7 hb8
 have ge_b7 : w.heap.size ≤ b7 := by rw [e6]; exact HC.size
 have ne_b3_b7 : b3 ≠ b7 := by rw [e6]; exact hb4.ne_size
 replace HC := HC.then c7
 replace hT := hT.tr0 c7
 replace hmx := hmx.tr0 c7
 replace ht := ht.tr0 c7
 replace hb4 := hb4.tr0 c7
 clear e6
 refine Wp rfl <| st_store (v := .agg ⟨[.slice _ _ _, .int _ _, .int _ _, .int _ _]⟩) T.size34 rfl rfl rfl hb8 rfl (Nat.le_of_ble_eq_true rfl) (by simp [Value.oneCell', S]) rfl ?_
 intro w9 c10 hb11; simp only [setVs, setV] at hb11
 clear hb8
 replace HC := HC.then1 c10 ge_b7
 replace hT := hT.tr c10 (by intro k hx hD; simp only [List.mem_cons, List.mem_nil_iff, or_false] at hx; have hD2 : k < w.heap.size := hD; omega)
 replace hmx := hmx.tr c10 (by intro hx; simp only [List.mem_cons, List.mem_nil_iff, or_false] at hx; omega)
 replace ht := ht.tr c10 (by intro hx; have := ht.lt; have := ht1; simp only [List.mem_cons, List.mem_nil_iff, or_false] at hx; omega)
 replace hb4 := hb4.tr1 c10 ne_b3_b7
 refine en <| sr rfl <| Wp rfl <| st_loadA (vs := [_, _, _, _]) T.agg34 rfl (hb11.cells (n := 4) (vs := [_, _, _, _]) rfl) rfl <| Wp rfl <| st_makeFunc <| Wp rfl <| st_loadA (vs := [_, _, _, _]) T.agg34 rfl (hb11.cells (n := 4) (vs := [_, _, _, _]) rfl) rfl <| Wp rfl <| st_makeFunc <| Wp rfl <| st_loadA (vs := [_, _, _, _]) T.agg34 rfl (hb11.cells (n := 4) (vs := [_, _, _, _]) rfl) rfl <| Wp rfl <| st_makeFunc <| Wp rfl <| st_loadA (vs := [_, _, _, _]) T.agg34 rfl (hb11.cells (n := 4) (vs := [_, _, _, _]) rfl) rfl <| Wp rfl <| st_makeFunc <| Wp rfl <| st_loadA (vs := [_, _, _, _]) T.agg34 rfl (hb11.cells (n := 4) (vs := [_, _, _, _]) rfl) rfl <| Wp rfl <| st_makeFunc <| Wp rfl <| st_bldA (ps := [(0, .tmp 13), (1, .tmp 15), (2, .tmp 17), (3, .tmp 19), (4, .tmp 21)]) (vs := [_, _, _, _, _]) T.u36 T.size35 T.zagg36 rfl <| Wp rfl <| st_alloc T.zero36 ?_
 intro b8 w12 e13 c14 hb15
 have ge_b8 : w.heap.size ≤ b8 := by rw [e13]; exact HC.size
 have ne_b3_b8 : b3 ≠ b8 := by rw [e13]; exact hb4.ne_size
 have ne_b7_b8 : b7 ≠ b8 := by rw [e13]; exact hb11.ne_size
 replace HC := HC.then c14
 replace hT := hT.tr0 c14
 replace hmx := hmx.tr0 c14
 replace ht := ht.tr0 c14
 replace hb4 := hb4.tr0 c14
 replace hb11 := hb11.tr0 c14
 clear e13
 refine Wp rfl <| st_store (v := .agg ⟨[.func (.func 12) #[.agg ⟨[.slice An Z.length capn, .int .i64 mx, .int .i64 my, .int .i64 cwd]⟩] #[], .func (.func 13) #[.agg ⟨[.slice An Z.length capn, .int .i64 mx, .int .i64 my, .int .i64 cwd]⟩] #[], .func (.func 14) #[.agg ⟨[.slice An Z.length capn, .int .i64 mx, .int .i64 my, .int .i64 cwd]⟩] #[], .func (.func 15) #[.agg ⟨[.slice An Z.length capn, .int .i64 mx, .int .i64 my, .int .i64 cwd]⟩] #[], .func (.func 16) #[.agg ⟨[.slice An Z.length capn, .int .i64 mx, .int .i64 my, .int .i64 cwd]⟩] #[]]⟩) (vs := [.func (.func 12) #[.agg ⟨[.slice An Z.length capn, .int .i64 mx, .int .i64 my, .int .i64 cwd]⟩] #[], .func (.func 13) #[.agg ⟨[.slice An Z.length capn, .int .i64 mx, .int .i64 my, .int .i64 cwd]⟩] #[], .func (.func 14) #[.agg ⟨[.slice An Z.length capn, .int .i64 mx, .int .i64 my, .int .i64 cwd]⟩] #[], .func (.func 15) #[.agg ⟨[.slice An Z.length capn, .int .i64 mx, .int .i64 my, .int .i64 cwd]⟩] #[], .func (.func 16) #[.agg ⟨[.slice An Z.length capn, .int .i64 mx, .int .i64 my, .int .i64 cwd]⟩] #[]]) T.size36 rfl rfl rfl hb15 rfl (Nat.le_of_ble_eq_true rfl) (by intro u hu; simp only [List.mem_cons, List.mem_nil_iff, or_false] at hu; rcases hu with rfl | rfl | rfl | rfl | rfl <;> rfl) rfl ?_
 intro w16 c17 hb18
 replace hb18 : Blk w16 b8 [.func (.func 12) #[.agg ⟨[.slice An Z.length capn, .int .i64 mx, .int .i64 my, .int .i64 cwd]⟩] #[], .func (.func 13) #[.agg ⟨[.slice An Z.length capn, .int .i64 mx, .int .i64 my, .int .i64 cwd]⟩] #[], .func (.func 14) #[.agg ⟨[.slice An Z.length capn, .int .i64 mx, .int .i64 my, .int .i64 cwd]⟩] #[], .func (.func 15) #[.agg ⟨[.slice An Z.length capn, .int .i64 mx, .int .i64 my, .int .i64 cwd]⟩] #[], .func (.func 16) #[.agg ⟨[.slice An Z.length capn, .int .i64 mx, .int .i64 my, .int .i64 cwd]⟩] #[]] 36 := hb18
 clear hb15
 replace HC := HC.then1 c17 ge_b8
 replace hT := hT.tr c17 (by intro k hx hD; simp only [List.mem_cons, List.mem_nil_iff, or_false] at hx; have hD2 : k < w.heap.size := hD; omega)
 replace hmx := hmx.tr c17 (by intro hx; simp only [List.mem_cons, List.mem_nil_iff, or_false] at hx; omega)
 replace ht := ht.tr c17 (by intro hx; have := ht.lt; have := ht1; simp only [List.mem_cons, List.mem_nil_iff, or_false] at hx; omega)
 replace hb4 := hb4.tr1 c17 ne_b3_b8
 replace hb11 := hb11.tr1 c17 ne_b7_b8
 refine en <| x_seq <| sr rfl <| mL rfl <| Wp rfl <| st_len (ct := #[25]) (by rw [show ((#[25] : Array TypeId)[0]?).bind Tryz.prog.underlying = some (.slice 9) from T.u25]; rfl) rfl <| Wp rfl <| st_geq rfl rfl <| en <| x_cond rfl (fun h0 => ?_) (fun h0 => ?_)
 ·try simp only [nm, ne_eq] at h0
  refine sr rfl <| aI rfl <| en <| x_ret <| then_r <| ret_tmp (v := .int _ _) rfl rfl ?_
  exact ⟨rfl, HC⟩
 ·try simp only [nm, ne_eq] at h0
  exfalso; omega

end Go.Proofs.YtpelmhoocepenaaGreatDoor.K
set_option linter.unusedVariables false
set_option linter.unusedSimpArgs false
set_option autoImplicit false
set_option maxRecDepth 20000
namespace Go.Proofs.YtpelmhoocepenaaGreatDoor.K
open Go Go.Proofs Go.RowKit

section make
open Go.Proofs
variable {P : Program} {r : Option Nat} {n : Nat} {O : Array Oper} {Q : Post} {E : Env} {ds : List Deferred} {w : World} {l : List Oper}
variable {dst : Option Nat} {ty : TypeId} {pos : String} {af : Array Edge} {g : Option (Nat × Bool)}
theorem st_make1 {t e : TypeId} {x y : Operand} {zs : List Value} {kl kc : IntKind} (ht : P.underlying t = some (.slice e)) (hz : zeroB P e zs) (hi : (P.info? e).any (fun i => Nat.beq (i.size) zs.length && Nat.ble i.bytes 1000000) = true) (hl : zs.length ≤ 1000) (hx : ev E x = .int kl 1) (hy : ev E y = .int kc 1)
    (h : ∀ b w', b = w.heap.size → Chg [] w w' → Blk w' b zs e → wops P r n O Q l (updo E dst (.slice (some ⟨b, 0, none⟩) 1 1)) ds w') : wop P r n O Q ⟨dst, .makeSlice t x y, ty, pos, af, g⟩ l E ds w := by
  obtain ⟨i, z, h1, h2, h3⟩ := hz
  rw [h1] at hi
  simp only [Option.any_some, Bool.and_eq_true] at hi
  have hs := Nat.eq_of_beq_eq_true hi.1
  have hb := Nat.le_of_ble_eq_true hi.2
  have hr := run_makeSlice (P := P) (w := w) t e i z ht h1 h2 kl kc 1 1 (by decide) (by decide) (by rw [hs]; simp; omega) (by omega) (by decide)
  have hm : madeCells z.cells ((1 : Int).toNat * i.size) = ⟨zs⟩ := by
    rw [h3, hs]
    apply Array.ext'
    apply List.ext_getElem?
    intro j
    simp only [madeCells, Array.toList_map, Array.toList_range, List.getElem?_map]
    by_cases hj : j < zs.length
    · rw [List.getElem?_range (by simpa using hj)]
      simp [Nat.mod_eq_of_lt hj, hj]
    · rw [List.getElem?_eq_none (by simpa using hj), List.getElem?_eq_none (by omega)]; rfl
  rw [hm] at hr
  refine wop_run (w' := w.alloc (.cells ⟨zs⟩ e)) (fun _ => by simp) ?_ (h w.heap.size _ rfl (Chg.alloc w _) (Blk.new w zs e))
  simp only [execOp, hx, hy, Sem.run_bind, hr, Result.andThen, Sem.run_pure]
  rfl
end make
def newZ : Tre := [⟨2, 7, 0, [], [], 0⟩]
theorem newZ_fit : FitT newZ where
  few := by decide
  kids := fun x hx => by obtain rfl := List.mem_singleton.1 hx; exact ⟨List.Pairwise.nil, by decide, fun p hp => by cases hp⟩
  up := fun x hx _ => by obtain rfl := List.mem_singleton.1 hx; decide
  data := fun x hx => by obtain rfl := List.mem_singleton.1 hx; decide
  kind := fun x hx => by obtain rfl := List.mem_singleton.1 hx; decide
  root := by decide
  mode := fun x hx => by obtain rfl := List.mem_singleton.1 hx; decide

theorem New_spec (w : World) : CallR Tryz.prog 11 #[.int .i64 1, .int .i64 0] w fun v w' => (∃ bn, v = .tuple ⟨[.agg ⟨[.slice (some ⟨bn, 0, none⟩) 1 1, .int .i64 1, .int .i64 0]⟩, .int .i64 0]⟩ ∧ w.heap.size ≤ bn ∧ Blk w' bn [.int .i64 2, .int .i64 7, .int .i64 0, S [], .slice none 0 0, .int .i64 0] 44) ∧ Chg [] w w' := by
 refine callR_of_wp (args := [_, _]) Tryz.func11 rfl (Nat.le_of_ble_eq_true rfl) ?_
 have HC : Chg [] w w := .refl _
 refine sr rfl <| Wp rfl <| st_alloc T.zero24 ?_
 intro b1 w2 e3 c4 hb5
 have ge_b1 : w.heap.size ≤ b1 := by rw [e3]; exact HC.size
 replace HC := HC.then c4
 clear e3
 refine aI rfl <| en <| x_seq <| sr rfl <| mI rfl <| Wp rfl <| st_lss rfl rfl <| mB rfl <| w_split (d := 9) rfl (fun g6 => ?_) (fun g6 => ?_)
 ·try simp only [nm, ne_eq] at g6
  first | exact absurd rfl g6 | exact absurd trivial g6 | (simp at g6; done)
 ·try simp only [nm, ne_eq] at g6
  refine w_yes 2 9 false <| st_move (v := .int _ _) rfl <| w_yes 2 9 false <| st_gtr rfl rfl <| pF rfl rfl <| mB rfl <| w_split (d := 13) rfl (fun g7 => ?_) (fun g7 => ?_)
  ·try simp only [nm, ne_eq] at g7
   first | exact absurd rfl g7 | exact absurd trivial g7 | (simp at g7; done)
  ·try simp only [nm, ne_eq] at g7
   refine w_yes 6 13 false <| st_move (v := .int _ _) rfl <| w_yes 6 13 false <| st_lss rfl rfl <| pF rfl rfl <| mB rfl <| w_split (d := 17) rfl (fun g8 => ?_) (fun g8 => ?_)
   ·try simp only [nm, ne_eq] at g8
    first | exact absurd rfl g8 | exact absurd trivial g8 | (simp at g8; done)
   ·try simp only [nm, ne_eq] at g8
    refine w_yes 10 17 false <| st_move (v := .int _ _) rfl <| w_yes 10 17 false <| st_gtr rfl rfl <| pF rfl rfl <| en <| x_cond rfl (fun h0 => ?_) (fun h0 => ?_)
    ·try simp only [nm, ne_eq] at h0
     first | exact absurd rfl h0 | exact absurd trivial h0 | (simp at h0; done)
    ·try simp only [nm, ne_eq] at h0
     refine x_skip <| then_n <| sr rfl <| mI rfl <| Wp rfl <| st_make1 T.u22 T.zero44 (by kernel_rfl) (by decide) rfl rfl ?_
     intro bn w9 e10 c11 hb12
     have ge_bn : w.heap.size ≤ bn := by rw [e10]; exact HC.size
     have ne_b1_bn : b1 ≠ bn := by rw [e10]; exact hb5.ne_size
     replace HC := HC.then c11
     replace hb5 := hb5.tr0 c11
     clear e10
     refine mI rfl <| mI rfl <| Wp rfl <| st_bld (ps := [(0, .tmp 23), (1, .tmp 24), (2, .tmp 25)]) (vs := [.slice _ _ _, .int _ _, .int _ _]) T.bld24 rfl <| Wp rfl <| st_alloc T.zero24 ?_
     intro b13 w14 e15 c16 hb17
     have ge_b13 : w.heap.size ≤ b13 := by rw [e15]; exact HC.size
     have ne_b1_b13 : b1 ≠ b13 := by rw [e15]; exact hb5.ne_size
     have ne_bn_b13 : bn ≠ b13 := by rw [e15]; exact hb12.ne_size
     replace HC := HC.then c16
     replace hb5 := hb5.tr0 c16
     replace hb12 := hb12.tr0 c16
     clear e15
     refine Wp rfl <| st_store (v := .agg ⟨[.slice _ _ _, .int _ _, .int _ _]⟩) T.size24 rfl rfl rfl hb17 rfl (Nat.le_of_ble_eq_true rfl) (by simp [Value.oneCell', S]) rfl ?_
     intro w18 c19 hb20; simp only [setVs, setV] at hb20
     clear hb17
     replace HC := HC.then1 c19 ge_b13
     replace hb5 := hb5.tr1 c19 ne_b1_b13
     replace hb12 := hb12.tr1 c19 ne_bn_b13
     refine en <| sr rfl <| fa T.fld24_0 rfl <| lL T.one22 rfl (hb20.cell rfl) <| Wp rfl <| st_bld (ps := [(0, .const (.int .i64 2)), (1, .const (.int .i64 7))]) (vs := [.int _ _, .int _ _, .int _ _, S _, .slice _ _ _, .int _ _]) T.bld44 rfl <| Wp rfl <| st_indexAddr T.u22 T.size44 rfl rfl (by decide) (by decide) <| Wp rfl <| st_store (v := .agg ⟨[.int _ _, .int _ _, .int _ _, S _, .slice _ _ _, .int _ _]⟩) T.size44 rfl rfl rfl hb12 rfl (Nat.le_of_ble_eq_true rfl) (by simp [Value.oneCell', S]) rfl ?_
     intro w21 c22 hb23; simp only [setVs, setV] at hb23
     clear hb12
     replace HC := HC.then1 c22 ge_bn
     replace hb5 := hb5.tr1 c22 ne_b1_bn
     replace hb20 := hb20.tr1 c22 (Ne.symm ne_bn_b13)
     refine en <| sr rfl <| Wp rfl <| st_loadA (vs := [_, _, _]) T.agg24 rfl (hb20.cells (n := 3) (vs := [_, _, _]) rfl) rfl <| Wp rfl <| st_store (v := .agg ⟨[.slice _ _ _, .int _ _, .int _ _]⟩) T.size24 rfl rfl rfl hb5 rfl (Nat.le_of_ble_eq_true rfl) (by simp [Value.oneCell', S]) rfl ?_
     intro w24 c25 hb26; simp only [setVs, setV] at hb26
     clear hb5
     replace HC := HC.then1 c25 ge_b1
     replace hb20 := hb20.tr1 c25 (Ne.symm ne_b1_b13)
     replace hb23 := hb23.tr1 c25 (Ne.symm ne_b1_bn)
     refine aI rfl <| en <| x_ret <| ret_many (vs := [.agg ⟨[_, _, _]⟩, .int _ _]) rfl ⟨⟨_, _, rfl, run_loadVarA T.agg24 (hb26.cells (n := 3) rfl) rfl⟩, ⟨rfl, trivial⟩⟩ (Nat.le_of_ble_eq_true rfl) ?_
     exact ⟨⟨bn, rfl, ge_bn, hb23⟩, HC⟩

end Go.Proofs.YtpelmhoocepenaaGreatDoor.K
set_option linter.unusedVariables false
set_option linter.unusedSimpArgs false
set_option autoImplicit false
set_option maxRecDepth 20000
namespace Go.Proofs.YtpelmhoocepenaaGreatDoor.K
open Go Go.Proofs Go.RowKit

theorem take1 {w : World} {D : Nat → Prop} {A : Option Addr} {x : Bytes} {l : List Bytes} (h : Sl sE w D A (x :: l)) : ∃ b o, A = some ⟨b, o, none⟩ := by
  obtain ⟨b, o, _, hA, _⟩ := h.at (i := 0) (x := x) rfl; exact ⟨b, o, hA⟩
theorem test_spec {Z : Tre} {An : Option Addr} {capn : Nat} {mx my : Int} {cwd : Int} {D : Nat → Prop} {w : World} (hT : Sl inE w D An Z) (hTl : Z.length ≤ 1000000000) (hF : FitT Z) {A : Option Addr} {c : Nat} {Dl : Nat → Prop} {l : List Bytes} (hl : Sl sE w Dl A l) (hc : l.length ≤ c) (hmx : MaxT w) (ht : Tab w) (hb : ∀ s, s ∈ l → s.length ≤ 140737488355328) : CallR Tryz.prog 6 #[.agg ⟨[.slice An Z.length capn, .int .i64 mx, .int .i64 my]⟩, .int .i64 cwd, .slice A l.length c] w fun v w' => v = .int .i64 (testV Z cwd l) ∧ Chg [] w w' := by
  match l, hl, hc, hb with
  | [], hl, hc, hb => exact test0_spec hT hTl hF hmx ht
  | [a], hl, hc, hb => obtain ⟨b, o, rfl⟩ := take1 hl; exact test1_spec hT hTl hF hl hc hmx ht (hb _ (by simp))
  | [a, b], hl, hc, hb => obtain ⟨b, o, rfl⟩ := take1 hl; exact test2_spec hT hTl hF hl hc hmx ht (hb _ (by simp)) (hb _ (by simp))
  | [a, b, d], hl, hc, hb => obtain ⟨b, o, rfl⟩ := take1 hl; exact test3_spec hT hTl hF hl hc hmx ht (hb _ (by simp)) (hb _ (by simp)) (hb _ (by simp))
  | [a, b, d, e], hl, hc, hb => obtain ⟨b, o, rfl⟩ := take1 hl; exact test4_spec hT hTl hF hl hc hmx ht (hb _ (by simp)) (hb _ (by simp)) (hb _ (by simp)) (hb _ (by simp))
  | a :: b :: d :: e :: f :: r, hl, hc, hb => exact test5_spec hT hTl hF (n := (a :: b :: d :: e :: f :: r).length) (by simp) hmx ht
end Go.Proofs.YtpelmhoocepenaaGreatDoor.K
set_option linter.unusedVariables false
set_option linter.unusedSimpArgs false
set_option autoImplicit false
set_option maxRecDepth 20000
namespace Go.Proofs.YtpelmhoocepenaaGreatDoor.K
open Go Go.Proofs Go.RowKit

end Go.Proofs.YtpelmhoocepenaaGreatDoor.K
