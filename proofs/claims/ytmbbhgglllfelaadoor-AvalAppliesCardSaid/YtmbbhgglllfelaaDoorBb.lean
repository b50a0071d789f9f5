/- Walks: operators, a row searched. -/
import Derived.Test.YtmbbhgglllfelaaDoorBa
import Derived.Test.YtmbbhgglllfelaaDoorTy
import Derived.KernelRfl
set_option linter.unusedVariables false
set_option linter.unusedSimpArgs false
set_option autoImplicit false
set_option maxRecDepth 20000
namespace Go.Proofs.YtmbbhgglllfelaaDoor.K
open Go Go.Proofs Go.RowKit

/-- The operators, the longest first. -/
def opsL : List Bytes := [[60, 60, 61], [62, 62, 61], [38, 38], [124, 124], [61, 61], [33, 61], [60, 61], [62, 61], [60, 60], [62, 62], [43, 61], [45, 61], [42, 61], [47, 61], [37, 61], [38, 61], [94, 61], [124, 61], [43], [45], [42], [47], [37], [60], [62], [38], [94], [124], [33], [126], [63], [58], [61], [40], [41]]
theorem fields_ops : Lib.fields [60, 60, 61, 32, 62, 62, 61, 32, 38, 38, 32, 124, 124, 32, 61, 61, 32, 33, 61, 32, 60, 61, 32, 62, 61, 32, 60, 60, 32, 62, 62, 32, 43, 61, 32, 45, 61, 32, 42, 61, 32, 47, 61, 32, 37, 61, 32, 38, 61, 32, 94, 61, 32, 124, 61, 32, 43, 32, 45, 32, 42, 32, 47, 32, 37, 32, 60, 32, 62, 32, 38, 32, 94, 32, 124, 32, 33, 32, 126, 32, 63, 32, 58, 32, 61, 32, 40, 32, 41] = opsL := by kernel_rfl

theorem operators_spec (w : World) (ht : Tab w) : CallR Tryd.prog 78 #[] w fun v w' => ∃ b, v = .slice (some ⟨b, 0, none⟩) opsL.length opsL.length ∧ w.heap.size ≤ b ∧ Sl sE w' (fun k => k = b) (some ⟨b, 0, none⟩) opsL ∧ Chg [] w w' := by
 refine callR_of_wp (args := []) Tryd.func78 rfl (Nat.le_of_ble_eq_true rfl) ?_
 have HC : Chg [] w w := .refl _
 refine sr rfl <| aL rfl <| en <| sr rfl <| Wp rfl <| st_call (ags := [_]) rfl rfl T.ent65 rfl (Fields_spec [60, 60, 61, 32, 62, 62, 61, 32, 38, 38, 32, 124, 124, 32, 61, 61, 32, 33, 61, 32, 60, 61, 32, 62, 61, 32, 60, 60, 32, 62, 62, 32, 43, 61, 32, 45, 61, 32, 42, 61, 32, 47, 61, 32, 37, 61, 32, 38, 61, 32, 94, 61, 32, 124, 61, 32, 43, 32, 45, 32, 42, 32, 47, 32, 37, 32, 60, 32, 62, 32, 38, 32, 94, 32, 124, 32, 33, 32, 126, 32, 63, 32, 58, 32, 61, 32, 40, 32, 41] w (by decide) (all128 _ rfl) ht) ?_
 rintro _ w1 ⟨b, rfl, hge, hsl, c2⟩
 replace HC := HC.then c2
 refine aL rfl <| en <| x_ret <| ret_tmp (v := .slice _ _ _) rfl rfl ?_
 rw [fields_ops] at hsl ⊢
 exact ⟨b, rfl, hge, hsl, HC⟩

theorem IndexFunc_spec {k : FuncId} {caps : Array Value} {q : Bytes → Bool} {w : World} {l : List Bytes} {Al : Option Addr} {capl : Nat} {D : Nat → Prop} (hl : Sl sE w D Al l) (hlen : l.length ≤ 9223372036854775807) (hent : ∀ args (w : World), (callFunc k args).run Tryd.prog w = .ok (.enter k args) w) (hp : ∀ c W, Chg [] w W → CallR Tryd.prog k ⟨S c :: caps.toList⟩ W fun v W' => v = .bool (q c) ∧ Chg [] W W') :
    CallR Tryd.prog 79 #[.slice Al l.length capl, .func (.func k) #[] caps] w fun v w' => v = .int .i64 (findN q 0 l) ∧ Chg [] w w' := by
 refine callR_of_wp (args := [_, _]) Tryd.func79 rfl (Nat.le_of_ble_eq_true rfl) ?_
 have HC : Chg [] w w := .refl _
 refine sr rfl <| aI rfl <| en <| x_seq <| sr rfl <| mL rfl <| Wp rfl <| st_len (ct := #[92]) (by rw [show ((#[92] : Array TypeId)[0]?).bind Tryd.prog.underlying = some (.slice 9) from T.u92]; rfl) rfl <| mI rfl <| en <| x_block <| x_loop (ι := Nat) [4, 5, 8, 9, 10, 11, 12, 13, 14, 15, 16, 17, 18] (fun i => [(8, .int .i64 (i : Int))]) (fun i W => (i ≤ l.length ∧ findN q 0 l = findN q i (l.drop i)) ∧ (Chg [] w W) ∧ (Sl sE W D Al l)) (fun i => l.length - i) 0 ?_ ?_ ?_
 · exact ⟨rfl, trivial⟩
 ·refine ⟨?_, HC, hl⟩
  exact ⟨Nat.zero_le _, by simp⟩
 intro i G2 w1 ⟨⟨hi, hr⟩, HC, hl⟩
 change wp _ _ _ _ _ (upds (over _ _ G2) [(8, .int .i64 (i : Int))]) _ _
 refine sr rfl <| Wp rfl <| st_lss rfl rfl <| en <| x_seq <| x_cond rfl (fun h0 => ?_) (fun h0 => ?_)
 ·try simp only [nm, ne_eq] at h0
  refine x_skip <| then_n <| x_seq <| x_block <| sr rfl <| mI rfl <| aI rfl <| en <| sr rfl <| mv (v := .func _ _ _) rfl <| mL rfl <| mI rfl ?_
  obtain ⟨x3, hx4⟩ : ∃ zz, l[i]? = some zz := ⟨_, List.getElem?_eq_getElem (by omega)⟩
  obtain ⟨lb9, _, vs8, hA5, hR7, hC6⟩ := hl.at hx4
  obtain rfl : vs8 = [S x3] := hR7
  refine Wp rfl <| st_indexAddr T.u92 T.size9 (congrArg (fun z => Value.slice z _ _) hA5) rfl (by omega) (by omega) <| lS T.one9 rfl (hC6.at (j := 0) rfl) <| Wp rfl <| st_call (f := k) (cap := caps) (ags := S _ :: caps.toList) rfl rfl hent rfl (hp _ _ HC) ?_
  rintro _ w10 ⟨rfl, c11⟩
  replace HC := HC.then c11
  replace hl := hl.tr0 c11
  refine en <| x_cond rfl (fun h1 => ?_) (fun h1 => ?_)
  ·try simp only [nm, ne_eq] at h1
   refine sr rfl <| mI rfl <| aI rfl <| en <| x_ret <| block_r <| then_r <| then_r <| block_r <| then_r <| ret_tmp (v := .int _ _) rfl rfl <| ⟨?_, HC⟩
   rw [hr, findN_off hx4 h1]
  ·try simp only [nm, ne_eq] at h1
   refine x_skip <| block_n <| then_n <| x_region rfl <| Wp rfl <| st_addn rfl rfl (by constructor <;> omega) <| mI rfl <| en <| ⟨i + 1, ?_, ?_, rfl, ⟨rfl, trivial⟩, ?_⟩
   ·refine ⟨?_, HC, hl⟩
    exact ⟨by omega, by rw [hr, findN_on hx4 h1]⟩
   ·show l.length - (i + 1) < l.length - i; omega
   repeat (first | exact agree_upds agree_over rfl | refine agree_upd ?_ rfl | refine agree_upds ?_ rfl | refine agree_over_sub ?_ rfl)
 ·try simp only [nm, ne_eq] at h0
  refine x_exit <| then_x <| then_x <| block_x <| then_n <| sr rfl <| aI rfl <| en <| x_ret <| ret_tmp (v := .int _ _) rfl rfl <| ⟨?_, HC⟩
  rw [hr, findN_end (by omega)]

theorem next1_spec {bs : Nat} {s : Bytes} {w : World} (o : Bytes) (hb : Blk w bs [S s] 9) : CallR Tryd.prog 80 #[S o, .pointer (some ⟨bs, 0, none⟩)] w fun v w' => v = .bool (Lib.hasPrefix s o) ∧ Chg [] w w' := by
 refine callR_of_wp (args := [_, _]) Tryd.func80 rfl (Nat.le_of_ble_eq_true rfl) ?_
 have HC : Chg [] w w := .refl _
 refine sr rfl <| aB rfl <| en <| sr rfl <| lS T.one9 rfl (hb.cell rfl) <| mS rfl <| Wp rfl <| st_call (ags := [_, _]) rfl rfl T.ent35 rfl (HasPrefix_spec _ _ _) ?_
 rintro _ w1 ⟨rfl, c2⟩
 replace HC := HC.then c2
 replace hb := hb.tr0 c2
 refine aB rfl <| en <| x_ret <| ret_tmp (v := .bool _) rfl rfl ?_
 exact ⟨rfl, HC⟩

end Go.Proofs.YtmbbhgglllfelaaDoor.K
