import Derived.Test.YtncnalboiljgiaaGreatRows
import Derived.Test.YtncnalboiljgiaaGreatKitL
import Derived.Test.YtncnalboiljgiaaGreatGt
import Derived.WalkKit
import Derived.ProofKit
import Derived.OpenShut
import Derived.ShutString
import Derived.ChangeOld
import Derived.Below
import Derived.SizedLaws
import Derived.Shelf.Vars
set_option linter.unusedVariables false
set_option linter.unusedSimpArgs false
set_option autoImplicit false
namespace Go.Proofs.YtncnalboiljgiaaGreat.globAll
open Go.ChangeShapes Go.WideShapes Go.ChangeAt Go.RowKit Go.Proofs.YtncnalboiljgiaaGreat.K
theorem own : ownKnob Tryz.prog.godebug = none := by kernel_rfl
theorem laidOut : laidOutB Tryz.prog = true := by kernel_rfl
section
variable {H : Type} {enc : TypeId × Value → H}
theorem hand_sized_shaped {a : Assume} {C : Checked} {os : Os} {f : FuncId} {fn : Func} {s : ChangeSpec} {conds : List PathCond} {apart fresh handsOn again : Bool}
    (own : ownKnob C.prog.godebug = none) (started : os.Started) (noInit : C.prog.inits.idxOf? f = none) (hfn : C.prog.funcs[f]? = some fn)
    (witness : ∃ (w : World) (tape : Tape) (i : Input), w.os = os ∧ (w.forCall tape i).Shaped C.prog ∧ i.vars = [] ∧ Input.okWide C.prog (w.forCall tape i) .any w.heap.size f i ∧
      s.pre6 enc C.prog fn conds apart (w.forCall tape i).memory i.args ∧ a.holds C.prog (lone (Frame.enter C.prog f i.args .normal) [] (w.forCall tape i)))
    (contract : ∀ (W : World) (base : Nat) (args : Array Value) (ds gs : List (DataW H)) (before : List MemPlace),
      (∀ (j : Nat) t v, fn.params[j]? = some t → args[j]? = some v → Value.okWide C.prog W .any base t v) →
      DataW.Whole enc C.prog fn.params.toList s.vars apart W args.toList ds gs before →
      conds.all (PathCond.test C.prog ⟨fn.params.toList, ds, s.plain.varTypes C.prog, gs⟩) = true →
      (DataW.weightsEach C.prog (fn.params.toList ++ s.plain.varTypes C.prog) (ds ++ gs)).all (· ≤ reachBytes) = true → W.ShapedOpen C.prog →
      a.holds C.prog (lone (Frame.enter C.prog f args .normal) [] W) →
      Calls C.prog f args W fun e W' => ∃ v, e = .returned v ∧ s.post enc C.prog fn apart fresh handsOn again W args v W') :
    ReturnsInHanded a C os f .any (s.pre6 enc C.prog fn conds apart) (s.post enc C.prog fn apart fresh handsOn again) := by
  refine returnsInHanded_of_calls own started noInit witness ?_
  intro w tape i _ hsh _ hok hpre hholds
  obtain ⟨_, _, _, fn', hfn', _, _, _, _, hval⟩ := hok
  obtain rfl : fn' = fn := Option.some.inj (hfn'.symm.trans hfn)
  obtain ⟨⟨ds, gs, before, hw, hc⟩, hz⟩ := hpre
  refine (contract (w.forCall tape i) w.heap.size i.args ds gs before hval (DataW.Whole.of_heap (w' := w.forCall tape i) (by rfl) hw) hc (hz.weights hw) hsh hholds).mono fun e W' ⟨v, he, hp⟩ => ?_
  subst he
  exact ChangeSpec.post_blind hp
end
theorem fitsK {H : Type} {enc : TypeId × Value → H} : Fits enc Tryz.prog keE 38 (fun p => p.1.length ≤ 140737488351232 ∧ (Lit.int .i64 p.2).wf = true) :=
  (fits_struct Tryz.underlying38 (by kernel_rfl) (fits_cons rfl (by kernel_rfl) (fits_string Tryz.underlying9) (fits_last rfl (by kernel_rfl) (fits_int Tryz.underlying3)))).imp fun w D a vs h ok =>
    ⟨a, by
      obtain ⟨v1, v2, rfl, h1, h2⟩ := h
      rw [show v1 = _ from h1, show v2 = _ from h2]; rfl, ok⟩
def KidsOk (l : List Ke) : Prop := (∀ x, x ∈ l → x.1.length ≤ 140737488351232 ∧ (Lit.int .i64 x.2).wf = true) ∧ l.length * 24 ≤ 140737488351232
theorem fitsKs {H : Type} {enc : TypeId × Value → H} : Fits enc Tryz.prog keE.slice 34 KidsOk := fits_slice Tryz.underlying34 (by kernel_rfl) (by kernel_rfl) fitsK
def InoOk (x : Ino) : Prop := x.data.length ≤ 140737488351232 ∧ KidsOk x.kids ∧ (Lit.int .i64 x.links).wf = true
theorem fitsI {H : Type} {enc : TypeId × Value → H} : Fits enc Tryz.prog inE 36 InoOk :=
  (fits_struct Tryz.underlying36 (by kernel_rfl) (fits_cons rfl (by kernel_rfl) (fits_int Tryz.underlying3) (fits_cons rfl (by kernel_rfl) (fits_int Tryz.underlying3) (fits_cons rfl (by kernel_rfl) (fits_int Tryz.underlying3) (fits_cons rfl (by kernel_rfl) (fits_string Tryz.underlying9) (fits_cons rfl (by kernel_rfl) fitsKs (fits_last rfl (by kernel_rfl) (fits_int Tryz.underlying3)))))))).imp fun w D a vs h ok =>
    ⟨⟨a.1, a.2.1, a.2.2.1, a.2.2.2.1, a.2.2.2.2.1, a.2.2.2.2.2⟩, by
      obtain ⟨v1, _, rfl, h1, v2, _, rfl, h2, v3, _, rfl, h3, v4, _, rfl, h4, v5, v6, rfl, ⟨K, c, h5, h6, h7, h8⟩, h9⟩ := h
      rw [show v1 = _ from h1, show v2 = _ from h2, show v3 = _ from h3, show v4 = _ from h4, h5, show v6 = _ from h9]
      exact ⟨K, c, rfl, h6, h7, h8⟩, ok.2.2.2.1, ok.2.2.2.2.1, ok.2.2.1⟩
theorem fitsIs {H : Type} {enc : TypeId × Value → H} : Fits enc Tryz.prog inE.slice 22 (fun l => (∀ x, x ∈ l → InoOk x) ∧ l.length * 72 ≤ 140737488351232) := fits_slice Tryz.underlying22 (by kernel_rfl) (by kernel_rfl) fitsI
theorem fitsT {H : Type} {enc : TypeId × Value → H} : Fits enc Tryz.prog (inE.slice.seq ((iE .i64).seq (iE .i64))) 24 (fun x => ((∀ y, y ∈ x.1 → InoOk y) ∧ x.1.length * 72 ≤ 140737488351232) ∧ (Lit.int .i64 x.2.1).wf = true ∧ (Lit.int .i64 x.2.2).wf = true) := (fits_struct (enc := enc) Tryz.underlying24 (by kernel_rfl) (fits_cons rfl (by kernel_rfl) (fitsIs (enc := enc)) (fits_cons rfl (by kernel_rfl) (fits_int Tryz.underlying3) (fits_last rfl (by kernel_rfl) (fits_int Tryz.underlying3))))).imp fun w D a vs h ok => ⟨a, h, ok⟩
set_option maxRecDepth 100000 in
set_option maxHeartbeats 1000000 in
theorem lifted (os : Os) (started : os.Started) (H : Type) (enc : TypeId × Value → H) :
    ReturnsInHanded {} Tryz.checked os 4 .any (Rows.globAllSpec.pre6 enc Tryz.prog Tryz.f4 Rows.globAllRow.domain false) (Rows.globAllSpec.post enc Tryz.prog Tryz.f4 false true false false) := by
  refine hand_sized_shaped (C := Tryz.checked) own started (by kernel_rfl) Tryz.func4
    (ChangeSpec.witness6 (enc := enc) (C := Tryz.checked) false ⟨#[], #[.agg ⟨[.slice none 0 0, .int .i64 0, .int .i64 0]⟩, .int .i64 0], []⟩ 8 (by kernel_rfl) (by kernel_rfl) (by kernel_rfl) (by kernel_rfl)) ?_
  intro W base args ds gs before hval0 hW hcnd hsz0 hsh _
  have hmx : MaxT W := Go.Proofs.cell_of_shapedOpen_int (zero := #[.int .i64 0]) (t := 3) hsh (of_decide_eq_true (by kernel_rfl)) (by kernel_rfl) rfl (by kernel_rfl) (by kernel_rfl) Tryz.underlying3
  have hsz : (DataW.weightsEach Tryz.prog (Tryz.f4.params.toList ++ Rows.globAllSpec.plain.varTypes Tryz.prog) (ds ++ gs)).all (· ≤ reachBytes) = true := hsz0
  have hval : ∀ (j : Nat) t v, Tryz.f4.params[j]? = some t → args[j]? = some v → Value.okWide Tryz.prog W .any base t v := hval0
  have hW' := hW
  obtain ⟨p, q, hA0, hV, rfl, hfz, hnd⟩ := hW
  have hA : DataW.TrodAll enc Tryz.prog W 0 (fun _ => true) true Tryz.f4.params.toList args.toList ds p := hA0
  rw [Tryz.params4] at hA hval hsz
  obtain ⟨v0, vs0, d0, ds0, p0, q0, hargs, rfl, rfl, h0, r0⟩ := trodAll_cons hA
  obtain ⟨v1, vs1, d1, ds1, p1, q1, rfl, rfl, rfl, h1, r1⟩ := trodAll_cons r0
  obtain ⟨rfl, rfl, rfl⟩ := trodAll_nil r1
  obtain rfl : args = #[v0, v1] := by cases args; simp_all
  obtain ⟨rfl, rfl⟩ := trodVars_none hV
  obtain ⟨a0, hr0, ok0⟩ := fits_arg (fitsT) h0 hsz (j := 0) (t := 24) rfl rfl
  obtain ⟨c0, rfl, _⟩ := okWide_struct Tryz.underlying24 (hval 0 24 v0 rfl rfl)
  obtain ⟨x0, y0, hx0, ⟨A0, cap0, hp0, hle0, hcap0, hT0⟩, z0, u0, hz0, hm0, hn0⟩ := hr0
  have hc0 : c0 = ⟨[.slice A0 a0.1.length cap0, .int .i64 a0.2.1, .int .i64 a0.2.2]⟩ := Array.ext' (by show (Value.agg c0).cells.toList = _; rw [hx0, hp0, hz0, show z0 = _ from hm0, show u0 = _ from hn0]; rfl)
  subst hc0
  have hD0 : ∀ x, x ∈ a0.1 → x.data.length ≤ 140737488351232 ∧ ∀ p, p ∈ x.kids → p.1.length ≤ 140737488351232 := fun x hx => ⟨(ok0.1.1 x hx).1, fun p hp => ((ok0.1.1 x hx).2.1.1 p hp).1⟩
  have hl0 : a0.1.length ≤ 9223372036854775807 := by have := ok0.1.2; omega
  obtain ⟨a1, hr1, ok1⟩ := fits_arg (fits_int Tryz.underlying3) h1 hsz (j := 1) (t := 3) rfl rfl
  obtain ⟨z1, rfl⟩ := okWide_int Tryz.underlying3 (hval 1 3 v1 rfl rfl)
  obtain rfl : a1 = z1 := (Value.int.inj (List.cons.inj (show [Value.int _ z1] = [Value.int _ a1] from hr1)).1).2.symm
  clear hA0 hval0 hsz0
  refine Calls.mono (GlobAll_spec hT0 hl0 hD0 hmx) fun e W' ⟨v, he, hv', hc⟩ => ?_
  subst he; subst hv'
  have bel := hc.below
  exact ⟨_, rfl, _, _, _, [], _, [], hW', trodAll_mk1 (shut_bool Tryz.underlying4 _), (trodAll_cons_mk (Below.trod laidOut (by kernel_rfl) (of_decide_eq_true (by kernel_rfl)) h0 bel (lt_of_trod h0)) (trodAll_cons_mk (Below.trod laidOut (by kernel_rfl) (of_decide_eq_true (by kernel_rfl)) h1 bel (lt_of_trod h1)) trodAll_mk0)), rfl, bel.frame _, fun h => by cases h⟩
theorem over : Rows.globAllRow.holds Tryz.pinned (OpenSpec.ofChange Rows.globAllSpec) :=
  OpenClaim.holds_of_wide 4 Tryz.f4 rfl rfl rfl rfl rfl rfl rfl ⟨rfl, rfl, rfl, rfl, rfl⟩ rfl rfl rfl rfl rfl (by kernel_rfl) Tryz.func4 (by kernel_rfl)
    (of_decide_eq_true (by kernel_rfl)) (by unfold Func.isWrapper; first | (rw [if_pos (by decide +kernel)]; kernel_rfl) | (rw [if_neg (by decide +kernel)]; exact ⟨rfl, rfl⟩))
    (fun os started H enc _ => lifted os started H enc)
end Go.Proofs.YtncnalboiljgiaaGreat.globAll
namespace Go.Proofs.YtncnalboiljgiaaGreat
theorem globAll_holds : Rows.GlobAllSaid := globAll.over
end Go.Proofs.YtncnalboiljgiaaGreat
