/- The law FieldSplits is true for every input, and its arguments read behind the call as they read before. -/
import Derived.Test.YtbnbkndeodankaaRows
import Derived.Test.YtbnbkndeodankaaKitR
import Derived.Test.YtbnbkndeodankaaRh
import Derived.WalkKit
import Derived.ProofKit
import Derived.OpenShut
import Derived.ShutString
import Derived.ChangeOld
import Derived.Below
import Derived.SizedLaws
set_option linter.unusedVariables false
set_option linter.unusedSimpArgs false
set_option autoImplicit false
namespace Go.Proofs.Ytbnbkndeodankaa.fieldSplits
open Go.ChangeShapes Go.WideShapes Go.ChangeAt Go.RowKit Go.Proofs.Ytbnbkndeodankaa.K
theorem own : ownKnob Try.prog.godebug = none := by kernel_rfl
theorem laidOut : laidOutB Try.prog = true := by kernel_rfl
theorem fitsP {H : Type} {enc : TypeId × Value → H} : Fits enc Try.prog pE 27 (fun p => p.text.length ≤ 140737488351232) :=
  (fits_struct Try.underlying27 (by kernel_rfl) (fits_cons rfl (by kernel_rfl) (fits_int Try.underlying2) (fits_last rfl (by kernel_rfl) (fits_string Try.underlying9)))).imp fun w D a vs h ok =>
    ⟨⟨a.1, a.2⟩, by obtain ⟨v1, v2, rfl, h1, h2⟩ := h; rw [show v1 = _ from h1, show v2 = _ from h2]; rfl, ok.2⟩
theorem fitsPs {H : Type} {enc : TypeId × Value → H} : Fits enc Try.prog pE.slice 22 (fun l => (∀ p, p ∈ l → p.text.length ≤ 140737488351232) ∧ l.length * 24 ≤ 140737488351232) := fits_slice Try.underlying22 (by kernel_rfl) (by kernel_rfl) fitsP
set_option maxRecDepth 100000 in
set_option maxHeartbeats 1000000 in
theorem lifted (os : Os) (started : os.Started) (H : Type) (enc : TypeId × Value → H) :
    ReturnsInHanded {} Try.checked os 6 .any (Rows.fieldSplitsSpec.pre6 enc Try.prog Try.f6 Rows.fieldSplitsRow.domain false) (Rows.fieldSplitsSpec.post enc Try.prog Try.f6 false true false false) := by
  refine returnsInHanded_of_change_sized (C := Try.checked) own started (by kernel_rfl) Try.func6
    (ChangeSpec.witness6 (enc := enc) (C := Try.checked) false ⟨#[], #[.slice none 0 0, .slice none 0 0, .string ByteArray.empty], []⟩ 8 (by kernel_rfl) (by kernel_rfl) (by kernel_rfl) (by kernel_rfl)) ?_
  intro W base args ds gs before hval0 hW hcnd hsz0 _
  have hsz : (DataW.weightsEach Try.prog (Try.f6.params.toList ++ Rows.fieldSplitsSpec.plain.varTypes Try.prog) (ds ++ gs)).all (· ≤ reachBytes) = true := hsz0
  have hval : ∀ (j : Nat) t v, Try.f6.params[j]? = some t → args[j]? = some v → Value.okWide Try.prog W .any base t v := hval0
  have hW' := hW
  obtain ⟨p, q, hA0, hV, rfl, hfz, hnd⟩ := hW
  have hA : DataW.TrodAll enc Try.prog W 0 (fun _ => true) true Try.f6.params.toList args.toList ds p := hA0
  rw [Try.params6] at hA hval hsz
  obtain ⟨v0, vs0, d0, ds0, p0, q0, hargs, rfl, rfl, h0, r0⟩ := trodAll_cons hA
  obtain ⟨v1, vs1, d1, ds1, p1, q1, rfl, rfl, rfl, h1, r1⟩ := trodAll_cons r0
  obtain ⟨v2, vs2, d2, ds2, p2, q2, rfl, rfl, rfl, h2, r2⟩ := trodAll_cons r1
  obtain ⟨rfl, rfl, rfl⟩ := trodAll_nil r2
  obtain rfl : args = #[v0, v1, v2] := by cases args; simp_all
  obtain ⟨rfl, rfl⟩ := trodVars_none hV
  obtain ⟨a0, hr0, ok0⟩ := fits_arg (fitsPs) h0 hsz (j := 0) (t := 22) rfl rfl
  obtain ⟨_, _, _, rfl⟩ := okWide_slice Try.underlying22 (hval 0 22 v0 rfl rfl)
  obtain ⟨A0, cap0, he0, hle0, hcap0, hr0⟩ := hr0
  simp only [Value.cells, List.cons.injEq, Value.slice.injEq, and_true] at he0
  obtain ⟨rfl, rfl, rfl⟩ := he0
  obtain ⟨a1, hr1, ok1⟩ := fits_arg (fitsPs) h1 hsz (j := 1) (t := 22) rfl rfl
  obtain ⟨_, _, _, rfl⟩ := okWide_slice Try.underlying22 (hval 1 22 v1 rfl rfl)
  obtain ⟨A1, cap1, he1, hle1, hcap1, hr1⟩ := hr1
  simp only [Value.cells, List.cons.injEq, Value.slice.injEq, and_true] at he1
  obtain ⟨rfl, rfl, rfl⟩ := he1
  obtain ⟨a2, hr2, ok2⟩ := fits_arg (fits_string Try.underlying9) h2 hsz (j := 2) (t := 9) rfl rfl
  obtain ⟨z2, rfl⟩ := okWide_string Try.underlying9 (hval 2 9 v2 rfl rfl)
  obtain rfl : z2 = ⟨⟨a2⟩⟩ := Value.string.inj (List.cons.inj (show [Value.string z2] = [Value.string ⟨⟨a2⟩⟩] from hr2)).1
  clear hA0 hval0 hsz0
  refine Calls.mono (FieldSplits_spec a2 hr0 hr1 (fun p hp => Nat.le_trans (ok0.1 p hp) (by omega)) (by have := ok0.2; omega) (fun p hp => Nat.le_trans (ok1.1 p hp) (by omega)) (by have := ok1.2; omega)) fun e W' ⟨v, he, hv', hc⟩ => ?_
  subst he; subst hv'
  have bel := hc.below
  exact ⟨_, rfl, _, _, _, [], _, [], hW', trodAll_mk1 (shut_bool Try.underlying4 _), (trodAll_cons_mk (Below.trod laidOut (by kernel_rfl) (of_decide_eq_true (by kernel_rfl)) h0 bel (lt_of_trod h0)) (trodAll_cons_mk (Below.trod laidOut (by kernel_rfl) (of_decide_eq_true (by kernel_rfl)) h1 bel (lt_of_trod h1)) (trodAll_cons_mk (Below.trod laidOut (by kernel_rfl) (of_decide_eq_true (by kernel_rfl)) h2 bel (lt_of_trod h2)) trodAll_mk0))), rfl, bel.frame _, fun h => by cases h⟩
theorem over : Rows.fieldSplitsRow.holds Try.pinned (OpenSpec.ofChange Rows.fieldSplitsSpec) :=
  OpenClaim.holds_of_wide 6 Try.f6 rfl rfl rfl rfl rfl rfl rfl ⟨rfl, rfl, rfl, rfl, rfl⟩ rfl rfl rfl rfl rfl (by kernel_rfl) Try.func6 (by kernel_rfl)
    (of_decide_eq_true (by kernel_rfl)) (by unfold Func.isWrapper; first | (rw [if_pos (by decide +kernel)]; kernel_rfl) | (rw [if_neg (by decide +kernel)]; exact ⟨rfl, rfl⟩))
    (fun os started H enc _ => lifted os started H enc)
end Go.Proofs.Ytbnbkndeodankaa.fieldSplits
namespace Go.Proofs.Ytbnbkndeodankaa
/-- The law's statement. -/
theorem fieldSplits_holds : Rows.FieldSplitsSaid := fieldSplits.over
end Go.Proofs.Ytbnbkndeodankaa
