/- The law AtreeParses is true for every input, and its arguments read behind the call as they read before. -/
import Derived.Test.YtcgcbpknbjafcaaDoorRows
import Derived.Test.YtcgcbpknbjafcaaDoorCards
import Derived.Test.YtcgcbpknbjafcaaDoorTie
import Derived.Test.YtcgcbpknbjafcaaDoorKitR
import Derived.Test.YtcgcbpknbjafcaaDoorDd
import Derived.WalkKit
import Derived.ProofKit
import Derived.OpenShut
import Derived.ShutString
import Derived.ChangeOld
import Derived.Below
import Derived.SizedLaws
import Derived.LaidMore
import Derived.Lib.LaidTab
import Derived.Lib.Space
import Derived.Stop.Joined
import Derived.SevenTiedAt
set_option linter.unusedVariables false
set_option linter.unusedSimpArgs false
set_option autoImplicit false
namespace Go.Proofs.YtcgcbpknbjafcaaDoor.atreeParses
open Go.ChangeShapes Go.WideShapes Go.ChangeAt Go.RowKit Go.Proofs.YtcgcbpknbjafcaaDoor.K
theorem own : ownKnob Tryd.prog.godebug = none := by kernel_rfl
theorem laidOut : laidOutB Tryd.prog = true := by kernel_rfl
theorem fitsK {H : Type} {enc : TypeId × Value → H} : Fits enc Tryd.prog (iE .i64).slice 58 (fun l => (∀ x, x ∈ l → (Lit.int .i64 x).wf = true) ∧ l.length * 8 ≤ 140737488351232) := fits_slice Tryd.underlying58 (by kernel_rfl) (by kernel_rfl) (fits_int Tryd.underlying3)
def okN (x : Nd) : Prop := x.name.length ≤ 140737488351232 ∧ x.kids.length ≤ 140737488351232 ∧ x.num ≤ 9223372036854775807
theorem wf_le {n : Int} (h : (Lit.int .i64 n).wf = true) : n ≤ 9223372036854775807 := (i64_of h).2
theorem fitsN {H : Type} {enc : TypeId × Value → H} : Fits enc Tryd.prog ndE 60 okN :=
  (fits_struct Tryd.underlying60 (by kernel_rfl) (fits_cons rfl (by kernel_rfl) (fits_string Tryd.underlying9) (fits_cons rfl (by kernel_rfl) (fits_int Tryd.underlying2) (fits_cons rfl (by kernel_rfl) (fits_string Tryd.underlying9) (fits_last rfl (by kernel_rfl) fitsK))))).imp fun w D a vs h ok =>
    ⟨⟨a.1, a.2.1, a.2.2.1, a.2.2.2⟩, by
      obtain ⟨v1, v2, rfl, h1, v3, v4, rfl, h3, v5, v6, rfl, h5, h6⟩ := h
      obtain ⟨A, cap, rfl, h7, h8, h9⟩ := h6
      rw [show v1 = _ from h1, show v3 = _ from h3, show v5 = _ from h5]
      exact ⟨A, cap, rfl, h7, h8, h9⟩, ok.2.2.1, by have := ok.2.2.2.2; show a.2.2.2.length ≤ _; omega, wf_le ok.2.1⟩
theorem fitsL {H : Type} {enc : TypeId × Value → H} : Fits enc Tryd.prog ndE.slice 39 (fun l => (∀ x, x ∈ l → okN x) ∧ l.length * 64 ≤ 140737488351232) := fits_slice Tryd.underlying39 (by kernel_rfl) (by kernel_rfl) fitsN
noncomputable def laidN : List (String × DataW Unit) := Rows.atreeParsesRow.laid
set_option maxRecDepth 100000 in
theorem door_met (os : Os) (args : Array Value) : laidMetH Tryd.prog laidN ((World.doorLaid Tryd.prog 2000 os).forCall (fun _ _ => 0) ⟨#[], args, []⟩).memory :=
  laidMetH_of_parts3 (fuel := 8) (laidMet_of_run' 8 (by kernel_rfl) (by kernel_rfl)) (by kernel_rfl) (by kernel_rfl)
theorem of_laid {W : World} (h : laidMetH Tryd.prog laidN W) : Lib.TabIs Tryd.prog W "strings.asciiSpace" .u8 Lib.asciiSpaceTab := by
  rw [MakeChecks.laidMetH_plain _ _ _ (by kernel_rfl)] at h
  obtain ⟨_, ⟨_, _, _, _, _, _, _, _, _, _, ⟨g, t, cs, fuel, p1, q1, hg, ht, hv, hd, _, _⟩, _⟩, _⟩ := h
  obtain rfl := Option.some.inj ((show Tryd.prog.globalNamed "strings.asciiSpace" = some 1 by kernel_rfl).symm.trans hg)
  obtain rfl := Option.some.inj ((show (Tryd.prog.globals[1]?).map (·.type) = some 99 by kernel_rfl).symm.trans ht)
  rw [show (Rows.laid_strings_asciiSpace : DataW Unit) = Lib.tabData .u8 Lib.asciiSpaceTab from by kernel_rfl] at hd
  unfold Lib.TabIs
  rw [hv, ← Lib.cells_of_tab (k := .u8) (zs := Lib.asciiSpaceTab) Tryd.underlying99 Tryd.underlying5 (by kernel_rfl) (by kernel_rfl) hd]
set_option maxRecDepth 100000 in
set_option maxHeartbeats 1000000 in
theorem lifted (os : Os) (started : os.Started) (H : Type) (enc : TypeId × Value → H) :
    ReturnsInHanded {} Tryd.checked os 7 .any (fun w args => (Rows.atreeParsesSpec.pre enc Tryd.prog Tryd.f7 [] false w args ∧ laidMetH Tryd.prog laidN w) ∧ sizedMet enc Tryd.prog Tryd.f7 (OpenSpec.ofChange Rows.atreeParsesSpec) false w args) (Rows.atreeParsesSpec.post enc Tryd.prog Tryd.f7 false true false false) := by
  refine returnsInHanded_of_change_and (C := Tryd.checked) (X := fun w _ => laidMetH Tryd.prog laidN w) (fun _ _ _ hh h => h.of_heap hh) own started (by kernel_rfl) Tryd.func7
    (ChangeSpec.witness_shaped (enc := enc) (C := Tryd.checked) (os := os) (X := fun w _ => laidMetH Tryd.prog laidN w) false (World.doorLaid Tryd.prog 2000 os) #[.string ByteArray.empty, .slice none 0 0] 8 rfl (World.shaped_of_RefB (by kernel_rfl) (by kernel_rfl)) (by kernel_rfl) (by kernel_rfl) (by kernel_rfl) (door_met os _)) ?_
  intro W base args ds gs before hval0 hW hcnd hsz0 hL _
  have htab := of_laid hL
  have hsz : (DataW.weightsEach Tryd.prog (Tryd.f7.params.toList ++ Rows.atreeParsesSpec.plain.varTypes Tryd.prog) (ds ++ gs)).all (· ≤ reachBytes) = true := hsz0
  have hval : ∀ (j : Nat) t v, Tryd.f7.params[j]? = some t → args[j]? = some v → Value.okWide Tryd.prog W .any base t v := hval0
  have hW' := hW
  obtain ⟨p, q, hA0, hV, rfl, hfz, hnd⟩ := hW
  have hA : DataW.TrodAll enc Tryd.prog W 0 (fun _ => true) true Tryd.f7.params.toList args.toList ds p := hA0
  rw [Tryd.params7] at hA hval hsz
  obtain ⟨v0, vs0, d0, ds0, p0, q0, hargs, rfl, rfl, h0, r0⟩ := trodAll_cons hA
  obtain ⟨v1, vs1, d1, ds1, p1, q1, rfl, rfl, rfl, h1, r1⟩ := trodAll_cons r0
  obtain ⟨rfl, rfl, rfl⟩ := trodAll_nil r1
  obtain rfl : args = #[v0, v1] := by cases args; simp_all
  obtain ⟨rfl, rfl⟩ := trodVars_none hV
  obtain ⟨a0, hr0, ok0⟩ := fits_arg (fits_string Tryd.underlying9) h0 hsz (j := 0) (t := 9) rfl rfl
  obtain ⟨z0, rfl⟩ := okWide_string Tryd.underlying9 (hval 0 9 v0 rfl rfl)
  obtain rfl : z0 = ⟨⟨a0⟩⟩ := Value.string.inj (List.cons.inj (show [Value.string z0] = [Value.string ⟨⟨a0⟩⟩] from hr0)).1
  obtain ⟨a1, hr1, ok1⟩ := fits_arg (fitsL) h1 hsz (j := 1) (t := 39) rfl rfl
  obtain ⟨_, _, _, rfl⟩ := okWide_slice Tryd.underlying39 (hval 1 39 v1 rfl rfl)
  obtain ⟨A1, cap1, he1, hle1, hcap1, hr1⟩ := hr1
  simp only [Value.cells, List.cons.injEq, Value.slice.injEq, and_true] at he1
  obtain ⟨rfl, rfl, rfl⟩ := he1
  clear hA0 hval0 hsz0
  refine Calls.mono (AtreeParses_spec a0 (by have := ok0; omega) hr1 (fun x hx => by have := ok1.1 x hx; obtain ⟨q1, q2, q3⟩ := this; exact ⟨by omega, by omega⟩) (by have := ok1.2; omega) (fun x hx => by have := ok1.1 x hx; obtain ⟨q1, q2, q3⟩ := this; exact q3) htab) fun e W' ⟨v, he, hv', hc⟩ => ?_
  subst he; subst hv'
  have bel := hc.below
  exact ⟨_, rfl, _, _, _, [], _, [], hW', trodAll_mk1 (shut_bool Tryd.underlying4 _), (trodAll_cons_mk (Below.trod laidOut (by kernel_rfl) (of_decide_eq_true (by kernel_rfl)) h0 bel (lt_of_trod h0)) (trodAll_cons_mk (Below.trod laidOut (by kernel_rfl) (of_decide_eq_true (by kernel_rfl)) h1 bel (lt_of_trod h1)) trodAll_mk0)), rfl, bel.frame _, fun h => by cases h⟩
theorem over : Rows.atreeParsesRow.holds Tryd.pinned (OpenSpec.ofChange Rows.atreeParsesSpec) :=
  OpenClaim.holds_of_wide 7 Tryd.f7 rfl rfl rfl rfl rfl rfl rfl ⟨rfl, rfl, rfl, rfl, rfl⟩ rfl rfl rfl rfl rfl (by kernel_rfl) Tryd.func7 (by kernel_rfl)
    (of_decide_eq_true (by kernel_rfl)) (by unfold Func.isWrapper; first | (rw [if_pos (by decide +kernel)]; kernel_rfl) | (rw [if_neg (by decide +kernel)]; exact ⟨rfl, rfl⟩))
    (fun os started H enc _ => lifted os started H enc)
end Go.Proofs.YtcgcbpknbjafcaaDoor.atreeParses
namespace Go.Proofs.YtcgcbpknbjafcaaDoor
theorem atreeParses_plain : Rows.AtreeParsesSaid := atreeParses.over
/-- The law's tied card. -/
theorem atreeParses_holds : Rows.AtreeParsesCardSaid :=
  Claim7.holds_tied_plain_at .later [] [.listed, .data] true (true, "07811ce56dca292fa56e6a674e0171436cd78b18161ce8ca8d00af6efd4363c5") false
    atreeParses_plain (fun _ h => by cases h) (by kernel_rfl) (fun _ h => by cases h) atreeParses_row_tie rfl ⟨rfl, rfl⟩ (by kernel_rfl) rfl
    (fun f fn hf hfn => by
      obtain rfl : f = 7 := Option.some.inj ((show Tryd.prog.funcNamed "windlass/windlasslaw13.AtreeParses" = some 7 by kernel_rfl).symm.trans hf) |>.symm
      obtain rfl : fn = Tryd.f7 := (Option.some.inj (Tryd.func7.symm.trans hfn)).symm
      exact ⟨by kernel_rfl, fun j t ht => by
        rw [Tryd.params7] at ht
        have hm : t ∈ [9, 39] := by simpa using Array.mem_of_getElem? ht
        have hall : ([9, 39].all fun u => !Tryd.prog.wantsStandIn u) = true := by kernel_rfl
        exact (show Tryd.prog.wantsStandIn t = false by simpa using List.all_eq_true.1 hall t hm)⟩)
    (by kernel_rfl)
end Go.Proofs.YtcgcbpknbjafcaaDoor
