import Derived.Test.YtghjmiggobpmoaaGreatDoorRows
import Derived.Test.YtghjmiggobpmoaaGreatDoorCards
import Derived.Test.YtghjmiggobpmoaaGreatDoorTie
import Derived.Test.YtghjmiggobpmoaaGreatDoorKitL
import Derived.Test.YtghjmiggobpmoaaGreatDoorKitRb
import Derived.WalkKit
import Derived.ProofKit
import Derived.OpenShut
import Derived.ShutString
import Derived.ChangeOld
import Derived.Below
import Derived.SizedLaws
import Derived.LaidMore
import Derived.Lay
import Derived.MakeChecks
import Derived.Shelf.Vars
import Derived.Lib.LaidTab
import Derived.Lib.Space
import Derived.Stop.Joined
import Derived.SevenTiedAt
set_option linter.unusedVariables false
set_option linter.unusedSimpArgs false
set_option autoImplicit false
namespace Go.Proofs.YtghjmiggobpmoaaGreatDoor.gramTells
open Go.ChangeShapes Go.WideShapes Go.ChangeAt Go.RowKit Go.Proofs.YtghjmiggobpmoaaGreatDoor.K
theorem own : ownKnob Tryz.prog.godebug = none := by kernel_rfl
theorem laidOut : laidOutB Tryz.prog = true := by kernel_rfl
section
variable {H : Type} {enc : TypeId × Value → H}
theorem hand_and_shaped {a : Assume} {C : Checked} {os : Os} {f : FuncId} {fn : Func} {s : ChangeSpec} {conds : List PathCond} {apart fresh handsOn again : Bool} {X : World → Array Value → Prop}
    (hX : ∀ (w w' : World) (args : Array Value), w.heap = w'.heap → X w args → X w' args)
    (own : ownKnob C.prog.godebug = none) (started : os.Started) (noInit : C.prog.inits.idxOf? f = none) (hfn : C.prog.funcs[f]? = some fn)
    (witness : ∃ (w : World) (tape : Tape) (i : Input), w.os = os ∧ (w.forCall tape i).Shaped C.prog ∧ i.vars = [] ∧ Input.okWide C.prog (w.forCall tape i) .any w.heap.size f i ∧
      ((s.pre enc C.prog fn conds apart (w.forCall tape i).memory i.args ∧ X (w.forCall tape i).memory i.args) ∧ sizedMet enc C.prog fn (OpenSpec.ofChange s) apart (w.forCall tape i).memory i.args) ∧ a.holds C.prog (lone (Frame.enter C.prog f i.args .normal) [] (w.forCall tape i)))
    (contract : ∀ (W : World) (base : Nat) (args : Array Value) (ds gs : List (DataW H)) (before : List MemPlace),
      (∀ (j : Nat) t v, fn.params[j]? = some t → args[j]? = some v → Value.okWide C.prog W .any base t v) →
      DataW.Whole enc C.prog fn.params.toList s.vars apart W args.toList ds gs before →
      conds.all (PathCond.test C.prog ⟨fn.params.toList, ds, s.plain.varTypes C.prog, gs⟩) = true →
      (DataW.weightsEach C.prog (fn.params.toList ++ s.plain.varTypes C.prog) (ds ++ gs)).all (· ≤ reachBytes) = true → X W args → W.ShapedOpen C.prog →
      a.holds C.prog (lone (Frame.enter C.prog f args .normal) [] W) →
      Calls C.prog f args W fun e W' => ∃ v, e = .returned v ∧ s.post enc C.prog fn apart fresh handsOn again W args v W') :
    ReturnsInHanded a C os f .any (fun w args => (s.pre enc C.prog fn conds apart w args ∧ X w args) ∧ sizedMet enc C.prog fn (OpenSpec.ofChange s) apart w args) (s.post enc C.prog fn apart fresh handsOn again) := by
  refine returnsInHanded_of_calls own started noInit witness ?_
  intro w tape i _ hsh _ hok hpre hholds
  obtain ⟨_, _, _, fn', hfn', _, _, _, _, hval⟩ := hok
  obtain rfl : fn' = fn := Option.some.inj (hfn'.symm.trans hfn)
  obtain ⟨⟨⟨ds, gs, before, hw, hc⟩, hx⟩, hz⟩ := hpre
  refine (contract (w.forCall tape i) w.heap.size i.args ds gs before hval (DataW.Whole.of_heap (w' := w.forCall tape i) (by rfl) hw) hc (hz.weights hw) (hX _ _ _ (by rfl) hx) hsh hholds).mono fun e W' ⟨v, he, hp⟩ => ?_
  subst he
  exact ChangeSpec.post_blind hp
end
theorem fitsPair {H : Type} {enc : TypeId × Value → H} : Fits enc Tryz.prog pairE2 56 (fun _ => True) :=
  (fits_struct Tryz.underlying56 (by kernel_rfl) (fits_cons rfl (by kernel_rfl) (fits_string Tryz.underlying9) (fits_last rfl (by kernel_rfl) (fits_string Tryz.underlying9)))).imp fun w D a vs h ok =>
    ⟨(a.1, a.2), by obtain ⟨v1, v2, rfl, h1, h2⟩ := h; rw [show v1 = _ from h1, show v2 = _ from h2]; rfl, trivial⟩
theorem fitsRdr {H : Type} {enc : TypeId × Value → H} : Fits enc Tryz.prog rdrE 40 (fun _ => True) :=
  (fits_struct Tryz.underlying40 (by kernel_rfl) (fits_cons rfl (by kernel_rfl) (fits_int Tryz.underlying3) (fits_cons rfl (by kernel_rfl) (fits_string Tryz.underlying9) (fits_cons rfl (by kernel_rfl) (fits_string Tryz.underlying9) (fits_cons rfl (by kernel_rfl) (fits_string Tryz.underlying9) (fits_last rfl (by kernel_rfl) (fits_bool Tryz.underlying4))))))).imp fun w D a vs h ok =>
    ⟨⟨a.1, a.2.1, a.2.2.1, a.2.2.2.1, a.2.2.2.2⟩, by
      obtain ⟨v1, _, rfl, h1, v2, _, rfl, h2, v3, _, rfl, h3, v4, v5, rfl, h4, h5⟩ := h
      rw [show v1 = _ from h1, show v2 = _ from h2, show v3 = _ from h3, show v4 = _ from h4, show v5 = _ from h5]; rfl, trivial⟩
theorem fitsSs {H : Type} {enc : TypeId × Value → H} : Fits enc Tryz.prog sE.slice 23 (fun l => (∀ x, x ∈ l → x.length ≤ 140737488351232) ∧ l.length * 16 ≤ 140737488351232) := fits_slice Tryz.underlying23 (by kernel_rfl) (by kernel_rfl) (fits_string Tryz.underlying9)
theorem fitsPs {H : Type} {enc : TypeId × Value → H} : Fits enc Tryz.prog pairE2.slice 25 (fun l => (∀ x, x ∈ l → True) ∧ l.length * 32 ≤ 140737488351232) := fits_slice Tryz.underlying25 (by kernel_rfl) (by kernel_rfl) fitsPair
theorem fitsRs {H : Type} {enc : TypeId × Value → H} : Fits enc Tryz.prog rdrE.slice 26 (fun l => (∀ x, x ∈ l → True) ∧ l.length * 64 ≤ 140737488351232) := fits_slice Tryz.underlying26 (by kernel_rfl) (by kernel_rfl) fitsRdr
theorem fitsC {H : Type} {enc : TypeId × Value → H} : ∀ n, FitsB (LtB n) enc Tryz.prog (cmF n) 30 (fun _ => True)
  | 0 => fun w fuel cs d ps h => absurd h (Nat.not_lt_zero _)
  | n + 1 => by
    have hK : FitsB (LtB n) enc Tryz.prog (cmF n).slice 27 (fun l => (∀ x, x ∈ l → True) ∧ l.length * 152 ≤ 140737488351232) := fitsB_slice (fun es rs x h hx => ltB_slice h hx) Tryz.underlying27 (by rw [cmF_sz]; kernel_rfl) (by kernel_rfl) (fitsC n)
    have hI : FitsB (LtB n) enc Tryz.prog (itF (cmF n)) 59 (fun _ => True) := (fitsB_struct (fun l x h hx => ltB_agg' h hx) Tryz.underlying59 (by kernel_rfl) (fitsB_cons rfl (by kernel_rfl) fitsSs.b (fitsB_last rfl (by kernel_rfl) hK))).imp fun w D a vs h _ => ⟨a, h, trivial⟩
    have hIs : FitsB (LtB n) enc Tryz.prog (itF (cmF n)).slice 28 (fun l => (∀ x, x ∈ l → True) ∧ l.length * 48 ≤ 140737488351232) := fitsB_slice (fun es rs x h hx => ltB_slice h hx) Tryz.underlying28 (by kernel_rfl) (by kernel_rfl) hI
    exact (fitsB_struct (B := LtB n) (B' := LtB (n + 1)) (fun l x h hx => ltB_agg h hx) Tryz.underlying30 (by kernel_rfl) (fitsB_cons rfl (by kernel_rfl) (fits_int Tryz.underlying3).b (fitsB_cons rfl (by kernel_rfl) (fits_string Tryz.underlying9).b (fitsB_cons rfl (by kernel_rfl) (fits_bool Tryz.underlying4).b (fitsB_cons rfl (by kernel_rfl) (fits_bool Tryz.underlying4).b (fitsB_cons rfl (by kernel_rfl) fitsPs.b (fitsB_cons rfl (by kernel_rfl) fitsSs.b (fitsB_cons rfl (by kernel_rfl) fitsRs.b (fitsB_cons rfl (by kernel_rfl) hK (fitsB_last rfl (by kernel_rfl) hIs)))))))))).imp fun w D a vs h _ => ⟨.mk a.1 a.2.1 a.2.2.1 a.2.2.2.1 a.2.2.2.2.1 a.2.2.2.2.2.1 a.2.2.2.2.2.2.1 a.2.2.2.2.2.2.2.1 a.2.2.2.2.2.2.2.2, h, trivial⟩
theorem fitsCmd {H : Type} {enc : TypeId × Value → H} : Fits enc Tryz.prog cmE 30 (fun _ => True) := fits_of_lt (cn := cmF) fitsC (fun n w D a vs h => ⟨n, h⟩)

noncomputable def laidN : List (String × DataW Unit) := Rows.gramTellsRow.laid
theorem of_laid {W : World} (h : laidMetH Tryz.prog laidN W) : Lib.TabIs Tryz.prog W "strings.asciiSpace" .u8 Lib.asciiSpaceTab := by
  rw [MakeChecks.laidMetH_plain _ _ _ (by kernel_rfl)] at h
  obtain ⟨_, ⟨_, _, _, _, _, _, _, _, _, _, ⟨_, _, _, _, _, _, _, _, _, _, ⟨g, t, cs, fuel, p1, q1, hg, ht, hv, hd, _, _⟩, _⟩, _⟩, _⟩ := h
  obtain rfl := Option.some.inj ((show Tryz.prog.globalNamed "strings.asciiSpace" = some 0 by kernel_rfl).symm.trans hg)
  obtain rfl := Option.some.inj ((show (Tryz.prog.globals[0]?).map (·.type) = some 123 by kernel_rfl).symm.trans ht)
  rw [show (Rows.laid_strings_asciiSpace : DataW Unit) = Lib.tabData .u8 Lib.asciiSpaceTab from by kernel_rfl] at hd
  unfold Lib.TabIs
  rw [hv, ← Lib.cells_of_tab (k := .u8) (zs := Lib.asciiSpaceTab) Tryz.underlying123 Tryz.underlying5 (by kernel_rfl) (by kernel_rfl) hd]
set_option maxRecDepth 100000 in
set_option maxHeartbeats 1000000 in
theorem lifted (os : Os) (started : os.Started) (H : Type) (enc : TypeId × Value → H) :
    ReturnsInHanded {} Tryz.checked os 4 .any (fun w args => (Rows.gramTellsSpec.pre enc Tryz.prog Tryz.f4 [] false w args ∧ laidMetH Tryz.prog laidN w) ∧ sizedMet enc Tryz.prog Tryz.f4 (OpenSpec.ofChange Rows.gramTellsSpec) false w args) (Rows.gramTellsSpec.post enc Tryz.prog Tryz.f4 false true false false) := by
  refine hand_and_shaped (C := Tryz.checked) (X := fun w _ => laidMetH Tryz.prog laidN w) (fun _ _ _ hh h => h.of_heap hh) own started (by kernel_rfl) Tryz.func4
    (ChangeSpec.witness_shaped (enc := enc) (C := Tryz.checked) (os := os) (X := fun w _ => laidMetH Tryz.prog laidN w) false (World.laidAll Tryz.prog os laidN) #[.agg ⟨[.int .i64 0, .string ByteArray.empty, .bool false, .bool false, .slice none 0 0, .slice none 0 0, .slice none 0 0, .slice none 0 0, .slice none 0 0]⟩, .agg ⟨[.int .i64 0, .string ByteArray.empty, .bool false, .bool false, .slice none 0 0, .slice none 0 0, .slice none 0 0, .slice none 0 0, .slice none 0 0]⟩] 8 (World.laidAll_os _ _ _) (World.shaped_of_ZipB (by kernel_rfl) (by kernel_rfl)) (by kernel_rfl) (by kernel_rfl) (by kernel_rfl) (by rw [MakeChecks.laidMetH_plain _ _ _ (by kernel_rfl)]; exact laidMet_laidAll _ (by kernel_rfl) (by kernel_rfl))) ?_
  intro W base args ds gs before hval0 hW hcnd hsz0 hL hsh _
  have hmx : MaxT W := Go.Proofs.cell_of_shapedOpen_int (zero := #[.int .i64 0]) (t := 3) hsh (of_decide_eq_true (by kernel_rfl)) (by kernel_rfl) rfl (by kernel_rfl) (by kernel_rfl) Tryz.underlying3
  have htab := of_laid hL
  have hsz : (DataW.weightsEach Tryz.prog (Tryz.f4.params.toList ++ Rows.gramTellsSpec.plain.varTypes Tryz.prog) (ds ++ gs)).all (· ≤ reachBytes) = true := hsz0
  have hval : ∀ (j : Nat) t v, Tryz.f4.params[j]? = some t → args[j]? = some v → Value.okWide Tryz.prog W .any base t v := hval0
  have hW' := hW
  obtain ⟨p, q, hA0, hV, rfl, hfz, hnd⟩ := hW
  have hA : DataW.TrodAll enc Tryz.prog W 0 (fun _ => true) true Tryz.f4.params.toList args.toList ds p := hA0
  rw [Tryz.params4] at hA hval hsz
  obtain ⟨v0, vs0, d0, ds0, p0, q0, hargs, rfl, rfl, h0, r0⟩ := trodAll_cons hA
  obtain ⟨v1, vs1, d1, ds1, p1, q1, rfl, rfl, rfl, h1, r1⟩ := trodAll_cons r0
  obtain ⟨rfl, rfl, rfl⟩ := trodAll_nil r1
  obtain rfl : args = #[v0, v1] := by cases args; simp_all
  obtain ⟨rfl, rfl⟩ := trodVars_none hV
  obtain ⟨a0, hr0, ok0⟩ := fits_arg (fitsCmd) h0 hsz (j := 0) (t := 30) rfl rfl
  obtain ⟨c0, rfl, _⟩ := okWide_struct Tryz.underlying30 (hval 0 30 v0 rfl rfl)
  obtain ⟨va0⟩ := c0
  obtain ⟨a1, hr1, ok1⟩ := fits_arg (fitsCmd) h1 hsz (j := 1) (t := 30) rfl rfl
  obtain ⟨c1, rfl, _⟩ := okWide_struct Tryz.underlying30 (hval 1 30 v1 rfl rfl)
  obtain ⟨va1⟩ := c1
  clear hA0 hval0 hsz0
  refine Calls.mono (GramTells_spec _ hr0 hr1 hmx htab) fun e W' ⟨v, he, hv', hc⟩ => ?_
  subst he; subst hv'
  have bel := hc.below
  exact ⟨_, rfl, _, _, _, [], _, [], hW', trodAll_mk1 (shut_bool Tryz.underlying4 _), (trodAll_cons_mk (Below.trod laidOut (by kernel_rfl) (of_decide_eq_true (by kernel_rfl)) h0 bel (lt_of_trod h0)) (trodAll_cons_mk (Below.trod laidOut (by kernel_rfl) (of_decide_eq_true (by kernel_rfl)) h1 bel (lt_of_trod h1)) trodAll_mk0)), rfl, bel.frame _, fun h => by cases h⟩
theorem over : Rows.gramTellsRow.holds Tryz.pinned (OpenSpec.ofChange Rows.gramTellsSpec) :=
  OpenClaim.holds_of_wide 4 Tryz.f4 rfl rfl rfl rfl rfl rfl rfl ⟨rfl, rfl, rfl, rfl, rfl⟩ rfl rfl rfl rfl rfl (by kernel_rfl) Tryz.func4 (by kernel_rfl)
    (of_decide_eq_true (by kernel_rfl)) (by unfold Func.isWrapper; first | (rw [if_pos (by decide +kernel)]; kernel_rfl) | (rw [if_neg (by decide +kernel)]; exact ⟨rfl, rfl⟩))
    (fun os started H enc _ => lifted os started H enc)
end Go.Proofs.YtghjmiggobpmoaaGreatDoor.gramTells
namespace Go.Proofs.YtghjmiggobpmoaaGreatDoor
theorem gramTells_plain : Rows.GramTellsSaid := gramTells.over
theorem gramTells_holds : Rows.GramTellsCardSaid :=
  Claim7.holds_tied_plain_at .later [] [.data, .listed, .data, .pinned] true (true, "6f4dd51d5aaf69e51a9fd6114ca62866ee3526668d53bf444f85afbcc93236b5") true
    gramTells_plain (fun _ h => by cases h) (by kernel_rfl) (fun _ h => by cases h) gramTells_row_tie rfl ⟨rfl, rfl⟩ (by kernel_rfl) rfl
    (fun f fn hf hfn => by
      obtain rfl : f = 4 := Option.some.inj ((show Tryz.prog.funcNamed "windlass/windlasslaw17.GramTells" = some 4 by kernel_rfl).symm.trans hf) |>.symm
      obtain rfl : fn = Tryz.f4 := (Option.some.inj (Tryz.func4.symm.trans hfn)).symm
      exact ⟨by kernel_rfl, fun j t ht => by
        rw [Tryz.params4] at ht
        have hm : t ∈ [30, 30] := by simpa using Array.mem_of_getElem? ht
        have hall : ([30, 30].all fun u => !Tryz.prog.wantsStandIn u) = true := by kernel_rfl
        exact (show Tryz.prog.wantsStandIn t = false by simpa using List.all_eq_true.1 hall t hm)⟩)
    (by kernel_rfl)
end Go.Proofs.YtghjmiggobpmoaaGreatDoor
