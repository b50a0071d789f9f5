/- The walk's own rules, eighth part: loops that gather marks; the function's end behind many marks; slices of plain elements. -/
import Derived.Test.YtmbbhgglllfelaaDoorKitG
set_option linter.unusedVariables false
set_option linter.unusedSimpArgs false
set_option autoImplicit false
namespace Go.Proofs.YtmbbhgglllfelaaDoor.K
open Go Go.RowKit
variable {P : Program} {r : Option Nat} {n : Nat} {O : Array Oper} {Q : Post} {E : Env} {w : World} {l : List Oper}
/-- As x_loop, where a round may leave marks. -/
theorem x_loopD {c : Code} {ι : Type} {ds : List Deferred} (S : List Nat) (L : ι → List (Nat × Value)) (I : ι → List Deferred → World → Prop) (μ : ι → Nat) (x0 : ι) (h0 : Holds E (L x0)) (hI : I x0 ds w)
    (round : ∀ x G ds w, I x ds w → wp P r n c (thenP (fun E' ds' w' => ∃ x', I x' ds' w' ∧ μ x' < μ x ∧ Holds E' (L x') ∧ Agree S E' E) Q) (upds (over E S G) (L x)) ds w) :
    wp P r n (.loop c) Q E ds w := by
  intro a h1 h2 h3
  let J : Nat → Act → World → Prop := fun m a w => ∃ x, μ x = m ∧ I x a.defers w ∧ a.tmps.size = n ∧ Holds (env a) (L x) ∧ Agree S (env a) E
  refine wpIn_loop (fun a w => ∃ m, J m a w) (fun a w => leastOf (fun m => J m a w)) ⟨μ x0, x0, rfl, by rw [h3]; exact hI, h1, by rw [h2]; exact h0, by rw [h2]; exact agree_refl⟩ ?_
  intro a w hm
  obtain ⟨⟨x, hx, hi, h1, hh, ha⟩, _⟩ := leastOf_spec hm
  refine wpIn_mono (round x (env a) a.defers w hi a h1 (env_of_agree ha hh).symm rfl) ?_
  rintro e a' w' ⟨q1, q2⟩
  cases e with
  | normal =>
    obtain ⟨x', hi', hlt, hh', ha'⟩ := q2
    have hJ : J (μ x') a' w' := ⟨x', rfl, hi', q1, hh', ha'⟩
    refine ⟨⟨_, hJ⟩, ?_⟩
    show leastOf (fun m => J m a' w') < leastOf (fun m => J m a w)
    have := (leastOf_spec (p := fun m => J m a' w') ⟨_, hJ⟩).2 _ hJ
    omega
  | _ => exact ⟨q1, q2⟩

/-! ### marks -/
/-- The marks' blocks. -/
def mb : List Deferred → List Nat
  | [] => []
  | d :: ds => (match d.target with | .collected D => D | _ => 0) :: mb ds
/-- Marks that have gathered nothing, each with a block of its own, none below N. -/
def Marks (N : Nat) : List Deferred → World → Prop
  | [], _ => True
  | d :: ds, w => ∃ D, d = mk D ∧ N ≤ D ∧ D ∉ mb ds ∧ DefD D w ∧ Marks N ds w
theorem Marks.tr {N : Nat} {bs : List Nat} {w' : World} : ∀ {ds : List Deferred}, Marks N ds w → Chg bs w w' → (∀ k, k ∈ mb ds → k ∉ bs) → Marks N ds w'
  | [], _, _, _ => trivial
  | d :: ds, ⟨D, h1, h2, h3, h4, h5⟩, hc, hb => ⟨D, h1, h2, h3, (hc.block D (Array.getElem?_eq_some_iff.1 h4).1 (hb D (by subst h1; simp [mb, mk]))).trans h4, Marks.tr h5 hc fun k hk => hb k (by simp [mb, hk])⟩
theorem Marks.lt {N : Nat} : ∀ {ds : List Deferred}, Marks N ds w → ∀ k, k ∈ mb ds → N ≤ k ∧ k < w.heap.size
  | [], _, k, hk => by simp [mb] at hk
  | d :: ds, ⟨D, h1, h2, h3, h4, h5⟩, k, hk => by
    subst h1
    simp only [mb, mk, List.mem_cons] at hk
    rcases hk with rfl | hk
    · exact ⟨h2, (Array.getElem?_eq_some_iff.1 h4).1⟩
    · exact Marks.lt h5 k hk
theorem Marks.cons {N D : Nat} {ds : List Deferred} (h : Marks N ds w) (hN : N ≤ D) (hD : DefD D w) (hn : D ∉ mb ds) : Marks N (mk D :: ds) w := ⟨D, rfl, hN, hn, hD, h⟩
theorem mb_cons (D : Nat) (ds : List Deferred) : mb (mk D :: ds) = D :: mb ds := rfl
/-- The function's end behind its marks. -/
theorem retM_marks {fn : Func} {Φ : Value → World → Prop} {N : Nat} : ∀ {ds : List Deferred} {w : World}, Marks N ds w → (∀ w', Chg (mb ds) w w' → retP P fn Φ .ret E [] w') → retM P fn Φ E ds w
  | [], w, _, h => retM_none (h w (.refl w))
  | d :: ds, w, ⟨D, h1, h2, h3, h4, h5⟩, h => by
    refine ⟨D, h1, h4, retM_marks (N := N) (h5.tr (Chg.putObj w D _) (fun k hk hx => by simp at hx; subst hx; exact h3 hk)) fun w' hc => h w' ?_⟩
    subst h1
    refine ((Chg.putObj w D (.deferred none)).mono (fun x hx => ?_)).trans hc (fun x hx => ?_)
    · simp at hx; subst hx; simp [mb, mk]
    · exact .inl (by simp [mb, hx])

/-! ### slices of elements that lead nowhere -/
section
variable {α : Type} {c : Enc α} {e : TypeId} {D D' : Nat → Prop} {A : Option Addr} {cap : Nat} {xs : List α}
def Flat (c : Enc α) : Prop := ∀ {w w' : World} {D D' : Nat → Prop} {x : α} {vs : List Value}, c.R w D x vs → c.R w' D' x vs
theorem flat_flat {sz : Nat} {f : α → List Value} {h1 h2 h3} : Flat (Enc.flat sz f h1 h2 h3) := fun h => h
theorem Own.flat (h : Own c e w D A cap xs) (hf : Flat c) (hD : ∀ k, k ∈ ob A → D k → D' k) : Own c e w D' A cap xs := by
  obtain ⟨cs, h1, h2, h3⟩ := h
  exact ⟨cs, h1, fun g hg => hD g hg (h2 g hg), ⟨h3.1, fun i x hx => let ⟨vs, q1, q2⟩ := h3.2 i x hx; ⟨vs, hf q1, q2⟩⟩⟩
theorem Own.trF {w' : World} {bs : List Nat} (h : Own c e w D A cap xs) (hf : Flat c) (hc : Chg bs w w') (hb : ∀ k, k ∈ ob A → k ∉ bs) : Own c e w' D A cap xs :=
  ((h.flat (D' := fun k => k ∈ ob A) hf fun k hk _ => hk).tr hc fun b hb1 hb2 => hb b hb2 hb1).flat hf fun k hk _ => h.inD k hk
/-- A's block is none of F's. -/
def Av (F : List Nat) (A : Option Addr) : Prop := ∀ k, k ∈ ob A → k ∉ F
theorem Av.step {F : List Nat} {A' : Option Addr} {m : Nat} (h : Av F A) (hg : ∀ g, g ∈ ob A' → g ∈ ob A ∨ m ≤ g) (hF : ∀ k, k ∈ F → k < m) : Av F A' := fun k hk hx => by
  rcases hg k hk with h1 | h1
  · exact h k h1 hx
  · have := hF k hx; omega
theorem Av.sub {F F' : List Nat} (h : Av F A) (hs : ∀ k, k ∈ F' → k ∈ F) : Av F' A := fun k hk hx => h k hk (hs k hx)
theorem Av.cons {F : List Nat} {b : Nat} (h : Av F A) (hb : b ∉ ob A) : Av (b :: F) A := fun k hk hx => by
  rcases List.mem_cons.1 hx with rfl | hx
  · exact hb hk
  · exact h k hk hx
theorem Own.trB {w' : World} {b : Nat} (h : Own c e w D A cap xs) (hf : Flat c) (hc : Chg [b] w w') (hb : b ∉ ob A) : Own c e w' D A cap xs := h.trF hf hc fun k hk hx => by simp at hx; subst hx; exact hb hk
theorem Sl.at {i : Nat} {x : α} (h : Sl c w D A xs) (hx : xs[i]? = some x) : ∃ b o vs, A = some ⟨b, o, none⟩ ∧ c.R w D x vs ∧ Cells w b (o + i * c.sz) vs := by
  rcases h with h | ⟨b, o, h1, h2, h3, h4⟩
  · subst h; simp at hx
  · obtain ⟨vs, h5, h6⟩ := h4 i x hx
    exact ⟨b, o, vs, h1, h5, h6⟩
theorem Cells.at {b off j : Nat} {v : Value} {vs : List Value} (h : Cells w b off vs) (hv : nthV vs j = some v) : w.cell? ⟨b, off + j, none⟩ = some v := h j v (by rw [← nthV_eq]; exact hv)
theorem Own.fresh (h : Own c e w D A cap xs) {b : Nat} (hb : w.heap.size ≤ b) : b ∉ ob A := fun hx => by have := h.lt b hx; omega
end
end Go.Proofs.YtmbbhgglllfelaaDoor.K
