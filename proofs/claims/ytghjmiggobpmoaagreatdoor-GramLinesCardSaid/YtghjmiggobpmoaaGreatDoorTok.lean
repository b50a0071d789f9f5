import Derived.Test.YtghjmiggobpmoaaGreatDoorKitG
import Derived.Laws.BytesString
import Derived.Lib.ConvBytes
import Derived.Deep.Slices
import Derived.ChangeMaps5
import Derived.SizedLaws
import Derived.WideShapes
import Derived.Carry
import Derived.Laws.StructEq
import Derived.Laws.Cover3
import Derived.Laws.Pointers
import Derived.Lib.FrozenHead
import Derived.Lib.UnsafeStr
import Derived.Laws.Runes
import Derived.MapKept
import Derived.RecoverIn
import Derived.WideLaws
set_option linter.unusedVariables false
set_option linter.unusedSimpArgs false
set_option autoImplicit false
namespace Go.Proofs.YtghjmiggobpmoaaGreatDoor.K
open Go Go.RowKit
variable {P : Program} {r : Option Nat} {n : Nat} {O : Array Oper} {Q : Post} {E : Env} {w : World} {l : List Oper}
def mb : List Deferred → List Nat
  | [] => []
  | d :: ds => (match d.target with | .collected D => D | _ => 0) :: mb ds
def Marks (N : Nat) : List Deferred → World → Prop
  | [], _ => True
  | d :: ds, w => ∃ D, d = mk D ∧ N ≤ D ∧ D ∉ mb ds ∧ DefD D w ∧ Marks N ds w
theorem Marks.tr {N : Nat} {bs : List Nat} {w' : World} : ∀ {ds : List Deferred}, Marks N ds w → Chg bs w w' → (∀ k, k ∈ mb ds → k ∉ bs) → Marks N ds w'
  | [], _, _, _ => trivial
  | d :: ds, ⟨D, h1, h2, h3, h4, h5⟩, hc, hb => ⟨D, h1, h2, h3, (hc.block D (Array.getElem?_eq_some_iff.1 h4).1 (hb D (by subst h1; simp [mb, mk]))).trans h4, Marks.tr h5 hc fun k hk => hb k (by simp [mb, hk])⟩
theorem Marks.lt {N : Nat} : ∀ {ds : List Deferred}, Marks N ds w → ∀ k, k ∈ mb ds → N ≤ k ∧ k < w.heap.size
  | [], _, k, hk => by simp [mb] at hk
  | d :: ds, ⟨D, h1, h2, h3, h4, h5⟩, k, hk => by
    subst h1
    simp only [mb, mk, List.mem_cons] at hk
    rcases hk with rfl | hk
    · exact ⟨h2, (Array.getElem?_eq_some_iff.1 h4).1⟩
    exact Marks.lt h5 k hk
theorem Marks.cons {N D : Nat} {ds : List Deferred} (h : Marks N ds w) (hN : N ≤ D) (hD : DefD D w) (hn : D ∉ mb ds) : Marks N (mk D :: ds) w := ⟨D, rfl, hN, hn, hD, h⟩
theorem mb_cons (D : Nat) (ds : List Deferred) : mb (mk D :: ds) = D :: mb ds := rfl
theorem retM_marks {fn : Func} {Φ : Value → World → Prop} {N : Nat} : ∀ {ds : List Deferred} {w : World}, Marks N ds w → (∀ w', Chg (mb ds) w w' → retP P fn Φ .ret E [] w') → retM P fn Φ E ds w
  | [], w, _, h => retM_none (h w (.refl w))
  | d :: ds, w, ⟨D, h1, h2, h3, h4, h5⟩, h => by
    refine ⟨D, h1, h4, retM_marks (N := N) (h5.tr (Chg.putObj w D _) (fun k hk hx => by simp at hx; subst hx; exact h3 hk)) fun w' hc => h w' ?_⟩
    subst h1
    refine ((Chg.putObj w D (.deferred none)).mono (fun x hx => ?_)).trans hc (fun x hx => ?_)
    · simp at hx; subst hx; simp [mb, mk]
    exact .inl (by simp [mb, hx])
section
variable {α : Type} {c : Enc α} {e : TypeId} {D D' : Nat → Prop} {A : Option Addr} {cap : Nat} {xs : List α}
def Flat (c : Enc α) : Prop := ∀ {w w' : World} {D D' : Nat → Prop} {x : α} {vs : List Value}, c.R w D x vs → c.R w' D' x vs
theorem flat_flat {sz : Nat} {f : α → List Value} {h1 h2 h3} : Flat (Enc.flat sz f h1 h2 h3) := fun h => h
theorem Own.flat (h : Own c e w D A cap xs) (hf : Flat c) (hD : ∀ k, k ∈ ob A → D k → D' k) : Own c e w D' A cap xs := by
  obtain ⟨cs, h1, h2, h3⟩ := h;exact ⟨cs, h1, fun g hg => hD g hg (h2 g hg), ⟨h3.1, fun i x hx => let ⟨vs, q1, q2⟩ := h3.2 i x hx; ⟨vs, hf q1, q2⟩⟩⟩
theorem Own.trF {w' : World} {bs : List Nat} (h : Own c e w D A cap xs) (hf : Flat c) (hc : Chg bs w w') (hb : ∀ k, k ∈ ob A → k ∉ bs) : Own c e w' D A cap xs :=
  ((h.flat (D' := fun k => k ∈ ob A) hf fun k hk _ => hk).tr hc fun b hb1 hb2 => hb b hb2 hb1).flat hf fun k hk _ => h.inD k hk
def Av (F : List Nat) (A : Option Addr) : Prop := ∀ k, k ∈ ob A → k ∉ F
theorem Av.step {F : List Nat} {A' : Option Addr} {m : Nat} (h : Av F A) (hg : ∀ g, g ∈ ob A' → g ∈ ob A ∨ m ≤ g) (hF : ∀ k, k ∈ F → k < m) : Av F A' := fun k hk hx => by
  rcases hg k hk with h1 | h1
  · exact h k h1 hx
  have := hF k hx; omega
theorem Av.sub {F F' : List Nat} (h : Av F A) (hs : ∀ k, k ∈ F' → k ∈ F) : Av F' A := fun k hk hx => h k hk (hs k hx)
theorem Av.cons {F : List Nat} {b : Nat} (h : Av F A) (hb : b ∉ ob A) : Av (b :: F) A := fun k hk hx => by
  rcases List.mem_cons.1 hx with rfl | hx
  · exact hb hk
  exact h k hk hx
theorem Sl.at {i : Nat} {x : α} (h : Sl c w D A xs) (hx : xs[i]? = some x) : ∃ b o vs, A = some ⟨b, o, none⟩ ∧ c.R w D x vs ∧ Cells w b (o + i * c.sz) vs := by
  rcases h with h | ⟨b, o, h1, h2, h3, h4⟩
  · subst h; simp at hx
  obtain ⟨vs, h5, h6⟩ := h4 i x hx;exact ⟨b, o, vs, h1, h5, h6⟩
theorem Cells.at {b off j : Nat} {v : Value} {vs : List Value} (h : Cells w b off vs) (hv : nthV vs j = some v) : w.cell? ⟨b, off + j, none⟩ = some v := h j v (by rw [← nthV_eq]; exact hv)
theorem Own.fresh (h : Own c e w D A cap xs) {b : Nat} (hb : w.heap.size ≤ b) : b ∉ ob A := fun hx => by have := h.lt b hx; omega
end
end Go.Proofs.YtghjmiggobpmoaaGreatDoor.K
namespace Go.Proofs.YtghjmiggobpmoaaGreatDoor.K
open Go Go.RowKit
variable {P : Program} {r : Option Nat} {n : Nat} {O : Array Oper} {Q : Post} {E : Env} {ds : List Deferred} {w : World} {l : List Oper}
section
variable {dst : Option Nat} {ty : TypeId} {pos : String} {af : Array Edge} {g : Option (Nat × Bool)}
theorem st_append2 {α : Type} {c : Enc α} {D D2 : Nat → Prop} {A : Option Addr} {cap b o m m2 k : Nat} {xs ys : List α} {t e : TypeId} {bytes : Nat} {x y : Operand} (hS : sliceB P t e c.sz bytes)
    (hx : ev E x = .slice A m cap) (hm : m = xs.length) (ho : Own c e w D A cap xs) (hyv : ev E y = .slice (some ⟨b, o, none⟩) k m2) (hk : k = ys.length) (hy : ∀ (i : Nat) (y : α), ys[i]? = some y → ∃ vs, c.R w D2 y vs ∧ Cells w b (o + i * c.sz) vs)
    (hD2 : ∀ k, k < w.heap.size → D2 k → D k ∧ k ∉ ob A) (hfr : ∀ k, w.heap.size ≤ k → D k) (h63 : xs.length + ys.length ≤ 9223372036854775807) (hby : (xs.length + ys.length) * bytes ≤ 140737488355328)
    (h : ∀ A' cap' w', Own c e w' D A' cap' (xs ++ ys) → Chg (ob A) w w' → (∀ g, g ∈ ob A' → g ∈ ob A ∨ w.heap.size ≤ g) → wops P r n O Q l (updo E dst (.slice A' (xs ++ ys).length cap')) ds w') :
    wop P r n O Q ⟨dst, .call ⟨.builtin .append, #[x, y], #[t, t]⟩, ty, pos, af, g⟩ l E ds w :=
  st_append hS hx hm ho hyv hk hy hD2 hfr h63 hby fun A' cap' w' h1 h2 h3 => by rw [← List.length_append]; exact h A' cap' w' h1 h2 h3
end
section
variable {α : Type} {c : Enc α} {D D' : Nat → Prop} {A : Option Addr} {xs : List α}
theorem Sl.trF {w' : World} {bs : List Nat} (h : Sl c w D A xs) (hf : Flat c) (hc : Chg bs w w') (hb : ∀ b, b ∈ bs → xs = [] ∨ b ∉ ob A) : Sl c w' D A xs := by
  rcases h with h | ⟨b, o, h1, h2, h3, h4⟩
  · exact .inl h
  by_cases hx : b ∈ bs
  · rcases hb b hx with h | h
    · exact .inl h
    exact absurd (by rw [h1]; simp [ob]) h
  exact .inr ⟨b, o, h1, Nat.lt_of_lt_of_le h2 hc.size, h3, fun i x hi => let ⟨vs, q1, q2⟩ := h4 i x hi; ⟨vs, hf q1, q2.tr (hc.block b h2 hx)⟩⟩
theorem Sl.fresh (h : Sl c w D A xs) {b : Nat} (hb : w.heap.size ≤ b) : xs = [] ∨ b ∉ ob A := by
  rcases h with h | ⟨k, o, h1, h2, _⟩
  · exact .inl h
  refine .inr fun hx => ?_
  rw [h1] at hx; simp [ob] at hx; omega
end
theorem agree_over_sub {S S' : List Nat} {E1 E G : Env} (h : Agree S E1 E) (hs : (S'.all fun d => S.contains d) = true) : Agree S (over E1 S' G) E := fun i hi => by
  have hn : S'.contains i = false := by
    cases hc : S'.contains i with
    | false => rfl
    | true => rw [List.all_eq_true] at hs; have := hs i (by simpa using hc); rw [this] at hi; cases hi
  simp only [over, hn]; exact h i hi
end Go.Proofs.YtghjmiggobpmoaaGreatDoor.K
namespace Go.Proofs.YtghjmiggobpmoaaGreatDoor.K
open Go Go.RowKit Go.ChangeShapes Go.WideShapes
variable {H : Type} {enc : TypeId × Value → H} {P : Program}
def allLe (l : List Nat) : Prop := ∀ n, n ∈ l → n ≤ reachBytes
def Fits (enc : TypeId × Value → H) (P : Program) {α : Type} (c : Enc α) (t : TypeId) (ok : α → Prop) : Prop :=
  ∀ (w : World) (fuel : Nat) (cs : List Value) (d : DataW H) (ps : List MemPlace), DataW.trod enc P w 0 (fun _ => true) true fuel t cs = some (d, ps) → allLe (d.weights P t) → ∃ a, c.R w (fun k => k < w.heap.size) a cs ∧ ok a
theorem fits_string {t : TypeId} (ht : P.underlying t = some .string) : Fits enc P sE t (fun s => s.length ≤ 140737488351232) := by
  intro w fuel cs d ps h hw;obtain ⟨s, h1, h2, h3⟩ := DataW.trod_string ht h;simp only [Prod.mk.injEq] at h2;obtain ⟨rfl, rfl⟩ := h2;refine ⟨s.data.toList, ?_, ?_⟩
  · rw [h1]; exact congrArg (fun v => [v]) (S_eta s)
  have := hw s.data.toList.length (by simp [DataW.weights])
  simpa [reachBytes] using this
theorem fits_int {t : TypeId} {k : IntKind} (ht : P.underlying t = some (.int k)) : Fits enc P (iE k) t (fun n => (Lit.int k n).wf = true) := by
  intro w fuel cs d ps h hw;obtain ⟨n, h1, h2, h3⟩ := DataW.trod_int ht h;exact ⟨n, by rw [h1]; rfl, h3⟩
theorem Fits.imp {α β : Type} {c : Enc α} {c' : Enc β} {t : TypeId} {ok : α → Prop} {ok' : β → Prop} (h : Fits enc P c t ok) (hi : ∀ w D a vs, c.R w D a vs → ok a → ∃ b, c'.R w D b vs ∧ ok' b) : Fits enc P c' t ok' := by
  intro w fuel cs d ps h1 h2;obtain ⟨a, h3, h4⟩ := h w fuel cs d ps h1 h2;exact hi _ _ _ _ h3 h4
def Enc.seq {α β : Type} (c1 : Enc α) (c2 : Enc β) : Enc (α × β) where
  sz := c1.sz + c2.sz
  pos := by have := c1.pos; omega
  R := fun w D x vs => ∃ v1 v2, vs = v1 ++ v2 ∧ c1.R w D x.1 v1 ∧ c2.R w D x.2 v2
  len := fun ⟨v1, v2, h1, h2, h3⟩ => by rw [h1, List.length_append, c1.len h2, c2.len h3]
  one := fun ⟨v1, v2, h1, h2, h3⟩ u hu => by
    rw [h1] at hu
    rcases List.mem_append.1 hu with h | h
    · exact c1.one h2 u h
    exact c2.one h3 u h
  tr := fun ⟨v1, v2, h1, h2, h3⟩ he hs => ⟨v1, v2, h1, c1.tr h2 he hs, c2.tr h3 he hs⟩
  mono := fun ⟨v1, v2, h1, h2, h3⟩ hm => ⟨v1, v2, h1, c1.mono h2 hm, c2.mono h3 hm⟩
theorem fits_arg {α : Type} {c : Enc α} {t : TypeId} {ok : α → Prop} (hf : Fits enc P c t ok) {W : World} {v : Value} {d : DataW H} {ps : List MemPlace} (h : DataW.Trod enc P W 0 (fun _ => true) true t v d ps) {ts : List TypeId} {ds : List (DataW H)} {j : Nat}
    (hsz : (DataW.weightsEach P ts ds).all (· ≤ reachBytes) = true) (ht : ts[j]? = some t) (hd : ds[j]? = some d) : ∃ a, c.R W (fun k => k < W.heap.size) a v.cells.toList ∧ ok a := by
  obtain ⟨fuel, hfu⟩ := h;exact hf W fuel _ d ps hfu (fun n hn => by simpa using List.all_eq_true.1 hsz n (DataW.weights_mem_each ht hd n hn))
theorem lt_of_trod {W : World} {t : TypeId} {v : Value} {d : DataW H} {ps : List MemPlace} (h : DataW.Trod enc P W 0 (fun _ => true) true t v d ps) : ∀ x ∈ ps, x.block < W.heap.size := by
  obtain ⟨m, hm⟩ := h; exact DataW.trod_lt m _ _ _ hm
end Go.Proofs.YtghjmiggobpmoaaGreatDoor.K
namespace Go.Proofs.YtghjmiggobpmoaaGreatDoor.K
open Go Go.RowKit
variable {P : Program} {r : Option Nat} {n : Nat} {O : Array Oper} {Q : Post} {E : Env} {ds : List Deferred} {w : World} {l : List Oper}
def leafEq : TypeDesc → Value → Value → Option Bool
  | .int _, .int k x, .int k' y => bif decide (k = k') then some (decide (x = y)) else none
  | .bool, .bool x, .bool y => some (x == y)
  | .string, .string x, .string y => some (decide (x.data.toList = y.data.toList))
  | _, _, _ => none
theorem run_leafEq {d : Nat} {t : TypeId} {u : TypeDesc} {a b : Value} {v : Bool} (hu : P.underlying t = some u) (h : leafEq u a b = some v) : (Op.equalIn (d + 1) t a b).run P w = .ok v w := by
  unfold leafEq at h
  split at h
  · rename_i k x k' y
    cases hk : decide (k = k') with
    | false => rw [hk] at h; cases h
    | true =>
      rw [hk] at h
      have hk' : k = k' := of_decide_eq_true hk
      cases h
      simp [Op.equalIn, run_underlying hu, hk']
      rfl
  · cases h
    simp [Op.equalIn, run_underlying hu]
  · cases h
    simp only [Op.equalIn, Sem.run_bind, run_underlying hu, Result.andThen_ok, Sem.run_pure]
    congr 1
    rw [beq_toListBytes, Lib.toList_data, Lib.toList_data, Bool.eq_iff_iff]; simp
  cases h
def leafU : TypeDesc → Bool
  | .int _ => true
  | .bool => true
  | .string => true
  | _ => false
def kindsOf (P : Program) : List Field → Nat → Option (List TypeDesc)
  | [], _ => some []
  | f :: fs, i => match P.underlying f.type, kindsOf P fs (i + 1) with
    | some u, some us => bif f.name != "_" && Nat.beq f.offset i && leafU u then some (u :: us) else none
    | _, _ => none
def eqK : List TypeDesc → List Value → List Value → Option Bool
  | [], [], [] => some true
  | [u], [a], [b] => leafEq u a b
  | u :: us, a :: as, b :: bs => match leafEq u a b, eqK us as bs with
    | some v, some v' => some (v && v')
    | _, _ => none
  | _, _, _ => none
theorem run_part_leaf {t : TypeId} {u : TypeDesc} {cs : Array Value} {i : Nat} {v : Value} (hu : P.underlying t = some u) (h : leafU u = true) (hv : cs[i]? = some v) : (part t cs i).run P w = .ok v w := by
  have ha : (isAgg t).run P w = .ok false w := by
    cases u <;> simp [leafU] at h <;> simp [isAgg, run_underlying hu]
  simp [part, Sem.run_bind, ha, Result.andThen, hv]
theorem eqK_cons {u : TypeDesc} {us : List TypeDesc} {a b : Value} {as bs : List Value} {v : Bool} (h : eqK (u :: us) (a :: as) (b :: bs) = some v) : ∃ v1 v2, leafEq u a b = some v1 ∧ eqK us as bs = some v2 ∧ v = (v1 && v2) := by
  cases us with
  | nil =>
    cases as with
    | nil =>
      cases bs with
      | nil => exact ⟨v, true, h, rfl, by simp⟩
      | cons => simp [eqK] at h
    | cons => simp [eqK] at h
  | cons u' us =>
    simp only [eqK] at h
    split at h
    · rename_i v1 v2 h1 h2
      exact ⟨v1, v2, h1, h2, by simpa using h.symm⟩
    cases h
theorem run_eqFs {d : Nat} {xs ys : Array Value} : ∀ (fs : List Field) (us : List TypeDesc) (i : Nat) (as bs : List Value) (v : Bool), (∀ j a, as[j]? = some a → xs[i + j]? = some a) → (∀ j a, bs[j]? = some a → ys[i + j]? = some a) → kindsOf P fs i = some us → eqK us as bs = some v → (Op.eqFields (d + 1) xs ys fs).run P w = .ok v w
  | [], us, i, as, bs, v, _, _, hk, h => by
    simp [kindsOf] at hk; subst hk
    cases as <;> cases bs <;> simp [eqK] at h
    subst h; rfl
  | f :: fs, us, i, as, bs, v, ha, hb, hk, h => by
    simp only [kindsOf] at hk
    split at hk
    · rename_i u us' hu hus
      cases hc : (f.name != "_" && Nat.beq f.offset i && leafU u) with
      | false => rw [hc] at hk; cases hk
      | true =>
        rw [hc] at hk
        simp only [cond_true, Option.some.injEq] at hk
        subst hk
        simp only [Bool.and_eq_true] at hc
        obtain ⟨⟨h1, h2⟩, h3⟩ := hc;have h2 := Nat.eq_of_beq_eq_true h2;have h1 : f.name ≠ "_" := by simpa using h1
        match as, bs, h with
        | a :: as, b :: bs, h =>
          obtain ⟨v1, v2, q1, q2, rfl⟩ := eqK_cons h;have ha0 := ha 0 a rfl;have hb0 := hb 0 b rfl;simp only [Nat.add_zero] at ha0 hb0;simp only [Op.eqFields, Sem.run_ite];rw [if_pos h1, h2];simp only [Sem.run_bind, run_part_leaf (w := w) hu h3 ha0, run_part_leaf (w := w) hu h3 hb0, Result.andThen_ok];rw [run_leafEq hu q1];simp only [Result.andThen_ok]
          cases v1 with
          | false => rfl
          | true =>
            exact run_eqFs fs us' (i + 1) as bs v2 (fun j x hx => by have := ha (j + 1) x (by simpa using hx); rwa [show i + 1 + j = i + (j + 1) by omega]) (fun j x hx => by have := hb (j + 1) x (by simpa using hx); rwa [show i + 1 + j = i + (j + 1) by omega]) hus q2
        | [], bs, h => cases us' <;> cases bs <;> simp [eqK] at h
        | _ :: _, [], h => cases us' <;> simp [eqK] at h
    cases hk
def eqB (P : Program) (t : TypeId) (us : List TypeDesc) : Prop := ((match P.underlying t with | some (.struct _) => true | _ => false) && !P.stoodInHeld t && !P.eqGuardType P.depth t) = true ∧ kindsOf P (P.fieldsOf t).toList 0 = some us
theorem run_structEq {t : TypeId} {us : List TypeDesc} {va vb : List Value} {v : Bool} (hB : eqB P t us) (h : eqK us va vb = some v) : (Op.equalIn 10000 t (.agg ⟨va⟩) (.agg ⟨vb⟩)).run P w = .ok v w := by
  obtain ⟨hB, hk⟩ := hB;simp only [Bool.and_eq_true, Bool.not_eq_true'] at hB;obtain ⟨⟨h1, h2⟩, h3⟩ := hB
  have hu : P.underlying t = some (.struct (P.fieldsOf t)) := by
    unfold Program.fieldsOf
    split at h1
    · rename_i hu; rw [hu]
    cases h1
  rw [run_equalIn_struct w 9999 t _ _ hu h2]
  exact run_eqFs (d := 9998) _ us 0 va vb v (fun j a hj => by simpa using hj) (fun j a hj => by simpa using hj) hk h
theorem ext_T {T0 : World → Prop} {b : Nat} {w' : World} {F : (World → Prop) → Prop} (hT : T0 w') (h : F (fun W => W.heap[b]? = w'.heap[b]? ∧ T0 W)) : ∃ T' : World → Prop, (∀ x, T' x → T0 x) ∧ T' w' ∧ F T' := ⟨_, fun _ h => h.2, ⟨rfl, hT⟩, h⟩
theorem Cells.lt {b off : Nat} {v : Value} {vs : List Value} (h : Cells w b off (v :: vs)) : b < w.heap.size := by
  have := h 0 v rfl
  unfold World.cell? at this
  split at this
  · rename_i hh; exact (Array.getElem?_eq_some_iff.1 hh).1
  cases this
section
variable {dst : Option Nat} {ty : TypeId} {pos : String} {af : Array Edge} {g : Option (Nat × Bool)}
theorem r_aeql {t t' : TypeId} {x y : Operand} {us : List TypeDesc} {va vb : List Value} {v : Bool} (hB : eqB P t us) (hx : ev E x = .agg ⟨va⟩) (hy : ev E y = .agg ⟨vb⟩) (h : eqK us va vb = some v) :
    (execOp (ev E) ⟨dst, .binOp .eql t x y t', ty, pos, af, g⟩).run P w = .ok (.value (.bool v)) w := by
  have hg : P.eqGuardType P.depth t = false := by have hB := hB.1; simp only [Bool.and_eq_true, Bool.not_eq_true'] at hB; exact hB.2
  simp only [execOp, hx, hy, Sem.run_bind, run_eqGuard_agg w _ t x y _ _ hg, run_eql_struct, run_structEq hB h, Result.andThen_ok, Sem.run_pure]
theorem st_aeql {t t' : TypeId} {x y : Operand} {us : List TypeDesc} {va vb : List Value} {v : Bool} (hB : eqB P t us) (hx : ev E x = .agg ⟨va⟩) (hy : ev E y = .agg ⟨vb⟩) (h : eqK us va vb = some v) (hk : wops P r n O Q l (updo E dst (.bool v)) ds w) : wop P r n O Q ⟨dst, .binOp .eql t x y t', ty, pos, af, g⟩ l E ds w :=
  wop_run (fun _ => by simp) (r_aeql hB hx hy h) hk
theorem r_aneq {t t' : TypeId} {x y : Operand} {us : List TypeDesc} {va vb : List Value} {v : Bool} (hB : eqB P t us) (hx : ev E x = .agg ⟨va⟩) (hy : ev E y = .agg ⟨vb⟩) (h : eqK us va vb = some v) :
    (execOp (ev E) ⟨dst, .binOp .neq t x y t', ty, pos, af, g⟩).run P w = .ok (.value (.bool (!v))) w := by
  have hg : P.eqGuardType P.depth t = false := by have hB := hB.1; simp only [Bool.and_eq_true, Bool.not_eq_true'] at hB; exact hB.2
  simp only [execOp, hx, hy, Sem.run_bind, run_eqGuard_agg w _ t x y _ _ hg, run_neq_struct, run_structEq hB h, Result.andThen_ok, Sem.run_pure]
theorem r_bneq {t t' : TypeId} {x y : Operand} {a b : Bool} (ht : P.underlying t = some .bool) (hx : ev E x = .bool a) (hy : ev E y = .bool b) :
    (execOp (ev E) ⟨dst, .binOp .neq t x y t', ty, pos, af, g⟩).run P w = .ok (.value (.bool (!(a == b)))) w := by
  simp [execOp, hx, hy, eqGuard, binOp, Op.equal, Op.maxDepth, Sem.run_bind, run_equalIn_bool' w 9999 t a b ht, Result.andThen]
theorem st_bneq {t t' : TypeId} {x y : Operand} {a b : Bool} (ht : P.underlying t = some .bool) (hx : ev E x = .bool a) (hy : ev E y = .bool b) (hk : wops P r n O Q l (updo E dst (.bool (!(a == b)))) ds w) : wop P r n O Q ⟨dst, .binOp .neq t x y t', ty, pos, af, g⟩ l E ds w :=
  wop_run (fun _ => by simp) (r_bneq ht hx hy) hk
theorem r_peqln {t t' e : TypeId} {x y : Operand} {A : Option Addr} (ht : P.underlying t = some (.pointer e)) (hx : ev E x = .pointer A) (hy : ev E y = .pointer none) :
    (execOp (ev E) ⟨dst, .binOp .eql t x y t', ty, pos, af, g⟩).run P w = .ok (.value (.bool A.isNone)) w := by
  have hp : P.underlying t = some (.pointer (P.pointee t)) := by simp [Program.pointee, ht]
  simp [execOp, hx, hy, eqGuard, Sem.run_bind, run_eql_pointer_nil w t A hp, Result.andThen]
theorem st_peqln {t t' e : TypeId} {x y : Operand} {A : Option Addr} (ht : P.underlying t = some (.pointer e)) (hx : ev E x = .pointer A) (hy : ev E y = .pointer none) (hk : wops P r n O Q l (updo E dst (.bool A.isNone)) ds w) : wop P r n O Q ⟨dst, .binOp .eql t x y t', ty, pos, af, g⟩ l E ds w :=
  wop_run (fun _ => by simp) (r_peqln ht hx hy) hk
end
def ResAll (P : Program) (E : Env) (w : World) : List ResultVar → List Value → Prop
  | [], [] => True
  | .tmp t :: rs, v :: vs => E t = v ∧ ResAll P E w rs vs
  | .cell d t :: rs, v :: vs => (∃ b off, E d = .pointer (some ⟨b, off, none⟩) ∧ (loadVar t ⟨b, off, none⟩).run P w = .ok v w) ∧ ResAll P E w rs vs
  | _, _ => False
theorem run_resAll {a : Act} : ∀ (rs : List ResultVar) (vs : List Value), ResAll P (env a) w rs vs → (rs.mapM (m := Sem) (fun (r : ResultVar) => match r with | .tmp t => pure (a.tmps.getD t undef) | .cell d t => do loadVar t (← asAddr (a.tmps.getD d undef)))).run P w = Result.ok vs w
  | [], [], _ => rfl
  | .tmp t :: rs, v :: vs, h => by
    obtain ⟨h1, h2⟩ := h;have ih := run_resAll rs vs h2;have h1 : a.tmps.getD t undef = v := h1;simp only [List.mapM_cons, Sem.run_bind, Sem.run_pure, Result.andThen, h1];rw [ih]
  | .cell d t :: rs, v :: vs, h => by
    obtain ⟨⟨b, off, h1, h3⟩, h2⟩ := h;have ih := run_resAll rs vs h2
    have h1 : asAddr (a.tmps.getD d undef) = (pure ⟨b, off, none⟩ : Sem Addr) := by
      have h1 : a.tmps.getD d undef = .pointer (some ⟨b, off, none⟩) := h1;rw [h1]
      rfl
    simp only [List.mapM_cons, Sem.run_bind, h1, Sem.run_pure, Result.andThen, h3]
    rw [ih]
  | [], _ :: _, h => h.elim
  | .tmp _ :: _, [], h => h.elim
  | .cell _ _ :: _, [], h => h.elim
theorem ret_many {fn : Func} {Φ : Value → World → Prop} {rs : List ResultVar} {vs : List Value} (hr : fn.results = ⟨rs⟩) (h : ResAll P E w rs vs) (h2 : 2 ≤ vs.length) (hΦ : Φ (.tuple ⟨vs⟩) w) : retP P fn Φ .ret E [] w :=
  ⟨rfl, fun a ha => ⟨_, by
    subst ha
    have := run_resAll rs vs h
    unfold results
    rw [hr, Array.mapM_eq_mapM_toList]
    simp only [Sem.run_bind, Sem.run_map, Result.andThen, Sem.run_pure]
    erw [this]
    match vs, h2 with
    | _ :: _ :: _, _ => rfl, hΦ⟩⟩
end Go.Proofs.YtghjmiggobpmoaaGreatDoor.K
namespace Go.Proofs.YtghjmiggobpmoaaGreatDoor.K
open Go Go.RowKit
def OwnB (e : TypeId) (w : World) (A : Option Addr) (cap : Nat) (s : Bytes) : Prop := w.ownsRowF 0 e 1 (.slice A s.length cap) s.length (Lib.byteCells s)
structure BldAt (T e : TypeId) (w : World) (b : Nat) (A : Option Addr) (cap : Nat) (s : Bytes) : Prop where
  blk : Blk w b [.pointer none, .slice A s.length cap] T ∨ Blk w b [.pointer (some ⟨b, 0, none⟩), .slice A s.length cap] T
  own : OwnB e w A cap s
  nil : s = [] → A = none
variable {T e : TypeId} {w w' : World} {b : Nat} {A : Option Addr} {cap : Nat} {s : Bytes}
theorem OwnB.form (h : OwnB e w A cap s) : (A = none ∧ cap = 0 ∧ s = []) ∨ ∃ g cur fz, A = some ⟨g, 0, none⟩ ∧ w.heap[g]? = some (.cells cur e fz) ∧ s.length ≤ cap ∧ cap ≤ 9223372036854775807 := by
  rcases h.2 with ⟨h1, h2⟩ | ⟨g, cp, cur, fz, h1, h2, h3, h4, h5, h6, _⟩
  · simp only [Value.slice.injEq] at h1; exact .inl ⟨h1.1, h1.2.2, List.eq_nil_of_length_eq_zero h2⟩
  simp only [Value.slice.injEq] at h1; obtain ⟨rfl, _, rfl⟩ := h1
  exact .inr ⟨g, cur, fz, rfl, h3, h5, by simpa [maxLen] using h6⟩
theorem OwnB.lt (h : OwnB e w A cap s) : ∀ g, g ∈ ob A → g < w.heap.size := by
  rcases h.form with ⟨rfl, _⟩ | ⟨g, cur, fz, rfl, h1, _⟩
  · simp [ob]
  intro k hk; simp [ob] at hk; subst hk; exact (Array.getElem?_eq_some_iff.1 h1).1
theorem OwnB.tr {bs : List Nat} (h : OwnB e w A cap s) (hc : Chg bs w w') (hb : ∀ k, k ∈ ob A → k ∉ bs) : OwnB e w' A cap s := by
  have hl := h.lt;refine ⟨h.1, ?_⟩
  rcases h.2 with h1 | ⟨g, cp, cur, fz, h1, h2, h3, h4⟩
  · exact .inl h1
  have h1' := h1;simp only [Value.slice.injEq] at h1'; obtain ⟨rfl, _, rfl⟩ := h1';exact .inr ⟨g, _, cur, fz, rfl, h2, (hc.block g (hl g (by simp [ob])) (hb g (by simp [ob]))).trans h3, h4⟩
theorem OwnB.ne {cs : List Value} (h : OwnB e w A cap s) (hb : Blk w b cs T) (hT : T ≠ e) : b ∉ ob A := by
  rcases h.form with ⟨rfl, _⟩ | ⟨g, cur, fz, rfl, h1, _⟩
  · simp [ob]
  intro hx; simp [ob] at hx; subst hx;rw [show w.heap[b]? = _ from hb] at h1;simp only [Option.some.injEq, Obj.cells.injEq] at h1;exact hT h1.2.1
theorem BldAt.ne (h : BldAt T e w b A cap s) (hT : T ≠ e) : b ∉ ob A := by
  rcases h.blk with hb | hb <;> exact h.own.ne hb hT
theorem BldAt.ltb (h : BldAt T e w b A cap s) : b < w.heap.size := by
  rcases h.blk with hb | hb <;> exact hb.lt
theorem BldAt.tr {bs : List Nat} (h : BldAt T e w b A cap s) (hc : Chg bs w w') (h1 : b ∉ bs) (h2 : ∀ k, k ∈ ob A → k ∉ bs) : BldAt T e w' b A cap s :=
  ⟨h.blk.imp (fun x => x.tr hc h1) (fun x => x.tr hc h1), h.own.tr hc h2, h.nil⟩
theorem BldAt.tr0 (h : BldAt T e w b A cap s) (hc : Chg [] w w') : BldAt T e w' b A cap s := h.tr hc (by simp) (by simp)
theorem BldAt.new (h : Blk w b [.pointer none, .slice none 0 0] T) : BldAt T e w b none 0 [] :=
  ⟨.inl h, ⟨by simp [Lib.byteCells], .inl ⟨rfl, rfl⟩⟩, fun _ => rfl⟩
theorem BldAt.fresh (h : BldAt T e w b A cap s) {k : Nat} (hk : w.heap.size ≤ k) : k ∉ ob A := fun hx => by have := h.own.lt k hx; omega
variable {P : Program} {X : Value → World → Prop} {r : Option Nat} {n : Nat} {O : Array Oper} {Q : Post} {E : Env} {ds : List Deferred} {l : List Oper}
section
variable {dst : Option Nat} {ty : TypeId} {pos : String} {af : Array Edge} {g : Option (Nat × Bool)}
theorem st_pneq_same {t t' te : TypeId} {x y : Operand} {a : Addr} (ht : P.underlying t = some (.pointer te)) (hi : (P.info? te).isSome = true) (hx : ev E x = .pointer (some a)) (hy : ev E y = .pointer (some a)) (hk : wops P r n O Q l (updo E dst (.bool false)) ds w) :
    wop P r n O Q ⟨dst, .binOp .neq t x y t', ty, pos, af, g⟩ l E ds w := by
  obtain ⟨j, hj⟩ := Option.isSome_iff_exists.1 hi;refine wop_run (fun _ => by simp) ?_ hk
  simp [execOp, hx, hy, eqGuard, Sem.run_bind, Lib.run_neq_ptr_same w a ht hj, Result.andThen]
theorem st_toUnsafe {src t te : TypeId} {x : Operand} {off : Nat} {cs : List Value} (hs : P.underlying src = some (.pointer te)) (hd : P.underlying t = some .unsafePointer) (hi : (P.info? te).map (fun i => i.size != 0) = some true) (hb : Blk w b cs T) (ho : off < cs.length) (hx : ev E x = .pointer (some ⟨b, off, none⟩))
    (hk : wops P r n O Q l (updo E dst (.pointer (some ⟨b, off, none⟩))) ds w) : wop P r n O Q ⟨dst, .convert src t x, ty, pos, af, g⟩ l E ds w := by
  obtain ⟨j, hj, hj2⟩ := Option.map_eq_some_iff.1 hi;refine wop_run (fun _ => by simp) ?_ hk
  have hsh : w.shape? b = some (T, cs.length) := by simp [World.shape?, show w.heap[b]? = _ from hb]
  simp only [execOp, hx, Sem.run_bind, Lib.run_to_unsafe w ⟨b, off, none⟩ hs hd hj (by simpa using hj2) hsh ho, Result.andThen, Sem.run_pure]
theorem st_fromUnsafe {src t u : TypeId} {x : Operand} {off : Nat} {cs : List Value} (hs : P.underlying src = some .unsafePointer) (hd : P.underlying t = some (.pointer u)) (hi : (P.info? u).isSome = true) (hb : Blk w b cs T) (hl : liesAt P P.depth T (cs.length / P.cellsOf T) off u 1 = true) (hx : ev E x = .pointer (some ⟨b, off, none⟩))
    (hk : wops P r n O Q l (updo E dst (.pointer (some ⟨b, off, none⟩))) ds w) : wop P r n O Q ⟨dst, .convert src t x, ty, pos, af, g⟩ l E ds w := by
  obtain ⟨j, hj⟩ := Option.isSome_iff_exists.1 hi;refine wop_run (fun _ => by simp) ?_ hk
  have hsh : w.shape? b = some (T, cs.length) := by simp [World.shape?, show w.heap[b]? = _ from hb]
  simp only [execOp, hx, Sem.run_bind, Lib.run_from_unsafe w ⟨b, off, none⟩ hs hd hj hsh hl, Result.andThen, Sem.run_pure]
theorem st_callV {c : Call} {f : FuncId} {ags : List Value} {v : Value} {x : Operand} {cp : Array Value} (hcal : c.callee = .value x) (hf : ev E x = .func (.func f) #[] cp) (has : c.args.toList.map (ev E) ++ cp.toList = ags) (hent : (callFunc f ⟨ags⟩).run P w = .ok (.value v) w)
    (hk : wops P r n O Q l (updo E dst v) ds w) : wop P r n O Q ⟨dst, .call c, ty, pos, af, g⟩ l E ds w := by
  refine wop_run (fun _ => by simp) ?_ hk
  replace has : (c.args.map (ev E)) ++ cp = ⟨ags⟩ := Array.ext' (by simpa using has)
  simp [execOp, resolve, hcal, hf, Deferred.ofValue, invoke, go_sem, has, hent, Result.andThen]
def byteB (P : Program) (t u e : TypeId) : Prop := P.underlying t = some (.slice e) ∧ P.underlying u = some .string ∧ P.underlying e = some (.int .u8) ∧ P.cellsOf e = 1 ∧ (P.info? e).map (fun i => (i.zero, i.size, i.bytes)) = some (some (.int .u8 0), 1, 1)
open Go.Lib in
theorem run_appendStr {t u ty : TypeId} {s2 : Bytes} (hB : byteB P t u e) (ho : OwnB e w A cap s) (hn : s = [] → A = none) (hl : s.length + s2.length ≤ 140737488355328) :
    ∃ A' cap' w', (Builtin.append_ #[t, u] ty #[.slice A s.length cap, S s2]).run P w = .ok (.slice A' (s ++ s2).length cap') w' ∧ OwnB e w' A' cap' (s ++ s2) ∧ Chg (ob A) w w' ∧ (∀ g, g ∈ ob A' → g ∈ ob A ∨ w.heap.size ≤ g) ∧ (s ++ s2 = [] → A' = none) := by
  obtain ⟨ht, hu, he, hc, hi0⟩ := hB;obtain ⟨i, hi, hi2⟩ := Option.map_eq_some_iff.1 hi0;simp only [Prod.mk.injEq] at hi2;obtain ⟨hz, hsize, hby⟩ := hi2;have hss : (⟨⟨s2⟩⟩ : ByteArray).size = s2.length := rfl;have hcells : Lib.strCells ⟨⟨s2⟩⟩ = Lib.byteCells s2 := rfl;have happ : Lib.byteCells s ++ Lib.byteCells s2 = Lib.byteCells (s ++ s2) := by simp [Lib.byteCells]
  have hx1 : (Lib.byteCells s).length = s.length := Lib.byteCells_length s;have hlen : (Lib.byteCells (s ++ s2)).length = (s ++ s2).length * 1 := by rw [Lib.byteCells_length, Nat.mul_one]
  rcases ho.2 with ⟨hv, h0⟩ | ⟨g, cp, cur, fz, hv, hbg, hg, hfz, hnc, hcm, hcs, htake⟩
  · -- no row yet
    simp only [Value.slice.injEq] at hv
    obtain ⟨rfl, _, rfl⟩ := hv;have hs0 : s = [] := List.eq_nil_of_length_eq_zero h0;subst hs0;obtain ⟨v', w', h1, h2, h3, h4⟩ := run_append_own_stringF (P := P) w w.heap.size t u ty e i ht hu hi hz hsize hby (.slice none 0 0) 0 [] (World.ownsRowF_nil _ _ _ _) ⟨⟨s2⟩⟩ (by rw [hss]; simp [maxLen]; omega) (by rw [hss]; simpa using hl) (Nat.le_refl _)
    rw [hss, hcells, List.nil_append, Nat.zero_add] at h2
    have hgr : Chg [] w w' := ⟨h3.os, h3.tape, h3.output, h3.size, fun k hk _ => h3.block k hk (by simp [Value.ownBlock])⟩
    rcases h2.2 with ⟨h5, h6⟩ | ⟨g2, cp, cur, fz, h5, h6, h7⟩
    · have hs2 : s2 = [] := List.eq_nil_of_length_eq_zero h6;subst hs2;exact ⟨none, 0, w', by rw [h5] at h1; exact h1, ⟨by simp [Lib.byteCells], .inl ⟨rfl, rfl⟩⟩, hgr, by simp [ob], fun _ => rfl⟩
    refine ⟨some ⟨g2, 0, none⟩, cp, w', by rw [h5] at h1; exact h1, ⟨by simp [Lib.byteCells], .inr ⟨g2, cp, cur, fz, rfl, Nat.zero_le _, h7⟩⟩, hgr, fun g hg => by simp [ob] at hg; exact .inr (by omega), fun hnil => ?_⟩
    have hs2 : s2 = [] := by simpa using hnil
    have := h4.2 ⟨rfl, by rw [hss, hs2]; rfl⟩
    rw [h5] at this; cases this
  simp only [Value.slice.injEq] at hv
  obtain ⟨rfl, _, rfl⟩ := hv;have hne : ¬ s = [] := fun h => by have := hn h; cases this
  by_cases hroom : s.length + s2.length ≤ cap
  · have hcs' : cur.size = cap := by simpa using hcs
    have hr := run_append_room_stringF (P := P) w t u ty e i ht hu hi hsize g s.length cap cur fz hg (by simpa using hfz) ⟨⟨s2⟩⟩ (by rw [hss]; exact hroom) (by rw [hss]; omega)
    refine ⟨_, _, _, by rw [List.length_append]; exact hr, ⟨hlen, .inr ⟨g, cap, _, fz, by rw [List.length_append] <;> rfl, hbg, setRow_heap w g cur _ e _ hg, by rw [List.length_append]; omega, by rw [List.length_append]; exact hroom, hcm, ?_, ?_⟩⟩,
      ⟨rfl, rfl, rfl, by simp, fun k _ hk => setRow_other w g k _ (fun e => hk (by simp [ob, e]))⟩, fun g' hg' => by simp [ob] at hg' ⊢; exact .inl hg', fun h => absurd (List.append_eq_nil_iff.1 h).1 hne⟩
    · simp only [List.size_toArray, List.length_append, List.length_take, List.length_drop, Array.length_toList, strCells_length, hss]
      omega
    have ht' : cur.toList.take s.length = Lib.byteCells s := by simpa using htake
    rw [ht', hcells, happ, ← hlen]
    exact List.take_left
  have holds : ∀ j u, (Lib.byteCells s)[j]? = some u → w.cell? ((⟨g, 0, none⟩ : Addr).add j) = some u := World.ownsRowF.cells ho (g := g) rfl;have hr := run_append_grow_string (P := P) w t u ty e i (.int .u8 0) ht hu hi hz ⟨g, 0, none⟩ s.length cap (Lib.byteCells s) (by rw [hsize]; simpa using hx1) holds ⟨⟨s2⟩⟩ (by rw [hss]; omega) (by rw [hss]; omega) (by rw [hby, hss]; exact growslice_fits (by omega) (by omega))
  have hge := grownCap_ge w (s.length + s2.length) cap e;have hcm2 : grownCap w (s.length + s2.length) cap e ≤ maxLen := grownCap_le_maxLen w (s.length + s2.length) cap e (by simp [maxLen]; omega)
  refine ⟨_, _, _, by rw [List.length_append]; exact hr, ⟨hlen, .inr ⟨w.heap.size, _, _, (0, 0), by rw [List.length_append] <;> rfl, Nat.zero_le _, heap_alloc_new w.drew _, Nat.zero_le _, by rw [List.length_append]; exact hge, hcm2, ?_, ?_⟩⟩,
    ((Chg.drew w).then (Chg.alloc _ _)).wide, fun g' hg' => by simp [ob] at hg'; exact .inr (by omega), fun h => absurd (List.append_eq_nil_iff.1 h).1 hne⟩
  · have hz1 : (Value.int IntKind.u8 0).cells.size = 1 := rfl;simp only [Array.size_append, List.size_toArray, size_zeroCells, hz1, hx1, strCells_length, hss]
    omega
  simp only [Array.toList_append, List.append_assoc]
  rw [← List.append_assoc, hcells, happ, ← hlen]
  exact List.take_left
theorem st_appendStr {t u : TypeId} {x y : Operand} {s2 : Bytes} (hB : byteB P t u e) (hx : ev E x = .slice A s.length cap) (hy : ev E y = S s2) (ho : OwnB e w A cap s) (hn : s = [] → A = none) (hl : s.length + s2.length ≤ 140737488355328)
    (h : ∀ A' cap' w', OwnB e w' A' cap' (s ++ s2) → Chg (ob A) w w' → (∀ g, g ∈ ob A' → g ∈ ob A ∨ w.heap.size ≤ g) → (s ++ s2 = [] → A' = none) → wops P r n O Q l (updo E dst (.slice A' (s ++ s2).length cap')) ds w') :
    wop P r n O Q ⟨dst, .call ⟨.builtin .append, #[x, y], #[t, u]⟩, ty, pos, af, g⟩ l E ds w := by
  obtain ⟨A', cap', w', h1, h2, h3, h4, h5⟩ := run_appendStr (ty := ty) (s2 := s2) hB ho hn hl;refine wop_run (fun _ => by simp) ?_ (h A' cap' w' h2 h3 h4 h5)
  simp only [execOp, resolve, invoke, builtin, List.map_toArray, List.map_cons, List.map_nil, hx, hy, Sem.run_bind, Sem.run_pure, h1, Result.andThen]
theorem r_sliceData_nil {x : Operand} {t : TypeId} (hx : ev E x = .slice none 0 0) : (execOp (ev E) ⟨dst, .call ⟨.builtin .unsafeSliceData, #[x], #[t]⟩, ty, pos, af, g⟩).run P w = .ok (.value (.pointer none)) w := by
  simp only [execOp, resolve, invoke, builtin, List.map_toArray, List.map_cons, List.map_nil, hx, Sem.run_bind, Sem.run_pure, Lib.run_unsafeSliceData_nil, Result.andThen]
theorem r_sliceData {x : Operand} {t : TypeId} {a : Addr} {m c : Nat} (hx : ev E x = .slice (some a) m c) (hc : c ≠ 0) : (execOp (ev E) ⟨dst, .call ⟨.builtin .unsafeSliceData, #[x], #[t]⟩, ty, pos, af, g⟩).run P w = .ok (.value (.pointer (some a))) w := by
  simp only [execOp, resolve, invoke, builtin, List.map_toArray, List.map_cons, List.map_nil, hx, Sem.run_bind, Sem.run_pure, Lib.run_unsafeSliceData_row _ _ _ _ _ _ hc, Result.andThen]
theorem r_unsafeString_nil {x y : Operand} {t u : TypeId} {p : Option Addr} (hx : ev E x = .pointer p) (hy : ev E y = .int .i64 0) : (execOp (ev E) ⟨dst, .call ⟨.builtin .unsafeString, #[x, y], #[t, u]⟩, ty, pos, af, g⟩).run P w = .ok (.value (S [])) w := by
  simp only [execOp, resolve, invoke, builtin, List.map_toArray, List.map_cons, List.map_nil, hx, hy, Sem.run_bind, Sem.run_pure, Lib.run_unsafeString_none, Result.andThen]
  rfl
theorem r_unsafeString {x y : Operand} {t u : TypeId} {gb : Nat} (ht : P.underlying t = some (.pointer e)) (hc : P.cellsOf e = 1) (ho : OwnB e w (some ⟨gb, 0, none⟩) cap s) (hs : s ≠ []) (hx : ev E x = .pointer (some ⟨gb, 0, none⟩)) (hy : ev E y = .int .i64 (s.length : Int)) :
    ∃ w', (execOp (ev E) ⟨dst, .call ⟨.builtin .unsafeString, #[x, y], #[t, u]⟩, ty, pos, af, g⟩).run P w = .ok (.value (S s)) w' ∧ OwnB e w' (some ⟨gb, 0, none⟩) cap s ∧ Chg [gb] w w' := by
  have ho2 := ho.2
  rcases ho2 with ⟨hv, _⟩ | ⟨g2, cp, cur, fz, hv, hbg, hg, hfz, hnc, hcm, hcs, htake⟩
  · cases hv
  simp only [Value.slice.injEq, Option.some.injEq, Addr.mk.injEq] at hv
  obtain ⟨⟨rfl, _⟩, _, rfl⟩ := hv;have hr := Lib.run_unsafeString_row (P := P) w t u ty e ht hc gb cur.size (by simp [World.shape?, hg]) s hs (by omega) (by simp [maxLen] at hcm; omega) (fun j x hx => World.ownsRowF.cells ho (g := gb) rfl j (.int .u8 x.toNat) (by simp [Lib.byteCells, hx]))
  refine ⟨w.freeze ⟨gb, 0, none⟩ s.length, ?_, ⟨ho.1, ?_⟩, ?_⟩
  · simp only [execOp, resolve, invoke, builtin, List.map_toArray, List.map_cons, List.map_nil, hx, hy, Sem.run_bind, Sem.run_pure, hr, Result.andThen]
    rfl
  · unfold World.freeze
    split
    · exact ho.2
    refine .inr ⟨gb, cap, cur, (if fz.1 == fz.2 then (0, 0 + s.length) else (min fz.1 0, max fz.2 (0 + s.length))), rfl, hbg, ?_, ?_, hnc, hcm, hcs, htake⟩
    · simp [Array.getElem?_modify, hg]
    split <;> simp <;> omega
  unfold World.freeze
  split
  · exact .wide (.refl _)
  exact ⟨rfl, rfl, rfl, by simp, fun k hk hne => by simp only [Array.getElem?_modify]; rw [if_neg (by simpa [eq_comm] using hne)]⟩
theorem sq_us {i : Nat} {rest : List (Nat × Nat)} {K : (World → Prop) → Env → World → Prop} {T0 : World → Prop} {o : Oper} {v : Value} {lo : List Oper} {F : World → Prop} (ho : lo[i]? = some o) (hr : ∃ w', (execOp (ev E) o).run P w = .ok (.value v) w' ∧ F w')
    (h : ∀ w', F w' → ∃ T' : World → Prop, (∀ x, T' x → T0 x) ∧ T' w' ∧ seqP P X lo K rest T' (updo E o.dst v) w') (hw : wantE lo o E = true := by rfl) : seqP P X lo K ((i, 1) :: rest) T0 E w := by
  obtain ⟨w', h1, h2⟩ := hr;obtain ⟨T', q1, q2, q3⟩ := h w' h2;exact sq_run1 ho h1 T' q1 q2 q3 hw
end
theorem CallR.imp {f : FuncId} {as : Array Value} {Φ Ψ : Value → World → Prop} (h : CallR P f as w Φ) (hi : ∀ v w', Φ v w' → Ψ v w') : CallR P f as w Ψ := Calls.mono h fun e w' ⟨v, h1, h2⟩ => ⟨v, h1, hi v w' h2⟩
theorem nm : (∀ (p : Prop) [Decidable p], (decide p = true) = p) ∧ (∀ (p : Prop) [Decidable p], (decide p = false) = ¬ p) ∧ (∀ b : Bool, ((!b) = true) = (b = false)) ∧ (∀ b : Bool, ((!b) = false) = (b = true)) ∧ ((!true) = false) ∧ ((!false) = true) ∧
    (∀ n : Nat, ((n : Int)).toNat = n) ∧ ((0 : Int).toNat = 0) ∧ ((1 : Int).toNat = 1) ∧ (∀ b : Bool, (¬ (b = true)) = (b = false)) ∧ (∀ b : Bool, (¬ (b = false)) = (b = true)) :=
  ⟨fun p _ => by simp, fun p _ => by simp, fun b => by cases b <;> simp, fun b => by cases b <;> simp, rfl, rfl, fun _ => rfl, rfl, rfl, fun b => by cases b <;> simp, fun b => by cases b <;> simp⟩
end Go.Proofs.YtghjmiggobpmoaaGreatDoor.K
namespace Go.Proofs.YtghjmiggobpmoaaGreatDoor.K
open Go Go.RowKit
variable {P : Program} {r : Option Nat} {n : Nat} {O : Array Oper} {Q : Post} {E : Env} {ds : List Deferred} {w : World} {l : List Oper}
def NK (K : Nat → Prop) (A0 : World) (k : Nat) : Prop := K k ∨ A0.heap.size ≤ k
end Go.Proofs.YtghjmiggobpmoaaGreatDoor.K
namespace Go.Proofs.YtghjmiggobpmoaaGreatDoor.K
open Go Go.RowKit
variable {P : Program} {r : Option Nat} {n : Nat} {O : Array Oper} {Q : Post} {E : Env} {ds : List Deferred} {w : World} {l : List Oper}
variable {dst : Option Nat} {ty : TypeId} {pos : String} {af : Array Edge} {g : Option (Nat × Bool)}
theorem r_subk {t t' : TypeId} {x y : Operand} {a b c : Int} {k : IntKind} (hx : ev E x = .int k a) (hy : ev E y = .int k b) (hc : k.wrap (a - b) = c) :
    (execOp (ev E) ⟨dst, .binOp .sub t x y t', ty, pos, af, g⟩).run P w = .ok (.value (.int k c)) w := by rw [← hc]; exact r_sub hx hy
theorem st_subk {t t' : TypeId} {x y : Operand} {a b c : Int} {k : IntKind} (hx : ev E x = .int k a) (hy : ev E y = .int k b) (hc : k.wrap (a - b) = c) (h : wops P r n O Q l (updo E dst (.int k c)) ds w) : wop P r n O Q ⟨dst, .binOp .sub t x y t', ty, pos, af, g⟩ l E ds w := st_sub hx hy (by rw [hc]; exact h)
theorem st_convk {src t : TypeId} {x : Operand} {a c : Int} {k k' : IntKind} {u : TypeDesc} (hs : P.underlying src = some u) (ht : P.underlying t = some (.int k')) (hx : ev E x = .int k a) (hc : k'.wrap a = c) (h : wops P r n O Q l (updo E dst (.int k' c)) ds w) : wop P r n O Q ⟨dst, .convert src t x, ty, pos, af, g⟩ l E ds w := st_convInt hs ht hx (by rw [hc]; exact h)
theorem r_sslo {t : TypeId} {x y : Operand} {a : Bytes} {i : Nat} (ht : P.underlying t = some .string) (hx : ev E x = S a) (hlo : ∃ k, ev E y = .int k (i : Int)) (h1 : i ≤ a.length) :
    (execOp (ev E) ⟨dst, .slice t x (some y) none none, ty, pos, af, g⟩).run P w = .ok (.value (S (a.drop i))) w := by
  have := r_sslice (P := P) (w := w) (dst := dst) (ty := ty) (pos := pos) (af := af) (g := g) (lo := some y) (hi := none) (i := i) (j := a.length) ht hx hlo rfl h1 (Nat.le_refl _)
  rwa [List.take_length] at this
theorem st_sslo {t : TypeId} {x y : Operand} {a : Bytes} {i : Nat} (ht : P.underlying t = some .string) (hx : ev E x = S a) (hlo : ∃ k, ev E y = .int k (i : Int)) (h1 : i ≤ a.length) (h : wops P r n O Q l (updo E dst (S (a.drop i))) ds w) : wop P r n O Q ⟨dst, .slice t x (some y) none none, ty, pos, af, g⟩ l E ds w :=
  wop_run (fun _ => by simp) (r_sslo ht hx hlo h1) h
theorem r_sshi {t : TypeId} {x y : Operand} {a : Bytes} {j : Nat} (ht : P.underlying t = some .string) (hx : ev E x = S a) (hhi : ∃ k, ev E y = .int k (j : Int)) (h1 : j ≤ a.length) :
    (execOp (ev E) ⟨dst, .slice t x none (some y) none, ty, pos, af, g⟩).run P w = .ok (.value (S (a.take j))) w := by
  have := r_sslice (P := P) (w := w) (dst := dst) (ty := ty) (pos := pos) (af := af) (g := g) (lo := none) (hi := some y) (i := 0) (j := j) ht hx rfl hhi (Nat.zero_le _) h1
  rwa [List.drop_zero] at this
theorem st_sshi {t : TypeId} {x y : Operand} {a : Bytes} {j : Nat} (ht : P.underlying t = some .string) (hx : ev E x = S a) (hhi : ∃ k, ev E y = .int k (j : Int)) (h1 : j ≤ a.length) (h : wops P r n O Q l (updo E dst (S (a.take j))) ds w) : wop P r n O Q ⟨dst, .slice t x none (some y) none, ty, pos, af, g⟩ l E ds w :=
  wop_run (fun _ => by simp) (r_sshi ht hx hhi h1) h
def Hid (p : Prop) : Prop := p
theorem Kept.refl' {K : Nat → Prop} {A : World} : Kept K A A := ⟨Nat.le_refl _, fun _ _ _ => rfl⟩
theorem Kept.chg {K : Nat → Prop} {A B C : World} {bs : List Nat} (h : Kept K A B) (c : Chg bs B C) (hb : ∀ k, k ∈ bs → K k → A.heap.size ≤ k) : Kept K A C :=
  ⟨Nat.le_trans h.1 c.size, fun k hk hl => (c.block k (Nat.lt_of_lt_of_le hl h.1) fun hx => by have := hb k hx hk; omega).trans (h.2 k hk hl)⟩
theorem stepR_scope {P : Program} {b : Frame} {a : Act} {k : List Item} {cs : List Frame} {w : World} {c : Code} : step P (lone (b.atR a (.code (.scope c) :: k)) cs w) = .next (lone (b.atR a (.code c :: .inScope c :: k)) cs w) :=
  step_lone_go (by simp [stepG, stepG.exec, Frame.atR])
theorem stepR_inScope {P : Program} {b : Frame} {a : Act} {k : List Item} {cs : List Frame} {w : World} {c : Code} : step P (lone (b.atR a (.inScope c :: k)) cs w) = .next (lone (b.atR a k) cs w) :=
  step_lone_go (by simp [stepG, stepG.exec, Frame.atR])
def noGo (Q : Exit → Act → World → Prop) : Exit → Act → World → Prop
  | .goto _, _, _ => False
  | e, a, w => Q e a w
theorem wpIn_scope {F : Fence} {n : Nat} {P : Program} {Q : Exit → Act → World → Prop} {a : Act} {w : World} {c : Code} (h : c.wpIn F n P (noGo Q) a w) : (Code.scope c).wpIn F n P Q a w := by
  intro b k cs hro hb hr;have h0 : (lone (b.atR a (.code (.scope c) :: k)) cs w).fenced P F := fenced_calm hb hr rfl;obtain ⟨e, a₁, w₁, hq, harr⟩ := h b (.inScope c :: k) cs hro hb hr
  cases e with
  | normal => exact ⟨.normal, a₁, w₁, hq, .head h0 stepR_scope (StepsIn.trans harr (.one (fenced_calm hb hr rfl) stepR_inScope))⟩
  | exit id =>
    have hx : exitTo id (.inScope c :: k) = exitTo id k := by simp [exitTo]
    exact ⟨.exit id, a₁, w₁, hq, fun k' hk => .head h0 stepR_scope (harr.1 k' (by rw [hx]; exact hk)),
      fun hr' hk => let ⟨k₁, h1, h2⟩ := harr.2 hr' (by rw [hx]; exact hk); ⟨k₁, h1, .head h0 stepR_scope h2⟩⟩
  | goto l => exact hq.elim
  | ret => exact ⟨_, a₁, w₁, hq, .of_steps (.one h0 stepR_scope) harr⟩
  | panic ch => exact ⟨_, a₁, w₁, hq, .of_steps (.one h0 stepR_scope) harr⟩
  | outgrown => exact ⟨_, a₁, w₁, hq, .of_steps (.one h0 stepR_scope) harr⟩
def scopeP (Q : Post) : Post
  | .goto _, _, _, _ => False
  | e, E, ds, w => Q e E ds w
theorem scope_r {Q : Post} {E : Env} {ds : List Deferred} {w : World} (h : Q .ret E ds w) : scopeP Q .ret E ds w := h
theorem x_scope {P : Program} {r : Option Nat} {n : Nat} {Q : Post} {E : Env} {ds : List Deferred} {w : World} {c : Code} (h : wp P r n c (scopeP Q) E ds w) : wp P r n (.scope c) Q E ds w := by
  intro a h1 h2 h3;refine wpIn_scope (wpIn_mono (h a h1 h2 h3) ?_);rintro e a' w' ⟨q1, q2⟩
  cases e with
  | goto l => exact q2.elim
  | normal => exact ⟨q1, q2⟩
  | exit i => exact ⟨q1, q2⟩
  | ret => exact ⟨q1, q2⟩
  | panic c => exact ⟨q1, q2⟩
  | outgrown => exact ⟨q1, q2⟩
end Go.Proofs.YtghjmiggobpmoaaGreatDoor.K
namespace Go.Proofs.YtghjmiggobpmoaaGreatDoor.K
open Go Go.RowKit
structure ChgP (M : Nat → Prop) (w w' : World) : Prop where
  os : w'.os = w.os
  tape : w'.tape = w.tape
  output : w'.output = w.output
  size : w.heap.size ≤ w'.heap.size
  block : ∀ k, k < w.heap.size → ¬ M k → w'.heap[k]? = w.heap[k]?
theorem ChgP.refl {M : Nat → Prop} (w : World) : ChgP M w w := ⟨rfl, rfl, rfl, Nat.le_refl _, fun _ _ _ => rfl⟩
theorem ChgP.chg {M : Nat → Prop} {bs : List Nat} {a b c : World} (h : ChgP M a b) (k : Chg bs b c) (hc : ∀ x, x ∈ bs → M x ∨ a.heap.size ≤ x) : ChgP M a c :=
  ⟨k.os.trans h.os, k.tape.trans h.tape, k.output.trans h.output, Nat.le_trans h.size k.size, fun i hi hb => by
    refine (k.block i (Nat.lt_of_lt_of_le hi h.size) fun hx => ?_).trans (h.block i hi hb)
    rcases hc i hx with h1 | h1
    · exact hb h1
    omega⟩
theorem ChgP.trans {M M1 : Nat → Prop} {a b c : World} (h : ChgP M a b) (k : ChgP M1 b c) (hc : ∀ x, M1 x → M x ∨ a.heap.size ≤ x) : ChgP M a c :=
  ⟨k.os.trans h.os, k.tape.trans h.tape, k.output.trans h.output, Nat.le_trans h.size k.size, fun i hi hb => by
    refine (k.block i (Nat.lt_of_lt_of_le hi h.size) fun hx => ?_).trans (h.block i hi hb)
    rcases hc i hx with h1 | h1
    · exact hb h1
    omega⟩
theorem ChgP.mono {M M1 : Nat → Prop} {a b : World} (h : ChgP M a b) (hm : ∀ x, M x → M1 x) : ChgP M1 a b := ⟨h.os, h.tape, h.output, h.size, fun i hi hb => h.block i hi fun hx => hb (hm i hx)⟩
theorem Blk.trP {M : Nat → Prop} {w w' : World} {b : Nat} {cs : List Value} {T : TypeId} (h : Blk w b cs T) (c : ChgP M w w') (hb : ¬ M b) : Blk w' b cs T := h.of_eq (c.block b h.lt hb)
theorem Sl.trP {M : Nat → Prop} {α : Type} {c : Enc α} {w w' : World} {D : Nat → Prop} {A : Option Addr} {xs : List α} (h : Sl c w D A xs) (k : ChgP M w w') (hb : ∀ x, D x → ¬ M x) : Sl c w' D A xs :=
  h.keep (fun i hi hD => k.block i hi (hb i hD)) k.size
theorem Own.trP {M : Nat → Prop} {α : Type} {c : Enc α} {e : TypeId} {w w' : World} {D : Nat → Prop} {A : Option Addr} {cap : Nat} {xs : List α} (h : Own c e w D A cap xs) (k : ChgP M w w') (hb : ∀ x, D x → ¬ M x) : Own c e w' D A cap xs :=
  h.keep (fun i hi hD => k.block i hi (hb i hD)) k.size
theorem Own.take {α : Type} {c : Enc α} {e : TypeId} {w : World} {D : Nat → Prop} {A : Option Addr} {cap : Nat} {xs : List α} {k : Nat} (h : Own c e w D A cap xs) (hk : k ≤ xs.length) : Own c e w D A cap (xs.take k) := by
  obtain ⟨cs, h1, h2, h3⟩ := h;have hkm : k * c.sz ≤ xs.length * c.sz := Nat.mul_le_mul_right _ hk;have hl : (xs.take k).length = k := by rw [List.length_take]; omega
  have hcl : (cs.take (k * c.sz)).length = k * c.sz := by rw [List.length_take, h3.1]; omega
  refine ⟨cs.take (k * c.sz), ⟨by rw [hl, hcl], ?_⟩, h2, ⟨by rw [hl, hcl], fun i x hx => ?_⟩⟩
  · rw [hl]
    rcases h1.2 with ⟨h4, h5⟩ | ⟨g, cp, cur, h4, h5, h6, h7, h8, h9, h10⟩
    · simp only [Value.slice.injEq] at h4; obtain ⟨rfl, _, rfl⟩ := h4
      obtain rfl : k = 0 := by omega
      exact .inl ⟨rfl, rfl⟩
    simp only [Value.slice.injEq] at h4; obtain ⟨rfl, _, rfl⟩ := h4
    refine .inr ⟨g, _, cur, rfl, h5, h6, by omega, h8, h9, ?_⟩
    rw [← h10, List.take_take, Nat.min_eq_left hkm]
  rw [List.getElem?_take] at hx
  split at hx
  · rename_i hik
    obtain ⟨vs, q1, q2⟩ := h3.2 i x hx;refine ⟨vs, q1, fun j v hj => ?_⟩
    have hjs : j < c.sz := by rw [← c.len q1]; exact (List.getElem?_eq_some_iff.1 hj).1
    have hlt : i * c.sz + j < k * c.sz := by
      have := Nat.mul_le_mul_right c.sz (show i + 1 ≤ k from hik);rw [Nat.add_mul] at this; omega
    rw [List.getElem?_take, if_pos hlt]; exact q2 j v hj
  cases hx
section
variable {P : Program} {r : Option Nat} {n : Nat} {O : Array Oper} {Q : Post} {E : Env} {ds : List Deferred} {w : World} {l : List Oper}
variable {dst : Option Nat} {ty : TypeId} {pos : String} {af : Array Edge} {g : Option (Nat × Bool)}
theorem r_callB {c : Call} {f : FuncId} {ags : List Value} {x : Operand} {rv : Array Value} (hcal : c.callee = .value x) (hf : ev E x = .func (.func f) rv #[]) (hent : ∀ args (w : World), (callFunc f args).run P w = .ok (.enter f args) w)
    (has : rv.toList ++ c.args.toList.map (ev E) = ags) : (execOp (ev E) ⟨dst, .call c, ty, pos, af, g⟩).run P w = .ok (.enter f ⟨ags⟩) w := by
  replace has : rv ++ (c.args.map (ev E)) = ⟨ags⟩ := Array.ext' (by simpa using has)
  simp [execOp, resolve, hcal, hf, Deferred.ofValue, invoke, go_sem, has, hent, Result.andThen]
end
end Go.Proofs.YtghjmiggobpmoaaGreatDoor.K
namespace Go.Proofs.YtghjmiggobpmoaaGreatDoor.K
open Go Go.RowKit
section
variable {P : Program} {r : Option Nat} {n : Nat} {O : Array Oper} {Q : Post} {E : Env} {ds : List Deferred} {w : World} {l : List Oper}
variable {dst : Option Nat} {ty : TypeId} {pos : String} {af : Array Edge} {g : Option (Nat × Bool)}
end
end Go.Proofs.YtghjmiggobpmoaaGreatDoor.K
namespace Go.Proofs.YtghjmiggobpmoaaGreatDoor.K
open Go Go.MapKept
def MapAt (w : World) (b : Nat) (es : List (Bytes × Value)) : Prop := ∃ ar clock, w.heap[b]? = some (.map ar clock) ∧ ar.toList.map (fun e => (e.key, e.val)) = es.map (fun x => (S x.1, x.2))
theorem MapAt.lt {w : World} {b : Nat} {es : List (Bytes × Value)} (h : MapAt w b es) : b < w.heap.size := by obtain ⟨_, _, h, _⟩ := h; exact (Array.getElem?_eq_some_iff.1 h).1
theorem MapAt.tr {w w' : World} {b : Nat} {es : List (Bytes × Value)} {bs : List Nat} (h : MapAt w b es) (hc : Chg bs w w') (hb : b ∉ bs) : MapAt w' b es := by
  have hl := h.lt; obtain ⟨ar, c, h1, h2⟩ := h; exact ⟨ar, c, (hc.block b hl hb).trans h1, h2⟩
theorem MapAt.tr0 {w w' : World} {b : Nat} {es : List (Bytes × Value)} (h : MapAt w b es) (hc : Chg [] w w') : MapAt w' b es := h.tr hc (by simp)
theorem MapAt.fresh {w : World} {b k : Nat} {es : List (Bytes × Value)} (h : MapAt w b es) (hk : w.heap.size ≤ k) : b ≠ k := by have := h.lt; omega
section rules
variable {P : Program} {r : Option Nat} {n : Nat} {O : Array Oper} {Q : Post} {l : List Oper} {E : Env} {ds : List Deferred} {w : World} {dst : Option Nat} {ty : TypeId} {pos : String} {af : Array Edge} {g : Option (Nat × Bool)}
end rules
end Go.Proofs.YtghjmiggobpmoaaGreatDoor.K
namespace Go.Proofs.YtghjmiggobpmoaaGreatDoor.K
open Go
section rules
variable {P : Program} {r : Option Nat} {n : Nat} {O : Array Oper} {Q : Post} {l : List Oper} {E : Env} {ds : List Deferred} {w : World} {dst : Option Nat} {ty : TypeId} {pos : String} {af : Array Edge} {g : Option (Nat × Bool)}
variable {t t' : TypeId} {x y : Operand} {a b : Int} {k k' : IntKind}
variable {s u : Bytes}
end rules
theorem wrap_i64_eq (x : Int) : IntKind.i64.wrap x = x.bmod (2 ^ 64) := by
  simp only [IntKind.wrap, IntKind.signed, IntKind.bits, Int.bmod]
  first | rfl | (split <;> split <;> omega) | (simp; omega)
end Go.Proofs.YtghjmiggobpmoaaGreatDoor.K
namespace Go.Proofs.YtghjmiggobpmoaaGreatDoor.K
open Go
section rules
variable {P : Program} {r : Option Nat} {n : Nat} {O : Array Oper} {Q : Post} {l : List Oper} {E : Env} {ds : List Deferred} {w : World} {dst : Option Nat} {ty : TypeId} {pos : String} {af : Array Edge}
theorem en {K : Env → List Deferred → World → Prop} (h : K E ds w) : wops P r n O (thenP K Q) [] E ds w := wops_nil (then_n h)
theorem sr {id : Nat} {y : Code} (hok : l.all (okd n) = true) (h : wops P r n l.toArray (thenP (wp P r n y Q) Q) l E ds w) : wp P r n (.seq (.region id l.toArray false) y) Q E ds w := x_seq (x_region hok h)
theorem Wp {o : Oper} (hg : o.guard = none) (h : wop P r n O Q o l E ds w) : wops P r n O Q (o :: l) E ds w := w_plain hg h
theorem mv {x : Operand} {v : Value} (hx : ev E x = v) (h : wops P r n O Q l (updo E dst v) ds w) : wops P r n O Q (⟨dst, .move x, ty, pos, af, none⟩ :: l) E ds w := w_plain rfl (st_move hx h)
theorem mI {x : Operand} {k : IntKind} {a : Int} (hx : ev E x = .int k a) (h : wops P r n O Q l (updo E dst (.int k a)) ds w) : wops P r n O Q (⟨dst, .move x, ty, pos, af, none⟩ :: l) E ds w := mv hx h
theorem mB {x : Operand} {a : Bool} (hx : ev E x = .bool a) (h : wops P r n O Q l (updo E dst (.bool a)) ds w) : wops P r n O Q (⟨dst, .move x, ty, pos, af, none⟩ :: l) E ds w := mv hx h
theorem mS {x : Operand} {a : Bytes} (hx : ev E x = S a) (h : wops P r n O Q l (updo E dst (S a)) ds w) : wops P r n O Q (⟨dst, .move x, ty, pos, af, none⟩ :: l) E ds w := mv hx h
theorem mP {x : Operand} {a : Option Addr} (hx : ev E x = .pointer a) (h : wops P r n O Q l (updo E dst (.pointer a)) ds w) : wops P r n O Q (⟨dst, .move x, ty, pos, af, none⟩ :: l) E ds w := mv hx h
theorem mL {x : Operand} {a : Option Addr} {m c : Nat} (hx : ev E x = .slice a m c) (h : wops P r n O Q l (updo E dst (.slice a m c)) ds w) : wops P r n O Q (⟨dst, .move x, ty, pos, af, none⟩ :: l) E ds w := mv hx h
theorem av {x : Operand} {v : Value} (hx : ev E x = v) (h : wops P r n O Q l (updo E dst v) ds w) : wops P r n O Q (⟨dst, .assign x, ty, pos, af, none⟩ :: l) E ds w := w_plain rfl (st_assign hx h)
theorem aI {x : Operand} {k : IntKind} {a : Int} (hx : ev E x = .int k a) (h : wops P r n O Q l (updo E dst (.int k a)) ds w) : wops P r n O Q (⟨dst, .assign x, ty, pos, af, none⟩ :: l) E ds w := av hx h
theorem aB {x : Operand} {a : Bool} (hx : ev E x = .bool a) (h : wops P r n O Q l (updo E dst (.bool a)) ds w) : wops P r n O Q (⟨dst, .assign x, ty, pos, af, none⟩ :: l) E ds w := av hx h
theorem aS {x : Operand} {a : Bytes} (hx : ev E x = S a) (h : wops P r n O Q l (updo E dst (S a)) ds w) : wops P r n O Q (⟨dst, .assign x, ty, pos, af, none⟩ :: l) E ds w := av hx h
theorem aP {x : Operand} {a : Option Addr} (hx : ev E x = .pointer a) (h : wops P r n O Q l (updo E dst (.pointer a)) ds w) : wops P r n O Q (⟨dst, .assign x, ty, pos, af, none⟩ :: l) E ds w := av hx h
theorem aL {x : Operand} {a : Option Addr} {m c : Nat} (hx : ev E x = .slice a m c) (h : wops P r n O Q l (updo E dst (.slice a m c)) ds w) : wops P r n O Q (⟨dst, .assign x, ty, pos, af, none⟩ :: l) E ds w := av hx h
theorem pF {c x y : Operand} {a : Bool} (hc : ev E c = .bool false) (hv : (bif false then ev E x else ev E y) = .bool a) (h : wops P r n O Q l (updo E dst (.bool a)) ds w) : wops P r n O Q (⟨dst, .pick c x y, ty, pos, af, none⟩ :: l) E ds w := w_plain rfl (st_pick hc hv h)
theorem pT {c x y : Operand} {a : Bool} (hc : ev E c = .bool true) (hv : (bif true then ev E x else ev E y) = .bool a) (h : wops P r n O Q l (updo E dst (.bool a)) ds w) : wops P r n O Q (⟨dst, .pick c x y, ty, pos, af, none⟩ :: l) E ds w := w_plain rfl (st_pick hc hv h)
theorem fa {t : TypeId} {x : Operand} {f b off fo : Nat} (ht : fldB P t f fo = true) (hx : ev E x = .pointer (some ⟨b, off, none⟩)) (h : wops P r n O Q l (updo E dst (.pointer (some ⟨b, off + fo, none⟩))) ds w) : wops P r n O Q (⟨dst, .fieldAddr t x f, ty, pos, af, none⟩ :: l) E ds w := w_plain rfl (st_fieldAddr ht hx h)
theorem nc {x : Operand} {a : Addr} (hx : ev E x = .pointer (some a)) (h : wops P r n O Q l (updo E dst (.pointer (some a))) ds w) : wops P r n O Q (⟨dst, .nilCheck x, ty, pos, af, none⟩ :: l) E ds w := w_plain rfl (st_nilCheck hx h)
theorem lI {t : TypeId} {x : Operand} {b off : Nat} {k : IntKind} {a : Int} (ht : oneB P t = true) (hx : ev E x = .pointer (some ⟨b, off, none⟩)) (hc : w.cell? ⟨b, off, none⟩ = some (.int k a)) (h : wops P r n O Q l (updo E dst (.int k a)) ds w) : wops P r n O Q (⟨dst, .load t x, ty, pos, af, none⟩ :: l) E ds w := w_plain rfl (st_load1 ht hx hc h)
theorem lS {t : TypeId} {x : Operand} {b off : Nat} {a : Bytes} (ht : oneB P t = true) (hx : ev E x = .pointer (some ⟨b, off, none⟩)) (hc : w.cell? ⟨b, off, none⟩ = some (S a)) (h : wops P r n O Q l (updo E dst (S a)) ds w) : wops P r n O Q (⟨dst, .load t x, ty, pos, af, none⟩ :: l) E ds w := w_plain rfl (st_load1 ht hx hc h)
theorem lL {t : TypeId} {x : Operand} {b off : Nat} {a : Option Addr} {m c : Nat} (ht : oneB P t = true) (hx : ev E x = .pointer (some ⟨b, off, none⟩)) (hc : w.cell? ⟨b, off, none⟩ = some (.slice a m c)) (h : wops P r n O Q l (updo E dst (.slice a m c)) ds w) : wops P r n O Q (⟨dst, .load t x, ty, pos, af, none⟩ :: l) E ds w := w_plain rfl (st_load1 ht hx hc h)
end rules
theorem ChgP.cB {D : Nat → Prop} {x : Nat} {a b c : World} (h : ChgP (fun k => D k ∨ k = x) a b) (k : Chg [x] b c) : ChgP (fun k => D k ∨ k = x) a c := h.chg k (fun y hy => by obtain rfl := List.mem_singleton.1 hy; exact .inl (.inr rfl))
theorem Sl.tN {α : Type} {c : Enc α} {w w' : World} {D : Nat → Prop} {A : Option Addr} {xs : List α} {b : Nat} (h : Sl c w D A xs) (hc : Chg [b] w w') (hb : ¬ D b) : Sl c w' D A xs := h.tr hc (fun k hk hD => hb ((List.mem_singleton.1 hk) ▸ hD))
theorem Own.tN {α : Type} {c : Enc α} {e : TypeId} {w w' : World} {D : Nat → Prop} {A : Option Addr} {cap : Nat} {xs : List α} {b : Nat} (h : Own c e w D A cap xs) (hc : Chg [b] w w') (hb : ¬ D b) : Own c e w' D A cap xs := h.tr hc (fun k hk hD => hb ((List.mem_singleton.1 hk) ▸ hD))
end Go.Proofs.YtghjmiggobpmoaaGreatDoor.K
namespace Go.Proofs.YtghjmiggobpmoaaGreatDoor.K
open Go
theorem q0 {p : Prop} (h : p := by omega) : p := h
theorem q1 {p : Prop} (h : p := by intro hx; simp only [List.mem_cons, List.mem_nil_iff, or_false] at hx; omega) : p := h
theorem q2 {p : Prop} (h : p := by intro k hx; simp only [List.mem_cons, List.mem_nil_iff, or_false] at hx; omega) : p := h
theorem q3 {p : Prop} (h : p := by intro k hx hD; simp only [List.mem_cons, List.mem_nil_iff, or_false] at hx; omega) : p := h
theorem q4 {p : Prop} (h : p := by intro x hx; simp only [List.mem_singleton] at hx; subst hx; exact .inl (by simp)) : p := h
theorem q5 {p : Prop} (h : p := by simp [Value.oneCell', S]) : p := h
theorem q6 {p : Prop} (h : p := by simp only [List.forall_mem_cons, List.not_mem_nil, false_imp_iff, implies_true, and_true]; exact rfl) : p := h
theorem q7 {p : Prop} (h : p := by simp only [List.length_append, List.length_cons, List.length_nil]; omega) : p := h
theorem q8 {p : Prop} (h : p := by intro k hx; cases hx) : p := h
theorem q9 {p : Prop} (h : p := by repeat (first | exact agree_upds agree_over rfl | refine agree_upd ?_ rfl | refine agree_upds ?_ rfl | refine agree_over_sub ?_ rfl)) : p := h
theorem gB {w w' : World} {b : Nat} (e : b = w'.heap.size) (h : w.heap.size ≤ w'.heap.size) : w.heap.size ≤ b := by rw [e]; exact h
theorem nE {w : World} {b b0 : Nat} (e : b = w.heap.size) (h : b0 ≠ w.heap.size) : Hid (b0 ≠ b) := by rw [e]; exact h
theorem nF {w : World} {b b0 : Nat} (e : b = w.heap.size) (h : b0 ≠ w.heap.size) : b0 ≠ b := by rw [e]; exact h
section
variable {P : Program} {r : Option Nat} {n : Nat} {O : Array Oper} {Q : Post} {l : List Oper} {E : Env} {ds : List Deferred} {w : World} {dst : Option Nat} {ty : TypeId} {pos : String} {af : Array Edge} {g : Option (Nat × Bool)}
theorem st_st {t T : TypeId} {x y : Operand} {b off k : Nat} {v : Value} {vs cs : List Value} (ht : sizeB P t k = true) (hx : ev E x = .pointer (some ⟨b, off, none⟩)) (hy : ev E y = v) (hv : v.cells = ⟨vs⟩) (hb : Blk w b cs T)
    (h : ∀ w', Chg [b] w w' → Blk w' b (setVs cs off vs) T → wops P r n O Q l (updo E dst undef) ds w') (hk : vs.length = k := by rfl) (hl : off + vs.length ≤ cs.length := by exact Nat.le_of_ble_eq_true rfl) (h1 : ∀ u ∈ vs, u.oneCell' = true := by simp [Value.oneCell', S]) :
    wop P r n O Q ⟨dst, .store t x y, ty, pos, af, g⟩ l E ds w := st_store ht hx hy hv hb hk hl h1 rfl h
end
end Go.Proofs.YtghjmiggobpmoaaGreatDoor.K
namespace Go.Proofs.YtghjmiggobpmoaaGreatDoor.K
open Go Go.RowKit
variable {P : Program} {r : Option Nat} {n : Nat} {O : Array Oper} {Q : Post} {E : Env} {ds : List Deferred} {w : World} {l : List Oper}
def pn (v : Value) : List PanicEntry := [{ v := v, recovered := false }]
def endP (Φ Ψ : Value → World → Prop) (e : Ending) (w : World) : Prop := (∃ v, e = .returned v ∧ Φ v w) ∨ ∃ v, e = .panicked (pn v) ∧ Ψ v w
def CallP (P : Program) (f : FuncId) (args : Array Value) (w : World) (Φ Ψ : Value → World → Prop) : Prop := Calls P f args w (endP Φ Ψ)
theorem CallP.mono {f : FuncId} {args : Array Value} {Φ Ψ Φ' Ψ' : Value → World → Prop} (h : CallP P f args w Φ Ψ) (h1 : ∀ v w', Φ v w' → Φ' v w') (h2 : ∀ v w', Ψ v w' → Ψ' v w') : CallP P f args w Φ' Ψ' :=
  Calls.mono h fun e w' he => he.elim (fun ⟨v, e1, q⟩ => .inl ⟨v, e1, h1 _ _ q⟩) (fun ⟨v, e1, q⟩ => .inr ⟨v, e1, h2 _ _ q⟩)
theorem then_p {K : Env → List Deferred → World → Prop} {c : List PanicEntry} (h : Q (.panic c) E ds w) : thenP K Q (.panic c) E ds w := h
theorem block_p {i : Nat} {c : List PanicEntry} (h : Q (.panic c) E ds w) : blockP i Q (.panic c) E ds w := h
section
variable {dst : Option Nat} {ty : TypeId} {pos : String} {af : Array Edge} {g : Option (Nat × Bool)}
theorem wop_enterP {o : Oper} {f : FuncId} {args : Array Value} {w1 : World} {Φ Ψ : Value → World → Prop} (hd : ∀ c, o.op ≠ .defer c) (hrun : (execOp (ev E) o).run P w = .ok (.enter f args) w1)
    (hc : CallP P f args w1 Φ Ψ) (hp : ∀ v w', Ψ v w' → Q (.panic (pn v)) E ds w') (h : ∀ v w', Φ v w' → wops P r n O Q l (updo E o.dst v) ds w') : wop P r n O Q o l E ds w := by
  intro hok hl a h1 h2 h3;refine ⟨fun _ _ => trivial, ?_⟩
  rw [ev_env, h2, Oper.semAt_eq _ _ _ hd, hrun]
  refine ⟨fun hh => by simp [WF, Fence.wide] at hh, CallsIn.mono (callsIn_of_calls hc) ?_⟩
  rintro e w' (⟨v, rfl, hv⟩ | ⟨v, rfl, hv⟩)
  · refine h v w' hv hl _ (by rw [put_size]; exact h1) ?_ (by rw [put_defers]; exact h3)
    rw [env_puto _ _ _ (fun k hk' => by simp only [okd, hk'] at hok; rw [h1]; simpa [Nat.blt_eq] using hok), h2]
  exact ⟨h1, by rw [h2, h3]; exact hp v w' hv⟩
theorem st_callP {c : Call} {f : FuncId} {ags : List Value} {Φ Ψ : Value → World → Prop} {x : Operand} {cap : Array Value} (hcal : c.callee = .value x) (hf : ev E x = .func (.func f) #[] cap) (hent : ∀ args (w : World), (callFunc f args).run P w = .ok (.enter f args) w)
    (has : c.args.toList.map (ev E) ++ cap.toList = ags) (hc : CallP P f ⟨ags⟩ w Φ Ψ) (hp : ∀ v w', Ψ v w' → Q (.panic (pn v)) E ds w') (h : ∀ v w', Φ v w' → wops P r n O Q l (updo E dst v) ds w') : wop P r n O Q ⟨dst, .call c, ty, pos, af, g⟩ l E ds w :=
  wop_enterP (fun _ => by simp) (r_call hcal hf hent has) hc hp h
theorem r_makeIface {xt : TypeId} {x : Operand} {u : TypeDesc} {v : Value} (hu : P.underlying xt = some u) (hi : (match u with | .interface _ => false | _ => true) = true) (hx : ev E x = v) :
    (execOp (ev E) ⟨dst, .makeInterface xt x, ty, pos, af, g⟩).run P w = .ok (.value (.iface xt v)) w := by
  cases u <;> simp_all [execOp, Instr.makeInterface, underlying, go_sem]
theorem st_makeIface {xt : TypeId} {x : Operand} {u : TypeDesc} {v : Value} (hu : P.underlying xt = some u) (hi : (match u with | .interface _ => false | _ => true) = true) (hx : ev E x = v)
    (h : wops P r n O Q l (updo E dst (.iface xt v)) ds w) : wop P r n O Q ⟨dst, .makeInterface xt x, ty, pos, af, g⟩ l E ds w := wop_run (fun _ => by simp) (r_makeIface hu hi hx) h
theorem st_panic {x : Operand} {t : TypeId} {v : Value} (hx : ev E x = .iface t v) (h : Q (.panic (pn (.iface t v))) E ds w) : wop P r n O Q ⟨dst, .panic x, ty, pos, af, g⟩ l E ds w := by
  intro hok hl a h1 h2 h3;refine ⟨fun _ _ => trivial, ?_⟩
  rw [ev_env, h2, Oper.semAt_eq _ _ _ (fun _ => by simp)]
  have hrun : (execOp (ev E) ⟨dst, .panic x, ty, pos, af, g⟩).run P w = .halt (.panic (.iface t v)) w := by
    simp only [execOp, hx, Sem.run_bind, run_panic_iface, Result.andThen]
  rw [hrun]
  exact ⟨h1, by rw [h2, h3]; exact h⟩
theorem st_defer {c : Call} {f : FuncId} {ags : List Value} {x : Operand} {cap : Array Value} (hcal : c.callee = .value x) (hf : ev E x = .func (.func f) #[] cap) (has : c.args.toList.map (ev E) = ags)
    (h : wops P none n O Q l (updo E dst undef) ({ target := .fn (.func f) cap, args := ⟨ags⟩ } :: ds) w) : wop P none n O Q ⟨dst, .defer c, ty, pos, af, g⟩ l E ds w := by
  intro hok hl a h1 h2 h3;refine ⟨fun _ _ => trivial, ?_⟩
  have hrun : (execOp (ev E) ⟨dst, .defer c, ty, pos, af, g⟩).run P w = .ok (.defer { target := .fn (.func f) cap, args := ⟨ags⟩ }) w := by
    replace has : c.args.map (ev E) = ⟨ags⟩ := Array.ext' (by simpa using has)
    simp only [execOp, resolve, hcal, hf, Deferred.ofValue, has, Sem.run_bind, Sem.run_pure, Result.andThen, Array.empty_append]
  rw [ev_env, h2, show (WF none).round = none from rfl, Oper.semAt_none, hrun]
  refine h hl _ (by rw [put_size]; exact h1) ?_ (by rw [put_defers, h3])
  rw [env_puto _ _ _ (fun k hk' => by show k < a.tmps.size; rw [h1]; exact okd_lt hok hk')]
  show updo (env a) _ _ = _
  rw [h2]
theorem r_assert {x : Operand} {xt at_ t : TypeId} {v : Value} {u : TypeDesc} (hu : P.underlying at_ = some u) (hi : (match u with | .interface _ => false | _ => true) = true) (hx : ev E x = .iface t v) (ht : t = at_) :
    (execOp (ev E) ⟨dst, .typeAssert x xt at_ true, ty, pos, af, g⟩).run P w = .ok (.value (.tuple ⟨[v, .bool true]⟩)) w := by
  cases u <;> simp_all [execOp, Instr.typeAssert, underlying, go_sem]
theorem st_assert {x : Operand} {xt at_ t : TypeId} {v : Value} {u : TypeDesc} (hu : P.underlying at_ = some u) (hi : (match u with | .interface _ => false | _ => true) = true) (hx : ev E x = .iface t v) (ht : t = at_)
    (h : wops P r n O Q l (updo E dst (.tuple ⟨[v, .bool true]⟩)) ds w) : wop P r n O Q ⟨dst, .typeAssert x xt at_ true, ty, pos, af, g⟩ l E ds w := wop_run (fun _ => by simp) (r_assert hu hi hx ht) h
end
def retPP (P : Program) (fn : Func) (Φ Ψ : Value → World → Prop) : Post
  | .normal, E, ds, w => retP P fn Φ .normal E ds w
  | .ret, E, ds, w => retP P fn Φ .ret E ds w
  | .exit _, _, _, _ => False
  | .goto _, _, _, _ => False
  | .panic c, _, ds, w => ds = [] ∧ ∃ v, c = pn v ∧ Ψ v w
  | .outgrown, _, _, _ => False
theorem pp_ret {fn : Func} {Φ Ψ : Value → World → Prop} (h : retP P fn Φ .ret E ds w) : retPP P fn Φ Ψ .ret E ds w := h
theorem pp_n {fn : Func} {Φ Ψ : Value → World → Prop} (h : retP P fn Φ .normal E ds w) : retPP P fn Φ Ψ .normal E ds w := h
theorem pp_panic {fn : Func} {Φ Ψ : Value → World → Prop} {v : Value} (h : Ψ v w) : retPP P fn Φ Ψ (.panic (pn v)) E [] w := ⟨rfl, v, rfl, h⟩
theorem args_env (args : List Value) (m : Nat) : env { tmps := args.toArray ++ Array.replicate (m - args.toArray.size) undef, defers := [] } = argEnv args := by
  funext i
  simp only [env, argEnv, Array.getD_eq_getD_getElem?, List.getD_eq_getElem?_getD, List.size_toArray]
  by_cases hi : i < args.length
  · rw [Array.getElem?_append_left (by simpa using hi)]; simp
  rw [Array.getElem?_append_right (by simpa using hi)]
  rw [List.getElem?_eq_none (by omega)]
  simp only [Array.getElem?_replicate, List.size_toArray]
  split <;> rfl
theorem callP_of_wp {f : FuncId} {fn : Func} {c : Code} {args : List Value} {Φ Ψ : Value → World → Prop} (hf : P.funcs[f]? = some fn) (hb : fn.body = some c) (hn : args.length ≤ fn.ntmps)
    (h : wp P none fn.ntmps c (retPP P fn Φ Ψ) (argEnv args) [] w) : CallP P f args.toArray w Φ Ψ := by
  refine callsIn_wide.1 (callsIn_of_wp (n := 0) hf hb trivial ?_);refine wpIn_mono (h _ (by simp; omega) (args_env _ _) rfl) ?_
  rintro e a' w' ⟨q1, q2⟩
  cases e with
  | normal => obtain ⟨hd, q⟩ := q2; obtain ⟨v, hv, hΦ⟩ := q a' rfl; exact ⟨hd, v, hv, .inl ⟨v, rfl, hΦ⟩⟩
  | ret => obtain ⟨hd, q⟩ := q2; obtain ⟨v, hv, hΦ⟩ := q a' rfl; exact ⟨hd, v, hv, .inl ⟨v, rfl, hΦ⟩⟩
  | panic c => obtain ⟨hd, v, rfl, hΨ⟩ := q2; exact ⟨hd, .inr ⟨v, rfl, hΨ⟩⟩
  | exit i => exact q2.elim
  | goto i => exact q2.elim
  | outgrown => exact q2.elim
def retD (P : Program) (fn : Func) (R : Ending → World → Prop) : Post
  | .normal, E, ds, w => ∀ a : Act, env a = E → LeavesInM Fence.wide 0 P fn a.tmps R ds .returning w
  | .ret, E, ds, w => ∀ a : Act, env a = E → LeavesInM Fence.wide 0 P fn a.tmps R ds .returning w
  | .exit _, _, _, _ => False
  | .goto _, _, _, _ => False
  | .panic c, E, ds, w => ∀ a : Act, env a = E → LeavesInM Fence.wide 0 P fn a.tmps R ds (.panicking c) w
  | .outgrown, _, _, _ => False
theorem calls_of_wpD {f : FuncId} {fn : Func} {c : Code} {args : List Value} {R : Ending → World → Prop} (hf : P.funcs[f]? = some fn) (hb : fn.body = some c) (hn : args.length ≤ fn.ntmps)
    (h : wp P none fn.ntmps c (retD P fn R) (argEnv args) [] w) : Calls P f args.toArray w R := by
  refine callsIn_wide.1 (callsIn_of_wp_marks (n := 0) hf hb trivial ?_);refine wpIn_mono (h _ (by simp; omega) (args_env _ _) rfl) ?_
  rintro e a' w' ⟨q1, q2⟩
  cases e with
  | normal => exact q2 a' rfl
  | ret => exact q2 a' rfl
  | panic c => exact q2 a' rfl
  | exit i => exact q2.elim
  | goto i => exact q2.elim
  | outgrown => exact q2.elim
theorem callR_of_wpD {f : FuncId} {fn : Func} {c : Code} {args : List Value} {Φ : Value → World → Prop} (hf : P.funcs[f]? = some fn) (hb : fn.body = some c) (hn : args.length ≤ fn.ntmps)
    (h : wp P none fn.ntmps c (retD P fn fun e w' => ∃ v, e = .returned v ∧ Φ v w') (argEnv args) [] w) : CallR P f args.toArray w Φ := calls_of_wpD hf hb hn h
theorem d_ret0 {fn : Func} {Φ : Value → World → Prop} (h : retP P fn Φ .ret E [] w) : retD P fn (fun e w' => ∃ v, e = .returned v ∧ Φ v w') .ret E [] w := fun a ha =>
  let ⟨v, h1, h2⟩ := h.2 a ha; ⟨v, h1, v, rfl, h2⟩
def LeftR (P : Program) (fn : Func) (Φ : Value → World → Prop) (E : Env) (e : Ending) (u : FrameMode) (w : World) : Prop := (∃ v, e = .returned v) ∧ settle u = .returning ∧ retP P fn Φ .ret E [] w
theorem d_leave {fn : Func} {Φ : Value → World → Prop} {f : FuncId} {cap args : Array Value} {u : FrameMode} {a : Act} (hu : u ≠ .run) (ha : env a = E) (hent : ∀ args (w : World), (callFunc f args).run P w = .ok (.enter f args) w)
    (hc : CallsDIn Fence.wide 0 P f (args ++ cap) u w (LeftR P fn Φ E)) : LeavesInM Fence.wide 0 P fn a.tmps (fun e w' => ∃ v, e = .returned v ∧ Φ v w') [{ target := .fn (.func f) cap, args := args }] u w := by
  refine ⟨hu, .inr ⟨fun hh => by simp [Fence.wide] at hh, .func f, cap, f, args ++ cap, rfl, by simp [invoke, hent], fun _ _ => trivial, ?_⟩⟩
  refine CallsDIn.mono hc ?_;rintro e u' w' ⟨⟨v, rfl⟩, h2, h3⟩
  show LeavesIn Fence.wide 0 P fn a.tmps _ [] (settle u') w'
  rw [h2]
  obtain ⟨v, h4, h5⟩ := h3.2 a ha;exact ⟨v, h4, v, rfl, h5⟩
theorem d_ret {fn : Func} {Φ : Value → World → Prop} {f : FuncId} {cap args xs : Array Value} (hent : ∀ args (w : World), (callFunc f args).run P w = .ok (.enter f args) w) (hx : args ++ cap = xs)
    (hc : CallsDIn Fence.wide 0 P f xs .returning w (LeftR P fn Φ E)) : retD P fn (fun e w' => ∃ v, e = .returned v ∧ Φ v w') .ret E [{ target := .fn (.func f) cap, args := args }] w := fun a ha => d_leave (by simp) ha hent (by rw [hx]; exact hc)
theorem d_panic {fn : Func} {Φ : Value → World → Prop} {f : FuncId} {cap args xs : Array Value} {c : List PanicEntry} (hent : ∀ args (w : World), (callFunc f args).run P w = .ok (.enter f args) w) (hx : args ++ cap = xs)
    (hc : CallsDIn Fence.wide 0 P f xs (.panicking c) w (LeftR P fn Φ E)) : retD P fn (fun e w' => ∃ v, e = .returned v ∧ Φ v w') (.panic c) E [{ target := .fn (.func f) cap, args := args }] w := fun a ha => d_leave (by simp) ha hent (by rw [hx]; exact hc)
section
variable {dst : Option Nat} {ty : TypeId} {pos : String} {af : Array Edge} {g : Option (Nat × Bool)}
theorem r_ineq {t t' : TypeId} {x : Operand} {vt : TypeId} {v : Value} (hB : P.underlying t = some (.interface (P.methodsAt t))) (hx : ev E x = .iface vt v) :
    (execOp (ev E) ⟨dst, .binOp .neq t x (.const .nilIface) t', ty, pos, af, g⟩).run P w = .ok (.value (.bool true)) w := by
  have := run_equal_held_nil (P := P) (w := w) t vt v hB;have hc : ev E (.const .nilIface) = .nilIface := rfl;simp [execOp, hx, hc, go_sem, eqGuard, binOp, this, Result.andThen]
theorem st_ineq {t t' : TypeId} {x : Operand} {vt : TypeId} {v : Value} (hB : P.underlying t = some (.interface (P.methodsAt t))) (hx : ev E x = .iface vt v) (h : wops P r n O Q l (updo E dst (.bool true)) ds w) : wop P r n O Q ⟨dst, .binOp .neq t x (.const .nilIface) t', ty, pos, af, g⟩ l E ds w :=
  wop_run (fun _ => by simp) (r_ineq hB hx) h
theorem r_ineq0 {t t' : TypeId} {x : Operand} (hB : P.underlying t = some (.interface (P.methodsAt t))) (hx : ev E x = .nilIface) :
    (execOp (ev E) ⟨dst, .binOp .neq t x (.const .nilIface) t', ty, pos, af, g⟩).run P w = .ok (.value (.bool false)) w := by
  have := run_equal_nil_nil (P := P) (w := w) t hB;have hc : ev E (.const .nilIface) = .nilIface := rfl;simp [execOp, hx, hc, go_sem, eqGuard, binOp, this, Result.andThen]
theorem st_ineq0 {t t' : TypeId} {x : Operand} (hB : P.underlying t = some (.interface (P.methodsAt t))) (hx : ev E x = .nilIface) (h : wops P r n O Q l (updo E dst (.bool false)) ds w) : wop P r n O Q ⟨dst, .binOp .neq t x (.const .nilIface) t', ty, pos, af, g⟩ l E ds w :=
  wop_run (fun _ => by simp) (r_ineq0 hB hx) h
end
def Recov (u : FrameMode) (rv : Value) (u' : FrameMode) : Prop := (u = .returning ∧ rv = .nilIface ∧ u' = .returning) ∨ ∃ v, u = .panicking (pn v) ∧ rv = v ∧ u' = .panicking [{ v := v, recovered := true }]
theorem callsD_recover {f : FuncId} {fn : Func} {id d d2 : Nat} {o0 o1 : Oper} {cts : Array TypeId} {c2 : Code} {args : List Value} {u u' : FrameMode} {rv : Value} {Φ : Value → World → Prop} (hf : P.funcs[f]? = some fn) (hb : fn.body = some (.seq (.region id #[o0, o1] false) c2))
    (h0 : o0.op = .call { callee := .builtin .recover, args := #[], argTypes := cts } ∧ o0.guard = none ∧ o0.dst = some d) (h1 : o1.op = .assign (.tmp d) ∧ o1.guard = none ∧ o1.dst = some d2) (hd : Nat.blt d fn.ntmps = true ∧ Nat.blt d2 fn.ntmps = true) (hn : args.length ≤ fn.ntmps)
    (hu : Recov u rv u') (h : wp P none fn.ntmps c2 (retP P fn Φ) (upd (upd (argEnv args) d rv) d2 rv) [] w) :
    CallsDIn Fence.wide 0 P f args.toArray u w fun e u2 w' => (∃ v, e = .returned v ∧ Φ v w') ∧ u2 = u' := by
  refine callsDIn_of_wpSIn hf hb trivial fun c₀ cs hc => ?_
  apply wpSIn_seq
  apply wpSIn_region
  have hs : (#[o0, o1] : Array Oper).size = 2 := rfl;rw [hs, show List.range 2 = [0, 1] from rfl];have hd1 : d < fn.ntmps := by simpa [Nat.blt_eq] using hd.1
  have hd2 : d2 < fn.ntmps := by simpa [Nat.blt_eq] using hd.2
  generalize hA : ({ tmps := args.toArray ++ Array.replicate (fn.ntmps - args.toArray.size) undef, defers := [] } : Act) = a
  have ha1 : a.tmps.size = fn.ntmps := by subst hA; simp; omega
  have ha2 : env a = argEnv args := by subst hA; exact args_env _ _
  have ha3 : a.defers = [] := by subst hA; rfl
  have e0 : ∀ a : Act, (execOp a.eval o0).run P w = .ok .recover w := fun a => by simp [execOp, h0.1, resolve, invoke, builtin, go_sem, Result.andThen]
  have w0 : ∀ a : Act, Region.wanted o0 (yielded #[o0, o1] a.tmps) = true := fun a => by simp [Region.wanted, h0.2.1]
  have w1 : ∀ a : Act, Region.wanted o1 (yielded #[o0, o1] a.tmps) = true := fun a => by simp [Region.wanted, h1.2.1]
  have key : ∀ cs' : List Frame, (∃ c₁ : Frame, cs' = { c₀ with mode := u' } :: cs) → wpOpsSIn Fence.wide 0 P #[o0, o1] (Exit.thenS (c2.wpSIn Fence.wide 0 P (bodyPostS P fn c₀ cs fun e u2 w' => (∃ v, e = .returned v ∧ Φ v w') ∧ u2 = u')) (bodyPostS P fn c₀ cs fun e u2 w' => (∃ v, e = .returned v ∧ Φ v w') ∧ u2 = u')) [1] (a.put o0.dst rv) cs' w := by
    rintro cs' ⟨_, rfl⟩
    have e1 : (execOp (a.put o0.dst rv).eval o1).run P w = .ok (.value rv) w := by
      have : (a.put o0.dst rv).eval (.tmp d) = rv := by
        rw [ev_env, h0.2.2, env_put _ _ _ (by rw [ha1]; exact hd1)]; exact upd_same _ _ _
      have hx : execOp (a.put o0.dst rv).eval o1 = pure (.value ((a.put o0.dst rv).eval (.tmp d))) := by simp only [execOp, h1.1]
      rw [hx, this]; rfl
    simp only [wpOpsSIn, show (#[o0, o1] : Array Oper)[1]? = some o1 from rfl, w1, if_true, e1]
    refine ⟨fun _ _ => trivial, ?_⟩
    show c2.wpSIn Fence.wide 0 P _ _ _ _
    refine wpSIn_of_wpIn rfl (wpIn_mono (h _ (by rw [put_size, put_size]; exact ha1) ?_ (by rw [put_defers, put_defers]; exact ha3)) ?_)
    · rw [h1.2.2, env_put _ _ _ (by rw [put_size, ha1]; exact hd2), h0.2.2, env_put _ _ _ (by rw [ha1]; exact hd1), ha2]
    rintro e a' w' ⟨q1, q2⟩
    cases e with
    | normal => obtain ⟨hd, q⟩ := q2; obtain ⟨v, hv, hΦ⟩ := q a' rfl; exact ⟨hd, u', rfl, v, hv, ⟨v, rfl, hΦ⟩, rfl⟩
    | ret => obtain ⟨hd, q⟩ := q2; obtain ⟨v, hv, hΦ⟩ := q a' rfl; exact ⟨hd, u', rfl, v, hv, ⟨v, rfl, hΦ⟩, rfl⟩
    | panic c => exact q2.elim
    | exit i => exact q2.elim
    | goto i => exact q2.elim
    | outgrown => exact q2.elim
  rw [wpOpsSIn]
  simp only [show (#[o0, o1] : Array Oper)[0]? = some o0 from rfl, w0, if_true, e0]
  refine ⟨fun _ _ => trivial, ?_⟩
  rcases hu with ⟨rfl, rfl, rfl⟩ | ⟨v, rfl, rfl, rfl⟩
  · have : recoverD (c₀ :: cs) = none := by simp [recoverD, hc]
    simp only [this]
    exact key _ ⟨c₀, by cases c₀; simp_all⟩
  have : recoverD (c₀ :: cs) = some (rv, { c₀ with mode := .panicking [{ v := rv, recovered := true }] } :: cs) := by simp [recoverD, hc, pn]
  simp only [this]
  exact key _ ⟨c₀, rfl⟩
end Go.Proofs.YtghjmiggobpmoaaGreatDoor.K
set_option maxRecDepth 20000
namespace Go.Proofs.YtghjmiggobpmoaaGreatDoor.K
open Go Go.RowKit
def runL (m : UInt8) (esc : Bool) : Bytes → Option Nat
  | [] => none
  | [c] => if c = m then some 1 else none
  | c :: d :: t => if c = m then some 1 else if esc && decide (c = 92) then (runL m esc t).map (· + 2) else (runL m esc (d :: t)).map (· + 1)
theorem runL_le {m : UInt8} {esc : Bool} : ∀ (s : Bytes) (k : Nat), runL m esc s = some k → 1 ≤ k ∧ k ≤ s.length
  | [], k, h => by simp [runL] at h
  | [c], k, h => by
    simp only [runL] at h; split at h
    · cases h; simp
    cases h
  | c :: d :: t, k, h => by
    simp only [runL] at h; split at h
    · cases h; simp
    split at h
    · cases h1 : runL m esc t with
      | none => rw [h1] at h; cases h
      | some j => rw [h1] at h; cases h; have := runL_le t j h1; simp only [List.length_cons]; omega
    cases h1 : runL m esc (d :: t) with
    | none => rw [h1] at h; cases h
    | some j => rw [h1] at h; cases h; have := runL_le (d :: t) j h1; simp only [List.length_cons] at this ⊢; omega
def untilN {σ : Type} (sk : Bytes → Except Nat Nat) (beg : UInt8 → Bool) (fin : σ → UInt8 → Bool × σ) : Nat → σ → Bytes → Except Nat Nat
  | 0, _, _ => .error 101
  | _ + 1, _, [] => .error 101
  | n + 1, st, c :: t =>
    if (fin st c).1 then .ok 1
    else if beg c then
      match sk (c :: t) with
      | .error e => .error e
      | .ok k => (untilN sk beg fin n (fin st c).2 ((c :: t).drop k)).map (· + k)
    else (untilN sk beg fin n (fin st c).2 t).map (· + 1)
def begQ (c : UInt8) : Bool := c == 92 || c == 36 || c == 96
def finM (m : UInt8) (_ : Unit) (c : UInt8) : Bool × Unit := (c == m, ())
def opnC (o : Int) (c : UInt8) : Int := if c = 40 then o + 1 else if c = 41 then o - 1 else o
def finC (o : Int) (c : UInt8) : Bool × Int := (decide (opnC o c < 0), opnC o c)
def orSyn : Option Nat → Except Nat Nat
  | some k => .ok k
  | none => .error 101
def skipL : Nat → Bytes → Except Nat Nat
  | 0, _ => .error 104
  | _ + 1, [] => .ok 1
  | f + 1, c :: t =>
    if c = 92 then .ok (min 2 (t.length + 1))
    else if c = 39 then (orSyn (runL 39 false t)).map (· + 1)
    else if c = 96 then (orSyn (runL 96 true t)).map (· + 1)
    else if c = 34 then (untilN (skipL f) begQ (finM 34) t.length () t).map (· + 1)
    else if c = 36 then
      match t with
      | [] => .ok 1
      | d :: u => if d = 40 then (untilN (skipL f) (fun _ => true) finC u.length 0 u).map (· + 2)
        else if d = 123 then (untilN (skipL f) (fun _ => true) (finM 125) u.length () u).map (· + 2)
        else .ok 1
    else .ok 1
theorem map_ok {e : Except Nat Nat} {j k : Nat} (h : e.map (· + j) = .ok k) : ∃ i, e = .ok i ∧ k = i + j := by
  cases e with
  | error x => cases h
  | ok i => cases h; exact ⟨i, rfl, rfl⟩
theorem untilN_le {σ : Type} {sk : Bytes → Except Nat Nat} {beg : UInt8 → Bool} {fin : σ → UInt8 → Bool × σ} (hsk : ∀ s k, s ≠ [] → sk s = .ok k → 1 ≤ k ∧ k ≤ s.length) : ∀ (n : Nat) (st : σ) (s : Bytes) (k : Nat), untilN sk beg fin n st s = .ok k → 1 ≤ k ∧ k ≤ s.length
  | 0, _, _, k, h => by cases h
  | _ + 1, _, [], k, h => by cases h
  | n + 1, st, c :: t, k, h => by
    simp only [untilN] at h
    split at h
    · cases h; simp
    split at h
    · split at h
      · cases h
      rename_i j hj
      obtain ⟨i, h1, rfl⟩ := map_ok h;have h2 := hsk _ _ (by simp) hj
      have h3 := untilN_le hsk n _ _ _ h1;simp only [List.length_drop] at h3
      omega
    obtain ⟨i, h1, rfl⟩ := map_ok h;have h3 := untilN_le hsk n _ _ _ h1;simp only [List.length_cons]; omega
theorem skipL_le : ∀ (f : Nat) (s : Bytes) (k : Nat), s ≠ [] → skipL f s = .ok k → 1 ≤ k ∧ k ≤ s.length
  | 0, s, k, _, h => by cases h
  | _ + 1, [], _, hs, _ => absurd rfl hs
  | f + 1, c :: t, k, _, h => by
    have run : ∀ {m : UInt8} {esc : Bool} {u : Bytes} {i : Nat}, orSyn (runL m esc u) = .ok i → 1 ≤ i ∧ i ≤ u.length := fun {m esc u i} h => by
      cases h1 : runL m esc u with
      | none => rw [h1] at h; cases h
      | some j => rw [h1] at h; cases h; exact runL_le _ _ h1
    simp only [skipL] at h
    split at h
    · cases h; simp only [List.length_cons]; omega
    split at h
    · obtain ⟨i, h1, rfl⟩ := map_ok h; have := run h1; simp only [List.length_cons]; omega
    split at h
    · obtain ⟨i, h1, rfl⟩ := map_ok h; have := run h1; simp only [List.length_cons]; omega
    split at h
    · obtain ⟨i, h1, rfl⟩ := map_ok h; have := untilN_le (skipL_le f) _ _ _ _ h1; simp only [List.length_cons]; omega
    split at h
    · split at h
      · cases h; simp
      split at h
      · obtain ⟨i, h1, rfl⟩ := map_ok h; have := untilN_le (skipL_le f) _ _ _ _ h1; simp only [List.length_cons]; omega
      split at h
      · obtain ⟨i, h1, rfl⟩ := map_ok h; have := untilN_le (skipL_le f) _ _ _ _ h1; simp only [List.length_cons]; omega
      cases h; simp
    cases h; simp
def skipV (s : Bytes) (i : Int) : Int × Int :=
  if i < 0 ∨ (s.length : Int) ≤ i then (i, 101) else
  match skipL 64 (s.drop i.toNat) with
  | .ok k => (i + k, 0)
  | .error e => (i, e)
theorem run_at {m : UInt8} {esc : Bool} {s : Bytes} {i : Nat} (hi : i < s.length) (h : byte s i = m) : runL m esc (s.drop i) = some 1 := by
  rw [List.drop_eq_getElem_cons hi]
  have hb : s[i] = m := by rw [← h]; simp [byte, List.getD_eq_getElem?_getD, hi]
  cases h1 : s.drop (i + 1) <;> simp [runL, hb]
theorem run_esc {m : UInt8} {s : Bytes} {i : Nat} (hi : i < s.length) (h : byte s i ≠ m) (h2 : byte s i = 92) : runL m true (s.drop i) = (runL m true (s.drop (i + 2))).map (· + 2) := by
  have hb : s[i] = byte s i := by simp [byte, List.getD_eq_getElem?_getD, hi]
  rw [List.drop_eq_getElem_cons hi, hb, h2, show s.drop (i + 2) = (s.drop (i + 1)).drop 1 by rw [List.drop_drop]]
  rw [h2] at h
  cases h1 : s.drop (i + 1) <;> simp [runL, h]
theorem run_on {m : UInt8} {esc : Bool} {s : Bytes} {i : Nat} (hi : i < s.length) (h : byte s i ≠ m) (h2 : esc = true → byte s i ≠ 92) : runL m esc (s.drop i) = (runL m esc (s.drop (i + 1))).map (· + 1) := by
  have hb : s[i] = byte s i := by simp [byte, List.getD_eq_getElem?_getD, hi]
  rw [List.drop_eq_getElem_cons hi, hb]
  cases h1 : s.drop (i + 1) with
  | nil => simp [runL, h]
  | cons d u =>
    simp only [runL, if_neg h]
    rw [if_neg (by intro h3; simp only [Bool.and_eq_true, decide_eq_true_eq] at h3; exact h2 h3.1 h3.2)]
theorem run_end {m : UInt8} {esc : Bool} {s : Bytes} {i : Nat} (hi : s.length ≤ i) : runL m esc (s.drop i) = none := by rw [List.drop_eq_nil_of_le hi]; rfl
theorem dropB {s : Bytes} {i : Nat} (hi : i < s.length) : s.drop i = byte s i :: s.drop (i + 1) := by
  rw [List.drop_eq_getElem_cons hi]; simp [byte, List.getD_eq_getElem?_getD, hi]
end Go.Proofs.YtghjmiggobpmoaaGreatDoor.K
