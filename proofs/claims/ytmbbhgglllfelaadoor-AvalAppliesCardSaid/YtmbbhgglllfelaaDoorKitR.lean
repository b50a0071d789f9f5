/- From what a statement reads of an argument to what the walks know of it: readings, taken apart by type. -/
import Derived.Test.YtmbbhgglllfelaaDoorKitI
import Derived.Deep.Slices
import Derived.ChangeMaps5
import Derived.SizedLaws
import Derived.WideShapes
import Derived.Carry
set_option linter.unusedVariables false
set_option linter.unusedSimpArgs false
set_option autoImplicit false
namespace Go.Proofs.YtmbbhgglllfelaaDoor.K
open Go Go.RowKit Go.ChangeShapes Go.WideShapes
variable {H : Type} {enc : TypeId × Value → H} {P : Program}
def allLe (l : List Nat) : Prop := ∀ n, n ∈ l → n ≤ reachBytes
/-- Whatever reads at type t holds an 'a' of the encoding, of which 'ok' is true. -/
def Fits (enc : TypeId × Value → H) (P : Program) {α : Type} (c : Enc α) (t : TypeId) (ok : α → Prop) : Prop :=
  ∀ (w : World) (fuel : Nat) (cs : List Value) (d : DataW H) (ps : List MemPlace), DataW.trod enc P w 0 (fun _ => true) true fuel t cs = some (d, ps) → allLe (d.weights P t) → ∃ a, c.R w (fun k => k < w.heap.size) a cs ∧ ok a
theorem fits_string {t : TypeId} (ht : P.underlying t = some .string) : Fits enc P sE t (fun s => s.length ≤ 140737488351232) := by
  intro w fuel cs d ps h hw
  obtain ⟨s, h1, h2, h3⟩ := DataW.trod_string ht h
  simp only [Prod.mk.injEq] at h2
  obtain ⟨rfl, rfl⟩ := h2
  refine ⟨s.data.toList, ?_, ?_⟩
  · rw [h1]; exact congrArg (fun v => [v]) (S_eta s)
  · have := hw s.data.toList.length (by simp [DataW.weights])
    simpa [reachBytes] using this
theorem fits_int {t : TypeId} {k : IntKind} (ht : P.underlying t = some (.int k)) : Fits enc P (iE k) t (fun n => (Lit.int k n).wf = true) := by
  intro w fuel cs d ps h hw
  obtain ⟨n, h1, h2, h3⟩ := DataW.trod_int ht h
  exact ⟨n, by rw [h1]; rfl, h3⟩
theorem fits_bool {t : TypeId} (ht : P.underlying t = some .bool) : Fits enc P bE t (fun _ => True) := by
  intro w fuel cs d ps h hw
  obtain ⟨b, h1, h2⟩ := DataW.trod_bool ht h
  exact ⟨b, by rw [h1]; rfl, trivial⟩
theorem Fits.imp {α β : Type} {c : Enc α} {c' : Enc β} {t : TypeId} {ok : α → Prop} {ok' : β → Prop} (h : Fits enc P c t ok) (hi : ∀ w D a vs, c.R w D a vs → ok a → ∃ b, c'.R w D b vs ∧ ok' b) : Fits enc P c' t ok' := by
  intro w fuel cs d ps h1 h2
  obtain ⟨a, h3, h4⟩ := h w fuel cs d ps h1 h2
  exact hi _ _ _ _ h3 h4
theorem lt_of_cell {w : World} {a : Addr} {v : Value} (h : w.cell? a = some v) : a.block < w.heap.size ∧ a.spot = none := by
  unfold World.cell? at h
  split at h
  · rename_i hh
    refine ⟨(Array.getElem?_eq_some_iff.1 hh).1, ?_⟩
    split at h
    · cases h
    · rename_i hs; cases hz : a.spot with
      | none => rfl
      | some _ => simp [hz] at hs
  · cases h
theorem weightsAll_mem {e : TypeId} : ∀ {l : List (DataW H)} {d : DataW H}, d ∈ l → ∀ n, n ∈ d.weights P e → n ∈ DataW.weightsAll P e l
  | x :: l, d, h, n, hn => by
    simp only [DataW.weightsAll, List.mem_append]
    rcases List.mem_cons.1 h with rfl | h
    · exact .inl hn
    · exact .inr (weightsAll_mem h n hn)
theorem fits_slice {α : Type} {c : Enc α} {t e : TypeId} {ok : α → Prop} {bytes : Nat} (ht : P.underlying t = some (.slice e)) (hc : P.cellsOf e = c.sz) (hb : P.bytesOf e = bytes) (hE : Fits enc P c e ok) :
    Fits enc P c.slice t (fun xs => (∀ x, x ∈ xs → ok x) ∧ xs.length * bytes ≤ 140737488351232) := by
  intro w fuel cs d ps h hw
  rcases Deep.open_slice ht h with ⟨rfl, hx⟩ | ⟨a, len, cap, m, n, D, Pl, rfl, hb0, hl, hm, hmm, hx, hall⟩
  · exact ⟨[], ⟨none, 0, rfl, Nat.le_refl _, by simp, .inl rfl⟩, by simp, by simp⟩
  · simp only [if_true] at hmm
    subst hmm
    simp only [Prod.mk.injEq] at hx
    obtain ⟨rfl, rfl⟩ := hx
    rw [hc] at hall
    have hwt : ∀ i, i < len → allLe ((D i).weights P e) := fun i hi n hn => hw n (by
      simp only [DataW.weights, ht, List.mem_cons, List.mem_append]
      exact .inr (.inl (weightsAll_mem (List.mem_map.2 ⟨i, List.mem_range.2 hi, rfl⟩) n hn)))
    have key : ∀ i, i < len → ∃ x : α, ∃ vs, c.R w (fun k => k < w.heap.size) x vs ∧ w.cells? 0 (a.add (i * c.sz)) c.sz = some vs ∧ ok x := fun i hi => by
      obtain ⟨cs', h1, h2⟩ := hall i (by omega)
      obtain ⟨x, h3, h4⟩ := hE w n cs' _ _ h2 (hwt i hi)
      exact ⟨x, cs', h3, h1, h4⟩
    have hlist : ∀ m, m ≤ len → ∃ xs : List α, xs.length = m ∧ ∀ i x, xs[i]? = some x → ∃ vs, c.R w (fun k => k < w.heap.size) x vs ∧ w.cells? 0 (a.add (i * c.sz)) c.sz = some vs ∧ ok x := by
      intro m
      induction m with
      | zero => exact fun _ => ⟨[], rfl, fun i x hx => by simp at hx⟩
      | succ m ih =>
        intro hm
        obtain ⟨xs, h1, h2⟩ := ih (by omega)
        obtain ⟨x, vs, h3, h4, h5⟩ := key m (by omega)
        refine ⟨xs ++ [x], by simp [h1], fun i y hy => ?_⟩
        by_cases hi : i < xs.length
        · rw [List.getElem?_append_left hi] at hy; exact h2 i y hy
        · have hlt := (List.getElem?_eq_some_iff.1 hy).1
          simp at hlt
          have hi' : i = xs.length := by omega
          subst hi'
          simp at hy; subst hy
          rw [h1]; exact ⟨vs, h3, h4, h5⟩
    obtain ⟨xs, h1, h2⟩ := hlist len (Nat.le_refl _)
    refine ⟨xs, ⟨some a, m, by rw [h1], by rw [h1]; exact hl, by simpa [maxLen] using hm, ?_⟩, fun x hx => ?_, ?_⟩
    · by_cases h0 : xs = []
      · exact .inl h0
      · have hpos : 0 < xs.length := List.length_pos_iff.2 h0
        obtain ⟨vs, q1, q2, q3⟩ := h2 0 xs[0] (by simp [hpos])
        obtain ⟨_, hlen, hcell⟩ := World.cells?_some q2
        have hp := c.pos
        have q4 := c.len q1
        have hc0 : w.cell? ((a.add (0 * c.sz)).add 0) = some (vs[0]'(by omega)) := by rw [hcell 0 hp]; simp
        obtain ⟨hlt, hspot⟩ := lt_of_cell hc0
        have e0 : (a.add (0 * c.sz)).add 0 = a := by simp [Addr.add]
        rw [e0] at hlt hspot
        obtain ⟨ab, ao, asp⟩ := a
        simp only at hlt hspot
        subst hspot
        refine .inr ⟨ab, ao, rfl, hlt, hlt, fun i x hx => ?_⟩
        obtain ⟨vs, r1, r2, r3⟩ := h2 i x hx
        obtain ⟨_, _, hcl⟩ := World.cells?_some r2
        refine ⟨vs, r1, fun j v hj => ?_⟩
        have hjl := (List.getElem?_eq_some_iff.1 hj).1
        rw [c.len r1] at hjl
        have := hcl j hjl
        rw [Addr.add_lit, Addr.add_lit, hj] at this
        exact this
    · obtain ⟨i, hi, rfl⟩ := List.mem_iff_getElem.1 hx
      obtain ⟨vs, r1, r2, r3⟩ := h2 i xs[i] (by simp [hi])
      exact r3
    · have := hw _ (by simp only [DataW.weights, ht]; exact List.mem_cons_self)
      simp only [List.length_map, List.length_range, hb, reachBytes] at this
      rw [h1]
      refine Nat.le_trans (Nat.mul_le_mul_right _ ?_) this
      omega
/-- One value behind another. -/
def Enc.seq {α β : Type} (c1 : Enc α) (c2 : Enc β) : Enc (α × β) where
  sz := c1.sz + c2.sz
  pos := by have := c1.pos; omega
  R := fun w D x vs => ∃ v1 v2, vs = v1 ++ v2 ∧ c1.R w D x.1 v1 ∧ c2.R w D x.2 v2
  len := fun ⟨v1, v2, h1, h2, h3⟩ => by rw [h1, List.length_append, c1.len h2, c2.len h3]
  one := fun ⟨v1, v2, h1, h2, h3⟩ u hu => by
    rw [h1] at hu
    rcases List.mem_append.1 hu with h | h
    · exact c1.one h2 u h
    · exact c2.one h3 u h
  tr := fun ⟨v1, v2, h1, h2, h3⟩ he hs => ⟨v1, v2, h1, c1.tr h2 he hs, c2.tr h3 he hs⟩
  mono := fun ⟨v1, v2, h1, h2, h3⟩ hm => ⟨v1, v2, h1, c1.mono h2 hm, c2.mono h3 hm⟩
/-- Fields, from a place on. -/
def FitsF (enc : TypeId × Value → H) (P : Program) {α : Type} (c : Enc α) (fs : List Field) (off : Nat) (ok : α → Prop) : Prop :=
  ∀ (w : World) (fuel : Nat) (cs : List Value) (xs : List (DataW H × List MemPlace)), xs.length = fs.length → (∀ (i : Nat) (f : Field), fs[i]? = some f → DataW.trod enc P w 0 (fun _ => true) true fuel f.type ((cs.drop f.offset).take (P.cellsOf f.type)) = xs[i]?) →
    allLe (DataW.weightsEach P (fs.map (·.type)) (xs.map (·.1))) → ∃ a, c.R w (fun k => k < w.heap.size) a ((cs.drop off).take c.sz) ∧ ok a
theorem fits_last {α : Type} {c : Enc α} {f : Field} {off : Nat} {ok : α → Prop} (ho : f.offset = off) (hc : P.cellsOf f.type = c.sz) (h : Fits enc P c f.type ok) : FitsF enc P c [f] off ok := by
  intro w fuel cs xs hl hx hw
  subst ho
  match xs, hl with
  | [x], _ =>
    have h1 := hx 0 f rfl
    simp only [List.getElem?_cons_zero] at h1
    obtain ⟨a, h2, h3⟩ := h w fuel _ x.1 x.2 h1 (fun n hn => hw n (by simp [DataW.weightsEach, hn]))
    rw [hc] at h2; exact ⟨a, h2, h3⟩
theorem fits_cons {α β : Type} {c1 : Enc α} {c2 : Enc β} {f : Field} {fs : List Field} {off : Nat} {ok1 : α → Prop} {ok2 : β → Prop} (ho : f.offset = off) (hc : P.cellsOf f.type = c1.sz) (h : Fits enc P c1 f.type ok1) (hF : FitsF enc P c2 fs (off + c1.sz) ok2) :
    FitsF enc P (c1.seq c2) (f :: fs) off (fun x => ok1 x.1 ∧ ok2 x.2) := by
  intro w fuel cs xs hl hx hw
  subst ho
  match xs, hl with
  | x :: ys, hl =>
    have h1 := hx 0 f rfl
    simp only [List.getElem?_cons_zero] at h1
    obtain ⟨a, h3, h4⟩ := h w fuel _ x.1 x.2 h1 (fun n hn => hw n (by simp [DataW.weightsEach, hn]))
    obtain ⟨b, h5, h6⟩ := hF w fuel cs ys (by simpa using hl) (fun i g hg => by have := hx (i + 1) g (by simpa using hg); simpa using this) (fun n hn => hw n (by simp [DataW.weightsEach, hn]))
    rw [hc] at h3
    refine ⟨(a, b), ⟨_, _, ?_, h3, h5⟩, h4, h6⟩
    show List.take (c1.sz + c2.sz) _ = _
    rw [List.take_add, List.drop_drop]
theorem fits_struct {α : Type} {c : Enc α} {t : TypeId} {fs : List Field} {ok : α → Prop} (ht : P.underlying t = some (.struct fs.toArray)) (hc : P.cellsOf t = c.sz) (hF : FitsF enc P c fs 0 ok) : Fits enc P c t ok := by
  intro w fuel cs d ps h hw
  obtain ⟨xs, n, rfl, hx, hl, hl2, hall⟩ := DataW.trod_struct ht h
  simp only [Prod.mk.injEq] at hx
  obtain ⟨rfl, rfl⟩ := hx
  obtain ⟨a, h1, h2⟩ := hF w n cs xs (by simpa using hl2) (fun i f hf => hall i f (by simpa using hf)) (fun n hn => hw n (by simpa [DataW.weights, ht] using hn))
  rw [List.drop_zero, List.take_of_length_le (by omega)] at h1
  exact ⟨a, h1, h2⟩
theorem u8_of {n : Int} (h : (Lit.int .u8 n).wf = true) : ((UInt8.ofNat n.toNat).toNat : Int) = n := by
  have h1 : 0 ≤ n ∧ n < 256 := by
    simp [Lit.wf] at h
    have h2 : IntKind.u8.min = 0 := rfl
    have h3 : IntKind.u8.max = 255 := rfl
    omega
  rw [UInt8.toNat_ofNat_of_lt' (by show n.toNat < 256; omega)]; omega
/-- An argument, taken apart. -/
theorem fits_arg {α : Type} {c : Enc α} {t : TypeId} {ok : α → Prop} (hf : Fits enc P c t ok) {W : World} {v : Value} {d : DataW H} {ps : List MemPlace} (h : DataW.Trod enc P W 0 (fun _ => true) true t v d ps) {ts : List TypeId} {ds : List (DataW H)} {j : Nat}
    (hsz : (DataW.weightsEach P ts ds).all (· ≤ reachBytes) = true) (ht : ts[j]? = some t) (hd : ds[j]? = some d) : ∃ a, c.R W (fun k => k < W.heap.size) a v.cells.toList ∧ ok a := by
  obtain ⟨fuel, hfu⟩ := h
  exact hf W fuel _ d ps hfu (fun n hn => by simpa using List.all_eq_true.1 hsz n (DataW.weights_mem_each ht hd n hn))
theorem lt_of_trod {W : World} {t : TypeId} {v : Value} {d : DataW H} {ps : List MemPlace} (h : DataW.Trod enc P W 0 (fun _ => true) true t v d ps) : ∀ x ∈ ps, x.block < W.heap.size := by
  obtain ⟨m, hm⟩ := h; exact DataW.trod_lt m _ _ _ hm
end Go.Proofs.YtmbbhgglllfelaaDoor.K
