/- The walk's own rules, ninth part: arrays' elements, conversions of strings, equality of truth values. -/
import Derived.Test.YtmbbhgglllfelaaDoorKitH
import Derived.Laws.BytesString
import Derived.Lib.ConvBytes
set_option linter.unusedVariables false
set_option linter.unusedSimpArgs false
set_option autoImplicit false
namespace Go.Proofs.YtmbbhgglllfelaaDoor.K
open Go Go.RowKit
variable {P : Program} {r : Option Nat} {n : Nat} {O : Array Oper} {Q : Post} {E : Env} {ds : List Deferred} {w : World} {l : List Oper}
section
variable {dst : Option Nat} {ty : TypeId} {pos : String} {af : Array Edge} {g : Option (Nat × Bool)}
theorem r_arrAddr {t e : TypeId} {x y : Operand} {b o m sz : Nat} {k : IntKind} {i : Int} (ht : P.underlying t = some (.array m e)) (hs : sizeB P e sz = true) (hx : ev E x = .pointer (some ⟨b, o, none⟩)) (hy : ev E y = .int k i) (h0 : 0 ≤ i) (h1 : i < m) :
    (execOp (ev E) ⟨dst, .indexAddr t x y, ty, pos, af, g⟩).run P w = .ok (.value (.pointer (some ⟨b, o + i.toNat * sz, none⟩))) w := by
  have h2 := run_sizeOf (w := w) hs
  simp [execOp, hx, hy, Instr.indexAt, Instr.sureAddr, go_sem, asIntOf, underlying, ht, Sem.run_bind, h0, h1, h2, Result.andThen, Addr.add_lit]
theorem st_arrAddr {t e : TypeId} {x y : Operand} {b o m sz : Nat} {k : IntKind} {i : Int} (ht : P.underlying t = some (.array m e)) (hs : sizeB P e sz = true) (hx : ev E x = .pointer (some ⟨b, o, none⟩)) (hy : ev E y = .int k i) (h0 : 0 ≤ i) (h1 : i < m)
    (h : wops P r n O Q l (updo E dst (.pointer (some ⟨b, o + i.toNat * sz, none⟩))) ds w) : wop P r n O Q ⟨dst, .indexAddr t x y, ty, pos, af, g⟩ l E ds w := wop_run (fun _ => by simp) (r_arrAddr ht hs hx hy h0 h1) h
theorem st_append2 {α : Type} {c : Enc α} {D D2 : Nat → Prop} {A : Option Addr} {cap b o m m2 k : Nat} {xs ys : List α} {t e : TypeId} {bytes : Nat} {x y : Operand} (hS : sliceB P t e c.sz bytes)
    (hx : ev E x = .slice A m cap) (hm : m = xs.length) (ho : Own c e w D A cap xs) (hyv : ev E y = .slice (some ⟨b, o, none⟩) k m2) (hk : k = ys.length) (hy : ∀ (i : Nat) (y : α), ys[i]? = some y → ∃ vs, c.R w D2 y vs ∧ Cells w b (o + i * c.sz) vs)
    (hD2 : ∀ k, k < w.heap.size → D2 k → D k ∧ k ∉ ob A) (hfr : ∀ k, w.heap.size ≤ k → D k) (h63 : xs.length + ys.length ≤ 9223372036854775807) (hby : (xs.length + ys.length) * bytes ≤ 140737488355328)
    (h : ∀ A' cap' w', Own c e w' D A' cap' (xs ++ ys) → Chg (ob A) w w' → (∀ g, g ∈ ob A' → g ∈ ob A ∨ w.heap.size ≤ g) → wops P r n O Q l (updo E dst (.slice A' (xs ++ ys).length cap')) ds w') :
    wop P r n O Q ⟨dst, .call ⟨.builtin .append, #[x, y], #[t, t]⟩, ty, pos, af, g⟩ l E ds w :=
  st_append hS hx hm ho hyv hk hy hD2 hfr h63 hby fun A' cap' w' h1 h2 h3 => by rw [← List.length_append]; exact h A' cap' w' h1 h2 h3
def uE : Enc UInt8 := .flat 1 (fun c => [.int .u8 (c.toNat : Int)]) (by omega) (fun _ => rfl) (fun _ u hu => by simp at hu; subst hu; rfl)
theorem push_all : ∀ (s : Bytes) (z : ByteArray), (s.map (fun c => (c.toNat : Int))).foldl (fun r n => r.push (UInt8.ofNat n.toNat)) z = ⟨⟨z.data.toList ++ s⟩⟩
  | [], z => by simp
  | c :: s, z => by
    simp only [List.map_cons, List.foldl_cons]
    rw [push_all s]
    simp [ByteArray.push]
theorem r_bytesStr {src t e : TypeId} {x : Operand} {A : Option Addr} {s : Bytes} {D : Nat → Prop} {c : Nat} (hs : P.underlying src = some (.slice e)) (he : P.underlying e = some (.int .u8)) (hd : P.underlying t = some .string) (hx : ev E x = .slice A s.length c) (h : Sl uE w D A s) :
    (execOp (ev E) ⟨dst, .convert src t x, ty, pos, af, g⟩).run P w = .ok (.value (S s)) w := by
  have key : (Conv.bytesToString (.slice A s.length c)).run P w = .ok (S s) w := by
    cases A with
    | none =>
      rcases h with h | ⟨b, o, h1, _⟩
      · subst h; simp [Conv.bytesToString, go_sem, S]; rfl
      · cases h1
    | some a =>
      have hc : (loadCells a s.length).run P w = .ok ((s.map (fun c => (c.toNat : Int))).map (Value.int .u8)).toArray w := by
        have h1 := run_loadCells_list (P := P) (w := w) a (s.map (fun c => Value.int .u8 (c.toNat : Int))) (fun j v hj => by
          rcases h with h | ⟨b, o, h1, h2, h3, h4⟩
          · subst h; simp at hj
          · cases h1
            rw [List.getElem?_map] at hj
            cases hz : s[j]? with
            | none => simp [hz] at hj
            | some z =>
              obtain ⟨vs, q1, q2⟩ := h4 j z hz
              have q1 : vs = [.int .u8 (z.toNat : Int)] := q1
              subst q1
              have := q2 0 _ rfl
              simp [hz] at hj; subst hj
              rw [Addr.add_lit]; simpa [uE, Enc.flat] using this)
        rw [List.length_map] at h1; rw [List.map_map]; exact h1
      rw [run_bytesToString w a _ _ _ hc, push_all]; rfl
  simp only [execOp, hx, Sem.run_bind, run_convert_bytes_string w src t e A s.length c hs he hd, key, Result.andThen, Sem.run_pure]
theorem st_bytesStr {src t e : TypeId} {x : Operand} {A : Option Addr} {s : Bytes} {D : Nat → Prop} {c : Nat} (hs : P.underlying src = some (.slice e)) (he : P.underlying e = some (.int .u8)) (hd : P.underlying t = some .string) (hx : ev E x = .slice A s.length c) (h : Sl uE w D A s)
    (hk : wops P r n O Q l (updo E dst (S s)) ds w) : wop P r n O Q ⟨dst, .convert src t x, ty, pos, af, g⟩ l E ds w := wop_run (fun _ => by simp) (r_bytesStr hs he hd hx h) hk
theorem r_strBytes {src t e : TypeId} {x : Operand} {s : Bytes} (hs : P.underlying src = some .string) (ht : P.underlying t = some (.slice e)) (he : P.underlying e = some (.int .u8)) (hx : ev E x = S s) :
    ∃ b c w', (execOp (ev E) ⟨dst, .convert src t x, ty, pos, af, g⟩).run P w = .ok (.value (.slice (some ⟨b, 0, none⟩) s.length c)) w' ∧ w.heap.size ≤ b ∧ b < w'.heap.size ∧ Chg [] w w' ∧ Sl uE w' (fun k => k = b) (some ⟨b, 0, none⟩) s := by
  refine ⟨w.heap.size, grownCap w s.length 0 e, Lib.bytesWorld w e ⟨⟨s⟩⟩, ?_, Nat.le_refl _, by rw [Lib.bytesWorld_size]; omega, ?_, ?_⟩
  · simp only [execOp, hx, S, Sem.run_bind, Lib.run_convert_string_bytes w src t e ⟨⟨s⟩⟩ hs ht he, Result.andThen, Sem.run_pure]; rfl
  · exact ⟨rfl, rfl, rfl, by rw [Lib.bytesWorld_size]; omega, fun j hj _ => Lib.bytesWorld_at_old w e _ j hj⟩
  · refine .inr ⟨_, 0, rfl, by rw [Lib.bytesWorld_size]; omega, rfl, fun i x hx => ⟨_, rfl, fun j v hj => ?_⟩⟩
    have hlt : i < s.length := (List.getElem?_eq_some_iff.1 hx).1
    cases j with
    | succ j => simp at hj
    | zero =>
      simp at hj; subst hj
      have := Lib.bytesWorld_cell w e ⟨⟨s⟩⟩ i hlt
      simpa [uE, Enc.flat, List.getD_eq_getElem?_getD, hx] using this
theorem st_strBytes {src t e : TypeId} {x : Operand} {s : Bytes} (hs : P.underlying src = some .string) (ht : P.underlying t = some (.slice e)) (he : P.underlying e = some (.int .u8)) (hx : ev E x = S s)
    (h : ∀ b c w', w.heap.size ≤ b → b < w'.heap.size → Chg [] w w' → Sl uE w' (fun k => k = b) (some ⟨b, 0, none⟩) s → wops P r n O Q l (updo E dst (.slice (some ⟨b, 0, none⟩) s.length c)) ds w') : wop P r n O Q ⟨dst, .convert src t x, ty, pos, af, g⟩ l E ds w := by
  obtain ⟨b, c, w', h1, h2, h3, h4, h5⟩ := r_strBytes (P := P) (w := w) (dst := dst) (ty := ty) (pos := pos) (af := af) (g := g) hs ht he hx
  exact wop_run (fun _ => by simp) h1 (h b c w' h2 h3 h4 h5)
theorem r_convStr {src t : TypeId} {x : Operand} {s : Bytes} {u : TypeDesc} (hs : P.underlying src = some u) (hd : P.underlying t = some .string) (hx : ev E x = S s) :
    (execOp (ev E) ⟨dst, .convert src t x, ty, pos, af, g⟩).run P w = .ok (.value (S s)) w := by
  simp [execOp, hx, S, convert, run_underlying hs, run_underlying hd, Sem.run_bind, Sem.run_pure, Result.andThen]
theorem st_convStr {src t : TypeId} {x : Operand} {s : Bytes} {u : TypeDesc} (hs : P.underlying src = some u) (hd : P.underlying t = some .string) (hx : ev E x = S s)
    (hk : wops P r n O Q l (updo E dst (S s)) ds w) : wop P r n O Q ⟨dst, .convert src t x, ty, pos, af, g⟩ l E ds w := wop_run (fun _ => by simp) (r_convStr hs hd hx) hk
end
section
variable {α : Type} {c : Enc α} {D D' : Nat → Prop} {A : Option Addr} {xs : List α}
theorem Sl.trF {w' : World} {bs : List Nat} (h : Sl c w D A xs) (hf : Flat c) (hc : Chg bs w w') (hb : ∀ b, b ∈ bs → xs = [] ∨ b ∉ ob A) : Sl c w' D A xs := by
  rcases h with h | ⟨b, o, h1, h2, h3, h4⟩
  · exact .inl h
  · by_cases hx : b ∈ bs
    · rcases hb b hx with h | h
      · exact .inl h
      · exact absurd (by rw [h1]; simp [ob]) h
    · exact .inr ⟨b, o, h1, Nat.lt_of_lt_of_le h2 hc.size, h3, fun i x hi => let ⟨vs, q1, q2⟩ := h4 i x hi; ⟨vs, hf q1, q2.tr (hc.block b h2 hx)⟩⟩
theorem Sl.fresh (h : Sl c w D A xs) {b : Nat} (hb : w.heap.size ≤ b) : xs = [] ∨ b ∉ ob A := by
  rcases h with h | ⟨k, o, h1, h2, _⟩
  · exact .inl h
  · refine .inr fun hx => ?_
    rw [h1] at hx; simp [ob] at hx; omega
theorem Sl.of_one {b : Nat} {vs : List Value} {T : TypeId} {x : α} (h : Blk w b vs T) (hx : c.R w D x vs) (hD : D b) : Sl c w D (some ⟨b, 0, none⟩) [x] :=
  .inr ⟨b, 0, rfl, h.lt, hD, fun i y hy => by
    cases i with
    | zero => simp at hy; subst hy; exact ⟨vs, hx, fun j v hj => h.cell (by rw [nthV_eq]; simpa using hj)⟩
    | succ i => simp at hy⟩
end
theorem agree_over_sub {S S' : List Nat} {E1 E G : Env} (h : Agree S E1 E) (hs : (S'.all fun d => S.contains d) = true) : Agree S (over E1 S' G) E := fun i hi => by
  have hn : S'.contains i = false := by
    cases hc : S'.contains i with
    | false => rfl
    | true => rw [List.all_eq_true] at hs; have := hs i (by simpa using hc); rw [this] at hi; cases hi
  simp only [over, hn]; exact h i hi
/-! ### a row of truth values -/
def boolsV (f : Nat → Bool) : Nat → Nat → List Value
  | _, 0 => []
  | i, m + 1 => .bool (f i) :: boolsV f (i + 1) m
theorem boolsV_len (f : Nat → Bool) : ∀ (m i : Nat), (boolsV f i m).length = m
  | 0, _ => rfl
  | m + 1, i => by simp [boolsV, boolsV_len f m]
theorem boolsV_nth (f : Nat → Bool) : ∀ (m i k : Nat), k < m → nthV (boolsV f i m) k = some (.bool (f (i + k)))
  | 0, _, k, h => by omega
  | m + 1, i, 0, _ => rfl
  | m + 1, i, k + 1, h => by simp only [boolsV, nthV]; rw [boolsV_nth f m (i + 1) k (by omega)]; congr 3; omega
theorem boolsV_congr {f g : Nat → Bool} : ∀ (m i : Nat), (∀ k, i ≤ k → k < i + m → f k = g k) → boolsV f i m = boolsV g i m
  | 0, _, _ => rfl
  | m + 1, i, h => by
    simp only [boolsV]
    rw [h i (by omega) (by omega), boolsV_congr m (i + 1) (fun k h1 h2 => h k (by omega) (by omega))]
theorem boolsV_set (f : Nat → Bool) (v : Bool) : ∀ (m i k : Nat), k < m → setV (boolsV f i m) k (.bool v) = boolsV (fun j => if j = i + k then v else f j) i m
  | 0, _, k, h => by omega
  | m + 1, i, 0, _ => by
    simp only [boolsV, setV, Nat.add_zero, if_true]
    congr 1
    exact boolsV_congr m (i + 1) fun k h1 _ => by rw [if_neg (by omega)]
  | m + 1, i, k + 1, h => by
    simp only [boolsV, setV]
    rw [boolsV_set f v m (i + 1) k (by omega), if_neg (by omega)]
    congr 1
    exact boolsV_congr m (i + 1) fun j _ _ => by rw [show i + 1 + k = i + (k + 1) by omega]
theorem boolsV_false : ∀ (m i : Nat), boolsV (fun _ => false) i m = List.replicate m (.bool false)
  | 0, _ => rfl
  | m + 1, i => by simp [boolsV, boolsV_false m, List.replicate_succ]
end Go.Proofs.YtmbbhgglllfelaaDoor.K
