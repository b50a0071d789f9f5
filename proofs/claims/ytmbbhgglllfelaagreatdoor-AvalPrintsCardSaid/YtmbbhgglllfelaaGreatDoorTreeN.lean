import Derived.Test.YtmbbhgglllfelaaGreatDoorGt
set_option linter.unusedVariables false
set_option linter.unusedSimpArgs false
set_option autoImplicit false
namespace Go.Proofs.YtmbbhgglllfelaaGreatDoor.K
open Go
section rules
variable {P : Program} {r : Option Nat} {n : Nat} {O : Array Oper} {Q : Post} {l : List Oper} {E : Env} {ds : List Deferred} {w : World} {dst : Option Nat} {ty : TypeId} {pos : String} {af : Array Edge} {g : Option (Nat × Bool)}
theorem r_part {t e : TypeId} {x : Operand} {lo hi : Option Operand} {b o m c sz i j : Nat} (ht : P.underlying t = some (.slice e)) (hs : sizeB P e sz = true) (hx : ev E x = .slice (some ⟨b, o, none⟩) m c)
    (hlo : match lo with | some y => ∃ k, ev E y = .int k (i : Int) | none => i = 0) (hhi : match hi with | some y => ∃ k, ev E y = .int k (j : Int) | none => j = m) (h0 : i ≤ j) (h1 : j ≤ c) (h2 : i < c) :
    (execOp (ev E) ⟨dst, .slice t x lo hi none, ty, pos, af, g⟩).run P w = .ok (.value (.slice (some ⟨b, o + i * sz, none⟩) (j - i) (c - i))) w := by
  rw [r_slice (i := i) (j := j) ht hs hx hlo hhi h0 h1, if_neg (by omega), Option.map_some, Addr.add_lit]
theorem st_part {t e : TypeId} {x : Operand} {lo hi : Option Operand} {b o m c sz i j : Nat} (ht : P.underlying t = some (.slice e)) (hs : sizeB P e sz = true) (hx : ev E x = .slice (some ⟨b, o, none⟩) m c)
    (hlo : match lo with | some y => ∃ k, ev E y = .int k (i : Int) | none => i = 0) (hhi : match hi with | some y => ∃ k, ev E y = .int k (j : Int) | none => j = m) (h0 : i ≤ j) (h1 : j ≤ c) (h2 : i < c)
    (h : wops P r n O Q l (updo E dst (.slice (some ⟨b, o + i * sz, none⟩) (j - i) (c - i))) ds w) : wop P r n O Q ⟨dst, .slice t x lo hi none, ty, pos, af, g⟩ l E ds w := wop_run (fun _ => by simp) (r_part ht hs hx hlo hhi h0 h1 h2) h
theorem st_appendz {t tn e : TypeId} {x y : Operand} {b cap i k sz bytes : Nat} {kn : IntKind} {pre rest zs : List Value} (hS : sliceB P t e sz bytes) (hn : P.underlying tn = some (.int kn)) (hz : zeroB P e zs) (hp : 0 < sz) (hx : ev E x = .slice (some ⟨b, 0, none⟩) i cap) (hy : ev E y = .int .i64 (k : Int))
    (hb : Blk w b (pre ++ rest) e) (hpre : pre.length = i * sz) (hk : 0 < k) (hg : cap < i + k) (h63 : i + k ≤ 9223372036854775807) (hby : (i + k) * bytes ≤ 140737488355328)
    (h : ∀ b' cap' w' rest', b' = w.heap.size → Chg [] w w' → Blk w' b' (pre ++ (Builtin.zeroCells ⟨zs⟩ k).toList ++ rest') e → (pre ++ (Builtin.zeroCells ⟨zs⟩ k).toList ++ rest').length = cap' * sz → i + k ≤ cap' → cap' ≤ 9223372036854775807 → wops P r n O Q l (updo E dst (.slice (some ⟨b', 0, none⟩) (i + k) cap')) ds w') :
    wop P r n O Q ⟨dst, .call ⟨.builtin .append, #[x, y], #[t, tn]⟩, ty, pos, af, g⟩ l E ds w := by
  obtain ⟨ht, hi0, i0, z, hi, hzz, hzs⟩ := hS
  obtain ⟨i1, z1, q1, q2, q3⟩ := hz
  rw [hi] at q1; cases q1; rw [hzz] at q2; cases q2
  rw [hi] at hi0
  simp only [Option.map_some, Option.some.injEq, Prod.mk.injEq] at hi0
  obtain ⟨hsz, hbt, _⟩ := hi0
  have hL := run_loadCells_list (P := P) (w := w.drew) ⟨b, 0, none⟩ pre (fun j v hj => by
    rw [Addr.add_lit]
    exact Blk.cell (w := w.drew) (cs := pre ++ rest) (T := e) hb (by rw [nthV_eq, Nat.zero_add, List.getElem?_append_left (List.getElem?_eq_some_iff.1 hj).1]; exact hj))
  have hold : (Builtin.firstCells i0.size i (.slice (some ⟨b, 0, none⟩) i cap)).run P w.drew = .ok pre.toArray w.drew := by
    rw [hpre] at hL; rw [hsz]; simpa [Builtin.firstCells] using hL
  have hge := grownCap_ge w (i + k) cap e
  have hcm : grownCap w (i + k) cap e ≤ maxLen := grownCap_le_maxLen w (i + k) cap e (by simp only [maxLen]; omega)
  have hr := Lib.run_append_grow_zeros (P := P) w t tn ty e i0 z .i64 kn ht hn hi hzz (some ⟨b, 0, none⟩) i cap pre hold k hk (by omega) hg (by omega) (by rw [hbt]; have : k * bytes ≤ (i + k) * bytes := Nat.mul_le_mul_right _ (by omega); omega) (by rw [hbt]; exact growslice_fits hg hby)
  have hzk : (Builtin.zeroCells ⟨zs⟩ k).size = k * sz := by rw [size_zeroCells]; rw [q3] at hzs; rw [hzs]
  refine wop_run (w' := w.drew.alloc (.cells (pre.toArray ++ Builtin.zeroCells z.cells k ++ Builtin.zeroCells z.cells (grownCap w (i + k) cap e - (i + k))) e)) (fun _ => by simp) ?_ (h w.heap.size (grownCap w (i + k) cap e) _ (Builtin.zeroCells z.cells (grownCap w (i + k) cap e - (i + k))).toList rfl ?_ ?_ ?_ hge (by simpa [maxLen] using hcm))
  · simp only [execOp, resolve, invoke, builtin, List.map_toArray, List.map_cons, List.map_nil, hx, hy, Sem.run_bind, Sem.run_pure, hr, Result.andThen]
  · exact (Chg.drew w).trans (Chg.alloc w.drew _) (fun k hk => .inl hk)
  · show w.drew.alloc (.cells (pre.toArray ++ Builtin.zeroCells z.cells k ++ Builtin.zeroCells z.cells (grownCap w (i + k) cap e - (i + k))) e) |>.heap[w.heap.size]? = _
    rw [← q3, show w.heap.size = w.drew.heap.size from rfl, heap_alloc_new]
    congr 2
    apply Array.ext'; simp
  · rw [List.length_append, List.length_append, hpre, Array.length_toList, Array.length_toList, hzk, size_zeroCells, hzs, ← Nat.add_mul, ← Nat.add_mul]
    congr 1; omega
theorem st_append0 {t e : TypeId} {x y : Operand} {b m cap c sz bytes : Nat} {A : Option Addr} (hS : sliceB P t e sz bytes) (hx : ev E x = .slice (some ⟨b, 0, none⟩) m cap) (hy : ev E y = .slice A 0 c) (hm : m ≤ cap)
    (h : wops P r n O Q l (updo E dst (.slice (some ⟨b, 0, none⟩) m cap)) ds w) : wop P r n O Q ⟨dst, .call ⟨.builtin .append, #[x, y], #[t, t]⟩, ty, pos, af, g⟩ l E ds w := by
  refine wop_run (fun _ => by simp) ?_ h
  obtain ⟨ht, hi0, i0, z, hi, hzz, hzs⟩ := hS
  have ha : (Builtin.append_ #[t, t] ty #[.slice (some ⟨b, 0, none⟩) m cap, .slice A 0 c]).run P w = .ok (.slice (some ⟨b, 0, none⟩) m cap) w := by
    cases A with
    | none => simp [Builtin.append_, run_underlying ht, sizeOf, typeInfo, hi, Builtin.lenOf, Builtin.firstCells, hm, storeCells, go_sem]
    | some a => simp [Builtin.append_, run_underlying ht, sizeOf, typeInfo, hi, Builtin.lenOf, Builtin.firstCells, hm, storeCells, loadCells, loadCellsFrom, go_sem]
  simp only [execOp, resolve, invoke, builtin, List.map_toArray, List.map_cons, List.map_nil, hx, hy, Sem.run_bind, Sem.run_pure, ha, Result.andThen]
/-- slices.overlaps: two blocks. -/
theorem ovl_apart {t tb e : TypeId} {f sz : Nat} {F : Func} {b1 o1 l1 c1 b2 o2 l2 c2 : Nat} {cs1 cs2 : List Value} {T1 T2 : TypeId} (hf : P.funcs[f]? = some F) (hname : (F.name == "runtime.NumGoroutine") = false) (hbody : F.body.isNone = true) (hn : Extern.findNext F = none) (he : Extern.find F = some (Extern.SlicesOverlaps.overlaps #[t, t] #[tb])) (ht : P.underlying t = some (.slice e)) (hs : sizeB P e sz = true)
    (h1 : Blk w b1 cs1 T1) (h2 : Blk w b2 cs2 T2) (hne : b1 ≠ b2) (hc : cs2 ≠ []) :
    (callFunc f ⟨[.slice (some ⟨b1, o1, none⟩) l1 c1, .slice (some ⟨b2, o2, none⟩) l2 c2]⟩).run P w = .ok (.value (.bool false)) w := by
  rw [run_callFunc_extern hf hname hbody hn he, Lib.run_overlaps_apart w t tb e ht sz (fun w => run_sizeOf (P := P) (w := w) hs) ⟨b1, o1, none⟩ ⟨b2, o2, none⟩ l1 c1 l2 c2 hne T1 T2 cs1.length cs2.length
    (by simp [World.shape?, show w.heap[b1]? = _ from h1]) (by simp [World.shape?, show w.heap[b2]? = _ from h2]) (by intro e; exact hc (List.length_eq_zero_iff.1 e)) h1.free h1.free]
  rfl
end rules
end Go.Proofs.YtmbbhgglllfelaaGreatDoor.K
set_option linter.unusedVariables false
set_option linter.unusedSimpArgs false
set_option autoImplicit false
set_option maxRecDepth 20000
namespace Go.Proofs.YtmbbhgglllfelaaGreatDoor.K
open Go Go.Proofs Go.RowKit

abbrev prC (xs : List Vr) : List Value := flatC (fun p : Vr => [S p.1, S p.2]) xs
theorem prC_len (xs : List Vr) : (prC xs).length = xs.length * 2 := flatC_len (f := fun p : Vr => [S p.1, S p.2]) (sz := 2) (fun _ => rfl) xs
theorem prC_one (xs : List Vr) : ∀ u ∈ prC xs, u.oneCell' = true := flatC_one (f := fun p : Vr => [S p.1, S p.2]) (fun x u hu => by simp at hu; rcases hu with rfl | rfl <;> rfl) xs
theorem prC_cells {w : World} {g i : Nat} {xs : List Vr} {rest : List Value} {T : TypeId} (h : Blk w g (prC xs ++ rest) T) : Cells w g (i * 2) (prC (xs.drop i)) := fun j v hj => by
  refine h.cell ?_
  rw [show prC (xs.drop i) = (prC xs).drop (i * 2) from (flatC_drop (f := fun p : Vr => [S p.1, S p.2]) (sz := 2) (fun _ => rfl) xs i).symm, List.getElem?_drop] at hj
  rw [nthV_eq, List.getElem?_append_left (List.getElem?_eq_some_iff.1 hj).1]; exact hj
/-- A list with one more element at a place. -/
def insL (xs : List Vr) (i : Nat) (y : Vr) : List Vr := xs.take i ++ y :: xs.drop i
theorem insL_len {xs : List Vr} {i : Nat} {y : Vr} (h : i ≤ xs.length) : (insL xs i y).length = xs.length + 1 := by simp [insL]; omega
theorem insL_end (xs : List Vr) (y : Vr) : insL xs xs.length y = xs ++ [y] := by simp [insL]
theorem prC_cons (y : Vr) (xs : List Vr) : prC (y :: xs) = [S y.1, S y.2] ++ prC xs := rfl
/-- The cells behind both copies. -/
theorem shift_cells {xs : List Vr} {i : Nat} {y : Vr} {rest : List Value} (hi : i < xs.length) (hr : 2 ≤ rest.length) : setVs (setVs (prC xs ++ rest) (0 + (i + 1) * 2) (prC (xs.drop i))) (0 + i * 2) [S y.1, S y.2] = prC (insL xs i y) ++ rest.drop 2 := by
  have h1 : (prC (xs.drop i)).length = (xs.length - i) * 2 := by rw [prC_len, List.length_drop]
  have h0 : (prC xs ++ rest).length = xs.length * 2 + rest.length := by rw [List.length_append, prC_len]
  have h2 : (prC xs ++ rest).take ((i + 1) * 2) = prC (xs.take i) ++ (prC (xs.drop i)).take 2 := by
    rw [List.take_append_of_le_length (by rw [prC_len]; omega), show (prC xs).take ((i + 1) * 2) = prC (xs.take (i + 1)) from flatC_take (f := fun p : Vr => [S p.1, S p.2]) (sz := 2) (fun _ => rfl) xs (i + 1), List.take_add_one]
    obtain ⟨x, hx⟩ : ∃ x, xs[i]? = some x := ⟨_, List.getElem?_eq_getElem hi⟩
    rw [hx, Option.toList_some, show prC (xs.take i ++ [x]) = prC (xs.take i) ++ prC [x] from flatC_app _ _]
    congr 1
    obtain ⟨_, he⟩ := List.getElem?_eq_some_iff.1 hx
    rw [List.drop_eq_getElem_cons hi, he]; rfl
  have h3 : (prC xs ++ rest).drop ((i + 1) * 2 + (prC (xs.drop i)).length) = rest.drop 2 := by
    rw [h1, List.drop_append, List.drop_of_length_le (by rw [prC_len]; omega), List.nil_append, prC_len]; congr 1; omega
  rw [Nat.zero_add, Nat.zero_add, setVs_eq (prC (xs.drop i)) (prC xs ++ rest) ((i + 1) * 2) (by rw [h1, h0]; omega), h2, h3]
  have hk : (prC (xs.take i)).length = i * 2 := by rw [prC_len, List.length_take]; omega
  have hd2 : ((prC (xs.drop i)).take 2).length = 2 := by rw [List.length_take, h1]; omega
  rw [setVs_eq _ _ _ (by simp only [List.length_append, List.length_cons, List.length_nil, hk, hd2]; omega)]
  simp only [List.append_assoc, List.length_cons, List.length_nil]
  rw [List.take_append_of_le_length (by omega), List.take_of_length_le (by omega), List.drop_append, List.drop_of_length_le (by omega), hk, show i * 2 + (0 + 1 + 1) - i * 2 = 2 by omega, List.nil_append, List.drop_append, List.drop_of_length_le (by omega), hd2, Nat.sub_self, List.drop_zero, List.nil_append]
  rw [show insL xs i y = xs.take i ++ (y :: xs.drop i) from rfl, show prC (xs.take i ++ (y :: xs.drop i)) = prC (xs.take i) ++ prC (y :: xs.drop i) from flatC_app _ _, prC_cons]
  simp
theorem zero_cells (w : World) (k : Nat) : (Builtin.zeroCells (⟨[S [], S []]⟩ : Array Value) k).toList = prC (List.replicate k ([], [])) := by
  unfold Builtin.zeroCells
  apply List.ext_getElem?
  intro j
  simp only [Array.toList_map, Array.toList_range, List.getElem?_map]
  by_cases h : j < k * 2
  · rw [List.getElem?_range (by simpa using h)]
    have h2 := (flatC_chunks (w := w) (D := fun _ => True) (hp := (by omega : 0 < 2)) (ho := fun x u hu => by simp at hu; rcases hu with rfl | rfl <;> rfl) (f := fun p : Vr => [S p.1, S p.2]) (fun _ => rfl) (List.replicate k (([], []) : Vr))).2 (j / 2) ([], []) (by rw [List.getElem?_replicate, if_pos (by omega)])
    obtain ⟨vs, rfl, h3⟩ := h2
    have hm : j % 2 < 2 := Nat.mod_lt _ (by omega)
    have h4 := h3 (j % 2) (S []) (by rcases (by omega : j % 2 = 0 ∨ j % 2 = 1) with e | e <;> rw [e] <;> rfl)
    rw [show j / 2 * (Enc.flat 2 (fun p : Vr => [S p.1, S p.2]) (by omega) (fun _ => rfl) (fun x u hu => by simp at hu; rcases hu with rfl | rfl <;> rfl)).sz + j % 2 = j from Nat.div_add_mod' j 2] at h4
    rw [show (prC (List.replicate k ([], [])))[j]? = _ from h4]
    rcases (by omega : j % 2 = 0 ∨ j % 2 = 1) with e | e <;> simp [e]
  · rw [List.getElem?_eq_none (by simpa using h), List.getElem?_eq_none (by rw [prC_len, List.length_replicate]; omega)]; rfl

theorem clone_spec {vs : List Vr} {Av : Option Addr} {cv : Nat} {Dv : Nat → Prop} {w : World} (hv : Sl prE w Dv Av vs) (hl : vs.length ≤ 1000000000) : CallR Tryz.prog 73 #[.slice Av vs.length cv] w fun v w' => (∃ A cap, v = .slice A vs.length cap ∧ Own prE 42 w' (fun k => w.heap.size ≤ k) A cap vs) ∧ Chg [] w w' := by
 refine callR_of_wp (args := [_]) Tryz.func73 rfl (Nat.le_of_ble_eq_true rfl) ?_
 have HC : Chg [] w w := .refl _
 refine sr rfl <| aL rfl <| en <| x_seq <| sr rfl <| mL rfl <| Wp rfl <| st_sleqln T.u22 rfl rfl <| en <| x_cond rfl (fun h0 => ?_) (fun h0 => ?_)
 ·try simp only [nm, ne_eq] at h0
  obtain rfl : vs = [] := by rcases hv with h | ⟨vb, vo, h, _⟩ <;> first | exact h | (exfalso; simp [h] at h0; done)
  refine sr rfl <| aL rfl <| en <| x_ret <| then_r <| ret_tmp (v := .slice _ _ _) rfl rfl ?_
  exact ⟨⟨none, 0, rfl, Own.nil⟩, HC⟩
 ·try simp only [nm, ne_eq] at h0
  refine x_skip <| then_n <| x_seq ?_
  rcases (Decidable.em (vs = [])).imp_right (fun hne => (⟨hne, hv.resolve_left hne⟩ : vs ≠ [] ∧ _)) with rfl | ⟨hne, vb, vo, rfl, _⟩
  ·refine x_region rfl <| Wp rfl <| st_lit (ps := []) (vs := []) T.lit22 (by decide) rfl (by simp only [List.forall_mem_cons, List.not_mem_nil, false_imp_iff, implies_true, and_true]) rfl ?_
   intro b1 w2 e3 c4 hb5
   have ge_b1 : w.heap.size ≤ b1 := by rw [e3]; exact HC.size
   have nf_hv_b1 : [] = [] ∨ b1 ∉ ob (Av) := hv.fresh (by rw [e3]; exact Nat.le_refl _)
   replace HC := HC.then c4
   replace hv := hv.tr0 c4
   clear e3
   refine mL rfl ?_
   have ho0 : Own prE 42 w2 (fun k => w.heap.size ≤ k) (some ⟨b1, 0, none⟩) 0 ([] : List Vr) := Own.of_blk (xs := ([] : List Vr)) hb5 ge_b1 (by decide) Chunks.nil
   refine Wp rfl <| st_append0 T.slice22 rfl rfl (Nat.le_refl _) <| aL rfl <| en <| x_ret <| ret_tmp (v := .slice _ _ _) rfl rfl ?_
   exact ⟨⟨some ⟨b1, 0, none⟩, 0, rfl, ho0⟩, HC⟩
  ·refine x_region rfl <| Wp rfl <| st_lit (ps := []) (vs := []) T.lit22 (by decide) rfl (by simp only [List.forall_mem_cons, List.not_mem_nil, false_imp_iff, implies_true, and_true]) rfl ?_
   intro b12 w13 e14 c15 hb16
   have ge_b12 : w.heap.size ≤ b12 := by rw [e14]; exact HC.size
   have nf_hv_b12 : vs = [] ∨ b12 ∉ ob ((some ⟨vb, vo, none⟩)) := hv.fresh (by rw [e14]; exact Nat.le_refl _)
   replace HC := HC.then c15
   replace hv := hv.tr0 c15
   clear e14
   refine mL rfl ?_
   have ho0 : Own prE 42 w13 (fun k => w.heap.size ≤ k) (some ⟨b12, 0, none⟩) 0 ([] : List Vr) := Own.of_blk (xs := ([] : List Vr)) hb16 ge_b12 (by decide) Chunks.nil
   have hszA := HC.size
   refine Wp rfl <| st_append2 (c := prE) (D2 := fun _ => False) (xs := ([] : List Vr)) (ys := vs) T.slice22 rfl rfl ho0 rfl rfl (fun i y hy => by obtain ⟨lb, lo, us, hA, hR, hC⟩ := hv.at hy; cases hA; exact ⟨us, hR, hC⟩) (fun _ _ h => h.elim) (fun k hk => by omega) (by simp only [List.length_nil]; omega) (by simp only [List.length_nil]; omega) ?_
   intro A17 cap18 w19 ho20 c21 hg22
   simp only [List.nil_append] at ho20
   replace HC := HC.trans c21 (fun k hk => .inr (ho0.inD k hk))
   refine aL rfl <| en <| x_ret <| ret_tmp (v := .slice _ _ _) rfl rfl ?_
   exact ⟨⟨A17, cap18, rfl, ho20⟩, HC⟩

theorem insert_end {xs : List Vr} {A : Option Addr} {cap g : Nat} {D : Nat → Prop} {y : Vr} {w : World} (ho : Own prE 42 w D A cap xs) (hg : Blk w g [S y.1, S y.2] 42) (hfr : ∀ k, w.heap.size ≤ k → D k) (hl : xs.length ≤ 1000000000) : CallR Tryz.prog 74 #[.slice A xs.length cap, .int .i64 (xs.length : Int), .slice (some ⟨g, 0, none⟩) 1 1] w fun v w' => (∃ A' cap', v = .slice A' (xs ++ [y]).length cap' ∧ Own prE 42 w' D A' cap' (xs ++ [y])) ∧ Chg (ob A) w w' := by
 refine callR_of_wp (args := [_, _, _]) Tryz.func74 rfl (Nat.le_of_ble_eq_true rfl) ?_
 have HC : Chg (ob A) w w := .refl _
 have hle := ho.le
 refine sr rfl <| aL rfl <| en <| sr rfl <| mL rfl <| mI rfl <| Wp rfl <| st_slice (i := xs.length) (j := xs.length) T.u22 T.size42 rfl ⟨_, rfl⟩ (by rfl) (by omega) (by omega) <| en <| sr rfl <| mL rfl <| Wp rfl <| st_len (ct := #[22]) (by rw [show ((#[22] : Array TypeId)[0]?).bind Tryz.prog.underlying = some (.slice 42) from T.u22]; rfl) rfl <| aI rfl <| en <| x_seq <| sr rfl <| mI rfl <| Wp rfl <| st_eql rfl rfl <| en <| x_cond rfl (fun h0 => ?_) (fun h0 => ?_)
 ·try simp only [nm, ne_eq] at h0
  exact absurd h0 (by decide)
 ·try simp only [nm, ne_eq] at h0
  refine x_skip <| then_n <| sr rfl <| mL rfl <| Wp rfl <| st_len (ct := #[22]) (by rw [show ((#[22] : Array TypeId)[0]?).bind Tryz.prog.underlying = some (.slice 42) from T.u22]; rfl) rfl <| aI rfl <| en <| x_seq <| sr rfl <| mI rfl <| mI rfl <| Wp rfl <| st_eql rfl rfl <| en <| x_cond rfl (fun h1 => ?_) (fun h1 => ?_)
  ·try simp only [nm, ne_eq] at h1
   refine sr rfl <| mL rfl <| mL rfl <| Wp rfl <| st_append2 (c := prE) (D2 := fun _ => False) (xs := xs) (ys := [y]) T.slice22 rfl rfl ho rfl rfl (one_elem rfl (hg.cells (n := 2) rfl)) (fun _ _ h => h.elim) (fun k hk => hfr k (Nat.le_trans HC.size hk)) (by simp only [List.length_cons, List.length_nil]; omega) (by simp only [List.length_cons, List.length_nil]; omega) ?_
   intro A1 cap2 w3 ho4 c5 hg6
   replace HC := HC.trans c5 (fun k hk => .inl hk)
   refine aL rfl <| en <| x_ret <| then_r <| ret_tmp (v := .slice _ _ _) rfl rfl ?_
   exact ⟨⟨A1, cap2, rfl, ho4⟩, HC⟩
  ·try simp only [nm, ne_eq] at h1
   first | exact absurd rfl h1 | exact absurd trivial h1

theorem grow_cells {xs : List Vr} {i k : Nat} {y : Vr} {rest : List Value} (hi : i < xs.length) (hk : k = xs.length + 1 - i) : setVs (setVs (prC (xs.take i ++ List.replicate k ([], [])) ++ rest) (0 + i * 2) [S y.1, S y.2]) (0 + (i + 1) * 2) (prC (xs.drop i)) = prC (insL xs i y) ++ rest := by
  subst hk
  have h1 : (prC (xs.drop i)).length = (xs.length - i) * 2 := by rw [prC_len, List.length_drop]
  have hk : (prC (xs.take i)).length = i * 2 := by rw [prC_len, List.length_take]; omega
  have hz : (prC (List.replicate (xs.length + 1 - i) (([], []) : Vr))).length = (xs.length + 1 - i) * 2 := by rw [prC_len, List.length_replicate]
  rw [show prC (xs.take i ++ List.replicate (xs.length + 1 - i) ([], [])) = prC (xs.take i) ++ prC (List.replicate (xs.length + 1 - i) ([], [])) from flatC_app _ _, Nat.zero_add, Nat.zero_add]
  generalize prC (List.replicate (xs.length + 1 - i) (([], []) : Vr)) = zz at *
  rw [setVs_eq [S y.1, S y.2] _ _ (by simp only [List.length_append, List.length_cons, List.length_nil]; omega)]
  rw [setVs_eq (prC (xs.drop i)) _ _ (by simp only [List.length_append, List.length_cons, List.length_nil, List.length_take, List.length_drop]; omega)]
  rw [show insL xs i y = xs.take i ++ (y :: xs.drop i) from rfl, show prC (xs.take i ++ (y :: xs.drop i)) = prC (xs.take i) ++ prC (y :: xs.drop i) from flatC_app _ _, prC_cons]
  have e1 : (prC (xs.take i) ++ zz ++ rest).take (i * 2) = prC (xs.take i) := by rw [List.append_assoc, ← hk, List.take_left]
  rw [e1]
  have e2 : (prC (xs.take i) ++ [S y.1, S y.2] ++ (prC (xs.take i) ++ zz ++ rest).drop (i * 2 + [S y.1, S y.2].length)).take ((i + 1) * 2) = prC (xs.take i) ++ [S y.1, S y.2] := by
    rw [show (i + 1) * 2 = (prC (xs.take i) ++ [S y.1, S y.2]).length by simp only [List.length_append, List.length_cons, List.length_nil]; omega, List.take_left]
  rw [e2]
  have e3 : (prC (xs.take i) ++ [S y.1, S y.2] ++ (prC (xs.take i) ++ zz ++ rest).drop (i * 2 + [S y.1, S y.2].length)).drop ((i + 1) * 2 + (prC (xs.drop i)).length) = rest := by
    rw [List.drop_append, List.drop_of_length_le (by simp only [List.length_append, List.length_cons, List.length_nil]; omega), List.nil_append, List.drop_drop, List.drop_append, List.drop_of_length_le (by simp only [List.length_append, List.length_cons, List.length_nil]; omega), List.nil_append]
    rw [show i * 2 + [S y.1, S y.2].length + ((i + 1) * 2 + (prC (xs.drop i)).length - (prC (xs.take i) ++ [S y.1, S y.2]).length) - (prC (xs.take i) ++ zz).length = 0 by simp only [List.length_append, List.length_cons, List.length_nil]; omega, List.drop_zero]
  rw [e3]; simp only [List.append_assoc]
theorem prC_ne {xs : List Vr} {rest : List Value} (h : 0 < xs.length) : (prC xs ++ rest ≠ []) = True := by
  have h2 : (prC xs ++ rest).length ≠ 0 := by rw [List.length_append, prC_len]; omega
  simp only [eq_iff_iff, iff_true]; intro e; rw [e] at h2; exact h2 rfl

theorem insert_mid {xs : List Vr} {ga i : Nat} {cap g : Nat} {D : Nat → Prop} {y : Vr} {w : World} (ho : Own prE 42 w D (some ⟨ga, 0, none⟩) cap xs) (hg : Blk w g [S y.1, S y.2] 42) (hfr : ∀ k, w.heap.size ≤ k → D k) (hl : xs.length ≤ 1000000000) (hi : i < xs.length) (ngg : g ≠ ga) : CallR Tryz.prog 74 #[.slice (some ⟨ga, 0, none⟩) xs.length cap, .int .i64 (i : Int), .slice (some ⟨g, 0, none⟩) 1 1] w fun v w' => (∃ A' cap', v = .slice A' (insL xs i y).length cap' ∧ Own prE 42 w' D A' cap' (insL xs i y)) ∧ Chg [ga] w w' := by
 obtain ⟨gb, rest, hge, hA, hln0, hle, hcap, hD⟩ := ho.raw
 cases hge
 have hln : (prC xs ++ rest).length = cap * 2 := hln0
 have hlr : xs.length * 2 + rest.length = cap * 2 := by rw [← hln, List.length_append, prC_len]
 have hdl : (prC (xs.drop i)).length = (xs.length - i) * 2 := by rw [prC_len, List.length_drop]
 refine callR_of_wp (args := [_, _, _]) Tryz.func74 rfl (Nat.le_of_ble_eq_true rfl) ?_
 have HC : Chg [ga] w w := .refl _
 refine sr rfl <| aL rfl <| en <| sr rfl <| mL rfl <| mI rfl <| Wp rfl <| st_part (i := i) (j := xs.length) T.u22 T.size42 rfl ⟨_, rfl⟩ rfl (by omega) (by omega) (by omega) <| en <| sr rfl <| mL rfl <| Wp rfl <| st_len (ct := #[22]) (by rw [show ((#[22] : Array TypeId)[0]?).bind Tryz.prog.underlying = some (.slice 42) from T.u22]; rfl) rfl <| aI rfl <| en <| x_seq <| sr rfl <| mI rfl <| Wp rfl <| st_eql rfl rfl <| en <| x_cond rfl (fun h0 => ?_) (fun h0 => ?_)
 ·try simp only [nm, ne_eq] at h0
  exact absurd h0 (by decide)
 ·try simp only [nm, ne_eq] at h0
  refine x_skip <| then_n <| sr rfl <| mL rfl <| Wp rfl <| st_len (ct := #[22]) (by rw [show ((#[22] : Array TypeId)[0]?).bind Tryz.prog.underlying = some (.slice 42) from T.u22]; rfl) rfl <| aI rfl <| en <| x_seq <| sr rfl <| mI rfl <| mI rfl <| Wp rfl <| st_eql rfl rfl <| en <| x_cond rfl (fun h1 => ?_) (fun h1 => ?_)
  ·try simp only [nm, ne_eq] at h1
   exfalso; omega
  ·try simp only [nm, ne_eq] at h1
   refine x_skip <| then_n <| x_seq <| sr rfl <| mI rfl <| mI rfl <| Wp rfl <| st_addn rfl rfl (by constructor <;> omega) <| mL rfl <| Wp rfl <| st_cap (ct := #[22]) (by rw [show ((#[22] : Array TypeId)[0]?).bind Tryz.prog.underlying = some (.slice 42) from T.u22]; rfl) rfl <| Wp rfl <| st_gtr rfl rfl <| en <| x_cond rfl (fun h2 => ?_) (fun h2 => ?_)
   ·try simp only [nm, ne_eq] at h2
    refine sr rfl <| mL rfl <| mI rfl <| Wp rfl <| st_part (i := 0) (j := i) T.u22 T.size42 rfl rfl ⟨_, rfl⟩ (by omega) (by omega) (by omega) <| mI rfl <| mI rfl <| Wp rfl <| st_addn rfl rfl (by constructor <;> omega) <| mI rfl <| Wp rfl <| st_subk rfl rfl (by exact (show IntKind.i64.wrap _ = ((xs.length + 1 - i : Nat) : Int) by rw [wrap64_id (by omega) (by omega)]; omega)) ?_
    have hsz40 := HC.size
    refine Wp rfl <| st_appendz (b := ga) (i := i) (k := xs.length + 1 - i) (cap := cap) (pre := prC (xs.take i)) (rest := (prC (xs.drop i)) ++ rest) T.slice22 T.u3 T.zero42 (by decide) rfl rfl (by rw [← List.append_assoc, ← show prC (xs.take i ++ xs.drop i) = _ from flatC_app _ _, List.take_append_drop]; exact hA) (by rw [prC_len, List.length_take]; omega) (by omega) (by omega) (by omega) (by omega) ?_
    intro gz capz w1 restz ez c2 hb3 lenz gez lez
    have ge_gz : w.heap.size ≤ gz := by rw [ez]; exact hsz40
    have nga : ga ≠ gz := by have := hA.lt; omega
    have ngg : g ≠ gz := by have := hg.lt; omega
    replace HC := HC.then c2
    replace hA := hA.tr0 c2
    replace hg := hg.tr0 c2
    rw [zero_cells w, ← show prC (xs.take i ++ List.replicate (xs.length + 1 - i) ([], [])) = _ from flatC_app _ _] at hb3 lenz
    rw [show i + (xs.length + 1 - i) = xs.length + 1 by omega] at gez
    have lenz2 : (prC (xs.take i ++ List.replicate (xs.length + 1 - i) (([], []) : Vr)) ++ restz).length = capz * 2 := lenz
    refine aL rfl <| en <| sr rfl <| mL rfl <| mI rfl <| Wp rfl <| st_part (i := i) (j := i + (xs.length + 1 - i)) T.u22 T.size42 rfl ⟨_, rfl⟩ rfl (by omega) (by omega) (by omega) <| mL rfl <| Wp rfl <| st_copy (vs := [S y.1, S y.2]) T.u22 T.size42 rfl rfl hb3 (hg.cells (n := 2) rfl) (by simp only [List.length_cons, List.length_nil]; omega) (by simp only [List.length_cons, List.length_nil]; omega) (by intro u hu; simp only [List.mem_cons, List.mem_nil_iff, or_false] at hu; rcases hu with rfl | rfl <;> rfl) ?_
    intro w4 c5 hb6
    clear hb3
    replace HC := HC.then1 c5 ge_gz
    replace hA := hA.tr1 c5 (by omega)
    replace hg := hg.tr1 c5 (by omega)
    refine en <| x_seq <| x_draw [(0, 0), (1, 0), (2, 0), (3, 0), (4, 0), (5, 0), (6, 0), (7, 0), (8, 2)] T.mixed rfl rfl rfl (fun W => W.heap[ga]? = w4.heap[ga]? ∧ W.heap[g]? = w4.heap[g]? ∧ W.heap[gz]? = w4.heap[gz]? ∧ True) ⟨rfl, rfl, rfl, trivial⟩ ?_
    have o9 := hA
    have o10 := hg
    have o11 := hb6
    have c8 := Chg.drew w4
    generalize World.drew w4 = w7 at c8 ⊢
    replace HC := HC.then c8
    replace hA := hA.tr0 c8
    replace hg := hg.tr0 c8
    replace hb6 := hb6.tr0 c8
    refine sq_q rfl (fun W hT => r_move (v := .slice _ _ _) rfl) <| sq_q rfl (fun W hT => r_move (v := .int _ _) rfl) <| sq_q rfl (fun W hT => r_move (v := .int _ _) rfl) <| sq_q rfl (fun W hT => r_addn rfl rfl (by constructor <;> omega)) <| sq_q rfl (fun W hT => r_part (i := i + 1) (j := i + (xs.length + 1 - i)) T.u22 T.size42 rfl ⟨_, rfl⟩ rfl (by omega) (by omega) (by omega)) <| sq_q rfl (fun W hT => r_move (v := .slice _ _ _) rfl) <| sq_q rfl (fun W hT => r_move (v := .int _ _) rfl) <| sq_q rfl (fun W hT => r_part (i := i) (j := xs.length) T.u22 T.size42 rfl ⟨_, rfl⟩ rfl (by omega) (by omega) (by omega)) <| sq_copy2 (vs := prC (xs.drop i)) rfl T.u22 T.size42 rfl rfl hb6 (fun j v hj => by have := (prC_cells hA (i := i)) j v hj; rw [Nat.zero_add]; exact this) (by rw [hdl]; omega) (by rw [hdl, setVs_len, lenz2]; omega) (prC_one _) ?_
    intro w12 c13 hb14
    clear hb6
    replace HC := HC.then1 c13 ge_gz
    replace hA := hA.tr1 c13 (by omega)
    replace hg := hg.tr1 c13 (by omega)
    clear o9
    clear o10
    clear o11
    refine sq_nil <| then_n <| sr rfl <| mL rfl <| aL rfl <| en <| x_ret <| then_r <| ret_tmp (v := .slice _ _ _) rfl rfl ?_
    rw [insL_len (by omega)]
    have hfz : Blk w12 gz (prC (insL xs i y) ++ restz) 42 := by have h := hb14; rw [grow_cells hi rfl] at h; exact h
    exact ⟨⟨some ⟨gz, 0, none⟩, capz, by rw [show i + (xs.length + 1 - i) = xs.length + 1 by omega], Own.of_raw hfz (by show (prC (insL xs i y) ++ restz).length = _; simp only [List.length_append, prC_len, insL_len (Nat.le_of_lt hi), List.length_take, List.length_replicate] at lenz2 ⊢; omega) (by rw [insL_len (by omega)]; omega) (by omega) (hfr _ ge_gz)⟩, HC⟩
   ·try simp only [nm, ne_eq] at h2
    refine x_skip <| then_n <| sr rfl <| mL rfl <| mI rfl <| mI rfl <| Wp rfl <| st_addn rfl rfl (by constructor <;> omega) <| Wp rfl <| st_part (i := 0) (j := xs.length + 1) T.u22 T.size42 rfl rfl ⟨_, rfl⟩ (by omega) (by omega) (by omega) <| aL rfl <| en <| x_seq <| sr rfl <| mL rfl <| mL rfl <| mI rfl <| mI rfl <| Wp rfl <| st_addn rfl rfl (by constructor <;> omega) <| Wp rfl <| st_part (i := i + 1) (j := xs.length + 1 - 0) T.u22 T.size42 rfl ⟨_, rfl⟩ rfl (by omega) (by omega) (by omega) <| Wp rfl <| st_callV rfl rfl rfl (ovl_apart (tb := 4) Tryz.func95 (by kernel_rfl) (by kernel_rfl) (by kernel_rfl) (by kernel_rfl) T.u22 T.size42 hg hA ngg (by rw [prC_ne (by omega)]; simp)) <| Wp rfl <| st_not rfl <| en <| x_cond (t := true) rfl (fun h3 => ?_) (fun h3 => ?_)
    rotate_left
    · exact absurd h3 (by decide)
    refine x_seq <| x_draw [(0, 0), (1, 0), (2, 0), (3, 0), (4, 0), (5, 0), (6, 0), (7, 0), (8, 2)] T.mixed rfl rfl rfl (fun W => W.heap[ga]? = w.heap[ga]? ∧ W.heap[g]? = w.heap[g]? ∧ True) ⟨rfl, rfl, trivial⟩ ?_
    have o17 := hA
    have o18 := hg
    have c16 := Chg.drew w
    generalize World.drew w = w15 at c16 ⊢
    replace HC := HC.then c16
    replace hA := hA.tr0 c16
    replace hg := hg.tr0 c16
    refine sq_q rfl (fun W hT => r_move (v := .slice _ _ _) rfl) <| sq_q rfl (fun W hT => r_move (v := .int _ _) rfl) <| sq_q rfl (fun W hT => r_move (v := .int _ _) rfl) <| sq_q rfl (fun W hT => r_addn rfl rfl (by constructor <;> omega)) <| sq_q rfl (fun W hT => r_part (i := i + 1) (j := xs.length + 1 - 0) T.u22 T.size42 rfl ⟨_, rfl⟩ rfl (by omega) (by omega) (by omega)) <| sq_q rfl (fun W hT => r_move (v := .slice _ _ _) rfl) <| sq_q rfl (fun W hT => r_move (v := .int _ _) rfl) <| sq_q rfl (fun W hT => r_part (i := i) (j := xs.length + 1 - 0) T.u22 T.size42 rfl ⟨_, rfl⟩ rfl (by omega) (by omega) (by omega)) <| sq_copy2 (vs := prC (xs.drop i)) rfl T.u22 T.size42 rfl rfl hA (fun j v hj => by have := (prC_cells hA (i := i)) j v hj; rw [Nat.zero_add]; exact this) (by rw [hdl]; omega) (by rw [hdl, hln]; omega) (prC_one _) ?_
    intro w19 c20 hb21
    clear hA
    replace HC := HC.trans c20 (by intro x hx; simp only [List.mem_singleton] at hx; subst hx; exact .inl (by simp))
    replace hg := hg.tr1 c20 (by omega)
    clear o17
    clear o18
    refine sq_nil <| then_n <| sr rfl <| mL rfl <| mI rfl <| Wp rfl <| st_part (i := i) (j := xs.length + 1 - 0) T.u22 T.size42 rfl ⟨_, rfl⟩ rfl (by omega) (by omega) (by omega) <| mL rfl <| Wp rfl <| st_copy (vs := [S y.1, S y.2]) T.u22 T.size42 rfl rfl hb21 (hg.cells (n := 2) rfl) (by simp only [List.length_cons, List.length_nil]; omega) (by simp only [setVs_len, hln, List.length_cons, List.length_nil]; omega) (by intro u hu; simp only [List.mem_cons, List.mem_nil_iff, or_false] at hu; rcases hu with rfl | rfl <;> rfl) ?_
    intro w22 c23 hb24
    clear hb21
    replace HC := HC.trans c23 (by intro x hx; simp only [List.mem_singleton] at hx; subst hx; exact .inl (by simp))
    replace hg := hg.tr1 c23 (by omega)
    refine en <| sr rfl <| mL rfl <| aL rfl <| en <| x_ret <| then_r <| ret_tmp (v := .slice _ _ _) rfl rfl ?_
    rw [insL_len (by omega)]
    have hfz : Blk w22 ga (prC (insL xs i y) ++ rest.drop 2) 42 := by have h := hb24; rw [shift_cells hi (by omega)] at h; exact h
    exact ⟨⟨some ⟨ga, 0, none⟩, cap, rfl, Own.of_raw hfz (by show (prC (insL xs i y) ++ rest.drop 2).length = _; simp only [List.length_append, prC_len, insL_len (Nat.le_of_lt hi), List.length_drop]; omega) (by rw [insL_len (by omega)]; omega) (by omega) hD⟩, HC⟩

theorem insert_spec {xs : List Vr} {A : Option Addr} {cap g : Nat} {D : Nat → Prop} {y : Vr} {w : World} (ho : Own prE 42 w D A cap xs) (hg : Blk w g [S y.1, S y.2] 42) (hfr : ∀ k, w.heap.size ≤ k → D k) (hl : xs.length ≤ 1000000000) {i : Nat} (hi : i ≤ xs.length) (hgA : g ∉ ob A) : CallR Tryz.prog 74 #[.slice A xs.length cap, .int .i64 (i : Int), .slice (some ⟨g, 0, none⟩) 1 1] w fun v w' => (∃ A' cap', v = .slice A' (insL xs i y).length cap' ∧ Own prE 42 w' D A' cap' (insL xs i y)) ∧ Chg (ob A) w w' := by
  by_cases e : i = xs.length
  · subst e; rw [insL_end]; exact insert_end ho hg hfr hl
  · cases A with
    | none => rcases ho.form with h | ⟨_, h, _⟩
              · rw [h.2.2] at hi e; exact absurd (Nat.le_zero.1 hi) e
              · cases h
    | some a =>
      obtain ⟨ga, rest, rfl, _⟩ := ho.raw
      exact insert_mid ho hg hfr hl (by omega) (by intro e; subst e; exact hgA (by simp [ob]))
def putL (vs : List Vr) (n : Bytes) (x : Int) : List Vr := if isAt vs n = true then vs.set (plN vs n) (n, textV x) else insL vs (plN vs n) (n, textV x)
theorem set_cells {xs : List Vr} {i : Nat} {y : Vr} {rest : List Value} (hi : i < xs.length) : setVs (prC xs ++ rest) (0 + i * 2) [S y.1, S y.2] = prC (xs.set i y) ++ rest := by
  have hk : (prC (xs.take i)).length = i * 2 := by rw [prC_len, List.length_take]; omega
  rw [Nat.zero_add, setVs_eq _ _ _ (by simp only [List.length_append, prC_len, List.length_cons, List.length_nil]; omega)]
  have h1 : xs = xs.take i ++ xs[i] :: xs.drop (i + 1) := by rw [← List.drop_eq_getElem_cons hi, List.take_append_drop]
  have h2 : prC xs = prC (xs.take i) ++ [S xs[i].1, S xs[i].2] ++ prC (xs.drop (i + 1)) := by
    conv => lhs; rw [h1]
    rw [show prC (xs.take i ++ (xs[i] :: xs.drop (i + 1))) = prC (xs.take i) ++ prC (xs[i] :: xs.drop (i + 1)) from flatC_app _ _, prC_cons, List.append_assoc]
  have h3 : xs.set i y = xs.take i ++ y :: xs.drop (i + 1) := by rw [List.set_eq_take_append_cons_drop, if_pos hi]
  rw [h3, show prC (xs.take i ++ (y :: xs.drop (i + 1))) = prC (xs.take i) ++ prC (y :: xs.drop (i + 1)) from flatC_app _ _, prC_cons, h2]
  rw [show (prC (xs.take i) ++ [S xs[i].1, S xs[i].2] ++ prC (xs.drop (i + 1)) ++ rest).take (i * 2) = prC (xs.take i) by rw [List.append_assoc, List.append_assoc, ← hk, List.take_left]]
  rw [show (prC (xs.take i) ++ [S xs[i].1, S xs[i].2] ++ prC (xs.drop (i + 1)) ++ rest).drop (i * 2 + [S y.1, S y.2].length) = prC (xs.drop (i + 1)) ++ rest by rw [List.append_assoc (prC (xs.take i) ++ _), show i * 2 + [S y.1, S y.2].length = (prC (xs.take i) ++ [S xs[i].1, S xs[i].2]).length by simp only [List.length_append, List.length_cons, List.length_nil]; omega, List.drop_left]]
  simp only [List.append_assoc]
theorem isAt_lt {vs : List Vr} {n : Bytes} (h : isAt vs n = true) : plN vs n < vs.length := by
  unfold isAt at h
  cases h5 : vs[plN vs n]? with
  | none => rw [h5] at h; simp at h
  | some p => exact (List.getElem?_eq_some_iff.1 h5).1

theorem set_spec {vs : List Vr} {Al Av : Option Addr} {ll capl cv b : Nat} {e : Int} {w : World} (n : Bytes) (x : Int) (hx0 : -9223372036854775808 ≤ x) (hx1 : x ≤ 9223372036854775807) (hb : Blk w b [.slice Al ll capl, .slice Av vs.length cv, .int .i64 e] 49) (hv : Sl prE w (fun k => k ≠ b) Av vs) (hr : Rise vs) (hl : vs.length ≤ 1000000000) : CallR Tryz.prog 50 #[.pointer (some ⟨b, 0, none⟩), S n, .int .i64 x] w fun v w' => v = .int .i64 x ∧ (∃ Av cv, Blk w' b [.slice Al ll capl, .slice Av (putL vs n x).length cv, .int .i64 e] 49 ∧ Sl prE w' (fun k => k ≠ b) Av (putL vs n x)) ∧ Chg [b] w w' := by
 replace hv := hv.mono (D' := fun k => k ≠ b ∧ k < w.heap.size) (fun k hk hD => ⟨hD, hk⟩)
 refine callR_of_wp (args := [_, _, _]) Tryz.func50 rfl (Nat.le_of_ble_eq_true rfl) ?_
 have HC : Chg [b] w w := .refl _
 have HC0 : w.heap.size ≤ w.heap.size := Nat.le_refl _
 refine sr rfl <| aI rfl <| en <| sr rfl <| mS rfl <| mI rfl <| Wp rfl <| st_call (ags := [_]) rfl rfl T.ent20 rfl (TextI_spec x hx0 hx1 _) ?_
 rintro _ w1 ⟨rfl, c2⟩
 replace HC := HC.then c2
 replace hb := hb.tr0 c2
 replace hv := hv.tr0 c2
 replace HC0 := Nat.le_trans HC0 c2.size
 refine Wp rfl <| st_bld (ps := [(0, .tmp 10), (1, .tmp 12)]) (vs := [S _, S _]) T.bld42 rfl <| Wp rfl <| st_alloc T.zero42 ?_
 intro b7 w3 e4 c5 hb6
 have ge_b7 : w.heap.size ≤ b7 := by rw [e4]; exact HC.size
 have ne_b_b7 : b ≠ b7 := by rw [e4]; exact hb.ne_size
 replace HC := HC.then c5
 replace hb := hb.tr0 c5
 replace hv := hv.tr0 c5
 replace HC0 := Nat.le_trans HC0 c5.size
 clear e4
 refine Wp rfl <| st_store (v := .agg ⟨[S _, S _]⟩) T.size42 rfl rfl rfl hb6 rfl (Nat.le_of_ble_eq_true rfl) (by simp [Value.oneCell', S]) rfl ?_
 intro w7 c8 hb9; simp only [setVs, setV] at hb9
 clear hb6
 replace HC := HC.then1 c8 ge_b7
 replace hb := hb.tr1 c8 ne_b_b7
 replace hv := hv.tr c8 (by intro k hx hD; obtain rfl := List.mem_singleton.1 hx; first | exact hD rfl | exact hD.1 rfl | (have hD2 := hD.2; omega))
 replace HC0 := Nat.le_trans HC0 c8.size
 refine en <| sr rfl <| mP rfl <| mP rfl <| nc rfl <| fa T.fld49_1 rfl <| lL T.one22 rfl (hb.cell rfl) ?_
 have hbw : b < w7.heap.size := hb.lt
 have h7w : b7 < w7.heap.size := hb9.lt
 have hcw := HC0
 have hwc : w7.heap.size ≤ w7.heap.size := Nat.le_refl _
 refine Wp rfl <| st_call (ags := [_]) rfl rfl T.ent73 rfl (clone_spec hv hl) ?_
 rintro _ w10 ⟨⟨A1, cap1, rfl, ho1⟩, c11⟩
 replace HC := HC.then c11
 replace hb := hb.tr0 c11
 replace hv := hv.tr0 c11
 replace HC0 := Nat.le_trans HC0 c11.size
 replace hb9 := hb9.tr0 c11
 replace hwc := Nat.le_trans hwc c11.size
 have nab : b ∉ ob A1 := fun hx => by have := ho1.inD _ hx; omega
 have na7 : b7 ∉ ob A1 := fun hx => by have := ho1.inD _ hx; omega
 have nah : ∀ k, k ∈ ob A1 → w.heap.size ≤ k := fun k hk => Nat.le_trans hcw (ho1.inD k hk)
 refine nc rfl <| fa T.fld49_1 rfl <| Wp rfl <| st_store (v := .slice _ _ _) T.size22 rfl rfl rfl hb rfl (Nat.le_of_ble_eq_true rfl) (by simp [Value.oneCell', S]) rfl ?_
 intro w12 c13 hb14; simp only [setVs, setV] at hb14
 clear hb
 replace HC := HC.trans c13 (by intro x hx; simp only [List.mem_singleton] at hx; subst hx; exact .inl (by simp))
 replace hb9 := hb9.tr1 c13 (Ne.symm ne_b_b7)
 replace hwc := Nat.le_trans hwc c13.size
 replace ho1 := ho1.trF flat_flat c13 (by intro k hk hx; simp only [List.mem_singleton] at hx; subst hx; exact nab hk)
 refine en <| x_seq <| x_seq ?_
 have hv1 := ho1.sl
 refine x_region rfl <| mP rfl <| nc rfl <| fa T.fld49_1 rfl <| lL T.one22 rfl (hb14.cell rfl) <| mS rfl <| Wp rfl <| st_call (ags := [_, _]) rfl rfl T.ent47 rfl (place_spec n hv1 hr hl) ?_
 rintro _ w15 ⟨rfl, c16⟩
 replace HC := HC.then c16
 replace hb9 := hb9.tr0 c16
 replace hwc := Nat.le_trans hwc c16.size
 replace ho1 := ho1.tr0 c16
 replace hb14 := hb14.tr0 c16
 refine mv (v := .tuple ⟨[_, _]⟩) rfl <| Wp rfl <| st_extract (vs := [_, _]) (v := .int _ _) rfl rfl <| Wp rfl <| st_extract (vs := [_, _]) (v := .bool _) rfl rfl <| aI rfl <| aB rfl <| en <| sr rfl <| mB rfl <| en <| x_cond rfl (fun h0 => ?_) (fun h0 => ?_)
 ·try simp only [nm, ne_eq] at h0
  have hilt := isAt_lt h0
  obtain ⟨a1, rfl⟩ : ∃ a, A1 = some a := by cases A1 with | none => (rcases ho1.form with h | ⟨_, h, _⟩ <;> first | (cases h; done) | (rw [h.2.2] at hilt; cases hilt)) | some a => exact ⟨a, rfl⟩
  obtain ⟨ga, rest, hge, hA, hln0, hle, hcap, hDg⟩ := ho1.raw
  cases hge
  have hln : (prC vs ++ rest).length = cap1 * 2 := hln0
  replace hA : Blk w15 ga (prC vs ++ rest) 42 := hA
  refine x_draw [(0, 0), (1, 0), (2, 0), (3, 0), (4, 0), (5, 0), (6, 0), (7, 2)] T.mixed rfl rfl rfl (fun W => W.heap[b7]? = w15.heap[b7]? ∧ W.heap[b]? = w15.heap[b]? ∧ W.heap[ga]? = w15.heap[ga]? ∧ True) ⟨rfl, rfl, rfl, trivial⟩ ?_
  have o19 := hb9
  have o20 := hb14
  have o21 := hA
  have c18 := Chg.drew w15
  generalize World.drew w15 = w17 at c18 ⊢
  replace HC := HC.then c18
  replace hb9 := hb9.tr0 c18
  replace hwc := Nat.le_trans hwc c18.size
  replace hb14 := hb14.tr0 c18
  replace hA := hA.tr0 c18
  refine sq_q rfl (fun W hT => r_move (v := .pointer _) rfl) <| sq_q rfl (fun W hT => r_nilCheck rfl) <| sq_q rfl (fun W hT => r_fieldAddr T.fld49_1 rfl) <| sq_q rfl (fun W hT => r_load1 (v := .slice _ _ _) T.one22 rfl (Blk.cell (show Blk W b _ _ from hT.2.1.trans o20) rfl)) <| sq_q rfl (fun W hT => r_move (v := .int _ _) rfl) <| sq_q rfl (fun W hT => r_loadA (vs := [_, _]) T.agg42 rfl (Blk.cells (n := 2) (vs := [_, _]) (show Blk W b7 _ _ from hT.1.trans o19) rfl) rfl) <| sq_q rfl (fun W hT => r_indexAddr (b := ga) (o := 0) (i := (plN vs n : Int)) T.u22 T.size42 rfl rfl (by omega) (by omega)) <| sq_store2 rfl T.size42 rfl rfl rfl hA rfl (by show 0 + plN vs n * 2 + 2 ≤ (prC vs ++ rest).length; rw [hln]; omega) (by simp [Value.oneCell', S]) rfl ?_
  intro w22 c23 hb24
  replace hb24 : Blk w22 ga (prC (vs.set (plN vs n) (n, textV x)) ++ rest) 42 := by rw [← set_cells hilt]; exact hb24
  clear hA
  replace hb9 := hb9.tr1 c23 (fun e => na7 (by simp [ob, e]))
  replace hb14 := hb14.tr1 c23 (fun e => nab (by simp [ob, e]))
  replace HC := HC.then1 c23 (nah ga (by simp [ob]))
  clear o19
  clear o20
  clear o21
  refine sq_nil <| then_n <| sr rfl <| mI rfl <| aI rfl <| en <| x_ret <| ret_tmp (v := .int _ _) rfl rfl ?_
  have hpv : putL vs n x = vs.set (plN vs n) (n, textV x) := by unfold putL; rw [if_pos h0]
  rw [hpv, List.length_set]
  refine ⟨rfl, ⟨_, cap1, hb14, ?_⟩, HC⟩
  exact ((Own.of_raw (D := fun k => k ≠ b) hb24 (by show (prC (vs.set (plN vs n) (n, textV x)) ++ rest).length = _; rw [← hln]; simp only [List.length_append, prC_len, List.length_set]) (by rw [List.length_set]; omega) (by omega) (fun e => nab (by simp [ob, e]))) : Own prE 42 _ _ _ _ _).sl
 ·try simp only [nm, ne_eq] at h0
  refine x_draw [(0, 0), (1, 0), (2, 0), (3, 0), (4, 0), (5, 0), (6, 0), (7, 1), (8, 1), (9, 0), (10, 0), (11, 2)] T.mixed rfl rfl rfl (fun W => W.heap[b7]? = w15.heap[b7]? ∧ W.heap[b]? = w15.heap[b]? ∧ True) ⟨rfl, rfl, trivial⟩ ?_
  have o27 := hb9
  have o28 := hb14
  have c26 := Chg.drew w15
  generalize World.drew w15 = w25 at c26 ⊢
  replace HC := HC.then c26
  replace hb9 := hb9.tr0 c26
  replace hwc := Nat.le_trans hwc c26.size
  replace ho1 := ho1.tr0 c26
  replace hb14 := hb14.tr0 c26
  refine sq_q rfl (fun W hT => r_move (v := .pointer _) rfl) <| sq_q rfl (fun W hT => r_move (v := .pointer _) rfl) <| sq_q rfl (fun W hT => r_nilCheck rfl) <| sq_q rfl (fun W hT => r_fieldAddr T.fld49_1 rfl) <| sq_q rfl (fun W hT => r_load1 (v := .slice _ _ _) T.one22 rfl (Blk.cell (show Blk W b _ _ from hT.2.1.trans o28) rfl)) <| sq_q rfl (fun W hT => r_move (v := .int _ _) rfl) <| sq_q rfl (fun W hT => r_loadA (vs := [_, _]) T.agg42 rfl (Blk.cells (n := 2) (vs := [_, _]) (show Blk W b7 _ _ from hT.1.trans o27) rfl) rfl) <| sq_lit1 (ps := [(0, .tmp 45)]) (vs := [S _, S _]) rfl T.lit22 (by decide) rfl (by simp only [List.forall_mem_cons, List.not_mem_nil, false_imp_iff, implies_true, and_true]; exact rfl) rfl ?_
  intro b29 w30 e31 c32 hb33
  have ge_b29 : w.heap.size ≤ b29 := by rw [e31]; exact HC.size
  have ne_b7_b29 : b7 ≠ b29 := by rw [e31]; exact hb9.ne_size
  have ne_b_b29 : b ≠ b29 := by rw [e31]; exact hb14.ne_size
  have na_b29 : b29 ∉ ob A1 := ho1.fresh (by rw [e31]; exact Nat.le_refl _)
  replace HC := HC.then c32
  replace hb9 := hb9.tr0 c32
  replace hwc := Nat.le_trans hwc c32.size
  replace ho1 := ho1.tr0 c32
  replace hb14 := hb14.tr0 c32
  clear e31
  refine ext_T (b := b29) ⟨(Eq.trans hb9 o27.symm), (Eq.trans hb14 o28.symm), trivial⟩ ?_
  have o34 := hb33
  refine sq_call1 rfl (r_call (ags := [_, _, _]) rfl rfl T.ent74 rfl) (insert_spec (y := (n, textV x)) ho1 hb33 (fun k hk => Nat.le_trans hwc hk) hl (plN_le vs n) na_b29) ?_
  rintro _ w35 ⟨⟨A2, cap2, rfl, ho2⟩, c36⟩
  replace HC := HC.trans c36 (fun k hk => .inr (nah k hk))
  replace hb9 := hb9.tr c36 na7
  replace hb14 := hb14.tr c36 nab
  replace hb33 := hb33.tr c36 na_b29
  have nab2 : b ∉ ob A2 := fun hx => by have := ho2.inD _ hx; omega
  refine ⟨_, fun _ h => h, ⟨(Eq.trans hb33 o34.symm), ⟨(Eq.trans hb9 o27.symm), (Eq.trans hb14 o28.symm), trivial⟩⟩, ?_⟩
  refine sq_q rfl (fun W hT => r_nilCheck rfl) <| sq_q rfl (fun W hT => r_fieldAddr T.fld49_1 rfl) <| sq_store2 rfl T.size22 (v := .slice _ _ _) rfl rfl rfl hb14 rfl (Nat.le_of_ble_eq_true rfl) (by simp [Value.oneCell', S]) rfl ?_
  intro w37 c38 hb39; simp only [setVs, setV] at hb39
  clear hb14
  replace HC := HC.trans c38 (by intro x hx; simp only [List.mem_singleton] at hx; subst hx; exact .inl (by simp))
  replace hb9 := hb9.tr1 c38 (Ne.symm ne_b_b7)
  replace hb33 := hb33.tr1 c38 (Ne.symm ne_b_b29)
  replace ho2 := ho2.trF flat_flat c38 (by intro k hk hx; simp only [List.mem_singleton] at hx; subst hx; exact nab2 hk)
  clear o27
  clear o28
  clear o34
  refine sq_nil <| then_n <| sr rfl <| mI rfl <| aI rfl <| en <| x_ret <| ret_tmp (v := .int _ _) rfl rfl ?_
  have hpv : putL vs n x = insL vs (plN vs n) (n, textV x) := by unfold putL; rw [if_neg (by rw [h0]; simp)]
  rw [hpv]
  exact ⟨rfl, ⟨A2, cap2, hb39, (ho2.sl).mono (fun k hk hD => by intro e; subst e; exact absurd hD (Nat.not_le.2 hbw))⟩, HC⟩

end Go.Proofs.YtmbbhgglllfelaaGreatDoor.K
set_option linter.unusedVariables false
set_option linter.unusedSimpArgs false
set_option autoImplicit false
set_option maxRecDepth 20000
namespace Go.Proofs.YtmbbhgglllfelaaGreatDoor.K
open Go Go.Proofs Go.RowKit
namespace Tr
/-- A tree's own operation. -/
def node : Tr → Nat → Nd
  | num n, _ => ⟨[35], n, [], []⟩
  | var s, _ => ⟨[36], 0, s, []⟩
  | asg o n t, b => ⟨o, 0, n, [t.root b]⟩
  | un o t, b => ⟨117 :: o, 0, [], [t.root b]⟩
  | cnd x y z, b => ⟨[63], 0, [], [x.root b, y.root (b + x.sz), z.root (b + x.sz + y.sz)]⟩
  | bin o x y, b => ⟨o, 0, [], [x.root b, y.root (b + x.sz)]⟩
/-- Its kids: each a tree, and where it begins. -/
def kidsT : Tr → Nat → List (Tr × Nat)
  | num _, _ => []
  | var _, _ => []
  | asg _ _ t, b => [(t, b)]
  | un _ t, b => [(t, b)]
  | cnd x y z, b => [(x, b), (y, b + x.sz), (z, b + x.sz + y.sz)]
  | bin _ x y, b => [(x, b), (y, b + x.sz)]
theorem node_kids (t : Tr) (b : Nat) : (t.node b).kids = (t.kidsT b).map fun c => c.1.root c.2 := by cases t <;> rfl
/-- A tree's row lies in a row, from a place on. -/
def SubAt (l : List Nd) (t : Tr) (b : Nat) : Prop := ∀ j x, (t.row b)[j]? = some x → l[b + j]? = some x
theorem SubAt.left {l : List Nd} {t : Tr} {b : Nat} {r s : List Nd} (h : ∀ j x, (r ++ s)[j]? = some x → l[b + j]? = some x) : ∀ j x, r[j]? = some x → l[b + j]? = some x := fun j x hj => h j x (by
  have := (List.getElem?_eq_some_iff.1 hj).1
  rw [List.getElem?_append_left this]; exact hj)
theorem SubAt.right {l : List Nd} {b : Nat} {r s : List Nd} {n : Nat} (hn : r.length = n) (h : ∀ j x, (r ++ s)[j]? = some x → l[b + j]? = some x) : ∀ j x, s[j]? = some x → l[b + n + j]? = some x := fun j x hj => by
  rw [Nat.add_assoc]
  refine h (n + j) x ?_
  rw [List.getElem?_append_right (by omega), show n + j - r.length = j by omega]; exact hj
theorem sub_node {l : List Nd} {t : Tr} {b : Nat} (h : SubAt l t b) : l[b + t.sz - 1]? = some (t.node b) := by
  have hp := t.sz_pos
  have : (t.row b)[t.sz - 1]? = some (t.node b) := by
    cases t with
    | num n => rfl
    | var s => rfl
    | asg o n t => simp only [row, sz, node]; rw [List.getElem?_append_right (by rw [row_len]; omega), row_len, show t.sz + 1 - 1 - t.sz = 0 by omega]; rfl
    | un o t => simp only [row, sz, node]; rw [List.getElem?_append_right (by rw [row_len]; omega), row_len, show t.sz + 1 - 1 - t.sz = 0 by omega]; rfl
    | cnd x y z =>
      simp only [row, sz, node]
      rw [List.getElem?_append_right (by rw [row_len]; omega), row_len, List.getElem?_append_right (by rw [row_len]; omega), row_len, List.getElem?_append_right (by rw [row_len]; omega), row_len, show x.sz + y.sz + z.sz + 1 - 1 - x.sz - y.sz - z.sz = 0 by omega]; rfl
    | bin o x y =>
      simp only [row, sz, node]
      rw [List.getElem?_append_right (by rw [row_len]; omega), row_len, List.getElem?_append_right (by rw [row_len]; omega), row_len, show x.sz + y.sz + 1 - 1 - x.sz - y.sz = 0 by omega]; rfl
  have h2 := h _ _ this
  rwa [show b + (t.sz - 1) = b + t.sz - 1 by omega] at h2
theorem sub_kid {l : List Nd} {t : Tr} {b : Nat} (h : SubAt l t b) (hok : t.ok) : ∀ c, c ∈ t.kidsT b → SubAt l c.1 c.2 ∧ c.1.sz < t.sz ∧ c.2 + c.1.sz ≤ b + t.sz ∧ c.1.ok ∧ lightN (c.1.row c.2) ≤ lightN (t.row b) := by
  intro c hc
  cases t with
  | num n => cases hc
  | var s => cases hc
  | asg o n t =>
    obtain rfl := List.mem_singleton.1 hc
    exact ⟨SubAt.left (t := t) h, by simp [sz], by simp [sz], hok.2.2, by simp only [row, lightN_append]; omega⟩
  | un o t =>
    obtain rfl := List.mem_singleton.1 hc
    exact ⟨SubAt.left (t := t) h, by simp [sz], by simp [sz], hok.2, by simp only [row, lightN_append]; omega⟩
  | cnd x y z =>
    simp only [kidsT, List.mem_cons, List.not_mem_nil, or_false] at hc
    have hy := SubAt.right (row_len x b) h
    rcases hc with rfl | rfl | rfl
    · exact ⟨SubAt.left (t := x) h, by simp only [sz]; omega, by simp only [sz]; omega, hok.1, by simp only [row, lightN_append]; omega⟩
    · exact ⟨SubAt.left (t := y) hy, by simp only [sz]; omega, by simp only [sz]; omega, hok.2.1, by simp only [row, lightN_append]; omega⟩
    · exact ⟨SubAt.left (t := z) (SubAt.right (row_len y _) hy), by simp only [sz]; omega, by simp only [sz]; omega, hok.2.2, by simp only [row, lightN_append]; omega⟩
  | bin o x y =>
    simp only [kidsT, List.mem_cons, List.not_mem_nil, or_false] at hc
    have hy := SubAt.right (row_len x b) h
    rcases hc with rfl | rfl
    · exact ⟨SubAt.left (t := x) h, by simp only [sz]; omega, by simp only [sz]; omega, hok.2.1, by simp only [row, lightN_append]; omega⟩
    · exact ⟨SubAt.left (t := y) hy, by simp only [sz]; omega, by simp only [sz]; omega, hok.2.2, by simp only [row, lightN_append]; omega⟩
end Tr
end Go.Proofs.YtmbbhgglllfelaaGreatDoor.K
