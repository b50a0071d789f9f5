/- The law EchoPlain. -/
import Derived.Test.YtlpndcpbnbeohaaDoorEj
set_option linter.unusedVariables false
set_option linter.unusedSimpArgs false
set_option autoImplicit false
set_option maxRecDepth 20000
namespace Go.Proofs.YtlpndcpbnbeohaaDoor.K
open Go Go.Proofs Go.RowKit

section
variable {P : Program} {r : Option Nat} {n : Nat} {O : Array Oper} {Q : Post} {E : Env} {ds : List Deferred} {w : World} {l : List Oper}
variable {dst : Option Nat} {ty : TypeId} {pos : String} {af : Array Edge} {g : Option (Nat × Bool)}
theorem r_append0 {t e : TypeId} {x y : Operand} {m cap c sz bytes : Nat} {A B : Option Addr} (hS : sliceB P t e sz bytes) (hx : ev E x = .slice B m cap) (hy : ev E y = .slice A 0 c) (hm : m ≤ cap) :
    (execOp (ev E) ⟨dst, .call ⟨.builtin .append, #[x, y], #[t, t]⟩, ty, pos, af, g⟩).run P w = .ok (.value (.slice B m cap)) w := by
  obtain ⟨ht, hi0, i0, z, hi, hzz, hzs⟩ := hS
  have ha : (Builtin.append_ #[t, t] ty #[.slice B m cap, .slice A 0 c]).run P w = .ok (.slice B m cap) w := by
    cases A <;> cases B <;> simp [Builtin.append_, run_underlying ht, sizeOf, typeInfo, hi, Builtin.lenOf, Builtin.firstCells, hm, storeCells, loadCells, loadCellsFrom, go_sem]
  simp only [execOp, resolve, invoke, builtin, List.map_toArray, List.map_cons, List.map_nil, hx, hy, Sem.run_bind, Sem.run_pure, ha, Result.andThen]
/-- Texts that lie elsewhere are appended. -/
theorem st_appendS {D Dl : Nat → Prop} {A B : Option Addr} {cap m k m2 : Nat} {xs ys : List Bytes} {t e : TypeId} {bytes : Nat} {x y : Operand} (hS : sliceB P t e 1 bytes)
    (hx : ev E x = .slice A m cap) (hm : m = xs.length) (ho : Own sE e w D A cap xs) (hyv : ev E y = .slice B k m2) (hk : k = ys.length) (hy : Sl sE w Dl B ys)
    (hfr : ∀ k, w.heap.size ≤ k → D k) (h63 : xs.length + ys.length ≤ 9223372036854775807) (hby : (xs.length + ys.length) * bytes ≤ 140737488355328)
    (h : ∀ A' cap' w', Own sE e w' D A' cap' (xs ++ ys) → Chg (ob A) w w' → wops P r n O Q l (updo E dst (.slice A' (xs ++ ys).length cap')) ds w') : wop P r n O Q ⟨dst, .call ⟨.builtin .append, #[x, y], #[t, t]⟩, ty, pos, af, g⟩ l E ds w := by
  cases ys with
  | nil =>
    subst hm hk
    have hr := r_append0 (dst := dst) (ty := ty) (pos := pos) (af := af) (g := g) (w := w) hS hx hyv ho.le.1
    have h2 := h A cap w (by rw [List.append_nil]; exact ho) (.refl _)
    rw [List.append_nil] at h2
    exact wop_run (fun _ => by simp) hr h2
  | cons y0 ys0 =>
    rcases hy with hy | ⟨b, o, rfl, _, _, hc⟩
    · cases hy
    obtain ⟨A', cap', w', h1, h2, h3, h4⟩ := r_append (dst := dst) (ty := ty) (pos := pos) (af := af) (g := g) (D2 := fun _ => False) hS hx hm ho hyv hk (fun j y hj => by obtain ⟨vs, q1, q2⟩ := hc j y hj; exact ⟨vs, q1, q2⟩) (fun _ _ h => h.elim) hfr h63 hby
    have h5 := h A' cap' w' h2 h3
    rw [List.length_append] at h5
    exact wop_run (fun _ => by simp) h1 h5
end
theorem own_lit {α : Type} {sz : Nat} {f : α → List Value} {h1 h2 h3} {w : World} {b : Nat} {T' : TypeId} (xs : List α) (hm : xs.length ≤ 9223372036854775807) (h : Blk w b (xs.flatMap f) T') : Own (Enc.flat sz f h1 h2 h3) T' w (fun k => b ≤ k) (some ⟨b, 0, none⟩) xs.length xs :=
  Own.of_blk h (Nat.le_refl _) hm (chunks_flat xs)
def tot : List Bytes → Nat
  | [] => 0
  | s :: l => s.length + tot l
def shortB (l : List Bytes) : Bool := decide (tot l ≤ 2000 ∧ l.length ≤ 30)
theorem tot_append (a b : List Bytes) : tot (a ++ b) = tot a + tot b := by induction a <;> simp_all [tot, Nat.add_assoc]
theorem tot_step {l : List Bytes} {i : Nat} {x : Bytes} (h : l[i]? = some x) : tot (l.take (i + 1)) = tot (l.take i) + x.length := by
  rw [List.take_add_one, h, tot_append]; simp [tot]
theorem tot_take (l : List Bytes) (i : Nat) : tot (l.take i) ≤ tot l := by
  have := tot_append (l.take i) (l.drop i); rw [List.take_append_drop] at this; omega
theorem tot_mem {l : List Bytes} {s : Bytes} (h : s ∈ l) : s.length ≤ tot l := by
  induction l with
  | nil => cases h
  | cons a l ih => rcases List.mem_cons.1 h with rfl | h; (show _ ≤ _ + _; omega); (have := ih h; show _ ≤ _ + _; omega)
/-- Each with a byte 10 behind. -/
def wan : List Bytes → Bytes
  | [] => []
  | s :: l => s ++ [10] ++ wan l
theorem wan_append (a b : List Bytes) : wan (a ++ b) = wan a ++ wan b := by induction a <;> simp_all [wan]
theorem wan_step {l : List Bytes} {i : Nat} {x : Bytes} (h : l[i]? = some x) : wan (l.take (i + 1)) = wan (l.take i) ++ (x ++ [10]) := by
  rw [List.take_add_one, h, wan_append]; simp [wan]
theorem wan_len (l : List Bytes) : (wan l).length = tot l + l.length := by
  induction l with
  | nil => rfl
  | cons s l ih => simp only [wan, tot, List.length_append, List.length_cons, List.length_nil, ih]; omega
theorem cnv_s (s : Bytes) : cnvO ⟨false, false, 0, -1, 115⟩ s = s := by
  show padV ⟨false, false, 0, -1, 115⟩ (if 0 ≤ (-1 : Int) then _ else s) = s
  rw [if_neg (by decide)]
  unfold padV
  rw [if_neg (by decide), show ((0 : Int) - (s.length : Int)).toNat = 0 by omega]; rfl
theorem once_s {q : Wr} (hd : q.done = false) (ho : q.out.length + (hdS q.args).length ≤ 65536) : onceF 5 [37, 115, 92, 110] q = ⟨q.args.tail, true, false, q.st, q.out ++ hdS q.args ++ [10]⟩ := by
  rw [once_yes ⟨by simp, hd, by omega⟩, if_neg (by decide), if_neg (by decide), if_pos (by decide), if_neg (by decide)]
  have e1 : rdX (List.drop 1 [37, 115, 92, 110]) = ⟨false, false, 0, -1, 115⟩ := by kernel_rfl
  have e2 : (rd3 (List.drop 1 [37, 115, 92, 110])).drop 1 = [92, 110] := by kernel_rfl
  have e3 : cnvQ q ⟨false, false, 0, -1, 115⟩ = ⟨q.args.tail, true, false, q.st, q.out ++ hdS q.args⟩ := by
    unfold cnvQ
    rw [cnv_s, show cnvE ⟨false, false, 0, -1, 115⟩ (hdS q.args) q.done = q.done from rfl, hd]; rfl
  rw [e1, e2, e3, once_yes ⟨by simp, rfl, by show (q.out ++ hdS q.args).length ≤ _; rw [List.length_append]; omega⟩, if_pos (by decide)]
  have e4 : (escV [92, 110] false) = (10, 2) := by kernel_rfl
  rw [e4]; rfl
theorem prn_s : ∀ (l : List Bytes) (s : Bytes) (k : Nat) (q : Wr), q.args = s :: l → q.done = false → l.length < k → q.out.length + (wan (s :: l)).length ≤ 65536 → (prnF k [37, 115, 92, 110] q).out = q.out ++ wan (s :: l) ∧ (prnF k [37, 115, 92, 110] q).st = q.st
  | l, s, 0, q, _, _, h, _ => by omega
  | l, s, k + 1, q, ha, hd, hk, ho => by
    have hlen : (wan (s :: l)).length = s.length + 1 + (wan l).length := by simp only [wan, List.length_append, List.length_cons, List.length_nil]
    have h1 : one1 [37, 115, 92, 110] q = ⟨l, true, false, q.st, q.out ++ s ++ [10]⟩ := by
      have := once_s (q := ⟨q.args, false, q.done, q.st, q.out⟩) hd (by rw [ha]; show q.out.length + s.length ≤ _; omega)
      unfold one1
      rw [show ([37, 115, 92, 110] : Bytes).length + 1 = 5 from rfl, this]
      simp only [ha]; rfl
    rw [prnF, h1]
    cases l with
    | nil =>
      rw [if_neg (fun h => h.1 rfl)]
      exact ⟨by simp [wan], rfl⟩
    | cons s2 l =>
      have hln : (q.out ++ s ++ [10]).length = q.out.length + s.length + 1 := by simp only [List.length_append, List.length_cons, List.length_nil]
      rw [if_pos ⟨by simp, rfl, rfl, by show (q.out ++ s ++ [10]).length ≤ _; omega⟩]
      have := prn_s l s2 k ⟨s2 :: l, true, false, q.st, q.out ++ s ++ [10]⟩ rfl rfl (by simp only [List.length_cons] at hk; omega) (by show (q.out ++ s ++ [10]).length + _ ≤ _; omega)
      rw [this.1, this.2]
      exact ⟨by simp [wan], rfl⟩
theorem printf_s (l : List Bytes) (h : (wan l).length ≤ 65536) : printfV ([37, 115, 92, 110] :: l) = (if l.length = 0 then [10] else wan l, 0) := by
  cases l with
  | nil => kernel_rfl
  | cons s l =>
    have h1 := prn_s l s (l.length + 1 + 1) ⟨s :: l, false, false, 0, []⟩ rfl rfl (by omega) (by simpa using h)
    have h2 : (prnV [37, 115, 92, 110] (s :: l)).out = wan (s :: l) := h1.1
    have h3 : (prnV [37, 115, 92, 110] (s :: l)).st = 0 := h1.2
    rw [printf_cons, h2, h3, if_neg (by omega), if_neg (by simp)]
theorem hp_37 {c : UInt8} {f : Bytes} (h : c.toNat ≠ 37) : Lib.hasPrefix (c :: f) [37, 37] = false := by
  have h2 : ((37 : UInt8) == c) = false := by
    rw [beq_eq_false_iff_ne]; intro h3; rw [← h3] at h; exact h (by decide)
  show (((37 : UInt8) == c) && _) = false
  rw [h2]; rfl
theorem once_f : ∀ (f : Bytes) (k : Nat) (q : Wr), (∀ x, x ∈ f → x.toNat ≠ 37 ∧ x.toNat ≠ 92) → q.done = false → f.length < k → q.out.length + f.length ≤ 65536 → onceF k f q = ⟨q.args, q.took, q.done, q.st, q.out ++ f⟩
  | [], k, q, _, _, _, _ => by rw [once_no (fun h => h.1 rfl)]; simp
  | c :: f, 0, q, _, _, h, _ => by simp at h
  | c :: f, k + 1, q, hf, hd, hk, ho => by
    simp only [List.length_cons] at hk ho
    have hc := hf c (by simp)
    have hb : byte (c :: f) 0 = c := rfl
    rw [once_yes ⟨by simp, hd, by omega⟩, hb, if_neg (by omega), if_neg (by rw [hp_37 hc.1]; decide), if_neg (by omega)]
    rw [show (c :: f).drop 1 = f from rfl, once_f f k ⟨q.args, q.took, q.done, q.st, q.out ++ [c]⟩ (fun x hx => hf x (by simp [hx])) hd (by omega) (by show (q.out ++ [c]).length + _ ≤ _; rw [List.length_append]; simp only [List.length_cons, List.length_nil]; omega)]
    simp
theorem printf_f (f : Bytes) (l : List Bytes) (hf : ∀ x, x ∈ f → x.toNat ≠ 37 ∧ x.toNat ≠ 92) (h : f.length ≤ 65536) : printfV (f :: l) = (f, 0) := by
  have h1 : one1 f ⟨l, false, false, 0, []⟩ = ⟨l, false, false, 0, f⟩ := by
    unfold one1; rw [once_f f _ _ hf rfl (by omega) (by simpa using h)]; rfl
  have h2 : prnV f l = ⟨l, false, false, 0, f⟩ := by
    unfold prnV; rw [prnF, h1, if_neg (fun h => by have := h.2.1; cases this)]
  rw [printf_cons, h2, if_neg (by show ¬ 65536 < f.length; omega)]

theorem short_spec {A : Option Addr} {c : Nat} {Dl : Nat → Prop} {args : List Bytes} {w : World} (hl : Sl sE w Dl A args) (hc : args.length ≤ c) (hb : ∀ s, s ∈ args → s.length ≤ 140737488351232) (hn : args.length ≤ 140737488351232) : CallR Tryd.prog 7 #[.slice A args.length c] w fun v w' => v = .bool (shortB args) ∧ Chg [] w w' := by
 replace hl := hl.mono (D' := fun k => k < w.heap.size) (fun k hk _ => hk)
 refine callR_of_wp (args := [_]) Tryd.func7 rfl (Nat.le_of_ble_eq_true rfl) ?_
 have HC : Chg [] w w := .refl _
 refine sr rfl <| aB rfl <| en <| sr rfl <| aI rfl <| en <| x_seq <| sr rfl <| aI rfl <| en <| x_block <| x_loop (ι := Nat × Nat) [3, 4, 5, 6, 7, 8, 9, 10, 11, 12, 13, 14, 15, 16, 17, 18, 19, 20, 21] (fun ⟨i, n⟩ => [(4, .int .i64 (i : Int)), (3, .int .i64 (n : Int))]) (fun ⟨i, n⟩ W => (i ≤ args.length ∧ n = tot (args.take i) ∧ n ≤ 140737488355328) ∧ (Chg [] w W) ∧ (Sl sE W (fun k => k < w.heap.size) A args)) (fun ⟨i, n⟩ => args.length - i) (0, 0) ?_ ?_ ?_
 · exact ⟨rfl, rfl, trivial⟩
 ·refine ⟨?_, HC, hl⟩
  exact ⟨Nat.zero_le _, rfl, Nat.zero_le _⟩
 intro ⟨i, n⟩ G2 w1 ⟨⟨hi, hn0, hn1⟩, HC, hl⟩
 change wp _ _ _ _ _ (upds (over _ _ G2) [(4, .int .i64 (i : Int)), (3, .int .i64 (n : Int))]) _ _
 refine x_seq <| sr rfl <| mI rfl <| mL rfl <| Wp rfl <| st_len (ct := #[22]) (by rw [show ((#[22] : Array TypeId)[0]?).bind Tryd.prog.underlying = some (.slice 9) from T.u22]; rfl) rfl <| Wp rfl <| st_lss rfl rfl <| mB rfl <| w_split (d := 9) rfl (fun g3 => ?_) (fun g3 => ?_)
 ·try simp only [nm, ne_eq] at g3
  refine w_yes 4 9 true <| st_move (v := .int _ _) rfl <| w_yes 4 9 true <| st_leq rfl rfl <| pT rfl rfl <| en <| x_cond rfl (fun h0 => ?_) (fun h0 => ?_)
  ·try simp only [nm, ne_eq] at h0
   refine x_skip <| then_n <| x_seq <| x_block ?_
   obtain ⟨y, hy⟩ : ∃ y, args[i]? = some y := ⟨_, List.getElem?_eq_getElem (by omega)⟩
   have hyb := hb y (List.mem_of_getElem? hy)
   refine x_region rfl <| mI rfl <| mL rfl <| mI rfl ?_
   obtain ⟨lb8, _, vs7, hA4, hR6, hC5⟩ := hl.at (i := i) (x := y) (hy)
   obtain rfl : vs7 = [S y] := hR6
   refine Wp rfl <| st_indexAddr T.u22 T.size9 (congrArg (fun z => Value.slice z _ _) hA4) rfl (by omega) (by omega) <| lS T.one9 rfl (hC5.at (j := 0) rfl) <| Wp rfl <| st_slen (ct := #[9]) T.u9 rfl <| Wp rfl <| st_addn rfl rfl (by constructor <;> omega) <| aI rfl <| wops_nil <| block_n <| then_n <| x_region rfl <| mI rfl <| Wp rfl <| st_addn rfl rfl (by constructor <;> omega) <| aI rfl <| en <| ⟨(i + 1, n + y.length), ?_, ?_, rfl, ⟨rfl, rfl, trivial⟩, ?_⟩
   ·refine ⟨?_, HC, hl⟩
    exact ⟨by omega, by rw [tot_step hy, hn0], by omega⟩
   ·show args.length - (i + 1) < args.length - i; omega
   repeat (first | exact agree_upds agree_over rfl | refine agree_upd ?_ rfl | refine agree_upds ?_ rfl | refine agree_over_sub ?_ rfl)
  ·try simp only [nm, ne_eq] at h0
   have htt := tot_take args i
   have htl : i = args.length → tot args = n := fun e => by rw [hn0, e, List.take_length]
   refine x_exit <| then_x <| then_x <| block_x <| then_n <| sr rfl <| mI rfl <| Wp rfl <| st_leq rfl rfl <| mB rfl <| w_split (d := 24) rfl (fun g9 => ?_) (fun g9 => ?_)
   ·try simp only [nm, ne_eq] at g9
    refine w_yes 2 24 true <| st_move (v := .slice _ _ _) rfl <| w_yes 2 24 true <| st_len (ct := #[22]) (by rw [show ((#[22] : Array TypeId)[0]?).bind Tryd.prog.underlying = some (.slice 9) from T.u22]; rfl) rfl <| w_yes 2 24 true <| st_leq rfl rfl <| pT rfl rfl <| aB rfl <| en <| x_ret <| ret_tmp (v := .bool _) rfl rfl <| ⟨congrArg Value.bool ?_, HC⟩
    unfold shortB
    first | exact decide_eq_decide.2 (by omega) | exact (decide_eq_false (by omega)).symm | (symm; simp only [decide_eq_decide, decide_eq_true_eq, decide_eq_false_iff_not]; omega)
   ·try simp only [nm, ne_eq] at g9
    iterate 3 refine w_no 2 24 true ?_
    refine pF rfl rfl <| aB rfl <| en <| x_ret <| ret_tmp (v := .bool _) rfl rfl <| ⟨congrArg Value.bool ?_, HC⟩
    unfold shortB
    first | exact decide_eq_decide.2 (by omega) | exact (decide_eq_false (by omega)).symm | (symm; simp only [decide_eq_decide, decide_eq_true_eq, decide_eq_false_iff_not]; omega)
 ·try simp only [nm, ne_eq] at g3
  refine w_no 4 9 true <| w_no 4 9 true <| pF rfl rfl <| en <| x_cond (t := false) rfl (fun h0 => ?_) (fun h0 => ?_)
  · exact absurd h0 (by decide)
  have htt := tot_take args i
  have htl : i = args.length → tot args = n := fun e => by rw [hn0, e, List.take_length]
  refine x_exit <| then_x <| then_x <| block_x <| then_n <| sr rfl <| mI rfl <| Wp rfl <| st_leq rfl rfl <| mB rfl <| w_split (d := 24) rfl (fun g10 => ?_) (fun g10 => ?_)
  ·try simp only [nm, ne_eq] at g10
   refine w_yes 2 24 true <| st_move (v := .slice _ _ _) rfl <| w_yes 2 24 true <| st_len (ct := #[22]) (by rw [show ((#[22] : Array TypeId)[0]?).bind Tryd.prog.underlying = some (.slice 9) from T.u22]; rfl) rfl <| w_yes 2 24 true <| st_leq rfl rfl <| pT rfl rfl <| aB rfl <| en <| x_ret <| ret_tmp (v := .bool _) rfl rfl <| ⟨congrArg Value.bool ?_, HC⟩
   unfold shortB
   first | exact decide_eq_decide.2 (by omega) | exact (decide_eq_false (by omega)).symm | (symm; simp only [decide_eq_decide, decide_eq_true_eq, decide_eq_false_iff_not]; omega)
  ·try simp only [nm, ne_eq] at g10
   iterate 3 refine w_no 2 24 true ?_
   refine pF rfl rfl <| aB rfl <| en <| x_ret <| ret_tmp (v := .bool _) rfl rfl <| ⟨congrArg Value.bool ?_, HC⟩
   unfold shortB
   first | exact decide_eq_decide.2 (by omega) | exact (decide_eq_false (by omega)).symm | (symm; simp only [decide_eq_decide, decide_eq_true_eq, decide_eq_false_iff_not]; omega)

theorem EchoPlain_spec {A : Option Addr} {c : Nat} {Dl : Nat → Prop} {args : List Bytes} {w : World} (f : Bytes) (hl : Sl sE w Dl A args) (hc : args.length ≤ c) (hb : ∀ s, s ∈ args → s.length ≤ 140737488351232) (hn : args.length ≤ 140737488351232) (hf : f.length ≤ 140737488351232) : CallR Tryd.prog 4 #[S f, .slice A args.length c] w fun v w' => v = .bool true ∧ Chg [] w w' := by
 replace hl := hl.mono (D' := fun k => k < w.heap.size) (fun k hk _ => hk)
 refine callR_of_wp (args := [_, _]) Tryd.func4 rfl (Nat.le_of_ble_eq_true rfl) ?_
 have HC : Chg [] w w := .refl _
 refine sr rfl <| aB rfl <| en <| x_seq <| sr rfl <| mL rfl <| Wp rfl <| st_call (ags := [_]) rfl rfl T.ent7 rfl (short_spec hl hc hb hn) ?_
 rintro _ w1 ⟨rfl, c2⟩
 replace HC := HC.then c2
 replace hl := hl.tr0 c2
 refine Wp rfl <| st_not rfl <| mB rfl <| w_split (d := 16) rfl (fun g3 => ?_) (fun g3 => ?_)
 ·try simp only [nm, ne_eq] at g3
  iterate 3 refine w_no 3 16 false ?_
  refine pT rfl rfl <| en <| x_cond (t := true) rfl (fun h0 => ?_) (fun h0 => ?_)
  rotate_left
  · exact absurd h0 (by decide)
  refine sr rfl <| Wp rfl <| st_call (ags := []) rfl rfl T.ent8 rfl (awake23_spec) ?_
  rintro _ w4 ⟨rfl, c5⟩
  replace HC := HC.then c5
  replace hl := hl.tr0 c5
  refine aB rfl <| en <| x_ret <| then_r <| ret_tmp (v := .bool _) rfl rfl ?_
  exact ⟨rfl, HC⟩
 ·try simp only [nm, ne_eq] at g3
  refine w_yes 3 16 false <| st_move (v := S _) rfl <| w_yes 3 16 false <| st_slen (ct := #[9]) T.u9 rfl <| w_yes 3 16 false <| st_gtr rfl rfl <| pF rfl rfl <| en <| x_cond rfl (fun h0 => ?_) (fun h0 => ?_)
  ·try simp only [nm, ne_eq] at h0
   refine sr rfl <| Wp rfl <| st_call (ags := []) rfl rfl T.ent8 rfl (awake23_spec) ?_
   rintro _ w6 ⟨rfl, c7⟩
   replace HC := HC.then c7
   replace hl := hl.tr0 c7
   refine aB rfl <| en <| x_ret <| then_r <| ret_tmp (v := .bool _) rfl rfl ?_
   exact ⟨rfl, HC⟩
  ·try simp only [nm, ne_eq] at h0
   have hsh : tot args ≤ 2000 ∧ args.length ≤ 30 := of_decide_eq_true (show shortB args = true by first | assumption | simp_all)
   have hwl := wan_len args
   refine x_skip <| then_n <| sr rfl <| aS rfl <| en <| x_seq <| sr rfl <| mL rfl <| Wp rfl <| st_len (ct := #[22]) (by rw [show ((#[22] : Array TypeId)[0]?).bind Tryd.prog.underlying = some (.slice 9) from T.u22]; rfl) rfl <| mI rfl <| en <| x_block <| x_loop (ι := Nat) [5, 7, 24, 25, 26, 27, 28, 29, 30, 31, 32] (fun i => [(24, .int .i64 (i : Int)), (5, S (wan (args.take i)))]) (fun i W => (i ≤ args.length) ∧ (Chg [] w W) ∧ (Sl sE W (fun k => k < w.heap.size) A args)) (fun i => args.length - i) 0 ?_ ?_ ?_
   · exact ⟨rfl, rfl, trivial⟩
   ·refine ⟨?_, HC, hl⟩
    exact Nat.zero_le _
   intro i G9 w8 ⟨hi, HC, hl⟩
   change wp _ _ _ _ _ (upds (over _ _ G9) [(24, .int .i64 (i : Int)), (5, S (wan (args.take i)))]) _ _
   refine sr rfl <| Wp rfl <| st_lss rfl rfl <| en <| x_seq <| x_cond rfl (fun h1 => ?_) (fun h1 => ?_)
   ·try simp only [nm, ne_eq] at h1
    refine x_skip <| then_n <| x_seq <| x_block <| x_seq ?_
    obtain ⟨y, hy⟩ : ∃ y, args[i]? = some y := ⟨_, List.getElem?_eq_getElem (by omega)⟩
    have hyl := tot_mem (List.mem_of_getElem? hy)
    have hwt := wan_len (args.take i)
    have htt := tot_take args i
    have hlt := List.length_take_le i args
    refine x_region rfl ?_
    obtain ⟨lb14, _, vs13, hA10, hR12, hC11⟩ := hl.at (i := i) (x := y) (hy)
    obtain rfl : vs13 = [S y] := hR12
    refine Wp rfl <| st_indexAddr T.u22 T.size9 (congrArg (fun z => Value.slice z _ _) hA10) rfl (by omega) (by omega) <| lS T.one9 rfl (hC11.at (j := 0) rfl) <| aS rfl <| en <| x_region rfl <| mS rfl <| mS rfl <| Wp rfl <| st_sadd rfl rfl (by (simp only [List.length_cons, List.length_nil]; omega)) <| Wp rfl <| st_sadd rfl rfl (by (simp only [List.length_append, List.length_cons, List.length_nil]; omega)) <| aS rfl <| wops_nil <| block_n <| then_n <| x_region rfl <| Wp rfl <| st_addn rfl rfl (by constructor <;> omega) <| mI rfl <| en <| ⟨i + 1, ?_, ?_, rfl, ⟨rfl, (congrArg S (wan_step hy).symm), trivial⟩, ?_⟩
    ·refine ⟨?_, HC, hl⟩
     exact (by omega)
    ·show args.length - (i + 1) < args.length - i; omega
    repeat (first | exact agree_upds agree_over rfl | refine agree_upd ?_ rfl | refine agree_upds ?_ rfl | refine agree_over_sub ?_ rfl)
   ·try simp only [nm, ne_eq] at h1
    obtain rfl : i = args.length := by omega
    rw [List.take_length]
    refine x_exit <| then_x <| then_x <| block_x <| then_n <| x_seq <| sr rfl <| mL rfl <| Wp rfl <| st_len (ct := #[22]) (by rw [show ((#[22] : Array TypeId)[0]?).bind Tryd.prog.underlying = some (.slice 9) from T.u22]; rfl) rfl <| Wp rfl <| st_eql rfl rfl <| en <| x_cond rfl (fun h2 => ?_) (fun h2 => ?_)
    ·try simp only [nm, ne_eq] at h2
     refine x_region rfl <| aS rfl <| en <| x_seq <| x_seq ?_
     have hpf := printf_s args (by omega)
     first | rw [if_pos (by omega)] at hpf | rw [if_neg (by omega)] at hpf
     refine x_region rfl <| Wp rfl <| st_lit (ps := [(0, .const (S [37, 115, 92, 110]))]) (vs := [S _]) T.lit22 (by decide) rfl (by simp only [List.forall_mem_cons, List.not_mem_nil, false_imp_iff, implies_true, and_true]; exact rfl) rfl ?_
     intro b15 w16 e17 c18 hb19
     have ge_b15 : w.heap.size ≤ b15 := by rw [e17]; exact HC.size
     replace HC := HC.then c18
     replace hl := hl.tr0 c18
     clear e17
     refine mL rfl <| Wp rfl <| st_appendS (D := fun k => b15 ≤ k) (xs := [[37, 115, 92, 110]]) (ys := args) T.slice22 rfl rfl (own_lit (f := fun s : Bytes => [S s]) [[37, 115, 92, 110]] (by simp) hb19) rfl rfl hl (fun k hk => Nat.le_trans (Nat.le_of_lt hb19.lt) hk) (by simp only [List.length_cons, List.length_nil]; omega) (by simp only [List.length_cons, List.length_nil]; omega) ?_
     intro A20 cap21 w22 ho23 c24
     replace c24 : Chg [b15] w16 w22 := c24
     replace HC := HC.then1 c24 ge_b15
     replace hl := hl.tr c24 (by intro k hk hD; have hD2 : k < w.heap.size := hD; simp only [List.mem_cons, List.mem_nil_iff, or_false] at hk; omega)
     refine Wp rfl <| st_call (ags := [_]) rfl rfl T.ent9 rfl (Printf_spec (args := [[37, 115, 92, 110]] ++ args) ho23.sl ho23.le.1 (fun s hs => by rcases List.mem_append.1 hs with hs | hs; (rw [List.mem_singleton.1 hs]; first | omega | simp); (have := tot_mem hs; omega))) ?_
     rintro vT1 w25 ⟨hvT, c26⟩
     rw [show [[37, 115, 92, 110]] ++ args = [37, 115, 92, 110] :: args from rfl, hpf] at hvT
     subst hvT
     replace HC := HC.then c26
     replace hl := hl.tr0 c26
     refine mv (v := .tuple ⟨[_, _]⟩) rfl <| Wp rfl <| st_extract (vs := [_, _]) (v := S _) rfl rfl <| Wp rfl <| st_extract (vs := [_, _]) (v := .int _ _) rfl rfl <| aS rfl <| aI rfl <| en <| sr rfl <| mS rfl <| mS rfl <| Wp rfl <| st_sneq rfl rfl <| mB rfl <| w_split (d := 46) rfl (fun g27 => ?_) (fun g27 => ?_)
     ·try simp only [nm, ne_eq] at g27
      first | exact absurd rfl g27 | exact absurd trivial g27 | (simp at g27; done)
     ·try simp only [nm, ne_eq] at g27
      refine w_yes 3 46 false <| st_move (v := .int _ _) rfl <| w_yes 3 46 false <| st_neq rfl rfl <| pF rfl rfl <| en <| x_cond rfl (fun h3 => ?_) (fun h3 => ?_)
      ·try simp only [nm, ne_eq] at h3
       first | exact absurd rfl h3 | exact absurd trivial h3 | (simp at h3; done)
      ·try simp only [nm, ne_eq] at h3
       refine x_skip <| then_n <| x_seq <| sr rfl <| aI rfl <| en <| x_block <| x_loop (ι := Nat) [4, 10, 50, 51, 52, 53, 54, 55, 56, 57, 58, 59, 60, 61, 62, 63, 64, 65, 66] (fun i => [(10, .int .i64 (i : Int))]) (fun i W => (i ≤ f.length ∧ ∀ j, j < i → (byte f j).toNat ≠ 37 ∧ (byte f j).toNat ≠ 92) ∧ (Chg [] w W) ∧ (Sl sE W (fun k => k < w.heap.size) A args)) (fun i => f.length - i) 0 ?_ ?_ ?_
       · exact ⟨rfl, trivial⟩
       ·refine ⟨?_, HC, hl⟩
        exact ⟨Nat.zero_le _, fun j hj => absurd hj (Nat.not_lt_zero _)⟩
       intro i G29 w28 ⟨⟨hi, hno⟩, HC, hl⟩
       change wp _ _ _ _ _ (upds (over _ _ G29) [(10, .int .i64 (i : Int))]) _ _
       refine x_seq <| sr rfl <| mI rfl <| mS rfl <| Wp rfl <| st_slen (ct := #[9]) T.u9 rfl <| Wp rfl <| st_lss rfl rfl <| en <| x_cond rfl (fun h4 => ?_) (fun h4 => ?_)
       ·try simp only [nm, ne_eq] at h4
        refine x_skip <| then_n <| x_seq <| x_block <| sr rfl <| mS rfl <| mI rfl <| Wp rfl <| st_sidx T.u9 rfl rfl (by omega) (by omega) <| Wp rfl <| st_eql rfl rfl <| mB rfl <| w_split (d := 60) rfl (fun g30 => ?_) (fun g30 => ?_)
        ·try simp only [nm, ne_eq] at g30
         iterate 4 refine w_no 4 60 false ?_
         refine pT rfl rfl <| en <| x_cond (t := true) rfl (fun h5 => ?_) (fun h5 => ?_)
         rotate_left
         · exact absurd h5 (by decide)
         refine sr rfl <| Wp rfl <| st_call (ags := []) rfl rfl T.ent8 rfl (awake23_spec) ?_
         rintro _ w31 ⟨rfl, c32⟩
         replace HC := HC.then c32
         replace hl := hl.tr0 c32
         refine aB rfl <| en <| x_ret <| block_r <| then_r <| then_r <| block_r <| then_r <| ret_tmp (v := .bool _) rfl rfl ?_
         exact ⟨rfl, HC⟩
        ·try simp only [nm, ne_eq] at g30
         refine w_yes 4 60 false <| st_move (v := S _) rfl <| w_yes 4 60 false <| st_move (v := .int _ _) rfl <| w_yes 4 60 false <| st_sidx T.u9 rfl rfl (by omega) (by omega) <| w_yes 4 60 false <| st_eql rfl rfl <| pF rfl rfl <| en <| x_cond rfl (fun h5 => ?_) (fun h5 => ?_)
         ·try simp only [nm, ne_eq] at h5
          refine sr rfl <| Wp rfl <| st_call (ags := []) rfl rfl T.ent8 rfl (awake23_spec) ?_
          rintro _ w33 ⟨rfl, c34⟩
          replace HC := HC.then c34
          replace hl := hl.tr0 c34
          refine aB rfl <| en <| x_ret <| block_r <| then_r <| then_r <| block_r <| then_r <| ret_tmp (v := .bool _) rfl rfl ?_
          exact ⟨rfl, HC⟩
         ·try simp only [nm, ne_eq] at h5
          have hc1 : (byte f i).toNat ≠ 37 ∧ (byte f i).toNat ≠ 92 := by omega
          refine x_skip <| block_n <| then_n <| x_region rfl <| mI rfl <| Wp rfl <| st_addn rfl rfl (by constructor <;> omega) <| aI rfl <| en <| ⟨i + 1, ?_, ?_, rfl, ⟨rfl, trivial⟩, ?_⟩
          ·refine ⟨?_, HC, hl⟩
           exact ⟨by omega, fun j hj => by by_cases e : j = i; (rw [e]; exact hc1); exact hno j (by omega)⟩
          ·show f.length - (i + 1) < f.length - i; omega
          repeat (first | exact agree_upds agree_over rfl | refine agree_upd ?_ rfl | refine agree_upds ?_ rfl | refine agree_over_sub ?_ rfl)
       ·try simp only [nm, ne_eq] at h4
        have hall : ∀ x, x ∈ f → x.toNat ≠ 37 ∧ x.toNat ≠ 92 := fun x hx => by obtain ⟨j, hj, rfl⟩ := byte_mem hx; exact hno j (by omega)
        refine x_exit <| then_x <| then_x <| block_x <| then_n <| sr rfl <| mS rfl <| Wp rfl <| st_lit (ps := [(0, .tmp 68)]) (vs := [S _]) T.lit22 (by decide) rfl (by simp only [List.forall_mem_cons, List.not_mem_nil, false_imp_iff, implies_true, and_true]; exact rfl) rfl ?_
        intro b35 w36 e37 c38 hb39
        have ge_b35 : w.heap.size ≤ b35 := by rw [e37]; exact HC.size
        replace HC := HC.then c38
        replace hl := hl.tr0 c38
        clear e37
        refine mL rfl <| Wp rfl <| st_appendS (D := fun k => b35 ≤ k) (xs := [f]) (ys := args) T.slice22 rfl rfl (own_lit (f := fun s : Bytes => [S s]) [f] (by simp) hb39) rfl rfl hl (fun k hk => Nat.le_trans (Nat.le_of_lt hb39.lt) hk) (by simp only [List.length_cons, List.length_nil]; omega) (by simp only [List.length_cons, List.length_nil]; omega) ?_
        intro A40 cap41 w42 ho43 c44
        replace c44 : Chg [b35] w36 w42 := c44
        replace HC := HC.then1 c44 ge_b35
        replace hl := hl.tr c44 (by intro k hk hD; have hD2 : k < w.heap.size := hD; simp only [List.mem_cons, List.mem_nil_iff, or_false] at hk; omega)
        refine Wp rfl <| st_call (ags := [_]) rfl rfl T.ent9 rfl (Printf_spec (args := [f] ++ args) ho43.sl ho43.le.1 (fun s hs => by rcases List.mem_append.1 hs with hs | hs; (rw [List.mem_singleton.1 hs]; first | omega | simp); (have := tot_mem hs; omega))) ?_
        rintro vT2 w45 ⟨hvT, c46⟩
        rw [show [f] ++ args = f :: args from rfl, (printf_f f args hall (by omega))] at hvT
        subst hvT
        replace HC := HC.then c46
        replace hl := hl.tr0 c46
        refine mv (v := .tuple ⟨[_, _]⟩) rfl <| Wp rfl <| st_extract (vs := [_, _]) (v := S _) rfl rfl <| Wp rfl <| st_extract (vs := [_, _]) (v := .int _ _) rfl rfl <| aS rfl <| aI rfl <| en <| sr rfl <| mS rfl <| mS rfl <| Wp rfl <| st_seql rfl rfl <| mB rfl <| w_split (d := 78) rfl (fun g47 => ?_) (fun g47 => ?_)
        ·try simp only [nm, ne_eq] at g47
         refine w_yes 3 78 true <| st_move (v := .int _ _) rfl <| w_yes 3 78 true <| st_eql rfl rfl <| pT rfl rfl <| mB rfl <| w_split (d := 82) rfl (fun g48 => ?_) (fun g48 => ?_)
         ·try simp only [nm, ne_eq] at g48
          refine w_yes 7 82 true <| st_call (ags := []) rfl rfl T.ent8 rfl (awake23_spec) ?_
          rintro _ w49 ⟨rfl, c50⟩
          replace HC := HC.then c50
          replace hl := hl.tr0 c50
          refine pT rfl rfl <| aB rfl <| en <| x_ret <| ret_tmp (v := .bool _) rfl rfl ?_
          exact ⟨rfl, HC⟩
         ·try simp only [nm, ne_eq] at g48
          first | exact absurd rfl g48 | exact absurd trivial g48 | (simp at g48; done)
        ·try simp only [nm, ne_eq] at g47
         first | exact absurd rfl g47 | exact absurd trivial g47 | (simp at g47; done)
    ·try simp only [nm, ne_eq] at h2
     refine x_skip <| then_n <| x_seq <| x_seq ?_
     have hpf := printf_s args (by omega)
     first | rw [if_pos (by omega)] at hpf | rw [if_neg (by omega)] at hpf
     refine x_region rfl <| Wp rfl <| st_lit (ps := [(0, .const (S [37, 115, 92, 110]))]) (vs := [S _]) T.lit22 (by decide) rfl (by simp only [List.forall_mem_cons, List.not_mem_nil, false_imp_iff, implies_true, and_true]; exact rfl) rfl ?_
     intro b51 w52 e53 c54 hb55
     have ge_b51 : w.heap.size ≤ b51 := by rw [e53]; exact HC.size
     replace HC := HC.then c54
     replace hl := hl.tr0 c54
     clear e53
     refine mL rfl <| Wp rfl <| st_appendS (D := fun k => b51 ≤ k) (xs := [[37, 115, 92, 110]]) (ys := args) T.slice22 rfl rfl (own_lit (f := fun s : Bytes => [S s]) [[37, 115, 92, 110]] (by simp) hb55) rfl rfl hl (fun k hk => Nat.le_trans (Nat.le_of_lt hb55.lt) hk) (by simp only [List.length_cons, List.length_nil]; omega) (by simp only [List.length_cons, List.length_nil]; omega) ?_
     intro A56 cap57 w58 ho59 c60
     replace c60 : Chg [b51] w52 w58 := c60
     replace HC := HC.then1 c60 ge_b51
     replace hl := hl.tr c60 (by intro k hk hD; have hD2 : k < w.heap.size := hD; simp only [List.mem_cons, List.mem_nil_iff, or_false] at hk; omega)
     refine Wp rfl <| st_call (ags := [_]) rfl rfl T.ent9 rfl (Printf_spec (args := [[37, 115, 92, 110]] ++ args) ho59.sl ho59.le.1 (fun s hs => by rcases List.mem_append.1 hs with hs | hs; (rw [List.mem_singleton.1 hs]; first | omega | simp); (have := tot_mem hs; omega))) ?_
     rintro vT1 w61 ⟨hvT, c62⟩
     rw [show [[37, 115, 92, 110]] ++ args = [37, 115, 92, 110] :: args from rfl, hpf] at hvT
     subst hvT
     replace HC := HC.then c62
     replace hl := hl.tr0 c62
     refine mv (v := .tuple ⟨[_, _]⟩) rfl <| Wp rfl <| st_extract (vs := [_, _]) (v := S _) rfl rfl <| Wp rfl <| st_extract (vs := [_, _]) (v := .int _ _) rfl rfl <| aS rfl <| aI rfl <| en <| sr rfl <| mS rfl <| mS rfl <| Wp rfl <| st_sneq rfl rfl <| mB rfl <| w_split (d := 46) rfl (fun g63 => ?_) (fun g63 => ?_)
     ·try simp only [nm, ne_eq] at g63
      first | exact absurd rfl g63 | exact absurd trivial g63 | (simp at g63; done)
     ·try simp only [nm, ne_eq] at g63
      refine w_yes 3 46 false <| st_move (v := .int _ _) rfl <| w_yes 3 46 false <| st_neq rfl rfl <| pF rfl rfl <| en <| x_cond rfl (fun h3 => ?_) (fun h3 => ?_)
      ·try simp only [nm, ne_eq] at h3
       first | exact absurd rfl h3 | exact absurd trivial h3 | (simp at h3; done)
      ·try simp only [nm, ne_eq] at h3
       refine x_skip <| then_n <| x_seq <| sr rfl <| aI rfl <| en <| x_block <| x_loop (ι := Nat) [4, 10, 50, 51, 52, 53, 54, 55, 56, 57, 58, 59, 60, 61, 62, 63, 64, 65, 66] (fun i => [(10, .int .i64 (i : Int))]) (fun i W => (i ≤ f.length ∧ ∀ j, j < i → (byte f j).toNat ≠ 37 ∧ (byte f j).toNat ≠ 92) ∧ (Chg [] w W) ∧ (Sl sE W (fun k => k < w.heap.size) A args)) (fun i => f.length - i) 0 ?_ ?_ ?_
       · exact ⟨rfl, trivial⟩
       ·refine ⟨?_, HC, hl⟩
        exact ⟨Nat.zero_le _, fun j hj => absurd hj (Nat.not_lt_zero _)⟩
       intro i G65 w64 ⟨⟨hi, hno⟩, HC, hl⟩
       change wp _ _ _ _ _ (upds (over _ _ G65) [(10, .int .i64 (i : Int))]) _ _
       refine x_seq <| sr rfl <| mI rfl <| mS rfl <| Wp rfl <| st_slen (ct := #[9]) T.u9 rfl <| Wp rfl <| st_lss rfl rfl <| en <| x_cond rfl (fun h4 => ?_) (fun h4 => ?_)
       ·try simp only [nm, ne_eq] at h4
        refine x_skip <| then_n <| x_seq <| x_block <| sr rfl <| mS rfl <| mI rfl <| Wp rfl <| st_sidx T.u9 rfl rfl (by omega) (by omega) <| Wp rfl <| st_eql rfl rfl <| mB rfl <| w_split (d := 60) rfl (fun g66 => ?_) (fun g66 => ?_)
        ·try simp only [nm, ne_eq] at g66
         iterate 4 refine w_no 4 60 false ?_
         refine pT rfl rfl <| en <| x_cond (t := true) rfl (fun h5 => ?_) (fun h5 => ?_)
         rotate_left
         · exact absurd h5 (by decide)
         refine sr rfl <| Wp rfl <| st_call (ags := []) rfl rfl T.ent8 rfl (awake23_spec) ?_
         rintro _ w67 ⟨rfl, c68⟩
         replace HC := HC.then c68
         replace hl := hl.tr0 c68
         refine aB rfl <| en <| x_ret <| block_r <| then_r <| then_r <| block_r <| then_r <| ret_tmp (v := .bool _) rfl rfl ?_
         exact ⟨rfl, HC⟩
        ·try simp only [nm, ne_eq] at g66
         refine w_yes 4 60 false <| st_move (v := S _) rfl <| w_yes 4 60 false <| st_move (v := .int _ _) rfl <| w_yes 4 60 false <| st_sidx T.u9 rfl rfl (by omega) (by omega) <| w_yes 4 60 false <| st_eql rfl rfl <| pF rfl rfl <| en <| x_cond rfl (fun h5 => ?_) (fun h5 => ?_)
         ·try simp only [nm, ne_eq] at h5
          refine sr rfl <| Wp rfl <| st_call (ags := []) rfl rfl T.ent8 rfl (awake23_spec) ?_
          rintro _ w69 ⟨rfl, c70⟩
          replace HC := HC.then c70
          replace hl := hl.tr0 c70
          refine aB rfl <| en <| x_ret <| block_r <| then_r <| then_r <| block_r <| then_r <| ret_tmp (v := .bool _) rfl rfl ?_
          exact ⟨rfl, HC⟩
         ·try simp only [nm, ne_eq] at h5
          have hc1 : (byte f i).toNat ≠ 37 ∧ (byte f i).toNat ≠ 92 := by omega
          refine x_skip <| block_n <| then_n <| x_region rfl <| mI rfl <| Wp rfl <| st_addn rfl rfl (by constructor <;> omega) <| aI rfl <| en <| ⟨i + 1, ?_, ?_, rfl, ⟨rfl, trivial⟩, ?_⟩
          ·refine ⟨?_, HC, hl⟩
           exact ⟨by omega, fun j hj => by by_cases e : j = i; (rw [e]; exact hc1); exact hno j (by omega)⟩
          ·show f.length - (i + 1) < f.length - i; omega
          repeat (first | exact agree_upds agree_over rfl | refine agree_upd ?_ rfl | refine agree_upds ?_ rfl | refine agree_over_sub ?_ rfl)
       ·try simp only [nm, ne_eq] at h4
        have hall : ∀ x, x ∈ f → x.toNat ≠ 37 ∧ x.toNat ≠ 92 := fun x hx => by obtain ⟨j, hj, rfl⟩ := byte_mem hx; exact hno j (by omega)
        refine x_exit <| then_x <| then_x <| block_x <| then_n <| sr rfl <| mS rfl <| Wp rfl <| st_lit (ps := [(0, .tmp 68)]) (vs := [S _]) T.lit22 (by decide) rfl (by simp only [List.forall_mem_cons, List.not_mem_nil, false_imp_iff, implies_true, and_true]; exact rfl) rfl ?_
        intro b71 w72 e73 c74 hb75
        have ge_b71 : w.heap.size ≤ b71 := by rw [e73]; exact HC.size
        replace HC := HC.then c74
        replace hl := hl.tr0 c74
        clear e73
        refine mL rfl <| Wp rfl <| st_appendS (D := fun k => b71 ≤ k) (xs := [f]) (ys := args) T.slice22 rfl rfl (own_lit (f := fun s : Bytes => [S s]) [f] (by simp) hb75) rfl rfl hl (fun k hk => Nat.le_trans (Nat.le_of_lt hb75.lt) hk) (by simp only [List.length_cons, List.length_nil]; omega) (by simp only [List.length_cons, List.length_nil]; omega) ?_
        intro A76 cap77 w78 ho79 c80
        replace c80 : Chg [b71] w72 w78 := c80
        replace HC := HC.then1 c80 ge_b71
        replace hl := hl.tr c80 (by intro k hk hD; have hD2 : k < w.heap.size := hD; simp only [List.mem_cons, List.mem_nil_iff, or_false] at hk; omega)
        refine Wp rfl <| st_call (ags := [_]) rfl rfl T.ent9 rfl (Printf_spec (args := [f] ++ args) ho79.sl ho79.le.1 (fun s hs => by rcases List.mem_append.1 hs with hs | hs; (rw [List.mem_singleton.1 hs]; first | omega | simp); (have := tot_mem hs; omega))) ?_
        rintro vT2 w81 ⟨hvT, c82⟩
        rw [show [f] ++ args = f :: args from rfl, (printf_f f args hall (by omega))] at hvT
        subst hvT
        replace HC := HC.then c82
        replace hl := hl.tr0 c82
        refine mv (v := .tuple ⟨[_, _]⟩) rfl <| Wp rfl <| st_extract (vs := [_, _]) (v := S _) rfl rfl <| Wp rfl <| st_extract (vs := [_, _]) (v := .int _ _) rfl rfl <| aS rfl <| aI rfl <| en <| sr rfl <| mS rfl <| mS rfl <| Wp rfl <| st_seql rfl rfl <| mB rfl <| w_split (d := 78) rfl (fun g83 => ?_) (fun g83 => ?_)
        ·try simp only [nm, ne_eq] at g83
         refine w_yes 3 78 true <| st_move (v := .int _ _) rfl <| w_yes 3 78 true <| st_eql rfl rfl <| pT rfl rfl <| mB rfl <| w_split (d := 82) rfl (fun g84 => ?_) (fun g84 => ?_)
         ·try simp only [nm, ne_eq] at g84
          refine w_yes 7 82 true <| st_call (ags := []) rfl rfl T.ent8 rfl (awake23_spec) ?_
          rintro _ w85 ⟨rfl, c86⟩
          replace HC := HC.then c86
          replace hl := hl.tr0 c86
          refine pT rfl rfl <| aB rfl <| en <| x_ret <| ret_tmp (v := .bool _) rfl rfl ?_
          exact ⟨rfl, HC⟩
         ·try simp only [nm, ne_eq] at g84
          first | exact absurd rfl g84 | exact absurd trivial g84 | (simp at g84; done)
        ·try simp only [nm, ne_eq] at g83
         first | exact absurd rfl g83 | exact absurd trivial g83 | (simp at g83; done)

end Go.Proofs.YtlpndcpbnbeohaaDoor.K
