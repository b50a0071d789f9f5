import Derived.Test.YtlpndcpbnbeohaaDoorEg
set_option linter.unusedVariables false
set_option linter.unusedSimpArgs false
set_option autoImplicit false
set_option maxRecDepth 20000
namespace Go.Proofs.YtlpndcpbnbeohaaDoor.K
open Go Go.Proofs Go.RowKit

theorem once_took : ∀ (k : Nat) (f : Bytes) (q : Wr), (onceF k f q).args.length ≤ q.args.length ∧ ((onceF k f q).took = true → q.took = true ∨ (onceF k f q).args.length < q.args.length ∨ q.args = [])
  | 0, f, q => ⟨Nat.le_refl _, fun h => .inl h⟩
  | k + 1, f, q => by
    by_cases hc : f ≠ [] ∧ q.done = false ∧ q.out.length ≤ 65536
    · rw [once_yes hc]
      split
      · exact once_took k _ ⟨q.args, q.took, q.done, q.st, _⟩
      split
      · exact once_took k _ ⟨q.args, q.took, q.done, q.st, _⟩
      split
      · split
        · exact ⟨Nat.le_refl _, fun h => .inl h⟩
        · have h := (once_took k ((rd3 (f.drop 1)).drop 1) (cnvQ q (rdX (f.drop 1)))).1
          have h2 : (cnvQ q (rdX (f.drop 1))).args.length = q.args.length - 1 := by simp [cnvQ]
          rw [h2] at h
          refine ⟨by omega, fun _ => ?_⟩
          by_cases ha : q.args = []
          · exact .inr (.inr ha)
          · have := List.length_pos_iff.2 ha; exact .inr (.inl (by omega))
      · exact once_took k _ ⟨q.args, q.took, q.done, q.st, _⟩
    · rw [once_no hc]; exact ⟨Nat.le_refl _, fun h => .inl h⟩
def one1 (f : Bytes) (q : Wr) : Wr := onceF (f.length + 1) f ⟨q.args, false, q.done, q.st, q.out⟩
def more1 (q : Wr) : Prop := q.args ≠ [] ∧ q.took = true ∧ q.done = false ∧ q.out.length ≤ 65536
instance (q : Wr) : Decidable (more1 q) := by unfold more1; infer_instance
/-- A format is gone through as long as there are arguments. -/
def prnF : Nat → Bytes → Wr → Wr
  | 0, _, q => q
  | k + 1, f, q => if more1 (one1 f q) then prnF k f (one1 f q) else one1 f q
def prnV (f : Bytes) (l : List Bytes) : Wr := prnF (l.length + 1) f ⟨l, false, false, 0, []⟩
def printfV : List Bytes → Bytes × Int
  | [] => ([], 2)
  | f :: l => if 65536 < (prnV f l).out.length then ([], 1) else ((prnV f l).out, (prnV f l).st)
theorem printf_cons (f : Bytes) (l : List Bytes) : printfV (f :: l) = if 65536 < (prnV f l).out.length then ([], 1) else ((prnV f l).out, (prnV f l).st) := rfl
theorem more_less {f : Bytes} {q : Wr} (h : more1 (one1 f q)) : (one1 f q).args.length < q.args.length := by
  have h1 := once_took (f.length + 1) f ⟨q.args, false, q.done, q.st, q.out⟩
  rcases h1.2 h.2.1 with h2 | h2 | h2
  · cases h2
  · exact h2
  · exfalso
    have h3 : (one1 f q).args.length ≤ q.args.length := h1.1
    have h2' : q.args = [] := h2
    have h4 : q.args.length = 0 := by rw [h2']; rfl
    exact h.1 (List.length_eq_zero_iff.1 (by omega))

set_option maxHeartbeats 1000000 in
theorem Printf_spec {A : Option Addr} {c : Nat} {Dl : Nat → Prop} {args : List Bytes} {w : World} (hl : Sl sE w Dl A args) (hc : args.length ≤ c) (hb : ∀ s, s ∈ args → s.length ≤ 10000000000000) : CallR Tryd.prog 9 #[.slice A args.length c] w fun v w' => v = .tuple ⟨[S (printfV args).1, .int .i64 (printfV args).2]⟩ ∧ Chg [] w w' := by
 replace hl := hl.mono (D' := fun k => k < w.heap.size) (fun k hk _ => hk)
 refine callR_of_wp (args := [_]) Tryd.func9 rfl (Nat.le_of_ble_eq_true rfl) ?_
 have HC : Chg [] w w := .refl _
 refine sr rfl <| aS rfl <| aI rfl <| en <| x_seq <| sr rfl <| mL rfl <| Wp rfl <| st_len (ct := #[22]) (by rw [show ((#[22] : Array TypeId)[0]?).bind Tryd.prog.underlying = some (.slice 9) from T.u22]; rfl) rfl <| Wp rfl <| st_eql rfl rfl <| en <| x_cond rfl (fun h0 => ?_) (fun h0 => ?_)
 ·try simp only [nm, ne_eq] at h0
  obtain rfl : args = [] := List.length_eq_zero_iff.1 (by omega)
  refine sr rfl <| aS rfl <| aI rfl <| en <| x_ret <| then_r <| ret_tmp2 (v := S _) (v2 := .int _ _) rfl rfl rfl ?_
  first | exact ⟨rfl, HC⟩ | (rw [hev]; exact ⟨rfl, HC⟩)
 ·try simp only [nm, ne_eq] at h0
  obtain ⟨f, l, rfl⟩ : ∃ f l, args = f :: l := by cases args with | nil => simp at h0 | cons a l => exact ⟨a, l, rfl⟩
  have hfl := hb f (by simp)
  refine x_skip <| then_n <| sr rfl <| mL rfl <| Wp rfl <| st_slice (i := 1) (j := _) T.u22 T.size9 rfl ⟨_, rfl⟩ (by rfl) (by (simp only [List.length_cons]; omega)) (by exact hc) <| Wp rfl <| st_bld (ps := [(1, .tmp 10)]) (vs := [.pointer _, .slice _ _ _, .slice _ _ _, .bool _, .bool _, .int _ _]) T.bld42 rfl <| Wp rfl <| st_box (v := .agg ⟨[.pointer _, .slice _ _ _, .slice _ _ _, .bool _, .bool _, .int _ _]⟩) (vs := [_, _, _, _, _, _]) rfl rfl ?_
  intro b w1 e2 c3 hb4
  have ge_b : w.heap.size ≤ b := by rw [e2]; exact HC.size
  replace HC := HC.then c3
  replace hl := hl.tr0 c3
  clear e2
  refine aP rfl <| en <| x_seq <| sr rfl <| aB rfl <| en <| x_block ?_
  have hwN := BldW.new hb4
  have haN := sl_tail hl rfl hc
  have hbl9 := hwN.ltb
  refine x_loop (ι := Nat × Wr × Option Addr × Nat × Option Addr × Nat × Bool) [5, 13, 14, 15, 16, 17, 18, 19, 20, 21, 22, 23, 24, 25, 26, 27, 28, 29, 30, 31, 32, 33, 34, 35, 36, 37, 38, 39, 40, 41, 42, 43, 44, 45, 46, 47] (fun ⟨k, q, A1, cap, Aa, ca, ag⟩ => [(5, .bool ag)]) (fun ⟨k, q, A1, cap, Aa, ca, ag⟩ W => ((ag = true → prnF k f q = prnV f l ∧ q.args.length < k) ∧ (ag = false → q = prnV f l) ∧ q.args.length ≤ ca ∧ (∀ s, s ∈ q.args → s.length ≤ 10000000000000) ∧ (∀ k, k ∈ ob A1 → w.heap.size ≤ k)) ∧ (Chg [] w W) ∧ (Sl sE W (fun k => k < w.heap.size) A (f :: l)) ∧ (BldW W b A1 cap q.out [.slice Aa q.args.length ca, .bool q.took, .bool q.done, .int .i64 q.st]) ∧ (Sl sE W (fun k => k < w.heap.size) Aa q.args)) (fun ⟨k, q, A1, cap, Aa, ca, ag⟩ => k) (l.length + 1, ⟨l, false, false, 0, []⟩, none, 0, (if c = 1 then A else A.map (·.add (1 * 1))), c - 1, true) ?_ ?_ ?_
  · exact ⟨rfl, trivial⟩
  ·refine ⟨?_, HC, hl, hwN, haN⟩
   exact ⟨fun _ => ⟨rfl, Nat.lt_succ_self _⟩, fun h => (by cases h), by show l.length ≤ c - 1; simp only [List.length_cons] at hc; omega, fun s hs => hb s (List.mem_cons_of_mem _ hs), fun k hk => by cases hk⟩
  intro ⟨k, q, A1, cap, Aa, ca, ag⟩ G6 w5 ⟨⟨hag1, hag0, hca, hag, hob⟩, HC, hl, hw, ha⟩
  change wp _ _ _ _ _ (upds (over _ _ G6) [(5, .bool ag)]) _ _
  refine x_seq <| sr rfl <| mB rfl <| en <| x_cond rfl (fun h1 => ?_) (fun h1 => ?_)
  ·try simp only [nm, ne_eq] at h1
   obtain rfl : ag = true := by first | assumption | simp_all
   obtain ⟨k, rfl⟩ : ∃ j, k = j + 1 := ⟨k - 1, by have := (hag1 rfl).2; omega⟩
   have hkk := (hag1 rfl).2
   refine x_skip <| then_n <| x_seq <| x_block <| x_seq ?_
   obtain ⟨pv, hpv, hbk⟩ := BldW.pv hw
   have ho9 := hw.own
   have hne9 := hw.ne
   have hnl9 := hw.nil
   refine x_region rfl <| mP rfl <| nc rfl <| fa T.fld42_2 rfl <| Wp rfl <| st_store (v := .bool _) T.size4 rfl rfl rfl hbk rfl (Nat.le_of_ble_eq_true rfl) (by simp [Value.oneCell', S]) rfl ?_
   intro w7 c8 hb9; simp only [setVs, setV] at hb9
   clear hbk
   replace HC := HC.then1 c8 ge_b
   replace hl := hl.tr c8 (by intro k hk hD; have hD2 : k < w.heap.size := hD; simp only [List.mem_cons, List.mem_nil_iff, or_false] at hk; omega)
   replace ha := ha.tr c8 (by intro k hk hD; have hD2 : k < w.heap.size := hD; simp only [List.mem_cons, List.mem_nil_iff, or_false] at hk; omega)
   replace ho9 := ho9.tr c8 (fun k hk hx => by rw [List.mem_singleton.1 hx] at hk; exact hne9 hk)
   refine en ?_
   have hwt : BldW w7 b A1 cap q.out [.slice Aa q.args.length ca, .bool false, .bool q.done, .int .i64 q.st] := BldW.mk' hpv hb9 ho9 hnl9
   refine x_region rfl <| mP rfl <| mL rfl ?_
   obtain ⟨lb14, _, vs13, hA10, hR12, hC11⟩ := hl.at (i := 0) (x := f) (rfl)
   obtain rfl : vs13 = [S f] := hR12
   refine Wp rfl <| st_indexAddr T.u22 T.size9 (congrArg (fun z => Value.slice z _ _) hA10) rfl (by decide) (by (simp only [List.length_cons]; omega)) <| lS T.one9 rfl (hC11.at (j := 0) rfl) <| Wp rfl <| st_call (ags := [_, _]) rfl rfl T.ent17 rfl (once_spec (q0 := ⟨q.args, false, q.done, q.st, q.out⟩) f hwt ha hca hag hob ge_b HC.size hfl) ?_
   rintro _ w15 ⟨rfl, A2, c2, Aa2, ca2, hw2, ha2, hca2, hag2, hob2, hoA2, c16⟩
   change BldW w15 b A2 c2 (one1 f q).out [.slice Aa2 (one1 f q).args.length ca2, .bool (one1 f q).took, .bool (one1 f q).done, .int .i64 (one1 f q).st] at hw2
   change Sl sE w15 _ Aa2 (one1 f q).args at ha2
   replace HC := HC.trans c16 (fun k hk => (List.mem_cons.1 hk).elim (fun h => .inr (by rw [h]; exact ge_b)) (fun h => .inr (hob k h)))
   replace hl := hl.tr c16 (fun k hk hD => by have hD2 : k < w.heap.size := hD; rcases List.mem_cons.1 hk with h | h; omega; (have := hob k h; omega))
   refine wops_nil <| block_n <| then_n ?_
   obtain ⟨pv3, hpv3, hbj⟩ := BldW.pv hw2
   refine x_region rfl <| mP rfl <| nc rfl <| fa T.fld42_1 rfl <| lL T.one22 rfl (hbj.cell rfl) <| Wp rfl <| st_len (ct := #[22]) (by rw [show ((#[22] : Array TypeId)[0]?).bind Tryd.prog.underlying = some (.slice 9) from T.u22]; rfl) rfl <| Wp rfl <| st_gtr rfl rfl <| mB rfl <| w_split (d := 20) rfl (fun g17 => ?_) (fun g17 => ?_)
   ·try simp only [nm, ne_eq] at g17
    have hq1 : (one1 f q).args ≠ [] := fun h => by have h9 := congrArg List.length h; simp only [List.length_nil] at h9; omega
    refine w_yes 6 20 true <| st_move (v := .pointer _) rfl <| w_yes 6 20 true <| st_nilCheck rfl <| w_yes 6 20 true <| st_fieldAddr T.fld42_2 rfl <| w_yes 6 20 true <| st_load1 (v := .bool _) T.one4 rfl (hbj.cell rfl) <| pT rfl rfl <| mB rfl <| w_split (d := 26) rfl (fun g18 => ?_) (fun g18 => ?_)
    ·try simp only [nm, ne_eq] at g18
     have hq2 : (one1 f q).took = true := by first | assumption | simp_all
     refine w_yes 12 26 true <| st_move (v := .pointer _) rfl <| w_yes 12 26 true <| st_nilCheck rfl <| w_yes 12 26 true <| st_fieldAddr T.fld42_3 rfl <| w_yes 12 26 true <| st_load1 (v := .bool _) T.one4 rfl (hbj.cell rfl) <| w_yes 12 26 true <| st_not rfl <| pT rfl rfl <| mB rfl <| w_split (d := 33) rfl (fun g19 => ?_) (fun g19 => ?_)
     ·try simp only [nm, ne_eq] at g19
      have hq3 : (one1 f q).done = false := by first | assumption | simp_all
      refine w_yes 19 33 true <| st_move (v := .pointer _) rfl <| w_yes 19 33 true <| st_nilCheck rfl <| w_yes 19 33 true <| st_fieldAddr T.fld42_0 rfl <| w_yes 19 33 true <| st_call (ags := [_]) rfl rfl T.ent16 rfl (LenW_spec hw2) ?_
      rintro _ w20 ⟨rfl, c21⟩
      replace HC := HC.then c21
      replace hl := hl.tr0 c21
      replace hw2 := hw2.tr0 c21
      replace ha2 := ha2.tr0 c21
      replace hbj := hbj.tr0 c21
      refine w_yes 19 33 true <| st_leq rfl rfl <| pT rfl rfl <| aB rfl <| en <| ⟨(k, (one1 f q), A2, c2, Aa2, ca2, (decide ((((one1 f q).out.length : Nat) : Int) ≤ 65536))), ?_, ?_, rfl, ⟨rfl, trivial⟩, ?_⟩
      ·refine ⟨?_, HC, hl, hw2, ha2⟩
       exact ⟨fun hd => by have hd2 := of_decide_eq_true hd; have hmo : more1 (one1 f q) := ⟨hq1, hq2, hq3, by omega⟩; have hml := more_less hmo; exact ⟨by rw [← (hag1 rfl).1, prnF, if_pos hmo], by omega⟩, fun hd => by have hd2 := of_decide_eq_false hd; rw [← (hag1 rfl).1, prnF, if_neg (fun h => hd2 (by have := h.2.2.2; omega))], hca2, hag2, hob2⟩
      ·show k < k + 1; omega
      repeat (first | exact agree_upds agree_over rfl | refine agree_upd ?_ rfl | refine agree_upds ?_ rfl | refine agree_over_sub ?_ rfl)
     ·try simp only [nm, ne_eq] at g19
      iterate 5 refine w_no 19 33 true ?_
      refine pF rfl rfl <| aB rfl <| en <| ⟨(k, (one1 f q), A2, c2, Aa2, ca2, false), ?_, ?_, rfl, ⟨rfl, trivial⟩, ?_⟩
      ·refine ⟨?_, HC, hl, hw2, ha2⟩
       exact ⟨fun hd => (by cases hd), fun _ => by rw [← (hag1 rfl).1, prnF, if_neg (fun h => by have := h.2.2.1; simp_all)], hca2, hag2, hob2⟩
      ·show k < k + 1; omega
      repeat (first | exact agree_upds agree_over rfl | refine agree_upd ?_ rfl | refine agree_upds ?_ rfl | refine agree_over_sub ?_ rfl)
    ·try simp only [nm, ne_eq] at g18
     iterate 5 refine w_no 12 26 true ?_
     refine pF rfl rfl <| mB rfl ?_
     iterate 5 refine w_no 19 33 true ?_
     refine pF rfl rfl <| aB rfl <| en <| ⟨(k, (one1 f q), A2, c2, Aa2, ca2, false), ?_, ?_, rfl, ⟨rfl, trivial⟩, ?_⟩
     ·refine ⟨?_, HC, hl, hw2, ha2⟩
      exact ⟨fun hd => (by cases hd), fun _ => by rw [← (hag1 rfl).1, prnF, if_neg (fun h => by have := h.2.1; simp_all)], hca2, hag2, hob2⟩
     ·show k < k + 1; omega
     repeat (first | exact agree_upds agree_over rfl | refine agree_upd ?_ rfl | refine agree_upds ?_ rfl | refine agree_over_sub ?_ rfl)
   ·try simp only [nm, ne_eq] at g17
    iterate 4 refine w_no 6 20 true ?_
    refine pF rfl rfl <| mB rfl ?_
    iterate 5 refine w_no 12 26 true ?_
    refine pF rfl rfl <| mB rfl ?_
    iterate 5 refine w_no 19 33 true ?_
    refine pF rfl rfl <| aB rfl <| en <| ⟨(k, (one1 f q), A2, c2, Aa2, ca2, false), ?_, ?_, rfl, ⟨rfl, trivial⟩, ?_⟩
    ·refine ⟨?_, HC, hl, hw2, ha2⟩
     exact ⟨fun hd => (by cases hd), fun _ => by rw [← (hag1 rfl).1, prnF, if_neg (fun h => absurd (List.length_pos_iff.2 h.1) (by omega))], hca2, hag2, hob2⟩
    ·show k < k + 1; omega
    repeat (first | exact agree_upds agree_over rfl | refine agree_upd ?_ rfl | refine agree_upds ?_ rfl | refine agree_over_sub ?_ rfl)
  ·try simp only [nm, ne_eq] at h1
   have hfin := hag0 (by first | assumption | simp_all)
   refine x_exit <| then_x <| then_x <| block_x <| then_n <| x_seq <| x_seq ?_
   obtain ⟨pv4, hpv4, hbe⟩ := BldW.pv hw
   refine x_region rfl <| mP rfl <| nc rfl <| fa T.fld42_0 rfl <| Wp rfl <| st_call (ags := [_]) rfl rfl T.ent16 rfl (LenW_spec hw) ?_
   rintro _ w22 ⟨rfl, c23⟩
   replace HC := HC.then c23
   replace hl := hl.tr0 c23
   replace hw := hw.tr0 c23
   replace ha := ha.tr0 c23
   replace hbe := hbe.tr0 c23
   refine Wp rfl <| st_gtr rfl rfl <| en <| x_cond rfl (fun h2 => ?_) (fun h2 => ?_)
   ·try simp only [nm, ne_eq] at h2
    have hev : printfV (f :: l) = ([], 1) := by rw [printf_cons, ← hfin, if_pos (by omega)]
    refine sr rfl <| aS rfl <| aI rfl <| en <| x_ret <| then_r <| ret_tmp2 (v := S _) (v2 := .int _ _) rfl rfl rfl ?_
    first | exact ⟨rfl, HC⟩ | (rw [hev]; exact ⟨rfl, HC⟩)
   ·try simp only [nm, ne_eq] at h2
    have hev : printfV (f :: l) = (q.out, q.st) := by rw [printf_cons, ← hfin, if_neg (by omega)]
    refine x_skip <| then_n <| x_seq <| x_draw [(0, 0), (1, 0), (2, 0), (4, 0), (5, 0), (6, 0), (7, 0), (3, 1), (8, 0), (9, 0)] T.mixed rfl rfl rfl (fun W => W.heap[b]? = w22.heap[b]? ∧ True) ⟨rfl, trivial⟩ ?_
    have o26 := hbe
    have c25 := Chg.drew w22
    generalize World.drew w22 = w24 at c25 ⊢
    replace HC := HC.then c25
    replace hl := hl.tr0 c25
    replace hw := hw.tr0 c25
    replace ha := ha.tr0 c25
    replace hbe := hbe.tr0 c25
    refine sq_q rfl (fun W hT => r_move (v := .pointer _) rfl) <| sq_q rfl (fun W hT => r_nilCheck rfl) <| sq_q rfl (fun W hT => r_fieldAddr T.fld42_0 rfl) <| sq_q rfl (fun W hT => r_move (v := .pointer _) rfl) <| sq_q rfl (fun W hT => r_nilCheck rfl) <| sq_q rfl (fun W hT => r_fieldAddr T.fld42_4 rfl) <| sq_q rfl (fun W hT => r_load1 (v := .int _ _) T.one3 rfl (Blk.cell (show Blk W b _ _ from hT.1.trans o26) rfl)) <| sq_call1 rfl (r_call (ags := [_]) rfl rfl T.ent18 rfl) (StringW_spec hw) ?_
    have hne7 := hw.ne
    rintro _ w27 ⟨rfl, hws, c28⟩
    replace hbe := hbe.tr c28 hne7
    replace HC := HC.trans c28 (fun k hk => .inr (hob k hk))
    refine ⟨_, fun _ h => h, ⟨(Eq.trans hbe o26.symm), trivial⟩, ?_⟩
    refine sq_q rfl (fun W hT => r_assign (v := S _) rfl) <| sq_q rfl (fun W hT => r_assign (v := .int _ _) rfl) ?_
    clear o26
    refine sq_nil <| then_n <| x_ret <| ret_tmp2 (v := S _) (v2 := .int _ _) rfl rfl rfl ?_
    first | exact ⟨rfl, HC⟩ | (rw [hev]; exact ⟨rfl, HC⟩)

end Go.Proofs.YtlpndcpbnbeohaaDoor.K
set_option linter.unusedVariables false
set_option linter.unusedSimpArgs false
set_option autoImplicit false
set_option maxRecDepth 20000
namespace Go.Proofs.YtlpndcpbnbeohaaDoor.K
open Go Go.Proofs Go.RowKit

theorem chunks_flat {α : Type} {sz : Nat} {f : α → List Value} {h1 h2 h3} {w : World} {D : Nat → Prop} : ∀ xs : List α, Chunks (Enc.flat sz f h1 h2 h3) w D xs (xs.flatMap f)
  | [] => .nil
  | x :: xs => by rw [List.flatMap_cons]; exact Chunks.cons rfl (chunks_flat xs)
theorem sl_lit {α : Type} {sz : Nat} {f : α → List Value} {h1 h2 h3} {w : World} {b : Nat} {T' : TypeId} (xs : List α) (hm : xs.length ≤ 9223372036854775807) (h : Blk w b (xs.flatMap f) T') : Sl (Enc.flat sz f h1 h2 h3) w (fun k => k = b) (some ⟨b, 0, none⟩) xs :=
  (Own.of_blk (D := fun k => k = b) h rfl hm (chunks_flat xs)).sl
theorem Join_spec {A : Option Addr} {c : Nat} {D : Nat → Prop} {l : List Bytes} {w : World} (sep : Bytes) (hl : Sl sE w D A l) (hc : l.length ≤ c) (hn : l.length ≤ 140737488355328) (hj : (Lib.join l sep).length ≤ 140737488355328) : CallR Tryd.prog 23 #[.slice A l.length c, S sep] w fun v w' => v = S (Lib.join l sep) ∧ Chg [] w w' := by
  cases l with
  | nil => exact CallR.of (Tryd.strings_Join_none A c ⟨⟨sep⟩⟩ w) fun e w' ⟨h1, h2⟩ => ⟨_, h1, rfl, .refl' h2⟩
  | cons x l =>
    rcases hl with h | ⟨b, o, rfl, hlt, _, hcl⟩
    · cases h
    have hm : ((x :: l).map (fun s : Bytes => (⟨⟨s⟩⟩ : ByteArray))).map (·.data.toList) = x :: l := by rw [List.map_map]; simp [Function.comp_def]
    have hlen : ((x :: l).map (fun s : Bytes => (⟨⟨s⟩⟩ : ByteArray))).length = (x :: l).length := List.length_map ..
    have hjj := Tryd.strings_Join b o c ((x :: l).map (fun s : Bytes => (⟨⟨s⟩⟩ : ByteArray))) ⟨⟨sep⟩⟩ w (fun j y hy => by
      rw [List.getElem?_map] at hy
      cases hz : (x :: l)[j]? with
      | none => rw [hz] at hy; cases hy
      | some z =>
        rw [hz] at hy
        obtain rfl := Option.some.inj hy
        obtain ⟨vs, q1, q2⟩ := hcl j z hz
        have q1 : vs = [S z] := q1
        subst q1
        have := q2 0 _ rfl
        simp [sE, Enc.flat] at this
        exact this) hlt (by rw [hlen]; exact hn) (by rw [hlen]; exact hc) (by rw [hm]; exact hj)
    rw [hlen, hm] at hjj
    exact CallR.of hjj fun e w' ⟨h1, h2⟩ => ⟨_, h1, rfl, .of_below h2⟩
def echoV (l : List Bytes) : Bytes := if l ≠ [] ∧ hdS l = [45, 110] then Lib.join l.tail [32] else Lib.join l [32] ++ [10]

theorem awk_1 : printfV [[37, 115, 45, 37, 48, 51, 100, 92, 110], [97], [55], [98]] = ([97, 45, 48, 48, 55, 10, 98, 45, 48, 48, 48, 10], 0) := by kernel_rfl
theorem awk_2 : printfV [[37, 100], [120]] = ([48], 1) := by kernel_rfl
theorem awk_3 : echoV [[97], [98]] = [97, 32, 98, 10] := by kernel_rfl

theorem Echo_spec {A : Option Addr} {c : Nat} {Dl : Nat → Prop} {args : List Bytes} {w : World} (hl : Sl sE w Dl A args) (hc : args.length ≤ c) (hb : ∀ s, s ∈ args → s.length ≤ 10000000000000) (hj1 : (Lib.join args [32]).length ≤ 100000000000) (hj2 : (Lib.join args.tail [32]).length ≤ 100000000000) (hn : args.length ≤ 100000000000) : CallR Tryd.prog 13 #[.slice A args.length c] w fun v w' => v = S (echoV args) ∧ Chg [] w w' := by
 refine callR_of_wp (args := [_]) Tryd.func13 rfl (Nat.le_of_ble_eq_true rfl) ?_
 have HC : Chg [] w w := .refl _
 refine sr rfl <| aS rfl <| en <| x_seq <| sr rfl <| mL rfl <| Wp rfl <| st_len (ct := #[22]) (by rw [show ((#[22] : Array TypeId)[0]?).bind Tryd.prog.underlying = some (.slice 9) from T.u22]; rfl) rfl <| Wp rfl <| st_gtr rfl rfl <| mB rfl <| w_split (d := 6) rfl (fun g1 => ?_) (fun g1 => ?_)
 ·try simp only [nm, ne_eq] at g1
  obtain ⟨f, l, rfl⟩ : ∃ f l, args = f :: l := by cases args with | nil => simp_all | cons a l => exact ⟨a, l, rfl⟩
  refine w_yes 3 6 true <| st_move (v := .slice _ _ _) rfl ?_
  obtain ⟨lb6, _, vs5, hA2, hR4, hC3⟩ := hl.at (i := 0) (x := f) (rfl)
  obtain rfl : vs5 = [S f] := hR4
  refine w_yes 3 6 true <| st_indexAddr T.u22 T.size9 (congrArg (fun z => Value.slice z _ _) hA2) rfl (by decide) (by (simp only [List.length_cons]; omega)) <| w_yes 3 6 true <| st_load1 (v := S _) T.one9 rfl (hC3.at (j := 0) rfl) <| w_yes 3 6 true <| st_seql rfl rfl <| pT rfl rfl <| en <| x_cond rfl (fun h0 => ?_) (fun h0 => ?_)
  ·try simp only [nm, ne_eq] at h0
   refine sr rfl <| mL rfl <| Wp rfl <| st_slice (i := 1) (j := (f :: l).length) T.u22 T.size9 rfl ⟨_, rfl⟩ (by rfl) (by (simp only [List.length_cons]; omega)) (by exact hc) <| Wp rfl <| st_call (ags := [_, _]) rfl rfl T.ent23 rfl (Join_spec [32] (sl_tail hl rfl hc) (by simp only [List.length_cons] at hc ⊢; omega) (by simp only [List.length_cons] at hn; omega) (by simp only [List.tail_cons] at hj2; omega)) ?_
   rintro _ w7 ⟨rfl, c8⟩
   replace HC := HC.then c8
   replace hl := hl.tr0 c8
   refine aS rfl <| en <| x_ret <| then_r <| ret_tmp (v := S _) rfl rfl <| ⟨congrArg S ?_, HC⟩
   unfold echoV; rw [if_pos ⟨by simp, by assumption⟩]; rfl
  ·try simp only [nm, ne_eq] at h0
   refine x_skip <| then_n <| sr rfl <| mL rfl <| Wp rfl <| st_call (ags := [_, _]) rfl rfl T.ent23 rfl (Join_spec [32] hl hc (by omega) (by omega)) ?_
   rintro _ w9 ⟨rfl, c10⟩
   replace HC := HC.then c10
   replace hl := hl.tr0 c10
   refine Wp rfl <| st_sadd rfl rfl (by (simp only [List.length_cons, List.length_nil]; omega)) <| aS rfl <| en <| x_ret <| ret_tmp (v := S _) rfl rfl <| ⟨congrArg S ?_, HC⟩
   unfold echoV; rw [if_neg (by rintro ⟨h8, h9⟩; simp_all [hdS])]
 ·try simp only [nm, ne_eq] at g1
  obtain rfl : args = [] := List.length_eq_zero_iff.1 (by omega)
  iterate 4 refine w_no 3 6 true ?_
  refine pF rfl rfl <| en <| x_cond (t := false) rfl (fun h0 => ?_) (fun h0 => ?_)
  · exact absurd h0 (by decide)
  refine x_skip <| then_n <| sr rfl <| mL rfl <| Wp rfl <| st_call (ags := [_, _]) rfl rfl T.ent23 rfl (Join_spec [32] hl hc (by omega) (by omega)) ?_
  rintro _ w11 ⟨rfl, c12⟩
  replace HC := HC.then c12
  replace hl := hl.tr0 c12
  refine Wp rfl <| st_sadd rfl rfl (by (simp only [List.length_cons, List.length_nil]; omega)) <| aS rfl <| en <| x_ret <| ret_tmp (v := S _) rfl rfl <| ⟨congrArg S ?_, HC⟩
  unfold echoV; rw [if_neg (by rintro ⟨h8, h9⟩; simp_all [hdS])]

set_option maxHeartbeats 1000000 in
theorem awake23_spec {w : World} : CallR Tryd.prog 8 #[] w fun v w' => v = .bool true ∧ Chg [] w w' := by
 refine callR_of_wp (args := []) Tryd.func8 rfl (Nat.le_of_ble_eq_true rfl) ?_
 have HC : Chg [] w w := .refl _
 refine sr rfl <| aB rfl <| en <| sr rfl <| Wp rfl <| st_lit (ps := [(0, .const (S [37, 115, 45, 37, 48, 51, 100, 92, 110])), (1, .const (S [97])), (2, .const (S [55])), (3, .const (S [98]))]) (vs := [S _, S _, S _, S _]) T.lit22 (by decide) rfl (by simp only [List.forall_mem_cons, List.not_mem_nil, false_imp_iff, implies_true, and_true]; exact ⟨rfl, rfl, rfl, rfl⟩) rfl ?_
 intro b1 w2 e3 c4 hb5
 have ge_b1 : w.heap.size ≤ b1 := by rw [e3]; exact HC.size
 replace HC := HC.then c4
 clear e3
 refine Wp rfl <| st_call (ags := [_]) rfl rfl T.ent9 rfl (Printf_spec (args := [[37, 115, 45, 37, 48, 51, 100, 92, 110], [97], [55], [98]]) (c := 4) (sl_lit (f := fun s : Bytes => [S s]) [[37, 115, 45, 37, 48, 51, 100, 92, 110], [97], [55], [98]] (by simp) hb5) (Nat.le_refl _) (fun s hs => by simp only [List.mem_cons, List.mem_nil_iff, or_false] at hs; rcases hs with rfl | rfl | rfl | rfl <;> simp)) ?_
 rintro vT1 w6 ⟨hvT, c7⟩
 rw [awk_1] at hvT
 subst hvT
 replace HC := HC.then c7
 replace hb5 := hb5.tr0 c7
 refine mv (v := .tuple ⟨[_, _]⟩) rfl <| Wp rfl <| st_extract (vs := [_, _]) (v := S _) rfl rfl <| Wp rfl <| st_extract (vs := [_, _]) (v := .int _ _) rfl rfl <| aS rfl <| aI rfl <| en <| sr rfl <| Wp rfl <| st_lit (ps := [(0, .const (S [37, 100])), (1, .const (S [120]))]) (vs := [S _, S _]) T.lit22 (by decide) rfl (by simp only [List.forall_mem_cons, List.not_mem_nil, false_imp_iff, implies_true, and_true]; exact ⟨rfl, rfl⟩) rfl ?_
 intro b8 w9 e10 c11 hb12
 have ge_b8 : w.heap.size ≤ b8 := by rw [e10]; exact HC.size
 have ne_b1_b8 : b1 ≠ b8 := by rw [e10]; exact hb5.ne_size
 replace HC := HC.then c11
 replace hb5 := hb5.tr0 c11
 clear e10
 refine Wp rfl <| st_call (ags := [_]) rfl rfl T.ent9 rfl (Printf_spec (args := [[37, 100], [120]]) (c := 2) (sl_lit (f := fun s : Bytes => [S s]) [[37, 100], [120]] (by simp) hb12) (Nat.le_refl _) (fun s hs => by simp only [List.mem_cons, List.mem_nil_iff, or_false] at hs; rcases hs with rfl | rfl <;> simp)) ?_
 rintro vT2 w13 ⟨hvT, c14⟩
 rw [awk_2] at hvT
 subst hvT
 replace HC := HC.then c14
 replace hb5 := hb5.tr0 c14
 replace hb12 := hb12.tr0 c14
 refine mv (v := .tuple ⟨[_, _]⟩) rfl <| Wp rfl <| st_extract (vs := [_, _]) (v := S _) rfl rfl <| Wp rfl <| st_extract (vs := [_, _]) (v := .int _ _) rfl rfl <| aS rfl <| aI rfl <| en <| sr rfl <| mS rfl <| Wp rfl <| st_seql rfl rfl <| mB rfl <| w_split (d := 17) rfl (fun g15 => ?_) (fun g15 => ?_)
 ·try simp only [nm, ne_eq] at g15
  refine w_yes 2 17 true <| st_move (v := .int _ _) rfl <| w_yes 2 17 true <| st_eql rfl rfl <| pT rfl rfl <| mB rfl <| w_split (d := 21) rfl (fun g16 => ?_) (fun g16 => ?_)
  ·try simp only [nm, ne_eq] at g16
   refine w_yes 6 21 true <| st_move (v := S _) rfl <| w_yes 6 21 true <| st_seql rfl rfl <| pT rfl rfl <| mB rfl <| w_split (d := 25) rfl (fun g17 => ?_) (fun g17 => ?_)
   ·try simp only [nm, ne_eq] at g17
    refine w_yes 10 25 true <| st_move (v := .int _ _) rfl <| w_yes 10 25 true <| st_eql rfl rfl <| pT rfl rfl <| mB rfl <| w_split (d := 29) rfl (fun g18 => ?_) (fun g18 => ?_)
    ·try simp only [nm, ne_eq] at g18
     refine w_yes 14 29 true <| st_lit (ps := [(0, .const (S [97])), (1, .const (S [98]))]) (vs := [S _, S _]) T.lit22 (by decide) rfl (by simp only [List.forall_mem_cons, List.not_mem_nil, false_imp_iff, implies_true, and_true]; exact ⟨rfl, rfl⟩) rfl ?_
     intro b19 w20 e21 c22 hb23
     have ge_b19 : w.heap.size ≤ b19 := by rw [e21]; exact HC.size
     have ne_b1_b19 : b1 ≠ b19 := by rw [e21]; exact hb5.ne_size
     have ne_b8_b19 : b8 ≠ b19 := by rw [e21]; exact hb12.ne_size
     replace HC := HC.then c22
     replace hb5 := hb5.tr0 c22
     replace hb12 := hb12.tr0 c22
     clear e21
     refine w_yes 14 29 true <| st_call (ags := [_]) rfl rfl T.ent13 rfl (Echo_spec (args := [[97], [98]]) (c := 2) (sl_lit (f := fun s : Bytes => [S s]) [[97], [98]] (by simp) hb23) (Nat.le_refl _) (fun s hs => by simp only [List.mem_cons, List.mem_nil_iff, or_false] at hs; rcases hs with rfl | rfl <;> simp) (by decide) (by decide) (by decide)) ?_
     rintro vT3 w24 ⟨hvT, c25⟩
     rw [awk_3] at hvT
     subst hvT
     replace HC := HC.then c25
     replace hb5 := hb5.tr0 c25
     replace hb12 := hb12.tr0 c25
     replace hb23 := hb23.tr0 c25
     refine w_yes 14 29 true <| st_seql rfl rfl <| pT rfl rfl <| aB rfl <| en <| x_ret <| ret_tmp (v := .bool _) rfl rfl ?_
     exact ⟨rfl, HC⟩
    ·try simp only [nm, ne_eq] at g18
     first | exact absurd rfl g18 | exact absurd trivial g18 | (simp at g18; done)
   ·try simp only [nm, ne_eq] at g17
    first | exact absurd rfl g17 | exact absurd trivial g17 | (simp at g17; done)
  ·try simp only [nm, ne_eq] at g16
   first | exact absurd rfl g16 | exact absurd trivial g16 | (simp at g16; done)
 ·try simp only [nm, ne_eq] at g15
  first | exact absurd rfl g15 | exact absurd trivial g15 | (simp at g15; done)

end Go.Proofs.YtlpndcpbnbeohaaDoor.K
set_option linter.unusedVariables false
set_option linter.unusedSimpArgs false
set_option autoImplicit false
set_option maxRecDepth 20000
namespace Go.Proofs.YtlpndcpbnbeohaaDoor.K
open Go Go.Proofs Go.RowKit

end Go.Proofs.YtlpndcpbnbeohaaDoor.K
set_option linter.unusedVariables false
set_option linter.unusedSimpArgs false
set_option autoImplicit false
set_option maxRecDepth 20000
namespace Go.Proofs.YtlpndcpbnbeohaaDoor.K
open Go Go.Proofs Go.RowKit

section
variable {P : Program} {r : Option Nat} {n : Nat} {O : Array Oper} {Q : Post} {E : Env} {ds : List Deferred} {w : World} {l : List Oper}
variable {dst : Option Nat} {ty : TypeId} {pos : String} {af : Array Edge} {g : Option (Nat × Bool)}
end
def tot : List Bytes → Nat
  | [] => 0
  | s :: l => s.length + tot l
def shortB (l : List Bytes) : Bool := decide (tot l ≤ 2000 ∧ l.length ≤ 30)
theorem tot_append (a b : List Bytes) : tot (a ++ b) = tot a + tot b := by induction a <;> simp_all [tot, Nat.add_assoc]
theorem tot_step {l : List Bytes} {i : Nat} {x : Bytes} (h : l[i]? = some x) : tot (l.take (i + 1)) = tot (l.take i) + x.length := by
  rw [List.take_add_one, h, tot_append]; simp [tot]
theorem tot_take (l : List Bytes) (i : Nat) : tot (l.take i) ≤ tot l := by
  have := tot_append (l.take i) (l.drop i); rw [List.take_append_drop] at this; omega
theorem tot_mem {l : List Bytes} {s : Bytes} (h : s ∈ l) : s.length ≤ tot l := by
  induction l with
  | nil => cases h
  | cons a l ih => rcases List.mem_cons.1 h with rfl | h; (show _ ≤ _ + _; omega); (have := ih h; show _ ≤ _ + _; omega)
theorem short_spec {A : Option Addr} {c : Nat} {Dl : Nat → Prop} {args : List Bytes} {w : World} (hl : Sl sE w Dl A args) (hc : args.length ≤ c) (hb : ∀ s, s ∈ args → s.length ≤ 140737488351232) (hn : args.length ≤ 140737488351232) : CallR Tryd.prog 7 #[.slice A args.length c] w fun v w' => v = .bool (shortB args) ∧ Chg [] w w' := by
 replace hl := hl.mono (D' := fun k => k < w.heap.size) (fun k hk _ => hk)
 refine callR_of_wp (args := [_]) Tryd.func7 rfl (Nat.le_of_ble_eq_true rfl) ?_
 have HC : Chg [] w w := .refl _
 refine sr rfl <| aB rfl <| en <| sr rfl <| aI rfl <| en <| x_seq <| sr rfl <| aI rfl <| en <| x_block <| x_loop (ι := Nat × Nat) [3, 4, 5, 6, 7, 8, 9, 10, 11, 12, 13, 14, 15, 16, 17, 18, 19, 20, 21] (fun ⟨i, n⟩ => [(4, .int .i64 (i : Int)), (3, .int .i64 (n : Int))]) (fun ⟨i, n⟩ W => (i ≤ args.length ∧ n = tot (args.take i) ∧ n ≤ 140737488355328) ∧ (Chg [] w W) ∧ (Sl sE W (fun k => k < w.heap.size) A args)) (fun ⟨i, n⟩ => args.length - i) (0, 0) ?_ ?_ ?_
 · exact ⟨rfl, rfl, trivial⟩
 ·refine ⟨?_, HC, hl⟩
  exact ⟨Nat.zero_le _, rfl, Nat.zero_le _⟩
 intro ⟨i, n⟩ G2 w1 ⟨⟨hi, hn0, hn1⟩, HC, hl⟩
 change wp _ _ _ _ _ (upds (over _ _ G2) [(4, .int .i64 (i : Int)), (3, .int .i64 (n : Int))]) _ _
 refine x_seq <| sr rfl <| mI rfl <| mL rfl <| Wp rfl <| st_len (ct := #[22]) (by rw [show ((#[22] : Array TypeId)[0]?).bind Tryd.prog.underlying = some (.slice 9) from T.u22]; rfl) rfl <| Wp rfl <| st_lss rfl rfl <| mB rfl <| w_split (d := 9) rfl (fun g3 => ?_) (fun g3 => ?_)
 ·try simp only [nm, ne_eq] at g3
  refine w_yes 4 9 true <| st_move (v := .int _ _) rfl <| w_yes 4 9 true <| st_leq rfl rfl <| pT rfl rfl <| en <| x_cond rfl (fun h0 => ?_) (fun h0 => ?_)
  ·try simp only [nm, ne_eq] at h0
   refine x_skip <| then_n <| x_seq <| x_block ?_
   obtain ⟨y, hy⟩ : ∃ y, args[i]? = some y := ⟨_, List.getElem?_eq_getElem (by omega)⟩
   have hyb := hb y (List.mem_of_getElem? hy)
   refine x_region rfl <| mI rfl <| mL rfl <| mI rfl ?_
   obtain ⟨lb8, _, vs7, hA4, hR6, hC5⟩ := hl.at (i := i) (x := y) (hy)
   obtain rfl : vs7 = [S y] := hR6
   refine Wp rfl <| st_indexAddr T.u22 T.size9 (congrArg (fun z => Value.slice z _ _) hA4) rfl (by omega) (by omega) <| lS T.one9 rfl (hC5.at (j := 0) rfl) <| Wp rfl <| st_slen (ct := #[9]) T.u9 rfl <| Wp rfl <| st_addn rfl rfl (by constructor <;> omega) <| aI rfl <| wops_nil <| block_n <| then_n <| x_region rfl <| mI rfl <| Wp rfl <| st_addn rfl rfl (by constructor <;> omega) <| aI rfl <| en <| ⟨(i + 1, n + y.length), ?_, ?_, rfl, ⟨rfl, rfl, trivial⟩, ?_⟩
   ·refine ⟨?_, HC, hl⟩
    exact ⟨by omega, by rw [tot_step hy, hn0], by omega⟩
   ·show args.length - (i + 1) < args.length - i; omega
   repeat (first | exact agree_upds agree_over rfl | refine agree_upd ?_ rfl | refine agree_upds ?_ rfl | refine agree_over_sub ?_ rfl)
  ·try simp only [nm, ne_eq] at h0
   have htt := tot_take args i
   have htl : i = args.length → tot args = n := fun e => by rw [hn0, e, List.take_length]
   refine x_exit <| then_x <| then_x <| block_x <| then_n <| sr rfl <| mI rfl <| Wp rfl <| st_leq rfl rfl <| mB rfl <| w_split (d := 24) rfl (fun g9 => ?_) (fun g9 => ?_)
   ·try simp only [nm, ne_eq] at g9
    refine w_yes 2 24 true <| st_move (v := .slice _ _ _) rfl <| w_yes 2 24 true <| st_len (ct := #[22]) (by rw [show ((#[22] : Array TypeId)[0]?).bind Tryd.prog.underlying = some (.slice 9) from T.u22]; rfl) rfl <| w_yes 2 24 true <| st_leq rfl rfl <| pT rfl rfl <| aB rfl <| en <| x_ret <| ret_tmp (v := .bool _) rfl rfl <| ⟨congrArg Value.bool ?_, HC⟩
    unfold shortB
    first | exact decide_eq_decide.2 (by omega) | exact (decide_eq_false (by omega)).symm | (symm; simp only [decide_eq_decide, decide_eq_true_eq, decide_eq_false_iff_not]; omega)
   ·try simp only [nm, ne_eq] at g9
    iterate 3 refine w_no 2 24 true ?_
    refine pF rfl rfl <| aB rfl <| en <| x_ret <| ret_tmp (v := .bool _) rfl rfl <| ⟨congrArg Value.bool ?_, HC⟩
    unfold shortB
    first | exact decide_eq_decide.2 (by omega) | exact (decide_eq_false (by omega)).symm | (symm; simp only [decide_eq_decide, decide_eq_true_eq, decide_eq_false_iff_not]; omega)
 ·try simp only [nm, ne_eq] at g3
  refine w_no 4 9 true <| w_no 4 9 true <| pF rfl rfl <| en <| x_cond (t := false) rfl (fun h0 => ?_) (fun h0 => ?_)
  · exact absurd h0 (by decide)
  have htt := tot_take args i
  have htl : i = args.length → tot args = n := fun e => by rw [hn0, e, List.take_length]
  refine x_exit <| then_x <| then_x <| block_x <| then_n <| sr rfl <| mI rfl <| Wp rfl <| st_leq rfl rfl <| mB rfl <| w_split (d := 24) rfl (fun g10 => ?_) (fun g10 => ?_)
  ·try simp only [nm, ne_eq] at g10
   refine w_yes 2 24 true <| st_move (v := .slice _ _ _) rfl <| w_yes 2 24 true <| st_len (ct := #[22]) (by rw [show ((#[22] : Array TypeId)[0]?).bind Tryd.prog.underlying = some (.slice 9) from T.u22]; rfl) rfl <| w_yes 2 24 true <| st_leq rfl rfl <| pT rfl rfl <| aB rfl <| en <| x_ret <| ret_tmp (v := .bool _) rfl rfl <| ⟨congrArg Value.bool ?_, HC⟩
   unfold shortB
   first | exact decide_eq_decide.2 (by omega) | exact (decide_eq_false (by omega)).symm | (symm; simp only [decide_eq_decide, decide_eq_true_eq, decide_eq_false_iff_not]; omega)
  ·try simp only [nm, ne_eq] at g10
   iterate 3 refine w_no 2 24 true ?_
   refine pF rfl rfl <| aB rfl <| en <| x_ret <| ret_tmp (v := .bool _) rfl rfl <| ⟨congrArg Value.bool ?_, HC⟩
   unfold shortB
   first | exact decide_eq_decide.2 (by omega) | exact (decide_eq_false (by omega)).symm | (symm; simp only [decide_eq_decide, decide_eq_true_eq, decide_eq_false_iff_not]; omega)

end Go.Proofs.YtlpndcpbnbeohaaDoor.K
set_option linter.unusedVariables false
set_option linter.unusedSimpArgs false
set_option autoImplicit false
set_option maxRecDepth 20000
namespace Go.Proofs.YtlpndcpbnbeohaaDoor.K
open Go Go.Proofs Go.RowKit

theorem readN_in {b : Int} (hb : 2 ≤ b) : ∀ (s : Bytes) (n m : Int), 0 ≤ n → n ≤ 9223372036854775807 → readN b n s = some m → 0 ≤ m ∧ m ≤ 9223372036854775807
  | [], n, m, h0, h1, h => by cases h; exact ⟨h0, h1⟩
  | c :: s, n, m, h0, h1, h => by
    rw [readN] at h
    split at h
    · cases h
    · rename_i hc
      have hd : 0 ≤ digV c := by omega
      have hdl := (digV_lt c).2
      have hq : n ≤ (9223372036854775807 - digV c) / b := by
        rw [← Int.tdiv_eq_ediv_of_nonneg (by omega)]; omega
      have hm := (Int.le_ediv_iff_mul_le (by omega)).1 hq
      have hp := Int.mul_nonneg h0 (show 0 ≤ b by omega)
      exact readN_in hb s _ m (by omega) (by omega) h
theorem constB_2 (s : Bytes) : 2 ≤ (constB s).1 := by
  unfold constB; repeat' split
  all_goals (first | decide | (simp only; decide))

theorem constV_in (s : Bytes) : 0 ≤ (constV s).1 ∧ (constV s).1 ≤ 9223372036854775807 := by
  unfold constV
  cases h : readN (constB s).1 0 (constB s).2 with
  | none => simp
  | some n => have := readN_in (constB_2 s) (constB s).2 0 n (by omega) (by omega) h; simpa using this
theorem constV_wrap (s : Bytes) : IntKind.i64.wrap (constV s).1 = (constV s).1 := by
  have h := constV_in s
  exact wrap64_id (by omega) (by omega)
theorem hd45 {c : UInt8} {s : Bytes} : ((byte (c :: s) 0).toNat : Int) = 45 ↔ c = 45 := ⟨fun h => UInt8.toNat_inj.1 (by have h2 : (c.toNat : Int) = 45 := h; show c.toNat = 45; omega), fun h => by rw [h]; rfl⟩
theorem hd43 {c : UInt8} {s : Bytes} : ((byte (c :: s) 0).toNat : Int) = 43 ↔ c = 43 := ⟨fun h => UInt8.toNat_inj.1 (by have h2 : (c.toNat : Int) = 43 := h; show c.toNat = 43; omega), fun h => by rw [h]; rfl⟩
theorem trim_hd (c a : UInt8) (s : Bytes) : Lib.trimPrefix (c :: s) [a] = if c = a then s else c :: s := by
  unfold Lib.trimPrefix Lib.hasPrefix
  by_cases h : c = a
  · subst h; simp
  · simp [h, Ne.symm h]
theorem cons_ne_self (c : UInt8) (s : Bytes) : s ≠ c :: s := fun h => by have := congrArg List.length h; simp at this
theorem valV_hd (c : UInt8) (s : Bytes) : valV (c :: s) = if c = 45 then (if (constV s).2 = true then (IntKind.i64.wrap (0 - (constV s).1), 0) else (0, 102)) else if c = 43 then (if (constV s).2 = true then ((constV s).1, 0) else (0, 102)) else if (constV (c :: s)).2 = true then ((constV (c :: s)).1, 0) else (0, 102) := by
  have hw : ∀ s : Bytes, IntKind.i64.wrap (1 * (constV s).1) = (constV s).1 := fun s => by rw [Int.one_mul]; exact constV_wrap s
  unfold valV
  rw [if_neg (by simp)]
  by_cases h : c = 45
  · subst h; rw [trim_hd, if_pos rfl, if_neg (cons_ne_self _ _), if_pos rfl, show (-1 : Int) * (constV s).1 = 0 - (constV s).1 by omega]
  · rw [trim_hd, if_neg h, if_pos rfl, if_neg h, trim_hd]
    by_cases h2 : c = 43
    · subst h2; rw [if_pos rfl, if_pos rfl, hw]
    · rw [if_neg h2, if_neg h2, hw]

/-- A whole number's digits, with its sign. -/
def sgV (n : Int) : Bytes := if n < 0 then [45] else []
def abN (n : Int) : Nat := if n < 0 then (-n).toNat else n.toNat
def textV (n : Int) : Bytes := sgV n ++ basV 10 (abN n)
end Go.Proofs.YtlpndcpbnbeohaaDoor.K
set_option linter.unusedVariables false
set_option linter.unusedSimpArgs false
set_option autoImplicit false
set_option maxRecDepth 20000
namespace Go.Proofs.YtlpndcpbnbeohaaDoor.K
open Go Go.Proofs Go.RowKit

structure Nums (n : Int) (W : Nat) (U L Z : Bytes) (K g : Nat) : Prop where
  u : U = List.replicate K 32 ++ textV n
  l : L = textV n ++ List.replicate K 32
  z : Z = sgV n ++ (List.replicate K 48 ++ basV 10 (abN n))
  k : K = W - (textV n).length
  g : g = (sgV n).length
end Go.Proofs.YtlpndcpbnbeohaaDoor.K
