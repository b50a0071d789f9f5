import Derived.Test.YtghjmiggobpmoaaGreatDoorUd
import Derived.Test.YtghjmiggobpmoaaGreatDoorKitU
set_option linter.unusedVariables false
set_option linter.unusedSimpArgs false
set_option autoImplicit false
set_option maxRecDepth 20000
namespace Go.Proofs.YtghjmiggobpmoaaGreatDoor.K
open Go Go.Proofs Go.RowKit

/-- What strings.Cut reads of the library's variables. -/
def MaxT (w : World) : Prop := ∃ m, w.cell? ⟨1, 0, none⟩ = some (.int .i64 m)
theorem MaxT.lt {w : World} (h : MaxT w) : 1 < w.heap.size := by
  obtain ⟨m, h⟩ := h
  rcases Nat.lt_or_ge 1 w.heap.size with h1 | h1
  · exact h1
  · have h2 : w.heap[1]? = none := Array.getElem?_eq_none h1
    simp [World.cell?, h2] at h
theorem MaxT.kept {w w' : World} (h : MaxT w) (e : w'.heap[1]? = w.heap[1]?) : MaxT w' := by
  obtain ⟨m, h⟩ := h; exact ⟨m, by rw [← h]; simp only [World.cell?, e]⟩
theorem MaxT.tr {w w' : World} {bs : List Nat} (h : MaxT w) (c : Chg bs w w') (hb : 1 ∉ bs) : MaxT w' := h.kept (c.block _ h.lt hb)
theorem MaxT.tr0 {w w' : World} (h : MaxT w) (c : Chg [] w w') : MaxT w' := h.tr c (by simp)
theorem Cut_spec (s c : Bytes) (w : World) (hs : s.length < 4294967281) (hm : MaxT w) : CallR Tryz.prog 38 #[S s, S c] w fun v w' => v = .tuple ⟨[S (Lib.cut s c).1, S (Lib.cut s c).2.1, .bool (Lib.cut s c).2.2]⟩ ∧ Chg [] w w' := by
  obtain ⟨m, hm⟩ := hm
  exact CallR.of (Tryz.strings_Cut ⟨⟨s⟩⟩ ⟨⟨c⟩⟩ m w hs hm) fun e w' ⟨h1, n, h2⟩ => ⟨_, h1, rfl, by rw [h2]; exact Chg.drewN w n⟩
def wtC (x : Nat × Bool) : List Value := [.int .i64 (x.1 : Int), .bool x.2]
def wtE : Enc (Nat × Bool) := .flat 2 wtC (by omega) (fun _ => rfl) (fun _ u hu => by simp [wtC] at hu; rcases hu with rfl | rfl <;> rfl)
def withL (z : Tok) (h : Bytes) (r : Bool) : Tok := { z with here := h, raw := r }
theorem tokL (l : List Tok) : (flatC tokC5 l).length = l.length * 5 := flatC_len (sz := 5) (fun _ => rfl) l
theorem flat_split {l0 l1 : List Tok} {z : Tok} {rest : List Value} : flatC tokC5 (l0 ++ z :: l1) ++ rest = flatC tokC5 l0 ++ (tokC5 z ++ (flatC tokC5 l1 ++ rest)) := by
  simp [flatC]
theorem cell_tok {l0 l1 : List Tok} {z : Tok} {rest : List Value} (k : Nat) {v : Value} (h : (tokC5 z)[k]? = some v) : nthV (flatC tokC5 (l0 ++ z :: l1) ++ rest) (0 + l0.length * 5 + k) = some v := by
  rw [nthV_eq, flat_split, List.getElem?_append_right (by rw [tokL]; omega), tokL, show 0 + l0.length * 5 + k - l0.length * 5 = k by omega, List.getElem?_append_left (List.getElem?_eq_some_iff.1 h).1, h]
theorem set_tok {l0 l1 : List Tok} {z u : Tok} {rest : List Value} (k : Nat) {v : Value} (hk : k < 5) (h : (tokC5 z).set k v = tokC5 u) : setVs (flatC tokC5 (l0 ++ z :: l1) ++ rest) (0 + l0.length * 5 + k) [v] = flatC tokC5 (l0 ++ u :: l1) ++ rest := by
  show setV _ (0 + l0.length * 5 + k) v = _
  rw [setV_eq, flat_split, flat_split, List.set_append_right _ _ (by rw [tokL]; omega), tokL, show 0 + l0.length * 5 + k - l0.length * 5 = k by omega, List.set_append_left _ _ (show k < 5 from hk), h]
theorem flat_len {l0 l1 : List Tok} {z u : Tok} {rest : List Value} : (flatC tokC5 (l0 ++ u :: l1) ++ rest).length = (flatC tokC5 (l0 ++ z :: l1) ++ rest).length := by
  simp only [List.length_append, tokL, List.length_cons]
theorem at_split {l : List Tok} {j : Nat} (h : j < l.length) : ∃ l0 z l1, l = l0 ++ z :: l1 ∧ l0.length = j := by
  refine ⟨l.take j, l[j], l.drop (j + 1), ?_, by rw [List.length_take]; omega⟩
  rw [List.getElem_cons_drop, List.take_append_drop]
theorem linesV_cons {l0 l1 : List Tok} {z : Tok} {st : Bool} {ws : List (Nat × Bool)} {r x : Bytes} {m : Nat} (h : bodyV (plainV z.text).1 st r = (x, m)) :
    linesV (l0 ++ z :: l1) ((l0.length, st) :: ws) r = ((linesV (l0 ++ withL z (z.here ++ x) (plainV z.text).2 :: l1) ws (r.drop m)).1, (linesV (l0 ++ withL z (z.here ++ x) (plainV z.text).2 :: l1) ws (r.drop m)).2 + m) := by
  have e : (l0 ++ z :: l1).getD l0.length ⟨0, [], 0, [], false⟩ = z := by simp [List.getD_eq_getElem?_getD]
  have e2 : ∀ u : Tok, (l0 ++ z :: l1).set l0.length u = l0 ++ u :: l1 := fun u => by simp
  simp only [linesV, e, h, e2]; rfl
theorem cut_all {r c : Bytes} (h : (Lib.cut r c).2.2 = false) : (Lib.cut r c).1 = r := by
  unfold Lib.cut at h ⊢; split
  · rename_i h1; rw [if_pos h1] at h; cases h
  · rfl
def lnV (st : Bool) (r : Bytes) : Bytes := if st then trimT (Lib.cut r [10]).1 else (Lib.cut r [10]).1
def lmV (r : Bytes) : Nat := (Lib.cut r [10]).1.length + (if (Lib.cut r [10]).2.2 then 1 else 0)
def laV (st : Bool) (r : Bytes) : Bytes := if (Lib.cut r [10]).2.2 then lnV st r ++ [10] else lnV st r
theorem lm_pos {r : Bytes} (h : r ≠ []) : 1 ≤ lmV r ∧ lmV r ≤ r.length := by
  unfold lmV
  cases hm : (Lib.cut r [10]).2.2 with
  | true => have := cut_more hm; simp at this ⊢; omega
  | false => rw [cut_all hm]; have := List.length_pos_iff.2 h; simp; omega
theorem la_len (st : Bool) (r : Bytes) : (laV st r).length ≤ lmV r := by
  have h : (lnV st r).length ≤ (Lib.cut r [10]).1.length := by unfold lnV; split; exact trimT_len _; exact Nat.le_refl _
  unfold laV lmV; split
  · simp; omega
  · omega
theorem bodyL_end {fin : Bytes} {st : Bool} {k : Nat} {r : Bytes} (h : r = []) : bodyL fin st k r = ([], 0) := by cases k with | zero => rfl | succ k => rw [bodyL, if_pos h]
theorem bodyL_fin {fin : Bytes} {st : Bool} {k : Nat} {r : Bytes} (hr : r ≠ []) (h : lnV st r = fin) : bodyL fin st (k + 1) r = ([], lmV r) := by
  rw [bodyL, if_neg hr]; simp only []; rw [if_pos (show (if st = true then trimT _ else _) = fin from h)]; rfl
theorem bodyL_go {fin : Bytes} {st : Bool} {k : Nat} {r : Bytes} (hr : r ≠ []) (h : ¬ lnV st r = fin) : bodyL fin st (k + 1) r = (laV st r ++ (bodyL fin st k (r.drop (lmV r))).1, (bodyL fin st k (r.drop (lmV r))).2 + lmV r) := by
  rw [bodyL, if_neg hr]; simp only []; rw [if_neg (show ¬ (if st = true then trimT _ else _) = fin from h)]; rfl
theorem GoodO.set {n i j : Nat} {l0 l1 : List Tok} {z : Tok} {h : Bytes} {r : Bool} (hg : GoodO n i (l0 ++ z :: l1)) (hij : i ≤ j) (hh : h.length ≤ j) : GoodO n j (l0 ++ withL z h r :: l1) := fun u hu => by
  rcases List.mem_append.1 hu with h1 | h1
  · have := hg u (List.mem_append_left _ h1); exact ⟨this.1, by omega⟩
  · rcases List.mem_cons.1 h1 with rfl | h1
    · exact ⟨(hg z (by simp)).1, hh⟩
    · have := hg u (List.mem_append_right _ (List.mem_cons_of_mem _ h1)); exact ⟨this.1, by omega⟩
theorem drop_cons_at {α : Type} {l : List α} {k : Nat} {x : α} (h : l[k]? = some x) : l.drop k = x :: l.drop (k + 1) := by
  obtain ⟨h1, h2⟩ := List.getElem?_eq_some_iff.1 h
  rw [List.drop_eq_getElem_cons h1, h2]

theorem lines_spec {b : Nat} {A Aw : Option Addr} {cap capw : Nat} {out : List Tok} {ws : List (Nat × Bool)} {D : Nat → Prop} (s : Bytes) (i0 : Nat) (w : World) (hb : Blk w b [S s, .slice A out.length cap, .slice Aw ws.length capw] 69) (ho : Own tok5E 51 w D A cap out) (hw : Own wtE 75 w D Aw capw ws) (hDb : ∀ k, D k → k ≠ b ∧ k ≠ 1) (hbx : b ≠ 1)
    (hwj : ∀ x, x ∈ ws → x.1 < out.length) (hi : i0 ≤ s.length) (hs : s.length ≤ 16384) (hg : GoodO s.length i0 out) (hmx : MaxT w) : CallR Tryz.prog 28 #[.pointer (some ⟨b, 0, none⟩), .int .i64 (i0 : Int)] w fun v w' => v = .int .i64 ((i0 + (linesV out ws (s.drop i0)).2 : Nat) : Int) ∧ Blk w' b [S s, .slice A out.length cap, .slice none 0 0] 69 ∧ Own tok5E 51 w' D A cap (linesV out ws (s.drop i0)).1 ∧ (GoodO s.length (i0 + (linesV out ws (s.drop i0)).2) (linesV out ws (s.drop i0)).1 ∧ i0 + (linesV out ws (s.drop i0)).2 ≤ s.length) ∧ Chg (b :: ob A) w w' := by
 refine callR_of_wp (args := [_, _]) Tryz.func28 rfl (Nat.le_of_ble_eq_true rfl) ?_
 have HC : Chg (b :: ob A) w w := .refl _
 have nao_b : b ∉ ob A := fun h => (hDb _ (ho.inD _ h)).1 rfl
 have naw_b : b ∉ ob Aw := fun h => (hDb _ (hw.inD _ h)).1 rfl
 have hws : ∀ k, (s.drop k).length ≤ 16384 := fun k => by rw [List.length_drop]; omega
 have hm1 := hmx.lt
 have hwle := hw.le
 refine sr rfl <| aI rfl <| en <| x_seq <| sr rfl <| mP rfl <| nc rfl <| fa T.fld69_2 rfl <| lL T.one67 rfl (hb.cell rfl) <| Wp rfl <| st_len (ct := #[67]) (by rw [show ((#[67] : Array TypeId)[0]?).bind Tryz.prog.underlying = some (.slice 75) from T.u67]; rfl) rfl <| mI rfl <| en <| x_block <| x_loop (ι := List Tok × Nat × Nat) [1, 6, 7, 8, 9, 10, 11, 17, 18, 19, 20, 21, 22, 23, 24, 25, 26, 27, 28, 29, 30, 31, 32, 33, 34, 35, 36, 37, 38, 39, 40, 41, 42, 43, 44, 45, 46, 47, 48, 49, 50, 51, 52, 53, 54, 55, 56, 57, 58, 59, 60, 61, 62, 63, 64, 65, 66, 67, 68, 69, 70, 71, 72, 73, 74, 75, 76, 77, 78, 79, 80, 81, 82] (fun ⟨L, k, i⟩ => [(1, .int .i64 (i : Int)), (17, .int .i64 (k : Int))]) (fun ⟨L, k, i⟩ W => (L.length = out.length ∧ GoodO s.length i L ∧ k ≤ ws.length ∧ i0 ≤ i ∧ i ≤ s.length ∧ linesV out ws (s.drop i0) = ((linesV L (ws.drop k) (s.drop i)).1, (linesV L (ws.drop k) (s.drop i)).2 + (i - i0))) ∧ (Chg (b :: ob A) w W) ∧ (Blk W b [S s, .slice A out.length cap, .slice Aw ws.length capw] 69) ∧ (Own tok5E 51 W D A cap L) ∧ (Own wtE 75 W D Aw capw ws) ∧ (MaxT W)) (fun ⟨L, k, i⟩ => ws.length - k) (out, 0, i0) ?_ ?_ ?_
 · exact ⟨rfl, rfl, trivial⟩
 ·refine ⟨?_, HC, hb, ho, hw, hmx⟩
  exact ⟨rfl, hg, Nat.zero_le _, Nat.le_refl _, hi, by rw [Nat.sub_self]; rfl⟩
 intro ⟨L, k, i⟩ G2 w1 ⟨⟨hLl, hLg, hk, hi0, his, hlv⟩, HC, hb, ho, hw, hmx⟩
 change wp _ _ _ _ _ (upds (over _ _ G2) [(1, .int .i64 (i : Int)), (17, .int .i64 (k : Int))]) _ _
 refine sr rfl <| Wp rfl <| st_lss rfl rfl <| en <| x_seq <| x_cond rfl (fun h0 => ?_) (fun h0 => ?_)
 ·try simp only [nm, ne_eq] at h0
  obtain ⟨⟨j, st⟩, hx⟩ : ∃ x, ws[k]? = some x := ⟨ws[k], List.getElem?_eq_getElem (by omega)⟩
  have hjL : j < L.length := by rw [hLl]; exact hwj _ (List.mem_of_getElem? hx)
  obtain ⟨l0, z, l1, hLs, rfl⟩ := at_split hjL
  subst hLs
  obtain ⟨ga, hgA, hgaD⟩ : ∃ g, A = some ⟨g, 0, none⟩ ∧ D g := by rcases ho.form with ⟨_, _, h⟩ | ⟨g, h, _, _, _, h2⟩; (simp at h); exact ⟨g, h, h2⟩
  have hoz := ho
  rw [hgA] at hoz
  obtain ⟨g2, rest9, hge, hA, hlnA, hleA, hcapA, hDg⟩ := Own.raw (h := hoz)
  obtain rfl : ga = g2 := by cases hge; rfl
  have naw_ga : ga ∉ ob Aw := hw.ne_blk hA (by decide)
  have ne_b_ga : b ≠ ga := fun e => (hDb _ hgaD).1 e.symm
  have hga0 := (hDb _ hgaD).2
  have hgz := hLg z (by simp)
  have hgs := hws i 
  have hlen0 : (l0 ++ z :: l1).length = out.length := hLl
  rw [List.length_append, List.length_cons] at hlen0 hjL
  have hwl := drop_cons_at hx
  have hz := hw.sl
  refine x_skip <| then_n <| x_seq <| x_block <| sr rfl ?_
  obtain ⟨lb7, _, vs6, hA3, hR5, hC4⟩ := hz.at (i := k) (x := (l0.length, st)) (hx)
  obtain rfl : vs6 = [.int .i64 (l0.length : Int), .bool st] := hR5
  refine Wp rfl <| st_indexAddr T.u67 T.size75 (congrArg (fun z => Value.slice z _ _) hA3) rfl (by omega) (by omega) <| Wp rfl <| st_loadA (vs := [_, _]) T.agg75 rfl hC4 rfl <| Wp rfl <| st_alloc T.zero75 ?_
  intro b6 w8 e9 c10 hb11
  have ge_b6 : w.heap.size ≤ b6 := by rw [e9]; exact HC.size
  have ne_b_b6 : b ≠ b6 := by rw [e9]; exact hb.ne_size
  have ne_ga_b6 : ga ≠ b6 := by rw [e9]; exact hA.ne_size
  have na_wb6 : b6 ∉ ob Aw := hw.fresh (by rw [e9]; exact Nat.le_refl _)
  have nf_hz_b6 : ws = [] ∨ b6 ∉ ob (Aw) := hz.fresh (by rw [e9]; exact Nat.le_refl _)
  replace HC := HC.then c10
  replace hb := hb.tr0 c10
  replace hw := hw.tr0 c10
  replace hmx := hmx.tr0 c10
  replace hz := hz.tr0 c10
  replace hA := hA.tr0 c10
  clear e9
  refine Wp rfl <| st_store (v := .agg ⟨[.int _ _, .bool _]⟩) T.size75 rfl rfl rfl hb11 rfl (Nat.le_of_ble_eq_true rfl) (by simp [Value.oneCell', S]) rfl ?_
  intro w12 c13 hb14; simp only [setVs, setV] at hb14
  clear hb11
  replace HC := HC.then1 c13 ge_b6
  replace hb := hb.tr1 c13 ne_b_b6
  replace hw := hw.trF flat_flat c13 (by intro k hk hx; simp only [List.mem_singleton] at hx; subst hx; exact na_wb6 hk)
  replace hmx := hmx.tr c13 (by intro hx; simp only [List.mem_cons, List.mem_nil_iff, or_false] at hx; omega)
  replace hz := hz.trF flat_flat c13 (by intro k hx; simp only [List.mem_singleton] at hx; subst hx; exact nf_hz_b6)
  replace hA := hA.tr1 c13 ne_ga_b6
  refine en <| x_seq <| x_draw [(0, 0), (1, 0), (2, 0), (3, 0), (4, 0), (5, 0), (6, 0), (7, 0)] T.mixed rfl rfl rfl (fun W => W.heap[b]? = w12.heap[b]? ∧ W.heap[ga]? = w12.heap[ga]? ∧ W.heap[b6]? = w12.heap[b6]? ∧ True) ⟨rfl, rfl, rfl, trivial⟩ ?_
  have o17 := hb
  have o18 := hA
  have o19 := hb14
  have c16 := Chg.drew w12
  generalize World.drew w12 = w15 at c16 ⊢
  replace HC := HC.then c16
  replace hb := hb.tr0 c16
  replace hw := hw.tr0 c16
  replace hmx := hmx.tr0 c16
  replace hA := hA.tr0 c16
  replace hb14 := hb14.tr0 c16
  refine sq_q rfl (fun W hT => r_move (v := .pointer _) rfl) <| sq_q rfl (fun W hT => r_nilCheck rfl) <| sq_q rfl (fun W hT => r_fieldAddr T.fld69_1 rfl) <| sq_q rfl (fun W hT => r_load1 (v := .slice _ _ _) T.one41 rfl (Blk.cell (show Blk W b _ _ from hT.1.trans o17) rfl)) <| sq_q rfl (fun W hT => r_fieldAddr T.fld75_0 rfl) <| sq_q rfl (fun W hT => r_load1 (v := .int _ _) T.one3 rfl (Blk.cell (show Blk W b6 _ _ from hT.2.2.1.trans o19) rfl)) <| sq_q rfl (fun W hT => r_indexAddr (b := ga) (o := 0) (i := (l0.length : Int)) T.u41 T.size51 (show Value.slice A out.length cap = _ by rw [hgA]) rfl (by omega) (by omega)) <| sq_q rfl (fun W hT => r_assign (v := .pointer _) rfl) ?_
  clear o17
  clear o18
  clear o19
  refine sq_nil <| then_n <| sr rfl <| aS rfl <| en <| sr rfl <| mP rfl <| mP rfl <| nc rfl <| fa T.fld51_1 rfl <| lS T.one9 rfl (hA.cell (cell_tok 1 rfl)) <| Wp rfl <| st_call (ags := [_]) rfl rfl T.ent37 rfl (Plain_spec z.text _ (by omega)) ?_
  rintro _ w20 ⟨rfl, c21⟩
  replace HC := HC.then c21
  replace hb := hb.tr0 c21
  replace hw := hw.tr0 c21
  replace hmx := hmx.tr0 c21
  replace hA := hA.tr0 c21
  replace hb14 := hb14.tr0 c21
  refine mv (v := .tuple ⟨[_, _]⟩) rfl <| Wp rfl <| st_extract (vs := [_, _]) (v := S _) rfl rfl <| Wp rfl <| st_extract (vs := [_, _]) (v := .bool _) rfl rfl <| aS rfl <| nc rfl <| fa T.fld51_4 rfl <| Wp rfl <| st_store (v := .bool _) T.size4 rfl rfl rfl hA rfl (by show 0 + l0.length * 5 + 4 + 1 ≤ _; rw [flat_len (z := z), hlnA]; omega) (by simp [Value.oneCell', S]) rfl ?_
  intro w22 c23 hb24
  replace hb24 : Blk w22 ga (flatC tokC5 (l0 ++ withL z (z.here ++ []) (plainV z.text).2 :: l1) ++ rest9) 51 := by rw [List.append_nil, ← set_tok (z := z) (u := withL z z.here (plainV z.text).2) 4 (by omega) rfl]; exact hb24
  clear hA
  replace hb := hb.tr1 c23 ne_b_ga
  replace hw := hw.trF flat_flat c23 (by intro k hk hx; simp only [List.mem_singleton] at hx; subst hx; exact naw_ga hk)
  replace hmx := hmx.tr c23 (by intro hx; simp only [List.mem_cons, List.mem_nil_iff, or_false] at hx; omega)
  replace hb14 := hb14.tr1 c23 (Ne.symm ne_ga_b6)
  replace HC := HC.trans c23 (fun x hx => .inl (by rw [List.mem_singleton.1 hx, hgA]; exact List.mem_cons_of_mem _ (by simp [ob])))
  refine en <| x_block <| x_loop (ι := Bytes × Nat × Nat) [1, 9, 10, 11, 39, 40, 41, 42, 43, 44, 45, 46, 47, 48, 49, 50, 51, 52, 53, 54, 55, 56, 57, 58, 59, 60, 61, 62, 63, 64, 65, 66, 67, 68, 69, 70, 71, 72, 73, 74, 75, 76, 77, 78, 79, 80, 81] (fun ⟨acc, kf, p⟩ => [(1, .int .i64 (p : Int))]) (fun ⟨acc, kf, p⟩ W => (acc.length ≤ p - i ∧ i ≤ p ∧ p ≤ s.length ∧ s.length - p ≤ kf ∧ bodyV (plainV z.text).1 st (s.drop i) = (acc ++ (bodyL (plainV z.text).1 st kf (s.drop p)).1, (bodyL (plainV z.text).1 st kf (s.drop p)).2 + (p - i))) ∧ (Chg (b :: ob A) w W) ∧ (Blk W b [S s, .slice A out.length cap, .slice Aw ws.length capw] 69) ∧ (Own wtE 75 W D Aw capw ws) ∧ (MaxT W) ∧ (Blk W b6 [.int .i64 (l0.length : Int), .bool st] 75) ∧ (Blk W ga (flatC tokC5 (l0 ++ withL z (z.here ++ acc) (plainV z.text).2 :: l1) ++ rest9) 51)) (fun ⟨acc, kf, p⟩ => s.length - p) ([], (s.drop i).length, i) ?_ ?_ ?_
  · exact ⟨rfl, trivial⟩
  ·refine ⟨?_, HC, hb, hw, hmx, hb14, hb24⟩
   exact ⟨by simp, Nat.le_refl _, his, by rw [List.length_drop]; exact Nat.le_refl _, by rw [Nat.sub_self]; rfl⟩
  intro ⟨acc, kf, p⟩ G26 w25 ⟨⟨hac, hip, hps, hkf, hbv⟩, HC, hb, hw, hmx, hb14, hA⟩
  change wp _ _ _ _ _ (upds (over _ _ G26) [(1, .int .i64 (p : Int))]) _ _
  refine x_seq <| sr rfl <| mI rfl <| mP rfl <| nc rfl <| fa T.fld69_0 rfl <| lS T.one9 rfl (hb.cell rfl) <| Wp rfl <| st_slen (ct := #[9]) T.u9 rfl <| Wp rfl <| st_lss rfl rfl <| en <| x_cond rfl (fun h1 => ?_) (fun h1 => ?_)
  ·try simp only [nm, ne_eq] at h1
   have hrn : s.drop p ≠ [] := drop_ne (by omega)
   have hlm := lm_pos hrn
   have hla := la_len st (s.drop p)
   have hcl := cut_le (s.drop p) [10]
   obtain ⟨kf, rfl⟩ : ∃ z, kf = z + 1 := ⟨kf - 1, by omega⟩
   have hrl : (s.drop p).length = s.length - p := List.length_drop
   rw [hrl] at hlm
   refine x_skip <| then_n <| x_block <| sr rfl <| mP rfl <| nc rfl <| fa T.fld69_0 rfl <| lS T.one9 rfl (hb.cell rfl) <| mI rfl <| Wp rfl <| st_sslo (i := p) T.u9 rfl ⟨_, rfl⟩ (by omega) <| Wp rfl <| st_call (ags := [_, _]) rfl rfl T.ent38 rfl (Cut_spec (s.drop p) [10] _ (by omega) hmx) ?_
   rintro _ w27 ⟨rfl, c28⟩
   replace HC := HC.then c28
   replace hb := hb.tr0 c28
   replace hw := hw.tr0 c28
   replace hmx := hmx.tr0 c28
   replace hb14 := hb14.tr0 c28
   replace hA := hA.tr0 c28
   refine mv (v := .tuple ⟨[_, _, _]⟩) rfl <| Wp rfl <| st_extract (vs := [_, _, _]) (v := S _) rfl rfl <| Wp rfl <| st_extract (vs := [_, _, _]) (v := S _) rfl rfl <| Wp rfl <| st_extract (vs := [_, _, _]) (v := .bool _) rfl rfl <| aS rfl <| aS rfl <| aB rfl <| en <| sr rfl <| mI rfl <| mS rfl <| Wp rfl <| st_slen (ct := #[9]) T.u9 rfl <| Wp rfl <| st_addn rfl rfl (by constructor <;> omega) <| aI rfl <| en <| x_seq <| sr rfl <| fa T.fld75_1 rfl <| Wp rfl <| st_load1 (v := .bool _) T.one4 rfl (hb14.cell rfl) <| en <| x_cond rfl (fun h2 => ?_) (fun h2 => ?_)
   ·try simp only [nm, ne_eq] at h2
    have hlnq : lnV st (s.drop p) = trimT (Lib.cut (s.drop p) [10]).1 := by unfold lnV; rw [if_pos (by first | assumption | simp_all)]
    have hltr := trimT_len (Lib.cut (s.drop p) [10]).1
    refine x_region rfl <| mS rfl <| Wp rfl <| st_call (ags := [_, _]) rfl rfl T.ent39 rfl (TrimLeft_spec (Lib.cut (s.drop p) [10]).1 _) ?_
    rintro _ w29 ⟨rfl, c30⟩
    replace HC := HC.then c30
    replace hb := hb.tr0 c30
    replace hw := hw.tr0 c30
    replace hmx := hmx.tr0 c30
    replace hb14 := hb14.tr0 c30
    replace hA := hA.tr0 c30
    refine aS rfl <| en <| x_seq <| sr rfl <| mB rfl <| en <| x_cond rfl (fun h3 => ?_) (fun h3 => ?_)
    ·try simp only [nm, ne_eq] at h3
     have hlmq : lmV (s.drop p) = (Lib.cut (s.drop p) [10]).1.length + 1 := by unfold lmV; rw [if_pos (by first | assumption | simp_all)]
     have hlaq : laV st (s.drop p) = lnV st (s.drop p) ++ [10] := by unfold laV; rw [if_pos (by first | assumption | simp_all)]
     rw [hlnq] at hlaq
     refine x_region rfl <| mI rfl <| Wp rfl <| st_addn rfl rfl (by constructor <;> omega) <| aI rfl <| en <| x_seq <| sr rfl <| mS rfl <| mS rfl <| Wp rfl <| st_seql rfl rfl <| en <| x_cond rfl (fun h4 => ?_) (fun h4 => ?_)
     ·try simp only [nm, ne_eq] at h4
      have hbq : bodyV (plainV z.text).1 st (s.drop i) = (acc, (p + ((Lib.cut (s.drop p) [10]).1.length + 1)) - i) := by rw [hbv, bodyL_fin hrn (hlnq.trans (by assumption)), hlmq]; simp; omega
      refine x_exit <| then_x <| block_o rfl <| then_x <| block_x <| block_n <| then_n ?_
      have hoN : Own tok5E 51 w29 D A cap (l0 ++ withL z (z.here ++ acc) (plainV z.text).2 :: l1) := by rw [hgA]; exact Own.of_raw hA (by rw [← hlnA]; simp only [List.length_append, tokL, List.length_cons]) (by simpa using hleA) hcapA hgaD
      refine x_region rfl <| Wp rfl <| st_addn rfl rfl (by constructor <;> omega) <| mI rfl <| en <| ⟨(l0 ++ withL z (z.here ++ acc) (plainV z.text).2 :: l1, k + 1, (p + ((Lib.cut (s.drop p) [10]).1.length + 1))), ?_, ?_, rfl, ⟨rfl, rfl, trivial⟩, ?_⟩
      ·refine ⟨?_, HC, hb, hoN, hw, hmx⟩
       exact ⟨by rw [← hLl]; simp, hLg.set (by omega) (by rw [List.length_append]; omega), by omega, by omega, by omega, by rw [hlv, hwl, linesV_cons hbq, List.drop_drop, show i + ((p + ((Lib.cut (s.drop p) [10]).1.length + 1)) - i) = (p + ((Lib.cut (s.drop p) [10]).1.length + 1)) by omega]; exact congrArg _ (by omega)⟩
      ·show ws.length - (k + 1) < ws.length - k; omega
      repeat (first | exact agree_upds agree_over rfl | refine agree_upd ?_ rfl | refine agree_upds ?_ rfl | refine agree_over_sub ?_ rfl)
     ·try simp only [nm, ne_eq] at h4
      have hln : ¬ lnV st (s.drop p) = (plainV z.text).1 := by rw [hlnq]; assumption
      refine x_skip <| then_n <| x_seq <| sr rfl <| mB rfl <| en <| x_cond rfl (fun h5 => ?_) (fun h5 => ?_)
      ·try simp only [nm, ne_eq] at h5
       refine x_region rfl <| mS rfl <| Wp rfl <| st_sadd rfl rfl (by (try simp only [List.length_append, List.length_cons, List.length_nil] at *); omega) <| aS rfl <| en <| x_region rfl <| mP rfl <| nc rfl <| fa T.fld51_3 rfl <| lS T.one9 rfl (hA.cell (cell_tok 3 rfl)) <| mS rfl <| Wp rfl <| st_sadd rfl rfl (by have h7 : (withL z (z.here ++ acc) (plainV z.text).2).here.length = z.here.length + acc.length := List.length_append; have h8 := congrArg List.length hlaq; (try simp only [List.length_append, List.length_cons, List.length_nil] at h8 ⊢); omega) <| nc rfl <| fa T.fld51_3 rfl <| Wp rfl <| st_store (v := S _) T.size9 rfl rfl rfl hA rfl (by show 0 + l0.length * 5 + 3 + 1 ≤ _; rw [flat_len (z := z), hlnA]; omega) (by simp [Value.oneCell', S]) rfl ?_
       intro w31 c32 hb33
       replace hb33 : Blk w31 ga (flatC tokC5 (l0 ++ withL z (z.here ++ (acc ++ laV st (s.drop p))) (plainV z.text).2 :: l1) ++ rest9) 51 := by rw [← List.append_assoc, ← set_tok (z := withL z (z.here ++ acc) (plainV z.text).2) (u := withL z (z.here ++ acc ++ laV st (s.drop p)) (plainV z.text).2) 3 (by omega) rfl]; show Blk _ _ (setVs _ _ [S (z.here ++ acc ++ laV st (s.drop p))]) _; rw [hlaq]; exact hb33
       clear hA
       replace hb := hb.tr1 c32 ne_b_ga
       replace hw := hw.trF flat_flat c32 (by intro k hk hx; simp only [List.mem_singleton] at hx; subst hx; exact naw_ga hk)
       replace hmx := hmx.tr c32 (by intro hx; simp only [List.mem_cons, List.mem_nil_iff, or_false] at hx; omega)
       replace hb14 := hb14.tr1 c32 (Ne.symm ne_ga_b6)
       replace HC := HC.trans c32 (fun x hx => .inl (by rw [List.mem_singleton.1 hx, hgA]; exact List.mem_cons_of_mem _ (by simp [ob])))
       refine wops_nil <| block_n <| then_n <| ⟨(acc ++ laV st (s.drop p), kf, (p + ((Lib.cut (s.drop p) [10]).1.length + 1))), ?_, ?_, rfl, ⟨rfl, trivial⟩, ?_⟩
       ·refine ⟨?_, HC, hb, hw, hmx, hb14, hb33⟩
        exact ⟨by rw [List.length_append]; omega, by omega, by omega, by omega, by rw [hbv, bodyL_go hrn hln, List.drop_drop, List.append_assoc, hlmq]; exact congrArg _ (by omega)⟩
       ·show s.length - (p + ((Lib.cut (s.drop p) [10]).1.length + 1)) < s.length - p; omega
       repeat (first | exact agree_upds agree_over rfl | refine agree_upd ?_ rfl | refine agree_upds ?_ rfl | refine agree_over_sub ?_ rfl)
      ·try simp only [nm, ne_eq] at h5
       exact absurd h3 (by first | assumption | simp_all)
    ·try simp only [nm, ne_eq] at h3
     have hlmq : lmV (s.drop p) = (Lib.cut (s.drop p) [10]).1.length := by unfold lmV; rw [if_neg (by first | assumption | simp_all)]; rfl
     have hlaq : laV st (s.drop p) = lnV st (s.drop p) := by unfold laV; rw [if_neg (by first | assumption | simp_all)]
     rw [hlnq] at hlaq
     refine x_skip <| then_n <| x_seq <| sr rfl <| mS rfl <| mS rfl <| Wp rfl <| st_seql rfl rfl <| en <| x_cond rfl (fun h4 => ?_) (fun h4 => ?_)
     ·try simp only [nm, ne_eq] at h4
      have hbq : bodyV (plainV z.text).1 st (s.drop i) = (acc, (p + (Lib.cut (s.drop p) [10]).1.length) - i) := by rw [hbv, bodyL_fin hrn (hlnq.trans (by assumption)), hlmq]; simp; omega
      refine x_exit <| then_x <| block_o rfl <| then_x <| block_x <| block_n <| then_n ?_
      have hoN : Own tok5E 51 w29 D A cap (l0 ++ withL z (z.here ++ acc) (plainV z.text).2 :: l1) := by rw [hgA]; exact Own.of_raw hA (by rw [← hlnA]; simp only [List.length_append, tokL, List.length_cons]) (by simpa using hleA) hcapA hgaD
      refine x_region rfl <| Wp rfl <| st_addn rfl rfl (by constructor <;> omega) <| mI rfl <| en <| ⟨(l0 ++ withL z (z.here ++ acc) (plainV z.text).2 :: l1, k + 1, (p + (Lib.cut (s.drop p) [10]).1.length)), ?_, ?_, rfl, ⟨rfl, rfl, trivial⟩, ?_⟩
      ·refine ⟨?_, HC, hb, hoN, hw, hmx⟩
       exact ⟨by rw [← hLl]; simp, hLg.set (by omega) (by rw [List.length_append]; omega), by omega, by omega, by omega, by rw [hlv, hwl, linesV_cons hbq, List.drop_drop, show i + ((p + (Lib.cut (s.drop p) [10]).1.length) - i) = (p + (Lib.cut (s.drop p) [10]).1.length) by omega]; exact congrArg _ (by omega)⟩
      ·show ws.length - (k + 1) < ws.length - k; omega
      repeat (first | exact agree_upds agree_over rfl | refine agree_upd ?_ rfl | refine agree_upds ?_ rfl | refine agree_over_sub ?_ rfl)
     ·try simp only [nm, ne_eq] at h4
      have hln : ¬ lnV st (s.drop p) = (plainV z.text).1 := by rw [hlnq]; assumption
      refine x_skip <| then_n <| x_seq <| sr rfl <| mB rfl <| en <| x_cond rfl (fun h5 => ?_) (fun h5 => ?_)
      ·try simp only [nm, ne_eq] at h5
       exact absurd h5 (by first | assumption | simp_all)
      ·try simp only [nm, ne_eq] at h5
       refine x_skip <| then_n <| x_region rfl <| mP rfl <| nc rfl <| fa T.fld51_3 rfl <| lS T.one9 rfl (hA.cell (cell_tok 3 rfl)) <| mS rfl <| Wp rfl <| st_sadd rfl rfl (by have h7 : (withL z (z.here ++ acc) (plainV z.text).2).here.length = z.here.length + acc.length := List.length_append; have h8 := congrArg List.length hlaq; (try simp only [List.length_append, List.length_cons, List.length_nil] at h8 ⊢); omega) <| nc rfl <| fa T.fld51_3 rfl <| Wp rfl <| st_store (v := S _) T.size9 rfl rfl rfl hA rfl (by show 0 + l0.length * 5 + 3 + 1 ≤ _; rw [flat_len (z := z), hlnA]; omega) (by simp [Value.oneCell', S]) rfl ?_
       intro w34 c35 hb36
       replace hb36 : Blk w34 ga (flatC tokC5 (l0 ++ withL z (z.here ++ (acc ++ laV st (s.drop p))) (plainV z.text).2 :: l1) ++ rest9) 51 := by rw [← List.append_assoc, ← set_tok (z := withL z (z.here ++ acc) (plainV z.text).2) (u := withL z (z.here ++ acc ++ laV st (s.drop p)) (plainV z.text).2) 3 (by omega) rfl]; show Blk _ _ (setVs _ _ [S (z.here ++ acc ++ laV st (s.drop p))]) _; rw [hlaq]; exact hb36
       clear hA
       replace hb := hb.tr1 c35 ne_b_ga
       replace hw := hw.trF flat_flat c35 (by intro k hk hx; simp only [List.mem_singleton] at hx; subst hx; exact naw_ga hk)
       replace hmx := hmx.tr c35 (by intro hx; simp only [List.mem_cons, List.mem_nil_iff, or_false] at hx; omega)
       replace hb14 := hb14.tr1 c35 (Ne.symm ne_ga_b6)
       replace HC := HC.trans c35 (fun x hx => .inl (by rw [List.mem_singleton.1 hx, hgA]; exact List.mem_cons_of_mem _ (by simp [ob])))
       refine wops_nil <| block_n <| then_n <| ⟨(acc ++ laV st (s.drop p), kf, (p + (Lib.cut (s.drop p) [10]).1.length)), ?_, ?_, rfl, ⟨rfl, trivial⟩, ?_⟩
       ·refine ⟨?_, HC, hb, hw, hmx, hb14, hb36⟩
        exact ⟨by rw [List.length_append]; omega, by omega, by omega, by omega, by rw [hbv, bodyL_go hrn hln, List.drop_drop, List.append_assoc, hlmq]; exact congrArg _ (by omega)⟩
       ·show s.length - (p + (Lib.cut (s.drop p) [10]).1.length) < s.length - p; omega
       repeat (first | exact agree_upds agree_over rfl | refine agree_upd ?_ rfl | refine agree_upds ?_ rfl | refine agree_over_sub ?_ rfl)
   ·try simp only [nm, ne_eq] at h2
    have hlnq : lnV st (s.drop p) = (Lib.cut (s.drop p) [10]).1 := by unfold lnV; rw [if_neg (by first | assumption | simp_all)]
    refine x_skip <| then_n <| x_seq <| sr rfl <| mB rfl <| en <| x_cond rfl (fun h3 => ?_) (fun h3 => ?_)
    ·try simp only [nm, ne_eq] at h3
     have hlmq : lmV (s.drop p) = (Lib.cut (s.drop p) [10]).1.length + 1 := by unfold lmV; rw [if_pos (by first | assumption | simp_all)]
     have hlaq : laV st (s.drop p) = lnV st (s.drop p) ++ [10] := by unfold laV; rw [if_pos (by first | assumption | simp_all)]
     rw [hlnq] at hlaq
     refine x_region rfl <| mI rfl <| Wp rfl <| st_addn rfl rfl (by constructor <;> omega) <| aI rfl <| en <| x_seq <| sr rfl <| mS rfl <| mS rfl <| Wp rfl <| st_seql rfl rfl <| en <| x_cond rfl (fun h4 => ?_) (fun h4 => ?_)
     ·try simp only [nm, ne_eq] at h4
      have hbq : bodyV (plainV z.text).1 st (s.drop i) = (acc, (p + ((Lib.cut (s.drop p) [10]).1.length + 1)) - i) := by rw [hbv, bodyL_fin hrn (hlnq.trans (by assumption)), hlmq]; simp; omega
      refine x_exit <| then_x <| block_o rfl <| then_x <| block_x <| block_n <| then_n ?_
      have hoN : Own tok5E 51 w27 D A cap (l0 ++ withL z (z.here ++ acc) (plainV z.text).2 :: l1) := by rw [hgA]; exact Own.of_raw hA (by rw [← hlnA]; simp only [List.length_append, tokL, List.length_cons]) (by simpa using hleA) hcapA hgaD
      refine x_region rfl <| Wp rfl <| st_addn rfl rfl (by constructor <;> omega) <| mI rfl <| en <| ⟨(l0 ++ withL z (z.here ++ acc) (plainV z.text).2 :: l1, k + 1, (p + ((Lib.cut (s.drop p) [10]).1.length + 1))), ?_, ?_, rfl, ⟨rfl, rfl, trivial⟩, ?_⟩
      ·refine ⟨?_, HC, hb, hoN, hw, hmx⟩
       exact ⟨by rw [← hLl]; simp, hLg.set (by omega) (by rw [List.length_append]; omega), by omega, by omega, by omega, by rw [hlv, hwl, linesV_cons hbq, List.drop_drop, show i + ((p + ((Lib.cut (s.drop p) [10]).1.length + 1)) - i) = (p + ((Lib.cut (s.drop p) [10]).1.length + 1)) by omega]; exact congrArg _ (by omega)⟩
      ·show ws.length - (k + 1) < ws.length - k; omega
      repeat (first | exact agree_upds agree_over rfl | refine agree_upd ?_ rfl | refine agree_upds ?_ rfl | refine agree_over_sub ?_ rfl)
     ·try simp only [nm, ne_eq] at h4
      have hln : ¬ lnV st (s.drop p) = (plainV z.text).1 := by rw [hlnq]; assumption
      refine x_skip <| then_n <| x_seq <| sr rfl <| mB rfl <| en <| x_cond rfl (fun h5 => ?_) (fun h5 => ?_)
      ·try simp only [nm, ne_eq] at h5
       refine x_region rfl <| mS rfl <| Wp rfl <| st_sadd rfl rfl (by (try simp only [List.length_append, List.length_cons, List.length_nil] at *); omega) <| aS rfl <| en <| x_region rfl <| mP rfl <| nc rfl <| fa T.fld51_3 rfl <| lS T.one9 rfl (hA.cell (cell_tok 3 rfl)) <| mS rfl <| Wp rfl <| st_sadd rfl rfl (by have h7 : (withL z (z.here ++ acc) (plainV z.text).2).here.length = z.here.length + acc.length := List.length_append; have h8 := congrArg List.length hlaq; (try simp only [List.length_append, List.length_cons, List.length_nil] at h8 ⊢); omega) <| nc rfl <| fa T.fld51_3 rfl <| Wp rfl <| st_store (v := S _) T.size9 rfl rfl rfl hA rfl (by show 0 + l0.length * 5 + 3 + 1 ≤ _; rw [flat_len (z := z), hlnA]; omega) (by simp [Value.oneCell', S]) rfl ?_
       intro w37 c38 hb39
       replace hb39 : Blk w37 ga (flatC tokC5 (l0 ++ withL z (z.here ++ (acc ++ laV st (s.drop p))) (plainV z.text).2 :: l1) ++ rest9) 51 := by rw [← List.append_assoc, ← set_tok (z := withL z (z.here ++ acc) (plainV z.text).2) (u := withL z (z.here ++ acc ++ laV st (s.drop p)) (plainV z.text).2) 3 (by omega) rfl]; show Blk _ _ (setVs _ _ [S (z.here ++ acc ++ laV st (s.drop p))]) _; rw [hlaq]; exact hb39
       clear hA
       replace hb := hb.tr1 c38 ne_b_ga
       replace hw := hw.trF flat_flat c38 (by intro k hk hx; simp only [List.mem_singleton] at hx; subst hx; exact naw_ga hk)
       replace hmx := hmx.tr c38 (by intro hx; simp only [List.mem_cons, List.mem_nil_iff, or_false] at hx; omega)
       replace hb14 := hb14.tr1 c38 (Ne.symm ne_ga_b6)
       replace HC := HC.trans c38 (fun x hx => .inl (by rw [List.mem_singleton.1 hx, hgA]; exact List.mem_cons_of_mem _ (by simp [ob])))
       refine wops_nil <| block_n <| then_n <| ⟨(acc ++ laV st (s.drop p), kf, (p + ((Lib.cut (s.drop p) [10]).1.length + 1))), ?_, ?_, rfl, ⟨rfl, trivial⟩, ?_⟩
       ·refine ⟨?_, HC, hb, hw, hmx, hb14, hb39⟩
        exact ⟨by rw [List.length_append]; omega, by omega, by omega, by omega, by rw [hbv, bodyL_go hrn hln, List.drop_drop, List.append_assoc, hlmq]; exact congrArg _ (by omega)⟩
       ·show s.length - (p + ((Lib.cut (s.drop p) [10]).1.length + 1)) < s.length - p; omega
       repeat (first | exact agree_upds agree_over rfl | refine agree_upd ?_ rfl | refine agree_upds ?_ rfl | refine agree_over_sub ?_ rfl)
      ·try simp only [nm, ne_eq] at h5
       exact absurd h3 (by first | assumption | simp_all)
    ·try simp only [nm, ne_eq] at h3
     have hlmq : lmV (s.drop p) = (Lib.cut (s.drop p) [10]).1.length := by unfold lmV; rw [if_neg (by first | assumption | simp_all)]; rfl
     have hlaq : laV st (s.drop p) = lnV st (s.drop p) := by unfold laV; rw [if_neg (by first | assumption | simp_all)]
     rw [hlnq] at hlaq
     refine x_skip <| then_n <| x_seq <| sr rfl <| mS rfl <| mS rfl <| Wp rfl <| st_seql rfl rfl <| en <| x_cond rfl (fun h4 => ?_) (fun h4 => ?_)
     ·try simp only [nm, ne_eq] at h4
      have hbq : bodyV (plainV z.text).1 st (s.drop i) = (acc, (p + (Lib.cut (s.drop p) [10]).1.length) - i) := by rw [hbv, bodyL_fin hrn (hlnq.trans (by assumption)), hlmq]; simp; omega
      refine x_exit <| then_x <| block_o rfl <| then_x <| block_x <| block_n <| then_n ?_
      have hoN : Own tok5E 51 w27 D A cap (l0 ++ withL z (z.here ++ acc) (plainV z.text).2 :: l1) := by rw [hgA]; exact Own.of_raw hA (by rw [← hlnA]; simp only [List.length_append, tokL, List.length_cons]) (by simpa using hleA) hcapA hgaD
      refine x_region rfl <| Wp rfl <| st_addn rfl rfl (by constructor <;> omega) <| mI rfl <| en <| ⟨(l0 ++ withL z (z.here ++ acc) (plainV z.text).2 :: l1, k + 1, (p + (Lib.cut (s.drop p) [10]).1.length)), ?_, ?_, rfl, ⟨rfl, rfl, trivial⟩, ?_⟩
      ·refine ⟨?_, HC, hb, hoN, hw, hmx⟩
       exact ⟨by rw [← hLl]; simp, hLg.set (by omega) (by rw [List.length_append]; omega), by omega, by omega, by omega, by rw [hlv, hwl, linesV_cons hbq, List.drop_drop, show i + ((p + (Lib.cut (s.drop p) [10]).1.length) - i) = (p + (Lib.cut (s.drop p) [10]).1.length) by omega]; exact congrArg _ (by omega)⟩
      ·show ws.length - (k + 1) < ws.length - k; omega
      repeat (first | exact agree_upds agree_over rfl | refine agree_upd ?_ rfl | refine agree_upds ?_ rfl | refine agree_over_sub ?_ rfl)
     ·try simp only [nm, ne_eq] at h4
      have hln : ¬ lnV st (s.drop p) = (plainV z.text).1 := by rw [hlnq]; assumption
      refine x_skip <| then_n <| x_seq <| sr rfl <| mB rfl <| en <| x_cond rfl (fun h5 => ?_) (fun h5 => ?_)
      ·try simp only [nm, ne_eq] at h5
       exact absurd h5 (by first | assumption | simp_all)
      ·try simp only [nm, ne_eq] at h5
       refine x_skip <| then_n <| x_region rfl <| mP rfl <| nc rfl <| fa T.fld51_3 rfl <| lS T.one9 rfl (hA.cell (cell_tok 3 rfl)) <| mS rfl <| Wp rfl <| st_sadd rfl rfl (by have h7 : (withL z (z.here ++ acc) (plainV z.text).2).here.length = z.here.length + acc.length := List.length_append; have h8 := congrArg List.length hlaq; (try simp only [List.length_append, List.length_cons, List.length_nil] at h8 ⊢); omega) <| nc rfl <| fa T.fld51_3 rfl <| Wp rfl <| st_store (v := S _) T.size9 rfl rfl rfl hA rfl (by show 0 + l0.length * 5 + 3 + 1 ≤ _; rw [flat_len (z := z), hlnA]; omega) (by simp [Value.oneCell', S]) rfl ?_
       intro w40 c41 hb42
       replace hb42 : Blk w40 ga (flatC tokC5 (l0 ++ withL z (z.here ++ (acc ++ laV st (s.drop p))) (plainV z.text).2 :: l1) ++ rest9) 51 := by rw [← List.append_assoc, ← set_tok (z := withL z (z.here ++ acc) (plainV z.text).2) (u := withL z (z.here ++ acc ++ laV st (s.drop p)) (plainV z.text).2) 3 (by omega) rfl]; show Blk _ _ (setVs _ _ [S (z.here ++ acc ++ laV st (s.drop p))]) _; rw [hlaq]; exact hb42
       clear hA
       replace hb := hb.tr1 c41 ne_b_ga
       replace hw := hw.trF flat_flat c41 (by intro k hk hx; simp only [List.mem_singleton] at hx; subst hx; exact naw_ga hk)
       replace hmx := hmx.tr c41 (by intro hx; simp only [List.mem_cons, List.mem_nil_iff, or_false] at hx; omega)
       replace hb14 := hb14.tr1 c41 (Ne.symm ne_ga_b6)
       replace HC := HC.trans c41 (fun x hx => .inl (by rw [List.mem_singleton.1 hx, hgA]; exact List.mem_cons_of_mem _ (by simp [ob])))
       refine wops_nil <| block_n <| then_n <| ⟨(acc ++ laV st (s.drop p), kf, (p + (Lib.cut (s.drop p) [10]).1.length)), ?_, ?_, rfl, ⟨rfl, trivial⟩, ?_⟩
       ·refine ⟨?_, HC, hb, hw, hmx, hb14, hb42⟩
        exact ⟨by rw [List.length_append]; omega, by omega, by omega, by omega, by rw [hbv, bodyL_go hrn hln, List.drop_drop, List.append_assoc, hlmq]; exact congrArg _ (by omega)⟩
       ·show s.length - (p + (Lib.cut (s.drop p) [10]).1.length) < s.length - p; omega
       repeat (first | exact agree_upds agree_over rfl | refine agree_upd ?_ rfl | refine agree_upds ?_ rfl | refine agree_over_sub ?_ rfl)
  ·try simp only [nm, ne_eq] at h1
   have hbq : bodyV (plainV z.text).1 st (s.drop i) = (acc, p - i) := by rw [hbv, bodyL_end (List.drop_eq_nil_of_le (by omega))]; simp
   refine x_exit <| then_x <| then_x <| block_x <| block_n <| then_n ?_
   have hoN : Own tok5E 51 w25 D A cap (l0 ++ withL z (z.here ++ acc) (plainV z.text).2 :: l1) := by rw [hgA]; exact Own.of_raw hA (by rw [← hlnA]; simp only [List.length_append, tokL, List.length_cons]) (by simpa using hleA) hcapA hgaD
   refine x_region rfl <| Wp rfl <| st_addn rfl rfl (by constructor <;> omega) <| mI rfl <| en <| ⟨(l0 ++ withL z (z.here ++ acc) (plainV z.text).2 :: l1, k + 1, p), ?_, ?_, rfl, ⟨rfl, rfl, trivial⟩, ?_⟩
   ·refine ⟨?_, HC, hb, hoN, hw, hmx⟩
    exact ⟨by rw [← hLl]; simp, hLg.set (by omega) (by rw [List.length_append]; omega), by omega, by omega, by omega, by rw [hlv, hwl, linesV_cons hbq, List.drop_drop, show i + (p - i) = p by omega]; exact congrArg _ (by omega)⟩
   ·show ws.length - (k + 1) < ws.length - k; omega
   repeat (first | exact agree_upds agree_over rfl | refine agree_upd ?_ rfl | refine agree_upds ?_ rfl | refine agree_over_sub ?_ rfl)
 ·try simp only [nm, ne_eq] at h0
  have hkw : k = ws.length := by omega
  have hfv : linesV out ws (s.drop i0) = (L, i - i0) := by rw [hlv, hkw, List.drop_length]; simp [linesV]
  refine x_exit <| then_x <| then_x <| block_x <| then_n <| sr rfl <| mP rfl <| nc rfl <| fa T.fld69_2 rfl <| Wp rfl <| st_store (v := .slice _ _ _) T.size67 rfl rfl rfl hb rfl (Nat.le_of_ble_eq_true rfl) (by simp [Value.oneCell', S]) rfl ?_
  intro w43 c44 hb45; simp only [setVs, setV] at hb45
  clear hb
  replace HC := HC.trans c44 (by intro x hx; simp only [List.mem_singleton] at hx; subst hx; exact .inl (by simp))
  replace ho := ho.trF flat_flat c44 (by intro k hk hx; simp only [List.mem_singleton] at hx; subst hx; exact nao_b hk)
  replace hw := hw.trF flat_flat c44 (by intro k hk hx; simp only [List.mem_singleton] at hx; subst hx; exact naw_b hk)
  replace hmx := hmx.tr c44 (by intro hx; simp only [List.mem_cons, List.mem_nil_iff, or_false] at hx; omega)
  refine en <| sr rfl <| mI rfl <| aI rfl <| en <| x_ret <| ret_tmp (v := .int _ _) rfl rfl ?_
  rw [hfv]
  exact ⟨congrArg (Value.int .i64) (by show (i : Int) = ((i0 + (i - i0) : Nat) : Int); omega), hb45, ho, ⟨by show GoodO s.length (i0 + (i - i0)) L; rw [show i0 + (i - i0) = i by omega]; exact hLg, by show i0 + (i - i0) ≤ _; omega⟩, HC⟩

end Go.Proofs.YtghjmiggobpmoaaGreatDoor.K
set_option linter.unusedVariables false
set_option linter.unusedSimpArgs false
set_option autoImplicit false
namespace Go.Proofs.YtghjmiggobpmoaaGreatDoor.K
open Go Go.RowKit
variable {P : Program} {r : Option Nat} {n : Nat} {O : Array Oper} {Q : Post} {E : Env} {ds : List Deferred} {w : World} {l : List Oper}
end Go.Proofs.YtghjmiggobpmoaaGreatDoor.K
set_option linter.unusedVariables false
set_option linter.unusedSimpArgs false
set_option autoImplicit false
namespace Go.Proofs.YtghjmiggobpmoaaGreatDoor.K
open Go Go.RowKit
variable {P : Program} {r : Option Nat} {n : Nat} {O : Array Oper} {Q : Post} {E : Env} {ds : List Deferred} {w : World} {l : List Oper}
/-- **An iterator's contract, where rounds change what it reads**: what it needs to know ahead of a round (St: pre is what it has handed out); what it does to hand out the next one (Pop). -/
def IterH (P : Program) (gf : FuncId) (caps : List Value) (K : Nat → Prop) {α : Type} (encs : α → List Value) (xs : List α) (St : List α → World → Prop) (Pop : List α → α → World → World → Prop) : Prop :=
  ∀ (lp : Nat) (J Jx : List α → World → Prop) (W : World), (∀ pre A, J pre A → St pre A) →
    (∀ pre x rest A0 A, xs = pre ++ x :: rest → J pre A0 → Pop pre x A0 A → RoundR P lp (encs x) A fun b B => Kept (NK K A0) A B ∧ ((b = true ∧ J (pre ++ [x]) B) ∨ (b = false ∧ Jx (pre ++ [x]) B))) →
    J [] W → CallR P gf ⟨.func (.yield lp) #[] #[] :: caps⟩ W fun _ W' => J xs W' ∨ ∃ pre, Jx pre W'
/-- The statement 'for .. := range g { .. }', where rounds change what the iterator reads. D: the block for the rounds' deferred calls (at an outermost loop); lp: the loop's record. -/
theorem rangeH_core {α : Type} {f : Operand} {ps : List Nat} {assign body : Code} {gf : FuncId} {caps : Array Value} {bs : List Nat} {K : Nat → Prop} {encs : α → List Value} {xs : List α} {St : List α → World → Prop} {Pop : List α → α → World → World → Prop}
    (hf : ev E f = .func (.func gf) #[] caps) (hent : ∀ args (w : World), (callFunc gf args).run P w = .ok (.enter gf args) w) (hps : (ps.all fun p => Nat.blt p n) = true) (henc : ∀ x, (encs x).length = ps.length)
    (lp dd : Nat) (mark : List Deferred) (w1 : World) (hD : World → Prop) (fn : FuncId) (a : Act) (ha1 : a.tmps.size = n) (ha2 : env a = E) (ha3 : a.defers = ds)
    (he : (Instr.enterLoop fn a.tmps ps.toArray assign body r).run P w = .ok (lp, mark) w1) (hL1 : w1.heap[lp]? = some (.loop { state := .ready, pending := none, fn, tmps := a.tmps, params := ps.toArray, assign, body, defers := dd }))
    (hD1 : hD w1) (hDl : ∀ A B, hD A → Chg (lp :: bs) A B → hD B) (hDK : ∀ (A B : World) (K' : Nat → Prop), hD A → Kept (fun k => k = lp ∨ (mark ≠ [] ∧ k = dd) ∨ K' k) A B → hD B)
    (hlb : lp ∉ bs)
    (I : List α → World → Prop) (Ix : Code → List α → World → Prop) (hit : IterH P gf caps.toList K encs xs St Pop) (hSt : ∀ pre A, I pre A → St pre A) (hPop : ∀ pre x A B, I pre A → Pop pre x A B → Kept (fun k => k = lp ∨ (mark ≠ [] ∧ k = dd) ∨ False) A B) (h0 : I [] w1)
    (hI : ∀ pre A B, I pre A → Chg [lp] A B → I pre B) (hIx : ∀ c pre A B, Ix c pre A → Chg [lp] A B → Ix c pre B)
    (hbody : ∀ pre x rest A0 A, xs = pre ++ x :: rest → I pre A0 → Pop pre x A0 A → (∃ rec, A.heap[lp]? = some (.loop rec)) →
      wp P (some lp) n assign (thenP (fun E1 _ A1 => Kept (fun k => k = lp ∨ (mark ≠ [] ∧ k = dd) ∨ NK K A0 k) A A1 ∧ ∀ ds1 A2, Chg [lp] A1 A2 → (∃ rec, A2.heap[lp]? = some (.loop rec)) →
        wp P (some lp) n body (roundP (fun k => k = lp ∨ (mark ≠ [] ∧ k = dd) ∨ NK K A0 k) A2 (I (pre ++ [x])) (fun c B => Ix c (pre ++ [x]) B)) E1 ds1 A2) (fun _ _ _ _ => False)) (upds E (zipV ps (encs x))) [] A)
    (hKl : ¬ K lp)
    (hdone : ∀ W, I xs W → hD W → Q .normal E (mark ++ ds) W) (hstop : ∀ c pre W, Ix c pre W → hD W → wp P r n c Q E (mark ++ ds) W) :
    ∃ (l : Nat) (mark : List Deferred) (w₁ : World) (d : Deferred) (w₁' : World) (f' : FuncId) (args : Array Value) (w₂ : World),
      (Instr.enterLoop fn a.tmps ps.toArray assign body (WF r).round).run P w = .ok (l, mark) w₁ ∧
      (resolve a.eval (rangeCall f l) 0).run P w₁ = .ok d w₁' ∧
      (∀ f', Target.leads P w₁' d.target d.args = some f' → (WF r).fn f') ∧
      (invoke d.target d.args).run P w₁' = .ok (.enter f' args) w₂ ∧
      ((WF r).depth.isSome = true → 1 ≤ 0) ∧
      CallsIn (WF r) (0 - 1) P f' args w₂ (rangePost (WF r) 0 P l (toQ n Q) { a with defers := mark ++ a.defers }) := by
  let rec0 : LoopState → Option Code → Loop := fun st pe => { state := st, pending := pe, fn, tmps := a.tmps, params := ps.toArray, assign, body, defers := dd }
  have hL1 : w1.heap[lp]? = some (.loop (rec0 .ready none)) := hL1
  refine ⟨lp, mark, w1, { target := .fn (.func gf) caps, args := #[.func (.yield lp) #[] #[]] }, w1, gf, #[.func (.yield lp) #[] #[]] ++ caps, w1, by cases r <;> exact he, ?_, fun _ _ => trivial, ?_, fun hh => by simp [WF, Fence.wide] at hh, ?_⟩
  · rw [ev_env, ha2]
    simp only [resolve, hf]
    simp [Deferred.ofValue, go_sem, ev]
  · simp [invoke, go_sem, hent]
  · have hcall := hit lp (fun pre W => I pre W ∧ W.heap[lp]? = some (.loop (rec0 .ready none)) ∧ hD W) (fun pre W => ∃ c, Ix c pre W ∧ W.heap[lp]? = some (.loop (rec0 .done (some c))) ∧ hD W) w1
      (fun pre A hJ => hSt pre A hJ.1)
      (fun pre x rest A0 A hx ⟨q1, q02, q03⟩ hpop => by
        have hcp := hPop _ _ _ _ q1 hpop
        have q2 : A.heap[lp]? = some (.loop (rec0 .ready none)) := (hcp.2 lp (.inl rfl) (Array.getElem?_eq_some_iff.1 q02).1).trans q02
        have q3 : hD A := hDK _ _ (fun _ => False) q03 hcp
        have hlt : lp < A.heap.size := (Array.getElem?_eq_some_iff.1 q2).1
        have hy := run_yield (P := P) (args := ⟨encs x⟩) q2 (by simp [rec0, henc])
        have htm : ((rec0 .ready none).params.zip ⟨encs x⟩).foldl (fun tmps (t, a) => tmps.setIfInBounds t a) (rec0 .ready none).tmps = (ps.zip (encs x)).foldl (fun t (p : Nat × Value) => t.setIfInBounds p.1 p.2) a.tmps := by
          simp only [rec0]; rw [← Array.foldl_toList]; simp [Array.toList_zip]
        refine ⟨_, _, _, _, hy, roundIn_of_wpIn trivial ?_⟩
        have hE : env { tmps := (ps.zip (encs x)).foldl (fun t (p : Nat × Value) => t.setIfInBounds p.1 p.2) a.tmps, defers := [] } = upds E (zipV ps (encs x)) := by
          rw [env_zip ps (encs x) a (by rw [ha1]; exact hps), ha2]
        have hw := hbody pre x rest A0 A hx q1 hpop ⟨_, q2⟩ { tmps := (ps.zip (encs x)).foldl (fun t (p : Nat × Value) => t.setIfInBounds p.1 p.2) a.tmps, defers := [] } (by rw [zip_size]; exact ha1) hE rfl
        have hw' : assign.wpIn (Fence.wide.inRound lp) 0 P (toQ n (thenP (fun E1 _ A1 => Kept (fun k => k = lp ∨ (mark ≠ [] ∧ k = dd) ∨ NK K A0 k) A A1 ∧ ∀ ds1 A2, Chg [lp] A1 A2 → (∃ rec, A2.heap[lp]? = some (.loop rec)) →
            wp P (some lp) n body (roundP (fun k => k = lp ∨ (mark ≠ [] ∧ k = dd) ∨ NK K A0 k) A2 (I (pre ++ [x])) (fun c B => Ix c (pre ++ [x]) B)) E1 ds1 A2) (fun _ _ _ _ => False)))
            { tmps := (ps.zip (encs x)).foldl (fun t (p : Nat × Value) => t.setIfInBounds p.1 p.2) a.tmps, defers := [] } A := hw
        rw [htm]
        refine wpIn_mono hw' ?_
        rintro e a1 A1 ⟨s1, s2⟩
        cases e with
        | normal =>
          obtain ⟨hk, hb⟩ := s2
          have hl1 : A1.heap[lp]? = some (.loop (rec0 .ready none)) := (hk.2 lp (.inl rfl) hlt).trans q2
          have hlt1 : lp < A1.heap.size := (Array.getElem?_eq_some_iff.1 hl1).1
          refine ⟨_, run_beginRound hl1 rfl, ?_⟩
          have hl2 : (A1.putObj lp (.loop { rec0 .ready none with state := .busy })).heap[lp]? = some (.loop { rec0 .ready none with state := .busy }) := World.putObj_heap_same hlt1
          have hD2 : hD (A1.putObj lp (.loop { rec0 .ready none with state := .busy })) := hDl _ _ (hDK A A1 (NK K A0) q3 hk) ((Chg.putObj A1 lp _).mono fun x hx => by simp at hx; simp [hx])
          have hb2 := hb a1.defers _ (Chg.putObj A1 lp (.loop { rec0 .ready none with state := .busy })) ⟨_, hl2⟩ a1 s1 rfl rfl
          have hb3 : body.wpIn (Fence.wide.inRound lp) 0 P (toQ n (roundP (fun k => k = lp ∨ (mark ≠ [] ∧ k = dd) ∨ NK K A0 k) (A1.putObj lp (.loop { rec0 .ready none with state := .busy })) (I (pre ++ [x])) (fun c B => Ix c (pre ++ [x]) B))) a1 (A1.putObj lp (.loop { rec0 .ready none with state := .busy })) := hb2
          refine wpIn_mono hb3 ?_
          have fin : ∀ (jump : Option Code) (B : World), Kept (fun k => k = lp ∨ (mark ≠ [] ∧ k = dd) ∨ NK K A0 k) (A1.putObj lp (.loop { rec0 .ready none with state := .busy })) B →
              (Instr.endRound lp jump).run P B = .ok (.bool jump.isNone) (B.putObj lp (.loop (rec0 (if jump.isNone then .ready else .done) jump))) ∧
              (B.putObj lp (.loop (rec0 (if jump.isNone then .ready else .done) jump))).heap[lp]? = some (.loop (rec0 (if jump.isNone then .ready else .done) jump)) ∧
              hD (B.putObj lp (.loop (rec0 (if jump.isNone then .ready else .done) jump))) ∧ Chg [lp] B (B.putObj lp (.loop (rec0 (if jump.isNone then .ready else .done) jump))) ∧
              Kept (NK K A0) A (B.putObj lp (.loop (rec0 (if jump.isNone then .ready else .done) jump))) := fun jump B hk2 => by
            have hs2 : lp < (A1.putObj lp (.loop { rec0 .ready none with state := .busy })).heap.size := by simpa using hlt1
            have hl3 := (hk2.2 lp (.inl rfl) hs2).trans hl2
            have hr := run_endRound (P := P) jump hl3
            have hc : Chg [lp] B (B.putObj lp (.loop (rec0 (if jump.isNone then .ready else .done) jump))) := Chg.putObj _ _ _
            refine ⟨hr, World.putObj_heap_same (Array.getElem?_eq_some_iff.1 hl3).1, hDl _ _ (hDK _ B (NK K A0) hD2 hk2) (hc.mono fun x hx => by simp at hx; simp [hx]), hc, ?_, fun k hk3 hk4 => ?_⟩
            · have h1 := hk.1; have h2 := hk2.1; simp at h2 ⊢; omega
            · have hne : k ≠ lp := fun e => by rw [e] at hk3; rcases hk3 with h | h; exact hKl h; exact Nat.not_le.2 (Array.getElem?_eq_some_iff.1 q02).1 h
              rw [World.putObj_heap_other hne, hk2.2 k (.inr (.inr hk3)) (by have := hk.1; simp; omega), World.putObj_heap_other hne, hk.2 k (.inr (.inr hk3)) hk4]
          have mono1 : ∀ {A B : World}, Chg [lp] A B → Chg (lp :: bs) A B := fun h => h.mono fun x hx => by simp at hx; simp [hx]
          rintro e a3 B ⟨t1, t2⟩
          cases e with
          | normal =>
            obtain ⟨hr, hl4, hD4, hc4, hk4⟩ := fin none B t2.1
            exact ⟨_, _, hr, true, rfl, hk4, .inl ⟨rfl, hI _ _ _ t2.2 hc4, hl4, hD4⟩⟩
          | ret =>
            obtain ⟨hr, hl4, hD4, hc4, hk4⟩ := fin (some .ret) B t2.1
            exact ⟨_, _, hr, false, rfl, hk4, .inr ⟨rfl, .ret, hIx _ _ _ _ t2.2 hc4, hl4, hD4⟩⟩
          | exit i =>
            obtain ⟨hr, hl4, hD4, hc4, hk4⟩ := fin (some (.exit i)) B t2.1
            exact ⟨_, _, hr, false, rfl, hk4, .inr ⟨rfl, .exit i, hIx _ _ _ _ t2.2 hc4, hl4, hD4⟩⟩
          | goto t =>
            obtain ⟨hr, hl4, hD4, hc4, hk4⟩ := fin (some (.goto t)) B t2.1
            exact ⟨_, _, hr, false, rfl, hk4, .inr ⟨rfl, .goto t, hIx _ _ _ _ t2.2 hc4, hl4, hD4⟩⟩
          | panic c => exact t2.elim
          | outgrown => exact t2.elim
        | exit i => exact s2.elim
        | goto t => exact s2.elim
        | ret => exact s2.elim
        | panic c => exact s2.elim
        | outgrown => exact s2.elim)
      ⟨h0, hL1, hD1⟩
    have hargs : (#[.func (.yield lp) #[] #[]] ++ caps : Array Value) = ⟨.func (.yield lp) #[] #[] :: caps.toList⟩ := by
      apply Array.ext'; simp
    rw [hargs]
    refine CallsIn.mono (callsIn_of_calls hcall) ?_
    have mono1 : ∀ {A B : World}, Chg [lp] A B → Chg (lp :: bs) A B := fun h => h.mono fun x hx => by simp at hx; simp [hx]
    rintro e W2 ⟨v, rfl, (⟨q1, q2, q3⟩ | ⟨pre, c, q1, q2, q3⟩)⟩
    · refine ⟨none, _, run_endLoop q2 (by simp [rec0]), ?_⟩
      have hc := Chg.putObj W2 lp (.loop { rec0 .ready none with state := .exhausted })
      refine ⟨ha1, ?_⟩
      have := hdone _ (hI _ _ _ q1 hc) (hDl _ _ q3 (mono1 hc))
      rw [← ha2, ← ha3] at this
      exact this
    · refine ⟨some c, _, run_endLoop q2 (by simp [rec0]), ?_⟩
      have hc := Chg.putObj W2 lp (.loop { rec0 .done (some c) with state := .exhausted })
      exact hstop c pre _ (hIx _ _ _ _ q1 hc) (hDl _ _ q3 (mono1 hc)) _ ha1 ha2 (by rw [ha3])
/-- At an outermost loop. -/
theorem x_rangeH {α : Type} {f : Operand} {ps : List Nat} {assign body : Code} {gf : FuncId} {caps : Array Value} {bs : List Nat} {K : Nat → Prop} {encs : α → List Value} {xs : List α} {St : List α → World → Prop} {Pop : List α → α → World → World → Prop}
    (hf : ev E f = .func (.func gf) #[] caps) (hent : ∀ args (w : World), (callFunc gf args).run P w = .ok (.enter gf args) w) (hps : (ps.all fun p => Nat.blt p n) = true) (henc : ∀ x, (encs x).length = ps.length) (hbs : ∀ b, b ∈ bs → b < w.heap.size) (hK : ∀ k, K k → k < w.heap.size)
    (hit : IterH P gf caps.toList K encs xs St Pop)
    (h : ∀ (D lp : Nat) (w1 : World), w.heap.size ≤ D → w.heap.size ≤ lp → D ≠ lp → D < w1.heap.size → lp < w1.heap.size → Chg [] w w1 → ∃ (I : List α → World → Prop) (Ix : Code → List α → World → Prop), I [] w1 ∧
      (∀ pre A, I pre A → St pre A) ∧ (∀ pre x A B, I pre A → Pop pre x A B → Kept (fun k => k = lp ∨ k = D) A B) ∧ (∀ pre A B, I pre A → Chg [lp] A B → I pre B) ∧ (∀ c pre A B, Ix c pre A → Chg [lp] A B → Ix c pre B) ∧
      (∀ pre x rest A0 A, xs = pre ++ x :: rest → I pre A0 → Pop pre x A0 A → (∃ rec, A.heap[lp]? = some (.loop rec)) →
        wp P (some lp) n assign (thenP (fun E1 _ A1 => Kept (fun k => k = lp ∨ k = D ∨ NK K A0 k) A A1 ∧ ∀ ds1 A2, Chg [lp] A1 A2 → (∃ rec, A2.heap[lp]? = some (.loop rec)) →
          wp P (some lp) n body (roundP (fun k => k = lp ∨ k = D ∨ NK K A0 k) A2 (I (pre ++ [x])) (fun c B => Ix c (pre ++ [x]) B)) E1 ds1 A2) (fun _ _ _ _ => False)) (upds E (zipV ps (encs x))) [] A) ∧
      (∀ W, I xs W → DefD D W → Q .normal E (mk D :: ds) W) ∧ (∀ c pre W, Ix c pre W → DefD D W → wp P none n c Q E (mk D :: ds) W)) :
    wp P none n (.rangeFunc f ps.toArray assign body) Q E ds w := by
  intro a ha1 ha2 ha3
  refine wpIn_rangeFunc ?_
  intro fn hfn
  obtain ⟨W1, hW1⟩ : ∃ W1, (w.alloc (.deferred (some []))).alloc (.loop { state := .ready, pending := none, fn, tmps := a.tmps, params := ps.toArray, assign, body, defers := w.heap.size }) = W1 := ⟨_, rfl⟩
  have hc1 : Chg [] w W1 := by rw [← hW1]; exact (Chg.alloc w _).then (Chg.alloc _ _)
  have hL1 : W1.heap[w.heap.size + 1]? = some (.loop { state := .ready, pending := none, fn, tmps := a.tmps, params := ps.toArray, assign, body, defers := w.heap.size }) := by
    rw [← hW1]; have := World.alloc_heap_new (w.alloc (.deferred (some []))) (.loop { state := .ready, pending := none, fn, tmps := a.tmps, params := ps.toArray, assign, body, defers := w.heap.size }); rwa [World.size_alloc] at this
  have hD1 : DefD w.heap.size W1 := by
    rw [← hW1]; exact (Below.heap_alloc _ _ _ (by simp)).trans (World.alloc_heap_new w _)
  obtain ⟨I, Ix, h0, hSt, hPp, hI, hIx, hb, hd, hs⟩ := h w.heap.size (w.heap.size + 1) W1 (Nat.le_refl _) (Nat.le_succ _) (by omega) (Array.getElem?_eq_some_iff.1 hD1).1 (Array.getElem?_eq_some_iff.1 hL1).1 hc1
  have hDn : w.heap.size ∉ (w.heap.size + 1) :: bs := fun hx => by
    rcases List.mem_cons.1 hx with h | h
    · omega
    · have := hbs _ h; omega
  refine rangeH_core (K := K) (r := none) hf hent hps henc (w.heap.size + 1) w.heap.size [mk w.heap.size] W1 (DefD w.heap.size) fn a ha1 ha2 ha3 ?_ hL1 hD1
    (fun A B hA hc => (hc.block _ (Array.getElem?_eq_some_iff.1 hA).1 hDn).trans hA) (fun A B K' hA hk => (hk.2 _ (.inr (.inl ⟨by simp, rfl⟩)) (Array.getElem?_eq_some_iff.1 hA).1).trans hA)
    (fun hx => by have := hbs _ hx; omega) I Ix hit hSt (fun pre x A B hi hp => have k := hPp pre x A B hi hp; ⟨k.1, fun z hz hl => k.2 z (hz.elim .inl fun h => h.elim (fun h => .inr h.2) False.elim) hl⟩) h0 hI hIx ?_ (fun hx => by have := hK _ hx; omega) hd hs
  · rw [← hW1]; exact run_enterLoop_outer _ _ _ _ _
  · intro pre x rest A0 A hx hi hp hr
    refine x_mono (hb pre x rest A0 A hx hi hp hr) ?_
    have hkk : ∀ {A B : World}, Kept (fun k => k = w.heap.size + 1 ∨ k = w.heap.size ∨ NK K A0 k) A B → Kept (fun k => k = w.heap.size + 1 ∨ ([mk w.heap.size] ≠ [] ∧ k = w.heap.size) ∨ NK K A0 k) A B := fun h => ⟨h.1, fun k hk hl => h.2 k (hk.elim .inl (fun h => h.elim (fun h => .inr (.inl h.2)) (fun h => .inr (.inr h)))) hl⟩
    intro e E1 ds1 A1 hq
    cases e with
    | normal =>
      obtain ⟨k1, k2⟩ := hq
      refine ⟨hkk k1, fun ds2 A2 hc hr2 => x_mono (k2 ds2 A2 hc hr2) ?_⟩
      intro e E3 ds3 A3 hq3
      cases e with
      | normal => exact ⟨hkk hq3.1, hq3.2⟩
      | ret => exact ⟨hkk hq3.1, hq3.2⟩
      | exit i => exact ⟨hkk hq3.1, hq3.2⟩
      | goto i => exact ⟨hkk hq3.1, hq3.2⟩
      | panic c => exact hq3
      | outgrown => exact hq3
    | _ => exact hq
end Go.Proofs.YtghjmiggobpmoaaGreatDoor.K
