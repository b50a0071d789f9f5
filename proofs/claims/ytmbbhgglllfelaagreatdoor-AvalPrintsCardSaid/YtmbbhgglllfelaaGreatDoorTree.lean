import Derived.Test.YtmbbhgglllfelaaGreatDoorCh
import Derived.Test.YtmbbhgglllfelaaGreatDoorKitQ
set_option linter.unusedVariables false
set_option linter.unusedSimpArgs false
set_option autoImplicit false
set_option maxRecDepth 20000
namespace Go.Proofs.YtmbbhgglllfelaaGreatDoor.K
open Go Go.Proofs Go.RowKit

def nodeT (x : Nd) (k : List Bytes) : Bytes :=
  if x.op = [35] then decT x.num.toNat
  else if x.op = [36] then x.name
  else if x.op = [63] then ((((([40] ++ k.getD 0 []) ++ [63]) ++ k.getD 1 []) ++ [58]) ++ k.getD 2 []) ++ [41]
  else if k.length = 2 then ((([40] ++ k.getD 0 []) ++ x.op) ++ k.getD 1 []) ++ [41]
  else if ¬ x.name = [] then ((([40] ++ x.name) ++ x.op) ++ k.getD 0 []) ++ [41]
  else (([40] ++ x.op.drop 1) ++ k.getD 0 []) ++ [41]
/-- The texts of a row's operations, on a stack. -/
def printF : List Nd → List Bytes → List Bytes
  | [], st => st
  | x :: l, st => printF l (st.take (st.length - x.kids.length) ++ [nodeT x (st.drop (st.length - x.kids.length))])
def printV (l : List Nd) : Bytes := (printF l []).headD []
def totL : List Bytes → Nat
  | [] => 0
  | s :: l => s.length + totL l
def lightN : List Nd → Nat
  | [] => 0
  | x :: l => x.name.length + 30 + lightN l
theorem totL_append (a b : List Bytes) : totL (a ++ b) = totL a + totL b := by induction a <;> simp_all [totL, Nat.add_assoc]
theorem lightN_append (a b : List Nd) : lightN (a ++ b) = lightN a + lightN b := by induction a <;> simp_all [lightN, Nat.add_assoc]
theorem totL_cut (st : List Bytes) (m : Nat) : totL (st.take m) + totL (st.drop m) = totL st := by rw [← totL_append, List.take_append_drop]
theorem lightN_step {l : List Nd} {i : Nat} {x : Nd} (h : l[i]? = some x) : lightN (l.take (i + 1)) = lightN (l.take i) + (x.name.length + 30) := by
  rw [List.take_add_one, h, lightN_append]; simp [lightN]
theorem lightN_take (l : List Nd) (i : Nat) : lightN (l.take i) ≤ lightN l := by
  have := lightN_append (l.take i) (l.drop i); rw [List.take_append_drop] at this; omega
theorem totL_at {k : List Bytes} {i : Nat} {s : Bytes} (h : k[i]? = some s) : s.length ≤ totL k := by
  induction k generalizing i with
  | nil => simp at h
  | cons a k ih =>
    cases i with
    | zero => simp at h; subst h; simp only [totL]; omega
    | succ i => simp at h; have := ih h; simp only [totL]; omega
theorem getD_at {k : List Bytes} {i : Nat} {s : Bytes} (h : k[i]? = some s) : k.getD i [] = s := by rw [List.getD_eq_getElem?_getD, h]; rfl
theorem printF_step {l : List Nd} {i : Nat} {x : Nd} {st : List Bytes} (h : l[i]? = some x) : printF (l.drop i) st = printF (l.drop (i + 1)) (st.take (st.length - x.kids.length) ++ [nodeT x (st.drop (st.length - x.kids.length))]) := by
  obtain ⟨hi, he⟩ := List.getElem?_eq_some_iff.1 h
  rw [List.drop_eq_getElem_cons hi, he, printF]
theorem decT_len : ∀ (k n : Nat), n < 10 ^ (k + 1) → (decT n).length ≤ k + 1
  | 0, n, h => by rw [decT, dif_pos (by simpa using h)]; simp
  | k + 1, n, h => by
    rw [decT]
    split
    · simp
    · have := decT_len k (n / 10) (by rw [Nat.pow_succ] at h; omega)
      simp only [List.length_append, List.length_cons, List.length_nil]; omega
theorem decT_20 {n : Nat} (h : n ≤ 9223372036854775807) : (decT n).length ≤ 20 := decT_len 19 n (by have : (10 : Nat) ^ (19 + 1) = 100000000000000000000 := rfl; omega)
def opsB : List Bytes := [[124, 124], [38, 38], [124], [94], [38], [61, 61], [33, 61], [60], [60, 61], [62], [62, 61], [60, 60], [62, 62], [43], [45], [42], [47], [37]]
theorem lvl_in {s : Bytes} (h : 0 < levelV s) : s ∈ opsB := by
  by_cases h1 : s ∈ opsB
  · exact h1
  · exfalso
    simp only [opsB, List.mem_cons, List.not_mem_nil, or_false, not_or] at h1
    simp [levelV, h1] at h
theorem lvl_all : ∀ o, o ∈ opsB → o.length ≤ 2 ∧ o ≠ [63] := by decide
theorem lvl_len {s : Bytes} (h : 0 < levelV s) : s.length ≤ 2 ∧ s ≠ [63] := lvl_all s (lvl_in h)
theorem asg_len {s : Bytes} (h : s ∈ asgL) : s.length ≤ 3 := by revert s; decide
/-- What a fit operation's kids and operator are like. -/
theorem form_is {x : Nd} (h : formP x = true) : x.op.length ≤ 3 ∧ (x.op = [35] → 0 ≤ x.num) ∧ (x.op = [63] → x.kids.length = 3) ∧ (x.op ≠ [35] → x.op ≠ [36] → x.op ≠ [63] → x.kids.length = 2 ∨ (x.kids.length = 1 ∧ (x.name = [] → x.op.length = 2))) := by
  unfold formP at h
  repeat' split at h
  all_goals simp only [Bool.and_eq_true, decide_eq_true_eq] at h
  · rename_i e; rw [e]; refine ⟨by simp, fun _ => h.2.2, fun e2 => by simp at e2, fun e2 => absurd rfl e2⟩
  · rename_i e0 e; rw [e]; refine ⟨by simp, fun e2 => by simp at e2, fun e2 => by simp at e2, fun _ e2 => absurd rfl e2⟩
  · rename_i e0 e1 e
    have h3 := asg_len e
    refine ⟨h3, fun e2 => absurd e2 e0, fun e2 => ?_, fun _ _ _ => .inr ⟨by omega, fun e2 => ?_⟩⟩
    · rw [e2] at e; exact absurd e (by decide)
    · have := h.2.1; rw [e2] at this; cases this
  · rename_i e0 e1 e2 e
    refine ⟨by omega, fun e3 => absurd e3 e0, fun e3 => ?_, fun _ _ _ => .inr ⟨by omega, fun _ => by omega⟩⟩
    · rw [e3] at e; have := e.1; simp at this
  · rename_i e0 e1 e2 e3 e
    rw [e]; exact ⟨by simp, fun e4 => by simp at e4, fun _ => by omega, fun _ _ e4 => absurd rfl e4⟩
  · rename_i e0 e1 e2 e3 e4
    have h3 := lvl_len h.1
    exact ⟨by omega, fun e => absurd e e0, fun e => absurd e e4, fun _ _ _ => .inl (by omega)⟩
theorem sl_cutN {α : Type} {c : Enc α} {w : World} {D : Nat → Prop} {A : Option Addr} {xs : List α} {cap m : Nat} (hs : Sl c w D A xs) (hct : xs.length ≤ cap) : Sl c w D (if cap = m then A else A.map (·.add (m * c.sz))) (xs.drop m) := by
  by_cases h : cap = m
  · subst h; exact .inl (List.drop_of_length_le hct)
  · rw [if_neg h]; exact hs.drop m
theorem fitF_true {l : List Nd} {i : Nat} {x : Nd} {st : List Int} (h : l[i]? = some x) (hf : fitF (l.drop i) i st = true) : formP x = true ∧ x.kids.length ≤ st.length ∧ fitF (l.drop (i + 1)) (i + 1) (st.take (st.length - x.kids.length) ++ [(i : Int)]) = true := by
  rw [fitF_step h] at hf
  split at hf
  · rename_i q; exact ⟨q.1, q.2.1, hf⟩
  · cases hf

theorem Text_num {n : Int} {w : World} (h0 : 0 ≤ n) (h1 : n ≤ 9223372036854775807) : CallR Tryz.prog 20 #[.int .i64 n] w fun v w' => v = S (decT n.toNat) ∧ Chg [] w w' := by
  have h := Text_spec n.toNat (by omega) w
  rwa [show ((n.toNat : Nat) : Int) = n by omega] at h
theorem tot2 {k : List Bytes} {a b : Bytes} (h0 : k[0]? = some a) (h1 : k[1]? = some b) : a.length + b.length ≤ totL k := by
  match k, h0, h1 with
  | x :: y :: k, h0, h1 => simp at h0 h1; subst h0; subst h1; simp only [totL]; omega
theorem tot3 {k : List Bytes} {a b c : Bytes} {n : Nat} (hl : k.length = n) (hn : n = 3) (h0 : k[0]? = some a) (h1 : k[1]? = some b) (h2 : k[2]? = some c) : a.length + b.length + c.length ≤ totL k := by
  match k, h0, h1, h2 with
  | x :: y :: z :: k, h0, h1, h2 => simp at h0 h1 h2; subst h0; subst h1; subst h2; simp only [totL]; omega

theorem Print_spec {l : List Nd} {Al : Option Addr} {capl : Nat} {D : Nat → Prop} {w : World} (hl : Sl ndE w D Al l) (hfit : fitV l = true) (hlight : lightN l ≤ 1000000000) (hnum : ∀ x, x ∈ l → x.num ≤ 9223372036854775807) :
    CallR Tryz.prog 13 #[.slice Al l.length capl] w fun v w' => v = S (printV l) ∧ Chg [] w w' := by
 replace hl := hl.mono (D' := fun k => k < w.heap.size) (fun k hk _ => hk)
 have hf0 : fitF l 0 [] = true ∧ 1 ≤ l.length ∧ l.length ≤ 1000 := by unfold fitV at hfit; simp only [Bool.and_eq_true, decide_eq_true_eq] at hfit; exact ⟨hfit.2, hfit.1⟩
 refine callR_of_wp (args := [_]) Tryz.func13 rfl (Nat.le_of_ble_eq_true rfl) ?_
 have HC : Chg [] w w := .refl _
 refine sr rfl <| aS rfl <| en <| sr rfl <| aL rfl <| en <| x_seq <| sr rfl <| mL rfl <| Wp rfl <| st_len (ct := #[32]) (by rw [show ((#[32] : Array TypeId)[0]?).bind Tryz.prog.underlying = some (.slice 38) from T.u32]; rfl) rfl <| mI rfl <| en <| x_block <| x_loop (ι := Nat × List Bytes × List Int × Option Addr × Nat) [3, 5, 6, 7, 8, 11, 12, 13, 14, 15, 16, 17, 18, 19, 20, 21, 22, 23, 24, 25, 26, 27, 28, 29, 30, 31, 32, 33, 34, 35, 36, 37, 38, 39, 40, 41, 42, 43, 44, 45, 46, 47, 48, 49, 50, 51, 52, 53, 54, 55, 56, 57, 58, 59, 60, 61, 62, 63, 64, 65, 66, 67, 68, 69, 70, 71, 72, 73, 74, 75, 76, 77, 78, 79, 80, 81, 82, 83, 84, 85, 86, 87, 88, 89, 90, 91, 92, 93, 94, 95, 96, 97, 98, 99, 100, 101, 102] (fun ⟨i, st, sti, A, cap⟩ => [(11, .int .i64 (i : Int)), (3, .slice A st.length cap)]) (fun ⟨i, st, sti, A, cap⟩ W => (i ≤ l.length ∧ printF l [] = printF (l.drop i) st ∧ fitF (l.drop i) i sti = true ∧ sti.length = st.length ∧ st.length ≤ i ∧ totL st ≤ lightN (l.take i)) ∧ (Chg [] w W) ∧ (Sl ndE W (fun k => k < w.heap.size) Al l) ∧ (Own sE 9 W (fun k => w.heap.size ≤ k) A cap st)) (fun ⟨i, st, sti, A, cap⟩ => l.length - i) (0, [], [], none, 0) ?_ ?_ ?_
 · exact ⟨rfl, rfl, trivial⟩
 ·refine ⟨?_, HC, hl, Own.nil⟩
  exact ⟨Nat.zero_le _, rfl, hf0.1, rfl, Nat.le_refl _, Nat.zero_le _⟩
 intro ⟨i, st, sti, A, cap⟩ G2 w1 ⟨⟨hi, hpf, hff, hsl, hsi, htl⟩, HC, hl, ho⟩
 change wp _ _ _ _ _ (upds (over _ _ G2) [(11, .int .i64 (i : Int)), (3, .slice A st.length cap)]) _ _
 refine sr rfl <| Wp rfl <| st_lss rfl rfl <| en <| x_seq <| x_cond rfl (fun h0 => ?_) (fun h0 => ?_)
 ·try simp only [nm, ne_eq] at h0
  refine x_skip <| then_n <| x_seq <| x_block <| sr rfl ?_
  obtain ⟨x, hx3⟩ : ∃ zz, l[i]? = some zz := ⟨_, List.getElem?_eq_getElem (by omega)⟩
  obtain ⟨lb8, _, vs7, hA4, hR6, hC5⟩ := hl.at hx3
  obtain ⟨K9, cK9, rfl, hk1_9, hk2_9, hk3_9⟩ := hR6
  refine Wp rfl <| st_indexAddr T.u32 T.size38 (congrArg (fun z => Value.slice z _ _) hA4) rfl (by omega) (by omega) <| Wp rfl <| st_loadA (vs := [_, _, _, _]) T.agg38 rfl hC5 rfl <| Wp rfl <| st_alloc T.zero38 ?_
  intro b5 w10 e11 c12 hb13
  have ge_b5 : w.heap.size ≤ b5 := by rw [e11]; exact HC.size
  have na_b5 : b5 ∉ ob A := ho.fresh (by rw [e11]; exact Nat.le_refl _)
  replace HC := HC.then c12
  replace hl := hl.tr0 c12
  replace ho := ho.tr0 c12
  replace hk3_9 := hk3_9.tr0 c12
  clear e11
  refine Wp rfl <| st_store (v := .agg ⟨[S _, .int _ _, S _, .slice _ _ _]⟩) T.size38 rfl rfl rfl hb13 rfl (Nat.le_of_ble_eq_true rfl) (by simp [Value.oneCell', S]) rfl ?_
  intro w14 c15 hb16; simp only [setVs, setV] at hb16
  clear hb13
  replace HC := HC.then1 c15 ge_b5
  replace hl := hl.tr c15 (by intro k hx hD; simp only [List.mem_cons, List.mem_nil_iff, or_false] at hx; have hD2 : k < w.heap.size := hD; omega)
  replace ho := ho.trF flat_flat c15 (by intro k hk hx; simp only [List.mem_singleton] at hx; subst hx; exact na_b5 hk)
  replace hk3_9 := hk3_9.tr c15 (by intro k hx hD; simp only [List.mem_cons, List.mem_nil_iff, or_false] at hx; have hD2 : k < w.heap.size := hD; omega)
  refine en <| x_seq ?_
  have hx0 := hx3
  have hft := fitF_true hx0 hff
  have hfm := form_is hft.1
  have hnm := hnum x (List.mem_of_getElem? hx0)
  have hlt := lightN_take l (i + 1)
  rw [lightN_step hx0] at hlt
  have htc := totL_cut st (st.length - x.kids.length)
  have hkl2 : (st.drop (st.length - x.kids.length)).length = x.kids.length := by rw [List.length_drop]; omega
  have hs20 : IntKind.i64.wrap ((st.length : Int) - (x.kids.length : Int)) = (((st.length - x.kids.length) : Nat) : Int) := by rw [wrap64_id (by omega) (by omega)]; omega
  refine x_region rfl <| mL rfl <| Wp rfl <| st_len (ct := #[62]) (by rw [show ((#[62] : Array TypeId)[0]?).bind Tryz.prog.underlying = some (.slice 9) from T.u62]; rfl) rfl <| fa T.fld38_3 rfl <| lL T.one36 rfl (hb16.cell rfl) <| Wp rfl <| st_len (ct := #[36]) (by rw [show ((#[36] : Array TypeId)[0]?).bind Tryz.prog.underlying = some (.slice 3) from T.u36]; rfl) rfl <| Wp rfl <| st_subk rfl rfl (by exact hs20) <| aI rfl <| en <| sr rfl <| mL rfl <| mI rfl <| Wp rfl <| st_slice (i := (st.length - x.kids.length)) (j := st.length) T.u62 T.size9 rfl ⟨_, rfl⟩ (by rfl) (by omega) (by have := ho.le; omega) ?_
  have hk := sl_cutN (m := (st.length - x.kids.length)) ho.sl ho.le.1
  refine aL rfl <| en <| sr rfl <| aS rfl <| en <| x_seq <| x_block <| sr rfl <| fa T.fld38_0 rfl <| lS T.one9 rfl (hb16.cell rfl) <| Wp rfl <| st_seql rfl rfl <| aB rfl <| en <| x_cond rfl (fun h1 => ?_) (fun h1 => ?_)
  ·try simp only [nm, ne_eq] at h1
   have hn0 := hfm.2.1 h1
   have hnn : x.num = ((x.num.toNat : Nat) : Int) := by omega
   refine x_region rfl <| fa T.fld38_1 rfl <| lI T.one2 rfl (hb16.cell rfl) <| Wp rfl <| st_call (ags := [_]) rfl rfl T.ent20 rfl (Text_num hn0 hnm) ?_
   rintro _ w17 ⟨rfl, c18⟩
   replace HC := HC.then c18
   replace hl := hl.tr0 c18
   replace ho := ho.tr0 c18
   replace hk3_9 := hk3_9.tr0 c18
   replace hb16 := hb16.tr0 c18
   replace hk := hk.tr0 c18
   refine aS rfl <| wops_nil <| block_n <| then_n ?_
   have hnode : nodeT x (st.drop (st.length - x.kids.length)) = decT x.num.toNat := by unfold nodeT; rw [if_pos h1]
   have hnl : (decT x.num.toNat).length ≤ totL (st.drop (st.length - x.kids.length)) + x.name.length + 30 := by have := decT_20 (n := x.num.toNat) (by omega); omega
   refine x_region rfl <| mL rfl <| mI rfl <| Wp rfl <| st_cut (xs := st) (j := (st.length - x.kids.length)) T.u62 T.size9 rfl ⟨_, rfl⟩ (by omega) (by have := ho.le; omega) ?_
   have hcut19 := ho.take (k := (st.length - x.kids.length)) (by omega)
   have htkhcut19 : (st.take (st.length - x.kids.length)).length ≤ st.length := by rw [List.length_take]; omega
   refine mS rfl <| Wp rfl <| st_lit (ps := [(0, .tmp 99)]) (vs := [S _]) T.lit62 (by decide) rfl (by simp only [List.forall_mem_cons, List.not_mem_nil, false_imp_iff, implies_true, and_true]; exact rfl) rfl ?_
   intro b20 w21 e22 c23 hb24
   have ge_b20 : w.heap.size ≤ b20 := by rw [e22]; exact HC.size
   have ne_b5_b20 : b5 ≠ b20 := by rw [e22]; exact hb16.ne_size
   have na_b20 : b20 ∉ ob A := hcut19.fresh (by rw [e22]; exact Nat.le_refl _)
   replace HC := HC.then c23
   replace hl := hl.tr0 c23
   replace hcut19 := hcut19.tr0 c23
   replace hb16 := hb16.tr0 c23
   clear e22
   have hszA := HC.size
   refine Wp rfl <| st_append2 (c := sE) (D2 := fun _ => False) (xs := (st.take (st.length - x.kids.length))) (ys := [decT x.num.toNat]) T.slice62 rfl rfl hcut19 rfl rfl (one_elem rfl (hb24.cells (n := 1) rfl)) (fun _ _ h => h.elim) (fun k hk => by have := HC.size; omega) (by simp only [List.length_cons, List.length_nil]; omega) (by simp only [List.length_cons, List.length_nil]; omega) ?_
   intro A25 cap26 w27 ho28 c29 hg30
   replace HC := HC.trans c29 (fun k hk => .inr (hcut19.inD k hk))
   replace hl := hl.tr c29 (by intro k hx hD; have h1 := hcut19.inD k hx; omega)
   replace hb16 := hb16.tr c29 (fun hx => by first | (have h1 := hcut19.inD _ hx; omega) | exact na_b5 hx | exact hav _ hx (by simp))
   replace hb24 := hb24.tr c29 (fun hx => by first | (have h1 := hcut19.inD _ hx; omega) | exact na_b20 hx | exact hav _ hx (by simp))
   refine aL rfl <| wops_nil <| block_n <| then_n <| x_region rfl <| Wp rfl <| st_addn rfl rfl (by constructor <;> omega) <| mI rfl <| en <| ⟨(i + 1, st.take (st.length - x.kids.length) ++ [decT x.num.toNat], sti.take (sti.length - x.kids.length) ++ [(i : Int)], A25, cap26), ?_, ?_, rfl, ⟨rfl, rfl, trivial⟩, ?_⟩
   ·refine ⟨?_, HC, hl, ho28⟩
    exact ⟨by omega, by rw [hpf, printF_step hx0, hnode], hft.2.2, by simp only [List.length_append, List.length_take, List.length_cons, List.length_nil]; omega, by simp only [List.length_append, List.length_take, List.length_cons, List.length_nil]; omega, by rw [totL_append, lightN_step hx0]; simp only [totL]; omega⟩
   ·show l.length - (i + 1) < l.length - i; omega
   repeat (first | exact agree_upds agree_over rfl | refine agree_upd ?_ rfl | refine agree_upds ?_ rfl | refine agree_over_sub ?_ rfl)
  ·try simp only [nm, ne_eq] at h1
   refine sr rfl <| fa T.fld38_0 rfl <| lS T.one9 rfl (hb16.cell rfl) <| Wp rfl <| st_seql rfl rfl <| aB rfl <| en <| x_cond rfl (fun h2 => ?_) (fun h2 => ?_)
   ·try simp only [nm, ne_eq] at h2
    refine x_region rfl <| fa T.fld38_2 rfl <| lS T.one9 rfl (hb16.cell rfl) <| aS rfl <| wops_nil <| block_n <| then_n ?_
    have hnode : nodeT x (st.drop (st.length - x.kids.length)) = x.name := by unfold nodeT; rw [if_neg h1, if_pos h2]
    have hnl : (x.name).length ≤ totL (st.drop (st.length - x.kids.length)) + x.name.length + 30 := by omega
    refine x_region rfl <| mL rfl <| mI rfl <| Wp rfl <| st_cut (xs := st) (j := (st.length - x.kids.length)) T.u62 T.size9 rfl ⟨_, rfl⟩ (by omega) (by have := ho.le; omega) ?_
    have hcut31 := ho.take (k := (st.length - x.kids.length)) (by omega)
    have htkhcut31 : (st.take (st.length - x.kids.length)).length ≤ st.length := by rw [List.length_take]; omega
    refine mS rfl <| Wp rfl <| st_lit (ps := [(0, .tmp 99)]) (vs := [S _]) T.lit62 (by decide) rfl (by simp only [List.forall_mem_cons, List.not_mem_nil, false_imp_iff, implies_true, and_true]; exact rfl) rfl ?_
    intro b32 w33 e34 c35 hb36
    have ge_b32 : w.heap.size ≤ b32 := by rw [e34]; exact HC.size
    have ne_b5_b32 : b5 ≠ b32 := by rw [e34]; exact hb16.ne_size
    have na_b32 : b32 ∉ ob A := hcut31.fresh (by rw [e34]; exact Nat.le_refl _)
    replace HC := HC.then c35
    replace hl := hl.tr0 c35
    replace hcut31 := hcut31.tr0 c35
    replace hb16 := hb16.tr0 c35
    clear e34
    have hszA := HC.size
    refine Wp rfl <| st_append2 (c := sE) (D2 := fun _ => False) (xs := (st.take (st.length - x.kids.length))) (ys := [x.name]) T.slice62 rfl rfl hcut31 rfl rfl (one_elem rfl (hb36.cells (n := 1) rfl)) (fun _ _ h => h.elim) (fun k hk => by have := HC.size; omega) (by simp only [List.length_cons, List.length_nil]; omega) (by simp only [List.length_cons, List.length_nil]; omega) ?_
    intro A37 cap38 w39 ho40 c41 hg42
    replace HC := HC.trans c41 (fun k hk => .inr (hcut31.inD k hk))
    replace hl := hl.tr c41 (by intro k hx hD; have h1 := hcut31.inD k hx; omega)
    replace hb16 := hb16.tr c41 (fun hx => by first | (have h1 := hcut31.inD _ hx; omega) | exact na_b5 hx | exact hav _ hx (by simp))
    replace hb36 := hb36.tr c41 (fun hx => by first | (have h1 := hcut31.inD _ hx; omega) | exact na_b32 hx | exact hav _ hx (by simp))
    refine aL rfl <| wops_nil <| block_n <| then_n <| x_region rfl <| Wp rfl <| st_addn rfl rfl (by constructor <;> omega) <| mI rfl <| en <| ⟨(i + 1, st.take (st.length - x.kids.length) ++ [x.name], sti.take (sti.length - x.kids.length) ++ [(i : Int)], A37, cap38), ?_, ?_, rfl, ⟨rfl, rfl, trivial⟩, ?_⟩
    ·refine ⟨?_, HC, hl, ho40⟩
     exact ⟨by omega, by rw [hpf, printF_step hx0, hnode], hft.2.2, by simp only [List.length_append, List.length_take, List.length_cons, List.length_nil]; omega, by simp only [List.length_append, List.length_take, List.length_cons, List.length_nil]; omega, by rw [totL_append, lightN_step hx0]; simp only [totL]; omega⟩
    ·show l.length - (i + 1) < l.length - i; omega
    repeat (first | exact agree_upds agree_over rfl | refine agree_upd ?_ rfl | refine agree_upds ?_ rfl | refine agree_over_sub ?_ rfl)
   ·try simp only [nm, ne_eq] at h2
    refine sr rfl <| fa T.fld38_0 rfl <| lS T.one9 rfl (hb16.cell rfl) <| Wp rfl <| st_seql rfl rfl <| aB rfl <| en <| x_cond rfl (fun h3 => ?_) (fun h3 => ?_)
    ·try simp only [nm, ne_eq] at h3
     have hk3 := hfm.2.2.1 h3
     obtain ⟨e0, hx43⟩ : ∃ zz, (st.drop (st.length - x.kids.length))[0]? = some zz := ⟨_, List.getElem?_eq_getElem (by first | omega | (rw [hkl2]; omega))⟩
     obtain ⟨lb48, _, vs47, hA44, hR46, hC45⟩ := hk.at hx43
     obtain rfl : vs47 = [S e0] := hR46
     obtain ⟨e1, hx49⟩ : ∃ zz, (st.drop (st.length - x.kids.length))[1]? = some zz := ⟨_, List.getElem?_eq_getElem (by first | omega | (rw [hkl2]; omega))⟩
     obtain ⟨lb54, _, vs53, hA50, hR52, hC51⟩ := hk.at hx49
     obtain rfl : vs53 = [S e1] := hR52
     obtain ⟨e2, hx55⟩ : ∃ zz, (st.drop (st.length - x.kids.length))[2]? = some zz := ⟨_, List.getElem?_eq_getElem (by first | omega | (rw [hkl2]; omega))⟩
     obtain ⟨lb60, _, vs59, hA56, hR58, hC57⟩ := hk.at hx55
     obtain rfl : vs59 = [S e2] := hR58
     refine x_draw [(0, 0), (1, 0), (2, 0), (3, 0), (4, 0), (5, 0), (6, 0), (7, 0), (8, 0), (9, 0), (10, 0), (11, 0), (12, 0), (13, 0), (14, 0), (15, 0)] T.mixed rfl rfl rfl (fun W => W.heap[b5]? = w14.heap[b5]? ∧ W.heap[lb48]? = w14.heap[lb48]? ∧ W.heap[lb54]? = w14.heap[lb54]? ∧ W.heap[lb60]? = w14.heap[lb60]? ∧ True) ⟨rfl, rfl, rfl, rfl, trivial⟩ ?_
     have o63 := hb16
     have c62 := Chg.drew w14
     generalize World.drew w14 = w61 at c62 ⊢
     have ht_lb48 : lb48 < w61.heap.size ∧ w61.heap[lb48]? = w14.heap[lb48]? := ⟨Nat.lt_of_lt_of_le hC45.lt c62.size, c62.block lb48 hC45.lt (by simp)⟩
     have ht_lb54 : lb54 < w61.heap.size ∧ w61.heap[lb54]? = w14.heap[lb54]? := ⟨Nat.lt_of_lt_of_le hC51.lt c62.size, c62.block lb54 hC51.lt (by simp)⟩
     have ht_lb60 : lb60 < w61.heap.size ∧ w61.heap[lb60]? = w14.heap[lb60]? := ⟨Nat.lt_of_lt_of_le hC57.lt c62.size, c62.block lb60 hC57.lt (by simp)⟩
     replace HC := HC.then c62
     replace hl := hl.tr0 c62
     replace ho := ho.tr0 c62
     replace hk3_9 := hk3_9.tr0 c62
     replace hb16 := hb16.tr0 c62
     replace hk := hk.tr0 c62
     have helhx43 := totL_at hx43
     have helhx49 := totL_at hx49
     have helhx55 := totL_at hx55
     refine sq_q rfl (fun W hT => r_move (v := .slice _ _ _) rfl) <| sq_q rfl (fun W hT => r_indexAddr T.u62 T.size9 (congrArg (fun z => Value.slice z _ _) hA44) rfl (by omega) (by first | omega | (rw [hkl2]; omega))) <| sq_q rfl (fun W hT => r_load1 (v := S _) T.one9 rfl (Cells.at (j := 0) (Cells.tr hC45 hT.2.1) rfl)) <| sq_q rfl (fun W hT => r_sadd rfl rfl (by simp only [List.length_append, List.length_cons, List.length_nil, List.length_drop]; omega)) <| sq_q rfl (fun W hT => r_sadd rfl rfl (by simp only [List.length_append, List.length_cons, List.length_nil, List.length_drop]; omega)) <| sq_q rfl (fun W hT => r_move (v := .slice _ _ _) rfl) <| sq_q rfl (fun W hT => r_indexAddr T.u62 T.size9 (congrArg (fun z => Value.slice z _ _) hA50) rfl (by omega) (by first | omega | (rw [hkl2]; omega))) <| sq_q rfl (fun W hT => r_load1 (v := S _) T.one9 rfl (Cells.at (j := 0) (Cells.tr hC51 hT.2.2.1) rfl)) <| sq_q rfl (fun W hT => r_sadd rfl rfl (by simp only [List.length_append, List.length_cons, List.length_nil, List.length_drop]; omega)) <| sq_q rfl (fun W hT => r_sadd rfl rfl (by simp only [List.length_append, List.length_cons, List.length_nil, List.length_drop]; omega)) <| sq_q rfl (fun W hT => r_move (v := .slice _ _ _) rfl) <| sq_q rfl (fun W hT => r_indexAddr T.u62 T.size9 (congrArg (fun z => Value.slice z _ _) hA56) rfl (by omega) (by first | omega | (rw [hkl2]; omega))) <| sq_q rfl (fun W hT => r_load1 (v := S _) T.one9 rfl (Cells.at (j := 0) (Cells.tr hC57 hT.2.2.2.1) rfl)) <| sq_q rfl (fun W hT => r_sadd rfl rfl (by simp only [List.length_append, List.length_cons, List.length_nil, List.length_drop]; omega)) <| sq_q rfl (fun W hT => r_sadd rfl rfl (by simp only [List.length_append, List.length_cons, List.length_nil, List.length_drop]; omega)) <| sq_q rfl (fun W hT => r_assign (v := S _) rfl) ?_
     clear o63
     refine sq_nil <| block_n <| then_n ?_
     have hnode : nodeT x (st.drop (st.length - x.kids.length)) = ((((([40] ++ e0) ++ [63]) ++ e1) ++ [58]) ++ e2) ++ [41] := by unfold nodeT; rw [if_neg h1, if_neg h2, if_pos h3, getD_at hx43, getD_at hx49, getD_at hx55]
     have hnl : (((((([40] ++ e0) ++ [63]) ++ e1) ++ [58]) ++ e2) ++ [41]).length ≤ totL (st.drop (st.length - x.kids.length)) + x.name.length + 30 := by have hq := tot3 hkl2 hk3 hx43 hx49 hx55; simp only [List.length_append, List.length_cons, List.length_nil, List.length_drop]; omega
     refine x_region rfl <| mL rfl <| mI rfl <| Wp rfl <| st_cut (xs := st) (j := (st.length - x.kids.length)) T.u62 T.size9 rfl ⟨_, rfl⟩ (by omega) (by have := ho.le; omega) ?_
     have hcut64 := ho.take (k := (st.length - x.kids.length)) (by omega)
     have htkhcut64 : (st.take (st.length - x.kids.length)).length ≤ st.length := by rw [List.length_take]; omega
     refine mS rfl <| Wp rfl <| st_lit (ps := [(0, .tmp 99)]) (vs := [S _]) T.lit62 (by decide) rfl (by simp only [List.forall_mem_cons, List.not_mem_nil, false_imp_iff, implies_true, and_true]; exact rfl) rfl ?_
     intro b65 w66 e67 c68 hb69
     have ge_b65 : w.heap.size ≤ b65 := by rw [e67]; exact HC.size
     have ne_b5_b65 : b5 ≠ b65 := by rw [e67]; exact hb16.ne_size
     have na_b65 : b65 ∉ ob A := hcut64.fresh (by rw [e67]; exact Nat.le_refl _)
     replace HC := HC.then c68
     replace hl := hl.tr0 c68
     replace hcut64 := hcut64.tr0 c68
     replace hb16 := hb16.tr0 c68
     clear e67
     have hszA := HC.size
     refine Wp rfl <| st_append2 (c := sE) (D2 := fun _ => False) (xs := (st.take (st.length - x.kids.length))) (ys := [((((([40] ++ e0) ++ [63]) ++ e1) ++ [58]) ++ e2) ++ [41]]) T.slice62 rfl rfl hcut64 rfl rfl (one_elem rfl (hb69.cells (n := 1) rfl)) (fun _ _ h => h.elim) (fun k hk => by have := HC.size; omega) (by simp only [List.length_cons, List.length_nil]; omega) (by simp only [List.length_cons, List.length_nil]; omega) ?_
     intro A70 cap71 w72 ho73 c74 hg75
     replace HC := HC.trans c74 (fun k hk => .inr (hcut64.inD k hk))
     replace hl := hl.tr c74 (by intro k hx hD; have h1 := hcut64.inD k hx; omega)
     replace hb16 := hb16.tr c74 (fun hx => by first | (have h1 := hcut64.inD _ hx; omega) | exact na_b5 hx | exact hav _ hx (by simp))
     replace hb69 := hb69.tr c74 (fun hx => by first | (have h1 := hcut64.inD _ hx; omega) | exact na_b65 hx | exact hav _ hx (by simp))
     refine aL rfl <| wops_nil <| block_n <| then_n <| x_region rfl <| Wp rfl <| st_addn rfl rfl (by constructor <;> omega) <| mI rfl <| en <| ⟨(i + 1, st.take (st.length - x.kids.length) ++ [((((([40] ++ e0) ++ [63]) ++ e1) ++ [58]) ++ e2) ++ [41]], sti.take (sti.length - x.kids.length) ++ [(i : Int)], A70, cap71), ?_, ?_, rfl, ⟨rfl, rfl, trivial⟩, ?_⟩
     ·refine ⟨?_, HC, hl, ho73⟩
      exact ⟨by omega, by rw [hpf, printF_step hx0, hnode], hft.2.2, by simp only [List.length_append, List.length_take, List.length_cons, List.length_nil]; omega, by simp only [List.length_append, List.length_take, List.length_cons, List.length_nil]; omega, by rw [totL_append, lightN_step hx0]; simp only [totL]; omega⟩
     ·show l.length - (i + 1) < l.length - i; omega
     repeat (first | exact agree_upds agree_over rfl | refine agree_upd ?_ rfl | refine agree_upds ?_ rfl | refine agree_over_sub ?_ rfl)
    ·try simp only [nm, ne_eq] at h3
     have hk12 := hfm.2.2.2 h1 h2 h3
     refine sr rfl <| mL rfl <| Wp rfl <| st_len (ct := #[62]) (by rw [show ((#[62] : Array TypeId)[0]?).bind Tryz.prog.underlying = some (.slice 9) from T.u62]; rfl) rfl <| Wp rfl <| st_eql rfl rfl <| aB rfl <| en <| x_cond rfl (fun h4 => ?_) (fun h4 => ?_)
     ·try simp only [nm, ne_eq] at h4
      obtain ⟨e0, hx76⟩ : ∃ zz, (st.drop (st.length - x.kids.length))[0]? = some zz := ⟨_, List.getElem?_eq_getElem (by first | omega | (rw [hkl2]; omega))⟩
      obtain ⟨lb81, _, vs80, hA77, hR79, hC78⟩ := hk.at hx76
      obtain rfl : vs80 = [S e0] := hR79
      obtain ⟨e1, hx82⟩ : ∃ zz, (st.drop (st.length - x.kids.length))[1]? = some zz := ⟨_, List.getElem?_eq_getElem (by first | omega | (rw [hkl2]; omega))⟩
      obtain ⟨lb87, _, vs86, hA83, hR85, hC84⟩ := hk.at hx82
      obtain rfl : vs86 = [S e1] := hR85
      refine x_draw [(0, 0), (1, 0), (2, 0), (3, 0), (4, 0), (5, 0), (6, 0), (7, 0), (8, 0), (9, 0), (10, 0), (11, 0), (12, 0)] T.mixed rfl rfl rfl (fun W => W.heap[b5]? = w14.heap[b5]? ∧ W.heap[lb81]? = w14.heap[lb81]? ∧ W.heap[lb87]? = w14.heap[lb87]? ∧ True) ⟨rfl, rfl, rfl, trivial⟩ ?_
      have o90 := hb16
      have c89 := Chg.drew w14
      generalize World.drew w14 = w88 at c89 ⊢
      have ht_lb81 : lb81 < w88.heap.size ∧ w88.heap[lb81]? = w14.heap[lb81]? := ⟨Nat.lt_of_lt_of_le hC78.lt c89.size, c89.block lb81 hC78.lt (by simp)⟩
      have ht_lb87 : lb87 < w88.heap.size ∧ w88.heap[lb87]? = w14.heap[lb87]? := ⟨Nat.lt_of_lt_of_le hC84.lt c89.size, c89.block lb87 hC84.lt (by simp)⟩
      replace HC := HC.then c89
      replace hl := hl.tr0 c89
      replace ho := ho.tr0 c89
      replace hk3_9 := hk3_9.tr0 c89
      replace hb16 := hb16.tr0 c89
      replace hk := hk.tr0 c89
      have helhx76 := totL_at hx76
      have helhx82 := totL_at hx82
      refine sq_q rfl (fun W hT => r_move (v := .slice _ _ _) rfl) <| sq_q rfl (fun W hT => r_indexAddr T.u62 T.size9 (congrArg (fun z => Value.slice z _ _) hA77) rfl (by omega) (by first | omega | (rw [hkl2]; omega))) <| sq_q rfl (fun W hT => r_load1 (v := S _) T.one9 rfl (Cells.at (j := 0) (Cells.tr hC78 hT.2.1) rfl)) <| sq_q rfl (fun W hT => r_sadd rfl rfl (by simp only [List.length_append, List.length_cons, List.length_nil, List.length_drop]; omega)) <| sq_q rfl (fun W hT => r_fieldAddr T.fld38_0 rfl) <| sq_q rfl (fun W hT => r_load1 (v := S _) T.one9 rfl (Blk.cell (show Blk W b5 _ _ from hT.1.trans o90) rfl)) <| sq_q rfl (fun W hT => r_sadd rfl rfl (by simp only [List.length_append, List.length_cons, List.length_nil, List.length_drop]; omega)) <| sq_q rfl (fun W hT => r_move (v := .slice _ _ _) rfl) <| sq_q rfl (fun W hT => r_indexAddr T.u62 T.size9 (congrArg (fun z => Value.slice z _ _) hA83) rfl (by omega) (by first | omega | (rw [hkl2]; omega))) <| sq_q rfl (fun W hT => r_load1 (v := S _) T.one9 rfl (Cells.at (j := 0) (Cells.tr hC84 hT.2.2.1) rfl)) <| sq_q rfl (fun W hT => r_sadd rfl rfl (by simp only [List.length_append, List.length_cons, List.length_nil, List.length_drop]; omega)) <| sq_q rfl (fun W hT => r_sadd rfl rfl (by simp only [List.length_append, List.length_cons, List.length_nil, List.length_drop]; omega)) <| sq_q rfl (fun W hT => r_assign (v := S _) rfl) ?_
      clear o90
      refine sq_nil <| block_n <| then_n ?_
      have hnode : nodeT x (st.drop (st.length - x.kids.length)) = ((([40] ++ e0) ++ x.op) ++ e1) ++ [41] := by unfold nodeT; rw [if_neg h1, if_neg h2, if_neg h3, if_pos (by omega), getD_at hx76, getD_at hx82]
      have hnl : (((([40] ++ e0) ++ x.op) ++ e1) ++ [41]).length ≤ totL (st.drop (st.length - x.kids.length)) + x.name.length + 30 := by have hq := tot2 hx76 hx82; simp only [List.length_append, List.length_cons, List.length_nil, List.length_drop]; omega
      refine x_region rfl <| mL rfl <| mI rfl <| Wp rfl <| st_cut (xs := st) (j := (st.length - x.kids.length)) T.u62 T.size9 rfl ⟨_, rfl⟩ (by omega) (by have := ho.le; omega) ?_
      have hcut91 := ho.take (k := (st.length - x.kids.length)) (by omega)
      have htkhcut91 : (st.take (st.length - x.kids.length)).length ≤ st.length := by rw [List.length_take]; omega
      refine mS rfl <| Wp rfl <| st_lit (ps := [(0, .tmp 99)]) (vs := [S _]) T.lit62 (by decide) rfl (by simp only [List.forall_mem_cons, List.not_mem_nil, false_imp_iff, implies_true, and_true]; exact rfl) rfl ?_
      intro b92 w93 e94 c95 hb96
      have ge_b92 : w.heap.size ≤ b92 := by rw [e94]; exact HC.size
      have ne_b5_b92 : b5 ≠ b92 := by rw [e94]; exact hb16.ne_size
      have na_b92 : b92 ∉ ob A := hcut91.fresh (by rw [e94]; exact Nat.le_refl _)
      replace HC := HC.then c95
      replace hl := hl.tr0 c95
      replace hcut91 := hcut91.tr0 c95
      replace hb16 := hb16.tr0 c95
      clear e94
      have hszA := HC.size
      refine Wp rfl <| st_append2 (c := sE) (D2 := fun _ => False) (xs := (st.take (st.length - x.kids.length))) (ys := [((([40] ++ e0) ++ x.op) ++ e1) ++ [41]]) T.slice62 rfl rfl hcut91 rfl rfl (one_elem rfl (hb96.cells (n := 1) rfl)) (fun _ _ h => h.elim) (fun k hk => by have := HC.size; omega) (by simp only [List.length_cons, List.length_nil]; omega) (by simp only [List.length_cons, List.length_nil]; omega) ?_
      intro A97 cap98 w99 ho100 c101 hg102
      replace HC := HC.trans c101 (fun k hk => .inr (hcut91.inD k hk))
      replace hl := hl.tr c101 (by intro k hx hD; have h1 := hcut91.inD k hx; omega)
      replace hb16 := hb16.tr c101 (fun hx => by first | (have h1 := hcut91.inD _ hx; omega) | exact na_b5 hx | exact hav _ hx (by simp))
      replace hb96 := hb96.tr c101 (fun hx => by first | (have h1 := hcut91.inD _ hx; omega) | exact na_b92 hx | exact hav _ hx (by simp))
      refine aL rfl <| wops_nil <| block_n <| then_n <| x_region rfl <| Wp rfl <| st_addn rfl rfl (by constructor <;> omega) <| mI rfl <| en <| ⟨(i + 1, st.take (st.length - x.kids.length) ++ [((([40] ++ e0) ++ x.op) ++ e1) ++ [41]], sti.take (sti.length - x.kids.length) ++ [(i : Int)], A97, cap98), ?_, ?_, rfl, ⟨rfl, rfl, trivial⟩, ?_⟩
      ·refine ⟨?_, HC, hl, ho100⟩
       exact ⟨by omega, by rw [hpf, printF_step hx0, hnode], hft.2.2, by simp only [List.length_append, List.length_take, List.length_cons, List.length_nil]; omega, by simp only [List.length_append, List.length_take, List.length_cons, List.length_nil]; omega, by rw [totL_append, lightN_step hx0]; simp only [totL]; omega⟩
      ·show l.length - (i + 1) < l.length - i; omega
      repeat (first | exact agree_upds agree_over rfl | refine agree_upd ?_ rfl | refine agree_upds ?_ rfl | refine agree_over_sub ?_ rfl)
     ·try simp only [nm, ne_eq] at h4
      refine sr rfl <| fa T.fld38_2 rfl <| lS T.one9 rfl (hb16.cell rfl) <| Wp rfl <| st_sneq rfl rfl <| aB rfl <| en <| x_cond rfl (fun h5 => ?_) (fun h5 => ?_)
      ·try simp only [nm, ne_eq] at h5
       obtain ⟨e0, hx103⟩ : ∃ zz, (st.drop (st.length - x.kids.length))[0]? = some zz := ⟨_, List.getElem?_eq_getElem (by first | omega | (rw [hkl2]; omega))⟩
       obtain ⟨lb108, _, vs107, hA104, hR106, hC105⟩ := hk.at hx103
       obtain rfl : vs107 = [S e0] := hR106
       refine x_draw [(0, 0), (1, 0), (2, 0), (3, 0), (4, 0), (5, 0), (6, 0), (7, 0), (8, 0), (9, 0), (10, 0), (11, 0)] T.mixed rfl rfl rfl (fun W => W.heap[b5]? = w14.heap[b5]? ∧ W.heap[lb108]? = w14.heap[lb108]? ∧ True) ⟨rfl, rfl, trivial⟩ ?_
       have o111 := hb16
       have c110 := Chg.drew w14
       generalize World.drew w14 = w109 at c110 ⊢
       have ht_lb108 : lb108 < w109.heap.size ∧ w109.heap[lb108]? = w14.heap[lb108]? := ⟨Nat.lt_of_lt_of_le hC105.lt c110.size, c110.block lb108 hC105.lt (by simp)⟩
       replace HC := HC.then c110
       replace hl := hl.tr0 c110
       replace ho := ho.tr0 c110
       replace hk3_9 := hk3_9.tr0 c110
       replace hb16 := hb16.tr0 c110
       replace hk := hk.tr0 c110
       have helhx103 := totL_at hx103
       refine sq_q rfl (fun W hT => r_fieldAddr T.fld38_2 rfl) <| sq_q rfl (fun W hT => r_load1 (v := S _) T.one9 rfl (Blk.cell (show Blk W b5 _ _ from hT.1.trans o111) rfl)) <| sq_q rfl (fun W hT => r_sadd rfl rfl (by simp only [List.length_append, List.length_cons, List.length_nil, List.length_drop]; omega)) <| sq_q rfl (fun W hT => r_fieldAddr T.fld38_0 rfl) <| sq_q rfl (fun W hT => r_load1 (v := S _) T.one9 rfl (Blk.cell (show Blk W b5 _ _ from hT.1.trans o111) rfl)) <| sq_q rfl (fun W hT => r_sadd rfl rfl (by simp only [List.length_append, List.length_cons, List.length_nil, List.length_drop]; omega)) <| sq_q rfl (fun W hT => r_move (v := .slice _ _ _) rfl) <| sq_q rfl (fun W hT => r_indexAddr T.u62 T.size9 (congrArg (fun z => Value.slice z _ _) hA104) rfl (by omega) (by first | omega | (rw [hkl2]; omega))) <| sq_q rfl (fun W hT => r_load1 (v := S _) T.one9 rfl (Cells.at (j := 0) (Cells.tr hC105 hT.2.1) rfl)) <| sq_q rfl (fun W hT => r_sadd rfl rfl (by simp only [List.length_append, List.length_cons, List.length_nil, List.length_drop]; omega)) <| sq_q rfl (fun W hT => r_sadd rfl rfl (by simp only [List.length_append, List.length_cons, List.length_nil, List.length_drop]; omega)) <| sq_q rfl (fun W hT => r_assign (v := S _) rfl) ?_
       clear o111
       refine sq_nil <| block_n <| then_n ?_
       have hnode : nodeT x (st.drop (st.length - x.kids.length)) = ((([40] ++ x.name) ++ x.op) ++ e0) ++ [41] := by unfold nodeT; rw [if_neg h1, if_neg h2, if_neg h3, if_neg (by omega), if_pos h5, getD_at hx103]
       have hnl : (((([40] ++ x.name) ++ x.op) ++ e0) ++ [41]).length ≤ totL (st.drop (st.length - x.kids.length)) + x.name.length + 30 := by simp only [List.length_append, List.length_cons, List.length_nil, List.length_drop]; omega
       refine x_region rfl <| mL rfl <| mI rfl <| Wp rfl <| st_cut (xs := st) (j := (st.length - x.kids.length)) T.u62 T.size9 rfl ⟨_, rfl⟩ (by omega) (by have := ho.le; omega) ?_
       have hcut112 := ho.take (k := (st.length - x.kids.length)) (by omega)
       have htkhcut112 : (st.take (st.length - x.kids.length)).length ≤ st.length := by rw [List.length_take]; omega
       refine mS rfl <| Wp rfl <| st_lit (ps := [(0, .tmp 99)]) (vs := [S _]) T.lit62 (by decide) rfl (by simp only [List.forall_mem_cons, List.not_mem_nil, false_imp_iff, implies_true, and_true]; exact rfl) rfl ?_
       intro b113 w114 e115 c116 hb117
       have ge_b113 : w.heap.size ≤ b113 := by rw [e115]; exact HC.size
       have ne_b5_b113 : b5 ≠ b113 := by rw [e115]; exact hb16.ne_size
       have na_b113 : b113 ∉ ob A := hcut112.fresh (by rw [e115]; exact Nat.le_refl _)
       replace HC := HC.then c116
       replace hl := hl.tr0 c116
       replace hcut112 := hcut112.tr0 c116
       replace hb16 := hb16.tr0 c116
       clear e115
       have hszA := HC.size
       refine Wp rfl <| st_append2 (c := sE) (D2 := fun _ => False) (xs := (st.take (st.length - x.kids.length))) (ys := [((([40] ++ x.name) ++ x.op) ++ e0) ++ [41]]) T.slice62 rfl rfl hcut112 rfl rfl (one_elem rfl (hb117.cells (n := 1) rfl)) (fun _ _ h => h.elim) (fun k hk => by have := HC.size; omega) (by simp only [List.length_cons, List.length_nil]; omega) (by simp only [List.length_cons, List.length_nil]; omega) ?_
       intro A118 cap119 w120 ho121 c122 hg123
       replace HC := HC.trans c122 (fun k hk => .inr (hcut112.inD k hk))
       replace hl := hl.tr c122 (by intro k hx hD; have h1 := hcut112.inD k hx; omega)
       replace hb16 := hb16.tr c122 (fun hx => by first | (have h1 := hcut112.inD _ hx; omega) | exact na_b5 hx | exact hav _ hx (by simp))
       replace hb117 := hb117.tr c122 (fun hx => by first | (have h1 := hcut112.inD _ hx; omega) | exact na_b113 hx | exact hav _ hx (by simp))
       refine aL rfl <| wops_nil <| block_n <| then_n <| x_region rfl <| Wp rfl <| st_addn rfl rfl (by constructor <;> omega) <| mI rfl <| en <| ⟨(i + 1, st.take (st.length - x.kids.length) ++ [((([40] ++ x.name) ++ x.op) ++ e0) ++ [41]], sti.take (sti.length - x.kids.length) ++ [(i : Int)], A118, cap119), ?_, ?_, rfl, ⟨rfl, rfl, trivial⟩, ?_⟩
       ·refine ⟨?_, HC, hl, ho121⟩
        exact ⟨by omega, by rw [hpf, printF_step hx0, hnode], hft.2.2, by simp only [List.length_append, List.length_take, List.length_cons, List.length_nil]; omega, by simp only [List.length_append, List.length_take, List.length_cons, List.length_nil]; omega, by rw [totL_append, lightN_step hx0]; simp only [totL]; omega⟩
       ·show l.length - (i + 1) < l.length - i; omega
       repeat (first | exact agree_upds agree_over rfl | refine agree_upd ?_ rfl | refine agree_upds ?_ rfl | refine agree_over_sub ?_ rfl)
      ·try simp only [nm, ne_eq] at h5
       obtain ⟨e0, hx124⟩ : ∃ zz, (st.drop (st.length - x.kids.length))[0]? = some zz := ⟨_, List.getElem?_eq_getElem (by first | omega | (rw [hkl2]; omega))⟩
       obtain ⟨lb129, _, vs128, hA125, hR127, hC126⟩ := hk.at hx124
       obtain rfl : vs128 = [S e0] := hR127
       refine x_draw [(0, 0), (1, 0), (2, 0), (3, 0), (4, 0), (5, 0), (6, 0), (7, 0), (8, 0), (9, 0)] T.mixed rfl rfl rfl (fun W => W.heap[b5]? = w14.heap[b5]? ∧ W.heap[lb129]? = w14.heap[lb129]? ∧ True) ⟨rfl, rfl, trivial⟩ ?_
       have o132 := hb16
       have c131 := Chg.drew w14
       generalize World.drew w14 = w130 at c131 ⊢
       have ht_lb129 : lb129 < w130.heap.size ∧ w130.heap[lb129]? = w14.heap[lb129]? := ⟨Nat.lt_of_lt_of_le hC126.lt c131.size, c131.block lb129 hC126.lt (by simp)⟩
       replace HC := HC.then c131
       replace hl := hl.tr0 c131
       replace ho := ho.tr0 c131
       replace hk3_9 := hk3_9.tr0 c131
       replace hb16 := hb16.tr0 c131
       replace hk := hk.tr0 c131
       have helhx124 := totL_at hx124
       have hop2 : x.op.length = 2 := (hk12.resolve_left (by omega)).2 (by first | exact h5 | simpa using h5)
       refine sq_q rfl (fun W hT => r_fieldAddr T.fld38_0 rfl) <| sq_q rfl (fun W hT => r_load1 (v := S _) T.one9 rfl (Blk.cell (show Blk W b5 _ _ from hT.1.trans o132) rfl)) <| sq_q rfl (fun W hT => r_sslo (i := 1) T.u9 rfl ⟨_, rfl⟩ (by omega)) <| sq_q rfl (fun W hT => r_sadd rfl rfl (by simp only [List.length_append, List.length_cons, List.length_nil, List.length_drop]; omega)) <| sq_q rfl (fun W hT => r_move (v := .slice _ _ _) rfl) <| sq_q rfl (fun W hT => r_indexAddr T.u62 T.size9 (congrArg (fun z => Value.slice z _ _) hA125) rfl (by omega) (by first | omega | (rw [hkl2]; omega))) <| sq_q rfl (fun W hT => r_load1 (v := S _) T.one9 rfl (Cells.at (j := 0) (Cells.tr hC126 hT.2.1) rfl)) <| sq_q rfl (fun W hT => r_sadd rfl rfl (by simp only [List.length_append, List.length_cons, List.length_nil, List.length_drop]; omega)) <| sq_q rfl (fun W hT => r_sadd rfl rfl (by simp only [List.length_append, List.length_cons, List.length_nil, List.length_drop]; omega)) <| sq_q rfl (fun W hT => r_assign (v := S _) rfl) ?_
       clear o132
       refine sq_nil <| block_n <| then_n ?_
       have hnode : nodeT x (st.drop (st.length - x.kids.length)) = (([40] ++ x.op.drop 1) ++ e0) ++ [41] := by unfold nodeT; rw [if_neg h1, if_neg h2, if_neg h3, if_neg (by omega), if_neg (by simp [h5]), getD_at hx124]
       have hnl : ((([40] ++ x.op.drop 1) ++ e0) ++ [41]).length ≤ totL (st.drop (st.length - x.kids.length)) + x.name.length + 30 := by simp only [List.length_append, List.length_cons, List.length_nil, List.length_drop]; omega
       refine x_region rfl <| mL rfl <| mI rfl <| Wp rfl <| st_cut (xs := st) (j := (st.length - x.kids.length)) T.u62 T.size9 rfl ⟨_, rfl⟩ (by omega) (by have := ho.le; omega) ?_
       have hcut133 := ho.take (k := (st.length - x.kids.length)) (by omega)
       have htkhcut133 : (st.take (st.length - x.kids.length)).length ≤ st.length := by rw [List.length_take]; omega
       refine mS rfl <| Wp rfl <| st_lit (ps := [(0, .tmp 99)]) (vs := [S _]) T.lit62 (by decide) rfl (by simp only [List.forall_mem_cons, List.not_mem_nil, false_imp_iff, implies_true, and_true]; exact rfl) rfl ?_
       intro b134 w135 e136 c137 hb138
       have ge_b134 : w.heap.size ≤ b134 := by rw [e136]; exact HC.size
       have ne_b5_b134 : b5 ≠ b134 := by rw [e136]; exact hb16.ne_size
       have na_b134 : b134 ∉ ob A := hcut133.fresh (by rw [e136]; exact Nat.le_refl _)
       replace HC := HC.then c137
       replace hl := hl.tr0 c137
       replace hcut133 := hcut133.tr0 c137
       replace hb16 := hb16.tr0 c137
       clear e136
       have hszA := HC.size
       refine Wp rfl <| st_append2 (c := sE) (D2 := fun _ => False) (xs := (st.take (st.length - x.kids.length))) (ys := [(([40] ++ x.op.drop 1) ++ e0) ++ [41]]) T.slice62 rfl rfl hcut133 rfl rfl (one_elem rfl (hb138.cells (n := 1) rfl)) (fun _ _ h => h.elim) (fun k hk => by have := HC.size; omega) (by simp only [List.length_cons, List.length_nil]; omega) (by simp only [List.length_cons, List.length_nil]; omega) ?_
       intro A139 cap140 w141 ho142 c143 hg144
       replace HC := HC.trans c143 (fun k hk => .inr (hcut133.inD k hk))
       replace hl := hl.tr c143 (by intro k hx hD; have h1 := hcut133.inD k hx; omega)
       replace hb16 := hb16.tr c143 (fun hx => by first | (have h1 := hcut133.inD _ hx; omega) | exact na_b5 hx | exact hav _ hx (by simp))
       replace hb138 := hb138.tr c143 (fun hx => by first | (have h1 := hcut133.inD _ hx; omega) | exact na_b134 hx | exact hav _ hx (by simp))
       refine aL rfl <| wops_nil <| block_n <| then_n <| x_region rfl <| Wp rfl <| st_addn rfl rfl (by constructor <;> omega) <| mI rfl <| en <| ⟨(i + 1, st.take (st.length - x.kids.length) ++ [(([40] ++ x.op.drop 1) ++ e0) ++ [41]], sti.take (sti.length - x.kids.length) ++ [(i : Int)], A139, cap140), ?_, ?_, rfl, ⟨rfl, rfl, trivial⟩, ?_⟩
       ·refine ⟨?_, HC, hl, ho142⟩
        exact ⟨by omega, by rw [hpf, printF_step hx0, hnode], hft.2.2, by simp only [List.length_append, List.length_take, List.length_cons, List.length_nil]; omega, by simp only [List.length_append, List.length_take, List.length_cons, List.length_nil]; omega, by rw [totL_append, lightN_step hx0]; simp only [totL]; omega⟩
       ·show l.length - (i + 1) < l.length - i; omega
       repeat (first | exact agree_upds agree_over rfl | refine agree_upd ?_ rfl | refine agree_upds ?_ rfl | refine agree_over_sub ?_ rfl)
 ·try simp only [nm, ne_eq] at h0
  have hil : i = l.length := by omega
  rw [hil, List.drop_of_length_le (Nat.le_refl _)] at hpf hff
  have hst1 : st.length = 1 := by rw [fitF, decide_eq_true_eq] at hff; omega
  refine x_exit <| then_x <| then_x <| block_x <| then_n <| x_seq ?_
  have hz := ho.sl
  refine x_region rfl <| mL rfl ?_
  obtain ⟨x145, hx146⟩ : ∃ zz, st[0]? = some zz := ⟨_, List.getElem?_eq_getElem (by omega)⟩
  obtain ⟨lb151, _, vs150, hA147, hR149, hC148⟩ := hz.at hx146
  obtain rfl : vs150 = [S x145] := hR149
  refine Wp rfl <| st_indexAddr T.u62 T.size9 (congrArg (fun z => Value.slice z _ _) hA147) rfl (by omega) (by omega) <| lS T.one9 rfl (hC148.at (j := 0) rfl) <| aS rfl <| en <| x_ret <| ret_tmp (v := S _) rfl rfl ?_
  have hpv : printV l = x145 := by unfold printV; rw [hpf, printF, List.headD_eq_head?_getD, List.head?_eq_getElem?, hx146]; rfl
  rw [hpv]
  exact ⟨rfl, HC⟩

end Go.Proofs.YtmbbhgglllfelaaGreatDoor.K
set_option linter.unusedVariables false
set_option linter.unusedSimpArgs false
set_option autoImplicit false
set_option maxRecDepth 20000
namespace Go.Proofs.YtmbbhgglllfelaaGreatDoor.K
open Go Go.Proofs Go.RowKit
inductive Tr where
  | num (n : Int)
  | var (s : Bytes)
  | asg (o n : Bytes) (t : Tr)
  | un (o : Bytes) (t : Tr)
  | cnd (a b c : Tr)
  | bin (o : Bytes) (a b : Tr)
namespace Tr
def sz : Tr → Nat
  | num _ => 1
  | var _ => 1
  | asg _ _ t => t.sz + 1
  | un _ t => t.sz + 1
  | cnd a b c => a.sz + b.sz + c.sz + 1
  | bin _ a b => a.sz + b.sz + 1
/-- Where a tree's own operation stands, if its row begins at b. -/
def root (t : Tr) (b : Nat) : Int := ((b + t.sz - 1 : Nat) : Int)
def row : Tr → Nat → List Nd
  | num n, _ => [⟨[35], n, [], []⟩]
  | var s, _ => [⟨[36], 0, s, []⟩]
  | asg o n t, b => t.row b ++ [⟨o, 0, n, [t.root b]⟩]
  | un o t, b => t.row b ++ [⟨117 :: o, 0, [], [t.root b]⟩]
  | cnd x y z, b => x.row b ++ (y.row (b + x.sz) ++ (z.row (b + x.sz + y.sz) ++ [⟨[63], 0, [], [x.root b, y.root (b + x.sz), z.root (b + x.sz + y.sz)]⟩]))
  | bin o x y, b => x.row b ++ (y.row (b + x.sz) ++ [⟨o, 0, [], [x.root b, y.root (b + x.sz)]⟩])
/-- A name, not too long. -/
def Nm (s : Bytes) : Prop := nameV s = true ∧ s.length ≤ 140737488355328
def ok : Tr → Prop
  | num n => 0 ≤ n ∧ n ≤ 9223372036854775807
  | var s => Nm s
  | asg o n t => o ∈ asgL ∧ Nm n ∧ t.ok
  | un o t => o ∈ unL ∧ t.ok
  | cnd a b c => a.ok ∧ b.ok ∧ c.ok
  | bin o a b => 0 < levelV o ∧ a.ok ∧ b.ok
theorem sz_pos (t : Tr) : 0 < t.sz := by cases t <;> simp [sz]
theorem row_len : ∀ (t : Tr) (b : Nat), (t.row b).length = t.sz
  | num _, _ => rfl
  | var _, _ => rfl
  | asg o n t, b => by simp [row, sz, row_len t]
  | un o t, b => by simp [row, sz, row_len t]
  | cnd x y z, b => by simp [row, sz, row_len x, row_len y, row_len z]; omega
  | bin o x y, b => by simp [row, sz, row_len x, row_len y]; omega
end Tr
open Tr
/-! ### what is fit by itself -/
theorem lv_op {o : Bytes} (h : 0 < levelV o) : o ≠ [35] ∧ o ≠ [36] ∧ ¬ o ∈ asgL ∧ ¬ ((o.length : Int) = 2 ∧ ((byte o 0).toNat : Int) = 117 ∧ o.drop 1 ∈ unL) ∧ o ≠ [63] := by
  have h1 := lvl_in h
  revert o
  have : ∀ o, o ∈ opsB → o ≠ [35] ∧ o ≠ [36] ∧ ¬ o ∈ asgL ∧ ¬ ((o.length : Int) = 2 ∧ ((byte o 0).toNat : Int) = 117 ∧ o.drop 1 ∈ unL) ∧ o ≠ [63] := by decide
  intro o _ h1; exact this o h1
theorem asg_op {o : Bytes} (h : o ∈ asgL) : o ≠ [35] ∧ o ≠ [36] := by revert o; decide
theorem un_op {o : Bytes} (h : o ∈ unL) : 117 :: o ≠ [35] ∧ 117 :: o ≠ [36] ∧ ¬ (117 :: o) ∈ asgL ∧ ((117 :: o).length : Int) = 2 := by revert o; decide
theorem form_num {n : Int} {ks : List Int} (h : 0 ≤ n) (hk : ks = []) : formP ⟨[35], n, [], ks⟩ = true := by subst hk; simp [formP, h]
theorem form_var {s : Bytes} (h : nameV s = true) : formP ⟨[36], 0, s, []⟩ = true := by simp [formP, h]
theorem form_asg {o n : Bytes} {k : Int} (ho : o ∈ asgL) (h : nameV n = true) : formP ⟨o, 0, n, [k]⟩ = true := by
  have := asg_op ho; simp [formP, this, ho, h]
theorem form_un {o : Bytes} {k : Int} (ho : o ∈ unL) : formP ⟨117 :: o, 0, [], [k]⟩ = true := by
  obtain ⟨h1, h2, h3, h4⟩ := un_op ho
  unfold formP
  rw [if_neg h1, if_neg h2, if_neg h3, if_pos ⟨h4, rfl, ho⟩]; rfl
theorem form_ite {a b c : Int} : formP ⟨[63], 0, [], [a, b, c]⟩ = true := by
  unfold formP
  rw [if_neg (by simp), if_neg (by simp), if_neg (by show ¬ [63] ∈ asgL; decide), if_neg (by simp), if_pos rfl]; rfl
theorem form_bin {o : Bytes} {a b : Int} (h : 0 < levelV o) : formP ⟨o, 0, [], [a, b]⟩ = true := by
  obtain ⟨h1, h2, h3, h4, h5⟩ := lv_op h
  unfold formP
  rw [if_neg h1, if_neg h2, if_neg h3, if_neg h4, if_neg h5, decide_eq_true h]; rfl
/-! ### a tree's row is fit -/
theorem fit_node {x : Nd} {l : List Nd} {i k : Nat} {st st0 : List Int} (hf : formP x = true) (hs : st = st0 ++ x.kids) (hk : x.kids.length = k) : fitF (x :: l) i st = fitF l (i + 1) (st0 ++ [(i : Int)]) := by
  subst hs
  rw [fitF, if_pos ⟨hf, by simp, by simp⟩]
  simp
theorem fit_row : ∀ (t : Tr) (b : Nat) (l : List Nd) (st : List Int), t.ok → fitF (t.row b ++ l) b st = fitF l (b + t.sz) (st ++ [t.root b])
  | num n, b, l, st, h => by
    show fitF (_ :: l) b st = _
    rw [fit_node (form_num h.1 rfl) (List.append_nil st).symm rfl]; rfl
  | var s, b, l, st, h => by
    show fitF (_ :: l) b st = _
    rw [fit_node (form_var h.1) (List.append_nil st).symm rfl]; rfl
  | asg o n t, b, l, st, h => by
    rw [row, List.append_assoc, fit_row t b _ st h.2.2, List.singleton_append, fit_node (form_asg h.1 h.2.1.1) rfl rfl]
    simp only [root, sz]; congr 1
  | un o t, b, l, st, h => by
    rw [row, List.append_assoc, fit_row t b _ st h.2, List.singleton_append, fit_node (form_un h.1) rfl rfl]
    simp only [root, sz]; congr 1
  | cnd x y z, b, l, st, h => by
    rw [row, List.append_assoc, fit_row x b _ st h.1, List.append_assoc, fit_row y _ _ _ h.2.1, List.append_assoc, fit_row z _ _ _ h.2.2, List.singleton_append, fit_node (st0 := st) form_ite (by simp) rfl]
    simp only [root, sz]; congr 1; · omega
    congr 2; omega
  | bin o x y, b, l, st, h => by
    rw [row, List.append_assoc, fit_row x b _ st h.2.1, List.append_assoc, fit_row y _ _ _ h.2.2, List.singleton_append, fit_node (st0 := st) (form_bin h.1) (by simp) rfl]
    simp only [root, sz]; congr 1; · omega
    congr 2; omega
/-! ### a fit row is a tree's -/
def rows : List Tr → Nat → List Nd
  | [], _ => []
  | t :: ts, b => t.row b ++ rows ts (b + t.sz)
theorem tree_fitV {t : Tr} (h : t.ok) (hs : t.sz ≤ 1000) : fitV (t.row 0) = true := by
  unfold fitV
  have h1 := fit_row t 0 [] [] h
  rw [List.append_nil] at h1
  rw [h1, row_len, decide_eq_true ⟨t.sz_pos, hs⟩]; rfl
theorem tree_num : ∀ (t : Tr) (b : Nat), t.ok → ∀ x, x ∈ t.row b → x.num ≤ 9223372036854775807
  | num n, b, h, x, hx => by rw [List.mem_singleton.1 hx]; exact h.2
  | var s, b, h, x, hx => by rw [List.mem_singleton.1 hx]; show (0 : Int) ≤ _; omega
  | asg o n t, b, h, x, hx => by
    rcases List.mem_append.1 hx with hx | hx
    · exact tree_num t b h.2.2 x hx
    · rw [List.mem_singleton.1 hx]; show (0 : Int) ≤ _; omega
  | un o t, b, h, x, hx => by
    rcases List.mem_append.1 hx with hx | hx
    · exact tree_num t b h.2 x hx
    · rw [List.mem_singleton.1 hx]; show (0 : Int) ≤ _; omega
  | cnd p q r, b, h, x, hx => by
    rcases List.mem_append.1 hx with hx | hx
    · exact tree_num p b h.1 x hx
    rcases List.mem_append.1 hx with hx | hx
    · exact tree_num q _ h.2.1 x hx
    rcases List.mem_append.1 hx with hx | hx
    · exact tree_num r _ h.2.2 x hx
    · rw [List.mem_singleton.1 hx]; show (0 : Int) ≤ _; omega
  | bin o p q, b, h, x, hx => by
    rcases List.mem_append.1 hx with hx | hx
    · exact tree_num p b h.2.1 x hx
    rcases List.mem_append.1 hx with hx | hx
    · exact tree_num q _ h.2.2 x hx
    · rw [List.mem_singleton.1 hx]; show (0 : Int) ≤ _; omega
/-! ### a tree's text -/
def str : Tr → Bytes
  | num n => decT n.toNat
  | var s => s
  | asg o n t => ((([40] ++ n) ++ o) ++ str t) ++ [41]
  | un o t => (([40] ++ o) ++ str t) ++ [41]
  | cnd a b c => ((((([40] ++ str a) ++ [63]) ++ str b) ++ [58]) ++ str c) ++ [41]
  | bin o a b => ((([40] ++ str a) ++ o) ++ str b) ++ [41]
theorem print_node {x : Nd} {l : List Nd} {st st0 ks : List Bytes} (hs : st = st0 ++ ks) (hk : x.kids.length = ks.length) : printF (x :: l) st = printF l (st0 ++ [nodeT x ks]) := by
  subst hs
  rw [printF, hk, show (st0 ++ ks).length - ks.length = st0.length by simp, List.take_left, List.drop_left]
theorem print_row : ∀ (t : Tr) (b : Nat) (l : List Nd) (st : List Bytes), t.ok → printF (t.row b ++ l) st = printF l (st ++ [str t])
  | num n, b, l, st, h => by
    show printF (_ :: l) st = _
    rw [print_node (ks := []) (List.append_nil st).symm rfl]; rfl
  | var s, b, l, st, h => by
    show printF (_ :: l) st = _
    rw [print_node (ks := []) (List.append_nil st).symm rfl]; rfl
  | asg o n t, b, l, st, h => by
    rw [row, List.append_assoc, print_row t b _ st h.2.2, List.singleton_append, print_node (ks := [str t]) rfl rfl]
    have h1 := asg_op h.1
    have h2 : o ≠ [63] := fun e => by have := h.1; rw [e] at this; exact absurd this (by decide)
    have h3 : n ≠ [] := fun e => by have := h.2.1.1; rw [e] at this; cases this
    unfold nodeT
    rw [if_neg h1.1, if_neg h1.2, if_neg h2, if_neg (by simp), if_pos h3]; rfl
  | un o t, b, l, st, h => by
    rw [row, List.append_assoc, print_row t b _ st h.2, List.singleton_append, print_node (ks := [str t]) rfl rfl]
    have h1 := un_op h.1
    unfold nodeT
    rw [if_neg h1.1, if_neg h1.2.1, if_neg (by simp), if_neg (by simp), if_neg (by simp)]; rfl
  | cnd x y z, b, l, st, h => by
    rw [row, List.append_assoc, print_row x b _ st h.1, List.append_assoc, print_row y _ _ _ h.2.1, List.append_assoc, print_row z _ _ _ h.2.2, List.singleton_append, print_node (st0 := st) (ks := [str x, str y, str z]) (by simp) rfl]
    unfold nodeT
    rw [if_neg (by simp), if_neg (by simp), if_pos rfl]; rfl
  | bin o x y, b, l, st, h => by
    rw [row, List.append_assoc, print_row x b _ st h.2.1, List.append_assoc, print_row y _ _ _ h.2.2, List.singleton_append, print_node (st0 := st) (ks := [str x, str y]) (by simp) rfl]
    obtain ⟨h1, h2, h3, h4, h5⟩ := lv_op h.1
    unfold nodeT
    rw [if_neg h1, if_neg h2, if_neg h5, if_pos (by rfl)]; rfl
theorem printV_tree {t : Tr} (h : t.ok) : printV (t.row 0) = str t := by
  have h1 := print_row t 0 [] [] h
  rw [List.append_nil] at h1
  unfold printV; rw [h1]; rfl
end Go.Proofs.YtmbbhgglllfelaaGreatDoor.K
