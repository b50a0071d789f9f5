/- Reading expressions: what is meant; the reader's small methods. -/
import Derived.Test.YtmbbhgglllfelaaDoorBk
import Derived.Test.YtmbbhgglllfelaaDoorKitN
set_option linter.unusedVariables false
set_option linter.unusedSimpArgs false
set_option autoImplicit false
set_option maxRecDepth 20000
namespace Go.Proofs.YtmbbhgglllfelaaDoor.K
open Go Go.Proofs Go.RowKit

/-- An operation. -/
structure Nd where
  op : Bytes
  num : Int
  name : Bytes
  kids : List Int
deriving DecidableEq
def ndE : Enc Nd where
  sz := 4
  pos := by omega
  R := fun w D x vs => ∃ K c, vs = [S x.op, .int .i64 x.num, S x.name, .slice K x.kids.length c] ∧ x.kids.length ≤ c ∧ c ≤ 9223372036854775807 ∧ Sl (iE .i64) w D K x.kids
  len := fun ⟨_, _, h, _⟩ => by rw [h]; rfl
  one := fun ⟨_, _, h, _⟩ u hu => by rw [h] at hu; simp at hu; rcases hu with rfl | rfl | rfl | rfl <;> rfl
  tr := fun ⟨K, c, h1, h2, h3, h4⟩ he hs => ⟨K, c, h1, h2, h3, h4.keep he hs⟩
  mono := fun ⟨K, c, h1, h2, h3, h4⟩ hm => ⟨K, c, h1, h2, h3, h4.mono hm⟩
/-- What a reader comes to. -/
inductive PR where
  | bad (e a : Int)
  | good (k : Int) (ts : List Tk) (out : List Nd)
inductive NT where
  | asg
  | cho
  | lev (n : Nat)
  | lop (n : Nat) (k : Int)
  | trm
def PR.bind (r : Option PR) (f : Int → List Tk → List Nd → Option PR) : Option PR := match r with
  | none => none
  | some (.bad e a) => some (.bad e a)
  | some (.good k ts out) => f k ts out
def hdT (ts : List Tk) : Tk := ts.headD ((0, 0, []), 0)
def inOp (ts : List Tk) (l : List Bytes) : Bool := decide ((hdT ts).1.1 = 3) && l.contains (hdT ts).1.2.2
def asgL : List Bytes := [[61], [43, 61], [45, 61], [42, 61], [47, 61], [37, 61], [60, 60, 61], [62, 62, 61], [38, 61], [94, 61], [124, 61]]
def lvls : List (List Bytes) := [[[124, 124]], [[38, 38]], [[124]], [[94]], [[38]], [[61, 61], [33, 61]], [[60], [60, 61], [62], [62, 61]], [[60, 60], [62, 62]], [[43], [45]], [[42], [47], [37]]]
def unL : List Bytes := [[43], [45], [33], [126]]
def isAsg (ts : List Tk) : Bool := decide ((hdT ts).1.1 = 2) && inOp (ts.drop 1) asgL
def wI (p : NT → Nat → List Tk → List Nd → Option PR) (nt : NT) (d : Nat) (ts : List Tk) (out : List Nd) : Option PR :=
  if 64 < d + 1 then some (.bad 104 (hdT ts).2) else p nt (d + 1) ts out
/-- The reading of expressions: how deep, the tokens, what was put out. -/
def pP : Nat → NT → Nat → List Tk → List Nd → Option PR
  | 0, _, _, _, _ => none
  | f + 1, .asg, d, ts, out =>
    if isAsg ts = true then PR.bind (wI (pP f) .asg d (ts.drop 2) out) fun k ts' out' => some (.good (out'.length : Nat) ts' (out' ++ [⟨(hdT (ts.drop 1)).1.2.2, 0, (hdT ts).1.2.2, [k]⟩]))
    else wI (pP f) .cho d ts out
  | f + 1, .cho, d, ts, out =>
    PR.bind (pP f (.lev 0) d ts out) fun k ts1 out1 =>
      if inOp ts1 [[63]] = true then PR.bind (wI (pP f) .asg d (ts1.drop 1) out1) fun a ts2 out2 =>
        if inOp ts2 [[58]] = true then PR.bind (wI (pP f) .cho d (ts2.drop 1) out2) fun c ts3 out3 => some (.good (out3.length : Nat) ts3 (out3 ++ [⟨[63], 0, [], [k, a, c]⟩]))
        else some (.bad 101 (hdT ts2).2)
      else some (.good k ts1 out1)
  | f + 1, .lev n, d, ts, out =>
    if n = 10 then wI (pP f) .trm d ts out
    else PR.bind (pP f (.lev (n + 1)) d ts out) fun k ts1 out1 => pP f (.lop n k) d ts1 out1
  | f + 1, .lop n k, d, ts, out =>
    if inOp ts (lvls.getD n []) = true then PR.bind (pP f (.lev (n + 1)) d (ts.drop 1) out) fun k2 ts2 out2 => pP f (.lop n (out2.length : Nat)) d ts2 (out2 ++ [⟨(hdT ts).1.2.2, 0, [], [k, k2]⟩])
    else some (.good k ts out)
  | f + 1, .trm, d, ts, out =>
    if (hdT ts).1.1 = 1 then some (.good (out.length : Nat) (ts.drop 1) (out ++ [⟨[35], (hdT ts).1.2.1, [], []⟩]))
    else if (hdT ts).1.1 = 2 then some (.good (out.length : Nat) (ts.drop 1) (out ++ [⟨[36], 0, (hdT ts).1.2.2, []⟩]))
    else if inOp ts unL = true then PR.bind (wI (pP f) .trm d (ts.drop 1) out) fun k ts' out' => some (.good (out'.length : Nat) ts' (out' ++ [⟨117 :: (hdT ts).1.2.2, 0, [], [k]⟩]))
    else if inOp ts [[40]] = true then PR.bind (wI (pP f) .asg d (ts.drop 1) out) fun k ts' out' =>
      if inOp ts' [[41]] = true then some (.good k (ts'.drop 1) out') else some (.bad 101 (hdT ts').2)
    else some (.bad 101 (hdT ts).2)
/-- Tokens with the end last, and nowhere else. -/
def WfT : List Tk → Prop
  | [] => False
  | [x] => x.1.1 = 0
  | x :: y :: l => x.1.1 ≠ 0 ∧ WfT (y :: l)
theorem WfT.ne {ts : List Tk} (h : WfT ts) : ∃ x tl, ts = x :: tl := by
  cases ts with
  | nil => exact h.elim
  | cons x tl => exact ⟨x, tl, rfl⟩
theorem WfT.tl {x : Tk} {tl : List Tk} (h : WfT (x :: tl)) (hx : x.1.1 ≠ 0) : WfT tl := by
  cases tl with
  | nil => exact absurd h hx
  | cons y l => exact h.2
def RdC (At : Option Addr) (nt capt : Nat) (Ao : Option Addr) (no capo : Nat) (deep pl e : Int) : List Value := [.slice At nt capt, .slice Ao no capo, .int .i64 deep, .int .i64 pl, .int .i64 e]
/-- A reader in memory. -/
def RdAt (D Dt : Nat → Prop) (w : World) (b : Nat) (ts : List Tk) (out : List Nd) (deep pl e : Int) : Prop :=
  ∃ At capt Ao capo, Blk w b [.slice At ts.length capt, .slice Ao out.length capo, .int .i64 deep, .int .i64 pl, .int .i64 e] 64 ∧ Sl tkE w Dt At ts ∧ ts.length ≤ capt ∧ Own ndE 72 w D Ao capo out
/-- How a reader's method ends. -/
def RPost (D Dt : Nat → Prop) (b : Nat) (ts : List Tk) (out : List Nd) (deep pl : Int) (w : World) (v : Value) (w' : World) : PR → Prop
  | .good k ts' out' => v = .int .i64 k ∧ RdAt D Dt w' b ts' out' deep pl 0 ∧ WfT ts' ∧ (ts'.length ≤ ts.length ∧ out'.length + ts'.length ≤ out.length + ts.length) ∧ ChgP (fun k => D k ∨ k = b) w w'
  | .bad e a => e ≠ 0 ∧ (∃ k, v = .int .i64 k) ∧ (∃ ts' out', ts' ≠ [] ∧ out'.length + ts'.length ≤ out.length + ts.length ∧ RdAt D Dt w' b ts' out' deep a e) ∧ ChgP (fun k => D k ∨ k = b) w w'
theorem sl_skip {w : World} {Dt : Nat → Prop} {At : Option Addr} {ts : List Tk} {capt n : Nat} (hs : Sl tkE w Dt At ts) (hct : ts.length ≤ capt) : Sl tkE w Dt (if capt = n then At else At.map (·.add (n * 4))) (ts.drop n) := by
  by_cases h : capt = n
  · subst h; exact .inl (List.drop_of_length_le hct)
  · rw [if_neg h]; exact hs.drop n

theorem fail_spec {Dt : Nat → Prop} {w : World} {b : Nat} {x : Tk} {tl : List Tk} {At Ao : Option Addr} {no capt capo : Nat} {deep pl e : Int} (e2 : Int) (hb : Blk w b [.slice At (x :: tl).length capt, .slice Ao no capo, .int .i64 deep, .int .i64 pl, .int .i64 e] 64) (hs : Sl tkE w Dt At (x :: tl)) (hDtb : ¬ Dt b) (hDtn : ∀ k, w.heap.size ≤ k → ¬ Dt k) :
    CallR Tryd.prog 46 #[.pointer (some ⟨b, 0, none⟩), .int .i64 e2] w fun v w' => v = .tuple ⟨[]⟩ ∧ Blk w' b [.slice At (x :: tl).length capt, .slice Ao no capo, .int .i64 deep, .int .i64 (if e = 0 then x.2 else pl), .int .i64 (if e = 0 then e2 else e)] 64 ∧ Chg [b] w w' := by
 refine callR_of_wp (args := [_, _]) Tryd.func46 rfl (Nat.le_of_ble_eq_true rfl) ?_
 have HC : Chg [b] w w := .refl _
 refine sr rfl <| mP rfl <| nc rfl <| fa T.fld64_4 rfl <| lI T.one22 rfl (hb.cell rfl) <| Wp rfl <| st_eql rfl rfl <| en <| x_cond rfl (fun h0 => ?_) (fun h0 => ?_)
 ·try simp only [nm, ne_eq] at h0
  refine x_region rfl <| mP rfl <| mP rfl <| mI rfl <| mP rfl <| nc rfl <| fa T.fld64_0 rfl <| lL T.one59 rfl (hb.cell rfl) ?_
  obtain ⟨lb5, _, vs4, hA1, hR3, hC2⟩ := hs.at (i := 0) (x := x) (rfl)
  obtain rfl : vs4 = tokC x.1 x.2 := hR3
  refine Wp rfl <| st_indexAddr T.u59 T.size68 (congrArg (fun z => Value.slice z _ _) hA1) rfl (by decide) (by simp) <| fa T.fld68_3 rfl <| lI T.one3 rfl (hC2.at (j := 3) rfl) <| nc rfl <| fa T.fld64_4 rfl <| Wp rfl <| st_store (v := .int _ _) T.size22 rfl rfl rfl hb rfl (Nat.le_of_ble_eq_true rfl) (by simp [Value.oneCell', S]) rfl ?_
  intro w6 c7 hb8; simp only [setVs, setV] at hb8
  clear hb
  replace HC := HC.trans c7 (by intro x hx; simp only [List.mem_singleton] at hx; subst hx; exact .inl (by simp))
  replace hs := hs.tr c7 (by intro k hx hD; obtain rfl := List.mem_singleton.1 hx; first | exact hDtb hD | exact absurd hD (hDtn _ ge_b))
  refine nc rfl <| fa T.fld64_3 rfl <| Wp rfl <| st_store (v := .int _ _) T.size3 rfl rfl rfl hb8 rfl (Nat.le_of_ble_eq_true rfl) (by simp [Value.oneCell', S]) rfl ?_
  intro w9 c10 hb11; simp only [setVs, setV] at hb11
  clear hb8
  replace HC := HC.trans c10 (by intro x hx; simp only [List.mem_singleton] at hx; subst hx; exact .inl (by simp))
  replace hs := hs.tr c10 (by intro k hx hD; obtain rfl := List.mem_singleton.1 hx; first | exact hDtb hD | exact absurd hD (hDtn _ ge_b))
  refine wops_nil <| ret_none_n rfl <| ⟨rfl, ?_, HC⟩
  rw [if_pos h0, if_pos h0]
  exact hb11
 ·try simp only [nm, ne_eq] at h0
  refine x_skip <| ret_none_n rfl <| ⟨rfl, ?_, HC⟩
  rw [if_neg h0, if_neg h0]
  exact hb

theorem skip_spec {Dt : Nat → Prop} {w : World} {b : Nat} {ts : List Tk} {At Ao : Option Addr} {no capt capo : Nat} {deep pl e : Int} (n : Nat) (hn : n ≤ ts.length) (hb : Blk w b [.slice At ts.length capt, .slice Ao no capo, .int .i64 deep, .int .i64 pl, .int .i64 e] 64) (hs : Sl tkE w Dt At ts) (hct : ts.length ≤ capt) (hDtb : ¬ Dt b) :
    CallR Tryd.prog 55 #[.pointer (some ⟨b, 0, none⟩), .int .i64 (n : Int)] w fun v w' => v = .tuple ⟨[]⟩ ∧ (∃ At' capt', Blk w' b [.slice At' (ts.drop n).length capt', .slice Ao no capo, .int .i64 deep, .int .i64 pl, .int .i64 e] 64 ∧ Sl tkE w' Dt At' (ts.drop n) ∧ (ts.drop n).length ≤ capt') ∧ Chg [b] w w' := by
 refine callR_of_wp (args := [_, _]) Tryd.func55 rfl (Nat.le_of_ble_eq_true rfl) ?_
 have HC : Chg [b] w w := .refl _
 refine x_region rfl <| mP rfl <| mP rfl <| nc rfl <| fa T.fld64_0 rfl <| lL T.one59 rfl (hb.cell rfl) <| mI rfl <| Wp rfl <| st_slice (i := n) (j := _) T.u59 T.size68 rfl ⟨_, rfl⟩ (by rfl) (by omega) (by omega) <| nc rfl <| fa T.fld64_0 rfl <| Wp rfl <| st_store (v := .slice _ _ _) T.size59 rfl rfl rfl hb rfl (Nat.le_of_ble_eq_true rfl) (by simp [Value.oneCell', S]) rfl ?_
 intro w1 c2 hb3; simp only [setVs, setV] at hb3
 clear hb
 replace HC := HC.trans c2 (by intro x hx; simp only [List.mem_singleton] at hx; subst hx; exact .inl (by simp))
 replace hs := hs.tN c2 hDtb
 refine wops_nil <| ret_none_n rfl <| ⟨rfl, ⟨_, capt - n, ?_, sl_skip hs hct, ?_⟩, HC⟩
 · rw [List.length_drop]; exact hb3
 · rw [List.length_drop]; omega

theorem idx_in {l : List Bytes} {s : Bytes} : (0 ≤ findN (fun x => decide (x = s)) 0 l) ↔ s ∈ l := by
  have h := find_findN (q := fun x => decide (x = s)) l 0
  cases hx : l.find? (fun x => decide (x = s)) with
  | none =>
    rw [h.1 hx]
    constructor
    · intro h; omega
    · intro hm; have := List.find?_eq_none.1 hx s hm; simp at this
  | some y =>
    obtain ⟨j, h1, h2⟩ := h.2 y hx
    have h3 := List.find?_some hx
    simp only [decide_eq_true_eq] at h3
    subst h3
    exact ⟨fun _ => List.mem_of_getElem? h2, fun _ => by rw [h1]; omega⟩

theorem Index_spec {w : World} {l : List Bytes} {Al : Option Addr} {capl : Nat} {D : Nat → Prop} (s : Bytes) (hl : Sl sE w D Al l) (hlen : l.length ≤ 9223372036854775807) :
    CallR Tryd.prog 81 #[.slice Al l.length capl, S s] w fun v w' => v = .int .i64 (findN (fun x => decide (x = s)) 0 l) ∧ Chg [] w w' := by
 refine callR_of_wp (args := [_, _]) Tryd.func81 rfl (Nat.le_of_ble_eq_true rfl) ?_
 have HC : Chg [] w w := .refl _
 refine sr rfl <| aI rfl <| en <| x_seq <| sr rfl <| mL rfl <| Wp rfl <| st_len (ct := #[92]) (by rw [show ((#[92] : Array TypeId)[0]?).bind Tryd.prog.underlying = some (.slice 9) from T.u92]; rfl) rfl <| mI rfl <| en <| x_block <| x_loop (ι := Nat) [4, 5, 8, 9, 10, 11, 12, 13, 14, 15, 16, 17, 18] (fun i => [(8, .int .i64 (i : Int))]) (fun i W => (i ≤ l.length ∧ findN (fun x => decide (x = s)) 0 l = findN (fun x => decide (x = s)) i (l.drop i)) ∧ (Chg [] w W) ∧ (Sl sE W D Al l)) (fun i => l.length - i) 0 ?_ ?_ ?_
 · exact ⟨rfl, trivial⟩
 ·refine ⟨?_, HC, hl⟩
  exact ⟨Nat.zero_le _, by simp⟩
 intro i G2 w1 ⟨⟨hi, hr⟩, HC, hl⟩
 change wp _ _ _ _ _ (upds (over _ _ G2) [(8, .int .i64 (i : Int))]) _ _
 refine sr rfl <| Wp rfl <| st_lss rfl rfl <| en <| x_seq <| x_cond rfl (fun h0 => ?_) (fun h0 => ?_)
 ·try simp only [nm, ne_eq] at h0
  refine x_skip <| then_n <| x_seq <| x_block <| sr rfl <| mI rfl <| aI rfl <| en <| sr rfl <| mS rfl <| mL rfl <| mI rfl ?_
  obtain ⟨x3, hx4⟩ : ∃ zz, l[i]? = some zz := ⟨_, List.getElem?_eq_getElem (by omega)⟩
  obtain ⟨lb9, _, vs8, hA5, hR7, hC6⟩ := hl.at hx4
  obtain rfl : vs8 = [S x3] := hR7
  refine Wp rfl <| st_indexAddr T.u92 T.size9 (congrArg (fun z => Value.slice z _ _) hA5) rfl (by omega) (by omega) <| lS T.one9 rfl (hC6.at (j := 0) rfl) <| Wp rfl <| st_seql rfl rfl <| en <| x_cond rfl (fun h1 => ?_) (fun h1 => ?_)
  ·try simp only [nm, ne_eq] at h1
   refine sr rfl <| mI rfl <| aI rfl <| en <| x_ret <| block_r <| then_r <| then_r <| block_r <| then_r <| ret_tmp (v := .int _ _) rfl rfl <| ⟨?_, HC⟩
   rw [hr, findN_off hx4 (decide_eq_true h1.symm)]
  ·try simp only [nm, ne_eq] at h1
   refine x_skip <| block_n <| then_n <| x_region rfl <| Wp rfl <| st_addn rfl rfl (by constructor <;> omega) <| mI rfl <| en <| ⟨i + 1, ?_, ?_, rfl, ⟨rfl, trivial⟩, ?_⟩
   ·refine ⟨?_, HC, hl⟩
    exact ⟨by omega, by rw [hr, findN_on hx4 (decide_eq_false (fun e => h1 e.symm))]⟩
   ·show l.length - (i + 1) < l.length - i; omega
   repeat (first | exact agree_upds agree_over rfl | refine agree_upd ?_ rfl | refine agree_upds ?_ rfl | refine agree_over_sub ?_ rfl)
 ·try simp only [nm, ne_eq] at h0
  refine x_exit <| then_x <| then_x <| block_x <| then_n <| sr rfl <| aI rfl <| en <| x_ret <| ret_tmp (v := .int _ _) rfl rfl <| ⟨?_, HC⟩
  rw [hr, findN_end (by omega)]

theorem Contains_spec {w : World} {l : List Bytes} {Al : Option Addr} {capl : Nat} {D : Nat → Prop} (s : Bytes) (hl : Sl sE w D Al l) (hlen : l.length ≤ 9223372036854775807) :
    CallR Tryd.prog 64 #[.slice Al l.length capl, S s] w fun v w' => v = .bool (decide (s ∈ l)) ∧ Chg [] w w' := by
 refine callR_of_wp (args := [_, _]) Tryd.func64 rfl (Nat.le_of_ble_eq_true rfl) ?_
 have HC : Chg [] w w := .refl _
 refine sr rfl <| aB rfl <| en <| sr rfl <| mL rfl <| mS rfl <| Wp rfl <| st_call (ags := [_, _]) rfl rfl T.ent81 rfl (Index_spec s hl hlen) ?_
 rintro _ w1 ⟨rfl, c2⟩
 replace HC := HC.then c2
 replace hl := hl.tr0 c2
 refine Wp rfl <| st_geq rfl rfl <| aB rfl <| en <| x_ret <| ret_tmp (v := .bool _) rfl rfl ?_
 exact ⟨congrArg Value.bool (by rw [decide_eq_decide]; exact idx_in), HC⟩

theorem take_spec {Dt : Nat → Prop} {w : World} {b : Nat} {x : Tk} {tl : List Tk} {At Ao : Option Addr} {no capt capo : Nat} {deep pl e : Int} {l : List Bytes} {Al : Option Addr} {capl : Nat} {Dl : Nat → Prop} (hb : Blk w b [.slice At (x :: tl).length capt, .slice Ao no capo, .int .i64 deep, .int .i64 pl, .int .i64 e] 64) (hs : Sl tkE w Dt At (x :: tl)) (hDtb : ¬ Dt b) (hDtn : ∀ k, w.heap.size ≤ k → ¬ Dt k) (hct : (x :: tl).length ≤ capt) (hl : Sl sE w Dl Al l) (hlen : l.length ≤ 9223372036854775807) :
    CallR Tryd.prog 67 #[.pointer (some ⟨b, 0, none⟩), .slice Al l.length capl] w fun v w' => (((e = 0 ∧ x.1.1 = 3 ∧ x.1.2.2 ∈ l) ∧ v = .tuple ⟨[S x.1.2.2, .bool true]⟩ ∧ ∃ At' capt', Blk w' b [.slice At' tl.length capt', .slice Ao no capo, .int .i64 deep, .int .i64 pl, .int .i64 e] 64 ∧ Sl tkE w' Dt At' tl ∧ tl.length ≤ capt') ∨ (¬ (e = 0 ∧ x.1.1 = 3 ∧ x.1.2.2 ∈ l) ∧ v = .tuple ⟨[S [], .bool false]⟩ ∧ Blk w' b [.slice At (x :: tl).length capt, .slice Ao no capo, .int .i64 deep, .int .i64 pl, .int .i64 e] 64 ∧ Sl tkE w' Dt At (x :: tl))) ∧ Chg [b] w w' := by
 refine callR_of_wp (args := [_, _]) Tryd.func67 rfl (Nat.le_of_ble_eq_true rfl) ?_
 have HC : Chg [b] w w := .refl _
 refine sr rfl <| aS rfl <| aB rfl <| en <| sr rfl <| mP rfl <| nc rfl <| fa T.fld64_0 rfl <| lL T.one59 rfl (hb.cell rfl) ?_
 obtain ⟨lb5, _, vs4, hA1, hR3, hC2⟩ := hs.at (i := 0) (x := x) (rfl)
 obtain rfl : vs4 = tokC x.1 x.2 := hR3
 refine Wp rfl <| st_indexAddr T.u59 T.size68 (congrArg (fun z => Value.slice z _ _) hA1) rfl (by decide) (by simp) <| Wp rfl <| st_loadA (vs := [_, _, _, _]) T.agg68 rfl hC2 rfl <| Wp rfl <| st_alloc T.zero68 ?_
 intro b6 w6 e7 c8 hb9
 have ge_b6 : w.heap.size ≤ b6 := by rw [e7]; exact HC.size
 have ne_b_b6 : b ≠ b6 := by rw [e7]; exact hb.ne_size
 have nf_hl_b6 : l = [] ∨ b6 ∉ ob (Al) := hl.fresh (by rw [e7]; exact Nat.le_refl _)
 replace HC := HC.then c8
 replace hb := hb.tr0 c8
 replace hs := hs.tr0 c8
 replace hl := hl.tr0 c8
 clear e7
 refine Wp rfl <| st_store (v := .agg ⟨[.int _ _, .int _ _, S _, .int _ _]⟩) T.size68 rfl rfl rfl hb9 rfl (Nat.le_of_ble_eq_true rfl) (by simp [Value.oneCell', S]) rfl ?_
 intro w10 c11 hb12; simp only [setVs, setV] at hb12
 clear hb9
 replace HC := HC.then1 c11 ge_b6
 replace hb := hb.tr1 c11 ne_b_b6
 replace hs := hs.tr c11 (by intro k hx hD; obtain rfl := List.mem_singleton.1 hx; first | exact hDtb hD | exact absurd hD (hDtn _ ge_b6))
 replace hl := hl.trF flat_flat c11 (by intro k hx; simp only [List.mem_singleton] at hx; subst hx; exact nf_hl_b6)
 refine en <| x_seq <| sr rfl <| mP rfl <| nc rfl <| fa T.fld64_4 rfl <| lI T.one22 rfl (hb.cell rfl) <| Wp rfl <| st_neq rfl rfl <| mB rfl <| w_split (d := 18) rfl (fun g13 => ?_) (fun g13 => ?_)
 ·try simp only [nm, ne_eq] at g13
  iterate 3 refine w_no 5 18 false ?_
  refine pT rfl rfl <| mB rfl ?_
  iterate 5 refine w_no 10 23 false ?_
  refine pT rfl rfl <| en <| x_cond (t := true) rfl (fun h0 => ?_) (fun h0 => ?_)
  rotate_left
  · exact absurd h0 (by decide)
  refine sr rfl <| aS rfl <| aB rfl <| en <| x_ret <| then_r <| ret_tmp2 (v := S _) (v2 := .bool _) rfl rfl rfl <| ⟨.inr ⟨?_, rfl, hb, hs⟩, HC⟩
  rintro ⟨a1, a2, a3⟩; first | (revert a1; assumption) | (revert a2; assumption) | exact absurd a3 (by assumption)
 ·try simp only [nm, ne_eq] at g13
  refine w_yes 5 18 false <| st_fieldAddr T.fld68_0 rfl <| w_yes 5 18 false <| st_load1 (v := .int _ _) T.one3 rfl (hb12.cell rfl) <| w_yes 5 18 false <| st_neq rfl rfl <| pF rfl rfl <| mB rfl <| w_split (d := 23) rfl (fun g14 => ?_) (fun g14 => ?_)
  ·try simp only [nm, ne_eq] at g14
   iterate 5 refine w_no 10 23 false ?_
   refine pT rfl rfl <| en <| x_cond (t := true) rfl (fun h0 => ?_) (fun h0 => ?_)
   rotate_left
   · exact absurd h0 (by decide)
   refine sr rfl <| aS rfl <| aB rfl <| en <| x_ret <| then_r <| ret_tmp2 (v := S _) (v2 := .bool _) rfl rfl rfl <| ⟨.inr ⟨?_, rfl, hb, hs⟩, HC⟩
   rintro ⟨a1, a2, a3⟩; first | (revert a1; assumption) | (revert a2; assumption) | exact absurd a3 (by assumption)
  ·try simp only [nm, ne_eq] at g14
   refine w_yes 10 23 false <| st_move (v := .slice _ _ _) rfl <| w_yes 10 23 false <| st_fieldAddr T.fld68_2 rfl <| w_yes 10 23 false <| st_load1 (v := S _) T.one9 rfl (hb12.cell rfl) <| w_yes 10 23 false <| st_call (ags := [_, _]) rfl rfl T.ent64 rfl (Contains_spec x.1.2.2 hl hlen) ?_
   rintro _ w15 ⟨rfl, c16⟩
   replace HC := HC.then c16
   replace hb := hb.tr0 c16
   replace hs := hs.tr0 c16
   replace hl := hl.tr0 c16
   replace hb12 := hb12.tr0 c16
   refine w_yes 10 23 false <| st_not rfl <| pF rfl rfl <| en <| x_cond rfl (fun h0 => ?_) (fun h0 => ?_)
   ·try simp only [nm, ne_eq] at h0
    refine sr rfl <| aS rfl <| aB rfl <| en <| x_ret <| then_r <| ret_tmp2 (v := S _) (v2 := .bool _) rfl rfl rfl <| ⟨.inr ⟨?_, rfl, hb, hs⟩, HC⟩
    rintro ⟨a1, a2, a3⟩; first | (revert a1; assumption) | (revert a2; assumption) | exact absurd a3 (by assumption)
   ·try simp only [nm, ne_eq] at h0
    refine x_skip <| then_n <| sr rfl <| mP rfl <| Wp rfl <| st_call (ags := [_, _]) rfl rfl T.ent55 rfl (skip_spec (ts := x :: tl) 1 (by simp) hb hs hct hDtb) ?_
    rintro _ w17 ⟨rfl, ⟨At2, capt2, hb2, hs2, hct2⟩, c18⟩
    replace HC := HC.trans c18 (by intro x hx; simp only [List.mem_singleton] at hx; subst hx; exact .inl (by simp))
    replace hb12 := hb12.tr1 c18 (Ne.symm ne_b_b6)
    refine en <| sr rfl <| fa T.fld68_2 rfl <| lS T.one9 rfl (hb12.cell rfl) <| aS rfl <| aB rfl <| en <| x_ret <| ret_tmp2 (v := S _) (v2 := .bool _) rfl rfl rfl <| ⟨.inl ⟨⟨by assumption, by assumption, by assumption⟩, rfl, At2, capt2, hb2, hs2, hct2⟩, HC⟩

end Go.Proofs.YtmbbhgglllfelaaDoor.K
