import Derived.Test.YtiiahnpgomdfmaaDoorKitS
import Derived.Test.YtiiahnpgomdfmaaDoorTc
import Derived.Test.YtiiahnpgomdfmaaDoorKitF
set_option linter.unusedVariables false
set_option linter.unusedSimpArgs false
set_option autoImplicit false
set_option maxRecDepth 20000
namespace Go.Proofs.YtiiahnpgomdfmaaDoor.K
open Go Go.RowKit

/-- A part of a word. -/
structure Prt where
  kind : Int
  text : Bytes
  name : Bytes
  op : Bytes
  word : Bytes
  quoted : Bool
deriving DecidableEq
def prtC (p : Prt) : List Value := [.int .i64 p.kind, S p.text, S p.name, S p.op, S p.word, .bool p.quoted]
def prtE : Enc Prt := .flat 6 prtC (by omega) (fun _ => rfl) (fun _ u hu => by simp [prtC] at hu; rcases hu with rfl | rfl | rfl | rfl | rfl | rfl <;> rfl)
def txtP (s : Bytes) (q : Bool) : Prt := ⟨0, s, [], [], [], q⟩
def nilP : Prt := ⟨0, [], [], [], [], false⟩
def spcs : Bytes := [64, 42, 35, 63, 45, 36, 33]
/-- How many first bytes are a parameter's name. -/
def namedV : Bytes → Nat
  | [] => 0
  | c :: t => if begB c then runN (fun c => begB c || digB c) (c :: t) else if 0 ≤ idx spcs c then 1 else runN digB (c :: t)
def isParam (s : Bytes) : Bool := !decide (s = []) && decide (namedV s = s.length)
def opsP : List Bytes := [[58, 45], [58, 61], [58, 63], [58, 43], [37, 37], [35, 35], [45], [61], [63], [43], [37], [35]]
def preP (s : Bytes) (o : Bytes) : Bool := Lib.hasPrefix s o
/-- What stands between ${ and }. -/
def paramV (q : Bool) (s : Bytes) : Prt × Int :=
  if Lib.hasPrefix s [35] && isParam (s.drop 1) then (⟨1, [], s.drop 1, [108, 101, 110], [], q⟩, 0)
  else if namedV s = 0 then (nilP, 107)
  else if s.drop (namedV s) = [] then (⟨1, [], s.take (namedV s), [], [], q⟩, 0)
  else if findN (preP (s.drop (namedV s))) 0 opsP < 0 then (nilP, 107)
  else (⟨1, [], s.take (namedV s), opsP.getD (findN (preP (s.drop (namedV s))) 0 opsP).toNat [], (s.drop (namedV s)).drop (opsP.getD (findN (preP (s.drop (namedV s))) 0 opsP).toNat []).length, q⟩, 0)
def hasSuf (s p : Bytes) : Bool := decide (p.length ≤ s.length) && decide (s.drop (s.length - p.length) = p)
/-- What a $ begins, which has n bytes, if it is a substitution: a part, how many bytes, an error. -/
def dollarV (q : Bool) (w : Bytes) (n : Nat) : Prt × Nat × Int :=
  if Lib.hasPrefix w [36, 40, 40] && decide (4 < n) && hasSuf (w.take n) [41, 41] then (⟨3, (w.take (n - 2)).drop 3, [], [], [], q⟩, n, 0)
  else if Lib.hasPrefix w [36, 40] then (⟨2, (w.take (n - 1)).drop 2, [], [], [], q⟩, n, 0)
  else if Lib.hasPrefix w [36, 123] then ((paramV q ((w.take (n - 1)).drop 2)).1, n, (paramV q ((w.take (n - 1)).drop 2)).2)
  else if namedV (w.drop 1) = 0 then (txtP [36] true, 1, 0)
  else if digB (byte w 1) then (⟨1, [], (w.take 2).drop 1, [], [], q⟩, 2, 0)
  else (⟨1, [], (w.take (1 + namedV (w.drop 1))).drop 1, [], [], q⟩, 1 + namedV (w.drop 1), 0)
/-- A command between ticks. -/
def untick : Bytes → Bytes
  | [] => []
  | [c] => [c]
  | c :: d :: t => if c = 92 ∧ (d = 36 ∨ d = 92 ∨ d = 96) then d :: untick t else c :: untick (d :: t)
/-- What a \ begins, where all is quoted. -/
def backV (mode : Int) (w : Bytes) : List Prt × Nat :=
  if Lib.hasPrefix w [92, 10] then ([], 2)
  else if 1 < w.length ∧ (byte w 1 = 36 ∨ byte w 1 = 92 ∨ byte w 1 = 96 ∨ (mode = 1 ∧ byte w 1 = 34)) then ([txtP ((w.take 2).drop 1) true], 2)
  else ([txtP [92] true], 1)
/-- What a word begins with: parts, how many bytes, an error. -/
def nextP (pq : Bytes → List Prt × Int) (mode : Int) (w : Bytes) : List Prt × Nat × Int :=
  let c := byte w 0
  let q := !decide (mode = 0)
  if c = 92 ∧ q = true then ((backV mode w).1, (backV mode w).2, 0)
  else if c ≠ 36 ∧ c ≠ 96 ∧ (q = true ∨ (c ≠ 39 ∧ c ≠ 34 ∧ c ≠ 92)) then ([txtP (w.take 1) q], 1, 0)
  else match skipL 64 w with
  | .error e => ([], 0, e)
  | .ok n =>
    if c = 36 then ([(dollarV q w n).1], (dollarV q w n).2.1, (dollarV q w n).2.2)
    else if c = 39 then ([txtP ((w.take (n - 1)).drop 1) true], n, 0)
    else if c = 34 then (if n = 2 then ([txtP [] true], n, 0) else ((pq ((w.take (n - 1)).drop 1)).1, n, (pq ((w.take (n - 1)).drop 1)).2))
    else if c = 92 then (if (w.take n).drop 1 = [10] ∨ (w.take n).drop 1 = [] then ([], n, 0) else ([txtP ((w.take n).drop 1) true], n, 0))
    else ([⟨2, untick ((w.take (n - 1)).drop 1), [], [], [], q⟩], n, 0)
/-- Parts and one more. -/
def addP (l : List Prt) (p : Prt) : List Prt :=
  match l.getLast? with
  | none => [p]
  | some z => if p.kind = 0 ∧ z.kind = 0 ∧ z.quoted = p.quoted then l.dropLast ++ [{ z with text := z.text ++ p.text }] else l ++ [p]
/-- What reading hands out, one after the other: parts, an error at the end. -/
def partsY (pq : Bytes → List Prt × Int) (mode : Int) : Nat → Bytes → List (Prt × Int)
  | 0, _ => []
  | k + 1, w => if w = [] then [] else
    if (nextP pq mode w).2.2 ≠ 0 then [(nilP, (nextP pq mode w).2.2)]
    else (nextP pq mode w).1.map (·, 0) ++ partsY pq mode k (w.drop (nextP pq mode w).2.1)
def foldY : List Prt → List (Prt × Int) → List Prt × Int
  | l, [] => (l, 0)
  | l, (p, e) :: r => if e ≠ 0 then ([], e) else foldY (addP l p) r
def parsQ (mode : Int) (w : Bytes) : List Prt × Int := foldY [] (partsY (fun _ => ([], 0)) mode w.length w)
def parsV (mode : Int) (w : Bytes) : List Prt × Int :=
  if mode < 0 ∨ 2 < mode then ([], 22) else foldY [] (partsY (parsQ 1) mode w.length w)
end Go.Proofs.YtiiahnpgomdfmaaDoor.K
set_option linter.unusedVariables false
set_option linter.unusedSimpArgs false
set_option autoImplicit false
set_option maxRecDepth 20000
namespace Go.Proofs.YtiiahnpgomdfmaaDoor.K
open Go Go.Proofs Go.RowKit

theorem namedV_of {s : Bytes} (h : s ≠ []) : namedV s = if begB (byte s 0) then runN (fun c => begB c || digB c) s else if 0 ≤ idx spcs (byte s 0) then 1 else runN digB s := by
  cases s with
  | nil => exact absurd rfl h
  | cons c t => rfl
theorem namedV_le (s : Bytes) : namedV s ≤ s.length := by
  by_cases h : s = []
  · subst h; simp [namedV]
  · rw [namedV_of h]
    have := List.length_pos_iff.2 h
    split
    · exact runN_le _ _
    · split
      · omega
      · exact runN_le _ _
def PieceR (w w' : World) (l : List Prt) (n : Int) (v : Value) : Prop := ∃ A cap, v = .agg ⟨[.slice A l.length cap, .int .i64 n]⟩ ∧ Sl prtE w' (fun k => w.heap.size ≤ k) A l ∧ Chg [] w w'
theorem sl_one {w : World} {D : Nat → Prop} {b : Nat} {p : Prt} {T : TypeId} (hb : Blk w b (prtC p) T) (hD : D b) : Sl prtE w D (some ⟨b, 0, none⟩) [p] :=
  .inr ⟨b, 0, rfl, hb.lt, hD, fun i x hx => by
    cases i with
    | zero => cases hx; exact ⟨_, rfl, hb.cells (n := 6) rfl⟩
    | succ i => simp at hx⟩

theorem prun_spec {k : FuncId} {caps : Array Value} {p : UInt8 → Bool} {w : World} (s : Bytes) (hs : s.length ≤ 9223372036854775807) (hent : ∀ args (w : World), (callFunc k args).run Tryd.prog w = .ok (.enter k args) w) (hp : ∀ c W, Chg [] w W → CallR Tryd.prog k ⟨.int .u8 (c.toNat : Int) :: caps.toList⟩ W fun v W' => v = .bool (p c) ∧ Chg [] W W') :
    CallR Tryd.prog 41 #[S s, .func (.func k) #[] caps] w fun v w' => v = .int .i64 (runN p s : Int) ∧ Chg [] w w' := by
 refine callR_of_wp (args := [_, _]) Tryd.func41 rfl (Nat.le_of_ble_eq_true rfl) ?_
 have HC : Chg [] w w := .refl _
 refine sr rfl <| aI rfl <| en <| sr rfl <| aI rfl <| en <| x_seq <| x_block <| x_loop (ι := Nat) [5, 6, 7, 8, 9, 10, 11, 12, 13, 14, 15, 16, 17, 18] (fun n => [(5, .int .i64 (n : Int))]) (fun n W => (n ≤ s.length ∧ runN p s = n + runN p (s.drop n)) ∧ (Chg [] w W)) (fun n => s.length - n) 0 ?_ ?_ ?_
 · exact ⟨rfl, trivial⟩
 ·refine ⟨?_, HC⟩
  exact ⟨Nat.zero_le _, by simp⟩
 intro n G2 w1 ⟨⟨hn, hr⟩, HC⟩
 change wp _ _ _ _ _ (upds (over _ _ G2) [(5, .int .i64 (n : Int))]) _ _
 refine x_seq <| sr rfl <| mI rfl <| mS rfl <| Wp rfl <| st_slen (ct := #[9]) T.u9 rfl <| Wp rfl <| st_lss rfl rfl <| mB rfl <| w_split (d := 10) rfl (fun g3 => ?_) (fun g3 => ?_)
 ·try simp only [nm, ne_eq] at g3
  refine w_yes 4 10 true <| st_move (v := .func _ _ _) rfl <| w_yes 4 10 true <| st_move (v := S _) rfl <| w_yes 4 10 true <| st_move (v := .int _ _) rfl <| w_yes 4 10 true <| st_sidx T.u9 rfl rfl (by omega) (by omega) <| w_yes 4 10 true <| st_call (f := k) (cap := caps) (ags := .int .u8 _ :: caps.toList) rfl rfl hent rfl (hp (byte s n) _ HC) ?_
  rintro _ w4 ⟨rfl, c5⟩
  replace HC := HC.then c5
  refine pT rfl rfl <| en <| x_cond rfl (fun h0 => ?_) (fun h0 => ?_)
  ·try simp only [nm, ne_eq] at h0
   refine x_skip <| then_n <| x_block <| x_region rfl <| mI rfl <| Wp rfl <| st_addn rfl rfl (by constructor <;> omega) <| aI rfl <| wops_nil <| block_n <| then_n <| ⟨n + 1, ?_, ?_, rfl, ⟨rfl, trivial⟩, ?_⟩
   ·refine ⟨?_, HC⟩
    exact ⟨by omega, by rw [hr, runN_on (by omega) h0]; omega⟩
   ·show s.length - (n + 1) < s.length - n; omega
   repeat (first | exact agree_upds agree_over rfl | refine agree_upd ?_ rfl | refine agree_upds ?_ rfl | refine agree_over_sub ?_ rfl)
  ·try simp only [nm, ne_eq] at h0
   refine x_exit <| then_x <| then_x <| block_x <| then_n <| sr rfl <| mI rfl <| aI rfl <| en <| x_ret <| ret_tmp (v := .int _ _) rfl rfl <| ⟨?_, HC⟩
   rw [hr, runN_off (by omega) h0]; rfl
 ·try simp only [nm, ne_eq] at g3
  iterate 5 refine w_no 4 10 true ?_
  refine pF rfl rfl <| en <| x_cond (t := false) rfl (fun h0 => ?_) (fun h0 => ?_)
  · exact absurd h0 (by decide)
  refine x_exit <| then_x <| then_x <| block_x <| then_n <| sr rfl <| mI rfl <| aI rfl <| en <| x_ret <| ret_tmp (v := .int _ _) rfl rfl <| ⟨?_, HC⟩
  rw [hr, runN_end (by omega)]; rfl

theorem named1_spec (c : UInt8) (w : World) : CallR Tryd.prog 42 #[.int .u8 (c.toNat : Int)] w fun v w' => v = .bool (begB c || digB c) ∧ Chg [] w w' := by
 refine callR_of_wp (args := [_]) Tryd.func42 rfl (Nat.le_of_ble_eq_true rfl) ?_
 have HC : Chg [] w w := .refl _
 refine sr rfl <| aB rfl <| en <| sr rfl <| mI rfl <| Wp rfl <| st_call (ags := [_]) rfl rfl T.ent40 rfl (c_begins c _) ?_
 rintro _ w1 ⟨rfl, c2⟩
 replace HC := HC.then c2
 refine mB rfl <| w_split (d := 5) rfl (fun g3 => ?_) (fun g3 => ?_)
 ·try simp only [nm, ne_eq] at g3
  refine w_no 2 5 false <| w_no 2 5 false <| pT rfl rfl <| aB rfl <| en <| x_ret <| ret_tmp (v := .bool _) rfl rfl ?_
  exact ⟨congrArg Value.bool (by first | (rw [show begB c = true by assumption]; rfl) | (rw [show begB c = false by first | assumption | simp_all]; rfl)), HC⟩
 ·try simp only [nm, ne_eq] at g3
  refine w_yes 2 5 false <| st_move (v := .int _ _) rfl <| w_yes 2 5 false <| st_call (ags := [_]) rfl rfl T.ent43 rfl (c_digit c _) ?_
  rintro _ w4 ⟨rfl, c5⟩
  replace HC := HC.then c5
  refine pF rfl rfl <| aB rfl <| en <| x_ret <| ret_tmp (v := .bool _) rfl rfl ?_
  exact ⟨congrArg Value.bool (by first | (rw [show begB c = true by assumption]; rfl) | (rw [show begB c = false by first | assumption | simp_all]; rfl)), HC⟩

theorem named_spec (s : Bytes) (w : World) (hs : s.length ≤ 9223372036854775807) : CallR Tryd.prog 21 #[S s] w fun v w' => v = .int .i64 (namedV s : Int) ∧ Chg [] w w' := by
 refine callR_of_wp (args := [_]) Tryd.func21 rfl (Nat.le_of_ble_eq_true rfl) ?_
 have HC : Chg [] w w := .refl _
 refine sr rfl <| aI rfl <| en <| x_seq <| x_block <| sr rfl <| mS rfl <| Wp rfl <| st_seql rfl rfl <| aB rfl <| en <| x_cond rfl (fun h0 => ?_) (fun h0 => ?_)
 ·try simp only [nm, ne_eq] at h0
  refine sr rfl <| aI rfl <| en <| x_ret <| block_r <| then_r <| ret_tmp (v := .int _ _) rfl rfl ?_
  exact ⟨congrArg (Value.int .i64) (by rw [h0]; rfl), HC⟩
 ·try simp only [nm, ne_eq] at h0
  refine sr rfl <| mS rfl <| Wp rfl <| st_sidx T.u9 rfl rfl (by decide) (by (have := List.length_pos_iff.2 h0; omega)) <| Wp rfl <| st_call (ags := [_]) rfl rfl T.ent40 rfl (c_begins (byte s 0) _) ?_
  rintro _ w1 ⟨rfl, c2⟩
  replace HC := HC.then c2
  refine aB rfl <| en <| x_cond rfl (fun h1 => ?_) (fun h1 => ?_)
  ·try simp only [nm, ne_eq] at h1
   refine sr rfl <| mS rfl <| Wp rfl <| st_call (ags := [_, _]) rfl rfl T.ent41 rfl (prun_spec (caps := #[]) s hs T.ent42 (fun c W _ => named1_spec c W)) ?_
   rintro _ w3 ⟨rfl, c4⟩
   replace HC := HC.then c4
   refine aI rfl <| en <| x_ret <| block_r <| then_r <| ret_tmp (v := .int _ _) rfl rfl ?_
   exact ⟨congrArg (Value.int .i64) (by rw [namedV_of h0, if_pos h1]), HC⟩
  ·try simp only [nm, ne_eq] at h1
   refine sr rfl <| mS rfl <| Wp rfl <| st_sidx T.u9 rfl rfl (by decide) (by (have := List.length_pos_iff.2 h0; omega)) <| Wp rfl <| st_call (ags := [_, _]) rfl rfl T.ent26 rfl (IndexByte_spec spcs (byte s 0) _) ?_
   rintro _ w5 ⟨rfl, c6⟩
   replace HC := HC.then c6
   refine Wp rfl <| st_geq rfl rfl <| aB rfl <| en <| x_cond rfl (fun h2 => ?_) (fun h2 => ?_)
   ·try simp only [nm, ne_eq] at h2
    refine sr rfl <| aI rfl <| en <| x_ret <| block_r <| then_r <| ret_tmp (v := .int _ _) rfl rfl ?_
    exact ⟨congrArg (Value.int .i64) (by rw [namedV_of h0, if_neg (by rw [h1]; simp), if_pos h2]; rfl), HC⟩
   ·try simp only [nm, ne_eq] at h2
    refine x_skip <| block_n <| then_n <| sr rfl <| mS rfl <| Wp rfl <| st_call (ags := [_, _]) rfl rfl T.ent41 rfl (prun_spec (caps := #[]) s hs T.ent43 (fun c W _ => c_digit c W)) ?_
    rintro _ w7 ⟨rfl, c8⟩
    replace HC := HC.then c8
    refine aI rfl <| en <| x_ret <| ret_tmp (v := .int _ _) rfl rfl ?_
    exact ⟨congrArg (Value.int .i64) (by rw [namedV_of h0, if_neg (by rw [h1]; simp), if_neg h2]), HC⟩

theorem Param_spec (s : Bytes) (w : World) (hs : s.length ≤ 9223372036854775807) : CallR Tryd.prog 12 #[S s] w fun v w' => v = .bool (isParam s) ∧ Chg [] w w' := by
 refine callR_of_wp (args := [_]) Tryd.func12 rfl (Nat.le_of_ble_eq_true rfl) ?_
 have HC : Chg [] w w := .refl _
 refine sr rfl <| aB rfl <| en <| sr rfl <| mS rfl <| Wp rfl <| st_sneq rfl rfl <| mB rfl <| w_split (d := 5) rfl (fun g1 => ?_) (fun g1 => ?_)
 ·try simp only [nm, ne_eq] at g1
  refine w_yes 2 5 true <| st_move (v := S _) rfl <| w_yes 2 5 true <| st_call (ags := [_]) rfl rfl T.ent21 rfl (named_spec s _ hs) ?_
  rintro _ w2 ⟨rfl, c3⟩
  replace HC := HC.then c3
  refine w_yes 2 5 true <| st_move (v := S _) rfl <| w_yes 2 5 true <| st_slen (ct := #[9]) T.u9 rfl <| w_yes 2 5 true <| st_eql rfl rfl <| pT rfl rfl <| aB rfl <| en <| x_ret <| ret_tmp (v := .bool _) rfl rfl <| ⟨congrArg Value.bool ?_, HC⟩
  first | exact (by rw [isParam]; simp [show s ≠ [] by first | assumption | simp_all]; omega) | (rw [isParam]; simp_all)
 ·try simp only [nm, ne_eq] at g1
  iterate 5 refine w_no 2 5 true ?_
  refine pF rfl rfl <| aB rfl <| en <| x_ret <| ret_tmp (v := .bool _) rfl rfl <| ⟨congrArg Value.bool ?_, HC⟩
  first | exact (by rw [isParam]; simp [show s = [] by first | assumption | simp_all]) | (rw [isParam]; simp_all)

theorem quoted_spec (m : Int) (w : World) : CallR Tryd.prog 58 #[.agg ⟨[.int .i64 m]⟩] w fun v w' => v = .bool (!decide (m = 0)) ∧ Chg [] w w' := by
 refine callR_of_wp (args := [_]) Tryd.func58 rfl (Nat.le_of_ble_eq_true rfl) ?_
 have HC : Chg [] w w := .refl _
 refine sr rfl <| Wp rfl <| st_box (v := .agg ⟨[.int _ _]⟩) (vs := [_]) rfl rfl ?_
 intro b1 w2 e3 c4 hb5
 have ge_b1 : w.heap.size ≤ b1 := by rw [e3]; exact HC.size
 replace HC := HC.then c4
 clear e3
 refine aB rfl <| en <| sr rfl <| fa T.fld46_0 rfl <| lI T.one3 rfl (hb5.cell rfl) <| Wp rfl <| st_neq rfl rfl <| aB rfl <| en <| x_ret <| ret_tmp (v := .bool _) rfl rfl ?_
 exact ⟨rfl, HC⟩

theorem one_spec (p : Prt) (n : Int) (w : World) : CallR Tryd.prog 85 #[.agg ⟨[.int .i64 p.kind, S p.text, S p.name, S p.op, S p.word, .bool p.quoted]⟩, .int .i64 n] w fun v w' => PieceR w w' [p] n v := by
 refine callR_of_wp (args := [_, _]) Tryd.func85 rfl (Nat.le_of_ble_eq_true rfl) ?_
 have HC : Chg [] w w := .refl _
 refine sr rfl <| Wp rfl <| st_box (v := .agg ⟨[.int _ _, S _, S _, S _, S _, .bool _]⟩) (vs := [_, _, _, _, _, _]) rfl rfl ?_
 intro b2 w1 e2 c3 hb4
 have ge_b2 : w.heap.size ≤ b2 := by rw [e2]; exact HC.size
 replace HC := HC.then c3
 clear e2
 refine Wp rfl <| st_alloc T.zero78 ?_
 intro b4 w5 e6 c7 hb8
 have ge_b4 : w.heap.size ≤ b4 := by rw [e6]; exact HC.size
 have ne_b2_b4 : b2 ≠ b4 := by rw [e6]; exact hb4.ne_size
 replace HC := HC.then c7
 replace hb4 := hb4.tr0 c7
 clear e6
 refine en <| sr rfl <| Wp rfl <| st_loadA (vs := [_, _, _, _, _, _]) T.agg33 rfl (hb4.cells (n := 6) (vs := [_, _, _, _, _, _]) rfl) rfl <| Wp rfl <| st_lit (ps := [(0, .tmp 5)]) (vs := [.int _ _, S _, S _, S _, S _, .bool _]) T.lit23 (by decide) rfl (by simp only [List.forall_mem_cons, List.not_mem_nil, false_imp_iff, implies_true, and_true]; exact rfl) rfl ?_
 intro b9 w10 e11 c12 hb13
 have ge_b9 : w.heap.size ≤ b9 := by rw [e11]; exact HC.size
 have ne_b2_b9 : b2 ≠ b9 := by rw [e11]; exact hb4.ne_size
 have ne_b4_b9 : b4 ≠ b9 := by rw [e11]; exact hb8.ne_size
 replace HC := HC.then c12
 replace hb4 := hb4.tr0 c12
 replace hb8 := hb8.tr0 c12
 clear e11
 refine mI rfl <| Wp rfl <| st_bld (ps := [(0, .tmp 6), (1, .tmp 7)]) (vs := [.slice _ _ _, .int _ _]) T.bld78 rfl <| Wp rfl <| st_store (v := .agg ⟨[.slice _ _ _, .int _ _]⟩) T.size78 rfl rfl rfl hb8 rfl (Nat.le_of_ble_eq_true rfl) (by simp [Value.oneCell', S]) rfl ?_
 intro w14 c15 hb16; simp only [setVs, setV] at hb16
 clear hb8
 replace HC := HC.then1 c15 ge_b4
 replace hb4 := hb4.tr1 c15 ne_b2_b4
 replace hb13 := hb13.tr1 c15 (Ne.symm ne_b4_b9)
 refine en <| x_ret <| ret_cellA (vs := [_, _]) rfl rfl T.agg78 (hb16.cells (n := 2) rfl) rfl ?_
 exact ⟨_, _, rfl, sl_one (T := 33) hb13 ge_b9, HC⟩

theorem text_spec (s : Bytes) (q : Bool) (n : Int) (w : World) : CallR Tryd.prog 60 #[S s, .bool q, .int .i64 n] w fun v w' => PieceR w w' [txtP s q] n v := by
 refine callR_of_wp (args := [_, _, _]) Tryd.func60 rfl (Nat.le_of_ble_eq_true rfl) ?_
 have HC : Chg [] w w := .refl _
 refine sr rfl <| Wp rfl <| st_alloc T.zero78 ?_
 intro b6 w1 e2 c3 hb4
 have ge_b6 : w.heap.size ≤ b6 := by rw [e2]; exact HC.size
 replace HC := HC.then c3
 clear e2
 refine en <| sr rfl <| mS rfl <| mB rfl <| Wp rfl <| st_bld (ps := [(1, .tmp 7), (5, .tmp 8)]) (vs := [.int _ _, S _, S _, S _, S _, .bool _]) T.bld33 rfl <| mI rfl <| Wp rfl <| st_call (ags := [_, _]) rfl rfl T.ent85 rfl (one_spec (txtP s q) n _) ?_
 have lt1_hsl_b6 := hb4.lt
 have sz1_hsl := HC.size
 rintro _ w5 ⟨A, cap, rfl, hsl, c6⟩
 replace HC := HC.then c6
 replace hb4 := hb4.tr0 c6
 refine Wp rfl <| st_store (v := .agg ⟨[.slice _ _ _, .int _ _]⟩) T.size78 rfl rfl rfl hb4 rfl (Nat.le_of_ble_eq_true rfl) (by simp [Value.oneCell', S]) rfl ?_
 intro w7 c8 hb9; simp only [setVs, setV] at hb9
 clear hb4
 replace HC := HC.then1 c8 ge_b6
 replace hsl := hsl.tr c8 (by intro k hx hD; simp only [List.mem_singleton] at hx; subst hx; omega)
 refine en <| x_ret <| ret_cellA (vs := [_, _]) rfl rfl T.agg78 (hb9.cells (n := 2) rfl) rfl ?_
 exact ⟨_, _, rfl, (hsl.mono (fun k _ h => Nat.le_trans sz1_hsl h)), HC⟩

end Go.Proofs.YtiiahnpgomdfmaaDoor.K
set_option linter.unusedVariables false
set_option linter.unusedSimpArgs false
set_option autoImplicit false
namespace Go.Proofs.YtiiahnpgomdfmaaDoor.K
open Go Go.RowKit
variable {P : Program} {r : Option Nat} {n : Nat} {l : List Oper} {Q : Post} {ds : List Deferred}
/-- A tree of orders: all is done; no branch more; an effect, the quiet operations that it sets free, what follows, and the next branch. -/
inductive OT
  | stop
  | nil
  | br (i : Nat) (qs : List Nat) (sub next : OT)
  | bar (i : Nat) (xs qs : List Nat) (sub : OT)
def OT.heads : OT → List Nat
  | .br i _ _ next => i :: next.heads
  | .bar i _ _ _ => [i]
  | _ => []
def z0 (qs : List Nat) : List (Nat × Nat) := qs.map (·, 0)
/-- Operations that do the same in every world, and have been reckoned with. -/
def sameAll (P : Program) (l : List Oper) (E : Env) : List Nat → Prop
  | [] => True
  | j :: xs => (∀ o, l[j]? = some o → ∃ v, (∀ w' : World, opR P l o E w' v) ∧ updo E o.dst v = E) ∧ sameAll P l E xs
theorem same_of {E : Env} {j : Nat} : ∀ {xs : List Nat}, sameAll P l E xs → j ∈ xs → ∀ o, l[j]? = some o → ∃ v, (∀ w' : World, opR P l o E w' v) ∧ updo E o.dst v = E
  | [], _, h => by cases h
  | k :: xs, hs, h => by
    rcases List.mem_cons.1 h with rfl | h
    · exact hs.1
    · exact same_of hs.2 h
def treeQ (P : Program) (l : List Oper) (K : Env → World → Prop) : OT → (World → Prop) → Env → World → Prop
  | .stop, T, E, w => K E w
  | .nil, T, E, w => True
  | .br i qs sub next, T, E, w => seqP P l (fun T' E' w2 => treeQ P l K sub T' E' w2) ((i, 1) :: z0 qs) T E w ∧ treeQ P l K next T E w
  | .bar i xs qs sub, T, E, w => sameAll P l E xs ∧ seqP P l (fun T' E' w2 => treeQ P l K sub T' E' w2) ((i, 1) :: z0 qs) (fun _ => True) E w
/-- An operation that hangs on all that is seen. -/
def barOK (l : List Oper) (i : Nat) (xs seen : List Nat) : Bool := match l[i]? with
  | some o => seen.all fun j => xs.contains j || (clo l seen (dps o)).contains j
  | none => false
def cover (l : List Oper) (t : OT) (seen : List Nat) : Bool := match t with
  | .stop => (List.range l.length).all fun j => seen.contains j
  | .nil => false
  | t => (List.range l.length).all fun j => seen.contains j || t.heads.contains j || (match l[j]? with | some o => (dps o).any fun d => !seen.contains d | none => true)
def treeOK (l : List Oper) : OT → List Nat → Bool
  | .br i qs sub next, seen => chainOK l ((i, 1) :: z0 qs) seen none && cover l sub (qs.reverse ++ i :: seen) && treeOK l sub (qs.reverse ++ i :: seen) && treeOK l next seen
  | .bar i xs qs sub, seen => chainOK l ((i, 1) :: z0 qs) seen none && cover l sub (qs.reverse ++ i :: seen) && treeOK l sub (qs.reverse ++ i :: seen) && barOK l i xs seen
  | _, _ => true
theorem z0_mem {qs : List Nat} {i : Nat} : i ∈ (z0 qs).map (·.1) ↔ i ∈ qs := by
  unfold z0; rw [List.map_map]; simp [Function.comp_def]
theorem br_of {K : Env → World → Prop} {T : World → Prop} {E : Env} {w : World} {i : Nat} {seen : List Nat} : ∀ {t : OT}, treeOK l t seen = true → treeQ P l K t T E w → i ∈ t.heads → ∃ qs sub T0, chainOK l ((i, 1) :: z0 qs) seen none = true ∧ cover l sub (qs.reverse ++ i :: seen) = true ∧ treeOK l sub (qs.reverse ++ i :: seen) = true ∧
      seqP P l (fun T' E' w2 => treeQ P l K sub T' E' w2) ((i, 1) :: z0 qs) T0 E w ∧ (T0 = T ∨ ∃ xs, (T0 = (fun _ => True) ∧ barOK l i xs seen = true ∧ sameAll P l E xs))
  | .stop, _, _, h => by simp [OT.heads] at h
  | .nil, _, _, h => by simp [OT.heads] at h
  | .br j qs sub next, hk, hq, h => by
    simp only [treeOK, Bool.and_eq_true] at hk
    obtain ⟨⟨⟨k1, k2⟩, k3⟩, k4⟩ := hk
    obtain ⟨q1, q2⟩ := hq
    rcases List.mem_cons.1 (show i ∈ j :: next.heads from h) with rfl | h
    · exact ⟨qs, sub, T, k1, k2, k3, q1, .inl rfl⟩
    · exact br_of k4 q2 h
  | .bar j xs qs sub, hk, hq, h => by
    simp only [treeOK, Bool.and_eq_true] at hk
    obtain ⟨⟨⟨k1, k2⟩, k3⟩, k4⟩ := hk
    obtain rfl : i = j := List.mem_singleton.1 (show i ∈ [j] from h)
    exact ⟨qs, sub, _, k1, k2, k3, hq.2, .inr ⟨xs, rfl, k4, hq.1⟩⟩
section main
variable (E0 : Env) (hpl : l.all plainOp = true) (hds : dstsOK l = true)
include hpl hds in
/-- Quiet operations are reckoned with. -/
theorem advance0 {K : (World → Prop) → Env → World → Prop} : ∀ (qs : List Nat) (seen eff : List Nat) (lay : Option (List Nat)) (T : World → Prop) (V G : Env) (L : Nat → Prop) (w : World),
    chainOK l (z0 qs) seen lay = true → seqP P l K (z0 qs) T V w → Inv P l E0 seen eff T V G L w → SeenOK l seen → (∀ i, i ∈ qs → ¬ L i ∧ i ∉ eff) →
    ∃ V', K T V' w ∧ Inv P l E0 (qs.reverse ++ seen) eff T V' G L w ∧ SeenOK l (qs.reverse ++ seen)
  | [], seen, eff, lay, T, V, G, L, w, hc, hs, hI, hS, hN => ⟨V, hs, hI, hS⟩
  | i :: rest, seen, eff, lay, T, V, G, L, w, hc, hs, hI, hS, hN => by
      obtain ⟨o, he, hc', _⟩ := chain_elem (f := 0) (rest := z0 rest) hc
      obtain ⟨v, hrun, hs'⟩ := hs o he.at_
      have hop : ∀ t, t ∈ atmps l o → ∀ d, o.dst = some d → t ≠ d := by
        intro t ht d hd htd
        subst htd
        have h1 := List.all_eq_true.1 (List.all_eq_true.1 he.writers t ht) i (List.mem_range.2 (List.getElem?_eq_some_iff.1 he.at_).1)
        simp only [he.at_, hd, bne_self_eq_false, Bool.false_or, List.contains_iff_mem] at h1
        exact he.new (he.back i h1)
      have hpo : plainOp o = true := List.all_eq_true.1 hpl o (List.mem_of_getElem? he.at_)
      have hnL := (hN i (by simp)).1
      have hne := (hN i (by simp)).2
      have hrun' : ∀ w', T w' → opR P l o (updo V o.dst v) w' v := fun w' hT => by
        refine opR_congr hpo (E := V) (fun t ht => ?_) (hrun w' hT)
        cases hd : o.dst with
        | none => rfl
        | some d => exact (upd_other _ _ _ _ (hop t ht d hd)).symm
      have hI' : Inv P l E0 (i :: seen) eff T (updo V o.dst v) G L w := by
        refine ⟨fun j hj => by simp [hI.sub j hj], hI.done, fun j hj hjn p hp => ?_, fun j p d hj hp hd => ?_, hI.rest, fun t ht => ?_, hI.here, hI.down⟩
        · rcases List.mem_cons.1 hj with rfl | hj'
          · rw [he.at_] at hp; cases hp
            exact ⟨v, hrun', updo_same fun k hk => updo_get k hk⟩
          · obtain ⟨u, h1, h2⟩ := hI.quiet j hj' hjn p hp
            have hji : i ≠ j := fun e => he.new (by rw [e]; exact hj')
            have hpp : plainOp p = true := List.all_eq_true.1 hpl p (List.mem_of_getElem? hp)
            have hnw : ∀ t, t ∈ atmps l p → o.dst ≠ some t := by
              intro t ht hd
              have : ∀ (sn : List Nat), SeenOK l sn → j ∈ sn → i ∈ sn := by
                intro sn
                induction sn with
                | nil => intro _ h; simp at h
                | cons x b ih =>
                  intro hs hjm
                  rcases List.mem_cons.1 hjm with rfl | hjm'
                  · obtain ⟨p', hp', hb0, hb⟩ := hs.1
                    rw [hp] at hp'; cases hp'
                    exact List.mem_cons_of_mem _ (hb0 _ (hb t ht i o he.at_ hd))
                  · exact List.mem_cons_of_mem _ (ih hs.2 hjm')
              exact he.new (this seen hS hj')
            refine ⟨u, fun w' hT => ?_, ?_⟩
            · exact opR_congr hpp (E := V) (fun t ht => (updo_ne t (hnw t ht)).symm) (h1 w' hT)
            · refine updo_same fun k hk => ?_
              rw [updo_ne k (fun hd => dst_ne (l := l) hds he.at_ hp hji hd hk)]
              rw [← h2]; exact updo_get k hk
        · have := hI.at_ j p d hj hp hd
          rw [this, updo_ne d (fun hd' => dst_ne (l := l) hds he.at_ hp (fun e => hnL (by rw [e]; exact hj)) hd' hd)]
        · rw [updo_ne t (fun hd => ht i o (by simp) he.at_ hd)]
          exact hI.virt t fun j p hj hp => ht j p (by simp [hj]) hp
      obtain ⟨V', q1, q2, q3⟩ := advance0 rest (i :: seen) eff _ T _ G L w hc' hs' hI' ⟨⟨o, he.at_, he.back, he.seenW⟩, hS⟩ (fun j hj => hN j (List.mem_cons_of_mem _ hj))
      have e : (i :: rest).reverse ++ seen = rest.reverse ++ (i :: seen) := by simp
      rw [e]; exact ⟨V', q1, q2, q3⟩
include hpl hds in
theorem any_of_tree {K : Env → World → Prop} (hK : ∀ E w, K E w → Q .normal E ds w) : ∀ (fuel : Nat) (t : OT) (seen eff : List Nat) (T : World → Prop) (V : Env) (listed : Array Bool) (w : World) (a : Act),
    cnt l.length listed ≤ fuel → listed.size = l.length → a.tmps.size = n → a.defers = ds → l.all (okd n) = true →
    treeOK l t seen = true → cover l t seen = true → treeQ P l K t T V w → Inv P l E0 seen eff T V (env a) (fun i => i < l.length ∧ listed.getD i true = true) w → SeenOK l seen →
    wpAnyIn (WF r) 0 P .any l.toArray (toQ n Q) fuel listed a w := by
  intro fuel
  induction fuel with
  | zero =>
    intro t seen eff T V listed w a hcnt hsz hn hd hok hc hv hs hI hS
    have hz := cnt_zero (Nat.le_zero.1 hcnt)
    have hrd : Region.ready .any l.toArray listed = [] := by
      cases hr : Region.ready .any l.toArray listed with
      | nil => rfl
      | cons x xs =>
        have hx : x ∈ Region.ready .any l.toArray listed := by rw [hr]; simp
        obtain ⟨h1, o, ho, _⟩ := mem_ready.1 hx
        have hlt : x < l.length := by have := (Array.getElem?_eq_some_iff.1 ho).1; simpa using this
        rw [hz x hlt] at h1; cases h1
    have ht : t = .stop := by
      cases t with
      | stop => rfl
      | nil => simp [cover] at hv
      | br i qs sub next =>
        obtain ⟨qs', sub', T0, h1, _⟩ := br_of (i := i) hc hs (by simp [OT.heads])
        obtain ⟨o, he, _⟩ := chain_elem h1
        have hlt : i < l.length := (List.getElem?_eq_some_iff.1 he.at_).1
        exact absurd (hI.sub i ⟨hlt, hz i hlt⟩) he.new
      | bar i xs qs sub =>
        obtain ⟨qs', sub', T0, h1, _⟩ := br_of (i := i) hc hs (by simp [OT.heads])
        obtain ⟨o, he, _⟩ := chain_elem h1
        have hlt : i < l.length := (List.getElem?_eq_some_iff.1 he.at_).1
        exact absurd (hI.sub i ⟨hlt, hz i hlt⟩) he.new
    subst ht
    refine ⟨hrd, hn, ?_⟩
    have hGV : env a = V := by
      funext t
      by_cases hx : ∃ (i : Nat) (o : Oper), l[i]? = some o ∧ o.dst = some t
      · obtain ⟨i, o, hi, ho⟩ := hx
        have hlt : i < l.length := (List.getElem?_eq_some_iff.1 hi).1
        exact hI.at_ i o t ⟨hlt, hz i hlt⟩ hi ho
      · have hx' : ∀ (i : Nat) (o : Oper), l[i]? = some o → o.dst ≠ some t := fun i o hi ho => hx ⟨i, o, hi, ho⟩
        rw [hI.rest t (fun i o _ hi => hx' i o hi), hI.virt t (fun i o _ hi => hx' i o hi)]
    rw [hGV, hd]
    exact hK _ _ hs
  | succ fuel ih =>
    intro t seen eff T V listed w a hcnt hsz hn hd hok hc hv hs hI hS
    have hlf : ∀ i, listed.getD i true = true → i < l.length → listed.getD i false = true := fun i h hlt => by
      rw [Array.getD_eq_getD_getElem?, Array.getElem?_eq_getElem (by omega)] at h ⊢; simpa using h
    have hft : ∀ i, listed.getD i false = true → i < l.length ∧ listed.getD i true = true := fun i h => by
      rcases Nat.lt_or_ge i listed.size with hl | hl
      · refine ⟨by omega, ?_⟩
        rw [Array.getD_eq_getD_getElem?, Array.getElem?_eq_getElem hl] at h ⊢; simpa using h
      · simp [Array.getD_eq_getD_getElem?, Array.getElem?_eq_none hl] at h
    have hset : ∀ i, i < l.length → (listed.setIfInBounds i true).getD i true = true := fun i hi => by simp [Array.getD_eq_getD_getElem?, show i < listed.size by omega]
    have hseenlt : ∀ (sn : List Nat), SeenOK l sn → ∀ i, i ∈ sn → i < l.length := by
      intro sn
      induction sn with
      | nil => intro _ i h; simp at h
      | cons x b ihb =>
        intro hs i hi
        rcases List.mem_cons.1 hi with rfl | hi'
        · obtain ⟨o, ho, _⟩ := hs.1
          exact (List.getElem?_eq_some_iff.1 ho).1
        · exact ihb hs.2 i hi'
    have hun' : ∀ i, i < l.length → i ∉ seen → listed.getD i true = false := fun i hlt hns => by
      cases hvv : listed.getD i true with
      | false => rfl
      | true => exact absurd (hI.sub i ⟨hlt, hvv⟩) hns
    refine ⟨fun hrd => ?_, fun i hi => ?_⟩
    · have hseen : ∀ i, i ∈ seen → listed.getD i true = true := by
        intro i hi
        cases hv : listed.getD i true with
        | true => rfl
        | false =>
          obtain ⟨j, hj⟩ := seen_ready listed seen hS ⟨i, hi, hv⟩ (fun k hk h => hlf k h (hseenlt seen hS k hk))
          rw [hrd] at hj; simp at hj
      have hno : ∀ c, c ∈ t.heads → False := fun c hcm => by
          obtain ⟨qs', sub', T0, h1, _⟩ := br_of (i := c) hc hs hcm
          obtain ⟨o, he, _⟩ := chain_elem h1
          have hlt : c < l.length := (List.getElem?_eq_some_iff.1 he.at_).1
          have hcr : c ∈ Region.ready .any l.toArray listed := mem_ready.2 ⟨hun' c hlt he.new, o, by simpa using he.at_, fun e hme hb => by
            have hj : e.on ∈ dps o := List.mem_map.2 ⟨e, List.mem_filter.2 ⟨by simpa using hme, hb⟩, rfl⟩
            have := he.back _ hj
            exact hlf _ (hseen _ this) (hseenlt seen hS _ this)⟩
          rw [hrd] at hcr; simp at hcr
      have ht : t = .stop := by
        cases t with
        | stop => rfl
        | nil => simp [cover] at hv
        | br c qs sub next => exact (hno c (by simp [OT.heads])).elim
        | bar c xs qs sub => exact (hno c (by simp [OT.heads])).elim
      subst ht
      refine ⟨hn, ?_⟩
      have hz : ∀ i, i < l.length → listed.getD i true = true := fun i hi => by
        have := List.all_eq_true.1 hv i (List.mem_range.2 hi)
        exact hseen i (by simpa using this)
      have hGV : env a = V := by
        funext t
        by_cases hx : ∃ (i : Nat) (o : Oper), l[i]? = some o ∧ o.dst = some t
        · obtain ⟨i, o, hi, ho⟩ := hx
          have hlt : i < l.length := (List.getElem?_eq_some_iff.1 hi).1
          exact hI.at_ i o t ⟨hlt, hz i hlt⟩ hi ho
        · have hx' : ∀ (i : Nat) (o : Oper), l[i]? = some o → o.dst ≠ some t := fun i o hi ho => hx ⟨i, o, hi, ho⟩
          rw [hI.rest t (fun i o _ hi => hx' i o hi), hI.virt t (fun i o _ hi => hx' i o hi)]
      rw [hGV, hd]
      exact hK _ _ hs
    · obtain ⟨hun, o, ho, _⟩ := mem_ready.1 hi
      have ho : l[i]? = some o := by simpa using ho
      have hlt : i < l.length := (List.getElem?_eq_some_iff.1 ho).1
      have hdp := ready_dps hi ho
      have hpo : plainOp o = true := List.all_eq_true.1 hpl o (List.mem_of_getElem? ho)
      have hokd : ∀ k, o.dst = some k → k < a.tmps.size := fun k hk => by
        have := List.all_eq_true.1 hok o (List.mem_of_getElem? ho)
        simp only [okd, hk] at this; rw [hn]; simpa [Nat.blt_eq] using this
      have hcnt' : cnt l.length (listed.setIfInBounds i true) ≤ fuel := by have := cnt_set hsz hun; omega
      have hsz' : (listed.setIfInBounds i true).size = l.length := by simpa using hsz
      have hL' : ∀ j, (j < l.length ∧ (listed.setIfInBounds i true).getD j true = true) ↔ (j = i ∨ (j < l.length ∧ listed.getD j true = true)) := fun j => by
        by_cases e : j = i
        · subst e; simp [hlt, hset j hlt]
        · rw [getD_set_ne true (Ne.symm e)]; simp [e]
      by_cases hse : i ∈ seen
      · -- a quiet operation
        have hie : i ∉ eff := fun h => by have := (hI.done i h).2; rw [hun] at this; cases this
        obtain ⟨v, hrun, hvv⟩ := hI.quiet i hse hie o ho
        have hopr : ∀ t, t ∈ atmps l o → env a t = V t := by
          intro t ht
          by_cases hx : ∃ (j : Nat) (p : Oper), l[j]? = some p ∧ p.dst = some t
          · obtain ⟨j, p, hj, hp2⟩ := hx
            have : ∀ (sn : List Nat), SeenOK l sn → i ∈ sn → j ∈ dps o := by
              intro sn
              induction sn with
              | nil => intro _ h; simp at h
              | cons x b ihb =>
                intro hs hjm
                rcases List.mem_cons.1 hjm with rfl | hjm'
                · obtain ⟨p', hp', _, hb⟩ := hs.1
                  rw [ho] at hp'; cases hp'
                  exact hb t ht j p hj hp2
                · exact ihb hs.2 hjm'
            exact hI.at_ j p t (hft j (hdp j (this seen hS hse))) hj hp2
          · have hx' : ∀ (j : Nat) (p : Oper), l[j]? = some p → p.dst ≠ some t := fun j p hj hp => hx ⟨j, p, hj, hp⟩
            rw [hI.rest t (fun i o _ hi => hx' i o hi), hI.virt t (fun i o _ hi => hx' i o hi)]
        have hgo : wpAnyIn (WF r) 0 P .any l.toArray (toQ n Q) fuel (listed.setIfInBounds i true) (a.put o.dst v) w → wpOpIn (WF r) 0 P l.toArray (toQ n Q) i (wpAnyIn (WF r) 0 P .any l.toArray (toQ n Q) fuel (listed.setIfInBounds i true)) a w := fun hk => by
          refine wpOpIn_eff (E := V) (by simpa using ho) hpo hopr ?_
          rcases hrun w hI.here with ⟨hw, hr⟩ | ⟨hw, rfl⟩
          · exact .inl ⟨hw, .inl ⟨v, w, hr, hk⟩⟩
          · exact .inr ⟨hw, hk⟩
        refine hgo ?_
        refine ih t seen eff T V _ w _ hcnt' hsz' (by rw [put_size]; exact hn) (by rw [put_defers]; exact hd) hok hc hv hs ?_ hS
        rw [env_puto _ _ _ hokd]
        refine ⟨fun j hj => ?_, fun j hj => (hL' j).2 (.inr (hI.done j hj)), hI.quiet, fun j p d hj hp' hd' => ?_, fun t ht => ?_, hI.virt, hI.here, fun j p hj hp' k hk => ?_⟩
        · rcases (hL' j).1 hj with rfl | h
          · exact hse
          · exact hI.sub j h
        · rcases (hL' j).1 hj with rfl | h
          · rw [ho] at hp'; cases hp'
            rw [updo_get d hd', ← hvv]; exact (updo_get d hd').symm
          · have hji : i ≠ j := fun e => by subst e; rw [hun] at h; cases h.2
            rw [updo_ne d (fun e => dst_ne (l := l) hds ho hp' hji e hd')]
            exact hI.at_ j p d h hp' hd'
        · rw [updo_ne t (ht i o ((hL' i).2 (.inl rfl)) ho)]
          exact hI.rest t fun j p hj hp' => ht j p ((hL' j).2 (.inr hj)) hp'
        · rcases (hL' j).1 hj with rfl | h
          · rw [ho] at hp'; cases hp'
            exact (hL' k).2 (.inr (hft k (hdp k hk)))
          · exact (hL' k).2 (.inr (hI.down j p h hp' k hk))
      · -- one of the next effects
        have hds' : ∀ j, j ∈ dps o → j ∈ seen := fun j hj => hI.sub j (hft j (hdp j hj))
        have hhd : i ∈ t.heads := by
          cases t with
          | stop =>
            have := List.all_eq_true.1 hv i (List.mem_range.2 hlt)
            exact absurd (by simpa using this) hse
          | nil => simp [cover] at hv
          | br c qs sub next =>
            have h1 := List.all_eq_true.1 hv i (List.mem_range.2 hlt)
            simp only [ho, Bool.or_eq_true, List.contains_iff_mem] at h1
            rcases h1 with (h1 | h1) | h1
            · exact absurd h1 hse
            · exact h1
            · obtain ⟨d, hd1, hd2⟩ := List.any_eq_true.1 h1
              have := hds' d hd1
              simp [this] at hd2
          | bar c xs qs sub =>
            have h1 := List.all_eq_true.1 hv i (List.mem_range.2 hlt)
            simp only [ho, Bool.or_eq_true, List.contains_iff_mem] at h1
            rcases h1 with (h1 | h1) | h1
            · exact absurd h1 hse
            · exact h1
            · obtain ⟨d, hd1, hd2⟩ := List.any_eq_true.1 h1
              have := hds' d hd1
              simp [this] at hd2
        obtain ⟨rr, sub, T0, hch, hcv, hto, hsq, hT0⟩ := br_of hc hs hhd
        obtain ⟨o', he, hc', _⟩ := chain_elem hch
        rw [he.at_] at ho; cases ho
        have hopr : ∀ t, t ∈ atmps l o → env a t = V t := hI.operands E0 he.at_ he.writers (fun j hj => hft j (hdp j hj))
        obtain ⟨eff', hesub, hedone, hequiet⟩ : ∃ eff' : List Nat, (∀ j, j ∈ eff' → j ∈ i :: seen) ∧ (∀ j, j ∈ eff' → (j < l.length ∧ (listed.setIfInBounds i true).getD j true = true)) ∧
            (∀ (T' : World → Prop) (v : Value), (∀ x, T' x → T0 x) → ∀ j, j ∈ i :: seen → j ∉ eff' → ∀ p, l[j]? = some p → ∃ u, (∀ w', T' w' → opR P l p (updo V o.dst v) w' u) ∧ updo (updo V o.dst v) p.dst u = updo V o.dst v) := by
          rcases hT0 with rfl | ⟨xs, rfl, hbar, hsame⟩
          · refine ⟨i :: eff, fun j hj => ?_, fun j hj => ?_, fun T' v hT j hj hjn p hp' => ?_⟩
            · rcases List.mem_cons.1 hj with rfl | h
              · simp
              · simp [hI.sub j (hI.done j h)]
            · rcases List.mem_cons.1 hj with rfl | h
              · exact (hL' j).2 (.inl rfl)
              · exact (hL' j).2 (.inr (hI.done j h))
            · have hji : j ≠ i := fun e => hjn (by simp [e])
              have hjs : j ∈ seen := by simpa [hji] using hj
              obtain ⟨u, h1, h2⟩ := hI.quiet j hjs (fun h => hjn (by simp [h])) p hp'
              have hpp : plainOp p = true := List.all_eq_true.1 hpl p (List.mem_of_getElem? hp')
              have hnw : ∀ t, t ∈ atmps l p → o.dst ≠ some t := by
                intro t ht hd'
                have : ∀ (sn : List Nat), SeenOK l sn → j ∈ sn → i ∈ sn := by
                  intro sn
                  induction sn with
                  | nil => intro _ h; simp at h
                  | cons x b ihb =>
                    intro hs hjm
                    rcases List.mem_cons.1 hjm with rfl | hjm'
                    · obtain ⟨p', hp'', hb0, hb⟩ := hs.1
                      rw [hp'] at hp''; cases hp''
                      exact List.mem_cons_of_mem _ (hb0 _ (hb t ht i o he.at_ hd'))
                    · exact List.mem_cons_of_mem _ (ihb hs.2 hjm')
                exact he.new (this seen hS hjs)
              refine ⟨u, fun x hx => ?_, ?_⟩
              · exact opR_congr hpp (E := V) (fun t ht => (updo_ne t (hnw t ht)).symm) (h1 x (hT x hx))
              · refine updo_same fun k hk => ?_
                rw [updo_ne k (fun hd' => dst_ne (l := l) hds he.at_ hp' (Ne.symm hji) hd' hk)]
                rw [← h2]; exact updo_get k hk
          · refine ⟨i :: seen.filter (fun j => !xs.contains j), fun j hj => ?_, fun j hj => ?_, fun T' v hT j hj hjn p hp' => ?_⟩
            · rcases List.mem_cons.1 hj with rfl | h
              · simp
              · exact List.mem_cons_of_mem _ (List.mem_filter.1 h).1
            · rcases List.mem_cons.1 hj with rfl | h
              · exact (hL' j).2 (.inl rfl)
              · obtain ⟨h, hx⟩ := List.mem_filter.1 h
                unfold barOK at hbar; rw [he.at_] at hbar
                have hcl := List.all_eq_true.1 hbar j h
                rw [Bool.or_eq_true] at hcl
                have hcl : j ∈ clo l seen (dps o) := by
                  rcases hcl with hcl | hcl
                  · rw [hcl] at hx; cases hx
                  · simpa using hcl
                exact (hL' j).2 (.inr (clo_listed (l := l) hI.down seen _ (fun k hk => hft k (hdp k hk)) j hcl))
            · have hji : j ≠ i := fun e => hjn (by simp [e])
              have hjs : j ∈ seen := by simpa [hji] using hj
              have hjx : j ∈ xs := by
                cases hx : xs.contains j with
                | true => simpa using hx
                | false => exact absurd (List.mem_cons_of_mem _ (List.mem_filter.2 ⟨hjs, by rw [hx]; rfl⟩)) hjn
              obtain ⟨u, h1, h2⟩ := same_of hsame hjx p hp'
              have hpp : plainOp p = true := List.all_eq_true.1 hpl p (List.mem_of_getElem? hp')
              have hnw : ∀ t, t ∈ atmps l p → o.dst ≠ some t := by
                intro t ht hd'
                have : ∀ (sn : List Nat), SeenOK l sn → j ∈ sn → i ∈ sn := by
                  intro sn
                  induction sn with
                  | nil => intro _ h; simp at h
                  | cons x b ihb =>
                    intro hs hjm
                    rcases List.mem_cons.1 hjm with rfl | hjm'
                    · obtain ⟨p', hp'', hb0, hb⟩ := hs.1
                      rw [hp'] at hp''; cases hp''
                      exact List.mem_cons_of_mem _ (hb0 _ (hb t ht i o he.at_ hd'))
                    · exact List.mem_cons_of_mem _ (ihb hs.2 hjm')
                exact he.new (this seen hS hjs)
              refine ⟨u, fun x hx => ?_, ?_⟩
              · exact opR_congr hpp (E := V) (fun t ht => (updo_ne t (hnw t ht)).symm) (h1 x)
              · refine updo_same fun k hk => ?_
                rw [updo_ne k (fun hd' => dst_ne (l := l) hds he.at_ hp' (Ne.symm hji) hd' hk)]
                rw [← h2]; exact updo_get k hk
        have hbase : ∀ (v : Value) (T' : World → Prop) (w' : World), (∀ x, T' x → T0 x) → T' w' →
            Inv P l E0 (i :: seen) eff' T' (updo V o.dst v) (env (a.put o.dst v)) (fun j => j < l.length ∧ (listed.setIfInBounds i true).getD j true = true) w' := by
          intro v T' w' hT hTw
          rw [env_puto _ _ _ hokd]
          refine ⟨fun j hj => ?_, hedone, hequiet T' v hT, fun j p d hj hp' hd' => ?_, fun t ht => ?_, fun t ht => ?_, hTw, fun j p hj hp' k hk => ?_⟩
          · rcases (hL' j).1 hj with rfl | h
            · simp
            · simp [hI.sub j h]
          · rcases (hL' j).1 hj with rfl | h
            · rw [he.at_] at hp'; cases hp'
              rw [updo_get d hd', updo_get d hd']
            · have hji : i ≠ j := fun e => by subst e; rw [hun] at h; cases h.2
              rw [updo_ne d (fun e => dst_ne (l := l) hds he.at_ hp' hji e hd'), updo_ne d (fun e => dst_ne (l := l) hds he.at_ hp' hji e hd')]
              exact hI.at_ j p d h hp' hd'
          · rw [updo_ne t (ht i o ((hL' i).2 (.inl rfl)) he.at_)]
            exact hI.rest t fun j p hj hp' => ht j p ((hL' j).2 (.inr hj)) hp'
          · rw [updo_ne t (ht i o (by simp) he.at_)]
            exact hI.virt t fun j p hj hp' => ht j p (by simp [hj]) hp'
          · rcases (hL' j).1 hj with rfl | h
            · rw [he.at_] at hp'; cases hp'
              exact (hL' k).2 (.inr (hft k (hdp k hk)))
            · exact (hL' k).2 (.inr (hI.down j p h hp' k hk))
        have go : ∀ (v : Value) (T' : World → Prop) (w' : World), (∀ x, T' x → T0 x) → T' w' → seqP P l (fun T' E' w2 => treeQ P l K sub T' E' w2) (z0 rr) T' (updo V o.dst v) w' →
            wpAnyIn (WF r) 0 P .any l.toArray (toQ n Q) fuel (listed.setIfInBounds i true) (a.put o.dst v) w' := by
          intro v T' w' hT hTw hsr
          obtain ⟨V', q1, q2, q3⟩ := advance0 E0 hpl hds rr (i :: seen) eff' _ T' _ _ _ w' hc' hsr (hbase v T' w' hT hTw) ⟨⟨o, he.at_, he.back, he.seenW⟩, hS⟩ (fun j hj => by
            have hjp := post_not_seen (l := l) (z0 rr) (i :: seen) _ hc' j (z0_mem.2 hj)
            refine ⟨fun hx => ?_, fun hx => ?_⟩
            · rcases (hL' j).1 hx with rfl | h
              · exact hjp (by simp)
              · exact hjp (by simp [hI.sub j h])
            · exact hjp (hesub j hx))
          exact ih sub (rr.reverse ++ i :: seen) eff' T' V' _ w' _ hcnt' hsz' (by rw [put_size]; exact hn) (by rw [put_defers]; exact hd) hok hto hcv q1 q2 q3
        refine wpOpIn_eff (E := V) (by simpa using he.at_) hpo hopr ?_
        rcases hsq o he.at_ with ⟨hw, hsq⟩ | ⟨hw, hsq⟩
        · refine .inl ⟨hw, effP_mono hsq ?_⟩
          rintro v w' ⟨T', h1, h2, h3⟩
          exact go v T' w' h1 h2 h3
        · refine .inr ⟨hw, go undef T0 w (fun _ h => h) ?_ hsq⟩
          rcases hT0 with rfl | ⟨_, rfl, _⟩
          · exact hI.here
          · trivial
end main
def openOK (l : List Oper) (q0 : List Nat) (t : OT) : Bool := l.all plainOp && dstsOK l && chainOK l (z0 q0) [] none && treeOK l t q0.reverse && cover l t q0.reverse
/-- **A statement whose order is open**, every order of its effects walked. -/
theorem x_open {id : Nat} {E : Env} {w : World} (q0 : List Nat) (t : OT) (hm : P.follows .mixedOrders = true) (hc : openOK l q0 t = true) (hok : l.all (okd n) = true) (T : World → Prop) (hT : T w.drew)
    (h : seqP P l (fun T' E' w2 => treeQ P l (fun E w => Q .normal E ds w) t T' E' w2) (z0 q0) T E w.drew) : wp P r n (.region id l.toArray true) Q E ds w := by
  intro a h1 h2 h3
  simp only [openOK, Bool.and_eq_true] at hc
  obtain ⟨⟨⟨⟨hpl, hds⟩, hch⟩, hto⟩, hcv⟩ := hc
  refine wpIn_region_any hm ?_
  have hL0 : ∀ j, ¬ (j < l.length ∧ (Array.replicate l.length false).getD j true = true) := fun j hj => by
    have := hj.2; simp [Array.getD_eq_getD_getElem?, hj.1] at this
  obtain ⟨V', q1, q2, q3⟩ := advance0 (P := P) (l := l) E hpl hds q0 [] [] none T E E (fun j => j < l.length ∧ (Array.replicate l.length false).getD j true = true) w.drew hch h
    ⟨fun j hj => absurd hj (hL0 j), fun j hj => by simp at hj, fun j hj => by simp at hj, fun j o d hj => absurd hj (hL0 j), fun _ _ => rfl, fun _ _ => rfl, hT, fun j o hj => absurd hj (hL0 j)⟩ trivial (fun j _ => ⟨hL0 j, by simp⟩)
  rw [List.append_nil] at q2 q3
  have hq3 : Inv P l E q0.reverse [] T V' (env a) (fun j => j < l.length ∧ (Array.replicate l.length false).getD j true = true) w.drew := by rw [h2]; exact q2
  show wpAnyIn (WF r) 0 P .any l.toArray (toQ n Q) l.toArray.size (Array.replicate l.toArray.size false) a w.drew
  rw [List.size_toArray]
  refine any_of_tree (P := P) (l := l) (Q := Q) (ds := ds) E hpl hds (K := fun E w => Q .normal E ds w) (fun E w h => h) l.length t q0.reverse [] T V' (Array.replicate l.length false) w.drew a ?_ (by simp) h1 h3 hok hto hcv q1 hq3 q3
  unfold cnt; exact Nat.le_trans (List.length_filter_le _ _) (by simp)
section
variable {K : Env → World → Prop} {T : World → Prop} {E : Env} {w : World}
theorem tr_stop (h : K E w) : treeQ P l K .stop T E w := h
theorem tr_nil : treeQ P l K .nil T E w := trivial
theorem tr_br {i : Nat} {qs : List Nat} {sub next : OT} (h : seqP P l (fun T' E' w2 => treeQ P l K sub T' E' w2) ((i, 1) :: z0 qs) T E w) (h2 : treeQ P l K next T E w) : treeQ P l K (.br i qs sub next) T E w := ⟨h, h2⟩
end
end Go.Proofs.YtiiahnpgomdfmaaDoor.K
