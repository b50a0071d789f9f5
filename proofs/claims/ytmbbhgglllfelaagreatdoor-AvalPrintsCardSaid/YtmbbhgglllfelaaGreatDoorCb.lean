import Derived.Test.YtmbbhgglllfelaaGreatDoorBi
import Derived.Test.YtmbbhgglllfelaaGreatDoorKitQ
set_option linter.unusedVariables false
set_option linter.unusedSimpArgs false
set_option autoImplicit false
set_option maxRecDepth 20000
namespace Go.Proofs.YtmbbhgglllfelaaGreatDoor.K
open Go Go.Proofs Go.RowKit

/-- Digits. -/
def hexB : Bytes := [48, 49, 50, 51, 52, 53, 54, 55, 56, 57, 97, 98, 99, 100, 101, 102]
def digC (d : Nat) : UInt8 := byte hexB d
theorem digC_all : ((List.range 16).all fun d => decide (digV (digC d) = (d : Int)) && wordB (digC d) && decide ((digC d).toNat < 128) && decide (digC d ≠ 120) && decide (digC d ≠ 88) && (decide (10 ≤ d) || digB (digC d)) && (decide (d = 0) || decide (digC d ≠ 48))) = true := by kernel_rfl
theorem digC_at {d : Nat} (h : d < 16) : digV (digC d) = d ∧ wordB (digC d) = true ∧ (digC d).toNat < 128 ∧ digC d ≠ 120 ∧ digC d ≠ 88 ∧ (d < 10 → digB (digC d) = true) ∧ (d ≠ 0 → digC d ≠ 48) := by
  have h2 := List.all_eq_true.1 digC_all d (List.mem_range.2 h)
  simp only [Bool.and_eq_true, Bool.or_eq_true, decide_eq_true_eq] at h2
  obtain ⟨⟨⟨⟨⟨⟨a1, a2⟩, a3⟩, a4⟩, a5⟩, a6⟩, a7⟩ := h2
  exact ⟨a1, a2, a3, a4, a5, fun h => a6.resolve_left (by omega), fun h => a7.resolve_left h⟩
def valN (b acc : Nat) (s : Bytes) : Nat := s.foldl (fun a c => a * b + (digV c).toNat) acc
def allD (b : Nat) (s : Bytes) : Prop := ∀ c, c ∈ s → ∃ d, d < b ∧ c = digC d
theorem valN_cons (b acc : Nat) (c : UInt8) (s : Bytes) : valN b acc (c :: s) = valN b (acc * b + (digV c).toNat) s := rfl
theorem valN_acc (b : Nat) : ∀ (s : Bytes) (acc : Nat), valN b acc s = acc * b ^ s.length + valN b 0 s
  | [], acc => by simp [valN]
  | c :: s, acc => by
    rw [valN_cons, valN_cons, valN_acc b s (acc * b + _), valN_acc b s (0 * b + _), List.length_cons, Nat.pow_succ, Nat.add_mul, Nat.zero_mul, Nat.zero_add, Nat.mul_assoc, Nat.mul_comm b]
    omega
theorem readN_val {b : Nat} (hb : 2 ≤ b) (hb2 : b ≤ 16) : ∀ (s : Bytes) (acc : Nat), allD b s → valN b acc s ≤ 9223372036854775807 → readN b acc s = some ((valN b acc s : Nat) : Int)
  | [], acc, _, _ => rfl
  | c :: s, acc, hd, hm => by
    obtain ⟨d, h1, h2⟩ := hd c (by simp)
    have hv := (digC_at (d := d) (by omega)).1
    rw [← h2] at hv
    have hle : acc * b + d ≤ 9223372036854775807 := by
      rw [valN_cons, valN_acc, hv, Int.toNat_natCast] at hm
      have : 1 ≤ b ^ s.length := Nat.one_le_pow _ _ (by omega)
      have := Nat.mul_le_mul_left (acc * b + d) this
      omega
    have ih := readN_val hb hb2 s (acc * b + d) (fun x hx => hd x (by simp [hx])) (by rw [valN_cons, hv, Int.toNat_natCast] at hm; exact hm)
    rw [readN, hv, if_neg, valN_cons, hv, Int.toNat_natCast, ← ih]
    · congr 1
    · rintro (h | h | h)
      · omega
      · omega
      · rw [Int.tdiv_eq_ediv_of_nonneg (by omega)] at h
        have h3 : (acc : Int) ≤ (9223372036854775807 - (d : Int)) / (b : Int) := (Int.le_ediv_iff_mul_le (by omega)).2 (by
          have h4 : ((acc * b : Nat) : Int) + d ≤ 9223372036854775807 := by omega
          rw [Int.natCast_mul] at h4; omega)
        omega
theorem allD_cons {b d : Nat} {s : Bytes} (h : allD b s) (hd : d < b) : allD b (digC d :: s) := fun c hc => by
  rcases List.mem_cons.1 hc with rfl | hc
  · exact ⟨d, hd, rfl⟩
  · exact h c hc
theorem allD_word {b : Nat} {s : Bytes} (hb : b ≤ 16) (h : allD b s) : s.all wordB = true := List.all_eq_true.2 fun c hc => by
  obtain ⟨d, h1, rfl⟩ := h c hc
  exact (digC_at (by omega)).2.1
/-- What the loop that writes the digits keeps. -/
def NumI (b n m : Nat) (s : Bytes) : Prop := valN b 0 s + m * b ^ s.length = n ∧ allD b s ∧ m * 2 ^ s.length ≤ n ∧ s.length ≤ 64 ∧ (m = 0 → s ≠ [] → (s = [48] ∧ n = 0) ∨ byte s 0 ≠ 48) ∧ (s = [] → m = n)
theorem NumI.start (b n : Nat) : NumI b n n [] := ⟨by simp [valN], fun c hc => (by cases hc), by simp, by simp, fun _ h => absurd rfl h, fun _ => rfl⟩
theorem NumI.step {b n m : Nat} {s : Bytes} (hb : 2 ≤ b) (hb2 : b ≤ 16) (hn : n ≤ 9223372036854775807) (h : NumI b n m s) (hc : 0 < m ∨ s = []) : NumI b n (m / b) (digC (m % b) :: s) := by
  obtain ⟨h1, h2, h3, h4, h5, h6⟩ := h
  have hmb : m % b < b := Nat.mod_lt _ (by omega)
  have hd := digC_at (d := m % b) (by omega)
  have hdm := Nat.div_add_mod m b
  refine ⟨?_, allD_cons h2 hmb, ?_, ?_, ?_, fun h => by cases h⟩
  · rw [valN_cons, valN_acc, hd.1, Int.toNat_natCast, List.length_cons, Nat.pow_succ, Nat.zero_mul, Nat.zero_add]
    rw [← h1]
    have e : m * b ^ s.length = m % b * b ^ s.length + m / b * (b ^ s.length * b) := by
      conv => lhs; rw [← hdm]
      rw [Nat.add_mul, Nat.mul_comm b (m / b), Nat.mul_assoc, Nat.mul_comm b]; omega
    omega
  · rw [List.length_cons, Nat.pow_succ]
    have h7 : m / b ≤ m / 2 := Nat.div_le_div_left hb (by omega)
    have h8 : m / 2 * (2 ^ s.length * 2) ≤ m * 2 ^ s.length := by
      rw [Nat.mul_comm (2 ^ s.length) 2, ← Nat.mul_assoc]
      exact Nat.mul_le_mul_right _ (Nat.div_mul_le_self m 2)
    exact Nat.le_trans (Nat.mul_le_mul_right _ h7) (Nat.le_trans h8 h3)
  · rcases hc with hc | hc
    · have h7 : 2 ^ s.length ≤ n := Nat.le_trans (Nat.le_mul_of_pos_left _ hc) h3
      have h8 : 2 ^ s.length < 2 ^ 63 := by have : (2 : Nat) ^ 63 = 9223372036854775808 := rfl; omega
      have := (Nat.pow_lt_pow_iff_right (by omega : 1 < 2)).1 h8
      simp only [List.length_cons]; omega
    · subst hc; simp
  · intro hm _
    have hlt : m < b := (Nat.div_eq_zero_iff_lt (by omega)).1 hm
    rw [Nat.mod_eq_of_lt hlt] at *
    by_cases h0 : m = 0
    · subst h0
      have hs : s = [] := hc.resolve_left (by omega)
      subst hs
      exact .inl ⟨rfl, (h6 rfl).symm⟩
    · right; show digC m ≠ 48; exact hd.2.2.2.2.2.2 h0
theorem NumI.val {b n : Nat} {s : Bytes} (h : NumI b n 0 s) : valN b 0 s = n := by have := h.1; omega
theorem number_10 {n : Nat} {s : Bytes} (hn : n ≤ 9223372036854775807) (h : NumI 10 n 0 s) (hs : s ≠ []) : constV s = ((n : Int), true) ∧ digB (byte s 0) = true ∧ s.all wordB = true := by
  have hr := readN_val (b := 10) (by omega) (by omega) s 0 h.2.1 (by rw [h.val]; exact hn)
  rw [h.val] at hr
  have hcb : constB s = (10, s) := constB_10 (fun ⟨a, b⟩ => by
    rcases h.2.2.2.2.1 rfl hs with ⟨e, _⟩ | e
    · rw [e] at a; simp at a
    · exact e b)
  refine ⟨by rw [constV_some hcb hr, decide_eq_false hs]; rfl, ?_, allD_word (by omega) h.2.1⟩
  cases s with
  | nil => exact absurd rfl hs
  | cons c s =>
    obtain ⟨d, h1, h2⟩ := h.2.1 c (by simp)
    show digB c = true
    rw [h2]; exact (digC_at (by omega)).2.2.2.2.2.1 h1
end Go.Proofs.YtmbbhgglllfelaaGreatDoor.K
set_option linter.unusedVariables false
set_option linter.unusedSimpArgs false
set_option autoImplicit false
set_option maxRecDepth 20000
namespace Go.Proofs.YtmbbhgglllfelaaGreatDoor.K
open Go Go.Proofs Go.RowKit

/-! ### a slice whose elements are written -/
def Row4 {α : Type} (f : α → List Value) (xs : List α) (cur : List Value) : Prop := xs.length * 4 ≤ cur.length ∧ ∀ (i : Nat) (x : α), xs[i]? = some x → ∀ (j : Nat) (v : Value), (f x)[j]? = some v → cur[i * 4 + j]? = some v
theorem Row4.sl {α : Type} {f : α → List Value} {h1 h2 h3} {e : TypeId} {w : World} {D : Nat → Prop} {g : Nat} {cur : List Value} {xs : List α} (h : Row4 f xs cur) (hb : Blk w g cur e) (hD : D g) : Sl (Enc.flat 4 f h1 h2 h3) w D (some ⟨g, 0, none⟩) xs :=
  .inr ⟨g, 0, rfl, hb.lt, hD, fun i x hx => ⟨f x, rfl, fun j v hj => by
    have := h.2 i x hx j v hj
    refine hb.cell ?_
    rw [nthV_eq, Nat.zero_add]; exact this⟩⟩
theorem Row4.set {α : Type} {f : α → List Value} {cur : List Value} {xs : List α} {i k : Nat} {x x' : α} {v : Value} (h : Row4 f xs cur) (hx : xs[i]? = some x) (hk : k < 4) (hl : ∀ x, (f x).length = 4) (hf : f x' = (f x).set k v) : Row4 f (xs.set i x') (cur.set (i * 4 + k) v) := by
  have hi := (List.getElem?_eq_some_iff.1 hx).1
  refine ⟨by simpa using h.1, fun i2 x2 hx2 j u hj => ?_⟩
  rw [List.getElem?_set] at hx2
  by_cases e : i = i2
  · subst e
    rw [if_pos rfl, if_pos hi] at hx2
    obtain rfl := Option.some.inj hx2
    rw [hf, List.getElem?_set] at hj
    by_cases ej : k = j
    · subst ej
      rw [if_pos rfl, if_pos (by rw [hl]; exact hk)] at hj
      obtain rfl := Option.some.inj hj
      have := h.1
      rw [List.getElem?_set_self (by omega)]
    · rw [if_neg ej] at hj
      rw [List.getElem?_set_ne (by omega)]
      exact h.2 _ x hx j u hj
  · rw [if_neg e] at hx2
    have hj4 : j < 4 := by have := (List.getElem?_eq_some_iff.1 hj).1; rw [hl] at this; exact this
    rw [List.getElem?_set_ne (by omega)]
    exact h.2 _ x2 hx2 j u hj
/-! ### the law -/
theorem pre_iff {s o : Bytes} : Lib.hasPrefix s o = true ↔ ∃ t, s = o ++ t := by
  unfold Lib.hasPrefix; rw [List.isPrefixOf_iff_prefix]
  exact ⟨fun ⟨t, h⟩ => ⟨t, h.symm⟩, fun ⟨t, h⟩ => ⟨t, h.symm⟩⟩
theorem tokV_ok {L : List Yd} (h : (tokV L).2.2 = 0) : tokV L = (L.map toTk, 0, 0) ∧ ∀ z, z ∈ L → z.2.2 = 0 := by
  unfold tokV at h ⊢
  cases e : L.find? errV with
  | none => exact ⟨rfl, fun z hz => by have := List.find?_eq_none.1 e z hz; simpa [errV] using this⟩
  | some y =>
    rw [e] at h
    have := List.find?_some e
    simp only [errV, Bool.not_eq_true', decide_eq_false_iff_not] at this
    exact absurd h this
end Go.Proofs.YtmbbhgglllfelaaGreatDoor.K
set_option linter.unusedVariables false
set_option linter.unusedSimpArgs false
set_option autoImplicit false
set_option maxRecDepth 20000
namespace Go.Proofs.YtmbbhgglllfelaaGreatDoor.K
open Go Go.Proofs Go.RowKit

/-- An operation. -/
structure Nd where
  op : Bytes
  num : Int
  name : Bytes
  kids : List Int
deriving DecidableEq
def ndE : Enc Nd where
  sz := 4
  pos := by omega
  R := fun w D x vs => ∃ K c, vs = [S x.op, .int .i64 x.num, S x.name, .slice K x.kids.length c] ∧ x.kids.length ≤ c ∧ c ≤ 9223372036854775807 ∧ Sl (iE .i64) w D K x.kids
  len := fun ⟨_, _, h, _⟩ => by rw [h]; rfl
  one := fun ⟨_, _, h, _⟩ u hu => by rw [h] at hu; simp at hu; rcases hu with rfl | rfl | rfl | rfl <;> rfl
  tr := fun ⟨K, c, h1, h2, h3, h4⟩ he hs => ⟨K, c, h1, h2, h3, h4.keep he hs⟩
  mono := fun ⟨K, c, h1, h2, h3, h4⟩ hm => ⟨K, c, h1, h2, h3, h4.mono hm⟩
/-- What a reader comes to. -/
inductive PR where
  | bad (e a : Int)
  | good (k : Int) (ts : List Tk) (out : List Nd)
inductive NT where
  | asg
  | cho
  | lev (n : Nat)
  | lop (n : Nat) (k : Int)
  | trm
def PR.bind (r : Option PR) (f : Int → List Tk → List Nd → Option PR) : Option PR := match r with
  | none => none
  | some (.bad e a) => some (.bad e a)
  | some (.good k ts out) => f k ts out
def hdT (ts : List Tk) : Tk := ts.headD ((0, 0, []), 0)
def inOp (ts : List Tk) (l : List Bytes) : Bool := decide ((hdT ts).1.1 = 3) && l.contains (hdT ts).1.2.2
def asgL : List Bytes := [[61], [43, 61], [45, 61], [42, 61], [47, 61], [37, 61], [60, 60, 61], [62, 62, 61], [38, 61], [94, 61], [124, 61]]
def lvls : List (List Bytes) := [[[124, 124]], [[38, 38]], [[124]], [[94]], [[38]], [[61, 61], [33, 61]], [[60], [60, 61], [62], [62, 61]], [[60, 60], [62, 62]], [[43], [45]], [[42], [47], [37]]]
def unL : List Bytes := [[43], [45], [33], [126]]
def isAsg (ts : List Tk) : Bool := decide ((hdT ts).1.1 = 2) && inOp (ts.drop 1) asgL
def wI (p : NT → Nat → List Tk → List Nd → Option PR) (nt : NT) (d : Nat) (ts : List Tk) (out : List Nd) : Option PR :=
  if 64 < d + 1 then some (.bad 104 (hdT ts).2) else p nt (d + 1) ts out
/-- The reading of expressions: how deep, the tokens, what was put out. -/
def pP : Nat → NT → Nat → List Tk → List Nd → Option PR
  | 0, _, _, _, _ => none
  | f + 1, .asg, d, ts, out =>
    if isAsg ts = true then PR.bind (wI (pP f) .asg d (ts.drop 2) out) fun k ts' out' => some (.good (out'.length : Nat) ts' (out' ++ [⟨(hdT (ts.drop 1)).1.2.2, 0, (hdT ts).1.2.2, [k]⟩]))
    else wI (pP f) .cho d ts out
  | f + 1, .cho, d, ts, out =>
    PR.bind (pP f (.lev 0) d ts out) fun k ts1 out1 =>
      if inOp ts1 [[63]] = true then PR.bind (wI (pP f) .asg d (ts1.drop 1) out1) fun a ts2 out2 =>
        if inOp ts2 [[58]] = true then PR.bind (wI (pP f) .cho d (ts2.drop 1) out2) fun c ts3 out3 => some (.good (out3.length : Nat) ts3 (out3 ++ [⟨[63], 0, [], [k, a, c]⟩]))
        else some (.bad 101 (hdT ts2).2)
      else some (.good k ts1 out1)
  | f + 1, .lev n, d, ts, out =>
    if n = 10 then wI (pP f) .trm d ts out
    else PR.bind (pP f (.lev (n + 1)) d ts out) fun k ts1 out1 => pP f (.lop n k) d ts1 out1
  | f + 1, .lop n k, d, ts, out =>
    if inOp ts (lvls.getD n []) = true then PR.bind (pP f (.lev (n + 1)) d (ts.drop 1) out) fun k2 ts2 out2 => pP f (.lop n (out2.length : Nat)) d ts2 (out2 ++ [⟨(hdT ts).1.2.2, 0, [], [k, k2]⟩])
    else some (.good k ts out)
  | f + 1, .trm, d, ts, out =>
    if (hdT ts).1.1 = 1 then some (.good (out.length : Nat) (ts.drop 1) (out ++ [⟨[35], (hdT ts).1.2.1, [], []⟩]))
    else if (hdT ts).1.1 = 2 then some (.good (out.length : Nat) (ts.drop 1) (out ++ [⟨[36], 0, (hdT ts).1.2.2, []⟩]))
    else if inOp ts unL = true then PR.bind (wI (pP f) .trm d (ts.drop 1) out) fun k ts' out' => some (.good (out'.length : Nat) ts' (out' ++ [⟨117 :: (hdT ts).1.2.2, 0, [], [k]⟩]))
    else if inOp ts [[40]] = true then PR.bind (wI (pP f) .asg d (ts.drop 1) out) fun k ts' out' =>
      if inOp ts' [[41]] = true then some (.good k (ts'.drop 1) out') else some (.bad 101 (hdT ts').2)
    else some (.bad 101 (hdT ts).2)
/-- Tokens with the end last, and nowhere else. -/
def WfT : List Tk → Prop
  | [] => False
  | [x] => x.1.1 = 0
  | x :: y :: l => x.1.1 ≠ 0 ∧ WfT (y :: l)
theorem WfT.ne {ts : List Tk} (h : WfT ts) : ∃ x tl, ts = x :: tl := by
  cases ts with
  | nil => exact h.elim
  | cons x tl => exact ⟨x, tl, rfl⟩
theorem WfT.tl {x : Tk} {tl : List Tk} (h : WfT (x :: tl)) (hx : x.1.1 ≠ 0) : WfT tl := by
  cases tl with
  | nil => exact absurd h hx
  | cons y l => exact h.2
/-- A reader in memory. -/
def RdAt (D Dt : Nat → Prop) (w : World) (b : Nat) (ts : List Tk) (out : List Nd) (deep pl e : Int) : Prop :=
  ∃ At capt Ao capo, Blk w b [.slice At ts.length capt, .slice Ao out.length capo, .int .i64 deep, .int .i64 pl, .int .i64 e] 68 ∧ Sl tkE w Dt At ts ∧ ts.length ≤ capt ∧ Own ndE 38 w D Ao capo out
/-- How a reader's method ends. -/
def RPost (D Dt : Nat → Prop) (b : Nat) (ts : List Tk) (out : List Nd) (deep pl : Int) (w : World) (v : Value) (w' : World) : PR → Prop
  | .good k ts' out' => v = .int .i64 k ∧ RdAt D Dt w' b ts' out' deep pl 0 ∧ WfT ts' ∧ (ts'.length ≤ ts.length ∧ out'.length + ts'.length ≤ out.length + ts.length) ∧ ChgP (fun k => D k ∨ k = b) w w'
  | .bad e a => e ≠ 0 ∧ (∃ k, v = .int .i64 k) ∧ (∃ ts' out', ts' ≠ [] ∧ out'.length + ts'.length ≤ out.length + ts.length ∧ RdAt D Dt w' b ts' out' deep a e) ∧ ChgP (fun k => D k ∨ k = b) w w'
theorem sl_skip {w : World} {Dt : Nat → Prop} {At : Option Addr} {ts : List Tk} {capt n : Nat} (hs : Sl tkE w Dt At ts) (hct : ts.length ≤ capt) : Sl tkE w Dt (if capt = n then At else At.map (·.add (n * 4))) (ts.drop n) := by
  by_cases h : capt = n
  · subst h; exact .inl (List.drop_of_length_le hct)
  · rw [if_neg h]; exact hs.drop n

theorem fail_spec {Dt : Nat → Prop} {w : World} {b : Nat} {x : Tk} {tl : List Tk} {At Ao : Option Addr} {no capt capo : Nat} {deep pl e : Int} (e2 : Int) (hb : Blk w b [.slice At (x :: tl).length capt, .slice Ao no capo, .int .i64 deep, .int .i64 pl, .int .i64 e] 68) (hs : Sl tkE w Dt At (x :: tl)) (hDtb : ¬ Dt b) (hDtn : ∀ k, w.heap.size ≤ k → ¬ Dt k) :
    CallR Tryz.prog 24 #[.pointer (some ⟨b, 0, none⟩), .int .i64 e2] w fun v w' => v = .tuple ⟨[]⟩ ∧ Blk w' b [.slice At (x :: tl).length capt, .slice Ao no capo, .int .i64 deep, .int .i64 (if e = 0 then x.2 else pl), .int .i64 (if e = 0 then e2 else e)] 68 ∧ Chg [b] w w' := by
 refine callR_of_wp (args := [_, _]) Tryz.func24 rfl (Nat.le_of_ble_eq_true rfl) ?_
 have HC : Chg [b] w w := .refl _
 refine sr rfl <| mP rfl <| nc rfl <| fa T.fld68_4 rfl <| lI T.one25 rfl (hb.cell rfl) <| Wp rfl <| st_eql rfl rfl <| en <| x_cond rfl (fun h0 => ?_) (fun h0 => ?_)
 ·try simp only [nm, ne_eq] at h0
  refine x_region rfl <| mP rfl <| mP rfl <| mI rfl <| mP rfl <| nc rfl <| fa T.fld68_0 rfl <| lL T.one52 rfl (hb.cell rfl) ?_
  obtain ⟨lb5, _, vs4, hA1, hR3, hC2⟩ := hs.at (i := 0) (x := x) (rfl)
  obtain rfl : vs4 = tokC x.1 x.2 := hR3
  refine Wp rfl <| st_indexAddr T.u52 T.size60 (congrArg (fun z => Value.slice z _ _) hA1) rfl (by decide) (by simp) <| fa T.fld60_3 rfl <| lI T.one3 rfl (hC2.at (j := 3) rfl) <| nc rfl <| fa T.fld68_4 rfl <| Wp rfl <| st_store (v := .int _ _) T.size25 rfl rfl rfl hb rfl (Nat.le_of_ble_eq_true rfl) (by simp [Value.oneCell', S]) rfl ?_
  intro w6 c7 hb8; simp only [setVs, setV] at hb8
  clear hb
  replace HC := HC.trans c7 (by intro x hx; simp only [List.mem_singleton] at hx; subst hx; exact .inl (by simp))
  replace hs := hs.tr c7 (by intro k hx hD; obtain rfl := List.mem_singleton.1 hx; first | exact hDtb hD | exact absurd hD (hDtn _ ge_b))
  refine nc rfl <| fa T.fld68_3 rfl <| Wp rfl <| st_store (v := .int _ _) T.size3 rfl rfl rfl hb8 rfl (Nat.le_of_ble_eq_true rfl) (by simp [Value.oneCell', S]) rfl ?_
  intro w9 c10 hb11; simp only [setVs, setV] at hb11
  clear hb8
  replace HC := HC.trans c10 (by intro x hx; simp only [List.mem_singleton] at hx; subst hx; exact .inl (by simp))
  replace hs := hs.tr c10 (by intro k hx hD; obtain rfl := List.mem_singleton.1 hx; first | exact hDtb hD | exact absurd hD (hDtn _ ge_b))
  refine wops_nil <| ret_none_n rfl <| ⟨rfl, ?_, HC⟩
  rw [if_pos h0, if_pos h0]
  exact hb11
 ·try simp only [nm, ne_eq] at h0
  refine x_skip <| ret_none_n rfl <| ⟨rfl, ?_, HC⟩
  rw [if_neg h0, if_neg h0]
  exact hb

theorem skip_spec {Dt : Nat → Prop} {w : World} {b : Nat} {ts : List Tk} {At Ao : Option Addr} {no capt capo : Nat} {deep pl e : Int} (n : Nat) (hn : n ≤ ts.length) (hb : Blk w b [.slice At ts.length capt, .slice Ao no capo, .int .i64 deep, .int .i64 pl, .int .i64 e] 68) (hs : Sl tkE w Dt At ts) (hct : ts.length ≤ capt) (hDtb : ¬ Dt b) :
    CallR Tryz.prog 45 #[.pointer (some ⟨b, 0, none⟩), .int .i64 (n : Int)] w fun v w' => v = .tuple ⟨[]⟩ ∧ (∃ At' capt', Blk w' b [.slice At' (ts.drop n).length capt', .slice Ao no capo, .int .i64 deep, .int .i64 pl, .int .i64 e] 68 ∧ Sl tkE w' Dt At' (ts.drop n) ∧ (ts.drop n).length ≤ capt') ∧ Chg [b] w w' := by
 refine callR_of_wp (args := [_, _]) Tryz.func45 rfl (Nat.le_of_ble_eq_true rfl) ?_
 have HC : Chg [b] w w := .refl _
 refine x_region rfl <| mP rfl <| mP rfl <| nc rfl <| fa T.fld68_0 rfl <| lL T.one52 rfl (hb.cell rfl) <| mI rfl <| Wp rfl <| st_slice (i := n) (j := _) T.u52 T.size60 rfl ⟨_, rfl⟩ (by rfl) (by omega) (by omega) <| nc rfl <| fa T.fld68_0 rfl <| Wp rfl <| st_store (v := .slice _ _ _) T.size52 rfl rfl rfl hb rfl (Nat.le_of_ble_eq_true rfl) (by simp [Value.oneCell', S]) rfl ?_
 intro w1 c2 hb3; simp only [setVs, setV] at hb3
 clear hb
 replace HC := HC.trans c2 (by intro x hx; simp only [List.mem_singleton] at hx; subst hx; exact .inl (by simp))
 replace hs := hs.tN c2 hDtb
 refine wops_nil <| ret_none_n rfl <| ⟨rfl, ⟨_, capt - n, ?_, sl_skip hs hct, ?_⟩, HC⟩
 · rw [List.length_drop]; exact hb3
 · rw [List.length_drop]; omega

theorem idx_in {l : List Bytes} {s : Bytes} : (0 ≤ findN (fun x => decide (x = s)) 0 l) ↔ s ∈ l := by
  have h := find_findN (q := fun x => decide (x = s)) l 0
  cases hx : l.find? (fun x => decide (x = s)) with
  | none =>
    rw [h.1 hx]
    constructor
    · intro h; omega
    · intro hm; have := List.find?_eq_none.1 hx s hm; simp at this
  | some y =>
    obtain ⟨j, h1, h2⟩ := h.2 y hx
    have h3 := List.find?_some hx
    simp only [decide_eq_true_eq] at h3
    subst h3
    exact ⟨fun _ => List.mem_of_getElem? h2, fun _ => by rw [h1]; omega⟩

theorem Index_spec {w : World} {l : List Bytes} {Al : Option Addr} {capl : Nat} {D : Nat → Prop} (s : Bytes) (hl : Sl sE w D Al l) (hlen : l.length ≤ 9223372036854775807) :
    CallR Tryz.prog 85 #[.slice Al l.length capl, S s] w fun v w' => v = .int .i64 (findN (fun x => decide (x = s)) 0 l) ∧ Chg [] w w' := by
 refine callR_of_wp (args := [_, _]) Tryz.func85 rfl (Nat.le_of_ble_eq_true rfl) ?_
 have HC : Chg [] w w := .refl _
 refine sr rfl <| aI rfl <| en <| x_seq <| sr rfl <| mL rfl <| Wp rfl <| st_len (ct := #[62]) (by rw [show ((#[62] : Array TypeId)[0]?).bind Tryz.prog.underlying = some (.slice 9) from T.u62]; rfl) rfl <| mI rfl <| en <| x_block <| x_loop (ι := Nat) [4, 5, 8, 9, 10, 11, 12, 13, 14, 15, 16, 17, 18] (fun i => [(8, .int .i64 (i : Int))]) (fun i W => (i ≤ l.length ∧ findN (fun x => decide (x = s)) 0 l = findN (fun x => decide (x = s)) i (l.drop i)) ∧ (Chg [] w W) ∧ (Sl sE W D Al l)) (fun i => l.length - i) 0 ?_ ?_ ?_
 · exact ⟨rfl, trivial⟩
 ·refine ⟨?_, HC, hl⟩
  exact ⟨Nat.zero_le _, by simp⟩
 intro i G2 w1 ⟨⟨hi, hr⟩, HC, hl⟩
 change wp _ _ _ _ _ (upds (over _ _ G2) [(8, .int .i64 (i : Int))]) _ _
 refine sr rfl <| Wp rfl <| st_lss rfl rfl <| en <| x_seq <| x_cond rfl (fun h0 => ?_) (fun h0 => ?_)
 ·try simp only [nm, ne_eq] at h0
  refine x_skip <| then_n <| x_seq <| x_block <| sr rfl <| mI rfl <| aI rfl <| en <| sr rfl <| mS rfl <| mL rfl <| mI rfl ?_
  obtain ⟨x3, hx4⟩ : ∃ zz, l[i]? = some zz := ⟨_, List.getElem?_eq_getElem (by omega)⟩
  obtain ⟨lb9, _, vs8, hA5, hR7, hC6⟩ := hl.at hx4
  obtain rfl : vs8 = [S x3] := hR7
  refine Wp rfl <| st_indexAddr T.u62 T.size9 (congrArg (fun z => Value.slice z _ _) hA5) rfl (by omega) (by omega) <| lS T.one9 rfl (hC6.at (j := 0) rfl) <| Wp rfl <| st_seql rfl rfl <| en <| x_cond rfl (fun h1 => ?_) (fun h1 => ?_)
  ·try simp only [nm, ne_eq] at h1
   refine sr rfl <| mI rfl <| aI rfl <| en <| x_ret <| block_r <| then_r <| then_r <| block_r <| then_r <| ret_tmp (v := .int _ _) rfl rfl <| ⟨?_, HC⟩
   rw [hr, findN_off hx4 (decide_eq_true h1.symm)]
  ·try simp only [nm, ne_eq] at h1
   refine x_skip <| block_n <| then_n <| x_region rfl <| Wp rfl <| st_addn rfl rfl (by constructor <;> omega) <| mI rfl <| en <| ⟨i + 1, ?_, ?_, rfl, ⟨rfl, trivial⟩, ?_⟩
   ·refine ⟨?_, HC, hl⟩
    exact ⟨by omega, by rw [hr, findN_on hx4 (decide_eq_false (fun e => h1 e.symm))]⟩
   ·show l.length - (i + 1) < l.length - i; omega
   repeat (first | exact agree_upds agree_over rfl | refine agree_upd ?_ rfl | refine agree_upds ?_ rfl | refine agree_over_sub ?_ rfl)
 ·try simp only [nm, ne_eq] at h0
  refine x_exit <| then_x <| then_x <| block_x <| then_n <| sr rfl <| aI rfl <| en <| x_ret <| ret_tmp (v := .int _ _) rfl rfl <| ⟨?_, HC⟩
  rw [hr, findN_end (by omega)]

theorem Contains_spec {w : World} {l : List Bytes} {Al : Option Addr} {capl : Nat} {D : Nat → Prop} (s : Bytes) (hl : Sl sE w D Al l) (hlen : l.length ≤ 9223372036854775807) :
    CallR Tryz.prog 62 #[.slice Al l.length capl, S s] w fun v w' => v = .bool (decide (s ∈ l)) ∧ Chg [] w w' := by
 refine callR_of_wp (args := [_, _]) Tryz.func62 rfl (Nat.le_of_ble_eq_true rfl) ?_
 have HC : Chg [] w w := .refl _
 refine sr rfl <| aB rfl <| en <| sr rfl <| mL rfl <| mS rfl <| Wp rfl <| st_call (ags := [_, _]) rfl rfl T.ent85 rfl (Index_spec s hl hlen) ?_
 rintro _ w1 ⟨rfl, c2⟩
 replace HC := HC.then c2
 replace hl := hl.tr0 c2
 refine Wp rfl <| st_geq rfl rfl <| aB rfl <| en <| x_ret <| ret_tmp (v := .bool _) rfl rfl ?_
 exact ⟨congrArg Value.bool (by rw [decide_eq_decide]; exact idx_in), HC⟩

theorem take_spec {Dt : Nat → Prop} {w : World} {b : Nat} {x : Tk} {tl : List Tk} {At Ao : Option Addr} {no capt capo : Nat} {deep pl e : Int} {l : List Bytes} {Al : Option Addr} {capl : Nat} {Dl : Nat → Prop} (hb : Blk w b [.slice At (x :: tl).length capt, .slice Ao no capo, .int .i64 deep, .int .i64 pl, .int .i64 e] 68) (hs : Sl tkE w Dt At (x :: tl)) (hDtb : ¬ Dt b) (hDtn : ∀ k, w.heap.size ≤ k → ¬ Dt k) (hct : (x :: tl).length ≤ capt) (hl : Sl sE w Dl Al l) (hlen : l.length ≤ 9223372036854775807) :
    CallR Tryz.prog 65 #[.pointer (some ⟨b, 0, none⟩), .slice Al l.length capl] w fun v w' => (((e = 0 ∧ x.1.1 = 3 ∧ x.1.2.2 ∈ l) ∧ v = .tuple ⟨[S x.1.2.2, .bool true]⟩ ∧ ∃ At' capt', Blk w' b [.slice At' tl.length capt', .slice Ao no capo, .int .i64 deep, .int .i64 pl, .int .i64 e] 68 ∧ Sl tkE w' Dt At' tl ∧ tl.length ≤ capt') ∨ (¬ (e = 0 ∧ x.1.1 = 3 ∧ x.1.2.2 ∈ l) ∧ v = .tuple ⟨[S [], .bool false]⟩ ∧ Blk w' b [.slice At (x :: tl).length capt, .slice Ao no capo, .int .i64 deep, .int .i64 pl, .int .i64 e] 68 ∧ Sl tkE w' Dt At (x :: tl))) ∧ Chg [b] w w' := by
 refine callR_of_wp (args := [_, _]) Tryz.func65 rfl (Nat.le_of_ble_eq_true rfl) ?_
 have HC : Chg [b] w w := .refl _
 refine sr rfl <| aS rfl <| aB rfl <| en <| sr rfl <| mP rfl <| nc rfl <| fa T.fld68_0 rfl <| lL T.one52 rfl (hb.cell rfl) ?_
 obtain ⟨lb5, _, vs4, hA1, hR3, hC2⟩ := hs.at (i := 0) (x := x) (rfl)
 obtain rfl : vs4 = tokC x.1 x.2 := hR3
 refine Wp rfl <| st_indexAddr T.u52 T.size60 (congrArg (fun z => Value.slice z _ _) hA1) rfl (by decide) (by simp) <| Wp rfl <| st_loadA (vs := [_, _, _, _]) T.agg60 rfl hC2 rfl <| Wp rfl <| st_alloc T.zero60 ?_
 intro b6 w6 e7 c8 hb9
 have ge_b6 : w.heap.size ≤ b6 := by rw [e7]; exact HC.size
 have ne_b_b6 : b ≠ b6 := by rw [e7]; exact hb.ne_size
 have nf_hl_b6 : l = [] ∨ b6 ∉ ob (Al) := hl.fresh (by rw [e7]; exact Nat.le_refl _)
 replace HC := HC.then c8
 replace hb := hb.tr0 c8
 replace hs := hs.tr0 c8
 replace hl := hl.tr0 c8
 clear e7
 refine Wp rfl <| st_store (v := .agg ⟨[.int _ _, .int _ _, S _, .int _ _]⟩) T.size60 rfl rfl rfl hb9 rfl (Nat.le_of_ble_eq_true rfl) (by simp [Value.oneCell', S]) rfl ?_
 intro w10 c11 hb12; simp only [setVs, setV] at hb12
 clear hb9
 replace HC := HC.then1 c11 ge_b6
 replace hb := hb.tr1 c11 ne_b_b6
 replace hs := hs.tr c11 (by intro k hx hD; obtain rfl := List.mem_singleton.1 hx; first | exact hDtb hD | exact absurd hD (hDtn _ ge_b6))
 replace hl := hl.trF flat_flat c11 (by intro k hx; simp only [List.mem_singleton] at hx; subst hx; exact nf_hl_b6)
 refine en <| x_seq <| sr rfl <| mP rfl <| nc rfl <| fa T.fld68_4 rfl <| lI T.one25 rfl (hb.cell rfl) <| Wp rfl <| st_neq rfl rfl <| mB rfl <| w_split (d := 18) rfl (fun g13 => ?_) (fun g13 => ?_)
 ·try simp only [nm, ne_eq] at g13
  iterate 3 refine w_no 5 18 false ?_
  refine pT rfl rfl <| mB rfl ?_
  iterate 5 refine w_no 10 23 false ?_
  refine pT rfl rfl <| en <| x_cond (t := true) rfl (fun h0 => ?_) (fun h0 => ?_)
  rotate_left
  · exact absurd h0 (by decide)
  refine sr rfl <| aS rfl <| aB rfl <| en <| x_ret <| then_r <| ret_tmp2 (v := S _) (v2 := .bool _) rfl rfl rfl <| ⟨.inr ⟨?_, rfl, hb, hs⟩, HC⟩
  rintro ⟨a1, a2, a3⟩; first | (revert a1; assumption) | (revert a2; assumption) | exact absurd a3 (by assumption)
 ·try simp only [nm, ne_eq] at g13
  refine w_yes 5 18 false <| st_fieldAddr T.fld60_0 rfl <| w_yes 5 18 false <| st_load1 (v := .int _ _) T.one3 rfl (hb12.cell rfl) <| w_yes 5 18 false <| st_neq rfl rfl <| pF rfl rfl <| mB rfl <| w_split (d := 23) rfl (fun g14 => ?_) (fun g14 => ?_)
  ·try simp only [nm, ne_eq] at g14
   iterate 5 refine w_no 10 23 false ?_
   refine pT rfl rfl <| en <| x_cond (t := true) rfl (fun h0 => ?_) (fun h0 => ?_)
   rotate_left
   · exact absurd h0 (by decide)
   refine sr rfl <| aS rfl <| aB rfl <| en <| x_ret <| then_r <| ret_tmp2 (v := S _) (v2 := .bool _) rfl rfl rfl <| ⟨.inr ⟨?_, rfl, hb, hs⟩, HC⟩
   rintro ⟨a1, a2, a3⟩; first | (revert a1; assumption) | (revert a2; assumption) | exact absurd a3 (by assumption)
  ·try simp only [nm, ne_eq] at g14
   refine w_yes 10 23 false <| st_move (v := .slice _ _ _) rfl <| w_yes 10 23 false <| st_fieldAddr T.fld60_2 rfl <| w_yes 10 23 false <| st_load1 (v := S _) T.one9 rfl (hb12.cell rfl) <| w_yes 10 23 false <| st_call (ags := [_, _]) rfl rfl T.ent62 rfl (Contains_spec x.1.2.2 hl hlen) ?_
   rintro _ w15 ⟨rfl, c16⟩
   replace HC := HC.then c16
   replace hb := hb.tr0 c16
   replace hs := hs.tr0 c16
   replace hl := hl.tr0 c16
   replace hb12 := hb12.tr0 c16
   refine w_yes 10 23 false <| st_not rfl <| pF rfl rfl <| en <| x_cond rfl (fun h0 => ?_) (fun h0 => ?_)
   ·try simp only [nm, ne_eq] at h0
    refine sr rfl <| aS rfl <| aB rfl <| en <| x_ret <| then_r <| ret_tmp2 (v := S _) (v2 := .bool _) rfl rfl rfl <| ⟨.inr ⟨?_, rfl, hb, hs⟩, HC⟩
    rintro ⟨a1, a2, a3⟩; first | (revert a1; assumption) | (revert a2; assumption) | exact absurd a3 (by assumption)
   ·try simp only [nm, ne_eq] at h0
    refine x_skip <| then_n <| sr rfl <| mP rfl <| Wp rfl <| st_call (ags := [_, _]) rfl rfl T.ent45 rfl (skip_spec (ts := x :: tl) 1 (by simp) hb hs hct hDtb) ?_
    rintro _ w17 ⟨rfl, ⟨At2, capt2, hb2, hs2, hct2⟩, c18⟩
    replace HC := HC.trans c18 (by intro x hx; simp only [List.mem_singleton] at hx; subst hx; exact .inl (by simp))
    replace hb12 := hb12.tr1 c18 (Ne.symm ne_b_b6)
    refine en <| sr rfl <| fa T.fld60_2 rfl <| lS T.one9 rfl (hb12.cell rfl) <| aS rfl <| aB rfl <| en <| x_ret <| ret_tmp2 (v := S _) (v2 := .bool _) rfl rfl rfl <| ⟨.inl ⟨⟨by assumption, by assumption, by assumption⟩, rfl, At2, capt2, hb2, hs2, hct2⟩, HC⟩

end Go.Proofs.YtmbbhgglllfelaaGreatDoor.K
set_option linter.unusedVariables false
set_option linter.unusedSimpArgs false
set_option autoImplicit false
set_option maxRecDepth 20000
namespace Go.Proofs.YtmbbhgglllfelaaGreatDoor.K
open Go Go.Proofs Go.RowKit

theorem Tab.trP {M : Nat → Prop} {w w' : World} (h : Tab w) (hc : ChgP M w w') (hb : ¬ M 0) : Tab w' := by
  have he := hc.block 0 h.lt hb
  unfold Tab Lib.TabIs World.var? at *
  simp only [gTab, Option.bind_some] at *
  rw [he]; exact h
theorem ndE_tr {w w' : World} {D : Nat → Prop} {x : Nd} {vs : List Value} (h : ndE.R w D x vs) (c : Chg [] w w') : ndE.R w' D x vs := ndE.tr h (fun k hk _ => c.block k hk (by simp)) c.size
/-- What a reader's methods are called with. -/
structure RPre (D Dt : Nat → Prop) (w : World) (b : Nat) (ts : List Tk) (out : List Nd) (d : Nat) (pl : Int) : Prop where
  fr : ∀ k, w.heap.size ≤ k → D k
  nb : ¬ D b
  dt : ∀ k, Dt k → ¬ D k ∧ k ≠ b
  st : RdAt D Dt w b ts out d pl 0
  wf : WfT ts
  hd : d ≤ 64
  len : out.length + ts.length ≤ 1000000000
  tab : Tab w
  one : ¬ D 0
  two : 0 ≠ b
theorem bind_some {x : Option PR} {g : Int → List Tk → List Nd → Option PR} {r : PR} (h : PR.bind x g = some r) : ∃ ri, x = some ri ∧ (match ri with | .bad e a => r = .bad e a | .good k ts out => g k ts out = some r) := by
  cases x with
  | none => cases h
  | some ri =>
    refine ⟨ri, rfl, ?_⟩
    cases ri with
    | bad e a => exact (Option.some.inj h).symm
    | good k ts out => exact h
theorem in_iff {x : Tk} {tl : List Tk} {l : List Bytes} : inOp (x :: tl) l = true ↔ x.1.1 = 3 ∧ x.1.2.2 ∈ l := by
  simp [inOp, hdT]

theorem want_spec {Dt : Nat → Prop} {w : World} {b : Nat} {x : Tk} {tl : List Tk} {At Ao : Option Addr} {no capt capo : Nat} {deep pl e : Int} (o : Bytes) (hb : Blk w b [.slice At (x :: tl).length capt, .slice Ao no capo, .int .i64 deep, .int .i64 pl, .int .i64 e] 68) (hs : Sl tkE w Dt At (x :: tl)) (hDtb : ¬ Dt b) (hDtn : ∀ k, w.heap.size ≤ k → ¬ Dt k) (hct : (x :: tl).length ≤ capt) :
    CallR Tryz.prog 66 #[.pointer (some ⟨b, 0, none⟩), S o] w fun v w' => v = .tuple ⟨[]⟩ ∧ (((e = 0 ∧ x.1.1 = 3 ∧ x.1.2.2 ∈ [o]) ∧ ∃ At' capt', Blk w' b [.slice At' tl.length capt', .slice Ao no capo, .int .i64 deep, .int .i64 pl, .int .i64 e] 68 ∧ Sl tkE w' Dt At' tl ∧ tl.length ≤ capt') ∨ (¬ (e = 0 ∧ x.1.1 = 3 ∧ x.1.2.2 ∈ [o]) ∧ Blk w' b [.slice At (x :: tl).length capt, .slice Ao no capo, .int .i64 deep, .int .i64 (if e = 0 then x.2 else pl), .int .i64 (if e = 0 then 101 else e)] 68 ∧ Sl tkE w' Dt At (x :: tl))) ∧ Chg [b] w w' := by
 refine callR_of_wp (args := [_, _]) Tryz.func66 rfl (Nat.le_of_ble_eq_true rfl) ?_
 have HC : Chg [b] w w := .refl _
 refine sr rfl <| mP rfl <| mS rfl <| Wp rfl <| st_lit (ps := [(0, .tmp 8)]) (vs := [S _]) T.lit62 (by decide) rfl (by simp only [List.forall_mem_cons, List.not_mem_nil, false_imp_iff, implies_true, and_true]; exact rfl) rfl ?_
 intro b1 w2 e3 c4 hb5
 have ge_b1 : w.heap.size ≤ b1 := by rw [e3]; exact HC.size
 have ne_b_b1 : b ≠ b1 := by rw [e3]; exact hb.ne_size
 replace HC := HC.then c4
 replace hb := hb.tr0 c4
 replace hs := hs.tr0 c4
 clear e3
 refine Wp rfl <| st_call (ags := [_, _]) rfl rfl T.ent65 rfl (take_spec (x := x) (tl := tl) (l := [o]) hb hs hDtb (fun k hk => hDtn k (Nat.le_trans HC.size hk)) hct (Sl.of_one (c := sE) (x := o) (D := fun _ => True) hb5 rfl trivial) (by first | decide | (simp; done) | exact lv_len _)) ?_
 rintro _ w6 ⟨(⟨hC7, rfl, At7, capt7, hb7, hs7, hct7⟩ | ⟨hC7, rfl, hb7, hs7⟩), c7⟩
 ·replace HC := HC.trans c7 (by intro x hx; simp only [List.mem_singleton] at hx; subst hx; exact .inl (by simp))
  replace hb5 := hb5.tr1 c7 (Ne.symm ne_b_b1)
  refine mv (v := .tuple ⟨[_, _]⟩) rfl <| Wp rfl <| st_extract (vs := [_, _]) (v := S _) rfl rfl <| Wp rfl <| st_extract (vs := [_, _]) (v := .bool _) rfl rfl <| aS rfl <| aB rfl <| en <| sr rfl <| mB rfl <| Wp rfl <| st_not rfl <| en <| x_cond rfl (fun h0 => ?_) (fun h0 => ?_)
  ·try simp only [nm, ne_eq] at h0
   cases h0
  ·try simp only [nm, ne_eq] at h0
   refine x_skip <| ret_none_n rfl ?_
   exact ⟨rfl, .inl ⟨hC7, _, _, hb7, hs7, hct7⟩, HC⟩
 ·replace HC := HC.trans c7 (by intro x hx; simp only [List.mem_singleton] at hx; subst hx; exact .inl (by simp))
  replace hb5 := hb5.tr1 c7 (Ne.symm ne_b_b1)
  refine mv (v := .tuple ⟨[_, _]⟩) rfl <| Wp rfl <| st_extract (vs := [_, _]) (v := S _) rfl rfl <| Wp rfl <| st_extract (vs := [_, _]) (v := .bool _) rfl rfl <| aS rfl <| aB rfl <| en <| sr rfl <| mB rfl <| Wp rfl <| st_not rfl <| en <| x_cond rfl (fun h0 => ?_) (fun h0 => ?_)
  ·try simp only [nm, ne_eq] at h0
   refine x_region rfl <| mP rfl <| Wp rfl <| st_call (ags := [_, _]) rfl rfl T.ent24 rfl (fail_spec 101 hb7 hs7 hDtb (fun k hk => hDtn k (Nat.le_trans HC.size hk))) ?_
   rintro _ w8 ⟨rfl, hb9, c9⟩
   replace HC := HC.trans c9 (by intro x hx; simp only [List.mem_singleton] at hx; subst hx; exact .inl (by simp))
   replace hb5 := hb5.tr1 c9 (Ne.symm ne_b_b1)
   replace hs7 := hs7.tr c9 (by intro k hx hD; obtain rfl := List.mem_singleton.1 hx; first | exact hDtb hD | exact absurd hD (hDtn _ ge_b))
   refine wops_nil <| ret_none_n rfl ?_
   exact ⟨rfl, .inr ⟨hC7, hb9, hs7⟩, HC⟩
  ·try simp only [nm, ne_eq] at h0
   cases h0

theorem put_spec {D : Nat → Prop} {w : World} {b : Nat} {out : List Nd} {At Ao : Option Addr} {nt capt capo : Nat} {deep pl e : Int} {x : Nd} {vs : List Value} (hfr0 : ∀ k, w.heap.size ≤ k → D k) (hDb : ¬ D b) (hb : Blk w b [.slice At nt capt, .slice Ao out.length capo, .int .i64 deep, .int .i64 pl, .int .i64 e] 68) (ho : Own ndE 38 w D Ao capo out) (hx : ndE.R w (fun k => D k ∧ k ∉ ob Ao) x vs) (hlen : out.length ≤ 1000000000) :
    CallR Tryz.prog 46 #[.pointer (some ⟨b, 0, none⟩), .agg ⟨vs⟩] w fun v w' => v = .int .i64 (out.length : Int) ∧ (∃ Ao' capo', Blk w' b [.slice At nt capt, .slice Ao' (out ++ [x]).length capo', .int .i64 deep, .int .i64 pl, .int .i64 e] 68 ∧ Own ndE 38 w' D Ao' capo' (out ++ [x])) ∧ Chg (b :: ob Ao) w w' := by
 obtain ⟨K, cx, rfl, hk1, hk2, hk3⟩ := hx
 replace hx : ndE.R w (fun k => D k ∧ k ∉ ob Ao) x _ := ⟨K, cx, rfl, hk1, hk2, hk3⟩
 refine callR_of_wp (args := [_, _]) Tryz.func46 rfl (Nat.le_of_ble_eq_true rfl) ?_
 have HC : Chg (b :: ob Ao) w w := .refl _
 refine sr rfl <| Wp rfl <| st_box (v := .agg ⟨[S _, .int _ _, S _, .slice _ _ _]⟩) (vs := [_, _, _, _]) rfl rfl ?_
 intro b1 w2 e3 c4 hb5
 have ge_b1 : w.heap.size ≤ b1 := by rw [e3]; exact HC.size
 have ne_b_b1 : b ≠ b1 := by rw [e3]; exact hb.ne_size
 have na_b1 : b1 ∉ ob Ao := ho.fresh (by rw [e3]; exact Nat.le_refl _)
 replace HC := HC.then c4
 replace hb := hb.tr0 c4
 replace ho := ho.tr0 c4
 replace hx := ndE_tr hx c4
 clear e3
 refine aI rfl <| en <| x_seq <| x_draw [(0, 0), (1, 0), (2, 0), (3, 0), (4, 0), (5, 0), (6, 1), (7, 1), (8, 0), (9, 0), (10, 2)] T.mixed rfl rfl rfl (fun W => W.heap[b]? = w2.heap[b]? ∧ W.heap[b1]? = w2.heap[b1]? ∧ True) ⟨rfl, rfl, trivial⟩ ?_
 have o8 := hb
 have o9 := hb5
 have c7 := Chg.drew w2
 generalize World.drew w2 = w6 at c7 ⊢
 replace HC := HC.then c7
 replace hb := hb.tr0 c7
 replace ho := ho.tr0 c7
 replace hx := ndE_tr hx c7
 replace hb5 := hb5.tr0 c7
 refine sq_q rfl (fun W hT => r_move (v := .pointer _) rfl) <| sq_q rfl (fun W hT => r_move (v := .pointer _) rfl) <| sq_q rfl (fun W hT => r_nilCheck rfl) <| sq_q rfl (fun W hT => r_fieldAddr T.fld68_1 rfl) <| sq_q rfl (fun W hT => r_load1 (v := .slice _ _ _) T.one32 rfl (Blk.cell (show Blk W b _ _ from hT.1.trans o8) rfl)) <| sq_q rfl (fun W hT => r_loadA (vs := [_, _, _, _]) T.agg38 rfl (Blk.cells (n := 4) (vs := [_, _, _, _]) (show Blk W b1 _ _ from hT.2.1.trans o9) rfl) rfl) <| sq_lit1 (ps := [(0, .tmp 10)]) (vs := [S _, .int _ _, S _, .slice _ _ _]) rfl T.lit32 (by decide) rfl (by simp only [List.forall_mem_cons, List.not_mem_nil, false_imp_iff, implies_true, and_true]; exact rfl) rfl ?_
 intro b10 w11 e12 c13 hb14
 have ge_b10 : w.heap.size ≤ b10 := by rw [e12]; exact HC.size
 have ne_b_b10 : b ≠ b10 := by rw [e12]; exact hb.ne_size
 have ne_b1_b10 : b1 ≠ b10 := by rw [e12]; exact hb5.ne_size
 have na_b10 : b10 ∉ ob Ao := ho.fresh (by rw [e12]; exact Nat.le_refl _)
 replace HC := HC.then c13
 replace hb := hb.tr0 c13
 replace ho := ho.tr0 c13
 replace hx := ndE_tr hx c13
 replace hb5 := hb5.tr0 c13
 clear e12
 refine ext_T (b := b10) ⟨(Eq.trans hb o8.symm), (Eq.trans hb5 o9.symm), trivial⟩ ?_
 have o15 := hb14
 have hszA := HC.size
 refine sq_append1 (c := ndE) (D2 := fun k => D k ∧ k ∉ ob Ao) (xs := out) (ys := [x]) rfl T.slice32 rfl rfl ho rfl rfl (one_elem hx (hb14.cells (n := 4) rfl)) (fun k _ h => h) (fun k hk => hfr0 k (by omega)) (by simp only [List.length_cons, List.length_nil]; omega) (by simp only [List.length_cons, List.length_nil]; omega) ?_
 intro Ao2 capo2 w16 ho2 c17 hg2
 replace hb := hb.tr c17 (fun hx => hDb (ho.inD _ hx))
 replace hb5 := hb5.tr c17 na_b1
 replace hb14 := hb14.tr c17 na_b10
 replace HC := HC.trans c17 (by intro k hk; exact .inl (by simp [hk]))
 refine ⟨_, fun _ h => h, ⟨(Eq.trans hb14 o15.symm), ⟨(Eq.trans hb o8.symm), (Eq.trans hb5 o9.symm), trivial⟩⟩, ?_⟩
 refine sq_q rfl (fun W hT => r_nilCheck rfl) <| sq_q rfl (fun W hT => r_fieldAddr T.fld68_1 rfl) <| sq_store2 rfl T.size32 (v := .slice _ _ _) rfl rfl rfl hb rfl (Nat.le_of_ble_eq_true rfl) (by simp [Value.oneCell', S]) rfl ?_
 intro w18 c19 hb20; simp only [setVs, setV] at hb20
 clear hb
 replace HC := HC.trans c19 (by intro x hx; simp only [List.mem_singleton] at hx; subst hx; exact .inl (by simp))
 replace ho2 := ho2.tN c19 hDb
 replace hb5 := hb5.tr1 c19 (Ne.symm ne_b_b1)
 replace hb14 := hb14.tr1 c19 (Ne.symm ne_b_b10)
 clear o8
 clear o9
 clear o15
 refine sq_nil <| then_n <| x_seq ?_
 have hsub : IntKind.i64.wrap (((out.length + [x].length : Nat) : Int) - 1) = (out.length : Int) := by have h1 : [x].length = 1 := rfl; rw [wrap64_id (by omega) (by omega)]; omega
 refine x_region rfl <| mP rfl <| nc rfl <| fa T.fld68_1 rfl <| lL T.one32 rfl (hb20.cell rfl) <| Wp rfl <| st_len (ct := #[32]) (by rw [show ((#[32] : Array TypeId)[0]?).bind Tryz.prog.underlying = some (.slice 38) from T.u32]; rfl) rfl <| Wp rfl <| st_subk rfl rfl (by exact hsub) <| aI rfl <| en <| x_ret <| ret_tmp (v := .int _ _) rfl rfl ?_
 exact ⟨rfl, ⟨Ao2, capo2, by rw [List.length_append]; exact hb20, ho2⟩, HC⟩

theorem RPost.lift {D D1 Dt : Nat → Prop} {b : Nat} {ts : List Tk} {out : List Nd} {d pl : Int} {w w2 w' : World} {v : Value} {r : PR} (h : RPost D1 Dt b ts out d pl w2 v w' r) (hsub : ∀ k, D1 k → D k) (hc : ChgP (fun k => D k ∨ k = b) w w2) : RPost D Dt b ts out d pl w v w' r := by
  cases r with
  | good k ts' out' =>
    obtain ⟨h1, ⟨At, capt, Ao, capo, q1, q2, q3, q4⟩, h3, h4, h5⟩ := h
    exact ⟨h1, ⟨At, capt, Ao, capo, q1, q2, q3, q4.mono (fun k _ hk => hsub k hk)⟩, h3, h4, hc.trans h5 (fun k hk => .inl (hk.imp (hsub k) id))⟩
  | bad e a =>
    obtain ⟨h1, h2, ⟨ts', out', h3, h4, ⟨At, capt, Ao, capo, q1, q2, q3, q4⟩⟩, h5⟩ := h
    exact ⟨h1, h2, ⟨ts', out', h3, h4, ⟨At, capt, Ao, capo, q1, q2, q3, q4.mono (fun k _ hk => hsub k hk)⟩⟩, hc.trans h5 (fun k hk => .inl (hk.imp (hsub k) id))⟩

theorem within_spec {D Dt : Nat → Prop} {w : World} {b : Nat} {ts : List Tk} {out : List Nd} {d : Nat} {pl : Int} {kf : FuncId} {r : PR} (hp : RPre D Dt w b ts out d pl) (hent : ∀ args (w : World), (callFunc kf args).run Tryz.prog w = .ok (.enter kf args) w)
    (hr : (64 < d + 1 ∧ r = .bad 104 (hdT ts).2) ∨ (d + 1 ≤ 64 ∧ ∀ W, RPre D Dt W b ts out (d + 1) pl → CallR Tryz.prog kf ⟨[.pointer (some ⟨b, 0, none⟩)]⟩ W fun v W' => RPost D Dt b ts out ((d + 1 : Nat) : Int) pl W v W' r)) :
    CallR Tryz.prog 22 #[.pointer (some ⟨b, 0, none⟩), .func (.func kf) #[.pointer (some ⟨b, 0, none⟩)] #[]] w fun v w' => RPost D Dt b ts out d pl w v w' r := by
 obtain ⟨hfr0, hDb, hDt, ⟨At, capt, Ao, capo, hb, hs, hct, ho⟩, hwf, hd, hlen, ht, hone1, hone2⟩ := hp
 obtain ⟨x, tl, rfl⟩ := hwf.ne
 have ht1 := ht.lt
 have hDtb : ¬ Dt b := fun h => (hDt b h).2 rfl
 have hDtn : ∀ k, w.heap.size ≤ k → ¬ Dt k := fun k hk h => (hDt k h).1 (hfr0 k hk)
 have hll : out.length + (tl.length + 1) ≤ 1000000000 := hlen
 have hd1 : IntKind.i64.wrap ((d : Int) + 1) = ((d + 1 : Nat) : Int) := by rw [wrap64_id (by omega) (by omega)]; omega
 have hd2 : IntKind.i64.wrap (((d + 1 : Nat) : Int) - 1) = (d : Int) := by rw [wrap64_id (by omega) (by omega)]; omega
 refine callR_of_wp (args := [_, _]) Tryz.func22 rfl (Nat.le_of_ble_eq_true rfl) ?_
 have HC : ChgP (fun k => D k ∨ k = b) w w := .refl _
 refine sr rfl <| aI rfl <| en <| x_seq <| sr rfl <| mP rfl <| nc rfl <| fa T.fld68_2 rfl <| lI T.one3 rfl (hb.cell rfl) <| Wp rfl <| st_addk rfl rfl (by exact hd1) <| nc rfl <| fa T.fld68_2 rfl <| Wp rfl <| st_store (v := .int _ _) T.size3 rfl rfl rfl hb rfl (Nat.le_of_ble_eq_true rfl) (by simp [Value.oneCell', S]) rfl ?_
 intro w1 c2 hb3; simp only [setVs, setV] at hb3
 clear hb
 replace HC := HC.cB c2
 replace hs := hs.tN c2 (fun h => (hDt _ h).2 rfl)
 replace ho := ho.tN c2 hDb
 replace ht := ht.tr c2 (by intro hx; have hlt := ht1; simp only [List.mem_cons, List.mem_nil_iff, or_false] at hx; first | exact hone2 hx | omega)
 refine en <| sr rfl <| mP rfl <| nc rfl <| fa T.fld68_2 rfl <| lI T.one3 rfl (hb3.cell rfl) <| Wp rfl <| st_gtr rfl rfl <| en <| x_cond rfl (fun h0 => ?_) (fun h0 => ?_)
 ·try simp only [nm, ne_eq] at h0
  obtain ⟨_, rfl⟩ := hr.resolve_right (fun h => by omega)
  refine x_region rfl <| mP rfl <| Wp rfl <| st_call (ags := [_, _]) rfl rfl T.ent24 rfl (fail_spec 104 hb3 hs hDtb (fun k hk => hDtn k (Nat.le_trans HC.size hk))) ?_
  rintro _ w4 ⟨rfl, hb9, c5⟩
  rw [if_pos rfl, if_pos rfl] at hb9
  replace HC := HC.cB c5
  replace hs := hs.tN c5 (fun h => (hDt _ h).2 rfl)
  replace ho := ho.tN c5 hDb
  replace ht := ht.tr c5 (by intro hx; have hlt := ht1; simp only [List.mem_cons, List.mem_nil_iff, or_false] at hx; first | exact hone2 hx | omega)
  refine en <| sr rfl <| aI rfl <| en <| x_seq <| sr rfl <| mP rfl <| nc rfl <| fa T.fld68_4 rfl <| lI T.one25 rfl (hb9.cell rfl) <| Wp rfl <| st_eql rfl rfl <| en <| x_cond rfl (fun h1 => ?_) (fun h1 => ?_)
  ·try simp only [nm, ne_eq] at h1
   simp at h1
  ·try simp only [nm, ne_eq] at h1
   refine x_skip <| then_n <| sr rfl <| mP rfl <| nc rfl <| fa T.fld68_2 rfl <| lI T.one3 rfl (hb9.cell rfl) <| Wp rfl <| st_subk rfl rfl (by exact hd2) <| nc rfl <| fa T.fld68_2 rfl <| Wp rfl <| st_store (v := .int _ _) T.size3 rfl rfl rfl hb9 rfl (Nat.le_of_ble_eq_true rfl) (by simp [Value.oneCell', S]) rfl ?_
   intro w6 c7 hb8; simp only [setVs, setV] at hb8
   clear hb9
   replace HC := HC.cB c7
   replace hs := hs.tN c7 (fun h => (hDt _ h).2 rfl)
   replace ho := ho.tN c7 hDb
   replace ht := ht.tr c7 (by intro hx; have hlt := ht1; simp only [List.mem_cons, List.mem_nil_iff, or_false] at hx; first | exact hone2 hx | omega)
   refine en <| sr rfl <| mI rfl <| aI rfl <| en <| x_ret <| ret_tmp (v := .int _ _) rfl rfl ?_
   exact ⟨by decide, ⟨0, rfl⟩, ⟨x :: tl, out, by simp, Nat.le_refl _, ⟨_, _, _, _, hb8, hs, hct, ho⟩⟩, HC⟩
 ·try simp only [nm, ne_eq] at h0
  have hok := hr.resolve_left (fun h => by omega)
  refine x_skip <| then_n <| sr rfl <| aI rfl <| en <| x_seq <| sr rfl <| mP rfl <| nc rfl <| fa T.fld68_4 rfl <| lI T.one25 rfl (hb3.cell rfl) <| Wp rfl <| st_eql rfl rfl <| en <| x_cond rfl (fun h1 => ?_) (fun h1 => ?_)
  ·try simp only [nm, ne_eq] at h1
   refine x_region rfl <| mv rfl <| Wp rfl <| st_callB (ags := [_]) rfl rfl hent rfl (hok.2 _ ⟨(fun k hk => hfr0 k (Nat.le_trans HC.size hk)), hDb, (fun k h => ⟨fun h2 => (hDt k h).1 (h2), (hDt k h).2⟩), ⟨_, _, _, _, hb3, hs, hct, ho⟩, hwf, hok.1, hlen, ht, (fun h => hone1 (h)), hone2⟩) ?_
   rintro v26 w9 hP
   rcases r with ⟨e1, a1⟩ | ⟨k1, ts1, out1⟩
   ·obtain ⟨he1, ⟨k1, rfl⟩, ⟨ts1, out1, hne1, hl1, At1, capt1, Ao1, capo1, hb9, hs9, hct9, ho9⟩, cP⟩ := hP
    replace HC := HC.trans cP (fun k h => .inl (h))
    replace ht := ht.trP cP (fun h => h.elim (fun h => hone1 ((fun _ h => h) 0 h)) hone2)
    refine aI rfl <| en <| sr rfl <| mP rfl <| nc rfl <| fa T.fld68_2 rfl <| lI T.one3 rfl (hb9.cell rfl) <| Wp rfl <| st_subk rfl rfl (by exact hd2) <| nc rfl <| fa T.fld68_2 rfl <| Wp rfl <| st_store (v := .int _ _) T.size3 rfl rfl rfl hb9 rfl (Nat.le_of_ble_eq_true rfl) (by simp [Value.oneCell', S]) rfl ?_
    intro w10 c11 hb12; simp only [setVs, setV] at hb12
    clear hb9
    replace HC := HC.cB c11
    replace ht := ht.tr c11 (by intro hx; have hlt := ht1; simp only [List.mem_cons, List.mem_nil_iff, or_false] at hx; first | exact hone2 hx | omega)
    replace hs9 := hs9.tN c11 (fun h => (hDt _ h).2 rfl)
    replace ho9 := ho9.tN c11 hDb
    refine en <| sr rfl <| mI rfl <| aI rfl <| en <| x_ret <| ret_tmp (v := .int _ _) rfl rfl ?_
    exact ⟨he1, ⟨k1, rfl⟩, ⟨ts1, out1, hne1, hl1, ⟨_, _, _, _, hb12, hs9, hct9, ho9⟩⟩, HC⟩
   ·obtain ⟨rfl, ⟨At1, capt1, Ao1, capo1, hb9, hs9, hct9, ho9⟩, hwf1, hl1, cP⟩ := hP
    replace HC := HC.trans cP (fun k h => .inl (h))
    replace ht := ht.trP cP (fun h => h.elim (fun h => hone1 ((fun _ h => h) 0 h)) hone2)
    refine aI rfl <| en <| sr rfl <| mP rfl <| nc rfl <| fa T.fld68_2 rfl <| lI T.one3 rfl (hb9.cell rfl) <| Wp rfl <| st_subk rfl rfl (by exact hd2) <| nc rfl <| fa T.fld68_2 rfl <| Wp rfl <| st_store (v := .int _ _) T.size3 rfl rfl rfl hb9 rfl (Nat.le_of_ble_eq_true rfl) (by simp [Value.oneCell', S]) rfl ?_
    intro w13 c14 hb15; simp only [setVs, setV] at hb15
    clear hb9
    replace HC := HC.cB c14
    replace ht := ht.tr c14 (by intro hx; have hlt := ht1; simp only [List.mem_cons, List.mem_nil_iff, or_false] at hx; first | exact hone2 hx | omega)
    replace hs9 := hs9.tN c14 (fun h => (hDt _ h).2 rfl)
    replace ho9 := ho9.tN c14 hDb
    refine en <| sr rfl <| mI rfl <| aI rfl <| en <| x_ret <| ret_tmp (v := .int _ _) rfl rfl ?_
    exact ⟨rfl, ⟨_, _, _, _, hb15, hs9, hct9, ho9⟩, hwf1, hl1, HC⟩
  ·try simp only [nm, ne_eq] at h1
   first | exact absurd rfl h1 | exact absurd trivial h1 | simp at h1

theorem within_bad {Dt : Nat → Prop} {w : World} {b : Nat} {x : Tk} {tl : List Tk} {At Ao : Option Addr} {no capt capo : Nat} {deep pl e : Int} {kv : Value} (he : e ≠ 0) (hd0 : 0 ≤ deep) (hd1 : deep ≤ 1000) (hb : Blk w b [.slice At (x :: tl).length capt, .slice Ao no capo, .int .i64 deep, .int .i64 pl, .int .i64 e] 68) (hs : Sl tkE w Dt At (x :: tl)) (hDtb : ¬ Dt b) (hDtn : ∀ k, w.heap.size ≤ k → ¬ Dt k) :
    CallR Tryz.prog 22 #[.pointer (some ⟨b, 0, none⟩), kv] w fun v w' => v = .int .i64 0 ∧ Blk w' b [.slice At (x :: tl).length capt, .slice Ao no capo, .int .i64 deep, .int .i64 pl, .int .i64 e] 68 ∧ Chg [b] w w' := by
 refine callR_of_wp (args := [_, _]) Tryz.func22 rfl (Nat.le_of_ble_eq_true rfl) ?_
 have HC : Chg [b] w w := .refl _
 have hd3 : IntKind.i64.wrap (deep + 1 - 1) = deep := by rw [show deep + 1 - 1 = deep by omega]; exact wrap64_id (by omega) (by omega)
 refine sr rfl <| aI rfl <| en <| x_seq <| sr rfl <| mP rfl <| nc rfl <| fa T.fld68_2 rfl <| lI T.one3 rfl (hb.cell rfl) <| Wp rfl <| st_addn rfl rfl (by constructor <;> omega) <| nc rfl <| fa T.fld68_2 rfl <| Wp rfl <| st_store (v := .int _ _) T.size3 rfl rfl rfl hb rfl (Nat.le_of_ble_eq_true rfl) (by simp [Value.oneCell', S]) rfl ?_
 intro w1 c2 hb3; simp only [setVs, setV] at hb3
 clear hb
 replace HC := HC.trans c2 (by intro x hx; simp only [List.mem_singleton] at hx; subst hx; exact .inl (by simp))
 replace hs := hs.tr c2 (by intro k hx hD; obtain rfl := List.mem_singleton.1 hx; first | exact hDtb hD | exact absurd hD (hDtn _ ge_b))
 refine en <| sr rfl <| mP rfl <| nc rfl <| fa T.fld68_2 rfl <| lI T.one3 rfl (hb3.cell rfl) <| Wp rfl <| st_gtr rfl rfl <| en <| x_cond rfl (fun h0 => ?_) (fun h0 => ?_)
 ·try simp only [nm, ne_eq] at h0
  refine x_region rfl <| mP rfl <| Wp rfl <| st_call (ags := [_, _]) rfl rfl T.ent24 rfl (fail_spec 104 hb3 hs hDtb (fun k hk => hDtn k (Nat.le_trans HC.size hk))) ?_
  rintro _ w4 ⟨rfl, hb9, c5⟩
  rw [if_neg he, if_neg he] at hb9
  replace HC := HC.trans c5 (by intro x hx; simp only [List.mem_singleton] at hx; subst hx; exact .inl (by simp))
  replace hs := hs.tr c5 (by intro k hx hD; obtain rfl := List.mem_singleton.1 hx; first | exact hDtb hD | exact absurd hD (hDtn _ ge_b))
  refine en <| sr rfl <| aI rfl <| en <| x_seq <| sr rfl <| mP rfl <| nc rfl <| fa T.fld68_4 rfl <| lI T.one25 rfl (hb9.cell rfl) <| Wp rfl <| st_eql rfl rfl <| en <| x_cond rfl (fun h1 => ?_) (fun h1 => ?_)
  ·try simp only [nm, ne_eq] at h1
   exact absurd h1 he
  ·try simp only [nm, ne_eq] at h1
   refine x_skip <| then_n <| sr rfl <| mP rfl <| nc rfl <| fa T.fld68_2 rfl <| lI T.one3 rfl (hb9.cell rfl) <| Wp rfl <| st_subk rfl rfl (by exact hd3) <| nc rfl <| fa T.fld68_2 rfl <| Wp rfl <| st_store (v := .int _ _) T.size3 rfl rfl rfl hb9 rfl (Nat.le_of_ble_eq_true rfl) (by simp [Value.oneCell', S]) rfl ?_
   intro w6 c7 hb8; simp only [setVs, setV] at hb8
   clear hb9
   replace HC := HC.trans c7 (by intro x hx; simp only [List.mem_singleton] at hx; subst hx; exact .inl (by simp))
   replace hs := hs.tr c7 (by intro k hx hD; obtain rfl := List.mem_singleton.1 hx; first | exact hDtb hD | exact absurd hD (hDtn _ ge_b))
   refine en <| sr rfl <| mI rfl <| aI rfl <| en <| x_ret <| ret_tmp (v := .int _ _) rfl rfl ?_
   exact ⟨rfl, hb8, HC⟩
 ·try simp only [nm, ne_eq] at h0
  refine x_skip <| then_n <| sr rfl <| aI rfl <| en <| x_seq <| sr rfl <| mP rfl <| nc rfl <| fa T.fld68_4 rfl <| lI T.one25 rfl (hb3.cell rfl) <| Wp rfl <| st_eql rfl rfl <| en <| x_cond rfl (fun h1 => ?_) (fun h1 => ?_)
  ·try simp only [nm, ne_eq] at h1
   exact absurd h1 he
  ·try simp only [nm, ne_eq] at h1
   refine x_skip <| then_n <| sr rfl <| mP rfl <| nc rfl <| fa T.fld68_2 rfl <| lI T.one3 rfl (hb3.cell rfl) <| Wp rfl <| st_subk rfl rfl (by exact hd3) <| nc rfl <| fa T.fld68_2 rfl <| Wp rfl <| st_store (v := .int _ _) T.size3 rfl rfl rfl hb3 rfl (Nat.le_of_ble_eq_true rfl) (by simp [Value.oneCell', S]) rfl ?_
   intro w9 c10 hb11; simp only [setVs, setV] at hb11
   clear hb3
   replace HC := HC.trans c10 (by intro x hx; simp only [List.mem_singleton] at hx; subst hx; exact .inl (by simp))
   replace hs := hs.tr c10 (by intro k hx hD; obtain rfl := List.mem_singleton.1 hx; first | exact hDtb hD | exact absurd hD (hDtn _ ge_b))
   refine en <| sr rfl <| mI rfl <| aI rfl <| en <| x_ret <| ret_tmp (v := .int _ _) rfl rfl ?_
   exact ⟨rfl, hb11, HC⟩

end Go.Proofs.YtmbbhgglllfelaaGreatDoor.K
