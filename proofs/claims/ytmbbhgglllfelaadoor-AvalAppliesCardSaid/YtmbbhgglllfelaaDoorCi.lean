/- Print. -/
import Derived.Test.YtmbbhgglllfelaaDoorCh
import Derived.Test.YtmbbhgglllfelaaDoorKitN
set_option linter.unusedVariables false
set_option linter.unusedSimpArgs false
set_option autoImplicit false
set_option maxRecDepth 20000
namespace Go.Proofs.YtmbbhgglllfelaaDoor.K
open Go Go.Proofs Go.RowKit

def nodeT (x : Nd) (k : List Bytes) : Bytes :=
  if x.op = [35] then decT x.num.toNat
  else if x.op = [36] then x.name
  else if x.op = [63] then ((((([40] ++ k.getD 0 []) ++ [63]) ++ k.getD 1 []) ++ [58]) ++ k.getD 2 []) ++ [41]
  else if k.length = 2 then ((([40] ++ k.getD 0 []) ++ x.op) ++ k.getD 1 []) ++ [41]
  else if ¬ x.name = [] then ((([40] ++ x.name) ++ x.op) ++ k.getD 0 []) ++ [41]
  else (([40] ++ x.op.drop 1) ++ k.getD 0 []) ++ [41]
/-- The texts of a row's operations, on a stack. -/
def printF : List Nd → List Bytes → List Bytes
  | [], st => st
  | x :: l, st => printF l (st.take (st.length - x.kids.length) ++ [nodeT x (st.drop (st.length - x.kids.length))])
def printV (l : List Nd) : Bytes := (printF l []).headD []
def totL : List Bytes → Nat
  | [] => 0
  | s :: l => s.length + totL l
def lightN : List Nd → Nat
  | [] => 0
  | x :: l => x.name.length + 30 + lightN l
theorem totL_append (a b : List Bytes) : totL (a ++ b) = totL a + totL b := by induction a <;> simp_all [totL, Nat.add_assoc]
theorem lightN_append (a b : List Nd) : lightN (a ++ b) = lightN a + lightN b := by induction a <;> simp_all [lightN, Nat.add_assoc]
theorem totL_cut (st : List Bytes) (m : Nat) : totL (st.take m) + totL (st.drop m) = totL st := by rw [← totL_append, List.take_append_drop]
theorem lightN_step {l : List Nd} {i : Nat} {x : Nd} (h : l[i]? = some x) : lightN (l.take (i + 1)) = lightN (l.take i) + (x.name.length + 30) := by
  rw [List.take_add_one, h, lightN_append]; simp [lightN]
theorem lightN_take (l : List Nd) (i : Nat) : lightN (l.take i) ≤ lightN l := by
  have := lightN_append (l.take i) (l.drop i); rw [List.take_append_drop] at this; omega
theorem totL_at {k : List Bytes} {i : Nat} {s : Bytes} (h : k[i]? = some s) : s.length ≤ totL k := by
  induction k generalizing i with
  | nil => simp at h
  | cons a k ih =>
    cases i with
    | zero => simp at h; subst h; simp only [totL]; omega
    | succ i => simp at h; have := ih h; simp only [totL]; omega
theorem getD_at {k : List Bytes} {i : Nat} {s : Bytes} (h : k[i]? = some s) : k.getD i [] = s := by rw [List.getD_eq_getElem?_getD, h]; rfl
theorem printF_step {l : List Nd} {i : Nat} {x : Nd} {st : List Bytes} (h : l[i]? = some x) : printF (l.drop i) st = printF (l.drop (i + 1)) (st.take (st.length - x.kids.length) ++ [nodeT x (st.drop (st.length - x.kids.length))]) := by
  obtain ⟨hi, he⟩ := List.getElem?_eq_some_iff.1 h
  rw [List.drop_eq_getElem_cons hi, he, printF]
theorem decT_len : ∀ (k n : Nat), n < 10 ^ (k + 1) → (decT n).length ≤ k + 1
  | 0, n, h => by rw [decT, dif_pos (by simpa using h)]; simp
  | k + 1, n, h => by
    rw [decT]
    split
    · simp
    · have := decT_len k (n / 10) (by rw [Nat.pow_succ] at h; omega)
      simp only [List.length_append, List.length_cons, List.length_nil]; omega
theorem decT_20 {n : Nat} (h : n ≤ 9223372036854775807) : (decT n).length ≤ 20 := decT_len 19 n (by have : (10 : Nat) ^ (19 + 1) = 100000000000000000000 := rfl; omega)
def opsB : List Bytes := [[124, 124], [38, 38], [124], [94], [38], [61, 61], [33, 61], [60], [60, 61], [62], [62, 61], [60, 60], [62, 62], [43], [45], [42], [47], [37]]
theorem lvl_in {s : Bytes} (h : 0 < levelV s) : s ∈ opsB := by
  by_cases h1 : s ∈ opsB
  · exact h1
  · exfalso
    simp only [opsB, List.mem_cons, List.not_mem_nil, or_false, not_or] at h1
    simp [levelV, h1] at h
theorem lvl_all : ∀ o, o ∈ opsB → o.length ≤ 2 ∧ o ≠ [63] := by decide
theorem lvl_len {s : Bytes} (h : 0 < levelV s) : s.length ≤ 2 ∧ s ≠ [63] := lvl_all s (lvl_in h)
theorem asg_len {s : Bytes} (h : s ∈ asgL) : s.length ≤ 3 := by revert s; decide
/-- What a fit operation's kids and operator are like. -/
theorem form_is {x : Nd} (h : formP x = true) : x.op.length ≤ 3 ∧ (x.op = [35] → 0 ≤ x.num) ∧ (x.op = [63] → x.kids.length = 3) ∧ (x.op ≠ [35] → x.op ≠ [36] → x.op ≠ [63] → x.kids.length = 2 ∨ (x.kids.length = 1 ∧ (x.name = [] → x.op.length = 2))) := by
  unfold formP at h
  repeat' split at h
  all_goals simp only [Bool.and_eq_true, decide_eq_true_eq] at h
  · rename_i e; rw [e]; refine ⟨by simp, fun _ => h.2.2, fun e2 => by simp at e2, fun e2 => absurd rfl e2⟩
  · rename_i e0 e; rw [e]; refine ⟨by simp, fun e2 => by simp at e2, fun e2 => by simp at e2, fun _ e2 => absurd rfl e2⟩
  · rename_i e0 e1 e
    have h3 := asg_len e
    refine ⟨h3, fun e2 => absurd e2 e0, fun e2 => ?_, fun _ _ _ => .inr ⟨by omega, fun e2 => ?_⟩⟩
    · rw [e2] at e; exact absurd e (by decide)
    · have := h.2.1; rw [e2] at this; cases this
  · rename_i e0 e1 e2 e
    refine ⟨by omega, fun e3 => absurd e3 e0, fun e3 => ?_, fun _ _ _ => .inr ⟨by omega, fun _ => by omega⟩⟩
    · rw [e3] at e; have := e.1; simp at this
  · rename_i e0 e1 e2 e3 e
    rw [e]; exact ⟨by simp, fun e4 => by simp at e4, fun _ => by omega, fun _ _ e4 => absurd rfl e4⟩
  · rename_i e0 e1 e2 e3 e4
    have h3 := lvl_len h.1
    exact ⟨by omega, fun e => absurd e e0, fun e => absurd e e4, fun _ _ _ => .inl (by omega)⟩
theorem sl_cutN {α : Type} {c : Enc α} {w : World} {D : Nat → Prop} {A : Option Addr} {xs : List α} {cap m : Nat} (hs : Sl c w D A xs) (hct : xs.length ≤ cap) : Sl c w D (if cap = m then A else A.map (·.add (m * c.sz))) (xs.drop m) := by
  by_cases h : cap = m
  · subst h; exact .inl (List.drop_of_length_le hct)
  · rw [if_neg h]; exact hs.drop m
theorem fitF_true {l : List Nd} {i : Nat} {x : Nd} {st : List Int} (h : l[i]? = some x) (hf : fitF (l.drop i) i st = true) : formP x = true ∧ x.kids.length ≤ st.length ∧ fitF (l.drop (i + 1)) (i + 1) (st.take (st.length - x.kids.length) ++ [(i : Int)]) = true := by
  rw [fitF_step h] at hf
  split at hf
  · rename_i q; exact ⟨q.1, q.2.1, hf⟩
  · cases hf

theorem Text_num {n : Int} {w : World} (h0 : 0 ≤ n) (h1 : n ≤ 9223372036854775807) : CallR Tryd.prog 73 #[.int .i64 n] w fun v w' => v = S (decT n.toNat) ∧ Chg [] w w' := by
  have h := Text_spec n.toNat (by omega) w
  rwa [show ((n.toNat : Nat) : Int) = n by omega] at h
theorem tot2 {k : List Bytes} {a b : Bytes} (h0 : k[0]? = some a) (h1 : k[1]? = some b) : a.length + b.length ≤ totL k := by
  match k, h0, h1 with
  | x :: y :: k, h0, h1 => simp at h0 h1; subst h0; subst h1; simp only [totL]; omega
theorem tot3 {k : List Bytes} {a b c : Bytes} {n : Nat} (hl : k.length = n) (hn : n = 3) (h0 : k[0]? = some a) (h1 : k[1]? = some b) (h2 : k[2]? = some c) : a.length + b.length + c.length ≤ totL k := by
  match k, h0, h1, h2 with
  | x :: y :: z :: k, h0, h1, h2 => simp at h0 h1 h2; subst h0; subst h1; subst h2; simp only [totL]; omega

end Go.Proofs.YtmbbhgglllfelaaDoor.K
