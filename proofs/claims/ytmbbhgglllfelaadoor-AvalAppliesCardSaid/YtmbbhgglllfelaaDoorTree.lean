/- Expressions as trees: rows of trees are just the fit rows. -/
import Derived.Test.YtmbbhgglllfelaaDoorCi
set_option linter.unusedVariables false
set_option linter.unusedSimpArgs false
set_option autoImplicit false
set_option maxRecDepth 20000
namespace Go.Proofs.YtmbbhgglllfelaaDoor.K
open Go Go.Proofs Go.RowKit
inductive Tr where
  | num (n : Int)
  | var (s : Bytes)
  | asg (o n : Bytes) (t : Tr)
  | un (o : Bytes) (t : Tr)
  | cnd (a b c : Tr)
  | bin (o : Bytes) (a b : Tr)
namespace Tr
def sz : Tr → Nat
  | num _ => 1
  | var _ => 1
  | asg _ _ t => t.sz + 1
  | un _ t => t.sz + 1
  | cnd a b c => a.sz + b.sz + c.sz + 1
  | bin _ a b => a.sz + b.sz + 1
/-- Where a tree's own operation stands, if its row begins at b. -/
def root (t : Tr) (b : Nat) : Int := ((b + t.sz - 1 : Nat) : Int)
def row : Tr → Nat → List Nd
  | num n, _ => [⟨[35], n, [], []⟩]
  | var s, _ => [⟨[36], 0, s, []⟩]
  | asg o n t, b => t.row b ++ [⟨o, 0, n, [t.root b]⟩]
  | un o t, b => t.row b ++ [⟨117 :: o, 0, [], [t.root b]⟩]
  | cnd x y z, b => x.row b ++ (y.row (b + x.sz) ++ (z.row (b + x.sz + y.sz) ++ [⟨[63], 0, [], [x.root b, y.root (b + x.sz), z.root (b + x.sz + y.sz)]⟩]))
  | bin o x y, b => x.row b ++ (y.row (b + x.sz) ++ [⟨o, 0, [], [x.root b, y.root (b + x.sz)]⟩])
/-- A name, not too long. -/
def Nm (s : Bytes) : Prop := nameV s = true ∧ s.length ≤ 140737488355328
def ok : Tr → Prop
  | num n => 0 ≤ n ∧ n ≤ 9223372036854775807
  | var s => Nm s
  | asg o n t => o ∈ asgL ∧ Nm n ∧ t.ok
  | un o t => o ∈ unL ∧ t.ok
  | cnd a b c => a.ok ∧ b.ok ∧ c.ok
  | bin o a b => 0 < levelV o ∧ a.ok ∧ b.ok
theorem sz_pos (t : Tr) : 0 < t.sz := by cases t <;> simp [sz]
theorem row_len : ∀ (t : Tr) (b : Nat), (t.row b).length = t.sz
  | num _, _ => rfl
  | var _, _ => rfl
  | asg o n t, b => by simp [row, sz, row_len t]
  | un o t, b => by simp [row, sz, row_len t]
  | cnd x y z, b => by simp [row, sz, row_len x, row_len y, row_len z]; omega
  | bin o x y, b => by simp [row, sz, row_len x, row_len y]; omega
end Tr
open Tr
/-! ### what is fit by itself -/
theorem lv_op {o : Bytes} (h : 0 < levelV o) : o ≠ [35] ∧ o ≠ [36] ∧ ¬ o ∈ asgL ∧ ¬ ((o.length : Int) = 2 ∧ ((byte o 0).toNat : Int) = 117 ∧ o.drop 1 ∈ unL) ∧ o ≠ [63] := by
  have h1 := lvl_in h
  revert o
  have : ∀ o, o ∈ opsB → o ≠ [35] ∧ o ≠ [36] ∧ ¬ o ∈ asgL ∧ ¬ ((o.length : Int) = 2 ∧ ((byte o 0).toNat : Int) = 117 ∧ o.drop 1 ∈ unL) ∧ o ≠ [63] := by decide
  intro o _ h1; exact this o h1
theorem asg_op {o : Bytes} (h : o ∈ asgL) : o ≠ [35] ∧ o ≠ [36] := by revert o; decide
theorem un_op {o : Bytes} (h : o ∈ unL) : 117 :: o ≠ [35] ∧ 117 :: o ≠ [36] ∧ ¬ (117 :: o) ∈ asgL ∧ ((117 :: o).length : Int) = 2 := by revert o; decide
theorem form_num {n : Int} {ks : List Int} (h : 0 ≤ n) (hk : ks = []) : formP ⟨[35], n, [], ks⟩ = true := by subst hk; simp [formP, h]
theorem form_var {s : Bytes} (h : nameV s = true) : formP ⟨[36], 0, s, []⟩ = true := by simp [formP, h]
theorem form_asg {o n : Bytes} {k : Int} (ho : o ∈ asgL) (h : nameV n = true) : formP ⟨o, 0, n, [k]⟩ = true := by
  have := asg_op ho; simp [formP, this, ho, h]
theorem form_un {o : Bytes} {k : Int} (ho : o ∈ unL) : formP ⟨117 :: o, 0, [], [k]⟩ = true := by
  obtain ⟨h1, h2, h3, h4⟩ := un_op ho
  unfold formP
  rw [if_neg h1, if_neg h2, if_neg h3, if_pos ⟨h4, rfl, ho⟩]; rfl
theorem form_ite {a b c : Int} : formP ⟨[63], 0, [], [a, b, c]⟩ = true := by
  unfold formP
  rw [if_neg (by simp), if_neg (by simp), if_neg (by show ¬ [63] ∈ asgL; decide), if_neg (by simp), if_pos rfl]; rfl
theorem form_bin {o : Bytes} {a b : Int} (h : 0 < levelV o) : formP ⟨o, 0, [], [a, b]⟩ = true := by
  obtain ⟨h1, h2, h3, h4, h5⟩ := lv_op h
  unfold formP
  rw [if_neg h1, if_neg h2, if_neg h3, if_neg h4, if_neg h5, decide_eq_true h]; rfl
theorem form_cases {x : Nd} (h : formP x = true) : (∃ n, 0 ≤ n ∧ x = ⟨[35], n, [], []⟩) ∨ (∃ s, nameV s = true ∧ x = ⟨[36], 0, s, []⟩) ∨ (∃ o n k, o ∈ asgL ∧ nameV n = true ∧ x = ⟨o, 0, n, [k]⟩) ∨ (∃ o k, o ∈ unL ∧ x = ⟨117 :: o, 0, [], [k]⟩) ∨ (∃ a b c, x = ⟨[63], 0, [], [a, b, c]⟩) ∨ ∃ o a b, 0 < levelV o ∧ x = ⟨o, 0, [], [a, b]⟩ := by
  obtain ⟨op, num, name, kids⟩ := x
  unfold formP at h
  simp only at h
  split at h
  · rename_i e; simp only [Bool.and_eq_true, decide_eq_true_eq] at h
    obtain ⟨h1, h2, h3⟩ := h
    have h1 : kids = [] := List.length_eq_zero_iff.1 (by omega)
    subst e; subst h1; subst h2; exact .inl ⟨num, h3, rfl⟩
  split at h
  · rename_i e; simp only [Bool.and_eq_true, decide_eq_true_eq] at h
    obtain ⟨h1, h2, h3⟩ := h
    have h1 : kids = [] := List.length_eq_zero_iff.1 (by omega)
    subst e; subst h1; subst h3; exact .inr (.inl ⟨name, h2, rfl⟩)
  split at h
  · rename_i e; simp only [Bool.and_eq_true, decide_eq_true_eq] at h
    obtain ⟨h1, h2, h3⟩ := h
    obtain ⟨k, rfl⟩ := List.length_eq_one_iff.1 (show kids.length = 1 by omega)
    subst h3; exact .inr (.inr (.inl ⟨op, name, k, e, h2, rfl⟩))
  split at h
  · rename_i e; simp only [Bool.and_eq_true, decide_eq_true_eq] at h
    obtain ⟨h1, h2, h3⟩ := h
    obtain ⟨k, rfl⟩ := List.length_eq_one_iff.1 (show kids.length = 1 by omega)
    subst h2; subst h3
    obtain ⟨e1, e2, e3⟩ := e
    match op, e1, e2, e3 with
    | [u, v], _, e2, e3 =>
      have hu : u = 117 := UInt8.toNat_inj.1 (by have e4 : ((u.toNat : Nat) : Int) = 117 := e2; show u.toNat = 117; omega)
      subst hu; exact .inr (.inr (.inr (.inl ⟨[v], k, e3, rfl⟩)))
  split at h
  · rename_i e; simp only [Bool.and_eq_true, decide_eq_true_eq] at h
    obtain ⟨h1, h2, h3⟩ := h
    subst e; subst h2; subst h3
    match kids, h1 with
    | [a, b, c], _ => exact .inr (.inr (.inr (.inr (.inl ⟨a, b, c, rfl⟩))))
  · simp only [Bool.and_eq_true, decide_eq_true_eq] at h
    obtain ⟨h0, h1, h2, h3⟩ := h
    subst h2; subst h3
    match kids, h1 with
    | [a, b], _ => exact .inr (.inr (.inr (.inr (.inr ⟨op, a, b, h0, rfl⟩))))
/-! ### a tree's row is fit -/
theorem fit_node {x : Nd} {l : List Nd} {i k : Nat} {st st0 : List Int} (hf : formP x = true) (hs : st = st0 ++ x.kids) (hk : x.kids.length = k) : fitF (x :: l) i st = fitF l (i + 1) (st0 ++ [(i : Int)]) := by
  subst hs
  rw [fitF, if_pos ⟨hf, by simp, by simp⟩]
  simp
theorem fit_row : ∀ (t : Tr) (b : Nat) (l : List Nd) (st : List Int), t.ok → fitF (t.row b ++ l) b st = fitF l (b + t.sz) (st ++ [t.root b])
  | num n, b, l, st, h => by
    show fitF (_ :: l) b st = _
    rw [fit_node (form_num h.1 rfl) (List.append_nil st).symm rfl]; rfl
  | var s, b, l, st, h => by
    show fitF (_ :: l) b st = _
    rw [fit_node (form_var h.1) (List.append_nil st).symm rfl]; rfl
  | asg o n t, b, l, st, h => by
    rw [row, List.append_assoc, fit_row t b _ st h.2.2, List.singleton_append, fit_node (form_asg h.1 h.2.1.1) rfl rfl]
    simp only [root, sz]; congr 1
  | un o t, b, l, st, h => by
    rw [row, List.append_assoc, fit_row t b _ st h.2, List.singleton_append, fit_node (form_un h.1) rfl rfl]
    simp only [root, sz]; congr 1
  | cnd x y z, b, l, st, h => by
    rw [row, List.append_assoc, fit_row x b _ st h.1, List.append_assoc, fit_row y _ _ _ h.2.1, List.append_assoc, fit_row z _ _ _ h.2.2, List.singleton_append, fit_node (st0 := st) form_ite (by simp) rfl]
    simp only [root, sz]; congr 1; · omega
    congr 2; omega
  | bin o x y, b, l, st, h => by
    rw [row, List.append_assoc, fit_row x b _ st h.2.1, List.append_assoc, fit_row y _ _ _ h.2.2, List.singleton_append, fit_node (st0 := st) (form_bin h.1) (by simp) rfl]
    simp only [root, sz]; congr 1; · omega
    congr 2; omega
/-! ### a fit row is a tree's -/
def rows : List Tr → Nat → List Nd
  | [], _ => []
  | t :: ts, b => t.row b ++ rows ts (b + t.sz)
def roots : List Tr → Nat → List Int
  | [], _ => []
  | t :: ts, b => t.root b :: roots ts (b + t.sz)
def szs : List Tr → Nat
  | [] => 0
  | t :: ts => t.sz + szs ts
theorem rows_append : ∀ (a c : List Tr) (b : Nat), rows (a ++ c) b = rows a b ++ rows c (b + szs a)
  | [], c, b => rfl
  | t :: a, c, b => by simp only [List.cons_append, rows, szs, rows_append a c, List.append_assoc]; congr 3; omega
theorem roots_append : ∀ (a c : List Tr) (b : Nat), roots (a ++ c) b = roots a b ++ roots c (b + szs a)
  | [], c, b => rfl
  | t :: a, c, b => by simp only [List.cons_append, roots, szs, roots_append a c]; congr 3; omega
theorem szs_append : ∀ (a c : List Tr), szs (a ++ c) = szs a + szs c
  | [], c => by simp [szs]
  | t :: a, c => by simp only [List.cons_append, szs, szs_append a c]; omega
theorem roots_len : ∀ (a : List Tr) (b : Nat), (roots a b).length = a.length
  | [], _ => rfl
  | t :: a, b => by simp [roots, roots_len a]
theorem cut_last {ts : List Tr} {k : Nat} (h : k ≤ ts.length) : ∃ a c, ts = a ++ c ∧ c.length = k := ⟨ts.take (ts.length - k), ts.drop (ts.length - k), (List.take_append_drop _ _).symm, by rw [List.length_drop]; omega⟩
theorem fit_tree : ∀ (l : List Nd) (i : Nat) (st : List Int) (ts : List Tr), (∀ x, x ∈ l → x.num ≤ 9223372036854775807 ∧ x.name.length ≤ 140737488355328) → fitF l i st = true → (∀ t, t ∈ ts → t.ok) → szs ts = i → st = roots ts 0 → ∃ t : Tr, t.ok ∧ rows ts 0 ++ l = t.row 0
  | [], i, st, ts, hn, h, hok, hi, hs => by
    rw [fitF, decide_eq_true_eq, hs, roots_len] at h
    match ts, h with
    | [t], _ => exact ⟨t, hok t (by simp), by simp [rows]⟩
  | x :: l, i, st, ts, hnum, h, hok, hi, hs => by
    rw [fitF] at h
    split at h
    · rename_i q
      obtain ⟨hf, hk, hd⟩ := q
      rw [hs, roots_len] at hk
      obtain ⟨a, c, hac, hc⟩ := cut_last hk
      have hr : st = roots a 0 ++ roots c (szs a) := by rw [hs, hac, roots_append, Nat.zero_add]
      have hlen : st.length - x.kids.length = (roots a 0).length := by rw [hr, List.length_append, roots_len, roots_len, hc]; omega
      rw [hlen, hr, List.drop_left] at hd
      rw [hlen, hr, List.take_left] at h
      have hi2 : szs a + szs c = i := by rw [← szs_append, ← hac]; exact hi
      have key : ∀ t : Tr, t.ok → rows c (szs a) ++ [x] = t.row (szs a) → ∃ t : Tr, t.ok ∧ rows ts 0 ++ (x :: l) = t.row 0 := fun t ht he => by
        have hl : szs c + 1 = t.sz := by
          have e1 := congrArg List.length he
          rw [List.length_append, row_len] at e1
          have : ∀ (c : List Tr) (b : Nat), (rows c b).length = szs c := by
            intro c; induction c with
            | nil => intro b; rfl
            | cons t c ih => intro b; simp [rows, szs, row_len, ih]
          rw [this] at e1; simpa using e1
        obtain ⟨u, hu, e⟩ := fit_tree l (i + 1) _ (a ++ [t]) (fun z hz => hnum z (by simp [hz])) h (fun z hz => by
          rcases List.mem_append.1 hz with hz | hz
          · exact hok z (by rw [hac]; simp [hz])
          · rw [List.mem_singleton.1 hz]; exact ht) (by rw [szs_append]; simp only [szs]; omega) (by
          rw [roots_append, Nat.zero_add]; simp only [roots, root]; congr 2; omega)
        refine ⟨u, hu, ?_⟩
        rw [← e, hac, rows_append, rows_append, Nat.zero_add]
        simp only [rows, List.append_nil, ← he, List.append_assoc, List.singleton_append]
      have hokc : ∀ t, t ∈ c → t.ok := fun t ht => hok t (by rw [hac]; simp [ht])
      rcases form_cases hf with ⟨n, h1, rfl⟩ | ⟨s, h1, rfl⟩ | ⟨o, n, k, h1, h2, rfl⟩ | ⟨o, k, h1, rfl⟩ | ⟨k1, k2, k3, rfl⟩ | ⟨o, k1, k2, h1, rfl⟩
      · match c, hc with
        | [], _ => exact key (num n) ⟨h1, (hnum _ List.mem_cons_self).1⟩ rfl
      · match c, hc with
        | [], _ => exact key (var s) ⟨h1, (hnum _ List.mem_cons_self).2⟩ rfl
      · match c, hc with
        | [t], _ =>
          simp only [roots, List.cons.injEq, and_true] at hd
          exact key (asg o n t) ⟨h1, ⟨h2, (hnum _ List.mem_cons_self).2⟩, hokc t (by simp)⟩ (by simp [rows, row, hd])
      · match c, hc with
        | [t], _ =>
          simp only [roots, List.cons.injEq, and_true] at hd
          exact key (un o t) ⟨h1, hokc t (by simp)⟩ (by simp [rows, row, hd])
      · match c, hc with
        | [t1, t2, t3], _ =>
          simp only [roots, List.cons.injEq, and_true] at hd
          exact key (cnd t1 t2 t3) ⟨hokc t1 (by simp), hokc t2 (by simp), hokc t3 (by simp)⟩ (by simp [rows, row, hd])
      · match c, hc with
        | [t1, t2], _ =>
          simp only [roots, List.cons.injEq, and_true] at hd
          exact key (bin o t1 t2) ⟨h1, hokc t1 (by simp), hokc t2 (by simp)⟩ (by simp [rows, row, hd])
    · cases h
theorem fitV_tree {l : List Nd} (hn : ∀ x, x ∈ l → x.num ≤ 9223372036854775807 ∧ x.name.length ≤ 140737488355328) (h : fitV l = true) : ∃ t : Tr, t.ok ∧ l = t.row 0 ∧ t.sz ≤ 1000 := by
  unfold fitV at h
  rw [Bool.and_eq_true, decide_eq_true_eq] at h
  obtain ⟨t, h1, h2⟩ := fit_tree l 0 [] [] hn h.2 (fun t ht => by cases ht) rfl rfl
  have h2 : l = t.row 0 := h2
  exact ⟨t, h1, h2, by have := row_len t 0; rw [← h2] at this; omega⟩
theorem tree_fitV {t : Tr} (h : t.ok) (hs : t.sz ≤ 1000) : fitV (t.row 0) = true := by
  unfold fitV
  have h1 := fit_row t 0 [] [] h
  rw [List.append_nil] at h1
  rw [h1, row_len, decide_eq_true ⟨t.sz_pos, hs⟩]; rfl
theorem tree_num : ∀ (t : Tr) (b : Nat), t.ok → ∀ x, x ∈ t.row b → x.num ≤ 9223372036854775807
  | num n, b, h, x, hx => by rw [List.mem_singleton.1 hx]; exact h.2
  | var s, b, h, x, hx => by rw [List.mem_singleton.1 hx]; show (0 : Int) ≤ _; omega
  | asg o n t, b, h, x, hx => by
    rcases List.mem_append.1 hx with hx | hx
    · exact tree_num t b h.2.2 x hx
    · rw [List.mem_singleton.1 hx]; show (0 : Int) ≤ _; omega
  | un o t, b, h, x, hx => by
    rcases List.mem_append.1 hx with hx | hx
    · exact tree_num t b h.2 x hx
    · rw [List.mem_singleton.1 hx]; show (0 : Int) ≤ _; omega
  | cnd p q r, b, h, x, hx => by
    rcases List.mem_append.1 hx with hx | hx
    · exact tree_num p b h.1 x hx
    rcases List.mem_append.1 hx with hx | hx
    · exact tree_num q _ h.2.1 x hx
    rcases List.mem_append.1 hx with hx | hx
    · exact tree_num r _ h.2.2 x hx
    · rw [List.mem_singleton.1 hx]; show (0 : Int) ≤ _; omega
  | bin o p q, b, h, x, hx => by
    rcases List.mem_append.1 hx with hx | hx
    · exact tree_num p b h.2.1 x hx
    rcases List.mem_append.1 hx with hx | hx
    · exact tree_num q _ h.2.2 x hx
    · rw [List.mem_singleton.1 hx]; show (0 : Int) ≤ _; omega
theorem tree_name : ∀ (t : Tr) (b : Nat), t.ok → ∀ x, x ∈ t.row b → x.name.length ≤ 140737488355328
  | num n, b, h, x, hx => by rw [List.mem_singleton.1 hx]; exact Nat.zero_le _
  | var s, b, h, x, hx => by rw [List.mem_singleton.1 hx]; exact h.2
  | asg o n t, b, h, x, hx => by
    rcases List.mem_append.1 hx with hx | hx
    · exact tree_name t b h.2.2 x hx
    · rw [List.mem_singleton.1 hx]; exact h.2.1.2
  | un o t, b, h, x, hx => by
    rcases List.mem_append.1 hx with hx | hx
    · exact tree_name t b h.2 x hx
    · rw [List.mem_singleton.1 hx]; exact Nat.zero_le _
  | cnd p q r, b, h, x, hx => by
    rcases List.mem_append.1 hx with hx | hx
    · exact tree_name p b h.1 x hx
    rcases List.mem_append.1 hx with hx | hx
    · exact tree_name q _ h.2.1 x hx
    rcases List.mem_append.1 hx with hx | hx
    · exact tree_name r _ h.2.2 x hx
    · rw [List.mem_singleton.1 hx]; exact Nat.zero_le _
  | bin o p q, b, h, x, hx => by
    rcases List.mem_append.1 hx with hx | hx
    · exact tree_name p b h.2.1 x hx
    rcases List.mem_append.1 hx with hx | hx
    · exact tree_name q _ h.2.2 x hx
    · rw [List.mem_singleton.1 hx]; exact Nat.zero_le _
theorem tree_kids : ∀ (t : Tr) (b : Nat), ∀ x, x ∈ t.row b → x.kids.length ≤ 3
  | num n, b, x, hx => by rw [List.mem_singleton.1 hx]; exact Nat.zero_le _
  | var s, b, x, hx => by rw [List.mem_singleton.1 hx]; exact Nat.zero_le _
  | asg o n t, b, x, hx => by
    rcases List.mem_append.1 hx with hx | hx
    · exact tree_kids t b x hx
    · rw [List.mem_singleton.1 hx]; show (1 : Nat) ≤ 3; omega
  | un o t, b, x, hx => by
    rcases List.mem_append.1 hx with hx | hx
    · exact tree_kids t b x hx
    · rw [List.mem_singleton.1 hx]; show (1 : Nat) ≤ 3; omega
  | cnd p q r, b, x, hx => by
    rcases List.mem_append.1 hx with hx | hx
    · exact tree_kids p b x hx
    rcases List.mem_append.1 hx with hx | hx
    · exact tree_kids q _ x hx
    rcases List.mem_append.1 hx with hx | hx
    · exact tree_kids r _ x hx
    · rw [List.mem_singleton.1 hx]; show (3 : Nat) ≤ 3; omega
  | bin o p q, b, x, hx => by
    rcases List.mem_append.1 hx with hx | hx
    · exact tree_kids p b x hx
    rcases List.mem_append.1 hx with hx | hx
    · exact tree_kids q _ x hx
    · rw [List.mem_singleton.1 hx]; show (2 : Nat) ≤ 3; omega
/-! ### a tree's text -/
def str : Tr → Bytes
  | num n => decT n.toNat
  | var s => s
  | asg o n t => ((([40] ++ n) ++ o) ++ str t) ++ [41]
  | un o t => (([40] ++ o) ++ str t) ++ [41]
  | cnd a b c => ((((([40] ++ str a) ++ [63]) ++ str b) ++ [58]) ++ str c) ++ [41]
  | bin o a b => ((([40] ++ str a) ++ o) ++ str b) ++ [41]
theorem print_node {x : Nd} {l : List Nd} {st st0 ks : List Bytes} (hs : st = st0 ++ ks) (hk : x.kids.length = ks.length) : printF (x :: l) st = printF l (st0 ++ [nodeT x ks]) := by
  subst hs
  rw [printF, hk, show (st0 ++ ks).length - ks.length = st0.length by simp, List.take_left, List.drop_left]
theorem print_row : ∀ (t : Tr) (b : Nat) (l : List Nd) (st : List Bytes), t.ok → printF (t.row b ++ l) st = printF l (st ++ [str t])
  | num n, b, l, st, h => by
    show printF (_ :: l) st = _
    rw [print_node (ks := []) (List.append_nil st).symm rfl]; rfl
  | var s, b, l, st, h => by
    show printF (_ :: l) st = _
    rw [print_node (ks := []) (List.append_nil st).symm rfl]; rfl
  | asg o n t, b, l, st, h => by
    rw [row, List.append_assoc, print_row t b _ st h.2.2, List.singleton_append, print_node (ks := [str t]) rfl rfl]
    have h1 := asg_op h.1
    have h2 : o ≠ [63] := fun e => by have := h.1; rw [e] at this; exact absurd this (by decide)
    have h3 : n ≠ [] := fun e => by have := h.2.1.1; rw [e] at this; cases this
    unfold nodeT
    rw [if_neg h1.1, if_neg h1.2, if_neg h2, if_neg (by simp), if_pos h3]; rfl
  | un o t, b, l, st, h => by
    rw [row, List.append_assoc, print_row t b _ st h.2, List.singleton_append, print_node (ks := [str t]) rfl rfl]
    have h1 := un_op h.1
    unfold nodeT
    rw [if_neg h1.1, if_neg h1.2.1, if_neg (by simp), if_neg (by simp), if_neg (by simp)]; rfl
  | cnd x y z, b, l, st, h => by
    rw [row, List.append_assoc, print_row x b _ st h.1, List.append_assoc, print_row y _ _ _ h.2.1, List.append_assoc, print_row z _ _ _ h.2.2, List.singleton_append, print_node (st0 := st) (ks := [str x, str y, str z]) (by simp) rfl]
    unfold nodeT
    rw [if_neg (by simp), if_neg (by simp), if_pos rfl]; rfl
  | bin o x y, b, l, st, h => by
    rw [row, List.append_assoc, print_row x b _ st h.2.1, List.append_assoc, print_row y _ _ _ h.2.2, List.singleton_append, print_node (st0 := st) (ks := [str x, str y]) (by simp) rfl]
    obtain ⟨h1, h2, h3, h4, h5⟩ := lv_op h.1
    unfold nodeT
    rw [if_neg h1, if_neg h2, if_neg h5, if_pos (by rfl)]; rfl
theorem printV_tree {t : Tr} (h : t.ok) : printV (t.row 0) = str t := by
  have h1 := print_row t 0 [] [] h
  rw [List.append_nil] at h1
  unfold printV; rw [h1]; rfl
end Go.Proofs.YtmbbhgglllfelaaDoor.K
