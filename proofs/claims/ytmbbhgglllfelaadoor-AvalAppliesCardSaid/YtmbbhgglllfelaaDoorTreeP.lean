/- What is read is a tree's row. -/
import Derived.Test.YtmbbhgglllfelaaDoorTree
set_option linter.unusedVariables false
set_option linter.unusedSimpArgs false
set_option autoImplicit false
set_option maxRecDepth 20000
namespace Go.Proofs.YtmbbhgglllfelaaDoor.K
open Go Go.Proofs Go.RowKit Tr
def TokOk (x : Tk) : Prop := (x.1.1 = 1 → 0 ≤ x.1.2.1 ∧ x.1.2.1 ≤ 9223372036854775807) ∧ (x.1.1 = 2 → Nm x.1.2.2)
def ToksOk (ts : List Tk) : Prop := ∀ x, x ∈ ts → TokOk x
theorem ToksOk.drop {ts : List Tk} (h : ToksOk ts) (n : Nat) : ToksOk (ts.drop n) := fun x hx => h x (List.mem_of_mem_drop hx)
theorem ToksOk.hd {ts : List Tk} (h : ToksOk ts) : TokOk (hdT ts) := by
  cases ts with
  | nil => exact ⟨fun e => absurd e (by decide), fun e => absurd e (by decide)⟩
  | cons x l => exact h x (by simp)
/-- Read well: a tree behind what was there. -/
def Good (o0 : List Nd) : PR → Prop
  | .bad e _ => e ≠ 0
  | .good k ts out => (∃ t : Tr, t.ok ∧ out = o0 ++ t.row o0.length ∧ k = t.root o0.length) ∧ ToksOk ts
theorem bad_ne {o0 : List Nd} {e a : Int} (h : e ≠ 0) : Good o0 (.bad e a) := h
theorem bad_of {o1 o2 : List Nd} {e a : Int} (h : Good o1 (.bad e a)) : Good o2 (.bad e a) := h
theorem bind_to {r : Option PR} {f : Int → List Tk → List Nd → Option PR} {G H : PR → Prop} (hr : ∀ p, r = some p → G p) (hb : ∀ e a, G (.bad e a) → H (.bad e a)) (hf : ∀ k ts out, G (.good k ts out) → ∀ p, f k ts out = some p → H p) : ∀ p, PR.bind r f = some p → H p := by
  intro p hp
  unfold PR.bind at hp
  split at hp
  · cases hp
  · cases hp; exact hb _ _ (hr _ rfl)
  · rename_i k ts out; exact hf k ts out (hr _ rfl) p hp
theorem wI_to {q : NT → Nat → List Tk → List Nd → Option PR} {nt : NT} {d : Nat} {ts : List Tk} {out : List Nd} {G : PR → Prop} (hb : ∀ a, G (.bad 104 a)) (h : ∀ p, q nt (d + 1) ts out = some p → G p) : ∀ p, wI q nt d ts out = some p → G p := by
  intro p hp
  unfold wI at hp
  split at hp
  · cases hp; exact hb _
  · exact h p hp
theorem lv_yes {o : Bytes} {n : Nat} (h : o ∈ lvls.getD n []) : 0 < levelV o := by
  have h2 : o ∈ lvls.flatten := by
    rw [List.mem_flatten]
    rw [List.getD_eq_getElem?_getD] at h
    cases hx : lvls[n]? with
    | none => rw [hx] at h; cases h
    | some l => rw [hx] at h; exact ⟨l, List.mem_of_getElem? hx, h⟩
  have h3 : ∀ o, o ∈ lvls.flatten → 0 < levelV o := by decide
  exact h3 o h2
theorem inOp_mem {ts : List Tk} {l : List Bytes} (h : inOp ts l = true) : (hdT ts).1.2.2 ∈ l := by
  unfold inOp at h; simp only [Bool.and_eq_true, List.contains_iff_mem] at h; exact h.2
theorem root_put (t : Tr) (o0 : List Nd) (e : Nat) (h : t.sz = e + 1) : (((o0.length + e : Nat)) : Int) = t.root o0.length := by unfold Tr.root; rw [h]; rfl
/-- What a reader's method comes to: a tree; a level's loop: a greater tree. -/
def Aim (q : NT → Nat → List Tk → List Nd → Option PR) : Prop := ∀ (d : Nat) (ts : List Tk), ToksOk ts →
  (∀ out, (∀ p, q .asg d ts out = some p → Good out p) ∧ (∀ p, q .cho d ts out = some p → Good out p) ∧ (∀ n p, q (.lev n) d ts out = some p → Good out p) ∧ ∀ p, q .trm d ts out = some p → Good out p) ∧
  ∀ n o0 (t : Tr), t.ok → ∀ p, q (.lop n (t.root o0.length)) d ts (o0 ++ t.row o0.length) = some p → Good o0 p
theorem pP_aim : ∀ f, Aim (pP f)
  | 0 => fun d ts _ => ⟨fun out => ⟨fun p h => (by cases h), fun p h => (by cases h), fun n p h => (by cases h), fun p h => (by cases h)⟩, fun n o0 t _ p h => (by cases h)⟩
  | f + 1 => by
    have ih := pP_aim f
    intro d ts hts
    refine ⟨fun out => ⟨?_, ?_, ?_, ?_⟩, ?_⟩
    · intro p hp
      rw [pP] at hp
      split at hp
      · rename_i ha
        unfold isAsg at ha
        rw [Bool.and_eq_true, decide_eq_true_eq] at ha
        refine bind_to (G := Good out) (wI_to (fun _ => bad_ne (by decide)) (((ih (d + 1) _ (hts.drop 2)).1 out).1)) (fun _ _ h => bad_of h) (fun k ts' out' hg q hq => ?_) p hp
        obtain ⟨⟨t, h1, rfl, rfl⟩, h4⟩ := hg
        cases hq
        exact ⟨⟨asg _ _ t, ⟨inOp_mem ha.2, hts.hd.2 ha.1, h1⟩, by rw [row, List.append_assoc], by rw [List.length_append, row_len]; exact root_put (asg _ _ t) out t.sz rfl⟩, h4⟩
      · exact wI_to (fun _ => bad_ne (by decide)) (((ih (d + 1) ts hts).1 out).2.1) p hp
    · intro p hp
      rw [pP] at hp
      refine bind_to (G := Good out) (((ih d ts hts).1 out).2.2.1 0) (fun _ _ h => bad_of h) (fun k ts1 out1 hg q hq => ?_) p hp
      split at hq
      · obtain ⟨⟨a, h1, rfl, rfl⟩, h4⟩ := hg
        refine bind_to (G := Good (out ++ a.row out.length)) (wI_to (fun _ => bad_ne (by decide)) (((ih (d + 1) _ (h4.drop 1)).1 _).1)) (fun _ _ h => bad_of h) (fun k ts2 out2 hg q2 hq2 => ?_) q hq
        obtain ⟨⟨b, h5, rfl, rfl⟩, h8⟩ := hg
        split at hq2
        · refine bind_to (G := Good ((out ++ a.row out.length) ++ b.row (out ++ a.row out.length).length)) (wI_to (fun _ => bad_ne (by decide)) (((ih (d + 1) _ (h8.drop 1)).1 _).2.1)) (fun _ _ h => bad_of h) (fun k ts3 out3 hg q3 hq3 => ?_) q2 hq2
          obtain ⟨⟨c, h9, rfl, rfl⟩, h12⟩ := hg
          cases hq3
          simp only [List.length_append, row_len]
          exact ⟨⟨cnd a b c, ⟨h1, h5, h9⟩, by rw [row]; simp only [List.append_assoc], by rw [Nat.add_assoc, Nat.add_assoc]; exact root_put (cnd a b c) out (a.sz + (b.sz + c.sz)) (by simp only [sz]; omega)⟩, h12⟩
        · cases hq2; exact bad_ne (by decide)
      · cases hq; exact hg
    · intro n p hp
      rw [pP] at hp
      split at hp
      · exact wI_to (fun _ => bad_ne (by decide)) (((ih (d + 1) ts hts).1 out).2.2.2) p hp
      · refine bind_to (G := Good out) (((ih d ts hts).1 out).2.2.1 (n + 1)) (fun _ _ h => bad_of h) (fun k ts1 out1 hg q hq => ?_) p hp
        obtain ⟨⟨t, h1, rfl, rfl⟩, h4⟩ := hg
        exact (ih d ts1 h4).2 n out t h1 q hq
    · intro p hp
      rw [pP] at hp
      split at hp
      · rename_i h1; cases hp
        exact ⟨⟨num _, hts.hd.1 h1, rfl, root_put (num _) out 0 rfl⟩, hts.drop 1⟩
      split at hp
      · rename_i h1; cases hp
        exact ⟨⟨var _, hts.hd.2 h1, rfl, root_put (var _) out 0 rfl⟩, hts.drop 1⟩
      split at hp
      · rename_i ha
        refine bind_to (G := Good out) (wI_to (fun _ => bad_ne (by decide)) (((ih (d + 1) _ (hts.drop 1)).1 out).2.2.2)) (fun _ _ h => bad_of h) (fun k ts' out' hg q hq => ?_) p hp
        obtain ⟨⟨t, h1, rfl, rfl⟩, h4⟩ := hg
        cases hq
        exact ⟨⟨un _ t, ⟨inOp_mem ha, h1⟩, by rw [row, List.append_assoc], by rw [List.length_append, row_len]; exact root_put (un _ t) out t.sz rfl⟩, h4⟩
      split at hp
      · refine bind_to (G := Good out) (wI_to (fun _ => bad_ne (by decide)) (((ih (d + 1) _ (hts.drop 1)).1 out).1)) (fun _ _ h => bad_of h) (fun k ts' out' hg q hq => ?_) p hp
        split at hq
        · cases hq; exact ⟨hg.1, hg.2.drop 1⟩
        · cases hq; exact bad_ne (by decide)
      · cases hp; exact bad_ne (by decide)
    · intro n o0 t ht p hp
      rw [pP] at hp
      split at hp
      · rename_i ha
        refine bind_to (G := Good (o0 ++ t.row o0.length)) (((ih d _ (hts.drop 1)).1 _).2.2.1 (n + 1)) (fun _ _ h => bad_of h) (fun k ts2 out2 hg q hq => ?_) p hp
        obtain ⟨⟨b, h5, rfl, rfl⟩, h8⟩ := hg
        have e1 : ((o0 ++ t.row o0.length) ++ b.row (o0 ++ t.row o0.length).length) ++ [⟨(hdT ts).1.2.2, 0, [], [t.root o0.length, b.root (o0 ++ t.row o0.length).length]⟩] = o0 ++ (bin (hdT ts).1.2.2 t b).row o0.length := by
          simp only [row, List.length_append, row_len, List.append_assoc]
        have e2 : ((((o0 ++ t.row o0.length) ++ b.row (o0 ++ t.row o0.length).length).length : Nat) : Int) = (bin (hdT ts).1.2.2 t b).root o0.length := by
          rw [List.length_append, List.length_append, row_len, row_len, Nat.add_assoc]; exact root_put (bin _ t b) o0 (t.sz + b.sz) rfl
        rw [e1, e2] at hq
        exact (ih d ts2 h8).2 n o0 (bin _ t b) ⟨lv_yes (inOp_mem ha), ht, h5⟩ q hq
      · cases hp; exact ⟨⟨t, ht, rfl, rfl⟩, hts⟩
/-! ### the tokens of a text -/
theorem readN_in {b : Int} (hb : 2 ≤ b) : ∀ (s : Bytes) (n m : Int), 0 ≤ n → n ≤ 9223372036854775807 → readN b n s = some m → 0 ≤ m ∧ m ≤ 9223372036854775807
  | [], n, m, h0, h1, h => by cases h; exact ⟨h0, h1⟩
  | c :: s, n, m, h0, h1, h => by
    rw [readN] at h
    split at h
    · cases h
    · rename_i hc
      have hd : 0 ≤ digV c := by omega
      have hdl := (digV_lt c).2
      have hq : n ≤ (9223372036854775807 - digV c) / b := by
        rw [← Int.tdiv_eq_ediv_of_nonneg (by omega)]; omega
      have hm := (Int.le_ediv_iff_mul_le (by omega)).1 hq
      have hp := Int.mul_nonneg h0 (show 0 ≤ b by omega)
      exact readN_in hb s _ m (by omega) (by omega) h
theorem constB_2 (s : Bytes) : 2 ≤ (constB s).1 := by
  unfold constB; repeat' split
  all_goals (first | decide | (simp only; decide))
theorem take_run : ∀ s : Bytes, (s.take (runN wordB s)).all wordB = true
  | [] => rfl
  | c :: s => by
    cases hw : wordB c with
    | true => simp only [runN, hw, if_true, List.take_succ_cons, List.all_cons, Bool.true_and]; exact take_run s
    | false => simp [runN, hw]
theorem next_tok (s : Bytes) (a : Int) (hs : s.length ≤ 140737488355328) : TokOk ((nextV s).1, a) := by
  unfold nextV
  split
  · exact ⟨fun e => absurd e (by simp), fun e => absurd e (by simp)⟩
  split
  · split
    · rename_i hc
      refine ⟨fun _ => ?_, fun e => absurd e (by simp)⟩
      show 0 ≤ (constV (s.take (runN wordB s))).1 ∧ _
      revert hc
      unfold constV
      split
      · intro hc; cases hc
      · rename_i n hn; intro _; exact readN_in (constB_2 _) _ _ _ (by omega) (by omega) hn
    · exact ⟨fun e => absurd e (by simp), fun e => absurd e (by simp)⟩
  split
  · rename_i h0 hd hr
    refine ⟨fun e => absurd e (by simp), fun _ => ?_⟩
    refine ⟨?_, Nat.le_trans (List.length_take_le' _ _) hs⟩
    show nameV (s.take (runN wordB s)) = true
    cases s with
    | nil => exact absurd rfl h0
    | cons c s =>
      have hw : wordB c = true := by
        cases hw : wordB c with
        | true => rfl
        | false => simp [runN, hw] at hr
      have hb : begB c = true := by
        have hd2 : digB c = false := by
          have hd3 : ¬ digB c = true := hd
          simpa using hd3
        unfold wordB at hw; rw [hd2, Bool.or_false] at hw; exact hw
      simp only [runN, hw, if_true, List.take_succ_cons, nameV, hb, Bool.true_and]
      exact take_run s
  split
  · exact ⟨fun e => absurd e (by simp), fun e => absurd e (by simp)⟩
  · exact ⟨fun e => absurd e (by simp), fun e => absurd e (by simp)⟩
theorem toks_ok {s : Bytes} (hs : s.length ≤ 140737488355328) : ∀ (k i : Nat), ∀ y, y ∈ toksF k s i → TokOk (toTk y)
  | 0, i, y, hy => by cases hy
  | k + 1, i, y, hy => by
    rw [toksF_succ] at hy
    rcases List.mem_cons.1 hy with rfl | hy
    · exact next_tok _ _ (by rw [List.length_drop]; omega)
    · split at hy
      · cases hy
      · exact toks_ok hs k _ y hy
theorem tokV_okT {s : Bytes} {L : List Yd} (hs : s.length ≤ 140737488355328) (hL : toksF (s.length + 1) s 0 = L) : ToksOk (tokV L).1 := by
  subst hL
  unfold tokV
  split
  · exact fun x hx => by cases hx
  · intro x hx
    obtain ⟨y, hy, rfl⟩ := List.mem_map.1 hx
    exact toks_ok hs _ _ y hy
/-- What is read is a tree's row. -/
theorem parse_tree {s : Bytes} {L : List Yd} (hs : s.length ≤ 140737488355328) (hL : toksF (s.length + 1) s 0 = L) : ((parseV s L).2.2 ≠ 0 ∧ (parseV s L).1 = []) ∨ ((parseV s L).2.2 = 0 ∧ ∃ t : Tr, t.ok ∧ t.sz ≤ 1000 ∧ (parseV s L).1 = t.row 0) := by
  have hok := tokV_okT hs hL
  unfold parseV
  split
  · rename_i h; exact .inl ⟨h, rfl⟩
  · obtain ⟨r, hr, _⟩ := parse_tot (tokV L).1
    have hg := wI_to (G := Good []) (fun _ => bad_ne (by decide)) (((pP_aim (fuelP (tokV L).1) 1 (tokV L).1 hok).1 []).1) r hr
    rw [hr]
    cases r with
    | bad e a => exact .inl ⟨hg, rfl⟩
    | good k ts out =>
      obtain ⟨⟨t, h1, h2, h3⟩, h4⟩ := hg
      rw [List.nil_append] at h2
      simp only
      split
      · exact .inl ⟨by simp, rfl⟩
      split
      · exact .inl ⟨by simp, rfl⟩
      · rename_i h5; exact .inr ⟨rfl, t, h1, by rw [h2, row_len] at h5; omega, h2⟩
/-- How long a tree's text is. -/
theorem str_len : ∀ (t : Tr) (b : Nat), t.ok → (str t).length ≤ lightN (t.row b)
  | num n, b, h => by
    have := decT_20 (n := n.toNat) (by have := h.2; omega)
    simp only [str, row, lightN]; omega
  | var s, b, h => by simp only [str, row, lightN]; omega
  | asg o n t, b, h => by
    have h1 := str_len t b h.2.2
    have h2 := asg_len h.1
    simp only [str, row, lightN_append, lightN, List.length_append, List.length_cons, List.length_nil]; omega
  | un o t, b, h => by
    have h1 := str_len t b h.2
    have h2 := un_len h.1
    simp only [str, row, lightN_append, lightN, List.length_append, List.length_cons, List.length_nil]; omega
  | cnd x y z, b, h => by
    have h1 := str_len x b h.1
    have h2 := str_len y (b + x.sz) h.2.1
    have h3 := str_len z (b + x.sz + y.sz) h.2.2
    simp only [str, row, lightN_append, lightN, List.length_append, List.length_cons, List.length_nil]; omega
  | bin o x y, b, h => by
    have h1 := str_len x b h.2.1
    have h2 := str_len y (b + x.sz) h.2.2
    have h3 := (lvl_len h.1).1
    simp only [str, row, lightN_append, lightN, List.length_append, List.length_cons, List.length_nil]; omega
end Go.Proofs.YtmbbhgglllfelaaDoor.K
