import Derived.Test.YtmbbhgglllfelaaGreatDoorTree
import Derived.Test.YtmbbhgglllfelaaGreatDoorLibV
import Derived.Test.YtmbbhgglllfelaaGreatDoorKitQ
import Derived.Test.YtmbbhgglllfelaaGreatDoorKitS
import Derived.Lib.AppendZerosOnto
import Derived.Lib.Overlaps
set_option linter.unusedVariables false
set_option linter.unusedSimpArgs false
set_option autoImplicit false
set_option maxRecDepth 20000
namespace Go.Proofs.YtmbbhgglllfelaaGreatDoor.K
open Go Go.Proofs Go.RowKit Tr
def TokOk (x : Tk) : Prop := (x.1.1 = 1 → 0 ≤ x.1.2.1 ∧ x.1.2.1 ≤ 9223372036854775807) ∧ (x.1.1 = 2 → Nm x.1.2.2)
def ToksOk (ts : List Tk) : Prop := ∀ x, x ∈ ts → TokOk x
theorem ToksOk.drop {ts : List Tk} (h : ToksOk ts) (n : Nat) : ToksOk (ts.drop n) := fun x hx => h x (List.mem_of_mem_drop hx)
theorem ToksOk.hd {ts : List Tk} (h : ToksOk ts) : TokOk (hdT ts) := by
  cases ts with
  | nil => exact ⟨fun e => absurd e (by decide), fun e => absurd e (by decide)⟩
  | cons x l => exact h x (by simp)
/-- Read well: a tree behind what was there. -/
def Good (o0 : List Nd) : PR → Prop
  | .bad e _ => e ≠ 0
  | .good k ts out => (∃ t : Tr, t.ok ∧ out = o0 ++ t.row o0.length ∧ k = t.root o0.length) ∧ ToksOk ts
theorem bad_ne {o0 : List Nd} {e a : Int} (h : e ≠ 0) : Good o0 (.bad e a) := h
theorem bad_of {o1 o2 : List Nd} {e a : Int} (h : Good o1 (.bad e a)) : Good o2 (.bad e a) := h
theorem bind_to {r : Option PR} {f : Int → List Tk → List Nd → Option PR} {G H : PR → Prop} (hr : ∀ p, r = some p → G p) (hb : ∀ e a, G (.bad e a) → H (.bad e a)) (hf : ∀ k ts out, G (.good k ts out) → ∀ p, f k ts out = some p → H p) : ∀ p, PR.bind r f = some p → H p := by
  intro p hp
  unfold PR.bind at hp
  split at hp
  · cases hp
  · cases hp; exact hb _ _ (hr _ rfl)
  · rename_i k ts out; exact hf k ts out (hr _ rfl) p hp
theorem wI_to {q : NT → Nat → List Tk → List Nd → Option PR} {nt : NT} {d : Nat} {ts : List Tk} {out : List Nd} {G : PR → Prop} (hb : ∀ a, G (.bad 104 a)) (h : ∀ p, q nt (d + 1) ts out = some p → G p) : ∀ p, wI q nt d ts out = some p → G p := by
  intro p hp
  unfold wI at hp
  split at hp
  · cases hp; exact hb _
  · exact h p hp
theorem lv_yes {o : Bytes} {n : Nat} (h : o ∈ lvls.getD n []) : 0 < levelV o := by
  have h2 : o ∈ lvls.flatten := by
    rw [List.mem_flatten]
    rw [List.getD_eq_getElem?_getD] at h
    cases hx : lvls[n]? with
    | none => rw [hx] at h; cases h
    | some l => rw [hx] at h; exact ⟨l, List.mem_of_getElem? hx, h⟩
  have h3 : ∀ o, o ∈ lvls.flatten → 0 < levelV o := by decide
  exact h3 o h2
theorem inOp_mem {ts : List Tk} {l : List Bytes} (h : inOp ts l = true) : (hdT ts).1.2.2 ∈ l := by
  unfold inOp at h; simp only [Bool.and_eq_true, List.contains_iff_mem] at h; exact h.2
theorem root_put (t : Tr) (o0 : List Nd) (e : Nat) (h : t.sz = e + 1) : (((o0.length + e : Nat)) : Int) = t.root o0.length := by unfold Tr.root; rw [h]; rfl
/-- What a reader's method comes to: a tree; a level's loop: a greater tree. -/
def Aim (q : NT → Nat → List Tk → List Nd → Option PR) : Prop := ∀ (d : Nat) (ts : List Tk), ToksOk ts →
  (∀ out, (∀ p, q .asg d ts out = some p → Good out p) ∧ (∀ p, q .cho d ts out = some p → Good out p) ∧ (∀ n p, q (.lev n) d ts out = some p → Good out p) ∧ ∀ p, q .trm d ts out = some p → Good out p) ∧
  ∀ n o0 (t : Tr), t.ok → ∀ p, q (.lop n (t.root o0.length)) d ts (o0 ++ t.row o0.length) = some p → Good o0 p
theorem pP_aim : ∀ f, Aim (pP f)
  | 0 => fun d ts _ => ⟨fun out => ⟨fun p h => (by cases h), fun p h => (by cases h), fun n p h => (by cases h), fun p h => (by cases h)⟩, fun n o0 t _ p h => (by cases h)⟩
  | f + 1 => by
    have ih := pP_aim f
    intro d ts hts
    refine ⟨fun out => ⟨?_, ?_, ?_, ?_⟩, ?_⟩
    · intro p hp
      rw [pP] at hp
      split at hp
      · rename_i ha
        unfold isAsg at ha
        rw [Bool.and_eq_true, decide_eq_true_eq] at ha
        refine bind_to (G := Good out) (wI_to (fun _ => bad_ne (by decide)) (((ih (d + 1) _ (hts.drop 2)).1 out).1)) (fun _ _ h => bad_of h) (fun k ts' out' hg q hq => ?_) p hp
        obtain ⟨⟨t, h1, rfl, rfl⟩, h4⟩ := hg
        cases hq
        exact ⟨⟨asg _ _ t, ⟨inOp_mem ha.2, hts.hd.2 ha.1, h1⟩, by rw [row, List.append_assoc], by rw [List.length_append, row_len]; exact root_put (asg _ _ t) out t.sz rfl⟩, h4⟩
      · exact wI_to (fun _ => bad_ne (by decide)) (((ih (d + 1) ts hts).1 out).2.1) p hp
    · intro p hp
      rw [pP] at hp
      refine bind_to (G := Good out) (((ih d ts hts).1 out).2.2.1 0) (fun _ _ h => bad_of h) (fun k ts1 out1 hg q hq => ?_) p hp
      split at hq
      · obtain ⟨⟨a, h1, rfl, rfl⟩, h4⟩ := hg
        refine bind_to (G := Good (out ++ a.row out.length)) (wI_to (fun _ => bad_ne (by decide)) (((ih (d + 1) _ (h4.drop 1)).1 _).1)) (fun _ _ h => bad_of h) (fun k ts2 out2 hg q2 hq2 => ?_) q hq
        obtain ⟨⟨b, h5, rfl, rfl⟩, h8⟩ := hg
        split at hq2
        · refine bind_to (G := Good ((out ++ a.row out.length) ++ b.row (out ++ a.row out.length).length)) (wI_to (fun _ => bad_ne (by decide)) (((ih (d + 1) _ (h8.drop 1)).1 _).2.1)) (fun _ _ h => bad_of h) (fun k ts3 out3 hg q3 hq3 => ?_) q2 hq2
          obtain ⟨⟨c, h9, rfl, rfl⟩, h12⟩ := hg
          cases hq3
          simp only [List.length_append, row_len]
          exact ⟨⟨cnd a b c, ⟨h1, h5, h9⟩, by rw [row]; simp only [List.append_assoc], by rw [Nat.add_assoc, Nat.add_assoc]; exact root_put (cnd a b c) out (a.sz + (b.sz + c.sz)) (by simp only [sz]; omega)⟩, h12⟩
        · cases hq2; exact bad_ne (by decide)
      · cases hq; exact hg
    · intro n p hp
      rw [pP] at hp
      split at hp
      · exact wI_to (fun _ => bad_ne (by decide)) (((ih (d + 1) ts hts).1 out).2.2.2) p hp
      · refine bind_to (G := Good out) (((ih d ts hts).1 out).2.2.1 (n + 1)) (fun _ _ h => bad_of h) (fun k ts1 out1 hg q hq => ?_) p hp
        obtain ⟨⟨t, h1, rfl, rfl⟩, h4⟩ := hg
        exact (ih d ts1 h4).2 n out t h1 q hq
    · intro p hp
      rw [pP] at hp
      split at hp
      · rename_i h1; cases hp
        exact ⟨⟨num _, hts.hd.1 h1, rfl, root_put (num _) out 0 rfl⟩, hts.drop 1⟩
      split at hp
      · rename_i h1; cases hp
        exact ⟨⟨var _, hts.hd.2 h1, rfl, root_put (var _) out 0 rfl⟩, hts.drop 1⟩
      split at hp
      · rename_i ha
        refine bind_to (G := Good out) (wI_to (fun _ => bad_ne (by decide)) (((ih (d + 1) _ (hts.drop 1)).1 out).2.2.2)) (fun _ _ h => bad_of h) (fun k ts' out' hg q hq => ?_) p hp
        obtain ⟨⟨t, h1, rfl, rfl⟩, h4⟩ := hg
        cases hq
        exact ⟨⟨un _ t, ⟨inOp_mem ha, h1⟩, by rw [row, List.append_assoc], by rw [List.length_append, row_len]; exact root_put (un _ t) out t.sz rfl⟩, h4⟩
      split at hp
      · refine bind_to (G := Good out) (wI_to (fun _ => bad_ne (by decide)) (((ih (d + 1) _ (hts.drop 1)).1 out).1)) (fun _ _ h => bad_of h) (fun k ts' out' hg q hq => ?_) p hp
        split at hq
        · cases hq; exact ⟨hg.1, hg.2.drop 1⟩
        · cases hq; exact bad_ne (by decide)
      · cases hp; exact bad_ne (by decide)
    · intro n o0 t ht p hp
      rw [pP] at hp
      split at hp
      · rename_i ha
        refine bind_to (G := Good (o0 ++ t.row o0.length)) (((ih d _ (hts.drop 1)).1 _).2.2.1 (n + 1)) (fun _ _ h => bad_of h) (fun k ts2 out2 hg q hq => ?_) p hp
        obtain ⟨⟨b, h5, rfl, rfl⟩, h8⟩ := hg
        have e1 : ((o0 ++ t.row o0.length) ++ b.row (o0 ++ t.row o0.length).length) ++ [⟨(hdT ts).1.2.2, 0, [], [t.root o0.length, b.root (o0 ++ t.row o0.length).length]⟩] = o0 ++ (bin (hdT ts).1.2.2 t b).row o0.length := by
          simp only [row, List.length_append, row_len, List.append_assoc]
        have e2 : ((((o0 ++ t.row o0.length) ++ b.row (o0 ++ t.row o0.length).length).length : Nat) : Int) = (bin (hdT ts).1.2.2 t b).root o0.length := by
          rw [List.length_append, List.length_append, row_len, row_len, Nat.add_assoc]; exact root_put (bin _ t b) o0 (t.sz + b.sz) rfl
        rw [e1, e2] at hq
        exact (ih d ts2 h8).2 n o0 (bin _ t b) ⟨lv_yes (inOp_mem ha), ht, h5⟩ q hq
      · cases hp; exact ⟨⟨t, ht, rfl, rfl⟩, hts⟩
/-! ### the tokens of a text -/
theorem readN_in {b : Int} (hb : 2 ≤ b) : ∀ (s : Bytes) (n m : Int), 0 ≤ n → n ≤ 9223372036854775807 → readN b n s = some m → 0 ≤ m ∧ m ≤ 9223372036854775807
  | [], n, m, h0, h1, h => by cases h; exact ⟨h0, h1⟩
  | c :: s, n, m, h0, h1, h => by
    rw [readN] at h
    split at h
    · cases h
    · rename_i hc
      have hd : 0 ≤ digV c := by omega
      have hdl := (digV_lt c).2
      have hq : n ≤ (9223372036854775807 - digV c) / b := by
        rw [← Int.tdiv_eq_ediv_of_nonneg (by omega)]; omega
      have hm := (Int.le_ediv_iff_mul_le (by omega)).1 hq
      have hp := Int.mul_nonneg h0 (show 0 ≤ b by omega)
      exact readN_in hb s _ m (by omega) (by omega) h
theorem constB_2 (s : Bytes) : 2 ≤ (constB s).1 := by
  unfold constB; repeat' split
  all_goals (first | decide | (simp only; decide))
theorem take_run : ∀ s : Bytes, (s.take (runN wordB s)).all wordB = true
  | [] => rfl
  | c :: s => by
    cases hw : wordB c with
    | true => simp only [runN, hw, if_true, List.take_succ_cons, List.all_cons, Bool.true_and]; exact take_run s
    | false => simp [runN, hw]
theorem next_tok (s : Bytes) (a : Int) (hs : s.length ≤ 140737488355328) : TokOk ((nextV s).1, a) := by
  unfold nextV
  split
  · exact ⟨fun e => absurd e (by simp), fun e => absurd e (by simp)⟩
  split
  · split
    · rename_i hc
      refine ⟨fun _ => ?_, fun e => absurd e (by simp)⟩
      show 0 ≤ (constV (s.take (runN wordB s))).1 ∧ _
      revert hc
      unfold constV
      split
      · intro hc; cases hc
      · rename_i n hn; intro _; exact readN_in (constB_2 _) _ _ _ (by omega) (by omega) hn
    · exact ⟨fun e => absurd e (by simp), fun e => absurd e (by simp)⟩
  split
  · rename_i h0 hd hr
    refine ⟨fun e => absurd e (by simp), fun _ => ?_⟩
    refine ⟨?_, Nat.le_trans (List.length_take_le' _ _) hs⟩
    show nameV (s.take (runN wordB s)) = true
    cases s with
    | nil => exact absurd rfl h0
    | cons c s =>
      have hw : wordB c = true := by
        cases hw : wordB c with
        | true => rfl
        | false => simp [runN, hw] at hr
      have hb : begB c = true := by
        have hd2 : digB c = false := by
          have hd3 : ¬ digB c = true := hd
          simpa using hd3
        unfold wordB at hw; rw [hd2, Bool.or_false] at hw; exact hw
      simp only [runN, hw, if_true, List.take_succ_cons, nameV, hb, Bool.true_and]
      exact take_run s
  split
  · exact ⟨fun e => absurd e (by simp), fun e => absurd e (by simp)⟩
  · exact ⟨fun e => absurd e (by simp), fun e => absurd e (by simp)⟩
theorem toks_ok {s : Bytes} (hs : s.length ≤ 140737488355328) : ∀ (k i : Nat), ∀ y, y ∈ toksF k s i → TokOk (toTk y)
  | 0, i, y, hy => by cases hy
  | k + 1, i, y, hy => by
    rw [toksF_succ] at hy
    rcases List.mem_cons.1 hy with rfl | hy
    · exact next_tok _ _ (by rw [List.length_drop]; omega)
    · split at hy
      · cases hy
      · exact toks_ok hs k _ y hy
theorem tokV_okT {s : Bytes} {L : List Yd} (hs : s.length ≤ 140737488355328) (hL : toksF (s.length + 1) s 0 = L) : ToksOk (tokV L).1 := by
  subst hL
  unfold tokV
  split
  · exact fun x hx => by cases hx
  · intro x hx
    obtain ⟨y, hy, rfl⟩ := List.mem_map.1 hx
    exact toks_ok hs _ _ y hy
/-- What is read is a tree's row. -/
theorem parse_tree {s : Bytes} {L : List Yd} (hs : s.length ≤ 140737488355328) (hL : toksF (s.length + 1) s 0 = L) : ((parseV s L).2.2 ≠ 0 ∧ (parseV s L).1 = []) ∨ ((parseV s L).2.2 = 0 ∧ ∃ t : Tr, t.ok ∧ t.sz ≤ 1000 ∧ (parseV s L).1 = t.row 0) := by
  have hok := tokV_okT hs hL
  unfold parseV
  split
  · rename_i h; exact .inl ⟨h, rfl⟩
  · obtain ⟨r, hr, _⟩ := parse_tot (tokV L).1
    have hg := wI_to (G := Good []) (fun _ => bad_ne (by decide)) (((pP_aim (fuelP (tokV L).1) 1 (tokV L).1 hok).1 []).1) r hr
    rw [hr]
    cases r with
    | bad e a => exact .inl ⟨hg, rfl⟩
    | good k ts out =>
      obtain ⟨⟨t, h1, h2, h3⟩, h4⟩ := hg
      rw [List.nil_append] at h2
      simp only
      split
      · exact .inl ⟨by simp, rfl⟩
      split
      · exact .inl ⟨by simp, rfl⟩
      · rename_i h5; exact .inr ⟨rfl, t, h1, by rw [h2, row_len] at h5; omega, h2⟩
/-- How long a tree's text is. -/
theorem str_len : ∀ (t : Tr) (b : Nat), t.ok → (str t).length ≤ lightN (t.row b)
  | num n, b, h => by
    have := decT_20 (n := n.toNat) (by have := h.2; omega)
    simp only [str, row, lightN]; omega
  | var s, b, h => by simp only [str, row, lightN]; omega
  | asg o n t, b, h => by
    have h1 := str_len t b h.2.2
    have h2 := asg_len h.1
    simp only [str, row, lightN_append, lightN, List.length_append, List.length_cons, List.length_nil]; omega
  | un o t, b, h => by
    have h1 := str_len t b h.2
    have h2 := un_len h.1
    simp only [str, row, lightN_append, lightN, List.length_append, List.length_cons, List.length_nil]; omega
  | cnd x y z, b, h => by
    have h1 := str_len x b h.1
    have h2 := str_len y (b + x.sz) h.2.1
    have h3 := str_len z (b + x.sz + y.sz) h.2.2
    simp only [str, row, lightN_append, lightN, List.length_append, List.length_cons, List.length_nil]; omega
  | bin o x y, b, h => by
    have h1 := str_len x b h.2.1
    have h2 := str_len y (b + x.sz) h.2.2
    have h3 := (lvl_len h.1).1
    simp only [str, row, lightN_append, lightN, List.length_append, List.length_cons, List.length_nil]; omega
end Go.Proofs.YtmbbhgglllfelaaGreatDoor.K
set_option linter.unusedVariables false
set_option linter.unusedSimpArgs false
set_option autoImplicit false
set_option maxRecDepth 20000
namespace Go.Proofs.YtmbbhgglllfelaaGreatDoor.K
open Go Go.Proofs Go.RowKit

/-- A variable's number, or its error. -/
def valV (s : Bytes) : Int × Int :=
  if s = [] then (0, 0)
  else if Lib.trimPrefix s [45] = s then
    (if (constV (Lib.trimPrefix s [43])).2 = true then (IntKind.i64.wrap (1 * (constV (Lib.trimPrefix s [43])).1), 0) else (0, 102))
  else if (constV (Lib.trimPrefix s [45])).2 = true then (IntKind.i64.wrap (-1 * (constV (Lib.trimPrefix s [45])).1), 0) else (0, 102)
theorem trim_len (s p : Bytes) : (Lib.trimPrefix s p).length ≤ s.length := by unfold Lib.trimPrefix; split <;> simp

theorem Value_spec (s : Bytes) (w : World) (hs : s.length ≤ 9223372036854775807) : CallR Tryz.prog 48 #[S s] w fun v w' => v = .tuple ⟨[.int .i64 (valV s).1, .int .i64 (valV s).2]⟩ ∧ Chg [] w w' := by
 have htl := trim_len s [45]
 have htl2 := trim_len s [43]
 refine callR_of_wp (args := [_]) Tryz.func48 rfl (Nat.le_of_ble_eq_true rfl) ?_
 have HC : Chg [] w w := .refl _
 refine sr rfl <| aI rfl <| aI rfl <| en <| x_seq <| sr rfl <| mS rfl <| Wp rfl <| st_seql rfl rfl <| en <| x_cond rfl (fun h0 => ?_) (fun h0 => ?_)
 ·try simp only [nm, ne_eq] at h0
  refine sr rfl <| aI rfl <| aI rfl <| en <| x_ret <| then_r <| ret_tmp2 (v := .int _ _) (v2 := .int _ _) rfl rfl rfl <| ⟨?_, HC⟩
  first | (simp [valV, *]; done) | (simp_all [valV]; done)
 ·try simp only [nm, ne_eq] at h0
  refine x_skip <| then_n <| sr rfl <| mS rfl <| Wp rfl <| st_call (ags := [_, _]) rfl rfl T.ent70 rfl (TrimPrefix_spec _ _ _) ?_
  rintro _ w1 ⟨rfl, c2⟩
  replace HC := HC.then c2
  refine aS rfl <| en <| sr rfl <| aI rfl <| en <| x_seq <| sr rfl <| mS rfl <| mS rfl <| Wp rfl <| st_seql rfl rfl <| en <| x_cond rfl (fun h1 => ?_) (fun h1 => ?_)
  ·try simp only [nm, ne_eq] at h1
   refine x_region rfl <| mS rfl <| Wp rfl <| st_call (ags := [_, _]) rfl rfl T.ent70 rfl (TrimPrefix_spec _ _ _) ?_
   rintro _ w3 ⟨rfl, c4⟩
   replace HC := HC.then c4
   refine aS rfl <| aI rfl <| en <| sr rfl <| mS rfl <| Wp rfl <| st_call (ags := [_]) rfl rfl T.ent71 rfl (Constant_spec _ _ (by omega)) ?_
   rintro _ w5 ⟨rfl, c6⟩
   replace HC := HC.then c6
   refine mv (v := .tuple ⟨[_, _]⟩) rfl <| Wp rfl <| st_extract (vs := [_, _]) (v := .int _ _) rfl rfl <| Wp rfl <| st_extract (vs := [_, _]) (v := .bool _) rfl rfl <| aI rfl <| aB rfl <| en <| x_seq <| sr rfl <| mB rfl <| Wp rfl <| st_not rfl <| en <| x_cond rfl (fun h2 => ?_) (fun h2 => ?_)
   ·try simp only [nm, ne_eq] at h2
    refine sr rfl <| aI rfl <| aI rfl <| en <| x_ret <| then_r <| ret_tmp2 (v := .int _ _) (v2 := .int _ _) rfl rfl rfl <| ⟨?_, HC⟩
    first | (simp [valV, *]; done) | (simp_all [valV]; done)
   ·try simp only [nm, ne_eq] at h2
    refine x_skip <| then_n <| sr rfl <| mI rfl <| mI rfl <| Wp rfl <| st_mul rfl rfl <| aI rfl <| aI rfl <| en <| x_ret <| ret_tmp2 (v := .int _ _) (v2 := .int _ _) rfl rfl rfl <| ⟨?_, HC⟩
    first | (simp [valV, *]; done) | (simp_all [valV]; done)
  ·try simp only [nm, ne_eq] at h1
   refine x_skip <| then_n <| sr rfl <| mS rfl <| Wp rfl <| st_call (ags := [_]) rfl rfl T.ent71 rfl (Constant_spec _ _ (by omega)) ?_
   rintro _ w7 ⟨rfl, c8⟩
   replace HC := HC.then c8
   refine mv (v := .tuple ⟨[_, _]⟩) rfl <| Wp rfl <| st_extract (vs := [_, _]) (v := .int _ _) rfl rfl <| Wp rfl <| st_extract (vs := [_, _]) (v := .bool _) rfl rfl <| aI rfl <| aB rfl <| en <| x_seq <| sr rfl <| mB rfl <| Wp rfl <| st_not rfl <| en <| x_cond rfl (fun h2 => ?_) (fun h2 => ?_)
   ·try simp only [nm, ne_eq] at h2
    refine sr rfl <| aI rfl <| aI rfl <| en <| x_ret <| then_r <| ret_tmp2 (v := .int _ _) (v2 := .int _ _) rfl rfl rfl <| ⟨?_, HC⟩
    first | (simp [valV, *]; done) | (simp_all [valV]; done)
   ·try simp only [nm, ne_eq] at h2
    refine x_skip <| then_n <| sr rfl <| mI rfl <| mI rfl <| Wp rfl <| st_mul rfl rfl <| aI rfl <| aI rfl <| en <| x_ret <| ret_tmp2 (v := .int _ _) (v2 := .int _ _) rfl rfl rfl <| ⟨?_, HC⟩
    first | (simp [valV, *]; done) | (simp_all [valV]; done)

end Go.Proofs.YtmbbhgglllfelaaGreatDoor.K
set_option linter.unusedVariables false
set_option linter.unusedSimpArgs false
set_option autoImplicit false
set_option maxRecDepth 20000
namespace Go.Proofs.YtmbbhgglllfelaaGreatDoor.K
open Go Go.Proofs Go.RowKit

abbrev Vr := Bytes × Bytes
def prE : Enc Vr := .flat 2 (fun p => [S p.1, S p.2]) (by omega) (fun _ => rfl) (fun _ u hu => by simp at hu; rcases hu with rfl | rfl <;> rfl)
/-- Names that rise. -/
def Rise (vs : List Vr) : Prop := vs.Pairwise fun a b => Op.bytesLess a.1 b.1 = true
/-- Where a name stands, or would stand. -/
def plN : List Vr → Bytes → Nat
  | [], _ => 0
  | p :: vs, n => if Op.bytesLess p.1 n = true then plN vs n + 1 else 0
def isAt (vs : List Vr) (n : Bytes) : Bool := decide ((vs[plN vs n]?).map (·.1) = some n)
def getV (vs : List Vr) (n : Bytes) : Int × Int := if isAt vs n = true then valV (((vs[plN vs n]?).map (·.2)).getD []) else (0, 0)
theorem plN_le (vs : List Vr) (n : Bytes) : plN vs n ≤ vs.length := by
  induction vs with
  | nil => simp [plN]
  | cons p vs ih => simp only [plN, List.length_cons]; split <;> omega
theorem plN_at {vs : List Vr} {n : Bytes} : ∀ {i : Nat}, i ≤ vs.length → (∀ k p, k < i → vs[k]? = some p → Op.bytesLess p.1 n = true) → (∀ p, vs[i]? = some p → Op.bytesLess p.1 n = false) → plN vs n = i := by
  induction vs with
  | nil => intro i hi _ _; simp at hi; simp [plN, hi]
  | cons p vs ih =>
    intro i hi h1 h2
    cases i with
    | zero => simp only [plN]; rw [if_neg (by rw [h2 p rfl]; simp)]
    | succ i =>
      simp only [plN]; rw [if_pos (h1 0 p (by omega) rfl)]
      rw [ih (i := i) (by simpa using hi) (fun k q hk hq => h1 (k + 1) q (by omega) (by simpa using hq)) (fun q hq => h2 q (by simpa using hq))]
theorem rise_lt {vs : List Vr} (h : Rise vs) {i j : Nat} {a b : Vr} (hij : i < j) (ha : vs[i]? = some a) (hb : vs[j]? = some b) : Op.bytesLess a.1 b.1 = true := by
  obtain ⟨hi, rfl⟩ := List.getElem?_eq_some_iff.1 ha
  obtain ⟨hj, rfl⟩ := List.getElem?_eq_some_iff.1 hb
  exact List.pairwise_iff_getElem.1 h i j hi hj hij
theorem rise_below {vs : List Vr} {n : Bytes} (h : Rise vs) {j : Nat} {b : Vr} (hb : vs[j]? = some b) (hl : Op.bytesLess b.1 n = true) : ∀ k p, k < j + 1 → vs[k]? = some p → Op.bytesLess p.1 n = true := fun k p hk hp => by
  by_cases e : k = j
  · subst e; obtain rfl := Option.some.inj (hb.symm.trans hp); exact hl
  · exact less_trans _ _ _ (rise_lt h (by omega) hp hb) hl
theorem rise_above {vs : List Vr} {n : Bytes} (h : Rise vs) {j : Nat} {b : Vr} (hb : vs[j]? = some b) (hl : Op.bytesLess b.1 n = false) : ∀ k p, j ≤ k → vs[k]? = some p → Op.bytesLess p.1 n = false := fun k p hk hp => by
  by_cases e : k = j
  · subst e; obtain rfl := Option.some.inj (hb.symm.trans hp); exact hl
  · cases h2 : Op.bytesLess p.1 n with
    | false => rfl
    | true => rw [less_trans _ _ _ (rise_lt h (by omega) hb hp) h2] at hl; cases hl
theorem half64 {i j : Nat} (h : i + j ≤ 9223372036854775807) : IntKind.i64.wrap (shrV .u64 ((i : Int) + (j : Int)) 1) = (((i + j) / 2 : Nat) : Int) := by
  have h1 : shrV .u64 ((i : Int) + (j : Int)) 1 = (((i + j) / 2 : Nat) : Int) := by
    unfold shrV
    rw [show min (1 : Int).toNat IntKind.u64.bits = 1 from rfl, Int.fdiv_eq_ediv_of_nonneg _ (by decide)]; omega
  rw [h1, wrap64_id (by omega) (by omega)]
theorem cmp_less {a b : Bytes} : Lib.compareBytes a b < 0 ↔ Op.bytesLess a b = true := (cmp_lt a b).1
theorem cmp_zero {a b : Bytes} : Lib.compareBytes a b = 0 ↔ a = b := (cmp_lt a b).2

theorem wrap_s1 {i : Nat} (h : i ≤ 9223372036854775000) : IntKind.i64.wrap ((i : Int) + 1) = ((i + 1 : Nat) : Int) := by rw [wrap64_id (by omega) (by omega)]; omega

theorem place1_spec (p : Vr) (n : Bytes) (w : World) : CallR Tryz.prog 68 #[.agg ⟨[S p.1, S p.2]⟩, S n] w fun v w' => v = .int .i64 (Lib.compareBytes p.1 n) ∧ Chg [] w w' := by
 refine callR_of_wp (args := [_, _]) Tryz.func68 rfl (Nat.le_of_ble_eq_true rfl) ?_
 have HC : Chg [] w w := .refl _
 refine sr rfl <| Wp rfl <| st_box (v := .agg ⟨[S _, S _]⟩) (vs := [_, _]) rfl rfl ?_
 intro b1 w2 e3 c4 hb5
 have ge_b1 : w.heap.size ≤ b1 := by rw [e3]; exact HC.size
 replace HC := HC.then c4
 clear e3
 refine aI rfl <| en <| sr rfl <| fa T.fld42_0 rfl <| lS T.one9 rfl (hb5.cell rfl) <| mS rfl <| Wp rfl <| st_call (ags := [_, _]) rfl rfl T.ent69 rfl (Compare_spec _ _ _) ?_
 rintro _ w6 ⟨rfl, c7⟩
 replace HC := HC.then c7
 replace hb5 := hb5.tr0 c7
 refine aI rfl <| en <| x_ret <| ret_tmp (v := .int _ _) rfl rfl ?_
 exact ⟨rfl, HC⟩

theorem search_spec {vs : List Vr} {Av : Option Addr} {cv : Nat} {Dv : Nat → Prop} {w : World} (n : Bytes) (hv : Sl prE w Dv Av vs) (hr : Rise vs) (hl : vs.length ≤ 1000000000) : CallR Tryz.prog 67 #[.slice Av vs.length cv, S n, .func (.func 68) #[] #[]] w fun v w' => v = .tuple ⟨[.int .i64 (plN vs n : Int), .bool (isAt vs n)]⟩ ∧ Chg [] w w' := by
 refine callR_of_wp (args := [_, _, _]) Tryz.func67 rfl (Nat.le_of_ble_eq_true rfl) ?_
 have HC : Chg [] w w := .refl _
 refine sr rfl <| aI rfl <| aB rfl <| en <| sr rfl <| mL rfl <| Wp rfl <| st_len (ct := #[22]) (by rw [show ((#[22] : Array TypeId)[0]?).bind Tryz.prog.underlying = some (.slice 42) from T.u22]; rfl) rfl <| aI rfl <| en <| sr rfl <| mI rfl <| aI rfl <| aI rfl <| en <| x_seq <| x_block <| x_loop (ι := Nat × Nat) [9, 10, 11, 15, 16, 17, 18, 19, 20, 21, 22, 23, 24, 25, 26, 27, 28, 29, 30, 31, 32, 33, 34] (fun ⟨i, j⟩ => [(9, .int .i64 (i : Int)), (10, .int .i64 (j : Int))]) (fun ⟨i, j⟩ W => (i ≤ j ∧ j ≤ vs.length ∧ (∀ k p, k < i → vs[k]? = some p → Op.bytesLess p.1 n = true) ∧ (∀ k p, j ≤ k → vs[k]? = some p → Op.bytesLess p.1 n = false)) ∧ (Chg [] w W) ∧ (Sl prE W Dv Av vs)) (fun ⟨i, j⟩ => j - i) (0, vs.length) ?_ ?_ ?_
 · exact ⟨rfl, rfl, trivial⟩
 ·refine ⟨?_, HC, hv⟩
  exact ⟨Nat.zero_le _, Nat.le_refl _, fun k p hk => absurd hk (Nat.not_lt_zero _), fun k p hk hp => by have := (List.getElem?_eq_some_iff.1 hp).1; omega⟩
 intro ⟨i, j⟩ G2 w1 ⟨⟨hij, hjn, hlo, hhi⟩, HC, hv⟩
 change wp _ _ _ _ _ (upds (over _ _ G2) [(9, .int .i64 (i : Int)), (10, .int .i64 (j : Int))]) _ _
 refine x_seq <| sr rfl <| mI rfl <| mI rfl <| Wp rfl <| st_lss rfl rfl <| en <| x_cond rfl (fun h0 => ?_) (fun h0 => ?_)
 ·try simp only [nm, ne_eq] at h0
  refine x_skip <| then_n <| x_block <| sr rfl <| mI rfl <| mI rfl <| Wp rfl <| st_addn rfl rfl (by constructor <;> omega) <| Wp rfl <| st_convk T.u3 T.u130 rfl (by exact wrapu64_id (by omega) (by omega)) <| Wp rfl <| st_shr rfl rfl (by decide) <| Wp rfl <| st_convk T.u130 T.u3 rfl (by exact half64 (by omega)) <| aI rfl <| en <| sr rfl <| mv (v := .func _ _ _) rfl <| mL rfl <| mI rfl ?_
  obtain ⟨x3, hx4⟩ : ∃ zz, vs[((i + j) / 2)]? = some zz := ⟨_, List.getElem?_eq_getElem (by omega)⟩
  obtain ⟨lb9, _, vs8, hA5, hR7, hC6⟩ := hv.at hx4
  obtain rfl : vs8 = [S x3.1, S x3.2] := hR7
  refine Wp rfl <| st_indexAddr T.u22 T.size42 (congrArg (fun z => Value.slice z _ _) hA5) rfl (by omega) (by omega) <| Wp rfl <| st_loadA (vs := [_, _]) T.agg42 rfl hC6 rfl <| mS rfl <| Wp rfl <| st_call (ags := [_, _]) rfl rfl T.ent68 rfl (place1_spec _ _ _) ?_
  rintro _ w10 ⟨rfl, c11⟩
  replace HC := HC.then c11
  replace hv := hv.tr0 c11
  refine Wp rfl <| st_lss rfl rfl <| en <| x_cond rfl (fun h1 => ?_) (fun h1 => ?_)
  ·try simp only [nm, ne_eq] at h1
   refine x_region rfl <| mI rfl <| Wp rfl <| st_addk rfl rfl (by exact wrap_s1 (by omega)) <| aI rfl <| wops_nil <| block_n <| then_n <| ⟨((i + j) / 2 + 1, j), ?_, ?_, rfl, ⟨rfl, rfl, trivial⟩, ?_⟩
   ·refine ⟨?_, HC, hv⟩
    exact ⟨by omega, hjn, rise_below hr hx4 (cmp_less.1 h1), hhi⟩
   ·show j - ((i + j) / 2 + 1) < j - i; omega
   repeat (first | exact agree_upds agree_over rfl | refine agree_upd ?_ rfl | refine agree_upds ?_ rfl | refine agree_over_sub ?_ rfl)
  ·try simp only [nm, ne_eq] at h1
   refine x_region rfl <| mI rfl <| aI rfl <| wops_nil <| block_n <| then_n <| ⟨(i, (i + j) / 2), ?_, ?_, rfl, ⟨rfl, rfl, trivial⟩, ?_⟩
   ·refine ⟨?_, HC, hv⟩
    exact ⟨by omega, by omega, hlo, rise_above hr hx4 (by cases hb : Op.bytesLess x3.1 n with | false => rfl | true => exact absurd (cmp_less.2 hb) h1)⟩
   ·show (i + j) / 2 - i < j - i; omega
   repeat (first | exact agree_upds agree_over rfl | refine agree_upd ?_ rfl | refine agree_upds ?_ rfl | refine agree_over_sub ?_ rfl)
 ·try simp only [nm, ne_eq] at h0
  obtain rfl : i = j := by omega
  have hpl : plN vs n = i := plN_at hjn hlo (fun p hp => hhi i p (Nat.le_refl _) hp)
  refine x_exit <| then_x <| then_x <| block_x <| then_n <| sr rfl <| mI rfl <| mI rfl <| mI rfl <| Wp rfl <| st_lss rfl rfl <| mB rfl <| w_split (d := 39) rfl (fun g12 => ?_) (fun g12 => ?_)
  ·try simp only [nm, ne_eq] at g12
   refine w_yes 4 39 true <| st_move (v := .func _ _ _) rfl <| w_yes 4 39 true <| st_move (v := .slice _ _ _) rfl <| w_yes 4 39 true <| st_move (v := .int _ _) rfl ?_
   obtain ⟨x13, hx14⟩ : ∃ zz, vs[i]? = some zz := ⟨_, List.getElem?_eq_getElem (by omega)⟩
   obtain ⟨lb19, _, vs18, hA15, hR17, hC16⟩ := hv.at hx14
   obtain rfl : vs18 = [S x13.1, S x13.2] := hR17
   refine w_yes 4 39 true <| st_indexAddr T.u22 T.size42 (congrArg (fun z => Value.slice z _ _) hA15) rfl (by omega) (by omega) <| w_yes 4 39 true <| st_loadA (vs := [_, _]) T.agg42 rfl hC16 rfl <| w_yes 4 39 true <| st_move (v := S _) rfl <| w_yes 4 39 true <| st_call (ags := [_, _]) rfl rfl T.ent68 rfl (place1_spec _ _ _) ?_
   rintro _ w20 ⟨rfl, c21⟩
   replace HC := HC.then c21
   replace hv := hv.tr0 c21
   refine w_yes 4 39 true <| st_eql rfl rfl <| pT rfl rfl <| aI rfl <| aB rfl <| en <| x_ret <| ret_tmp2 (v := .int _ _) (v2 := .bool _) rfl rfl rfl <| ⟨?_, HC⟩
   unfold isAt; rw [hpl]
   rw [hx14]; simp only [Option.map_some, Option.some.injEq, cmp_zero]
  ·try simp only [nm, ne_eq] at g12
   iterate 8 refine w_no 4 39 true ?_
   refine pF rfl rfl <| aI rfl <| aB rfl <| en <| x_ret <| ret_tmp2 (v := .int _ _) (v2 := .bool _) rfl rfl rfl <| ⟨?_, HC⟩
   unfold isAt; rw [hpl]
   rw [List.getElem?_eq_none (by omega)]; rfl

theorem place_spec {vs : List Vr} {Av : Option Addr} {cv : Nat} {Dv : Nat → Prop} {w : World} (n : Bytes) (hv : Sl prE w Dv Av vs) (hr : Rise vs) (hl : vs.length ≤ 1000000000) : CallR Tryz.prog 47 #[.slice Av vs.length cv, S n] w fun v w' => v = .tuple ⟨[.int .i64 (plN vs n : Int), .bool (isAt vs n)]⟩ ∧ Chg [] w w' := by
 refine callR_of_wp (args := [_, _]) Tryz.func47 rfl (Nat.le_of_ble_eq_true rfl) ?_
 have HC : Chg [] w w := .refl _
 refine sr rfl <| aI rfl <| aB rfl <| en <| sr rfl <| mL rfl <| mS rfl <| Wp rfl <| st_call (ags := [_, _, _]) rfl rfl T.ent67 rfl (search_spec n hv hr hl) ?_
 rintro _ w1 ⟨rfl, c2⟩
 replace HC := HC.then c2
 replace hv := hv.tr0 c2
 refine Wp rfl <| st_extract (vs := [_, _]) (v := .int _ _) rfl rfl <| Wp rfl <| st_extract (vs := [_, _]) (v := .bool _) rfl rfl <| aI rfl <| aB rfl <| en <| x_ret <| ret_tmp2 (v := .int _ _) (v2 := .bool _) rfl rfl rfl ?_
 exact ⟨rfl, HC⟩

theorem get_spec {vs : List Vr} {Al Av : Option Addr} {ll capl cv b : Nat} {w : World} (n : Bytes) (hb : Blk w b [.slice Al ll capl, .slice Av vs.length cv, .int .i64 0] 49) (hv : Sl prE w (fun k => k ≠ b) Av vs) (hr : Rise vs) (hl : vs.length ≤ 1000000000) (hsz : ∀ p, p ∈ vs → p.2.length ≤ 9223372036854775807) : CallR Tryz.prog 25 #[.pointer (some ⟨b, 0, none⟩), S n] w fun v w' => v = .int .i64 (getV vs n).1 ∧ Blk w' b [.slice Al ll capl, .slice Av vs.length cv, .int .i64 (getV vs n).2] 49 ∧ Chg [b] w w' := by
 refine callR_of_wp (args := [_, _]) Tryz.func25 rfl (Nat.le_of_ble_eq_true rfl) ?_
 have HC : Chg [b] w w := .refl _
 refine sr rfl <| aI rfl <| en <| sr rfl <| mP rfl <| nc rfl <| fa T.fld49_1 rfl <| lL T.one22 rfl (hb.cell rfl) <| mS rfl <| Wp rfl <| st_call (ags := [_, _]) rfl rfl T.ent47 rfl (place_spec n hv hr hl) ?_
 rintro _ w1 ⟨rfl, c2⟩
 replace HC := HC.then c2
 replace hb := hb.tr0 c2
 replace hv := hv.tr0 c2
 refine mv (v := .tuple ⟨[_, _]⟩) rfl <| Wp rfl <| st_extract (vs := [_, _]) (v := .int _ _) rfl rfl <| Wp rfl <| st_extract (vs := [_, _]) (v := .bool _) rfl rfl <| aI rfl <| aB rfl <| en <| x_seq <| sr rfl <| mB rfl <| Wp rfl <| st_not rfl <| en <| x_cond rfl (fun h0 => ?_) (fun h0 => ?_)
 ·try simp only [nm, ne_eq] at h0
  have hgv : getV vs n = (0, 0) := by unfold getV; rw [if_neg (by simpa using h0)]
  refine sr rfl <| aI rfl <| en <| x_ret <| then_r <| ret_tmp (v := .int _ _) rfl rfl ?_
  rw [hgv]
  exact ⟨rfl, hb, HC⟩
 ·try simp only [nm, ne_eq] at h0
  have hat : isAt vs n = true := by simpa using h0
  obtain ⟨pv, hpv⟩ : ∃ p, vs[plN vs n]? = some p := by unfold isAt at hat; rw [decide_eq_true_eq] at hat; cases h5 : vs[plN vs n]? with | none => rw [h5] at hat; cases hat | some p => exact ⟨p, rfl⟩
  have hgv : getV vs n = valV pv.2 := by unfold getV; rw [if_pos hat, hpv]; rfl
  have hlt := (List.getElem?_eq_some_iff.1 hpv).1
  refine x_skip <| then_n <| sr rfl <| mP rfl <| nc rfl <| fa T.fld49_1 rfl <| lL T.one22 rfl (hb.cell rfl) <| mI rfl ?_
  obtain ⟨lb7, _, vs6, hA3, hR5, hC4⟩ := hv.at (i := (plN vs n)) (x := pv) (hpv)
  obtain rfl : vs6 = [S pv.1, S pv.2] := hR5
  refine Wp rfl <| st_indexAddr T.u22 T.size42 (congrArg (fun z => Value.slice z _ _) hA3) rfl (by omega) (by omega) <| fa T.fld42_1 rfl <| lS T.one9 rfl (hC4.at (j := 1) rfl) <| Wp rfl <| st_call (ags := [_]) rfl rfl T.ent48 rfl (Value_spec _ _ (hsz pv (List.mem_of_getElem? hpv))) ?_
  rintro _ w8 ⟨rfl, c9⟩
  replace HC := HC.then c9
  replace hb := hb.tr0 c9
  replace hv := hv.tr0 c9
  refine mv (v := .tuple ⟨[_, _]⟩) rfl <| Wp rfl <| st_extract (vs := [_, _]) (v := .int _ _) rfl rfl <| Wp rfl <| st_extract (vs := [_, _]) (v := .int _ _) rfl rfl <| aI rfl <| aI rfl <| en <| sr rfl <| mP rfl <| mI rfl <| nc rfl <| fa T.fld49_2 rfl <| Wp rfl <| st_store (v := .int _ _) T.size25 rfl rfl rfl hb rfl (Nat.le_of_ble_eq_true rfl) (by simp [Value.oneCell', S]) rfl ?_
  intro w10 c11 hb12; simp only [setVs, setV] at hb12
  clear hb
  replace HC := HC.trans c11 (by intro x hx; simp only [List.mem_singleton] at hx; subst hx; exact .inl (by simp))
  replace hv := hv.tr c11 (by intro k hx hD; obtain rfl := List.mem_singleton.1 hx; first | exact hD rfl | exact hD.1 rfl | (have hD2 := hD.2; omega))
  refine en <| sr rfl <| mI rfl <| aI rfl <| en <| x_ret <| ret_tmp (v := .int _ _) rfl rfl ?_
  rw [hgv]
  exact ⟨rfl, hb12, HC⟩

theorem mapply_spec {vl : Nat} {Al Av : Option Addr} {ll capl cv b : Nat} {e : Int} {w : World} (op : Bytes) (x y : Int) (hb : Blk w b [.slice Al ll capl, .slice Av vl cv, .int .i64 e] 49) : CallR Tryz.prog 29 #[.pointer (some ⟨b, 0, none⟩), S op, .int .i64 x, .int .i64 y] w fun v w' => v = .int .i64 (if e = 0 then (applyV op x y).1 else 0) ∧ Blk w' b [.slice Al ll capl, .slice Av vl cv, .int .i64 (if e = 0 then (applyV op x y).2 else e)] 49 ∧ Chg [b] w w' := by
 refine callR_of_wp (args := [_, _, _, _]) Tryz.func29 rfl (Nat.le_of_ble_eq_true rfl) ?_
 have HC : Chg [b] w w := .refl _
 refine sr rfl <| aI rfl <| en <| x_seq <| sr rfl <| mP rfl <| nc rfl <| fa T.fld49_2 rfl <| lI T.one25 rfl (hb.cell rfl) <| Wp rfl <| st_neq rfl rfl <| en <| x_cond rfl (fun h0 => ?_) (fun h0 => ?_)
 ·try simp only [nm, ne_eq] at h0
  refine sr rfl <| aI rfl <| en <| x_ret <| then_r <| ret_tmp (v := .int _ _) rfl rfl ?_
  rw [if_neg h0, if_neg h0]
  exact ⟨rfl, hb, HC⟩
 ·try simp only [nm, ne_eq] at h0
  have h9 : e = 0 := by omega
  refine x_skip <| then_n <| sr rfl <| mS rfl <| mI rfl <| mI rfl <| Wp rfl <| st_call (ags := [_, _, _]) rfl rfl T.ent51 rfl (Apply_spec _ _ _ _) ?_
  rintro _ w1 ⟨rfl, c2⟩
  replace HC := HC.then c2
  replace hb := hb.tr0 c2
  refine mv (v := .tuple ⟨[_, _]⟩) rfl <| Wp rfl <| st_extract (vs := [_, _]) (v := .int _ _) rfl rfl <| Wp rfl <| st_extract (vs := [_, _]) (v := .int _ _) rfl rfl <| aI rfl <| aI rfl <| en <| sr rfl <| mP rfl <| mI rfl <| nc rfl <| fa T.fld49_2 rfl <| Wp rfl <| st_store (v := .int _ _) T.size25 rfl rfl rfl hb rfl (Nat.le_of_ble_eq_true rfl) (by simp [Value.oneCell', S]) rfl ?_
  intro w3 c4 hb5; simp only [setVs, setV] at hb5
  clear hb
  replace HC := HC.trans c4 (by intro x hx; simp only [List.mem_singleton] at hx; subst hx; exact .inl (by simp))
  refine en <| sr rfl <| mI rfl <| aI rfl <| en <| x_ret <| ret_tmp (v := .int _ _) rfl rfl ?_
  rw [if_pos h9, if_pos h9]
  exact ⟨rfl, hb5, HC⟩

end Go.Proofs.YtmbbhgglllfelaaGreatDoor.K
set_option linter.unusedVariables false
set_option linter.unusedSimpArgs false
set_option autoImplicit false
namespace Go.Proofs.YtmbbhgglllfelaaGreatDoor.K
open Go
theorem setVs_eq : ∀ (vs cs : List Value) (o : Nat), o + vs.length ≤ cs.length → setVs cs o vs = cs.take o ++ vs ++ cs.drop (o + vs.length)
  | [], cs, o, _ => by simp [setVs]
  | v :: vs, cs, o, h => by
    simp only [List.length_cons] at h
    rw [setVs, setV_eq, setVs_eq vs _ (o + 1) (by rw [List.length_set]; omega)]
    have h1 : (cs.set o v).take (o + 1) = cs.take o ++ [v] := by
      rw [List.take_add_one, List.take_set_of_le (by omega)]; simp [show o < cs.length by omega]
    rw [h1, List.drop_set_of_lt (by omega), List.length_cons, show o + 1 + vs.length = o + (vs.length + 1) by omega]
    simp
section rules
variable {P : Program} {r : Option Nat} {n : Nat} {O : Array Oper} {Q : Post} {l : List Oper} {E : Env} {ds : List Deferred} {w : World} {dst : Option Nat} {ty : TypeId} {pos : String} {af : Array Edge} {g : Option (Nat × Bool)}
theorem r_copy {t t2 e T : TypeId} {x y : Operand} {b o dl dc b2 o2 sl sc sz : Nat} {cs vs : List Value} (ht : P.underlying t = some (.slice e)) (hs : sizeB P e sz = true) (hx : ev E x = .slice (some ⟨b, o, none⟩) dl dc) (hy : ev E y = .slice (some ⟨b2, o2, none⟩) sl sc)
    (hb : Blk w b cs T) (hv : Cells w b2 o2 vs) (hl : vs.length = min sl dl * sz) (hfit : o + vs.length ≤ cs.length) (h1 : ∀ u ∈ vs, u.oneCell' = true) :
    ∃ w', (execOp (ev E) ⟨dst, .call ⟨.builtin .copy, #[x, y], #[t, t2]⟩, ty, pos, af, g⟩).run P w = .ok (.value (.int .i64 ((min sl dl : Nat) : Int))) w' ∧ Chg [b] w w' ∧ Blk w' b (setVs cs o vs) T := by
  obtain ⟨w', h2, h3, h4⟩ := run_storeCells (P := P) vs o 0 w cs hb (by omega) h1
  refine ⟨w', ?_, h3, h4⟩
  have hL := run_loadCells_list (P := P) (w := w) ⟨b2, o2, none⟩ vs (fun j v hj => by rw [Addr.add_lit]; exact hv j v hj)
  rw [hl] at hL
  have hc : (Builtin.copy_ #[t, t2] ty #[.slice (some ⟨b, o, none⟩) dl dc, .slice (some ⟨b2, o2, none⟩) sl sc]).run P w = .ok (.int .i64 ((min sl dl : Nat) : Int)) w' := by
    simp only [Builtin.copy_, List.getElem?_toArray, List.getElem?_cons_zero, List.getElem?_cons_succ, Sem.run_bind, Go.run_underlying ht, Result.andThen, Builtin.lenOf, Builtin.firstCells, Sem.run_pure, run_sizeOf hs]
    rw [show Nat.min sl dl = min sl dl from rfl, hL]
    simp only [Result.andThen, h2, Sem.run_pure, goInt]
  simp only [execOp, resolve, invoke, builtin, List.map_toArray, List.map_cons, List.map_nil, hx, hy, Sem.run_bind, Sem.run_pure, hc, Result.andThen]
theorem st_copy {t t2 e T : TypeId} {x y : Operand} {b o dl dc b2 o2 sl sc sz : Nat} {cs vs : List Value} (ht : P.underlying t = some (.slice e)) (hs : sizeB P e sz = true) (hx : ev E x = .slice (some ⟨b, o, none⟩) dl dc) (hy : ev E y = .slice (some ⟨b2, o2, none⟩) sl sc)
    (hb : Blk w b cs T) (hv : Cells w b2 o2 vs) (hl : vs.length = min sl dl * sz) (hfit : o + vs.length ≤ cs.length) (h1 : ∀ u ∈ vs, u.oneCell' = true)
    (h : ∀ w', Chg [b] w w' → Blk w' b (setVs cs o vs) T → wops P r n O Q l (updo E dst (.int .i64 ((min sl dl : Nat) : Int))) ds w') :
    wop P r n O Q ⟨dst, .call ⟨.builtin .copy, #[x, y], #[t, t2]⟩, ty, pos, af, g⟩ l E ds w := by
  obtain ⟨w', h2, h3, h4⟩ := r_copy (P := P) (dst := dst) (ty := ty) (pos := pos) (af := af) (g := g) ht hs hx hy hb hv hl hfit h1
  exact wop_run (fun _ => by simp) h2 (h w' h3 h4)
theorem sq_copy2 {t t2 e T' : TypeId} {x y : Operand} {b o dl dc b2 o2 sl sc sz i : Nat} {cs vs : List Value} {K : Env → World → Prop} {rest : List (Nat × Nat)} {T : World → Prop} {lo : List Oper} (ho : lo[i]? = some ⟨dst, .call ⟨.builtin .copy, #[x, y], #[t, t2]⟩, ty, pos, af, g⟩) (ht : P.underlying t = some (.slice e)) (hs : sizeB P e sz = true) (hx : ev E x = .slice (some ⟨b, o, none⟩) dl dc) (hy : ev E y = .slice (some ⟨b2, o2, none⟩) sl sc)
    (hb : Blk w b cs T') (hv : Cells w b2 o2 vs) (hl : vs.length = min sl dl * sz) (hfit : o + vs.length ≤ cs.length) (h1 : ∀ u ∈ vs, u.oneCell' = true)
    (h : ∀ w', Chg [b] w w' → Blk w' b (setVs cs o vs) T' → seqP P lo K rest T (updo E dst (.int .i64 ((min sl dl : Nat) : Int))) w') (hw : wantE lo ⟨dst, .call ⟨.builtin .copy, #[x, y], #[t, t2]⟩, ty, pos, af, g⟩ E = true := by rfl) :
    seqP P lo K ((i, 2) :: rest) T E w := by
  obtain ⟨w', h2, h3, h4⟩ := r_copy (P := P) (dst := dst) (ty := ty) (pos := pos) (af := af) (g := g) ht hs hx hy hb hv hl hfit h1
  exact sq_run2 ho h2 (h w' h3 h4) hw
theorem r_cap {x : Operand} {A : Option Addr} {m c : Nat} {ct : Array TypeId} (ht : ((ct[0]?).bind P.underlying).any (fun u => match u with | .slice _ => true | _ => false) = true) (hx : ev E x = .slice A m c) :
    (execOp (ev E) ⟨dst, .call ⟨.builtin .cap, #[x], ct⟩, ty, pos, af, g⟩).run P w = .ok (.value (.int .i64 (c : Int))) w := by
  cases h0 : ct[0]? with
  | none => simp [h0] at ht
  | some t0 =>
    simp only [h0, Option.bind_some] at ht
    cases hu : P.underlying t0 with
    | none => simp [hu] at ht
    | some u =>
      simp only [hu] at ht
      cases u <;> simp at ht
      simp [execOp, resolve, invoke, builtin, Builtin.cap_, hx, go_sem, h0, underlying, hu, goInt]
theorem st_cap {x : Operand} {A : Option Addr} {m c : Nat} {ct : Array TypeId} (ht : ((ct[0]?).bind P.underlying).any (fun u => match u with | .slice _ => true | _ => false) = true) (hx : ev E x = .slice A m c) (h : wops P r n O Q l (updo E dst (.int .i64 (c : Int))) ds w) : wop P r n O Q ⟨dst, .call ⟨.builtin .cap, #[x], ct⟩, ty, pos, af, g⟩ l E ds w :=
  wop_run (fun _ => by simp) (r_cap ht hx) h
end rules
/-! ### the call's own row, as a block -/
def flatC {α : Type} (f : α → List Value) (xs : List α) : List Value := xs.flatMap f
section flat
variable {α : Type} {sz : Nat} {f : α → List Value} {hp : 0 < sz} {hl : ∀ x, (f x).length = sz} {ho : ∀ x, ∀ u ∈ f x, u.oneCell' = true} {w : World} {D : Nat → Prop}
theorem flatC_len (hl : ∀ x, (f x).length = sz) (xs : List α) : (flatC f xs).length = xs.length * sz := by
  induction xs with
  | nil => simp [flatC]
  | cons x xs ih => simp only [flatC, List.flatMap_cons, List.length_append, List.length_cons, hl] at *; rw [ih, Nat.add_mul]; omega
theorem flatC_one (ho : ∀ x, ∀ u ∈ f x, u.oneCell' = true) (xs : List α) : ∀ u ∈ flatC f xs, u.oneCell' = true := by
  intro u hu
  obtain ⟨x, _, h⟩ := List.mem_flatMap.1 hu
  exact ho x u h
theorem flatC_app (xs ys : List α) : flatC f (xs ++ ys) = flatC f xs ++ flatC f ys := by simp [flatC]
theorem flatC_take (hl : ∀ x, (f x).length = sz) : ∀ (xs : List α) (i : Nat), (flatC f xs).take (i * sz) = flatC f (xs.take i)
  | [], i => by simp [flatC]
  | x :: xs, 0 => by simp [flatC]
  | x :: xs, i + 1 => by
    have := flatC_take hl xs i
    simp only [flatC, List.flatMap_cons, List.take_succ_cons] at *
    rw [List.take_append, hl, show (i + 1) * sz - sz = i * sz by rw [Nat.add_mul]; omega, this, List.take_of_length_le (by rw [hl, Nat.add_mul]; omega)]
theorem flatC_drop (hl : ∀ x, (f x).length = sz) : ∀ (xs : List α) (i : Nat), (flatC f xs).drop (i * sz) = flatC f (xs.drop i)
  | [], i => by simp [flatC]
  | x :: xs, 0 => by simp [flatC]
  | x :: xs, i + 1 => by
    have := flatC_drop hl xs i
    simp only [flatC, List.flatMap_cons, List.drop_succ_cons] at *
    rw [List.drop_append, hl, show (i + 1) * sz - sz = i * sz by rw [Nat.add_mul]; omega, this, List.drop_of_length_le (by rw [hl, Nat.add_mul]; omega)]; rfl
theorem flatC_chunks (hl : ∀ x, (f x).length = sz) (xs : List α) : Chunks (Enc.flat sz f hp hl ho) w D xs (flatC f xs) := by
  induction xs with
  | nil => exact .nil
  | cons x xs ih => exact Chunks.cons (rfl : (Enc.flat sz f hp hl ho).R w D x (f x)) ih
theorem chunks_flatC {xs : List α} {cs : List Value} (h : Chunks (Enc.flat sz f hp hl ho) w D xs cs) : cs = flatC f xs := by
  have h2 := flatC_chunks (w := w) (D := D) (hp := hp) (ho := ho) hl xs
  apply List.ext_getElem?
  intro j
  by_cases hj : j < cs.length
  · have hjx : j / sz < xs.length := by rw [h.1] at hj; exact Nat.div_lt_of_lt_mul (by rw [Nat.mul_comm]; exact hj)
    obtain ⟨x, hx⟩ : ∃ x, xs[j / sz]? = some x := ⟨_, List.getElem?_eq_getElem hjx⟩
    obtain ⟨vs, rfl, h3⟩ := h.2 _ x hx
    obtain ⟨us, rfl, h4⟩ := h2.2 _ x hx
    have hm : j % sz < (f x).length := by rw [hl]; exact Nat.mod_lt _ hp
    have e : j / sz * sz + j % sz = j := Nat.div_add_mod' j sz
    have h5 := h3 (j % sz) _ (List.getElem?_eq_getElem hm)
    have h6 := h4 (j % sz) _ (List.getElem?_eq_getElem hm)
    rw [show j / sz * (Enc.flat sz f hp hl ho).sz + j % sz = j from e] at h5 h6
    rw [h5, h6]
  · rw [List.getElem?_eq_none (by omega), List.getElem?_eq_none (by rw [flatC_len hl]; have := h.1; show xs.length * sz ≤ j; rw [show cs.length = xs.length * sz from this] at hj; omega)]
theorem Own.raw {e : TypeId} {a : Addr} {cap : Nat} {xs : List α} (h : Own (Enc.flat sz f hp hl ho) e w D (some a) cap xs) : ∃ g rest, a = ⟨g, 0, none⟩ ∧ Blk w g (flatC f xs ++ rest) e ∧ (flatC f xs ++ rest).length = cap * sz ∧ xs.length ≤ cap ∧ cap ≤ 9223372036854775807 ∧ D g := by
  obtain ⟨cs, h1, h2, h3⟩ := h
  rcases h1.2 with ⟨h4, _⟩ | ⟨g, cp, cur, h4, h5, h6, h7, h8, h9, h10⟩
  · simp at h4
  · simp only [Value.slice.injEq, Option.some.injEq] at h4
    obtain ⟨rfl, _, rfl⟩ := h4
    have hcs := chunks_flatC h3
    subst hcs
    replace h10 : List.take (xs.length * sz) cur.toList = flatC f xs := h10
    replace h9 : cur.size = cap * sz := h9
    refine ⟨g, cur.toList.drop (xs.length * sz), rfl, ?_, ?_, h7, by simpa [maxLen] using h8, h2 g (by simp [ob])⟩
    · rw [← h10, List.take_append_drop]; exact h6
    · rw [← h10, List.take_append_drop]; simpa using h9
theorem Own.of_raw {e : TypeId} {g cap : Nat} {xs : List α} {rest : List Value} (hb : Blk w g (flatC f xs ++ rest) e) (hlen : (flatC f xs ++ rest).length = cap * sz) (hle : xs.length ≤ cap) (hcap : cap ≤ 9223372036854775807) (hD : D g) : Own (Enc.flat sz f hp hl ho) e w D (some ⟨g, 0, none⟩) cap xs := by
  refine ⟨flatC f xs, ⟨flatC_len hl xs, .inr ⟨g, cap, _, rfl, Nat.zero_le _, hb, hle, by simpa [maxLen] using hcap, (show Array.size ⟨flatC f xs ++ rest⟩ = cap * sz from by simpa using hlen), ?_⟩⟩, fun k hk => by simp [ob] at hk; subst hk; exact hD, flatC_chunks hl xs⟩
  show (flatC f xs ++ rest).take (xs.length * sz) = flatC f xs
  rw [← flatC_len hl xs, List.take_left]
end flat
end Go.Proofs.YtmbbhgglllfelaaGreatDoor.K
set_option linter.unusedVariables false
set_option linter.unusedSimpArgs false
set_option autoImplicit false
set_option maxRecDepth 20000
namespace Go.Proofs.YtmbbhgglllfelaaGreatDoor.K
open Go Go.Proofs Go.RowKit

/-- A whole number's digits, with its sign. -/
def textV (n : Int) : Bytes := if n < 0 then [45] ++ decT (-n).toNat else decT n.toNat
theorem set_drop {L : List Value} {cs : List Value} {k : Nat} {v : Value} (h : cs.drop (k + 1) = L) (hk : k < cs.length) : (cs.set k v).drop k = v :: L := by
  rw [List.drop_eq_getElem_cons (by simpa using hk), List.getElem_set_self, List.drop_set_of_lt (by omega), h]
theorem dec19 {n : Nat} (h : n ≤ 9223372036854775808) : (decT n).length ≤ 19 := decT_len 18 n (by have : (10 : Nat) ^ (18 + 1) = 10000000000000000000 := rfl; omega)

theorem TextI_spec (x : Int) (hx0 : -9223372036854775808 ≤ x) (hx1 : x ≤ 9223372036854775807) (w : World) : CallR Tryz.prog 20 #[.int .i64 x] w fun v w' => v = S (textV x) ∧ Chg [] w w' := by
 obtain ⟨n, hnx⟩ : ∃ n, n = x.natAbs := ⟨_, rfl⟩
 have hn : n ≤ 9223372036854775808 := by omega
 refine callR_of_wp (args := [_]) Tryz.func20 rfl (Nat.le_of_ble_eq_true rfl) ?_
 have HC : Chg [] w w := .refl _
 refine sr rfl <| aS rfl <| en <| sr rfl <| Wp rfl <| st_alloc T.zero86 ?_
 intro b3 w1 e2 c3 hb4
 have ge_b3 : w.heap.size ≤ b3 := by rw [e2]; exact HC.size
 replace HC := HC.then c3
 clear e2
 refine en <| sr rfl <| mI rfl <| Wp rfl <| st_convInt T.u2 T.u87 rfl <| aI rfl <| aI rfl <| en <| x_seq <| sr rfl <| mI rfl <| Wp rfl <| st_lss rfl rfl <| en <| x_cond rfl (fun h0 => ?_) (fun h0 => ?_)
 ·try simp only [nm, ne_eq] at h0
  refine x_region rfl <| mI rfl <| Wp rfl <| st_neg rfl ?_
  rw [show IntKind.u64.wrap (0 - IntKind.u64.wrap x) = (n : Int) by simp only [IntKind.wrap, IntKind.signed, IntKind.bits]; first | (simp; omega) | omega]
  refine aI rfl <| en <| x_seq <| x_block <| x_loop (ι := Nat × Nat × Bytes × List Value) [4, 5, 12, 13, 14, 15, 16, 17, 18, 19, 20, 21, 22, 23] (fun ⟨a, m, z, cs⟩ => [(4, .int .i64 (a : Int)), (5, .int .u64 (m : Int))]) (fun ⟨a, m, z, cs⟩ W => (TI n a m z cs) ∧ (Chg [] w W) ∧ (Blk W b3 cs 86)) (fun ⟨a, m, z, cs⟩ => a) (20, n, [], [.int .u8 0, .int .u8 0, .int .u8 0, .int .u8 0, .int .u8 0, .int .u8 0, .int .u8 0, .int .u8 0, .int .u8 0, .int .u8 0, .int .u8 0, .int .u8 0, .int .u8 0, .int .u8 0, .int .u8 0, .int .u8 0, .int .u8 0, .int .u8 0, .int .u8 0, .int .u8 0]) ?_ ?_ ?_
  · exact ⟨rfl, rfl, trivial⟩
  ·refine ⟨?_, HC, hb4⟩
   exact ⟨rfl, rfl, rfl, by simp, by simp, .inl rfl⟩
  intro ⟨a, m, z, cs⟩ G6 w5 ⟨hTI, HC, hb3⟩
  change wp _ _ _ _ _ (upds (over _ _ G6) [(4, .int .i64 (a : Int)), (5, .int .u64 (m : Int))]) _ _
  have ha := hTI.pos hn
  have ha2 : a ≤ 20 := by have := hTI.2.1; omega
  have hmn : m ≤ n := Nat.le_trans (Nat.le_mul_of_pos_right _ (Nat.pos_of_ne_zero (by simp))) hTI.2.2.2.2.1
  have hd := digC_to (d := m % 10) (by omega)
  have hs13 : IntKind.i64.wrap ((a : Int) - 1) = ((a - 1 : Nat) : Int) := by rw [wrap64_id (by omega) (by omega)]; omega
  have hm16 : (m : Int).tmod 10 = ((m % 10 : Nat) : Int) := by rw [Int.tmod_eq_emod_of_nonneg (by omega)]; omega
  have hd18 : IntKind.u8.wrap (48 + ((m % 10 : Nat) : Int)) = ((digC (m % 10)).toNat : Int) := by rw [wrapu8_id (by omega) (by omega)]; omega
  have hq21 : IntKind.u64.wrap ((m : Int).tdiv 10) = ((m / 10 : Nat) : Int) := by rw [quou64 (by omega) (by omega) (by omega)]; omega
  refine x_block <| sr rfl <| mI rfl <| Wp rfl <| st_subk rfl rfl (by exact hs13) <| aI rfl <| en <| sr rfl <| mI rfl <| mI rfl <| Wp rfl <| st_remk rfl rfl (by decide) (by exact hm16) <| Wp rfl <| st_convk T.u87 T.u5 rfl (by exact wrapu8_id (by omega) (by omega)) <| Wp rfl <| st_addk rfl rfl (by exact hd18) <| Wp rfl <| st_arrAddr T.u86 T.size5 rfl rfl (by omega) (by omega) <| Wp rfl <| st_store (v := .int _ _) T.size5 rfl rfl rfl hb3 rfl (by have := hTI.1; simp only [List.length_singleton, Int.toNat_natCast]; omega) (by simp [Value.oneCell', S]) rfl ?_
  intro w7 c8 hb9
  replace hb9 : Blk w7 b3 (cs.set (a - 1) (bV (digC (m % 10)))) 86 := by have := hb9; simpa [setVs, setV_eq, Int.toNat_natCast, Nat.zero_add, bV] using this
  clear hb3
  replace HC := HC.then1 c8 ge_b3
  refine en <| sr rfl <| mI rfl <| Wp rfl <| st_quok rfl rfl (by decide) (by exact hq21) <| aI rfl <| en <| sr rfl <| mI rfl <| Wp rfl <| st_eql rfl rfl <| en <| x_cond rfl (fun h1 => ?_) (fun h1 => ?_)
  ·try simp only [nm, ne_eq] at h1
   have hfin := hTI.last (by omega)
   have hcs := hTI.cells (c := digC (m % 10)) hn
   have h19 := dec19 hn
   rw [hfin, List.length_cons] at h19
   have haz := hTI.2.1
   refine x_exit <| block_o rfl <| then_x <| block_x <| then_n <| x_seq <| sr rfl <| mI rfl <| Wp rfl <| st_lss rfl rfl <| en <| x_cond rfl (fun h2 => ?_) (fun h2 => ?_)
   ·try simp only [nm, ne_eq] at h2
    have hs27 : IntKind.i64.wrap (((a - 1 : Nat) : Int) - 1) = ((a - 1 - 1 : Nat) : Int) := by rw [wrap64_id (by omega) (by omega)]; omega
    refine sr rfl <| mI rfl <| Wp rfl <| st_subk rfl rfl (by exact hs27) <| aI rfl <| en <| x_region rfl <| mI rfl <| Wp rfl <| st_arrAddr T.u86 T.size5 rfl rfl (by omega) (by omega) <| Wp rfl <| st_store (v := .int _ _) T.size5 rfl rfl rfl hb9 rfl (by have := hcs.1; simp only [List.length_singleton, Int.toNat_natCast]; omega) (by simp [Value.oneCell', S]) rfl ?_
    intro w10 c11 hb12
    replace hb12 : Blk w10 b3 ((cs.set (a - 1) (bV (digC (m % 10)))).set (a - 1 - 1) (bV 45)) 86 := by have := hb12; simpa [setVs, setV_eq, Int.toNat_natCast, Nat.zero_add, bV] using this
    clear hb9
    have hcs2 := set_drop (L := (digC (m % 10) :: z).map bV) (v := bV 45) (k := a - 1 - 1) (by rw [show a - 1 - 1 + 1 = a - 1 by omega]; exact hcs.2) (by have := hcs.1; omega)
    replace HC := HC.then1 c11 ge_b3
    refine en <| sr rfl <| mI rfl <| Wp rfl <| st_arrCut (i := a - 1 - 1) (k := (45 :: digC (m % 10) :: z).length) T.u86 T.size5 rfl ⟨_, rfl⟩ (by omega) (by simp only [List.length_cons]; have := hTI.2.1; omega) <| Wp rfl <| st_bytesStr T.u88 T.u5 T.u9 rfl (sl_cut hb12 hcs2) <| aS rfl <| en <| x_ret <| ret_tmp (v := S _) rfl rfl ?_
    have hxt : textV x = 45 :: digC (m % 10) :: z := by unfold textV; rw [if_pos h2, show (-x).toNat = n by omega, hfin]; try rfl
    rw [hxt]
    exact ⟨rfl, HC⟩
   ·try simp only [nm, ne_eq] at h2
    refine x_skip <| then_n <| sr rfl <| mI rfl <| Wp rfl <| st_arrCut (i := a - 1) (k := (digC (m % 10) :: z).length) T.u86 T.size5 rfl ⟨_, rfl⟩ (by omega) (by simp only [List.length_cons]; have := hTI.2.1; omega) <| Wp rfl <| st_bytesStr T.u88 T.u5 T.u9 rfl (sl_cut hb9 hcs.2) <| aS rfl <| en <| x_ret <| ret_tmp (v := S _) rfl rfl ?_
    have hxt : textV x = digC (m % 10) :: z := by unfold textV; rw [if_neg h2, show x.toNat = n by omega, hfin]
    rw [hxt]
    exact ⟨rfl, HC⟩
  ·try simp only [nm, ne_eq] at h1
   refine x_skip <| block_n <| then_n <| ⟨(a - 1, m / 10, digC (m % 10) :: z, cs.set (a - 1) (bV (digC (m % 10)))), ?_, ?_, rfl, ⟨rfl, rfl, trivial⟩, ?_⟩
   ·refine ⟨?_, HC, hb9⟩
    exact hTI.step hn (by omega)
   ·show a - 1 < a; omega
   repeat (first | exact agree_upds agree_over rfl | refine agree_upd ?_ rfl | refine agree_upds ?_ rfl | refine agree_over_sub ?_ rfl)
 ·try simp only [nm, ne_eq] at h0
  rw [show IntKind.u64.wrap x = (n : Int) by rw [wrapu64_id (by omega) (by omega)]; omega]
  refine x_skip <| then_n <| x_seq <| x_block <| x_loop (ι := Nat × Nat × Bytes × List Value) [4, 5, 12, 13, 14, 15, 16, 17, 18, 19, 20, 21, 22, 23] (fun ⟨a, m, z, cs⟩ => [(4, .int .i64 (a : Int)), (5, .int .u64 (m : Int))]) (fun ⟨a, m, z, cs⟩ W => (TI n a m z cs) ∧ (Chg [] w W) ∧ (Blk W b3 cs 86)) (fun ⟨a, m, z, cs⟩ => a) (20, n, [], [.int .u8 0, .int .u8 0, .int .u8 0, .int .u8 0, .int .u8 0, .int .u8 0, .int .u8 0, .int .u8 0, .int .u8 0, .int .u8 0, .int .u8 0, .int .u8 0, .int .u8 0, .int .u8 0, .int .u8 0, .int .u8 0, .int .u8 0, .int .u8 0, .int .u8 0, .int .u8 0]) ?_ ?_ ?_
  · exact ⟨rfl, rfl, trivial⟩
  ·refine ⟨?_, HC, hb4⟩
   exact ⟨rfl, rfl, rfl, by simp, by simp, .inl rfl⟩
  intro ⟨a, m, z, cs⟩ G14 w13 ⟨hTI, HC, hb3⟩
  change wp _ _ _ _ _ (upds (over _ _ G14) [(4, .int .i64 (a : Int)), (5, .int .u64 (m : Int))]) _ _
  have ha := hTI.pos hn
  have ha2 : a ≤ 20 := by have := hTI.2.1; omega
  have hmn : m ≤ n := Nat.le_trans (Nat.le_mul_of_pos_right _ (Nat.pos_of_ne_zero (by simp))) hTI.2.2.2.2.1
  have hd := digC_to (d := m % 10) (by omega)
  have hs13 : IntKind.i64.wrap ((a : Int) - 1) = ((a - 1 : Nat) : Int) := by rw [wrap64_id (by omega) (by omega)]; omega
  have hm16 : (m : Int).tmod 10 = ((m % 10 : Nat) : Int) := by rw [Int.tmod_eq_emod_of_nonneg (by omega)]; omega
  have hd18 : IntKind.u8.wrap (48 + ((m % 10 : Nat) : Int)) = ((digC (m % 10)).toNat : Int) := by rw [wrapu8_id (by omega) (by omega)]; omega
  have hq21 : IntKind.u64.wrap ((m : Int).tdiv 10) = ((m / 10 : Nat) : Int) := by rw [quou64 (by omega) (by omega) (by omega)]; omega
  refine x_block <| sr rfl <| mI rfl <| Wp rfl <| st_subk rfl rfl (by exact hs13) <| aI rfl <| en <| sr rfl <| mI rfl <| mI rfl <| Wp rfl <| st_remk rfl rfl (by decide) (by exact hm16) <| Wp rfl <| st_convk T.u87 T.u5 rfl (by exact wrapu8_id (by omega) (by omega)) <| Wp rfl <| st_addk rfl rfl (by exact hd18) <| Wp rfl <| st_arrAddr T.u86 T.size5 rfl rfl (by omega) (by omega) <| Wp rfl <| st_store (v := .int _ _) T.size5 rfl rfl rfl hb3 rfl (by have := hTI.1; simp only [List.length_singleton, Int.toNat_natCast]; omega) (by simp [Value.oneCell', S]) rfl ?_
  intro w15 c16 hb17
  replace hb17 : Blk w15 b3 (cs.set (a - 1) (bV (digC (m % 10)))) 86 := by have := hb17; simpa [setVs, setV_eq, Int.toNat_natCast, Nat.zero_add, bV] using this
  clear hb3
  replace HC := HC.then1 c16 ge_b3
  refine en <| sr rfl <| mI rfl <| Wp rfl <| st_quok rfl rfl (by decide) (by exact hq21) <| aI rfl <| en <| sr rfl <| mI rfl <| Wp rfl <| st_eql rfl rfl <| en <| x_cond rfl (fun h1 => ?_) (fun h1 => ?_)
  ·try simp only [nm, ne_eq] at h1
   have hfin := hTI.last (by omega)
   have hcs := hTI.cells (c := digC (m % 10)) hn
   have h19 := dec19 hn
   rw [hfin, List.length_cons] at h19
   have haz := hTI.2.1
   refine x_exit <| block_o rfl <| then_x <| block_x <| then_n <| x_seq <| sr rfl <| mI rfl <| Wp rfl <| st_lss rfl rfl <| en <| x_cond rfl (fun h2 => ?_) (fun h2 => ?_)
   ·try simp only [nm, ne_eq] at h2
    have hs27 : IntKind.i64.wrap (((a - 1 : Nat) : Int) - 1) = ((a - 1 - 1 : Nat) : Int) := by rw [wrap64_id (by omega) (by omega)]; omega
    refine sr rfl <| mI rfl <| Wp rfl <| st_subk rfl rfl (by exact hs27) <| aI rfl <| en <| x_region rfl <| mI rfl <| Wp rfl <| st_arrAddr T.u86 T.size5 rfl rfl (by omega) (by omega) <| Wp rfl <| st_store (v := .int _ _) T.size5 rfl rfl rfl hb17 rfl (by have := hcs.1; simp only [List.length_singleton, Int.toNat_natCast]; omega) (by simp [Value.oneCell', S]) rfl ?_
    intro w18 c19 hb20
    replace hb20 : Blk w18 b3 ((cs.set (a - 1) (bV (digC (m % 10)))).set (a - 1 - 1) (bV 45)) 86 := by have := hb20; simpa [setVs, setV_eq, Int.toNat_natCast, Nat.zero_add, bV] using this
    clear hb17
    have hcs2 := set_drop (L := (digC (m % 10) :: z).map bV) (v := bV 45) (k := a - 1 - 1) (by rw [show a - 1 - 1 + 1 = a - 1 by omega]; exact hcs.2) (by have := hcs.1; omega)
    replace HC := HC.then1 c19 ge_b3
    refine en <| sr rfl <| mI rfl <| Wp rfl <| st_arrCut (i := a - 1 - 1) (k := (45 :: digC (m % 10) :: z).length) T.u86 T.size5 rfl ⟨_, rfl⟩ (by omega) (by simp only [List.length_cons]; have := hTI.2.1; omega) <| Wp rfl <| st_bytesStr T.u88 T.u5 T.u9 rfl (sl_cut hb20 hcs2) <| aS rfl <| en <| x_ret <| ret_tmp (v := S _) rfl rfl ?_
    have hxt : textV x = 45 :: digC (m % 10) :: z := by unfold textV; rw [if_pos h2, show (-x).toNat = n by omega, hfin]; try rfl
    rw [hxt]
    exact ⟨rfl, HC⟩
   ·try simp only [nm, ne_eq] at h2
    refine x_skip <| then_n <| sr rfl <| mI rfl <| Wp rfl <| st_arrCut (i := a - 1) (k := (digC (m % 10) :: z).length) T.u86 T.size5 rfl ⟨_, rfl⟩ (by omega) (by simp only [List.length_cons]; have := hTI.2.1; omega) <| Wp rfl <| st_bytesStr T.u88 T.u5 T.u9 rfl (sl_cut hb17 hcs.2) <| aS rfl <| en <| x_ret <| ret_tmp (v := S _) rfl rfl ?_
    have hxt : textV x = digC (m % 10) :: z := by unfold textV; rw [if_neg h2, show x.toNat = n by omega, hfin]
    rw [hxt]
    exact ⟨rfl, HC⟩
  ·try simp only [nm, ne_eq] at h1
   refine x_skip <| block_n <| then_n <| ⟨(a - 1, m / 10, digC (m % 10) :: z, cs.set (a - 1) (bV (digC (m % 10)))), ?_, ?_, rfl, ⟨rfl, rfl, trivial⟩, ?_⟩
   ·refine ⟨?_, HC, hb17⟩
    exact hTI.step hn (by omega)
   ·show a - 1 < a; omega
   repeat (first | exact agree_upds agree_over rfl | refine agree_upd ?_ rfl | refine agree_upds ?_ rfl | refine agree_over_sub ?_ rfl)

end Go.Proofs.YtmbbhgglllfelaaGreatDoor.K
