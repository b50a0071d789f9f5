/- A tree's tokens are read as the tree, or too deep. -/
import Derived.Test.YtcgcbpknbjafcaaDoorTreeP
import Derived.Test.YtcgcbpknbjafcaaDoorTreeT
set_option linter.unusedVariables false
set_option linter.unusedSimpArgs false
set_option autoImplicit false
set_option maxRecDepth 20000
namespace Go.Proofs.YtcgcbpknbjafcaaDoor.K
open Go Go.Proofs Go.RowKit Tr
/-- Just this, or too deep. -/
def Is (k : Int) (ts : List Tk) (out : List Nd) (p : PR) : Prop := p = .good k ts out ∨ ∃ a, p = .bad 104 a
def Gives (q : NT → Nat → List Tk → List Nd → Option PR) (nt : NT) (d : Nat) (X : List Tk) (out : List Nd) (k : Int) (ts : List Tk) (out' : List Nd) : Prop := ∀ p, q nt d X out = some p → Is k ts out' p
theorem bind_is {r : Option PR} {f : Int → List Tk → List Nd → Option PR} {k k2 : Int} {ts ts2 : List Tk} {out out2 : List Nd} (hr : ∀ p, r = some p → Is k ts out p) (hf : ∀ p, f k ts out = some p → Is k2 ts2 out2 p) : ∀ p, PR.bind r f = some p → Is k2 ts2 out2 p := by
  intro p hp
  unfold PR.bind at hp
  split at hp
  · cases hp
  · cases hp
    rcases hr _ rfl with e | ⟨a, e⟩
    · cases e
    · cases e; exact .inr ⟨_, rfl⟩
  · rcases hr _ rfl with e | ⟨a, e⟩
    · cases e; exact hf p hp
    · cases e
theorem wI_is {q : NT → Nat → List Tk → List Nd → Option PR} {nt : NT} {d : Nat} {X ts : List Tk} {out out2 : List Nd} {k : Int} (h : Gives q nt (d + 1) X out k ts out2) : ∀ p, wI q nt d X out = some p → Is k ts out2 p := by
  intro p hp
  unfold wI at hp
  split at hp
  · cases hp; exact .inr ⟨_, rfl⟩
  · exact h p hp
theorem wI_gives {q : NT → Nat → List Tk → List Nd → Option PR} {nt : NT} {d : Nat} {X ts : List Tk} {out out2 : List Nd} {k : Int} (h : Gives q nt (d + 1) X out k ts out2) : Gives (wI q) nt d X out k ts out2 := wI_is h
/-- No level from n on goes on with these tokens. -/
def Cl (n : Nat) (ts : List Tk) : Prop := ∀ m, n ≤ m → m < 10 → inOp ts (lvls.getD m []) = false
theorem lev_of {X R : List Tk} {out out' : List Nd} {k : Int} (hT : ∀ f d, Gives (pP f) .trm d X out k R out') : ∀ (f n d : Nat), n ≤ 10 → Cl n R → Gives (pP f) (.lev n) d X out k R out'
  | 0, n, d, hn, hc => fun p h => by cases h
  | f + 1, n, d, hn, hc => fun p hp => by
    rw [pP] at hp
    split at hp
    · exact wI_is (hT f (d + 1)) p hp
    · rename_i h10
      refine bind_is (lev_of hT f (n + 1) d (by omega) (fun m h1 h2 => hc m (by omega) h2)) (fun q hq => ?_) p hp
      cases f with
      | zero => cases hq
      | succ f =>
        rw [pP, if_neg (by rw [hc n (Nat.le_refl _) (by omega)]; simp)] at hq
        cases hq; exact .inl rfl
theorem cho_of {X R : List Tk} {out out' : List Nd} {k : Int} (hL : ∀ f d, Gives (pP f) (.lev 0) d X out k R out') (hq : inOp R [[63]] = false) : ∀ (f d : Nat), Gives (pP f) .cho d X out k R out'
  | 0, d => fun p h => by cases h
  | f + 1, d => fun p hp => by
    rw [pP] at hp
    refine bind_is (hL f d) (fun q h => ?_) p hp
    rw [if_neg (by rw [hq]; simp)] at h
    cases h; exact .inl rfl
theorem asg_of {X R : List Tk} {out out' : List Nd} {k : Int} (hC : ∀ f d, Gives (pP f) .cho d X out k R out') (ha : isAsg X = false) : ∀ (f d : Nat), Gives (pP f) .asg d X out k R out'
  | 0, d => fun p h => by cases h
  | f + 1, d => fun p hp => by
    rw [pP, if_neg (by rw [ha]; simp)] at hp
    exact wI_is (hC f (d + 1)) p hp
theorem inOp_op {o : Bytes} {j : Nat} {r : List Tk} {l : List Bytes} : inOp (opT o j :: r) l = l.contains o := by simp [inOp, hdT, opT]
/-- Tokens that no reader goes on with. -/
def Clo (R : List Tk) : Prop := Cl 0 R ∧ inOp R [[63]] = false ∧ inOp R asgL = false
theorem clo_op {c : UInt8} {j : Nat} {r : List Tk} (h : c = 41 ∨ c = 58) : Clo (opT [c] j :: r) := by
  refine ⟨fun m _ hm => ?_, ?_, ?_⟩
  · rw [inOp_op]
    have : ∀ m, m < 10 → (lvls.getD m []).contains [41] = false ∧ (lvls.getD m []).contains [58] = false := by decide
    rcases h with rfl | rfl
    · exact (this m hm).1
    · exact (this m hm).2
  · rw [inOp_op]; rcases h with rfl | rfl <;> rfl
  · rw [inOp_op]; rcases h with rfl | rfl <;> rfl
theorem clo_end {a : Int} {r : List Tk} : Clo (((0, 0, []), a) :: r) := ⟨fun m _ hm => by simp [inOp, hdT], by simp [inOp, hdT], by simp [inOp, hdT]⟩
theorem isAsg_toks {t : Tr} {i : Nat} {R : List Tk} (h : inOp R asgL = false) : isAsg (toks t i ++ R) = false := by
  cases t <;> simp [isAsg, toks, hdT, opT, h]
/-- Brackets about it. -/
theorem par_of {X r : List Tk} {i j : Nat} {out out' : List Nd} {k : Int} (hA : ∀ f d, Gives (pP f) .asg d X out k (opT [41] j :: r) out') : ∀ (f d : Nat), Gives (pP f) .trm d (opT [40] i :: X) out k r out'
  | 0, d => fun p h => by cases h
  | f + 1, d => fun p hp => by
    rw [pP, if_neg (by simp [hdT, opT]), if_neg (by simp [hdT, opT]), if_neg (by rw [inOp_op]; decide), if_pos (by rw [inOp_op]; decide)] at hp
    refine bind_is (wI_is (hA f (d + 1))) (fun q hq => ?_) p hp
    rw [if_pos (by rw [inOp_op]; decide)] at hq
    cases hq; exact .inl rfl
theorem lv_at {o : Bytes} (h : 0 < levelV o) : ∃ m, m < 10 ∧ (lvls.getD m []).contains o = true ∧ ∀ n, n < 10 → n ≠ m → (lvls.getD n []).contains o = false := by
  have h1 := lvl_in h
  have : ∀ o, o ∈ opsB → ∃ m, m < 10 ∧ (lvls.getD m []).contains o = true ∧ ∀ n, n < 10 → n ≠ m → (lvls.getD n []).contains o = false := by decide
  exact this o h1
theorem trm_lev {t : Tr} {i : Nat} {R : List Tk} {out : List Nd} {n : Nat} (hT : ∀ f d, Gives (pP f) .trm d (toks t i ++ R) out (t.root out.length) R (out ++ t.row out.length)) (hn : n ≤ 10) (hc : Cl n R) : ∀ f d, Gives (pP f) (.lev n) d (toks t i ++ R) out (t.root out.length) R (out ++ t.row out.length) := fun f d => lev_of hT f n d hn hc
theorem trm_cho {t : Tr} {i : Nat} {R : List Tk} {out : List Nd} (hT : ∀ f d, Gives (pP f) .trm d (toks t i ++ R) out (t.root out.length) R (out ++ t.row out.length)) (hc : Clo R) : ∀ f d, Gives (pP f) .cho d (toks t i ++ R) out (t.root out.length) R (out ++ t.row out.length) := cho_of (trm_lev hT (by omega) hc.1) hc.2.1
theorem trm_asg {t : Tr} {i : Nat} {R : List Tk} {out : List Nd} (hT : ∀ f d, Gives (pP f) .trm d (toks t i ++ R) out (t.root out.length) R (out ++ t.row out.length)) (hc : Clo R) : ∀ f d, Gives (pP f) .asg d (toks t i ++ R) out (t.root out.length) R (out ++ t.row out.length) := asg_of (trm_cho hT hc) (isAsg_toks hc.2.2)
/-- A level with an operator. -/
theorem lev_bin {a b : Tr} {o : Bytes} {i j j2 m : Nat} {R : List Tk} {out : List Nd} (hm : m < 10) (hin : (lvls.getD m []).contains o = true) (hno : ∀ n, n < 10 → n ≠ m → (lvls.getD n []).contains o = false) (hR : Cl 0 R)
    (hA : ∀ f d, Gives (pP f) .trm d (toks a i ++ (opT o j :: (toks b j2 ++ R))) out (a.root out.length) (opT o j :: (toks b j2 ++ R)) (out ++ a.row out.length))
    (hB : ∀ f d, Gives (pP f) .trm d (toks b j2 ++ R) (out ++ a.row out.length) (b.root (out ++ a.row out.length).length) R ((out ++ a.row out.length) ++ b.row (out ++ a.row out.length).length)) :
    ∀ (f n d : Nat), n ≤ m → Gives (pP f) (.lev n) d (toks a i ++ (opT o j :: (toks b j2 ++ R))) out ((bin o a b).root out.length) R (out ++ (bin o a b).row out.length)
  | 0, n, d, hn => fun p h => by cases h
  | f + 1, n, d, hn => fun p hp => by
    rw [pP, if_neg (by omega)] at hp
    by_cases hnm : n = m
    · subst hnm
      refine bind_is (trm_lev hA (by omega) (fun m' h1 h2 => by rw [inOp_op]; exact hno m' h2 (by omega)) f d) (fun q hq => ?_) p hp
      cases f with
      | zero => cases hq
      | succ f =>
        rw [pP, if_pos (by rw [inOp_op]; exact hin)] at hq
        refine bind_is (trm_lev hB (by omega) (fun m' _ h2 => hR m' (by omega) h2) f d) (fun q2 hq2 => ?_) q hq
        cases f with
        | zero => cases hq2
        | succ f =>
          rw [pP, if_neg (by rw [hR n (by omega) hm]; simp)] at hq2
          cases hq2
          refine .inl ?_
          have e1 : ((out ++ a.row out.length) ++ b.row (out ++ a.row out.length).length) ++ [⟨(hdT (opT o j :: (toks b j2 ++ R))).1.2.2, 0, [], [a.root out.length, b.root (out ++ a.row out.length).length]⟩] = out ++ (bin o a b).row out.length := by
            simp only [row, List.length_append, row_len, List.append_assoc, hdT, opT, List.headD_cons]
          have e2 : ((((out ++ a.row out.length) ++ b.row (out ++ a.row out.length).length).length : Nat) : Int) = (bin o a b).root out.length := by
            rw [List.length_append, List.length_append, row_len, row_len, Nat.add_assoc]; exact root_put (bin o a b) out (a.sz + b.sz) rfl
          rw [e1, e2]
    · refine bind_is (lev_bin hm hin hno hR hA hB f (n + 1) d (by omega)) (fun q hq => ?_) p hp
      cases f with
      | zero => cases hq
      | succ f =>
        rw [pP, if_neg (by rw [hR n (by omega) (by omega)]; simp)] at hq
        cases hq; exact .inl rfl
theorem trm_is : ∀ (t : Tr) (i : Nat) (R : List Tk) (out : List Nd), t.ok → ∀ f d, Gives (pP f) .trm d (toks t i ++ R) out (t.root out.length) R (out ++ t.row out.length)
  | num n, i, R, out, h, 0, d => fun p h => by cases h
  | num n, i, R, out, h, f + 1, d => fun p hp => by
    rw [pP, if_pos (by rfl)] at hp
    cases hp; exact .inl (by rw [← root_put (num n) out 0 rfl]; rfl)
  | var s, i, R, out, h, 0, d => fun p h => by cases h
  | var s, i, R, out, h, f + 1, d => fun p hp => by
    rw [pP, if_neg (by show ¬ (2 : Int) = 1; decide), if_pos (by rfl)] at hp
    cases hp; exact .inl (by rw [← root_put (var s) out 0 rfl]; rfl)
  | asg o n t, i, R, out, h, f, d => by
    have ht := trm_asg (R := opT [41] (i + 1 + n.length + o.length + (str t).length) :: R) (out := out) (trm_is t (i + 1 + n.length + o.length) _ out h.2.2) (clo_op (.inl rfl))
    simp only [toks, List.cons_append, List.append_assoc, List.nil_append]
    refine par_of (j := i + 1 + n.length + o.length + (str t).length) (fun f d => ?_) f d
    cases f with
    | zero => exact fun p h => by cases h
    | succ f =>
      intro p hp
      rw [pP, if_pos (by
        unfold isAsg
        rw [List.drop_succ_cons, List.drop_zero, inOp_op, List.contains_iff_mem.2 h.1]; rfl)] at hp
      refine bind_is (wI_is (ht f (d + 1))) (fun q hq => ?_) p hp
      cases hq
      refine .inl ?_
      have e2 : (((out ++ t.row out.length).length : Nat) : Int) = (asg o n t).root out.length := by rw [List.length_append, row_len]; exact root_put (asg o n t) out t.sz rfl
      rw [e2, List.append_assoc]; rfl
  | un o t, i, R, out, h, f, d => by
    have ht := trm_is t (i + 1 + o.length) (opT [41] (i + 1 + o.length + (str t).length) :: R) out h.2
    simp only [toks, List.cons_append, List.append_assoc, List.nil_append]
    refine par_of (j := i + 1 + o.length + (str t).length) ?_ f d
    have hc := clo_op (c := 41) (j := i + 1 + o.length + (str t).length) (r := R) (.inl rfl)
    refine asg_of (cho_of (fun f d => lev_of (fun f d => ?_) f 0 d (by omega) hc.1) hc.2.1) (by simp [isAsg, hdT, opT])
    cases f with
    | zero => exact fun p h => by cases h
    | succ f =>
      intro p hp
      rw [pP, if_neg (by simp [hdT, opT]), if_neg (by simp [hdT, opT]), if_pos (by rw [inOp_op]; exact List.contains_iff_mem.2 h.1)] at hp
      refine bind_is (wI_is (ht f (d + 1))) (fun q hq => ?_) p hp
      cases hq
      refine .inl ?_
      have e2 : (((out ++ t.row out.length).length : Nat) : Int) = (un o t).root out.length := by rw [List.length_append, row_len]; exact root_put (un o t) out t.sz rfl
      rw [e2, List.append_assoc]; rfl
  | cnd a b c, i, R, out, h, f, d => by
    obtain ⟨j1, hj1⟩ : ∃ j, i + 1 + (str a).length = j := ⟨_, rfl⟩
    obtain ⟨j2, hj2⟩ : ∃ j, j1 + 1 + (str b).length = j := ⟨_, rfl⟩
    obtain ⟨j3, hj3⟩ : ∃ j, j2 + 1 + (str c).length = j := ⟨_, rfl⟩
    simp only [toks, List.cons_append, List.append_assoc, List.nil_append, hj1, hj2, hj3]
    obtain ⟨o1, ho1⟩ : ∃ o1, out ++ a.row out.length = o1 := ⟨_, rfl⟩
    obtain ⟨o2, ho2⟩ : ∃ o2, o1 ++ b.row o1.length = o2 := ⟨_, rfl⟩
    have hA := trm_lev (n := 0) (trm_is a (i + 1) (opT [63] j1 :: (toks b (j1 + 1) ++ (opT [58] j2 :: (toks c (j2 + 1) ++ (opT [41] j3 :: R))))) out h.1) (by omega) (fun m _ hm => by
      rw [inOp_op]
      have : ∀ m, m < 10 → (lvls.getD m []).contains [63] = false := by decide
      exact this m hm)
    have hB := trm_asg (trm_is b (j1 + 1) (opT [58] j2 :: (toks c (j2 + 1) ++ (opT [41] j3 :: R))) o1 h.2.1) (clo_op (.inr rfl))
    have hC := trm_cho (trm_is c (j2 + 1) (opT [41] j3 :: R) o2 h.2.2) (clo_op (.inl rfl))
    refine par_of (j := j3) ?_ f d
    refine asg_of (fun f d => ?_) (isAsg_toks (by rw [inOp_op]; decide))
    cases f with
    | zero => exact fun p h => by cases h
    | succ f =>
      intro p hp
      rw [pP] at hp
      refine bind_is (hA f d) (fun q hq => ?_) p hp
      rw [if_pos (by rw [inOp_op]; decide), ho1] at hq
      refine bind_is (wI_is (hB f (d + 1))) (fun q2 hq2 => ?_) q hq
      rw [if_pos (by rw [inOp_op]; decide), ho2] at hq2
      refine bind_is (wI_is (hC f (d + 1))) (fun q3 hq3 => ?_) q2 hq2
      cases hq3
      refine .inl ?_
      have l1 : o1.length = out.length + a.sz := by rw [← ho1, List.length_append, row_len]
      have l2 : o2.length = out.length + a.sz + b.sz := by rw [← ho2, List.length_append, row_len, l1]
      have e2 : (((o2 ++ c.row o2.length).length : Nat) : Int) = (cnd a b c).root out.length := by
        rw [List.length_append, row_len, l2, Nat.add_assoc, Nat.add_assoc]; exact root_put (cnd a b c) out (a.sz + (b.sz + c.sz)) (by simp only [sz]; omega)
      rw [e2, l2, ← ho2, l1, ← ho1]
      simp only [row, List.append_assoc]
  | bin o a b, i, R, out, h, f, d => by
    obtain ⟨m, h1, h2, h3⟩ := lv_at h.1
    obtain ⟨q1, q2, q3, q4, q5⟩ := lv_op h.1
    obtain ⟨j1, hj1⟩ : ∃ j, i + 1 + (str a).length = j := ⟨_, rfl⟩
    obtain ⟨j2, hj2⟩ : ∃ j, j1 + o.length + (str b).length = j := ⟨_, rfl⟩
    simp only [toks, List.cons_append, List.append_assoc, List.nil_append, hj1, hj2]
    have hc := clo_op (c := 41) (j := j2) (r := R) (.inl rfl)
    refine par_of (j := j2) ?_ f d
    refine asg_of (cho_of (fun f d => lev_bin h1 h2 h3 hc.1 (trm_is a (i + 1) _ out h.2.1) (trm_is b (j1 + o.length) _ _ h.2.2) f 0 d (by omega)) hc.2.1) (isAsg_toks (by rw [inOp_op]; cases hx : asgL.contains o with | false => rfl | true => exact absurd (List.contains_iff_mem.1 hx) q3))
theorem toks_len : ∀ (t : Tr) (i : Nat), t.ok → (toks t i).length ≤ (str t).length
  | num n, i, h => List.length_pos_iff.2 (decT_ne _)
  | var s, i, h => by
    obtain ⟨c, q, e, _⟩ := nameV_cons h.1
    show 1 ≤ s.length; rw [e]; simp
  | asg o n t, i, h => by
    have h1 := toks_len t (i + 1 + n.length + o.length) h.2.2
    obtain ⟨c, q, e, _⟩ := nameV_cons h.2.1.1
    have h2 := List.length_pos_iff.2 (asg_ops h.1).2.2
    have h3 : 0 < n.length := by rw [e]; simp
    simp only [toks, str, List.length_cons, List.length_append, List.length_nil]; omega
  | un o t, i, h => by
    have h1 := toks_len t (i + 1 + o.length) h.2
    have h2 := List.length_pos_iff.2 (ops_at (un_ops h.1)).1
    simp only [toks, str, List.length_cons, List.length_append, List.length_nil]; omega
  | cnd a b c, i, h => by
    have h1 := toks_len a (i + 1) h.1
    have h2 := toks_len b (i + 1 + (str a).length + 1) h.2.1
    have h3 := toks_len c (i + 1 + (str a).length + 1 + (str b).length + 1) h.2.2
    simp only [toks, str, List.length_cons, List.length_append, List.length_nil]; omega
  | bin o a b, i, h => by
    have h1 := toks_len a (i + 1) h.2.1
    have h2 := toks_len b (i + 1 + (str a).length + o.length) h.2.2
    have h3 := List.length_pos_iff.2 (lv_ops h.1).2.2
    simp only [toks, str, List.length_cons, List.length_append, List.length_nil]; omega
theorem tokV_str {t : Tr} (h : t.ok) {L : List Yd} (hL : toksF ((str t).length + 1) (str t) 0 = L) : tokV L = (toks t 0 ++ [((0, 0, []), ((str t).length : Int))], 0, 0) := by
  have hl := toks_len t 0 h
  have h1 := toks_str t (str t) [] 0 ((str t).length - (toks t 0).length + 1) h (by simp) rfl
  rw [show (toks t 0).length + ((str t).length - (toks t 0).length + 1) = (str t).length + 1 by omega, hL, Nat.zero_add, toksF_end] at h1
  have hz : L.find? errV = none := by
    rw [List.find?_eq_none]
    intro y hy
    rw [h1] at hy
    rcases List.mem_append.1 hy with hy | hy
    · obtain ⟨x, _, rfl⟩ := List.mem_map.1 hy; simp [errV, yd]
    · rw [List.mem_singleton.1 hy]; simp [errV]
  unfold tokV
  rw [hz, h1]
  have e : ∀ l : List Tk, (l.map yd).map toTk = l := fun l => by rw [List.map_map]; exact List.map_id' l
  simp only [List.map_append, e]; rfl
/-- THERE AND BACK: a tree's text is read as the tree, or is too deep. -/
theorem parse_str {t : Tr} (h : t.ok) (hs : t.sz ≤ 1000) {L : List Yd} (hL : toksF ((str t).length + 1) (str t) 0 = L) : parseV (str t) L = (t.row 0, 0, 0) ∨ ∃ a, parseV (str t) L = ([], a, 104) := by
  obtain ⟨T, hT⟩ : ∃ T, toks t 0 ++ [(((0, 0, []), ((str t).length : Int)) : Tk)] = T := ⟨_, rfl⟩
  have h1 := tokV_str h hL
  rw [hT] at h1
  unfold parseV
  rw [h1]
  simp only [not_true_eq_false, if_false]
  obtain ⟨r, hr, _⟩ := parse_tot T
  rw [hr]
  have h2 := wI_is (trm_asg (trm_is t 0 [((0, 0, []), ((str t).length : Int))] [] h) clo_end (fuelP T) 1) r (by rw [hT]; exact hr)
  rcases h2 with rfl | ⟨a, rfl⟩
  · left
    simp only [List.nil_append, List.length_nil]
    rw [if_neg (by simp [hdT]), if_neg (by rw [row_len]; omega)]
  · exact .inr ⟨a, rfl⟩
end Go.Proofs.YtcgcbpknbjafcaaDoor.K
