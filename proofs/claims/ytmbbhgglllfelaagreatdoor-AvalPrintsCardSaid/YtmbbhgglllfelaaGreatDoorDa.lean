import Derived.Test.YtmbbhgglllfelaaGreatDoorHa
import Derived.Test.YtmbbhgglllfelaaGreatDoorCh
import Derived.Test.YtmbbhgglllfelaaGreatDoorKitQ
set_option linter.unusedVariables false
set_option linter.unusedSimpArgs false
set_option autoImplicit false
set_option maxRecDepth 20000
namespace Go.Proofs.YtmbbhgglllfelaaGreatDoor.K
open Go Go.Proofs Go.RowKit

open Tr
def inR (x : Int) : Prop := -9223372036854775808 ≤ x ∧ x ≤ 9223372036854775807
theorem wrap_in (x : Int) : inR (IntKind.i64.wrap x) := by
  unfold inR; simp only [IntKind.wrap, IntKind.signed, IntKind.bits]; simp; omega
theorem truth_in (b : Bool) : inR (truthV b) := by cases b <;> exact ⟨by decide, by decide⟩
theorem valV_in (s : Bytes) : inR (valV s).1 := by
  unfold valV; split
  · exact ⟨by decide, by decide⟩
  · split
    · split
      · exact wrap_in _
      · exact ⟨by decide, by decide⟩
    · split
      · exact wrap_in _
      · exact ⟨by decide, by decide⟩
theorem getV_in (vs : List Vr) (n : Bytes) : inR (getV vs n).1 := by
  unfold getV; split
  · exact valV_in _
  · exact ⟨by decide, by decide⟩

theorem tmod_in {a b : Int} (h : inR a) : inR (a.tmod b) := by
  unfold inR at *
  have : (a.tmod b).natAbs ≤ a.natAbs := by rw [Int.natAbs_tmod]; exact Nat.mod_le _ _
  by_cases h2 : 0 ≤ a
  · have := Int.tmod_nonneg b h2; omega
  · have : 0 ≤ (-a).tmod b := Int.tmod_nonneg b (by omega)
    rw [Int.neg_tmod] at this; omega
theorem shr_in {a n : Int} (h : inR a) : inR (shrV .i64 a n) := by
  unfold inR shrV at *
  generalize min n.toNat IntKind.i64.bits = k
  have hp : (0 : Int) < 2 ^ k := Int.pow_pos (by decide)
  rw [Int.fdiv_eq_ediv_of_nonneg _ (Int.le_of_lt hp)]
  have h1 : (1 : Int) ≤ 2 ^ k := hp
  constructor
  · rw [Int.le_ediv_iff_mul_le hp]
    have := Int.mul_le_mul_of_nonpos_left (show (-9223372036854775808 : Int) ≤ 0 by decide) h1
    omega
  · by_cases h0 : 0 ≤ a
    · exact Int.le_trans (Int.ediv_le_self _ h0) h.2
    · have : a / 2 ^ k < 0 := Int.ediv_neg_of_neg_of_pos (by omega) hp
      omega
theorem opNum_in {op : Bytes} {a b v : Int} (ha : inR a) (hv : opNum op a b = some v) : inR v := by
  unfold opNum at hv
  by_cases h0 : op = [43]
  · rw [if_pos h0] at hv; rw [← Option.some.inj hv]; exact wrap_in _
  rw [if_neg h0] at hv
  by_cases h1 : op = [45]
  · rw [if_pos h1] at hv; rw [← Option.some.inj hv]; exact wrap_in _
  rw [if_neg h1] at hv
  by_cases h2 : op = [42]
  · rw [if_pos h2] at hv; rw [← Option.some.inj hv]; exact wrap_in _
  rw [if_neg h2] at hv
  by_cases h3 : op = [47]
  · rw [if_pos h3] at hv; rw [← Option.some.inj hv]; exact wrap_in _
  rw [if_neg h3] at hv
  by_cases h4 : op = [37]
  · rw [if_pos h4] at hv; rw [← Option.some.inj hv]; exact tmod_in ha
  rw [if_neg h4] at hv
  by_cases h5 : op = [60, 60]
  · rw [if_pos h5] at hv; rw [← Option.some.inj hv]; exact wrap_in _
  rw [if_neg h5] at hv
  by_cases h6 : op = [62, 62]
  · rw [if_pos h6] at hv; rw [← Option.some.inj hv]; exact shr_in ha
  rw [if_neg h6] at hv
  by_cases h7 : op = [60]
  · rw [if_pos h7] at hv; rw [← Option.some.inj hv]; exact truth_in _
  rw [if_neg h7] at hv
  by_cases h8 : op = [60, 61]
  · rw [if_pos h8] at hv; rw [← Option.some.inj hv]; exact truth_in _
  rw [if_neg h8] at hv
  by_cases h9 : op = [62]
  · rw [if_pos h9] at hv; rw [← Option.some.inj hv]; exact truth_in _
  rw [if_neg h9] at hv
  by_cases h10 : op = [62, 61]
  · rw [if_pos h10] at hv; rw [← Option.some.inj hv]; exact truth_in _
  rw [if_neg h10] at hv
  by_cases h11 : op = [61, 61]
  · rw [if_pos h11] at hv; rw [← Option.some.inj hv]; exact truth_in _
  rw [if_neg h11] at hv
  by_cases h12 : op = [33, 61]
  · rw [if_pos h12] at hv; rw [← Option.some.inj hv]; exact truth_in _
  rw [if_neg h12] at hv
  by_cases h13 : op = [38]
  · rw [if_pos h13] at hv; rw [← Option.some.inj hv]; exact wrap_in _
  rw [if_neg h13] at hv
  by_cases h14 : op = [94]
  · rw [if_pos h14] at hv; rw [← Option.some.inj hv]; exact wrap_in _
  rw [if_neg h14] at hv
  by_cases h15 : op = [124]
  · rw [if_pos h15] at hv; rw [← Option.some.inj hv]; exact wrap_in _
  rw [if_neg h15] at hv
  cases hv
theorem applyV_in {op : Bytes} {a b : Int} (ha : inR a) : inR (applyV op a b).1 := by
  have h0 : inR 0 := ⟨by decide, by decide⟩
  unfold applyV
  cases hv : opNum op a b with
  | none => exact h0
  | some v =>
    dsimp only
    split
    · exact h0
    · exact opNum_in ha hv

theorem valV_er (s : Bytes) : (valV s).2 ≠ 0 → (valV s).1 = 0 := by
  unfold valV; split
  · exact fun h => absurd rfl h
  · split
    · split
      · exact fun h => absurd rfl h
      · exact fun _ => rfl
    · split
      · exact fun h => absurd rfl h
      · exact fun _ => rfl
theorem getV_er (vs : List Vr) (n : Bytes) : (getV vs n).2 ≠ 0 → (getV vs n).1 = 0 := by
  unfold getV; split
  · exact valV_er _
  · exact fun _ => rfl
theorem applyV_er (op : Bytes) (a b : Int) : (applyV op a b).2 ≠ 0 → (applyV op a b).1 = 0 := by
  unfold applyV
  cases hv : opNum op a b with
  | none => exact fun _ => rfl
  | some v =>
    dsimp only
    split
    · exact fun _ => rfl
    · exact fun h => absurd rfl h
/-- What any run comes to. -/
def RP (r : Rs) : Prop := inR r.1 ∧ (r.2.2 ≠ 0 → r.1 = 0) ∧ VK r.2.1
theorem in0 : inR 0 := ⟨by decide, by decide⟩
theorem putV_some {vs : List Vr} {n : Bytes} {x : Int} (h : inR x) : putV vs n x = some (putL vs n x) := by unfold putV; exact if_pos h
theorem asgV_some {o n : Bytes} {a : Int} {vs : List Vr} (ha : inR a) (hv : VK vs) : ∃ r, asgV o n a vs = some r ∧ RP r := by
  unfold asgV
  by_cases c1 : Lib.trimSuffix o [61] = []
  · rw [if_pos c1, putV_some ha]; exact ⟨_, rfl, ha, fun h => absurd rfl h, (putV_vk (putV_some ha) hv).1⟩
  rw [if_neg c1]
  by_cases c2 : ¬ (getV vs n).2 = 0
  · rw [if_pos c2]; exact ⟨_, rfl, in0, fun _ => rfl, hv⟩
  rw [if_neg c2]
  by_cases c3 : ¬ (applyV (Lib.trimSuffix o [61]) (getV vs n).1 a).2 = 0
  · rw [if_pos c3]; exact ⟨_, rfl, in0, fun _ => rfl, hv⟩
  have hap := applyV_in (op := Lib.trimSuffix o [61]) (b := a) (getV_in vs n)
  rw [if_neg c3, putV_some hap]; exact ⟨_, rfl, hap, fun h => absurd rfl h, (putV_vk (putV_some hap) hv).1⟩
theorem evalN_some {x : Nd} {k : Nat → List Vr → Option Rs} {vs : List Vr} (hv : VK vs) (hn : x.op = [35] → inR x.num)
    (h0 : x.op ≠ [35] → x.op ≠ [36] → ∀ u, VK u → ∃ r, k 0 u = some r ∧ RP r)
    (h1 : x.op ≠ [35] → x.op ≠ [36] → x.name = [] → x.op ≠ [117, 43] → x.op ≠ [117, 45] → x.op ≠ [117, 33] → x.op ≠ [117, 126] → ∀ u, VK u → ∃ r, k 1 u = some r ∧ RP r)
    (h2 : x.op = [63] → ∀ u, VK u → ∃ r, k 2 u = some r ∧ RP r) : ∃ r, evalN x k vs = some r ∧ RP r := by
  unfold evalN
  by_cases c1 : x.op = [35]
  · rw [if_pos c1]; exact ⟨_, rfl, hn c1, fun h => absurd rfl h, hv⟩
  rw [if_neg c1]
  by_cases c2 : x.op = [36]
  · rw [if_pos c2]; exact ⟨_, rfl, getV_in _ _, getV_er _ _, hv⟩
  rw [if_neg c2]
  obtain ⟨q, hq, q1, q2, q3⟩ := h0 c1 c2 vs hv
  rw [hq, Option.bind_some]
  by_cases c3 : q.2.2 = 0
  case neg => rw [if_pos c3]; exact ⟨_, rfl, in0, fun _ => rfl, q3⟩
  rw [if_neg (fun h => h c3)]
  by_cases c4 : x.name = []
  case neg => rw [if_pos c4]; exact asgV_some q1 q3
  rw [if_neg (fun h => h c4)]
  by_cases c5 : x.op = [117, 43]
  · rw [if_pos c5]; exact ⟨_, rfl, q1, fun h => absurd rfl h, q3⟩
  rw [if_neg c5]
  by_cases c6 : x.op = [117, 45]
  · rw [if_pos c6]; exact ⟨_, rfl, wrap_in _, fun h => absurd rfl h, q3⟩
  rw [if_neg c6]
  by_cases c7 : x.op = [117, 33]
  · rw [if_pos c7]; exact ⟨_, rfl, truth_in _, fun h => absurd rfl h, q3⟩
  rw [if_neg c7]
  by_cases c8 : x.op = [117, 126]
  · rw [if_pos c8]; exact ⟨_, rfl, wrap_in _, fun h => absurd rfl h, q3⟩
  rw [if_neg c8]
  by_cases c9 : x.op = [63]
  · rw [if_pos c9]
    by_cases d : q.1 = 0
    · rw [if_neg (fun h => h d)]; exact h2 c9 _ q3
    · rw [if_pos d]; exact h1 c1 c2 c4 c5 c6 c7 c8 _ q3
  rw [if_neg c9]
  obtain ⟨z, hz, z1, z2, z3⟩ := h1 c1 c2 c4 c5 c6 c7 c8 _ q3
  have htr : z.2.2 ≠ 0 → truthV (!decide (z.1 = 0)) = 0 := fun h => by rw [z2 h]; rfl
  by_cases c10 : x.op = [38, 38]
  · rw [if_pos c10]
    by_cases d : q.1 = 0
    · rw [if_neg (fun h => h d)]; exact ⟨_, rfl, truth_in false, fun h => absurd rfl h, q3⟩
    · rw [if_pos d, hz]; exact ⟨_, rfl, truth_in _, htr, z3⟩
  rw [if_neg c10]
  by_cases c11 : x.op = [124, 124]
  · rw [if_pos c11]
    by_cases d : q.1 = 0
    · rw [if_neg (fun h => h d), hz]; exact ⟨_, rfl, truth_in _, htr, z3⟩
    · rw [if_pos d]; exact ⟨_, rfl, truth_in true, fun h => absurd rfl h, q3⟩
  rw [if_neg c11, hz]
  refine ⟨_, rfl, ?_, ?_, z3⟩
  · dsimp only; split
    · exact applyV_in q1
    · exact in0
  · dsimp only; split
    · exact applyV_er _ _ _
    · exact fun _ => rfl
theorem runV_some : ∀ (t : Tr) (vs : List Vr), t.ok → VK vs → ∃ r, runV t vs = some r ∧ RP r
  | .num n, vs, h, hv => by rw [runV]; exact evalN_some hv (fun _ => ⟨by have := h.1; simp only [node]; omega, h.2⟩) (fun e => absurd rfl e) (fun e => absurd rfl e) (fun e => by simp [node] at e)
  | .var s, vs, h, hv => by rw [runV]; exact evalN_some hv (fun e => by simp [node] at e) (fun _ e => absurd rfl e) (fun _ e => absurd rfl e) (fun e => by simp [node] at e)
  | .asg o n t, vs, h, hv => by
    rw [runV]
    exact evalN_some hv (fun e => absurd e (asg_op h.1).1) (fun _ _ u hu => runV_some t u h.2.2 hu) (fun _ _ e => by have := h.2.1; unfold Nm at this; rw [show n = [] from e] at this; exact absurd this.1 (by decide)) (fun e => by have h3 := h.1; rw [show o = [63] from e] at h3; exact absurd h3 (by decide))
  | .un o t, vs, h, hv => by
    rw [runV]
    have hu : ∀ o, o ∈ unL → (117 :: o : Bytes) = [117, 43] ∨ (117 :: o : Bytes) = [117, 45] ∨ (117 :: o : Bytes) = [117, 33] ∨ (117 :: o : Bytes) = [117, 126] := by decide
    refine evalN_some hv (fun e => absurd e (un_op h.1).1) (fun _ _ u hu => runV_some t u h.2 hu) (fun _ _ _ e1 e2 e3 e4 => ?_) (fun e => by simp at e)
    rcases hu o h.1 with e | e | e | e
    · exact absurd e e1
    · exact absurd e e2
    · exact absurd e e3
    · exact absurd e e4
  | .cnd a b c, vs, h, hv => by
    rw [runV]
    exact evalN_some hv (fun e => by simp at e) (fun _ _ u hu => runV_some a u h.1 hu) (fun _ _ _ _ _ _ _ u hu => runV_some b u h.2.1 hu) (fun _ u hu => runV_some c u h.2.2 hu)
  | .bin o a b, vs, h, hv => by
    rw [runV]
    exact evalN_some hv (fun e => absurd e (lv_op h.1).1) (fun _ _ u hu => runV_some a u h.2.1 hu) (fun _ _ _ _ _ _ _ u hu => runV_some b u h.2.2 hu) (fun e => absurd e (lv_op h.1).2.2.2.2)

end Go.Proofs.YtmbbhgglllfelaaGreatDoor.K
set_option linter.unusedVariables false
set_option linter.unusedSimpArgs false
set_option autoImplicit false
set_option maxRecDepth 20000
namespace Go.Proofs.YtmbbhgglllfelaaGreatDoor.K
open Go Go.Proofs Go.RowKit
open Tr
end Go.Proofs.YtmbbhgglllfelaaGreatDoor.K
set_option linter.unusedVariables false
set_option linter.unusedSimpArgs false
set_option autoImplicit false
set_option maxRecDepth 20000
namespace Go.Proofs.YtmbbhgglllfelaaGreatDoor.K
open Go Go.Proofs Go.RowKit
open Tr
theorem mrun_spec (b : Nat) (Al : Option Addr) (capl : Nat) (l : List Nd) (hll : l.length ≤ 1000000) : ∀ (n : Nat) (t : Tr) (p : Nat) (vs : List Vr) (r : Rs) (w : World), t.sz ≤ n → t.ok → SubAt l t p → p + t.sz ≤ l.length → MaAt w b Al capl l vs 0 → VK vs → vs.length + t.sz ≤ 100000000 → runV t vs = some r → CallR Tryz.prog 15 #[.pointer (some ⟨b, 0, none⟩), .int .i64 (t.root p)] w (PostM b Al capl l r w)
  | 0, t, _, _, _, _, h, _, _, _, _, _, _, _ => by have := t.sz_pos; omega
  | n + 1, t, p, vs, r, w, h1, h2, h3, h4, h5, h6, h7, h8 => run_step n b Al capl l hll (mrun_spec b Al capl l hll n) t p vs r w h1 h2 h3 h4 h5 h6 h7 h8
/-- What an expression comes to, with variables. -/
def evalR (r : Rs) (vs : List Vr) : Rs := if r.2.2 = 0 then r else (0, vs, r.2.2)

theorem Eval_bad {vs : List Vr} {Av : Option Addr} {cv : Nat} {w : World} {L : List Yd} (s : Bytes) (hL : toksF (s.length + 1) s 0 = L) (hs : s.length ≤ 1000000) (hbad : (parseV s L).2.2 ≠ 0) (ht : Tab w) : CallR Tryz.prog 8 #[S s, .slice Av vs.length cv] w fun v w' => v = .tuple ⟨[.int .i64 0, .slice Av vs.length cv, .int .i64 (parseV s L).2.2]⟩ ∧ Chg [] w w' := by
 refine callR_of_wp (args := [_, _]) Tryz.func8 rfl (Nat.le_of_ble_eq_true rfl) ?_
 have HC : Chg [] w w := .refl _
 have ht1 := ht.lt
 refine sr rfl <| aI rfl <| aL rfl <| aI rfl <| en <| sr rfl <| mS rfl <| Wp rfl <| st_call (ags := [_]) rfl rfl T.ent14 rfl (Parse_spec (L := L) s _ hL hs ht) ?_
 rintro _ w1 ⟨Al, capl, rfl, hlo, c2⟩
 replace HC := HC.then c2
 replace ht := ht.tr0 c2
 refine mv (v := .tuple ⟨[_, _, _]⟩) rfl <| Wp rfl <| st_extract (vs := [_, _, _]) (v := .slice _ _ _) rfl rfl <| Wp rfl <| st_extract (vs := [_, _, _]) (v := .int _ _) rfl rfl <| Wp rfl <| st_extract (vs := [_, _, _]) (v := .int _ _) rfl rfl <| aL rfl <| aI rfl <| aI rfl <| en <| x_seq <| sr rfl <| mI rfl <| Wp rfl <| st_neq rfl rfl <| en <| x_cond rfl (fun h0 => ?_) (fun h0 => ?_)
 ·try simp only [nm, ne_eq] at h0
  refine sr rfl <| mL rfl <| mI rfl <| aI rfl <| aL rfl <| aI rfl <| en <| x_ret <| then_r <| ret_tmp3 (v := .int _ _) (v2 := .slice _ _ _) (v3 := .int _ _) rfl rfl rfl rfl ?_
  exact ⟨rfl, HC⟩
 ·try simp only [nm, ne_eq] at h0
  exact absurd (by first | exact h0 | simpa using h0) hbad

theorem Eval_run {vs : List Vr} {Av : Option Addr} {cv : Nat} {w : World} {L : List Yd} {Dv : Nat → Prop} (s : Bytes) (t : Tr) (r : Rs) (hL : toksF (s.length + 1) s 0 = L) (hs : s.length ≤ 1000000) (hok : t.ok) (hsz : t.sz ≤ 1000) (hp : parseV s L = (t.row 0, 0, 0)) (hv0 : Sl prE w Dv Av vs) (hA : vs = [] → True) (hvk : VK vs) (hvl : vs.length ≤ 1000000) (hr : runV t vs = some r) (ht : Tab w) : CallR Tryz.prog 8 #[S s, .slice Av vs.length cv] w fun v w' => (∃ A cap, v = .tuple ⟨[.int .i64 (evalR r vs).1, .slice A (evalR r vs).2.1.length cap, .int .i64 (evalR r vs).2.2]⟩ ∧ Sl prE w' (fun _ => True) A (evalR r vs).2.1) ∧ Chg [] w w' := by
 refine callR_of_wp (args := [_, _]) Tryz.func8 rfl (Nat.le_of_ble_eq_true rfl) ?_
 have HC : Chg [] w w := .refl _
 have ht1 := ht.lt
 have hrl := Tr.row_len t 0
 have hsp := t.sz_pos
 refine sr rfl <| aI rfl <| aL rfl <| aI rfl <| en <| sr rfl <| mS rfl <| Wp rfl <| st_call (ags := [_]) rfl rfl T.ent14 rfl (Parse_spec (L := L) s _ hL hs ht) ?_
 rintro _ w1 ⟨Al, capl, rfl, hlo, c2⟩
 rw [hp] at hlo ⊢
 dsimp only at hlo
 replace HC := HC.then c2
 replace ht := ht.tr0 c2
 replace hv0 := hv0.tr0 c2
 refine mv (v := .tuple ⟨[_, _, _]⟩) rfl <| Wp rfl <| st_extract (vs := [_, _, _]) (v := .slice _ _ _) rfl rfl <| Wp rfl <| st_extract (vs := [_, _, _]) (v := .int _ _) rfl rfl <| Wp rfl <| st_extract (vs := [_, _, _]) (v := .int _ _) rfl rfl <| aL rfl <| aI rfl <| aI rfl <| en <| x_seq <| sr rfl <| mI rfl <| Wp rfl <| st_neq rfl rfl <| en <| x_cond rfl (fun h0 => ?_) (fun h0 => ?_)
 ·try simp only [nm, ne_eq] at h0
  first | exact absurd rfl h0 | exact absurd trivial h0
 ·try simp only [nm, ne_eq] at h0
  refine x_skip <| then_n <| x_seq ?_
  have hlN := hlo.sl.mono (D' := fun k => k < w1.heap.size) (fun k hk _ => hk)
  have hvN := hv0.mono (D' := fun k => k < w1.heap.size) (fun k hk _ => hk)
  refine x_region rfl <| mL rfl <| mL rfl <| Wp rfl <| st_bld (ps := [(0, .tmp 22), (1, .tmp 23)]) (vs := [.slice _ _ _, .slice _ _ _, .int _ _]) T.bld49 rfl <| Wp rfl <| st_box (v := .agg ⟨[.slice _ _ _, .slice _ _ _, .int _ _]⟩) (vs := [_, _, _]) rfl rfl ?_
  intro b10 w3 e4 c5 hb6
  have ge_b10 : w.heap.size ≤ b10 := by rw [e4]; exact HC.size
  have nf_hv0_b10 : vs = [] ∨ b10 ∉ ob (Av) := hv0.fresh (by rw [e4]; exact Nat.le_refl _)
  have hkl_b10 : ∀ k, k < w1.heap.size → k ≠ b10 := fun k hk => by rw [e4]; omega
  replace HC := HC.then c5
  replace ht := ht.tr0 c5
  replace hv0 := hv0.tr0 c5
  replace hlN := hlN.tr0 c5
  replace hvN := hvN.tr0 c5
  clear e4
  refine aP rfl <| en <| x_seq ?_
  have hlB := hlN.mono (D' := fun k => k ≠ b10) (fun k _ hD => hkl_b10 k hD)
  have hvB := hvN.mono (D' := fun k => k ≠ b10) (fun k _ hD => hkl_b10 k hD)
  refine x_region rfl <| mP rfl <| mL rfl <| Wp rfl <| st_len (ct := #[32]) (by rw [show ((#[32] : Array TypeId)[0]?).bind Tryz.prog.underlying = some (.slice 38) from T.u32]; rfl) rfl <| Wp rfl <| st_subk rfl rfl (by exact (show _ = t.root 0 by rw [hrl, wrap64_id (by omega) (by omega)]; unfold Tr.root; omega)) ?_
  have hmA : MaAt w3 b10 Al capl (t.row 0) vs 0 := ⟨Av, cv, hb6, hlB, hvB, hA⟩
  refine Wp rfl <| st_call (ags := [_, _]) rfl rfl T.ent15 rfl (mrun_spec b10 Al capl (t.row 0) (by omega) t.sz t 0 vs r _ (Nat.le_refl _) hok (fun j x hj => by rw [Nat.zero_add]; exact hj) (by omega) hmA hvk (by omega) hr) ?_
  rintro _ w7 ⟨rfl, ⟨Av2, cv2, hb2, hl2, hv2, _⟩, c8⟩
  replace HC := HC.then1 c8 ge_b10
  replace ht := ht.tr c8 (by intro hx; have := ht.lt; have := ht1; simp only [List.mem_cons, List.mem_nil_iff, or_false] at hx; omega)
  replace hv0 := hv0.trF flat_flat c8 (by intro k hx; simp only [List.mem_singleton] at hx; subst hx; exact nf_hv0_b10)
  refine aI rfl <| en <| x_seq <| sr rfl <| mP rfl <| nc rfl <| fa T.fld49_2 rfl <| lI T.one25 rfl (hb2.cell rfl) <| Wp rfl <| st_neq rfl rfl <| en <| x_cond rfl (fun h1 => ?_) (fun h1 => ?_)
  ·try simp only [nm, ne_eq] at h1
   refine x_seq <| x_draw [(0, 0), (1, 0), (2, 0), (3, 0), (4, 0), (5, 0), (6, 0), (7, 0)] T.mixed rfl rfl rfl (fun W => W.heap[b10]? = w7.heap[b10]? ∧ True) ⟨rfl, trivial⟩ ?_
   have o11 := hb2
   have c10 := Chg.drew w7
   generalize World.drew w7 = w9 at c10 ⊢
   replace HC := HC.then c10
   replace ht := ht.tr0 c10
   replace hv0 := hv0.tr0 c10
   replace hb2 := hb2.tr0 c10
   replace hv2 := hv2.tr0 c10
   refine sq_q rfl (fun W hT => r_move (v := .slice _ _ _) rfl) <| sq_q rfl (fun W hT => r_move (v := .pointer _) rfl) <| sq_q rfl (fun W hT => r_nilCheck rfl) <| sq_q rfl (fun W hT => r_fieldAddr T.fld49_2 rfl) <| sq_q rfl (fun W hT => r_load1 (v := .int _ _) T.one25 rfl (Blk.cell (show Blk W b10 _ _ from hT.1.trans o11) rfl)) <| sq_q rfl (fun W hT => r_assign (v := .int _ _) rfl) <| sq_q rfl (fun W hT => r_assign (v := .slice _ _ _) rfl) <| sq_q rfl (fun W hT => r_assign (v := .int _ _) rfl) ?_
   clear o11
   refine sq_nil <| then_n <| x_ret <| then_r <| ret_tmp3 (v := .int _ _) (v2 := .slice _ _ _) (v3 := .int _ _) rfl rfl rfl rfl ?_
   rw [show evalR r vs = (0, vs, r.2.2) by unfold evalR; rw [if_neg h1]]
   exact ⟨⟨_, _, rfl, hv0.mono (fun _ _ _ => trivial)⟩, HC⟩
  ·try simp only [nm, ne_eq] at h1
   refine x_skip <| then_n <| x_seq <| x_draw [(0, 0), (1, 0), (2, 0), (3, 0), (4, 0), (5, 0), (6, 0), (7, 0)] T.mixed rfl rfl rfl (fun W => W.heap[b10]? = w7.heap[b10]? ∧ True) ⟨rfl, trivial⟩ ?_
   have o14 := hb2
   have c13 := Chg.drew w7
   generalize World.drew w7 = w12 at c13 ⊢
   replace HC := HC.then c13
   replace ht := ht.tr0 c13
   replace hv0 := hv0.tr0 c13
   replace hb2 := hb2.tr0 c13
   replace hv2 := hv2.tr0 c13
   refine sq_q rfl (fun W hT => r_move (v := .int _ _) rfl) <| sq_q rfl (fun W hT => r_move (v := .pointer _) rfl) <| sq_q rfl (fun W hT => r_nilCheck rfl) <| sq_q rfl (fun W hT => r_fieldAddr T.fld49_1 rfl) <| sq_q rfl (fun W hT => r_load1 (v := .slice _ _ _) T.one22 rfl (Blk.cell (show Blk W b10 _ _ from hT.1.trans o14) rfl)) <| sq_q rfl (fun W hT => r_assign (v := .int _ _) rfl) <| sq_q rfl (fun W hT => r_assign (v := .slice _ _ _) rfl) <| sq_q rfl (fun W hT => r_assign (v := .int _ _) rfl) ?_
   clear o14
   refine sq_nil <| then_n <| x_ret <| ret_tmp3 (v := .int _ _) (v2 := .slice _ _ _) (v3 := .int _ _) rfl rfl rfl rfl ?_
   rw [show evalR r vs = r by unfold evalR; rw [if_pos (by omega)]]
   exact ⟨⟨Av2, cv2, by rw [show r.2.2 = 0 by omega], hv2.mono (fun _ _ _ => trivial)⟩, HC⟩

theorem pr_same {x y : Vr} : (decide (x.1 = y.1) && decide (x.2 = y.2)) = decide (x = y) := by
  rw [Bool.eq_iff_iff]; simp [Prod.ext_iff]

theorem RSameP_spec {a b : List Vr} {Aa Ab : Option Addr} {capa capb : Nat} {D D2 : Nat → Prop} {w : World} (ha : Sl prE w D Aa a) (hb : Sl prE w D2 Ab b) (hla : a.length ≤ 9223372036854775807) :
    CallR Tryz.prog 10 #[.slice Aa a.length capa, .slice Ab b.length capb] w fun v w' => v = .bool (decide (a = b)) ∧ Chg [] w w' := by
 refine callR_of_wp (args := [_, _]) Tryz.func10 rfl (Nat.le_of_ble_eq_true rfl) ?_
 have HC : Chg [] w w := .refl _
 refine sr rfl <| aB rfl <| en <| x_seq <| sr rfl <| mL rfl <| Wp rfl <| st_len (ct := #[22]) (by rw [show ((#[22] : Array TypeId)[0]?).bind Tryz.prog.underlying = some (.slice 42) from T.u22]; rfl) rfl <| mL rfl <| Wp rfl <| st_len (ct := #[22]) (by rw [show ((#[22] : Array TypeId)[0]?).bind Tryz.prog.underlying = some (.slice 42) from T.u22]; rfl) rfl <| Wp rfl <| st_neq rfl rfl <| en <| x_cond rfl (fun h0 => ?_) (fun h0 => ?_)
 ·try simp only [nm, ne_eq] at h0
  refine sr rfl <| aB rfl <| en <| x_ret <| then_r <| ret_tmp (v := .bool _) rfl rfl <| ⟨?_, HC⟩
  rw [decide_eq_false (fun e => h0 (by rw [e]))]
 ·try simp only [nm, ne_eq] at h0
  have hll : a.length = b.length := by omega
  refine x_skip <| then_n <| x_seq <| sr rfl <| aI rfl <| en <| x_block <| x_loop (ι := Nat) [4, 5, 11, 12, 13, 14, 15, 16, 17, 18, 19, 20, 21, 22, 23, 24, 25] (fun i => [(5, .int .i64 (i : Int))]) (fun i W => (i ≤ a.length ∧ a.take i = b.take i) ∧ (Chg [] w W) ∧ (Sl prE W D Aa a) ∧ (Sl prE W D2 Ab b)) (fun i => a.length - i) 0 ?_ ?_ ?_
  · exact ⟨rfl, trivial⟩
  ·refine ⟨?_, HC, ha, hb⟩
   exact ⟨Nat.zero_le _, rfl⟩
  intro i G2 w1 ⟨⟨hi, ht⟩, HC, ha, hb⟩
  change wp _ _ _ _ _ (upds (over _ _ G2) [(5, .int .i64 (i : Int))]) _ _
  refine x_seq <| sr rfl <| mI rfl <| mL rfl <| Wp rfl <| st_len (ct := #[22]) (by rw [show ((#[22] : Array TypeId)[0]?).bind Tryz.prog.underlying = some (.slice 42) from T.u22]; rfl) rfl <| Wp rfl <| st_lss rfl rfl <| en <| x_cond rfl (fun h1 => ?_) (fun h1 => ?_)
  ·try simp only [nm, ne_eq] at h1
   refine x_skip <| then_n <| x_seq <| x_block <| x_seq ?_
   obtain ⟨x3, hx4⟩ : ∃ zz, a[i]? = some zz := ⟨_, List.getElem?_eq_getElem (by omega)⟩
   obtain ⟨lb9, _, vs8, hA5, hR7, hC6⟩ := ha.at hx4
   obtain rfl : vs8 = [S x3.1, S x3.2] := hR7
   obtain ⟨x10, hx11⟩ : ∃ zz, b[i]? = some zz := ⟨_, List.getElem?_eq_getElem (by omega)⟩
   obtain ⟨lb16, _, vs15, hA12, hR14, hC13⟩ := hb.at hx11
   obtain rfl : vs15 = [S x10.1, S x10.2] := hR14
   refine x_draw [(0, 0), (1, 0), (2, 0), (3, 0), (4, 0), (5, 0), (6, 0), (7, 0), (8, 0)] T.mixed rfl rfl rfl (fun W => W.heap[lb9]? = w1.heap[lb9]? ∧ W.heap[lb16]? = w1.heap[lb16]? ∧ True) ⟨rfl, rfl, trivial⟩ ?_
   have c18 := Chg.drew w1
   generalize World.drew w1 = w17 at c18 ⊢
   have ht_lb9 : lb9 < w17.heap.size ∧ w17.heap[lb9]? = w1.heap[lb9]? := ⟨Nat.lt_of_lt_of_le hC6.lt c18.size, c18.block lb9 hC6.lt (by simp)⟩
   have ht_lb16 : lb16 < w17.heap.size ∧ w17.heap[lb16]? = w1.heap[lb16]? := ⟨Nat.lt_of_lt_of_le hC13.lt c18.size, c18.block lb16 hC13.lt (by simp)⟩
   replace HC := HC.then c18
   replace ha := ha.tr0 c18
   replace hb := hb.tr0 c18
   refine sq_q rfl (fun W hT => r_move (v := .slice _ _ _) rfl) <| sq_q rfl (fun W hT => r_move (v := .int _ _) rfl) <| sq_q rfl (fun W hT => r_indexAddr T.u22 T.size42 (congrArg (fun z => Value.slice z _ _) hA5) rfl (by omega) (by omega)) <| sq_q rfl (fun W hT => r_loadA (vs := [_, _]) T.agg42 rfl (Cells.tr hC6 hT.1) rfl) <| sq_q rfl (fun W hT => r_move (v := .slice _ _ _) rfl) <| sq_q rfl (fun W hT => r_move (v := .int _ _) rfl) <| sq_q rfl (fun W hT => r_indexAddr T.u22 T.size42 (congrArg (fun z => Value.slice z _ _) hA12) rfl (by omega) (by omega)) <| sq_q rfl (fun W hT => r_loadA (vs := [_, _]) T.agg42 rfl (Cells.tr hC13 hT.2.1) rfl) <| sq_q rfl (fun W hT => r_aneq (va := [_, _]) (vb := [_, _]) T.eq42 rfl rfl rfl) <| sq_nil <| then_n <| x_cond rfl (fun h2 => ?_) (fun h2 => ?_)
   ·try simp only [nm, ne_eq] at h2
    rw [pr_same] at h2
    refine sr rfl <| aB rfl <| en <| x_ret <| block_r <| then_r <| then_r <| block_r <| then_r <| ret_tmp (v := .bool _) rfl rfl <| ⟨?_, HC⟩
    rw [decide_eq_false (fun e => by subst e; have := hx4.symm.trans hx11; exact absurd (Option.some.inj this) (of_decide_eq_false h2))]
   ·try simp only [nm, ne_eq] at h2
    rw [pr_same] at h2
    refine x_skip <| block_n <| then_n <| x_region rfl <| mI rfl <| Wp rfl <| st_addn rfl rfl (by constructor <;> omega) <| aI rfl <| en <| ⟨i + 1, ?_, ?_, rfl, ⟨rfl, trivial⟩, ?_⟩
    ·refine ⟨?_, HC, ha, hb⟩
     exact ⟨by omega, take_same ht hx4 hx11 (of_decide_eq_true h2)⟩
    ·show a.length - (i + 1) < a.length - i; omega
    repeat (first | exact agree_upds agree_over rfl | refine agree_upd ?_ rfl | refine agree_upds ?_ rfl | refine agree_over_sub ?_ rfl)
  ·try simp only [nm, ne_eq] at h1
   refine x_exit <| then_x <| then_x <| block_x <| then_n <| sr rfl <| aB rfl <| en <| x_ret <| ret_tmp (v := .bool _) rfl rfl <| ⟨?_, HC⟩
   rw [decide_eq_true (by rw [List.take_of_length_le (by omega), List.take_of_length_le (by omega)] at ht; exact ht)]

def ax1 : Bytes := [120, 61, 51, 44]
def ax2 : Bytes := [40, 120, 61, 51, 41, 42, 120]
def ax3 : Bytes := [49, 124, 124, 40, 121, 61, 49, 41]
def ax4 : Bytes := [55, 47, 48]
def at2 : Tr := .bin [42] (.asg [61] [120] (.num 3)) (.var [120])
def at3 : Tr := .bin [124, 124] (.num 1) (.asg [61] [121] (.num 1))
def at4 : Tr := .bin [47] (.num 7) (.num 0)
theorem ax1_p : (parseV ax1 (toksF (ax1.length + 1) ax1 0)).2.2 = 101 := by kernel_rfl
theorem ax2_p : parseV ax2 (toksF (ax2.length + 1) ax2 0) = (at2.row 0, 0, 0) := by kernel_rfl
theorem ax3_p : parseV ax3 (toksF (ax3.length + 1) ax3 0) = (at3.row 0, 0, 0) := by kernel_rfl
theorem ax4_p : parseV ax4 (toksF (ax4.length + 1) ax4 0) = (at4.row 0, 0, 0) := by kernel_rfl
theorem at2_v : runV at2 [] = some (9, [([120], [51])], 0) := by kernel_rfl
theorem at3_v : runV at3 [] = some (1, [], 0) := by kernel_rfl
theorem at4_v : runV at4 [] = some (0, [], 103) := by kernel_rfl
theorem nm_ok {c : UInt8} (h : nameV [c] = true) : Tr.Nm [c] := ⟨h, by simp⟩
theorem at2_ok : at2.ok := ⟨by decide, ⟨by decide, nm_ok (by kernel_rfl), by decide, by decide⟩, nm_ok (by kernel_rfl)⟩
theorem at3_ok : at3.ok := ⟨by decide, ⟨by decide, by decide⟩, by decide, nm_ok (by kernel_rfl), by decide, by decide⟩
theorem at4_ok : at4.ok := ⟨by decide, ⟨by decide, by decide⟩, by decide, by decide⟩
theorem vk_nil : VK [] := ⟨List.Pairwise.nil, fun _ h => by cases h⟩

set_option maxHeartbeats 800000 in
theorem awake14_spec (w : World) (ht : Tab w) : CallR Tryz.prog 7 #[] w fun v w' => v = .bool true ∧ Chg [] w w' := by
 refine callR_of_wp (args := []) Tryz.func7 rfl (Nat.le_of_ble_eq_true rfl) ?_
 have HC : Chg [] w w := .refl _
 have ht1 := ht.lt
 refine sr rfl <| aB rfl <| en <| sr rfl <| Wp rfl <| st_call (ags := [_, _]) rfl rfl T.ent8 rfl (Eval_bad (vs := []) (Av := none) (cv := 0) (L := toksF (ax1.length + 1) ax1 0) ax1 rfl (by decide) (by rw [ax1_p]; decide) ht) ?_
 rintro vE1 w1 ⟨hE1, c2⟩
 rw [ax1_p] at hE1
 subst hE1
 replace HC := HC.then c2
 replace ht := ht.tr0 c2
 refine mv (v := .tuple ⟨[_, _, _]⟩) rfl <| Wp rfl <| st_extract (vs := [_, _, _]) (v := .int _ _) rfl rfl <| Wp rfl <| st_extract (vs := [_, _, _]) (v := .slice _ _ _) rfl rfl <| Wp rfl <| st_extract (vs := [_, _, _]) (v := .int _ _) rfl rfl <| aI rfl <| aL rfl <| aI rfl <| en <| sr rfl <| Wp rfl <| st_call (ags := [_, _]) rfl rfl T.ent8 rfl (Eval_run (vs := []) (Av := none) (cv := 0) (Dv := fun _ => True) (L := toksF (ax2.length + 1) ax2 0) ax2 at2 _ rfl (by decide) at2_ok (by decide) ax2_p Sl.nil (fun _ => by trivial) vk_nil (by decide) at2_v ht) ?_
 rintro vE2 w3 ⟨⟨A2, cap2, hE2, hr2⟩, c4⟩
 replace hE2 : vE2 = .tuple ⟨[.int .i64 9, .slice A2 1 cap2, .int .i64 0]⟩ := hE2
 subst hE2
 replace hr2 : Sl prE _ (fun _ => True) A2 ([([120], [51])] : List Vr) := hr2
 replace HC := HC.then c4
 replace ht := ht.tr0 c4
 refine mv (v := .tuple ⟨[_, _, _]⟩) rfl <| Wp rfl <| st_extract (vs := [_, _, _]) (v := .int _ _) rfl rfl <| Wp rfl <| st_extract (vs := [_, _, _]) (v := .slice _ _ _) rfl rfl <| Wp rfl <| st_extract (vs := [_, _, _]) (v := .int _ _) rfl rfl <| aI rfl <| aL rfl <| aI rfl <| en <| sr rfl <| Wp rfl <| st_call (ags := [_, _]) rfl rfl T.ent8 rfl (Eval_run (vs := []) (Av := none) (cv := 0) (Dv := fun _ => True) (L := toksF (ax3.length + 1) ax3 0) ax3 at3 _ rfl (by decide) at3_ok (by decide) ax3_p Sl.nil (fun _ => by trivial) vk_nil (by decide) at3_v ht) ?_
 rintro vE3 w5 ⟨⟨A3, cap3, hE3, hr3⟩, c6⟩
 replace hE3 : vE3 = .tuple ⟨[.int .i64 1, .slice A3 0 cap3, .int .i64 0]⟩ := hE3
 subst hE3
 clear hr3
 replace HC := HC.then c6
 replace ht := ht.tr0 c6
 replace hr2 := hr2.tr0 c6
 refine mv (v := .tuple ⟨[_, _, _]⟩) rfl <| Wp rfl <| st_extract (vs := [_, _, _]) (v := .int _ _) rfl rfl <| Wp rfl <| st_extract (vs := [_, _, _]) (v := .slice _ _ _) rfl rfl <| Wp rfl <| st_extract (vs := [_, _, _]) (v := .int _ _) rfl rfl <| aI rfl <| aL rfl <| aI rfl <| en <| sr rfl <| Wp rfl <| st_call (ags := [_, _]) rfl rfl T.ent8 rfl (Eval_run (vs := []) (Av := none) (cv := 0) (Dv := fun _ => True) (L := toksF (ax4.length + 1) ax4 0) ax4 at4 _ rfl (by decide) at4_ok (by decide) ax4_p Sl.nil (fun _ => by trivial) vk_nil (by decide) at4_v ht) ?_
 rintro vE4 w7 ⟨⟨A4, cap4, hE4, hr4⟩, c8⟩
 replace hE4 : vE4 = .tuple ⟨[.int .i64 0, .slice A4 0 cap4, .int .i64 103]⟩ := hE4
 subst hE4
 clear hr4
 replace HC := HC.then c8
 replace ht := ht.tr0 c8
 replace hr2 := hr2.tr0 c8
 refine mv (v := .tuple ⟨[_, _, _]⟩) rfl <| Wp rfl <| st_extract (vs := [_, _, _]) (v := .int _ _) rfl rfl <| Wp rfl <| st_extract (vs := [_, _, _]) (v := .slice _ _ _) rfl rfl <| Wp rfl <| st_extract (vs := [_, _, _]) (v := .int _ _) rfl rfl <| aI rfl <| aL rfl <| aI rfl <| en <| sr rfl <| mI rfl <| Wp rfl <| st_eql rfl rfl <| mB rfl <| w_split (d := 35) rfl (fun g9 => ?_) (fun g9 => ?_)
 ·try simp only [nm, ne_eq] at g9
  refine w_yes 2 35 true <| st_move (v := .int _ _) rfl <| w_yes 2 35 true <| st_eql rfl rfl <| pT rfl rfl <| mB rfl <| w_split (d := 39) rfl (fun g10 => ?_) (fun g10 => ?_)
  ·try simp only [nm, ne_eq] at g10
   refine w_yes 6 39 true <| st_move (v := .int _ _) rfl <| w_yes 6 39 true <| st_eql rfl rfl <| pT rfl rfl <| mB rfl <| w_split (d := 43) rfl (fun g11 => ?_) (fun g11 => ?_)
   ·try simp only [nm, ne_eq] at g11
    refine w_yes 10 43 true <| st_move (v := .slice _ _ _) rfl <| w_yes 10 43 true <| st_bld (ps := [(0, .const (S [120])), (1, .const (S [51]))]) (vs := [S _, S _]) T.bld42 rfl <| w_yes 10 43 true <| st_lit (ps := [(0, .tmp 45)]) (vs := [S _, S _]) T.lit22 (by decide) rfl (by simp only [List.forall_mem_cons, List.not_mem_nil, false_imp_iff, implies_true, and_true]; exact rfl) rfl ?_
    intro b12 w13 e14 c15 hb16
    have ge_b12 : w.heap.size ≤ b12 := by rw [e14]; exact HC.size
    have nf_hr2_b12 : ([([120], [51])] : List Vr) = [] ∨ b12 ∉ ob (A2) := hr2.fresh (by rw [e14]; exact Nat.le_refl _)
    replace HC := HC.then c15
    replace ht := ht.tr0 c15
    replace hr2 := hr2.tr0 c15
    clear e14
    refine w_yes 10 43 true <| st_call (ags := [_, _]) rfl rfl T.ent10 rfl (RSameP_spec (a := [(([120], [51]) : Vr)]) (b := [(([120], [51]) : Vr)]) (Aa := A2) (capa := cap2) (Ab := some ⟨b12, 0, none⟩) (capb := 1) hr2 (Sl.of_one (c := prE) (x := (([120], [51]) : Vr)) (D := fun _ => True) hb16 rfl trivial) (by decide)) ?_
    rintro vS w17 ⟨hS, c18⟩
    rw [decide_eq_true rfl] at hS
    subst hS
    replace HC := HC.then c18
    replace ht := ht.tr0 c18
    replace hr2 := hr2.tr0 c18
    replace hb16 := hb16.tr0 c18
    refine pT rfl rfl <| mB rfl <| w_split (d := 49) rfl (fun g19 => ?_) (fun g19 => ?_)
    ·try simp only [nm, ne_eq] at g19
     refine w_yes 16 49 true <| st_move (v := .int _ _) rfl <| w_yes 16 49 true <| st_eql rfl rfl <| pT rfl rfl <| mB rfl <| w_split (d := 53) rfl (fun g20 => ?_) (fun g20 => ?_)
     ·try simp only [nm, ne_eq] at g20
      refine w_yes 20 53 true <| st_move (v := .slice _ _ _) rfl <| w_yes 20 53 true <| st_len (ct := #[22]) (by rw [show ((#[22] : Array TypeId)[0]?).bind Tryz.prog.underlying = some (.slice 42) from T.u22]; rfl) rfl <| w_yes 20 53 true <| st_eql rfl rfl <| pT rfl rfl <| mB rfl <| w_split (d := 58) rfl (fun g21 => ?_) (fun g21 => ?_)
      ·try simp only [nm, ne_eq] at g21
       refine w_yes 25 58 true <| st_move (v := .int _ _) rfl <| w_yes 25 58 true <| st_eql rfl rfl <| pT rfl rfl <| mB rfl <| w_split (d := 62) rfl (fun g22 => ?_) (fun g22 => ?_)
       ·try simp only [nm, ne_eq] at g22
        refine w_yes 29 62 true <| st_move (v := .int _ _) rfl <| w_yes 29 62 true <| st_eql rfl rfl <| pT rfl rfl <| aB rfl <| en <| x_ret <| ret_tmp (v := .bool _) rfl rfl ?_
        exact ⟨rfl, HC⟩
       ·try simp only [nm, ne_eq] at g22
        first | exact absurd rfl g22 | exact absurd trivial g22 | (simp at g22; done)
      ·try simp only [nm, ne_eq] at g21
       first | exact absurd rfl g21 | exact absurd trivial g21 | (simp at g21; done)
     ·try simp only [nm, ne_eq] at g20
      first | exact absurd rfl g20 | exact absurd trivial g20 | (simp at g20; done)
    ·try simp only [nm, ne_eq] at g19
     first | exact absurd rfl g19 | exact absurd trivial g19 | (simp at g19; done)
   ·try simp only [nm, ne_eq] at g11
    first | exact absurd rfl g11 | exact absurd trivial g11 | (simp at g11; done)
  ·try simp only [nm, ne_eq] at g10
   first | exact absurd rfl g10 | exact absurd trivial g10 | (simp at g10; done)
 ·try simp only [nm, ne_eq] at g9
  first | exact absurd rfl g9 | exact absurd trivial g9 | (simp at g9; done)

end Go.Proofs.YtmbbhgglllfelaaGreatDoor.K
set_option linter.unusedVariables false
set_option linter.unusedSimpArgs false
set_option autoImplicit false
set_option maxRecDepth 20000
namespace Go.Proofs.YtmbbhgglllfelaaGreatDoor.K
open Go Go.Proofs Go.RowKit

theorem Sl.domAt {α : Type} {c : Enc α} {w : World} {D : Nat → Prop} {A : Option Addr} {xs : List α} {i : Nat} {x : α} {b o : Nat} (h : Sl c w D A xs) (hx : xs[i]? = some x) (hA : A = some ⟨b, o, none⟩) : D b := by
  rcases h with h | ⟨b', o', h1, h2, h3, h4⟩
  · subst h; simp at hx
  · rw [h1] at hA; simp only [Option.some.injEq, Addr.mk.injEq] at hA; rw [← hA.1]; exact h3
theorem dropq_at {α : Type} {TT : List α} {i : Nat} {x : α} {tl : List α} (h : TT.drop i = x :: tl) : TT[i]? = some x := by
  have := List.getElem?_drop (xs := TT) (i := i) (j := 0); rw [h] at this; simpa using this.symm
theorem dropq_at1 {α : Type} {TT : List α} {i : Nat} {x y : α} {tl : List α} (h : TT.drop i = x :: y :: tl) : TT[i + 1]? = some y := by
  have := List.getElem?_drop (xs := TT) (i := i) (j := 1); rw [h] at this; simpa using this.symm
theorem dropq_lt {α : Type} {TT : List α} {i : Nat} {x : α} {tl : List α} (h : TT.drop i = x :: tl) : i + (tl.length + 1) = TT.length := by
  have h1 := congrArg List.length h; rw [List.length_drop, List.length_cons] at h1; omega
theorem dropq_s {α : Type} {TT : List α} {i : Nat} {x : α} {tl : List α} (h : TT.drop i = x :: tl) : TT.drop (i + 1) = tl := by
  rw [← List.drop_drop, h]; rfl
theorem dropq_s2 {α : Type} {TT : List α} {i : Nat} {x y : α} {tl : List α} (h : TT.drop i = x :: y :: tl) : TT.drop (i + 2) = tl := by
  rw [← List.drop_drop, h]; rfl
theorem wrap_1 {i : Nat} (h : i ≤ 9223372036854775000) : IntKind.i64.wrap ((i : Int) + 1) = ((i + 1 : Nat) : Int) := by rw [wrap64_id (by omega) (by omega)]; omega
theorem wrap_2 {i : Nat} (h : i ≤ 9223372036854775000) : IntKind.i64.wrap ((i : Int) + 2) = ((i + 2 : Nat) : Int) := by rw [wrap64_id (by omega) (by omega)]; omega
theorem wrap_m {d : Nat} (h : d ≤ 9223372036854775000) : IntKind.i64.wrap (((d + 1 : Nat) : Int) - 1) = (d : Int) := by rw [wrap64_id (by omega) (by omega)]; omega
/-- The document's parser in memory: all tokens, those that are left, what was put out. -/
def QdAt (D Dt : Nat → Prop) (w : World) (b : Nat) (At : Option Addr) (capt : Nat) (TT ts : List Tk) (out : List Nd) (deep e pl : Int) : Prop :=
  ∃ (i : Nat) (Ao : Option Addr) (capo : Nat), Blk w b [.slice At TT.length capt, .int .i64 (i : Int), .slice Ao out.length capo, .int .i64 deep, .int .i64 e, .int .i64 pl] 57 ∧ Sl tkE w Dt At TT ∧ TT.drop i = ts ∧ Own ndE 38 w D Ao capo out
/-- What its methods are called with. -/
structure QPre (D Dt : Nat → Prop) (w : World) (b : Nat) (At : Option Addr) (capt : Nat) (TT ts : List Tk) (out : List Nd) (d : Nat) (pl : Int) : Prop where
  fr : ∀ k, w.heap.size ≤ k → D k
  nb : ¬ D b
  dt : ∀ k, Dt k → ¬ D k ∧ k ≠ b
  st : QdAt D Dt w b At capt TT ts out d 0 pl
  wf : WfT ts
  hd : d ≤ 64
  len : out.length + ts.length ≤ 1000000000
  tl : TT.length ≤ 1000000000
/-- How they end. -/
def QPost (D Dt : Nat → Prop) (b : Nat) (At : Option Addr) (capt : Nat) (TT ts : List Tk) (out : List Nd) (deep pl : Int) (w : World) (v : Value) (w' : World) : PR → Prop
  | .good k ts' out' => v = .int .i64 k ∧ QdAt D Dt w' b At capt TT ts' out' deep 0 pl ∧ WfT ts' ∧ (ts'.length ≤ ts.length ∧ out'.length + ts'.length ≤ out.length + ts.length) ∧ ChgP (fun k => D k ∨ k = b) w w'
  | .bad e a => e ≠ 0 ∧ (∃ k, v = .int .i64 k) ∧ (∃ ts' out' dp, ts' ≠ [] ∧ out'.length + ts'.length ≤ out.length + ts.length ∧ QdAt D Dt w' b At capt TT ts' out' dp e a) ∧ ChgP (fun k => D k ∨ k = b) w w'
theorem QPost.lift {D D1 Dt : Nat → Prop} {b : Nat} {At : Option Addr} {capt : Nat} {TT ts : List Tk} {out : List Nd} {d pl : Int} {w w2 w' : World} {v : Value} {r : PR} (h : QPost D1 Dt b At capt TT ts out d pl w2 v w' r) (hsub : ∀ k, D1 k → D k) (hc : ChgP (fun k => D k ∨ k = b) w w2) : QPost D Dt b At capt TT ts out d pl w v w' r := by
  cases r with
  | good k ts' out' =>
    obtain ⟨h1, ⟨i, Ao, capo, q1, q2, q3, q4⟩, h3, h4, h5⟩ := h
    exact ⟨h1, ⟨i, Ao, capo, q1, q2, q3, q4.mono (fun k _ hk => hsub k hk)⟩, h3, h4, hc.trans h5 (fun k hk => .inl (hk.imp (hsub k) id))⟩
  | bad e a =>
    obtain ⟨h1, h2, ⟨ts', out', dp, h3, h4, ⟨i, Ao, capo, q1, q2, q3, q4⟩⟩, h5⟩ := h
    exact ⟨h1, h2, ⟨ts', out', dp, h3, h4, ⟨i, Ao, capo, q1, q2, q3, q4.mono (fun k _ hk => hsub k hk)⟩⟩, hc.trans h5 (fun k hk => .inl (hk.imp (hsub k) id))⟩

theorem qfail_spec {Dt : Nat → Prop} {w : World} {b : Nat} {TT : List Tk} {x : Tk} {tl : List Tk} {At Ao : Option Addr} {i no capt capo : Nat} {deep pl e : Int} (e2 : Int) (hb : Blk w b [.slice At TT.length capt, .int .i64 (i : Int), .slice Ao no capo, .int .i64 deep, .int .i64 e, .int .i64 pl] 57) (hs : Sl tkE w Dt At TT) (hd : TT.drop i = x :: tl) (hDtb : ¬ Dt b) (hDtn : ∀ k, w.heap.size ≤ k → ¬ Dt k) :
    CallR Tryz.prog 19 #[.pointer (some ⟨b, 0, none⟩), .int .i64 e2] w fun v w' => v = .int .i64 0 ∧ Blk w' b [.slice At TT.length capt, .int .i64 (i : Int), .slice Ao no capo, .int .i64 deep, .int .i64 (if e = 0 then e2 else e), .int .i64 (if e = 0 then x.2 else pl)] 57 ∧ Chg [b] w w' := by
 refine callR_of_wp (args := [_, _]) Tryz.func19 rfl (Nat.le_of_ble_eq_true rfl) ?_
 have HC : Chg [b] w w := .refl _
 refine sr rfl <| aI rfl <| en <| x_seq <| sr rfl <| mP rfl <| nc rfl <| fa T.fld57_4 rfl <| lI T.one3 rfl (hb.cell rfl) <| Wp rfl <| st_eql rfl rfl <| en <| x_cond rfl (fun h0 => ?_) (fun h0 => ?_)
 ·try simp only [nm, ne_eq] at h0
  refine sr rfl <| mP rfl <| mI rfl <| nc rfl <| fa T.fld57_4 rfl <| Wp rfl <| st_store (v := .int _ _) T.size3 rfl rfl rfl hb rfl (Nat.le_of_ble_eq_true rfl) (by simp [Value.oneCell', S]) rfl ?_
  intro w1 c2 hb3; simp only [setVs, setV] at hb3
  clear hb
  replace HC := HC.trans c2 (by intro x hx; simp only [List.mem_singleton] at hx; subst hx; exact .inl (by simp))
  replace hs := hs.tr c2 (by intro k hx hD; obtain rfl := List.mem_singleton.1 hx; first | exact hDtb hD | exact absurd hD (hDtn _ ge_b))
  refine en ?_
  obtain ⟨lb8, _, vs7, hA4, hR6, hC5⟩ := hs.at (i := i) (x := x) (dropq_at hd)
  obtain rfl : vs7 = tokC x.1 x.2 := hR6
  have hDl_lb8 := Sl.domAt hs (dropq_at hd) hA4
  refine x_draw [(0, 0), (1, 0), (2, 0), (3, 0), (4, 0), (5, 0), (6, 0), (7, 0), (8, 0), (9, 0), (10, 0), (11, 0), (12, 0), (13, 0), (14, 2)] T.mixed rfl rfl rfl (fun W => W.heap[b]? = w1.heap[b]? ∧ W.heap[lb8]? = w1.heap[lb8]? ∧ True) ⟨rfl, rfl, trivial⟩ ?_
  have o11 := hb3
  have c10 := Chg.drew w1
  generalize World.drew w1 = w9 at c10 ⊢
  have ht_lb8 : lb8 < w9.heap.size ∧ w9.heap[lb8]? = w1.heap[lb8]? := ⟨Nat.lt_of_lt_of_le hC5.lt c10.size, c10.block lb8 hC5.lt (by simp)⟩
  replace HC := HC.then c10
  replace hs := hs.tr0 c10
  replace hb3 := hb3.tr0 c10
  refine sq_q rfl (fun W hT => r_move (v := .pointer _) rfl) <| sq_q rfl (fun W hT => r_move (v := .pointer _) rfl) <| sq_q rfl (fun W hT => r_nilCheck rfl) <| sq_q rfl (fun W hT => r_fieldAddr T.fld57_0 rfl) <| sq_q rfl (fun W hT => r_load1 (v := .slice _ _ _) T.one52 rfl (Blk.cell (show Blk W b _ _ from hT.1.trans o11) rfl)) <| sq_q rfl (fun W hT => r_move (v := .pointer _) rfl) <| sq_q rfl (fun W hT => r_nilCheck rfl) <| sq_q rfl (fun W hT => r_fieldAddr T.fld57_1 rfl) <| sq_q rfl (fun W hT => r_load1 (v := .int _ _) T.one3 rfl (Blk.cell (show Blk W b _ _ from hT.1.trans o11) rfl)) <| sq_q rfl (fun W hT => r_indexAddr T.u52 T.size60 (congrArg (fun z => Value.slice z _ _) hA4) rfl (by omega) (by (have h9 := dropq_lt hd; omega))) <| sq_q rfl (fun W hT => r_fieldAddr T.fld60_3 rfl) <| sq_q rfl (fun W hT => r_load1 (v := .int _ _) T.one3 rfl (Cells.at (j := 3) (Cells.tr hC5 hT.2.1) rfl)) <| sq_q rfl (fun W hT => r_nilCheck rfl) <| sq_q rfl (fun W hT => r_fieldAddr T.fld57_5 rfl) <| sq_store2 rfl T.size3 (v := .int _ _) rfl rfl rfl hb3 rfl (Nat.le_of_ble_eq_true rfl) (by simp [Value.oneCell', S]) rfl ?_
  intro w12 c13 hb14; simp only [setVs, setV] at hb14
  clear hb3
  replace HC := HC.trans c13 (by intro x hx; simp only [List.mem_singleton] at hx; subst hx; exact .inl (by simp))
  replace hs := hs.tr c13 (by intro k hx hD; obtain rfl := List.mem_singleton.1 hx; first | exact hDtb hD | exact absurd hD (hDtn _ ge_b))
  replace ht_lb8 := And.intro (Nat.lt_of_lt_of_le ht_lb8.1 c13.size) ((c13.block lb8 ht_lb8.1 (by intro hx; first | exact hDtb ((List.mem_singleton.1 hx) ▸ hDl_lb8) | (have h9 := List.mem_singleton.1 hx; revert h9; assumption))).trans ht_lb8.2)
  clear o11
  refine sq_nil <| then_n <| sr rfl <| aI rfl <| en <| x_ret <| ret_tmp (v := .int _ _) rfl rfl <| ⟨rfl, ?_, HC⟩
  rw [if_pos h0, if_pos h0]
  exact hb14
 ·try simp only [nm, ne_eq] at h0
  refine x_skip <| then_n <| sr rfl <| aI rfl <| en <| x_ret <| ret_tmp (v := .int _ _) rfl rfl <| ⟨rfl, ?_, HC⟩
  rw [if_neg h0, if_neg h0]
  exact hb

theorem qop_spec {Dt : Nat → Prop} {w : World} {b : Nat} {TT : List Tk} {x : Tk} {tl : List Tk} {At Ao : Option Addr} {i no capt capo : Nat} {deep pl e : Int} (s : Bytes) (hb : Blk w b [.slice At TT.length capt, .int .i64 (i : Int), .slice Ao no capo, .int .i64 deep, .int .i64 e, .int .i64 pl] 57) (hs : Sl tkE w Dt At TT) (hd : TT.drop i = x :: tl) (hDtb : ¬ Dt b) (hDtn : ∀ k, w.heap.size ≤ k → ¬ Dt k) :
    CallR Tryz.prog 57 #[.pointer (some ⟨b, 0, none⟩), S s] w fun v w' => v = .bool (decide (e = 0 ∧ x.1.1 = 3 ∧ x.1.2.2 = s)) ∧ Chg [] w w' := by
 refine callR_of_wp (args := [_, _]) Tryz.func57 rfl (Nat.le_of_ble_eq_true rfl) ?_
 have HC : Chg [] w w := .refl _
 refine sr rfl <| aB rfl <| en <| x_seq ?_
 obtain ⟨lb5, _, vs4, hA1, hR3, hC2⟩ := hs.at (i := i) (x := x) (dropq_at hd)
 obtain rfl : vs4 = tokC x.1 x.2 := hR3
 have hDl_lb5 := Sl.domAt hs (dropq_at hd) hA1
 obtain ⟨lb10, _, vs9, hA6, hR8, hC7⟩ := hs.at (i := i) (x := x) (dropq_at hd)
 obtain rfl : vs9 = tokC x.1 x.2 := hR8
 have hDl_lb10 := Sl.domAt hs (dropq_at hd) hA6
 refine x_draw [(0, 0), (1, 0), (2, 0), (3, 0), (4, 0), (5, 0), (6, 0), (7, 0), (8, 0), (9, 0), (10, 0), (11, 0), (12, 0), (13, 0), (14, 0), (15, 0), (16, 0), (17, 0), (18, 0), (19, 0), (20, 0), (21, 0), (22, 0), (23, 0), (24, 0), (25, 0), (26, 0), (27, 0), (28, 0), (29, 0), (30, 0), (31, 0), (32, 0), (33, 0), (34, 0)] T.mixed rfl rfl rfl (fun W => W.heap[b]? = w.heap[b]? ∧ W.heap[lb5]? = w.heap[lb5]? ∧ W.heap[lb10]? = w.heap[lb10]? ∧ True) ⟨rfl, rfl, rfl, trivial⟩ ?_
 have o13 := hb
 have c12 := Chg.drew w
 generalize World.drew w = w11 at c12 ⊢
 have ht_lb5 : lb5 < w11.heap.size ∧ w11.heap[lb5]? = w.heap[lb5]? := ⟨Nat.lt_of_lt_of_le hC2.lt c12.size, c12.block lb5 hC2.lt (by simp)⟩
 have ht_lb10 : lb10 < w11.heap.size ∧ w11.heap[lb10]? = w.heap[lb10]? := ⟨Nat.lt_of_lt_of_le hC7.lt c12.size, c12.block lb10 hC7.lt (by simp)⟩
 replace HC := HC.then c12
 replace hb := hb.tr0 c12
 replace hs := hs.tr0 c12
 refine sq_q rfl (fun W hT => r_move (v := .pointer _) rfl) <| sq_q rfl (fun W hT => r_nilCheck rfl) <| sq_q rfl (fun W hT => r_fieldAddr T.fld57_4 rfl) <| sq_q rfl (fun W hT => r_load1 (v := .int _ _) T.one3 rfl (Blk.cell (show Blk W b _ _ from hT.1.trans o13) rfl)) <| sq_q rfl (fun W hT => r_eql rfl rfl) <| sq_q rfl (fun W hT => r_move (v := .bool _) rfl) <| sq_split (d := 10) rfl (fun g14 => ?_) (fun g14 => ?_)
 ·try simp only [nm, ne_eq] at g14
  refine sq_q rfl (fun W hT => r_move (v := .pointer _) rfl) <| sq_q rfl (fun W hT => r_nilCheck rfl) <| sq_q rfl (fun W hT => r_fieldAddr T.fld57_0 rfl) <| sq_q rfl (fun W hT => r_load1 (v := .slice _ _ _) T.one52 rfl (Blk.cell (show Blk W b _ _ from hT.1.trans o13) rfl)) <| sq_q rfl (fun W hT => r_move (v := .pointer _) rfl) <| sq_q rfl (fun W hT => r_nilCheck rfl) <| sq_q rfl (fun W hT => r_fieldAddr T.fld57_1 rfl) <| sq_q rfl (fun W hT => r_load1 (v := .int _ _) T.one3 rfl (Blk.cell (show Blk W b _ _ from hT.1.trans o13) rfl)) <| sq_q rfl (fun W hT => r_indexAddr T.u52 T.size60 (congrArg (fun z => Value.slice z _ _) hA1) rfl (by omega) (by (have h9 := dropq_lt hd; omega))) <| sq_q rfl (fun W hT => r_fieldAddr T.fld60_0 rfl) <| sq_q rfl (fun W hT => r_load1 (v := .int _ _) T.one3 rfl (Cells.at (j := 0) (Cells.tr hC2 hT.2.1) rfl)) <| sq_q rfl (fun W hT => r_eql rfl rfl) <| sq_q rfl (fun W hT => r_pick (b := true) (v := .bool _) rfl rfl) <| sq_q rfl (fun W hT => r_move (v := .bool _) rfl) <| sq_split (d := 24) rfl (fun g15 => ?_) (fun g15 => ?_)
  ·try simp only [nm, ne_eq] at g15
   refine sq_q rfl (fun W hT => r_move (v := .pointer _) rfl) <| sq_q rfl (fun W hT => r_nilCheck rfl) <| sq_q rfl (fun W hT => r_fieldAddr T.fld57_0 rfl) <| sq_q rfl (fun W hT => r_load1 (v := .slice _ _ _) T.one52 rfl (Blk.cell (show Blk W b _ _ from hT.1.trans o13) rfl)) <| sq_q rfl (fun W hT => r_move (v := .pointer _) rfl) <| sq_q rfl (fun W hT => r_nilCheck rfl) <| sq_q rfl (fun W hT => r_fieldAddr T.fld57_1 rfl) <| sq_q rfl (fun W hT => r_load1 (v := .int _ _) T.one3 rfl (Blk.cell (show Blk W b _ _ from hT.1.trans o13) rfl)) <| sq_q rfl (fun W hT => r_indexAddr T.u52 T.size60 (congrArg (fun z => Value.slice z _ _) hA6) rfl (by omega) (by (have h9 := dropq_lt hd; omega))) <| sq_q rfl (fun W hT => r_fieldAddr T.fld60_2 rfl) <| sq_q rfl (fun W hT => r_load1 (v := S _) T.one9 rfl (Cells.at (j := 2) (Cells.tr hC7 hT.2.2.1) rfl)) <| sq_q rfl (fun W hT => r_move (v := S _) rfl) <| sq_q rfl (fun W hT => r_seql rfl rfl) <| sq_q rfl (fun W hT => r_pick (b := true) (v := .bool _) rfl rfl) <| sq_q rfl (fun W hT => r_assign (v := .bool _) rfl) ?_
   clear o13
   refine sq_nil <| then_n <| x_ret <| ret_tmp (v := .bool _) rfl rfl <| ⟨congrArg Value.bool ?_, HC⟩
   simp_all
  ·try simp only [nm, ne_eq] at g15
   refine sq_no rfl rfl <| sq_no rfl rfl <| sq_no rfl rfl <| sq_no rfl rfl <| sq_no rfl rfl <| sq_no rfl rfl <| sq_no rfl rfl <| sq_no rfl rfl <| sq_no rfl rfl <| sq_no rfl rfl <| sq_no rfl rfl <| sq_no rfl rfl <| sq_no rfl rfl <| sq_q rfl (fun W hT => r_pick (b := false) (v := .bool _) rfl rfl) <| sq_q rfl (fun W hT => r_assign (v := .bool _) rfl) ?_
   clear o13
   refine sq_nil <| then_n <| x_ret <| ret_tmp (v := .bool _) rfl rfl <| ⟨congrArg Value.bool ?_, HC⟩
   simp_all
 ·try simp only [nm, ne_eq] at g14
  refine sq_no rfl rfl <| sq_no rfl rfl <| sq_no rfl rfl <| sq_no rfl rfl <| sq_no rfl rfl <| sq_no rfl rfl <| sq_no rfl rfl <| sq_no rfl rfl <| sq_no rfl rfl <| sq_no rfl rfl <| sq_no rfl rfl <| sq_no rfl rfl <| sq_q rfl (fun W hT => r_pick (b := false) (v := .bool _) rfl rfl) <| sq_q rfl (fun W hT => r_move (v := .bool _) rfl) <| sq_no rfl rfl <| sq_no rfl rfl <| sq_no rfl rfl <| sq_no rfl rfl <| sq_no rfl rfl <| sq_no rfl rfl <| sq_no rfl rfl <| sq_no rfl rfl <| sq_no rfl rfl <| sq_no rfl rfl <| sq_no rfl rfl <| sq_no rfl rfl <| sq_no rfl rfl <| sq_q rfl (fun W hT => r_pick (b := false) (v := .bool _) rfl rfl) <| sq_q rfl (fun W hT => r_assign (v := .bool _) rfl) ?_
  clear o13
  refine sq_nil <| then_n <| x_ret <| ret_tmp (v := .bool _) rfl rfl <| ⟨congrArg Value.bool ?_, HC⟩
  simp_all

theorem qput_spec {D : Nat → Prop} {w : World} {b : Nat} {out : List Nd} {At Ao : Option Addr} {nt capt capo : Nat} {i deep pl e : Int} {x : Nd} {vs : List Value} (hfr0 : ∀ k, w.heap.size ≤ k → D k) (hDb : ¬ D b) (hb : Blk w b [.slice At nt capt, .int .i64 i, .slice Ao out.length capo, .int .i64 deep, .int .i64 e, .int .i64 pl] 57) (ho : Own ndE 38 w D Ao capo out) (hx : ndE.R w (fun k => D k ∧ k ∉ ob Ao) x vs) (hlen : out.length ≤ 1000000000) :
    CallR Tryz.prog 40 #[.pointer (some ⟨b, 0, none⟩), .agg ⟨vs⟩] w fun v w' => v = .int .i64 (out.length : Int) ∧ (∃ Ao' capo', Blk w' b [.slice At nt capt, .int .i64 i, .slice Ao' (out ++ [x]).length capo', .int .i64 deep, .int .i64 e, .int .i64 pl] 57 ∧ Own ndE 38 w' D Ao' capo' (out ++ [x])) ∧ Chg (b :: ob Ao) w w' := by
 obtain ⟨K, cx, rfl, hk1, hk2, hk3⟩ := hx
 replace hx : ndE.R w (fun k => D k ∧ k ∉ ob Ao) x _ := ⟨K, cx, rfl, hk1, hk2, hk3⟩
 refine callR_of_wp (args := [_, _]) Tryz.func40 rfl (Nat.le_of_ble_eq_true rfl) ?_
 have HC : Chg (b :: ob Ao) w w := .refl _
 refine sr rfl <| Wp rfl <| st_box (v := .agg ⟨[S _, .int _ _, S _, .slice _ _ _]⟩) (vs := [_, _, _, _]) rfl rfl ?_
 intro b1 w2 e3 c4 hb5
 have ge_b1 : w.heap.size ≤ b1 := by rw [e3]; exact HC.size
 have ne_b_b1 : b ≠ b1 := by rw [e3]; exact hb.ne_size
 have na_b1 : b1 ∉ ob Ao := ho.fresh (by rw [e3]; exact Nat.le_refl _)
 replace HC := HC.then c4
 replace hb := hb.tr0 c4
 replace ho := ho.tr0 c4
 replace hx := ndE_tr hx c4
 clear e3
 refine aI rfl <| en <| x_seq <| x_draw [(0, 0), (1, 0), (2, 0), (3, 0), (4, 0), (5, 0), (6, 1), (7, 1), (8, 0), (9, 0), (10, 2)] T.mixed rfl rfl rfl (fun W => W.heap[b]? = w2.heap[b]? ∧ W.heap[b1]? = w2.heap[b1]? ∧ True) ⟨rfl, rfl, trivial⟩ ?_
 have o8 := hb
 have o9 := hb5
 have c7 := Chg.drew w2
 generalize World.drew w2 = w6 at c7 ⊢
 replace HC := HC.then c7
 replace hb := hb.tr0 c7
 replace ho := ho.tr0 c7
 replace hx := ndE_tr hx c7
 replace hb5 := hb5.tr0 c7
 refine sq_q rfl (fun W hT => r_move (v := .pointer _) rfl) <| sq_q rfl (fun W hT => r_move (v := .pointer _) rfl) <| sq_q rfl (fun W hT => r_nilCheck rfl) <| sq_q rfl (fun W hT => r_fieldAddr T.fld57_2 rfl) <| sq_q rfl (fun W hT => r_load1 (v := .slice _ _ _) T.one32 rfl (Blk.cell (show Blk W b _ _ from hT.1.trans o8) rfl)) <| sq_q rfl (fun W hT => r_loadA (vs := [_, _, _, _]) T.agg38 rfl (Blk.cells (n := 4) (vs := [_, _, _, _]) (show Blk W b1 _ _ from hT.2.1.trans o9) rfl) rfl) <| sq_lit1 (ps := [(0, .tmp 10)]) (vs := [S _, .int _ _, S _, .slice _ _ _]) rfl T.lit32 (by decide) rfl (by simp only [List.forall_mem_cons, List.not_mem_nil, false_imp_iff, implies_true, and_true]; exact rfl) rfl ?_
 intro b10 w11 e12 c13 hb14
 have ge_b10 : w.heap.size ≤ b10 := by rw [e12]; exact HC.size
 have ne_b_b10 : b ≠ b10 := by rw [e12]; exact hb.ne_size
 have ne_b1_b10 : b1 ≠ b10 := by rw [e12]; exact hb5.ne_size
 have na_b10 : b10 ∉ ob Ao := ho.fresh (by rw [e12]; exact Nat.le_refl _)
 replace HC := HC.then c13
 replace hb := hb.tr0 c13
 replace ho := ho.tr0 c13
 replace hx := ndE_tr hx c13
 replace hb5 := hb5.tr0 c13
 clear e12
 refine ext_T (b := b10) ⟨(Eq.trans hb o8.symm), (Eq.trans hb5 o9.symm), trivial⟩ ?_
 have o15 := hb14
 have hszA := HC.size
 refine sq_append1 (c := ndE) (D2 := fun k => D k ∧ k ∉ ob Ao) (xs := out) (ys := [x]) rfl T.slice32 rfl rfl ho rfl rfl (one_elem hx (hb14.cells (n := 4) rfl)) (fun k _ h => h) (fun k hk => hfr0 k (by omega)) (by simp only [List.length_cons, List.length_nil]; omega) (by simp only [List.length_cons, List.length_nil]; omega) ?_
 intro Ao2 capo2 w16 ho2 c17 hg2
 replace hb := hb.tr c17 (fun hx => hDb (ho.inD _ hx))
 replace hb5 := hb5.tr c17 na_b1
 replace hb14 := hb14.tr c17 na_b10
 replace HC := HC.trans c17 (by intro k hk; exact .inl (by simp [hk]))
 refine ⟨_, fun _ h => h, ⟨(Eq.trans hb14 o15.symm), ⟨(Eq.trans hb o8.symm), (Eq.trans hb5 o9.symm), trivial⟩⟩, ?_⟩
 refine sq_q rfl (fun W hT => r_nilCheck rfl) <| sq_q rfl (fun W hT => r_fieldAddr T.fld57_2 rfl) <| sq_store2 rfl T.size32 (v := .slice _ _ _) rfl rfl rfl hb rfl (Nat.le_of_ble_eq_true rfl) (by simp [Value.oneCell', S]) rfl ?_
 intro w18 c19 hb20; simp only [setVs, setV] at hb20
 clear hb
 replace HC := HC.trans c19 (by intro x hx; simp only [List.mem_singleton] at hx; subst hx; exact .inl (by simp))
 replace ho2 := ho2.tN c19 hDb
 replace hb5 := hb5.tr1 c19 (Ne.symm ne_b_b1)
 replace hb14 := hb14.tr1 c19 (Ne.symm ne_b_b10)
 clear o8
 clear o9
 clear o15
 refine sq_nil <| then_n <| x_seq ?_
 have hsub : IntKind.i64.wrap (((out.length + [x].length : Nat) : Int) - 1) = (out.length : Int) := by have h1 : [x].length = 1 := rfl; rw [wrap64_id (by omega) (by omega)]; omega
 refine x_region rfl <| mP rfl <| nc rfl <| fa T.fld57_2 rfl <| lL T.one32 rfl (hb20.cell rfl) <| Wp rfl <| st_len (ct := #[32]) (by rw [show ((#[32] : Array TypeId)[0]?).bind Tryz.prog.underlying = some (.slice 38) from T.u32]; rfl) rfl <| Wp rfl <| st_subk rfl rfl (by exact hsub) <| aI rfl <| en <| x_ret <| ret_tmp (v := .int _ _) rfl rfl ?_
 exact ⟨rfl, ⟨Ao2, capo2, by rw [List.length_append]; exact hb20, ho2⟩, HC⟩

theorem qenter_spec {Dt : Nat → Prop} {w : World} {b : Nat} {TT : List Tk} {x : Tk} {tl : List Tk} {At Ao : Option Addr} {i no capt capo d : Nat} {pl : Int} (hb : Blk w b [.slice At TT.length capt, .int .i64 (i : Int), .slice Ao no capo, .int .i64 (d : Int), .int .i64 0, .int .i64 pl] 57) (hs : Sl tkE w Dt At TT) (hd : TT.drop i = x :: tl) (hDtb : ¬ Dt b) (hDtn : ∀ k, w.heap.size ≤ k → ¬ Dt k) (hd64 : d ≤ 64) :
    CallR Tryz.prog 39 #[.pointer (some ⟨b, 0, none⟩)] w fun v w' => ((64 < d + 1 ∧ v = .bool false ∧ Blk w' b [.slice At TT.length capt, .int .i64 (i : Int), .slice Ao no capo, .int .i64 ((d + 1 : Nat) : Int), .int .i64 104, .int .i64 x.2] 57) ∨ (d + 1 ≤ 64 ∧ v = .bool true ∧ Blk w' b [.slice At TT.length capt, .int .i64 (i : Int), .slice Ao no capo, .int .i64 ((d + 1 : Nat) : Int), .int .i64 0, .int .i64 pl] 57)) ∧ Chg [b] w w' := by
 refine callR_of_wp (args := [_]) Tryz.func39 rfl (Nat.le_of_ble_eq_true rfl) ?_
 have HC : Chg [b] w w := .refl _
 refine sr rfl <| aB rfl <| en <| sr rfl <| mP rfl <| nc rfl <| fa T.fld57_3 rfl <| lI T.one3 rfl (hb.cell rfl) <| Wp rfl <| st_addk rfl rfl (by exact wrap_1 (by omega)) <| nc rfl <| fa T.fld57_3 rfl <| Wp rfl <| st_store (v := .int _ _) T.size3 rfl rfl rfl hb rfl (Nat.le_of_ble_eq_true rfl) (by simp [Value.oneCell', S]) rfl ?_
 intro w1 c2 hb3; simp only [setVs, setV] at hb3
 clear hb
 replace HC := HC.trans c2 (by intro x hx; simp only [List.mem_singleton] at hx; subst hx; exact .inl (by simp))
 replace hs := hs.tr c2 (by intro k hx hD; obtain rfl := List.mem_singleton.1 hx; first | exact hDtb hD | exact absurd hD (hDtn _ ge_b))
 refine en <| x_seq <| sr rfl <| mP rfl <| nc rfl <| fa T.fld57_3 rfl <| lI T.one3 rfl (hb3.cell rfl) <| Wp rfl <| st_gtr rfl rfl <| en <| x_cond rfl (fun h0 => ?_) (fun h0 => ?_)
 ·try simp only [nm, ne_eq] at h0
  refine x_region rfl <| mP rfl <| Wp rfl <| st_call (ags := [_, _]) rfl rfl T.ent19 rfl (qfail_spec 104 hb3 hs hd hDtb (fun k hk => hDtn k (Nat.le_trans HC.size hk))) ?_
  rintro _ w4 ⟨rfl, hb9, c5⟩
  rw [if_pos rfl, if_pos rfl] at hb9
  replace HC := HC.trans c5 (by intro x hx; simp only [List.mem_singleton] at hx; subst hx; exact .inl (by simp))
  replace hs := hs.tr c5 (by intro k hx hD; obtain rfl := List.mem_singleton.1 hx; first | exact hDtb hD | exact absurd hD (hDtn _ ge_b))
  refine en <| sr rfl <| mP rfl <| nc rfl <| fa T.fld57_4 rfl <| lI T.one3 rfl (hb9.cell rfl) <| Wp rfl <| st_eql rfl rfl <| aB rfl <| en <| x_ret <| ret_tmp (v := .bool _) rfl rfl <| ⟨.inl ⟨by omega, rfl, hb9⟩, HC⟩
 ·try simp only [nm, ne_eq] at h0
  refine x_skip <| then_n <| sr rfl <| mP rfl <| nc rfl <| fa T.fld57_4 rfl <| lI T.one3 rfl (hb3.cell rfl) <| Wp rfl <| st_eql rfl rfl <| aB rfl <| en <| x_ret <| ret_tmp (v := .bool _) rfl rfl <| ⟨.inr ⟨by omega, rfl, hb3⟩, HC⟩

end Go.Proofs.YtmbbhgglllfelaaGreatDoor.K
