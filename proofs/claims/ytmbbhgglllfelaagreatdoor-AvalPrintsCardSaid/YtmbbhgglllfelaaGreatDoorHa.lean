import Derived.Test.YtmbbhgglllfelaaGreatDoorTreeN
import Derived.Test.YtmbbhgglllfelaaGreatDoorKitQ
set_option linter.unusedVariables false
set_option linter.unusedSimpArgs false
set_option autoImplicit false
set_option maxRecDepth 20000
namespace Go.Proofs.YtmbbhgglllfelaaGreatDoor.K
open Go Go.Proofs Go.RowKit

open Tr
abbrev Rs := Int × List Vr × Int
/-- Variables with one more (a number of the kind). -/
def putV (vs : List Vr) (n : Bytes) (x : Int) : Option (List Vr) := if -9223372036854775808 ≤ x ∧ x ≤ 9223372036854775807 then some (putL vs n x) else none
/-- What an assignment comes to. -/
def asgV (o n : Bytes) (a : Int) (vs : List Vr) : Option Rs :=
  if Lib.trimSuffix o [61] = [] then (putV vs n a).bind fun q => some (a, q, 0)
  else if ¬ (getV vs n).2 = 0 then some (0, vs, (getV vs n).2)
  else if ¬ (applyV (Lib.trimSuffix o [61]) (getV vs n).1 a).2 = 0 then some (0, vs, (applyV (Lib.trimSuffix o [61]) (getV vs n).1 a).2)
  else (putV vs n (applyV (Lib.trimSuffix o [61]) (getV vs n).1 a).1).bind fun q => some ((applyV (Lib.trimSuffix o [61]) (getV vs n).1 a).1, q, 0)
/-- What an operation comes to, if its kids come to what k tells. -/
def evalN (x : Nd) (k : Nat → List Vr → Option Rs) (vs : List Vr) : Option Rs :=
  if x.op = [35] then some (x.num, vs, 0)
  else if x.op = [36] then some ((getV vs x.name).1, vs, (getV vs x.name).2)
  else (k 0 vs).bind fun r =>
    if ¬ r.2.2 = 0 then some (0, r.2.1, r.2.2)
    else if ¬ x.name = [] then asgV x.op x.name r.1 r.2.1
    else if x.op = [117, 43] then some (r.1, r.2.1, 0)
    else if x.op = [117, 45] then some (IntKind.i64.wrap (0 - r.1), r.2.1, 0)
    else if x.op = [117, 33] then some (truthV (decide (r.1 = 0)), r.2.1, 0)
    else if x.op = [117, 126] then some (notV .i64 r.1, r.2.1, 0)
    else if x.op = [63] then (if ¬ r.1 = 0 then k 1 r.2.1 else k 2 r.2.1)
    else if x.op = [38, 38] then (if ¬ r.1 = 0 then (k 1 r.2.1).bind fun q => some (truthV (!decide (q.1 = 0)), q.2.1, q.2.2) else some (truthV false, r.2.1, 0))
    else if x.op = [124, 124] then (if ¬ r.1 = 0 then some (truthV true, r.2.1, 0) else (k 1 r.2.1).bind fun q => some (truthV (!decide (q.1 = 0)), q.2.1, q.2.2))
    else (k 1 r.2.1).bind fun q => some ((if q.2.2 = 0 then (applyV x.op r.1 q.1).1 else 0), q.2.1, if q.2.2 = 0 then (applyV x.op r.1 q.1).2 else q.2.2)
def runV : Tr → List Vr → Option Rs
  | .num n, vs => evalN (Tr.node (.num n) 0) (fun _ _ => none) vs
  | .var s, vs => evalN (Tr.node (.var s) 0) (fun _ _ => none) vs
  | .asg o n t, vs => evalN ⟨o, 0, n, []⟩ (fun i vs => match i with | 0 => runV t vs | _ => none) vs
  | .un o t, vs => evalN ⟨117 :: o, 0, [], []⟩ (fun i vs => match i with | 0 => runV t vs | _ => none) vs
  | .cnd a b c, vs => evalN ⟨[63], 0, [], []⟩ (fun i vs => match i with | 0 => runV a vs | 1 => runV b vs | 2 => runV c vs | _ => none) vs
  | .bin o a b, vs => evalN ⟨o, 0, [], []⟩ (fun i vs => match i with | 0 => runV a vs | 1 => runV b vs | _ => none) vs
def kidR (t : Tr) (p : Nat) (i : Nat) (vs : List Vr) : Option Rs := ((t.kidsT p)[i]?).bind fun c => runV c.1 vs
theorem runV_node (t : Tr) (p : Nat) (vs : List Vr) : runV t vs = evalN (t.node p) (kidR t p) vs := by
  cases t with
  | num n => rw [runV]; rfl
  | var s => rw [runV]; rfl
  | asg o n t => rw [runV]; exact congrArg (fun k => evalN ⟨o, 0, n, []⟩ k vs) (funext fun i => funext fun u => by match i with | 0 => rfl | i + 1 => simp [kidR, kidsT])
  | un o t => rw [runV]; exact congrArg (fun k => evalN ⟨117 :: o, 0, [], []⟩ k vs) (funext fun i => funext fun u => by match i with | 0 => rfl | i + 1 => simp [kidR, kidsT])
  | cnd a b c => rw [runV]; exact congrArg (fun k => evalN ⟨[63], 0, [], []⟩ k vs) (funext fun i => funext fun u => by match i with | 0 => rfl | 1 => rfl | 2 => rfl | i + 3 => simp [kidR, kidsT])
  | bin o a b => rw [runV]; exact congrArg (fun k => evalN ⟨o, 0, [], []⟩ k vs) (funext fun i => funext fun u => by match i with | 0 => rfl | 1 => rfl | i + 2 => simp [kidR, kidsT])
theorem obind {α β : Type} {o : Option α} {f : α → Option β} {y : β} (h : o.bind f = some y) : ∃ r, o = some r ∧ f r = some y := by
  cases o with
  | none => cases h
  | some r => exact ⟨r, rfl, h⟩
theorem kid_of {t : Tr} {p i : Nat} {vs : List Vr} {r : Rs} (h : kidR t p i vs = some r) : ∃ c, (t.kidsT p)[i]? = some c ∧ runV c.1 vs = some r := obind h
/-- Variables that are as they should be. -/
def VK (vs : List Vr) : Prop := Rise vs ∧ ∀ q, q ∈ vs → q.2.length ≤ 9223372036854775807
theorem textV_len {x : Int} (h0 : -9223372036854775808 ≤ x) (h1 : x ≤ 9223372036854775807) : (textV x).length ≤ 21 := by
  unfold textV
  split
  · have := decT_len 19 (-x).toNat (by have : (10 : Nat) ^ (19 + 1) = 100000000000000000000 := rfl; omega)
    simp only [List.length_append, List.length_cons, List.length_nil]; omega
  · have := decT_20 (n := x.toNat) (by omega); omega
theorem less_tri : ∀ {a b : Bytes}, Op.bytesLess a b = false → a ≠ b → Op.bytesLess b a = true
  | [], [], _, h => absurd rfl h
  | [], b :: ys, h, _ => by simp [Op.bytesLess] at h
  | a :: xs, [], _, _ => by simp [Op.bytesLess]
  | a :: xs, b :: ys, h, h2 => by
    by_cases e : a = b
    · subst e
      have h3 : Op.bytesLess xs ys = false := by simpa [Op.bytesLess] using h
      have := less_tri h3 (fun e => h2 (by rw [e]))
      simpa [Op.bytesLess] using this
    · simp only [Op.bytesLess] at h ⊢
      by_cases hl : a < b
      · simp [hl] at h
      · have h4 : b < a := by
          rw [UInt8.lt_iff_toNat_lt] at *
          have : a.toNat ≠ b.toNat := fun h5 => e (UInt8.toNat_inj.1 h5)
          omega
        simp [h4]
theorem plN_take {vs : List Vr} {n : Bytes} : ∀ p, p ∈ vs.take (plN vs n) → Op.bytesLess p.1 n = true := by
  induction vs with
  | nil => intro p hp; simp at hp
  | cons a vs ih =>
    intro p hp
    simp only [plN] at hp
    split at hp
    · rename_i h1
      rw [List.take_succ_cons] at hp
      rcases List.mem_cons.1 hp with rfl | hp
      · exact h1
      · exact ih p hp
    · simp at hp
theorem plN_drop {vs : List Vr} {n : Bytes} (hr : Rise vs) (ha : isAt vs n = false) : ∀ p, p ∈ vs.drop (plN vs n) → Op.bytesLess n p.1 = true := by
  induction vs with
  | nil => intro p hp; simp at hp
  | cons a vs ih =>
    intro p hp
    by_cases h1 : Op.bytesLess a.1 n = true
    · have hp2 : plN (a :: vs) n = plN vs n + 1 := by simp only [plN]; rw [if_pos h1]
      rw [hp2, List.drop_succ_cons] at hp
      refine ih (List.pairwise_cons.1 hr).2 ?_ p hp
      unfold isAt at ha ⊢; rw [hp2] at ha; simpa using ha
    · have hp2 : plN (a :: vs) n = 0 := by simp only [plN]; rw [if_neg h1]
      rw [hp2, List.drop_zero] at hp
      unfold isAt at ha; rw [hp2] at ha
      have h3 : a.1 ≠ n := by simpa using ha
      have h4 := less_tri (by simpa using h1) h3
      rcases List.mem_cons.1 hp with rfl | hp
      · exact h4
      · exact less_trans _ _ _ h4 ((List.pairwise_cons.1 hr).1 p hp)
theorem putL_rise {vs : List Vr} {n : Bytes} {x : Int} (hr : Rise vs) : Rise (putL vs n x) := by
  unfold putL
  cases h : isAt vs n with
  | true =>
    rw [if_pos rfl]
    have hlt := isAt_lt h
    have h1 : (vs.set (plN vs n) (n, textV x)).map (·.1) = vs.map (·.1) := by
      rw [List.map_set]
      apply List.ext_getElem?; intro j
      rw [List.getElem?_set]
      split
      · rename_i e; subst e
        rw [if_pos (by simpa using hlt), List.getElem?_map]
        unfold isAt at h; rw [decide_eq_true_eq] at h; exact h.symm
      · rfl
    have h2 : (vs.map (·.1)).Pairwise (fun a b => Op.bytesLess a b = true) := List.pairwise_map.2 hr
    rw [← h1] at h2
    exact List.pairwise_map.1 h2
  | false =>
    rw [if_neg (by simp)]
    refine List.pairwise_append.2 ⟨hr.sublist (List.take_sublist _ _), List.pairwise_cons.2 ⟨plN_drop hr h, hr.sublist (List.drop_sublist _ _)⟩, fun a ha b hb => ?_⟩
    rcases List.mem_cons.1 hb with rfl | hb
    · exact plN_take a ha
    · exact less_trans _ _ _ (plN_take a ha) (plN_drop hr h b hb)
theorem putL_mem {vs : List Vr} {n : Bytes} {x : Int} {p : Vr} (h : p ∈ putL vs n x) : p ∈ vs ∨ p = (n, textV x) := by
  unfold putL at h
  split at h
  · rcases List.mem_or_eq_of_mem_set h with h | h
    · exact .inl h
    · exact .inr h
  · rcases List.mem_append.1 h with h | h
    · exact .inl (List.mem_of_mem_take h)
    · rcases List.mem_cons.1 h with h | h
      · exact .inr h
      · exact .inl (List.mem_of_mem_drop h)
theorem putL_len {vs : List Vr} {n : Bytes} {x : Int} : (putL vs n x).length ≤ vs.length + 1 := by
  unfold putL
  split
  · rw [List.length_set]; omega
  · rw [insL_len (plN_le vs n)]; omega
theorem putV_vk {vs q : List Vr} {n : Bytes} {x : Int} (h : putV vs n x = some q) (hv : VK vs) : VK q ∧ q.length ≤ vs.length + 1 := by
  unfold putV at h
  split at h
  · rename_i hc
    obtain rfl := Option.some.inj h
    refine ⟨⟨putL_rise hv.1, fun p hp => ?_⟩, putL_len⟩
    rcases putL_mem hp with hp | rfl
    · exact hv.2 p hp
    · have := textV_len hc.1 hc.2; show (textV x).length ≤ _; omega
  · cases h
theorem asgV_vk {o n : Bytes} {a : Int} {vs : List Vr} {r : Rs} (h : asgV o n a vs = some r) (hv : VK vs) : VK r.2.1 ∧ r.2.1.length ≤ vs.length + 1 := by
  unfold asgV at h
  split at h
  · obtain ⟨q, h1, h2⟩ := obind h; obtain rfl := Option.some.inj h2; exact putV_vk h1 hv
  · split at h
    · obtain rfl := Option.some.inj h; exact ⟨hv, Nat.le_add_right _ _⟩
    · split at h
      · obtain rfl := Option.some.inj h; exact ⟨hv, Nat.le_add_right _ _⟩
      · obtain ⟨q, h1, h2⟩ := obind h; obtain rfl := Option.some.inj h2; exact putV_vk h1 hv
theorem evalN_vk {x : Nd} {k : Nat → List Vr → Option Rs} {vs : List Vr} {r : Rs} {s0 s1 s2 : Nat} (h : evalN x k vs = some r) (hv : VK vs) (h0 : ∀ u r, k 0 u = some r → VK u → VK r.2.1 ∧ r.2.1.length ≤ u.length + s0) (h1 : ∀ u r, k 1 u = some r → VK u → VK r.2.1 ∧ r.2.1.length ≤ u.length + s1) (h2 : ∀ u r, k 2 u = some r → VK u → VK r.2.1 ∧ r.2.1.length ≤ u.length + s2) : VK r.2.1 ∧ r.2.1.length ≤ vs.length + (s0 + s1 + s2 + 1) := by
  have hup : ∀ {q : List Vr} {m n : Nat}, VK q ∧ q.length ≤ m → m ≤ n → VK q ∧ q.length ≤ n := fun h h2 => ⟨h.1, Nat.le_trans h.2 h2⟩
  unfold evalN at h
  by_cases c1 : x.op = [35]
  · rw [if_pos c1] at h; obtain rfl := Option.some.inj h; exact ⟨hv, Nat.le_add_right _ _⟩
  rw [if_neg c1] at h
  by_cases c2 : x.op = [36]
  · rw [if_pos c2] at h; obtain rfl := Option.some.inj h; exact ⟨hv, Nat.le_add_right _ _⟩
  rw [if_neg c2] at h
  obtain ⟨q, hq, h⟩ := obind h
  have hq0 := h0 _ _ hq hv
  have hq1 := hq0.2
  by_cases c3 : q.2.2 = 0
  case neg => rw [if_pos c3] at h; obtain rfl := Option.some.inj h; exact hup hq0 (by omega)
  rw [if_neg (fun h => h c3)] at h
  by_cases c4 : x.name = []
  case neg => rw [if_pos c4] at h; exact hup (asgV_vk h hq0.1) (by omega)
  rw [if_neg (fun h => h c4)] at h
  by_cases c5 : x.op = [117, 43]
  · rw [if_pos c5] at h; obtain rfl := Option.some.inj h; exact hup hq0 (by omega)
  rw [if_neg c5] at h
  by_cases c6 : x.op = [117, 45]
  · rw [if_pos c6] at h; obtain rfl := Option.some.inj h; exact hup hq0 (by omega)
  rw [if_neg c6] at h
  by_cases c7 : x.op = [117, 33]
  · rw [if_pos c7] at h; obtain rfl := Option.some.inj h; exact hup hq0 (by omega)
  rw [if_neg c7] at h
  by_cases c8 : x.op = [117, 126]
  · rw [if_pos c8] at h; obtain rfl := Option.some.inj h; exact hup hq0 (by omega)
  rw [if_neg c8] at h
  by_cases c9 : x.op = [63]
  · rw [if_pos c9] at h
    by_cases d : q.1 = 0
    · rw [if_neg (fun h => h d)] at h; exact hup (h2 _ _ h hq0.1) (by omega)
    · rw [if_pos d] at h; exact hup (h1 _ _ h hq0.1) (by omega)
  rw [if_neg c9] at h
  by_cases c10 : x.op = [38, 38]
  · rw [if_pos c10] at h
    by_cases d : q.1 = 0
    · rw [if_neg (fun h => h d)] at h; obtain rfl := Option.some.inj h; exact hup hq0 (by omega)
    · rw [if_pos d] at h; obtain ⟨z, hz, h⟩ := obind h; have hz1 := h1 _ _ hz hq0.1; obtain rfl := Option.some.inj h; exact hup hz1 (by omega)
  rw [if_neg c10] at h
  by_cases c11 : x.op = [124, 124]
  · rw [if_pos c11] at h
    by_cases d : q.1 = 0
    · rw [if_neg (fun h => h d)] at h; obtain ⟨z, hz, h⟩ := obind h; have hz1 := h1 _ _ hz hq0.1; obtain rfl := Option.some.inj h; exact hup hz1 (by omega)
    · rw [if_pos d] at h; obtain rfl := Option.some.inj h; exact hup hq0 (by omega)
  rw [if_neg c11] at h
  obtain ⟨z, hz, h⟩ := obind h; have hz1 := h1 _ _ hz hq0.1; obtain rfl := Option.some.inj h; exact hup hz1 (by omega)
theorem runV_vk : ∀ (t : Tr) (vs : List Vr) (r : Rs), runV t vs = some r → VK vs → VK r.2.1 ∧ r.2.1.length ≤ vs.length + t.sz
  | .num n, vs, r, h, hv => by rw [runV] at h; simpa [sz] using evalN_vk (s0 := 0) (s1 := 0) (s2 := 0) h hv (fun _ _ h => by cases h) (fun _ _ h => by cases h) (fun _ _ h => by cases h)
  | .var n, vs, r, h, hv => by rw [runV] at h; simpa [sz] using evalN_vk (s0 := 0) (s1 := 0) (s2 := 0) h hv (fun _ _ h => by cases h) (fun _ _ h => by cases h) (fun _ _ h => by cases h)
  | .asg o n t, vs, r, h, hv => by rw [runV] at h; simpa [sz] using evalN_vk (s0 := t.sz) (s1 := 0) (s2 := 0) h hv (fun u r h => runV_vk t u r h) (fun _ _ h => by cases h) (fun _ _ h => by cases h)
  | .un o t, vs, r, h, hv => by rw [runV] at h; simpa [sz] using evalN_vk (s0 := t.sz) (s1 := 0) (s2 := 0) h hv (fun u r h => runV_vk t u r h) (fun _ _ h => by cases h) (fun _ _ h => by cases h)
  | .cnd a b c, vs, r, h, hv => by rw [runV] at h; simpa [sz] using evalN_vk (s0 := a.sz) (s1 := b.sz) (s2 := c.sz) h hv (fun u r h => runV_vk a u r h) (fun u r h => runV_vk b u r h) (fun u r h => runV_vk c u r h)
  | .bin o a b, vs, r, h, hv => by rw [runV] at h; simpa [sz] using evalN_vk (s0 := a.sz) (s1 := b.sz) (s2 := 0) h hv (fun u r h => runV_vk a u r h) (fun u r h => runV_vk b u r h) (fun _ _ h => by cases h)
theorem kid_two {t : Tr} {p j : Nat} {c0 c : Tr × Nat} (h0 : (t.kidsT p)[0]? = some c0) (h : (t.kidsT p)[j]? = some c) (hj : 0 < j) : c0.1.sz + c.1.sz < t.sz := by
  cases t with
  | num n => cases h0
  | var s => cases h0
  | asg o n t => rcases j with _ | j; · omega
                 simp [kidsT] at h
  | un o t => rcases j with _ | j; · omega
              simp [kidsT] at h
  | cnd x y z =>
    simp only [kidsT] at h0 h
    obtain rfl := Option.some.inj h0
    match j, h with
    | 1, h => obtain rfl := Option.some.inj h; simp only [sz]; omega
    | 2, h => obtain rfl := Option.some.inj h; simp only [sz]; omega
    | j + 3, h => simp at h
  | bin o x y =>
    simp only [kidsT] at h0 h
    obtain rfl := Option.some.inj h0
    match j, h with
    | 1, h => obtain rfl := Option.some.inj h; simp only [sz]; omega
    | j + 2, h => simp at h
theorem node_op (t : Tr) (p : Nat) (h : t.ok) : (t.node p).op.length ≤ 3 := by
  cases t with
  | num n => simp [node]
  | var s => simp [node]
  | asg o n t => exact asg_len h.1
  | un o t => have := un_len h.1; simp only [node, List.length_cons]; omega
  | cnd x y z => simp [node]
  | bin o x y => have := (lvl_len h.1).1; simp only [node]; omega
/-- The machine in memory. -/
def MaAt (w : World) (b : Nat) (Al : Option Addr) (capl : Nat) (l : List Nd) (vs : List Vr) (e : Int) : Prop :=
  ∃ Av cv, Blk w b [.slice Al l.length capl, .slice Av vs.length cv, .int .i64 e] 49 ∧ Sl ndE w (fun k => k ≠ b) Al l ∧ Sl prE w (fun k => k ≠ b) Av vs ∧ (vs = [] → True)
theorem MaAt.tr0 {w w' : World} {b : Nat} {Al : Option Addr} {capl : Nat} {l : List Nd} {vs : List Vr} {e : Int} (h : MaAt w b Al capl l vs e) (c : Chg [] w w') : MaAt w' b Al capl l vs e := by
  obtain ⟨Av, cv, h1, h2, h3, h4⟩ := h; exact ⟨Av, cv, h1.tr0 c, h2.tr0 c, h3.tr0 c, h4⟩
def PostM (b : Nat) (Al : Option Addr) (capl : Nat) (l : List Nd) (r : Rs) (w : World) (x : Value) (w' : World) : Prop := x = .int .i64 r.1 ∧ MaAt w' b Al capl l r.2.1 r.2.2 ∧ Chg [b] w w'

theorem massign_spec {vs : List Vr} {l : List Nd} {Al : Option Addr} {capl b : Nat} {w : World} {D : Nat → Prop} {x : Nd} {us : List Value} {a : Int} {r : Rs} (hm : MaAt w b Al capl l vs 0) (hx : ndE.R w D x us) (hvk : VK vs) (hl : vs.length ≤ 100000000) (hxo : x.op.length ≤ 100) (hr : asgV x.op x.name a vs = some r) : CallR Tryz.prog 27 #[.pointer (some ⟨b, 0, none⟩), .agg ⟨us⟩, .int .i64 a] w (PostM b Al capl l r w) := by
 obtain ⟨Av, cv, hb, hl0, hv, hA⟩ := hm
 obtain ⟨K, cx, rfl, hk1, hk2, hk3⟩ := hx
 unfold asgV at hr
 refine callR_of_wp (args := [_, _, _]) Tryz.func27 rfl (Nat.le_of_ble_eq_true rfl) ?_
 have HC : Chg [b] w w := .refl _
 refine sr rfl <| Wp rfl <| st_box (v := .agg ⟨[S _, .int _ _, S _, .slice _ _ _]⟩) (vs := [_, _, _, _]) rfl rfl ?_
 intro b1 w2 e3 c4 hb5
 have ge_b1 : w.heap.size ≤ b1 := by rw [e3]; exact HC.size
 have ne_b_b1 : b ≠ b1 := by rw [e3]; exact hb.ne_size
 replace HC := HC.then c4
 replace hb := hb.tr0 c4
 replace hv := hv.tr0 c4
 replace hl0 := hl0.tr0 c4
 clear e3
 refine aI rfl <| en <| x_seq <| sr rfl <| fa T.fld38_0 rfl <| lS T.one9 rfl (hb5.cell rfl) <| Wp rfl <| st_call (ags := [_, _]) rfl rfl T.ent49 rfl (TrimSuffix_spec _ _ _ (by omega)) ?_
 rintro _ w6 ⟨rfl, c7⟩
 replace HC := HC.then c7
 replace hb := hb.tr0 c7
 replace hv := hv.tr0 c7
 replace hl0 := hl0.tr0 c7
 replace hb5 := hb5.tr0 c7
 refine aS rfl <| en <| sr rfl <| mS rfl <| Wp rfl <| st_sneq rfl rfl <| en <| x_cond rfl (fun h0 => ?_) (fun h0 => ?_)
 ·try simp only [nm, ne_eq] at h0
  have h00 : ¬ Lib.trimSuffix x.op [61] = [] := by simpa using h0
  rw [if_neg h00] at hr
  rcases Decidable.em ((getV vs x.name).2 = 0) with hge | hge
  ·refine x_region rfl <| mP rfl <| mS rfl <| mP rfl <| fa T.fld38_2 rfl <| lS T.one9 rfl (hb5.cell rfl) <| Wp rfl <| st_call (ags := [_, _]) rfl rfl T.ent25 rfl (get_spec x.name hb hv hvk.1 (by omega) hvk.2) ?_
   rintro _ w8 ⟨rfl, hb1, c9⟩
   replace HC := HC.trans c9 (by intro x hx; simp only [List.mem_singleton] at hx; subst hx; exact .inl (by simp))
   replace hv := hv.tr c9 (by intro k hx hD; obtain rfl := List.mem_singleton.1 hx; first | exact hD rfl | exact hD.1 rfl | (have hD2 := hD.2; omega))
   replace hl0 := hl0.tr c9 (by intro k hx hD; obtain rfl := List.mem_singleton.1 hx; exact hD rfl)
   replace hb5 := hb5.tr1 c9 (Ne.symm ne_b_b1)
   refine mI rfl <| Wp rfl <| st_call (ags := [_, _, _, _]) rfl rfl T.ent29 rfl (mapply_spec _ _ _ hb1) ?_
   rintro vm w10 ⟨hvm, hb2x, c11⟩
   rw [if_pos hge] at hvm hb2x
   subst hvm
   replace HC := HC.trans c11 (by intro x hx; simp only [List.mem_singleton] at hx; subst hx; exact .inl (by simp))
   replace hv := hv.tr c11 (by intro k hx hD; obtain rfl := List.mem_singleton.1 hx; first | exact hD rfl | exact hD.1 rfl | (have hD2 := hD.2; omega))
   replace hl0 := hl0.tr c11 (by intro k hx hD; obtain rfl := List.mem_singleton.1 hx; exact hD rfl)
   replace hb5 := hb5.tr1 c11 (Ne.symm ne_b_b1)
   refine aI rfl <| en <| x_seq <| x_seq ?_
   rw [if_neg (fun h => h hge)] at hr
   refine x_region rfl <| mP rfl <| nc rfl <| fa T.fld49_2 rfl <| lI T.one25 rfl (hb2x.cell rfl) <| Wp rfl <| st_neq rfl rfl <| en <| x_cond rfl (fun h1 => ?_) (fun h1 => ?_)
   ·try simp only [nm, ne_eq] at h1
    rw [if_pos h1] at hr
    obtain rfl := Option.some.inj hr
    refine sr rfl <| aI rfl <| en <| x_ret <| then_r <| ret_tmp (v := .int _ _) rfl rfl ?_
    exact ⟨rfl, ⟨Av, cv, hb2x, hl0, hv, hA⟩, HC⟩
   ·try simp only [nm, ne_eq] at h1
    rw [if_neg (fun h => h h1)] at hr
    rw [show (applyV (Lib.trimSuffix x.op [61]) (getV vs x.name).1 a).2 = 0 from h1] at hb2x
    obtain ⟨qv, hset, hr⟩ := obind hr
    obtain rfl := Option.some.inj hr
    refine x_skip <| then_n <| sr rfl <| mP rfl <| fa T.fld38_2 rfl <| lS T.one9 rfl (hb5.cell rfl) <| mI rfl ?_
    unfold putV at hset
    have hsc := Classical.byContradiction (fun hn => by rw [if_neg hn] at hset; cases hset)
    rw [if_pos hsc] at hset
    obtain rfl := Option.some.inj hset
    refine Wp rfl <| st_call (ags := [_, _, _]) rfl rfl T.ent50 rfl (set_spec x.name (applyV (Lib.trimSuffix x.op [61]) (getV vs x.name).1 a).1 hsc.1 hsc.2 hb2x hv hvk.1 (by omega)) ?_
    rintro _ w12 ⟨rfl, ⟨Av2, cv2, hb2, hv2⟩, c13⟩
    replace HC := HC.trans c13 (by intro x hx; simp only [List.mem_singleton] at hx; subst hx; exact .inl (by simp))
    replace hl0 := hl0.tr c13 (by intro k hx hD; obtain rfl := List.mem_singleton.1 hx; exact hD rfl)
    replace hb5 := hb5.tr1 c13 (Ne.symm ne_b_b1)
    refine aI rfl <| en <| x_ret <| ret_tmp (v := .int _ _) rfl rfl ?_
    exact ⟨rfl, ⟨Av2, cv2, hb2, hl0, hv2, fun _ => trivial⟩, HC⟩
  ·refine x_region rfl <| mP rfl <| mS rfl <| mP rfl <| fa T.fld38_2 rfl <| lS T.one9 rfl (hb5.cell rfl) <| Wp rfl <| st_call (ags := [_, _]) rfl rfl T.ent25 rfl (get_spec x.name hb hv hvk.1 (by omega) hvk.2) ?_
   rintro _ w14 ⟨rfl, hb1, c15⟩
   replace HC := HC.trans c15 (by intro x hx; simp only [List.mem_singleton] at hx; subst hx; exact .inl (by simp))
   replace hv := hv.tr c15 (by intro k hx hD; obtain rfl := List.mem_singleton.1 hx; first | exact hD rfl | exact hD.1 rfl | (have hD2 := hD.2; omega))
   replace hl0 := hl0.tr c15 (by intro k hx hD; obtain rfl := List.mem_singleton.1 hx; exact hD rfl)
   replace hb5 := hb5.tr1 c15 (Ne.symm ne_b_b1)
   refine mI rfl <| Wp rfl <| st_call (ags := [_, _, _, _]) rfl rfl T.ent29 rfl (mapply_spec _ _ _ hb1) ?_
   rintro vm w16 ⟨hvm, hb2x, c17⟩
   rw [if_neg hge] at hvm hb2x
   subst hvm
   replace HC := HC.trans c17 (by intro x hx; simp only [List.mem_singleton] at hx; subst hx; exact .inl (by simp))
   replace hv := hv.tr c17 (by intro k hx hD; obtain rfl := List.mem_singleton.1 hx; first | exact hD rfl | exact hD.1 rfl | (have hD2 := hD.2; omega))
   replace hl0 := hl0.tr c17 (by intro k hx hD; obtain rfl := List.mem_singleton.1 hx; exact hD rfl)
   replace hb5 := hb5.tr1 c17 (Ne.symm ne_b_b1)
   refine aI rfl <| en <| x_seq <| x_seq ?_
   rw [if_pos hge] at hr
   obtain rfl := Option.some.inj hr
   refine x_region rfl <| mP rfl <| nc rfl <| fa T.fld49_2 rfl <| lI T.one25 rfl (hb2x.cell rfl) <| Wp rfl <| st_neq rfl rfl <| en <| x_cond rfl (fun h1 => ?_) (fun h1 => ?_)
   ·try simp only [nm, ne_eq] at h1
    refine sr rfl <| aI rfl <| en <| x_ret <| then_r <| ret_tmp (v := .int _ _) rfl rfl ?_
    exact ⟨rfl, ⟨Av, cv, hb2x, hl0, hv, hA⟩, HC⟩
   ·try simp only [nm, ne_eq] at h1
    exact absurd h1 hge
 ·try simp only [nm, ne_eq] at h0
  have h00 : Lib.trimSuffix x.op [61] = [] := by simpa using h0
  rw [if_pos h00] at hr
  obtain ⟨qv, hset, hr⟩ := obind hr
  obtain rfl := Option.some.inj hr
  refine x_skip <| then_n <| x_seq <| sr rfl <| mP rfl <| nc rfl <| fa T.fld49_2 rfl <| lI T.one25 rfl (hb.cell rfl) <| Wp rfl <| st_neq rfl rfl <| en <| x_cond rfl (fun h1 => ?_) (fun h1 => ?_)
  ·try simp only [nm, ne_eq] at h1
   first | exact absurd rfl h1 | exact absurd trivial h1
  ·try simp only [nm, ne_eq] at h1
   refine x_skip <| then_n <| sr rfl <| mP rfl <| fa T.fld38_2 rfl <| lS T.one9 rfl (hb5.cell rfl) <| mI rfl ?_
   unfold putV at hset
   have hsc := Classical.byContradiction (fun hn => by rw [if_neg hn] at hset; cases hset)
   rw [if_pos hsc] at hset
   obtain rfl := Option.some.inj hset
   refine Wp rfl <| st_call (ags := [_, _, _]) rfl rfl T.ent50 rfl (set_spec x.name a hsc.1 hsc.2 hb hv hvk.1 (by omega)) ?_
   rintro _ w18 ⟨rfl, ⟨Av2, cv2, hb2, hv2⟩, c19⟩
   replace HC := HC.trans c19 (by intro x hx; simp only [List.mem_singleton] at hx; subst hx; exact .inl (by simp))
   replace hl0 := hl0.tr c19 (by intro k hx hD; obtain rfl := List.mem_singleton.1 hx; exact hD rfl)
   replace hb5 := hb5.tr1 c19 (Ne.symm ne_b_b1)
   refine aI rfl <| en <| x_ret <| ret_tmp (v := .int _ _) rfl rfl ?_
   exact ⟨rfl, ⟨Av2, cv2, hb2, hl0, hv2, fun _ => trivial⟩, HC⟩

theorem kid_spec {vs : List Vr} {l : List Nd} {Al : Option Addr} {capl b i : Nat} {w : World} {D : Nat → Prop} {x : Nd} {us : List Value} {k : Int} {r : Rs} (hm : MaAt w b Al capl l vs 0) (hx : ndE.R w D x us) (hi : x.kids[i]? = some k) (hrun : ∀ W, MaAt W b Al capl l vs 0 → CallR Tryz.prog 15 #[.pointer (some ⟨b, 0, none⟩), .int .i64 k] W (PostM b Al capl l r W)) : CallR Tryz.prog 26 #[.pointer (some ⟨b, 0, none⟩), .agg ⟨us⟩, .int .i64 (i : Int)] w (PostM b Al capl l r w) := by
 obtain ⟨K, cx, rfl, hk1, hk2, hk3⟩ := hx
 have hilt := (List.getElem?_eq_some_iff.1 hi).1
 have hbl9 : b < w.heap.size := by obtain ⟨_, _, h, _⟩ := hm; exact h.lt
 refine callR_of_wp (args := [_, _, _]) Tryz.func26 rfl (Nat.le_of_ble_eq_true rfl) ?_
 have HC : Chg [b] w w := .refl _
 refine sr rfl <| Wp rfl <| st_box (v := .agg ⟨[S _, .int _ _, S _, .slice _ _ _]⟩) (vs := [_, _, _, _]) rfl rfl ?_
 intro b1 w2 e3 c4 hb5
 have ge_b1 : w.heap.size ≤ b1 := by rw [e3]; exact HC.size
 replace HC := HC.then c4
 replace hm := hm.tr0 c4
 replace hk3 := hk3.tr0 c4
 clear e3
 refine aI rfl <| en <| sr rfl <| mP rfl <| fa T.fld38_3 rfl <| lL T.one36 rfl (hb5.cell rfl) <| mI rfl ?_
 obtain ⟨lb10, _, vs9, hA6, hR8, hC7⟩ := hk3.at (i := i) (x := k) (hi)
 obtain rfl : vs9 = [.int .i64 k] := hR8
 refine Wp rfl <| st_indexAddr T.u36 T.size3 (congrArg (fun z => Value.slice z _ _) hA6) rfl (by omega) (by omega) <| lI T.one3 rfl (hC7.at (j := 0) rfl) <| Wp rfl <| st_call (ags := [_, _]) rfl rfl T.ent15 rfl (hrun _ hm) ?_
 rintro v9 w11 ⟨rfl, hm2, c12⟩
 replace HC := HC.trans c12 (by intro x hx; simp only [List.mem_singleton] at hx; subst hx; exact .inl (by simp))
 replace hb5 := hb5.tr1 c12 (by omega)
 refine aI rfl <| en <| x_ret <| ret_tmp (v := .int _ _) rfl rfl ?_
 exact ⟨rfl, hm2, HC⟩

theorem hm_mono {w : World} {b : Nat} {Al : Option Addr} {capl : Nat} {l : List Nd} {vs : List Vr} {e : Int} {D1 D2 : Nat → Prop} (h : ∃ Av cv, Blk w b [.slice Al l.length capl, .slice Av vs.length cv, .int .i64 e] 49 ∧ Sl ndE w D1 Al l ∧ Sl prE w D2 Av vs ∧ (vs = [] → True)) (h1 : ∀ k, D1 k → k ≠ b := by intro k hk; first | exact hk | exact hk.1) (h2 : ∀ k, D2 k → k ≠ b := by intro k hk; first | exact hk | exact hk.1) : MaAt w b Al capl l vs e := by
  obtain ⟨Av, cv, q1, q2, q3, q4⟩ := h; exact ⟨Av, cv, q1, q2.mono (fun k _ hk => h1 k hk), q3.mono (fun k _ hk => h2 k hk), q4⟩

theorem run_step (n b : Nat) (Al : Option Addr) (capl : Nat) (l : List Nd) (hll : l.length ≤ 1000000) (ih : ∀ (t : Tr) (p : Nat) (vs : List Vr) (r : Rs) (w : World), t.sz ≤ n → t.ok → SubAt l t p → p + t.sz ≤ l.length → MaAt w b Al capl l vs 0 → VK vs → vs.length + t.sz ≤ 100000000 → runV t vs = some r → CallR Tryz.prog 15 #[.pointer (some ⟨b, 0, none⟩), .int .i64 (t.root p)] w (PostM b Al capl l r w)) (t : Tr) (p : Nat) (vs : List Vr) (r : Rs) (w : World) (hn : t.sz ≤ n + 1) (hok : t.ok) (hsub : SubAt l t p) (hpl : p + t.sz ≤ l.length) (hm : MaAt w b Al capl l vs 0) (hvk : VK vs) (hvl : vs.length + t.sz ≤ 100000000) (hr : runV t vs = some r) : CallR Tryz.prog 15 #[.pointer (some ⟨b, 0, none⟩), .int .i64 (t.root p)] w (PostM b Al capl l r w) := by
 obtain ⟨Av, cv, hb, hl, hv, hA⟩ := hm
 replace hl := hl.mono (D' := fun k => k ≠ b ∧ k < w.heap.size) (fun k hk hD => ⟨hD, hk⟩)
 replace hv := hv.mono (D' := fun k => k ≠ b ∧ k < w.heap.size) (fun k hk hD => ⟨hD, hk⟩)
 have hnode := sub_node hsub
 have hkids := sub_kid hsub hok
 have hop3 := node_op t p hok
 have hsp := t.sz_pos
 rw [runV_node t p] at hr
 unfold evalN at hr
 refine callR_of_wp (args := [_, _]) Tryz.func15 rfl (Nat.le_of_ble_eq_true rfl) ?_
 have HC : Chg [b] w w := .refl _
 refine sr rfl <| aI rfl <| en <| x_seq <| sr rfl <| mP rfl <| nc rfl <| fa T.fld49_2 rfl <| lI T.one25 rfl (hb.cell rfl) <| Wp rfl <| st_neq rfl rfl <| en <| x_cond rfl (fun h0 => ?_) (fun h0 => ?_)
 ·try simp only [nm, ne_eq] at h0
  first | exact absurd rfl h0 | exact absurd trivial h0
 ·try simp only [nm, ne_eq] at h0
  refine x_skip <| then_n <| sr rfl <| mP rfl <| nc rfl <| fa T.fld49_0 rfl <| lL T.one32 rfl (hb.cell rfl) <| mI rfl ?_
  obtain ⟨lb5, _, vs4, hA1, hR3, hC2⟩ := hl.at (i := (p + t.sz - 1)) (x := (t.node p)) (hnode)
  obtain ⟨K6, cK6, rfl, hk1_6, hk2_6, hk3_6⟩ := hR3
  refine Wp rfl <| st_indexAddr T.u32 T.size38 (congrArg (fun z => Value.slice z _ _) hA1) rfl (by unfold Tr.root; omega) (by unfold Tr.root; omega) <| Wp rfl <| st_loadA (vs := [_, _, _, _]) T.agg38 rfl hC2 rfl <| Wp rfl <| st_alloc T.zero38 ?_
  intro b5 w7 e8 c9 hb10
  have ge_b5 : w.heap.size ≤ b5 := by rw [e8]; exact HC.size
  have ne_b_b5 : b ≠ b5 := by rw [e8]; exact hb.ne_size
  replace HC := HC.then c9
  replace hb := hb.tr0 c9
  replace hl := hl.tr0 c9
  replace hv := hv.tr0 c9
  replace hk3_6 := hk3_6.tr0 c9
  clear e8
  refine Wp rfl <| st_store (v := .agg ⟨[S _, .int _ _, S _, .slice _ _ _]⟩) T.size38 rfl rfl rfl hb10 rfl (Nat.le_of_ble_eq_true rfl) (by simp [Value.oneCell', S]) rfl ?_
  intro w11 c12 hb13; simp only [setVs, setV] at hb13
  clear hb10
  replace HC := HC.then1 c12 ge_b5
  replace hb := hb.tr1 c12 ne_b_b5
  replace hl := hl.tr c12 (by intro k hx hD; obtain rfl := List.mem_singleton.1 hx; first | exact hD rfl | exact hD.1 rfl | (have hD2 := hD.2; omega))
  replace hv := hv.tr c12 (by intro k hx hD; obtain rfl := List.mem_singleton.1 hx; first | exact hD rfl | exact hD.1 rfl | (have hD2 := hD.2; omega))
  replace hk3_6 := hk3_6.tr c12 (by intro k hx hD; obtain rfl := List.mem_singleton.1 hx; first | exact hD rfl | exact hD.1 rfl | (have hD2 := hD.2; omega))
  refine en <| x_seq <| x_seq ?_
  have hkl := hk1_6
  have hkc := hk2_6
  have hK0 : ∀ k, (k ≠ b ∧ k < w.heap.size) → k ≠ b := fun k h => h.1
  refine x_region rfl <| fa T.fld38_0 rfl <| lS T.one9 rfl (hb13.cell rfl) <| en <| x_block <| sr rfl <| Wp rfl <| st_seql rfl rfl <| aB rfl <| en <| x_cond rfl (fun h1 => ?_) (fun h1 => ?_)
  ·try simp only [nm, ne_eq] at h1
   rw [if_pos h1] at hr
   refine x_seq ?_
   obtain rfl := Option.some.inj hr
   refine x_region rfl <| fa T.fld38_1 rfl <| lI T.one2 rfl (hb13.cell rfl) <| aI rfl <| en <| x_ret <| block_r <| then_r <| ret_tmp (v := .int _ _) rfl rfl ?_
   try obtain rfl := Option.some.inj hr
   exact ⟨rfl, hm_mono ⟨_, _, hb, hl, hv, hA⟩, HC⟩
  ·try simp only [nm, ne_eq] at h1
   rw [if_neg h1] at hr
   refine sr rfl <| Wp rfl <| st_seql rfl rfl <| aB rfl <| en <| x_cond rfl (fun h2 => ?_) (fun h2 => ?_)
   ·try simp only [nm, ne_eq] at h2
    rw [if_pos h2] at hr
    refine x_seq ?_
    obtain rfl := Option.some.inj hr
    refine x_region rfl <| mP rfl <| fa T.fld38_2 rfl <| lS T.one9 rfl (hb13.cell rfl) <| Wp rfl <| st_call (ags := [_, _]) rfl rfl T.ent25 rfl (get_spec _ hb (hv.mono (fun k _ hD => hD.1)) hvk.1 (by omega) hvk.2) ?_
    rintro _ w14 ⟨rfl, hb1, c15⟩
    replace HC := HC.trans c15 (by intro x hx; simp only [List.mem_singleton] at hx; subst hx; exact .inl (by simp))
    replace hl := hl.tr c15 (by intro k hx hD; obtain rfl := List.mem_singleton.1 hx; first | exact hD rfl | exact hD.1 rfl | (have hD2 := hD.2; omega))
    replace hv := hv.tr c15 (by intro k hx hD; obtain rfl := List.mem_singleton.1 hx; first | exact hD rfl | exact hD.1 rfl | (have hD2 := hD.2; omega))
    replace hk3_6 := hk3_6.tr c15 (by intro k hx hD; obtain rfl := List.mem_singleton.1 hx; first | exact hD rfl | exact hD.1 rfl | (have hD2 := hD.2; omega))
    replace hb13 := hb13.tr1 c15 (Ne.symm ne_b_b5)
    refine aI rfl <| en <| x_ret <| block_r <| then_r <| ret_tmp (v := .int _ _) rfl rfl ?_
    try obtain rfl := Option.some.inj hr
    exact ⟨rfl, hm_mono ⟨_, _, hb1, hl, hv, hA⟩, HC⟩
   ·try simp only [nm, ne_eq] at h2
    rw [if_neg h2] at hr
    refine x_skip <| block_n <| then_n <| sr rfl <| mP rfl <| Wp rfl <| st_loadA (vs := [_, _, _, _]) T.agg38 rfl (hb13.cells (n := 4) (vs := [_, _, _, _]) rfl) rfl ?_
    obtain ⟨r0, hk0, hr⟩ := obind hr
    obtain ⟨c0, hc0, hv0⟩ := kid_of hk0
    obtain ⟨hs10, hs20, hs30, hs40, _⟩ := hkids c0 (List.mem_of_getElem? hc0)
    refine w_plain rfl (st_call (ags := [_, _, _]) rfl rfl T.ent26 rfl (kid_spec (i := 0) (x := t.node p) (r := r0) (D := fun k => k ≠ b) (hm_mono ⟨_, _, hb, hl, hv, hA⟩) ⟨_, _, rfl, hkl, hkc, hk3_6.mono (fun k hk hD => hK0 k hD)⟩ (by rw [node_kids, List.getElem?_map, hc0]; rfl) (fun W hW => ih c0.1 c0.2 _ _ W (by omega) hs40 hs10 (by omega) hW hvk (by omega) hv0)) ?_)
    rintro _ w16 ⟨rfl, ⟨Av0, cv0, hb0, hl0, hv0x, hA0⟩, c17⟩
    replace HC := HC.trans c17 (by intro x hx; simp only [List.mem_singleton] at hx; subst hx; exact .inl (by simp))
    replace hk3_6 := hk3_6.tr c17 (by intro k hx hD; obtain rfl := List.mem_singleton.1 hx; first | exact hD rfl | exact hD.1 rfl | (have hD2 := hD.2; omega))
    replace hb13 := hb13.tr1 c17 (Ne.symm ne_b_b5)
    obtain ⟨hvk0, hln0⟩ := runV_vk c0.1 _ _ hv0 hvk
    refine aI rfl <| en <| x_seq <| x_block <| sr rfl <| mP rfl <| nc rfl <| fa T.fld49_2 rfl <| lI T.one25 rfl (hb0.cell rfl) <| Wp rfl <| st_neq rfl rfl <| aB rfl <| en <| x_cond rfl (fun h3 => ?_) (fun h3 => ?_)
    ·try simp only [nm, ne_eq] at h3
     rw [if_pos h3] at hr
     obtain rfl := Option.some.inj hr
     refine sr rfl <| aI rfl <| en <| x_ret <| block_r <| then_r <| ret_tmp (v := .int _ _) rfl rfl ?_
     try obtain rfl := Option.some.inj hr
     exact ⟨rfl, hm_mono ⟨_, _, hb0, hl0, hv0x, hA0⟩, HC⟩
    ·try simp only [nm, ne_eq] at h3
     have h30 : r0.2.2 = 0 := by omega
     rw [if_neg (fun h => h h30)] at hr
     rw [h30] at hb0
     refine sr rfl <| fa T.fld38_2 rfl <| lS T.one9 rfl (hb13.cell rfl) <| Wp rfl <| st_sneq rfl rfl <| aB rfl <| en <| x_cond rfl (fun h4 => ?_) (fun h4 => ?_)
     ·try simp only [nm, ne_eq] at h4
      rw [if_pos (by simpa using h4)] at hr
      refine sr rfl <| mP rfl <| Wp rfl <| st_loadA (vs := [_, _, _, _]) T.agg38 rfl (hb13.cells (n := 4) (vs := [_, _, _, _]) rfl) rfl <| mI rfl <| Wp rfl <| st_call (ags := [_, _, _]) rfl rfl T.ent27 rfl (massign_spec (x := t.node p) (D := fun k => k ≠ b) (hm_mono ⟨_, _, hb0, hl0, hv0x, hA0⟩) ⟨_, _, rfl, hkl, hkc, hk3_6.mono (fun k hk hD => hK0 k hD)⟩ hvk0 (by omega) (by omega) hr) ?_
      rintro _ w18 ⟨rfl, hmA, c19⟩
      replace HC := HC.trans c19 (by intro x hx; simp only [List.mem_singleton] at hx; subst hx; exact .inl (by simp))
      replace hk3_6 := hk3_6.tr c19 (by intro k hx hD; obtain rfl := List.mem_singleton.1 hx; first | exact hD rfl | exact hD.1 rfl | (have hD2 := hD.2; omega))
      replace hb13 := hb13.tr1 c19 (Ne.symm ne_b_b5)
      refine aI rfl <| en <| x_ret <| block_r <| then_r <| ret_tmp (v := .int _ _) rfl rfl ?_
      exact ⟨rfl, hmA, HC⟩
     ·try simp only [nm, ne_eq] at h4
      rw [if_neg (by simpa using h4)] at hr
      refine sr rfl <| fa T.fld38_0 rfl <| lS T.one9 rfl (hb13.cell rfl) <| Wp rfl <| st_seql rfl rfl <| aB rfl <| en <| x_cond rfl (fun h5 => ?_) (fun h5 => ?_)
      ·try simp only [nm, ne_eq] at h5
       rw [if_pos h5] at hr
       refine x_seq ?_
       obtain rfl := Option.some.inj hr
       refine x_region rfl <| mI rfl <| aI rfl <| en <| x_ret <| block_r <| then_r <| ret_tmp (v := .int _ _) rfl rfl ?_
       try obtain rfl := Option.some.inj hr
       exact ⟨rfl, hm_mono ⟨_, _, hb0, hl0, hv0x, hA0⟩, HC⟩
      ·try simp only [nm, ne_eq] at h5
       rw [if_neg h5] at hr
       refine sr rfl <| fa T.fld38_0 rfl <| lS T.one9 rfl (hb13.cell rfl) <| Wp rfl <| st_seql rfl rfl <| aB rfl <| en <| x_cond rfl (fun h6 => ?_) (fun h6 => ?_)
       ·try simp only [nm, ne_eq] at h6
        rw [if_pos h6] at hr
        refine x_seq ?_
        obtain rfl := Option.some.inj hr
        refine x_region rfl <| mI rfl <| Wp rfl <| st_neg rfl <| aI rfl <| en <| x_ret <| block_r <| then_r <| ret_tmp (v := .int _ _) rfl rfl ?_
        try obtain rfl := Option.some.inj hr
        exact ⟨rfl, hm_mono ⟨_, _, hb0, hl0, hv0x, hA0⟩, HC⟩
       ·try simp only [nm, ne_eq] at h6
        rw [if_neg h6] at hr
        refine sr rfl <| fa T.fld38_0 rfl <| lS T.one9 rfl (hb13.cell rfl) <| Wp rfl <| st_seql rfl rfl <| aB rfl <| en <| x_cond rfl (fun h7 => ?_) (fun h7 => ?_)
        ·try simp only [nm, ne_eq] at h7
         rw [if_pos h7] at hr
         refine x_seq ?_
         obtain rfl := Option.some.inj hr
         refine x_region rfl <| mI rfl <| Wp rfl <| st_eql rfl rfl <| Wp rfl <| st_call (ags := [_]) rfl rfl T.ent28 rfl (truth_spec _ _) ?_
         rintro _ w20 ⟨rfl, c21⟩
         replace HC := HC.then c21
         replace hk3_6 := hk3_6.tr0 c21
         replace hb13 := hb13.tr0 c21
         replace hb0 := hb0.tr0 c21
         replace hl0 := hl0.tr0 c21
         replace hv0x := hv0x.tr0 c21
         refine aI rfl <| en <| x_ret <| block_r <| then_r <| ret_tmp (v := .int _ _) rfl rfl ?_
         try obtain rfl := Option.some.inj hr
         exact ⟨rfl, hm_mono ⟨_, _, hb0, hl0, hv0x, hA0⟩, HC⟩
        ·try simp only [nm, ne_eq] at h7
         rw [if_neg h7] at hr
         refine sr rfl <| fa T.fld38_0 rfl <| lS T.one9 rfl (hb13.cell rfl) <| Wp rfl <| st_seql rfl rfl <| aB rfl <| en <| x_cond rfl (fun h8 => ?_) (fun h8 => ?_)
         ·try simp only [nm, ne_eq] at h8
          rw [if_pos h8] at hr
          refine x_seq ?_
          obtain rfl := Option.some.inj hr
          refine x_region rfl <| mI rfl <| Wp rfl <| st_bnot rfl <| aI rfl <| en <| x_ret <| block_r <| then_r <| ret_tmp (v := .int _ _) rfl rfl ?_
          try obtain rfl := Option.some.inj hr
          exact ⟨rfl, hm_mono ⟨_, _, hb0, hl0, hv0x, hA0⟩, HC⟩
         ·try simp only [nm, ne_eq] at h8
          rw [if_neg h8] at hr
          refine sr rfl <| fa T.fld38_0 rfl <| lS T.one9 rfl (hb13.cell rfl) <| Wp rfl <| st_seql rfl rfl <| mB rfl <| w_split (d := 76) rfl (fun g22 => ?_) (fun g22 => ?_)
          ·try simp only [nm, ne_eq] at g22
           rw [if_pos (by assumption)] at hr
           refine w_yes 3 76 true <| st_move (v := .int _ _) rfl <| w_yes 3 76 true <| st_neq rfl rfl <| pT rfl rfl <| aB rfl <| en <| x_cond rfl (fun h9 => ?_) (fun h9 => ?_)
           ·try simp only [nm, ne_eq] at h9
            rw [if_pos h9] at hr
            refine sr rfl <| mP rfl <| Wp rfl <| st_loadA (vs := [_, _, _, _]) T.agg38 rfl (hb13.cells (n := 4) (vs := [_, _, _, _]) rfl) rfl ?_
            obtain ⟨c1, hc1, hv1⟩ := kid_of hr
            have hss1 := kid_two hc0 hc1 (by decide)
            obtain ⟨hs11, hs21, hs31, hs41, _⟩ := hkids c1 (List.mem_of_getElem? hc1)
            refine w_plain rfl (st_call (ags := [_, _, _]) rfl rfl T.ent26 rfl (kid_spec (i := 1) (x := t.node p) (r := r) (D := fun k => k ≠ b) (hm_mono ⟨_, _, hb0, hl0, hv0x, hA0⟩) ⟨_, _, rfl, hkl, hkc, hk3_6.mono (fun k hk hD => hK0 k hD)⟩ (by rw [node_kids, List.getElem?_map, hc1]; rfl) (fun W hW => ih c1.1 c1.2 _ _ W (by omega) hs41 hs11 (by omega) hW hvk0 (by omega) hv1)) ?_)
            rintro _ w23 ⟨rfl, ⟨Av1, cv1, hb1, hl1, hv1x, hA1⟩, c24⟩
            replace HC := HC.trans c24 (by intro x hx; simp only [List.mem_singleton] at hx; subst hx; exact .inl (by simp))
            replace hk3_6 := hk3_6.tr c24 (by intro k hx hD; obtain rfl := List.mem_singleton.1 hx; first | exact hD rfl | exact hD.1 rfl | (have hD2 := hD.2; omega))
            replace hb13 := hb13.tr1 c24 (Ne.symm ne_b_b5)
            refine aI rfl <| en <| x_ret <| block_r <| then_r <| ret_tmp (v := .int _ _) rfl rfl ?_
            try obtain rfl := Option.some.inj hr
            exact ⟨rfl, hm_mono ⟨_, _, hb1, hl1, hv1x, hA1⟩, HC⟩
           ·try simp only [nm, ne_eq] at h9
            refine sr rfl <| fa T.fld38_0 rfl <| lS T.one9 rfl (hb13.cell rfl) <| Wp rfl <| st_seql rfl rfl <| aB rfl <| en <| x_cond rfl (fun h10 => ?_) (fun h10 => ?_)
            ·try simp only [nm, ne_eq] at h10
             rw [if_neg (by first | assumption | simp_all)] at hr
             refine sr rfl <| mP rfl <| Wp rfl <| st_loadA (vs := [_, _, _, _]) T.agg38 rfl (hb13.cells (n := 4) (vs := [_, _, _, _]) rfl) rfl ?_
             obtain ⟨c2, hc2, hv2⟩ := kid_of hr
             have hss2 := kid_two hc0 hc2 (by decide)
             obtain ⟨hs12, hs22, hs32, hs42, _⟩ := hkids c2 (List.mem_of_getElem? hc2)
             refine w_plain rfl (st_call (ags := [_, _, _]) rfl rfl T.ent26 rfl (kid_spec (i := 2) (x := t.node p) (r := r) (D := fun k => k ≠ b) (hm_mono ⟨_, _, hb0, hl0, hv0x, hA0⟩) ⟨_, _, rfl, hkl, hkc, hk3_6.mono (fun k hk hD => hK0 k hD)⟩ (by rw [node_kids, List.getElem?_map, hc2]; rfl) (fun W hW => ih c2.1 c2.2 _ _ W (by omega) hs42 hs12 (by omega) hW hvk0 (by omega) hv2)) ?_)
             rintro _ w25 ⟨rfl, ⟨Av2, cv2, hb2, hl2, hv2x, hA2⟩, c26⟩
             replace HC := HC.trans c26 (by intro x hx; simp only [List.mem_singleton] at hx; subst hx; exact .inl (by simp))
             replace hk3_6 := hk3_6.tr c26 (by intro k hx hD; obtain rfl := List.mem_singleton.1 hx; first | exact hD rfl | exact hD.1 rfl | (have hD2 := hD.2; omega))
             replace hb13 := hb13.tr1 c26 (Ne.symm ne_b_b5)
             refine aI rfl <| en <| x_ret <| block_r <| then_r <| ret_tmp (v := .int _ _) rfl rfl ?_
             try obtain rfl := Option.some.inj hr
             exact ⟨rfl, hm_mono ⟨_, _, hb2, hl2, hv2x, hA2⟩, HC⟩
            ·try simp only [nm, ne_eq] at h10
             exact absurd (by assumption) h10
          ·try simp only [nm, ne_eq] at g22
           rw [if_neg (by assumption)] at hr
           refine w_no 3 76 true <| w_no 3 76 true <| pF rfl rfl <| aB rfl <| en <| x_cond (t := false) rfl (fun h9 => ?_) (fun h9 => ?_)
           · exact absurd h9 (by decide)
           refine sr rfl <| fa T.fld38_0 rfl <| lS T.one9 rfl (hb13.cell rfl) <| Wp rfl <| st_seql rfl rfl <| aB rfl <| en <| x_cond rfl (fun h10 => ?_) (fun h10 => ?_)
           ·try simp only [nm, ne_eq] at h10
            exact absurd h10 (by assumption)
           ·try simp only [nm, ne_eq] at h10
            refine sr rfl <| fa T.fld38_0 rfl <| lS T.one9 rfl (hb13.cell rfl) <| Wp rfl <| st_seql rfl rfl <| aB rfl <| en <| x_cond rfl (fun h11 => ?_) (fun h11 => ?_)
            ·try simp only [nm, ne_eq] at h11
             rw [if_pos h11] at hr
             refine sr rfl <| mI rfl <| Wp rfl <| st_neq rfl rfl <| mB rfl <| w_split (d := 96) rfl (fun g27 => ?_) (fun g27 => ?_)
             ·try simp only [nm, ne_eq] at g27
              rw [if_pos (by assumption)] at hr
              refine w_yes 2 96 true <| st_move (v := .pointer _) rfl <| w_yes 2 96 true <| st_loadA (vs := [_, _, _, _]) T.agg38 rfl (hb13.cells (n := 4) (vs := [_, _, _, _]) rfl) rfl ?_
              obtain ⟨r3, hk3, hr⟩ := obind hr
              obtain ⟨c3, hc3, hv3⟩ := kid_of hk3
              have hss3 := kid_two hc0 hc3 (by decide)
              obtain ⟨hs13, hs23, hs33, hs43, _⟩ := hkids c3 (List.mem_of_getElem? hc3)
              refine w_yes 2 96 true (st_call (ags := [_, _, _]) rfl rfl T.ent26 rfl (kid_spec (i := 1) (x := t.node p) (r := r3) (D := fun k => k ≠ b) (hm_mono ⟨_, _, hb0, hl0, hv0x, hA0⟩) ⟨_, _, rfl, hkl, hkc, hk3_6.mono (fun k hk hD => hK0 k hD)⟩ (by rw [node_kids, List.getElem?_map, hc3]; rfl) (fun W hW => ih c3.1 c3.2 _ _ W (by omega) hs43 hs13 (by omega) hW hvk0 (by omega) hv3)) ?_)
              rintro _ w28 ⟨rfl, ⟨Av3, cv3, hb3, hl3, hv3x, hA3⟩, c29⟩
              replace HC := HC.trans c29 (by intro x hx; simp only [List.mem_singleton] at hx; subst hx; exact .inl (by simp))
              replace hk3_6 := hk3_6.tr c29 (by intro k hx hD; obtain rfl := List.mem_singleton.1 hx; first | exact hD rfl | exact hD.1 rfl | (have hD2 := hD.2; omega))
              replace hb13 := hb13.tr1 c29 (Ne.symm ne_b_b5)
              obtain ⟨hvk3, hln3⟩ := runV_vk c3.1 _ _ hv3 hvk0
              refine w_yes 2 96 true <| st_neq rfl rfl <| pT rfl rfl <| Wp rfl <| st_call (ags := [_]) rfl rfl T.ent28 rfl (truth_spec _ _) ?_
              rintro _ w30 ⟨rfl, c31⟩
              replace HC := HC.then c31
              replace hk3_6 := hk3_6.tr0 c31
              replace hb13 := hb13.tr0 c31
              replace hb3 := hb3.tr0 c31
              replace hl3 := hl3.tr0 c31
              replace hv3x := hv3x.tr0 c31
              refine aI rfl <| en <| x_ret <| block_r <| then_r <| ret_tmp (v := .int _ _) rfl rfl ?_
              try obtain rfl := Option.some.inj hr
              exact ⟨rfl, hm_mono ⟨_, _, hb3, hl3, hv3x, hA3⟩, HC⟩
             ·try simp only [nm, ne_eq] at g27
              rw [if_neg (fun h => h (by assumption))] at hr
              obtain rfl := Option.some.inj hr
              iterate 4 refine w_no 2 96 true ?_
              refine pF rfl rfl <| Wp rfl <| st_call (ags := [_]) rfl rfl T.ent28 rfl (truth_spec _ _) ?_
              rintro _ w32 ⟨rfl, c33⟩
              replace HC := HC.then c33
              replace hk3_6 := hk3_6.tr0 c33
              replace hb13 := hb13.tr0 c33
              replace hb0 := hb0.tr0 c33
              replace hl0 := hl0.tr0 c33
              replace hv0x := hv0x.tr0 c33
              refine aI rfl <| en <| x_ret <| block_r <| then_r <| ret_tmp (v := .int _ _) rfl rfl ?_
              try obtain rfl := Option.some.inj hr
              exact ⟨rfl, hm_mono ⟨_, _, hb0, hl0, hv0x, hA0⟩, HC⟩
            ·try simp only [nm, ne_eq] at h11
             rw [if_neg h11] at hr
             refine sr rfl <| fa T.fld38_0 rfl <| lS T.one9 rfl (hb13.cell rfl) <| Wp rfl <| st_seql rfl rfl <| aB rfl <| en <| x_cond rfl (fun h12 => ?_) (fun h12 => ?_)
             ·try simp only [nm, ne_eq] at h12
              rw [if_pos h12] at hr
              refine sr rfl <| mI rfl <| Wp rfl <| st_neq rfl rfl <| mB rfl <| w_split (d := 109) rfl (fun g34 => ?_) (fun g34 => ?_)
              ·try simp only [nm, ne_eq] at g34
               rw [if_pos (by assumption)] at hr
               obtain rfl := Option.some.inj hr
               iterate 4 refine w_no 2 109 false ?_
               refine pT rfl rfl <| Wp rfl <| st_call (ags := [_]) rfl rfl T.ent28 rfl (truth_spec _ _) ?_
               rintro _ w35 ⟨rfl, c36⟩
               replace HC := HC.then c36
               replace hk3_6 := hk3_6.tr0 c36
               replace hb13 := hb13.tr0 c36
               replace hb0 := hb0.tr0 c36
               replace hl0 := hl0.tr0 c36
               replace hv0x := hv0x.tr0 c36
               refine aI rfl <| en <| x_ret <| block_r <| then_r <| ret_tmp (v := .int _ _) rfl rfl ?_
               try obtain rfl := Option.some.inj hr
               exact ⟨rfl, hm_mono ⟨_, _, hb0, hl0, hv0x, hA0⟩, HC⟩
              ·try simp only [nm, ne_eq] at g34
               rw [if_neg (fun h => h (by assumption))] at hr
               refine w_yes 2 109 false <| st_move (v := .pointer _) rfl <| w_yes 2 109 false <| st_loadA (vs := [_, _, _, _]) T.agg38 rfl (hb13.cells (n := 4) (vs := [_, _, _, _]) rfl) rfl ?_
               obtain ⟨r4, hk4, hr⟩ := obind hr
               obtain ⟨c4, hc4, hv4⟩ := kid_of hk4
               have hss4 := kid_two hc0 hc4 (by decide)
               obtain ⟨hs14, hs24, hs34, hs44, _⟩ := hkids c4 (List.mem_of_getElem? hc4)
               refine w_yes 2 109 false (st_call (ags := [_, _, _]) rfl rfl T.ent26 rfl (kid_spec (i := 1) (x := t.node p) (r := r4) (D := fun k => k ≠ b) (hm_mono ⟨_, _, hb0, hl0, hv0x, hA0⟩) ⟨_, _, rfl, hkl, hkc, hk3_6.mono (fun k hk hD => hK0 k hD)⟩ (by rw [node_kids, List.getElem?_map, hc4]; rfl) (fun W hW => ih c4.1 c4.2 _ _ W (by omega) hs44 hs14 (by omega) hW hvk0 (by omega) hv4)) ?_)
               rintro _ w37 ⟨rfl, ⟨Av4, cv4, hb4, hl4, hv4x, hA4⟩, c38⟩
               replace HC := HC.trans c38 (by intro x hx; simp only [List.mem_singleton] at hx; subst hx; exact .inl (by simp))
               replace hk3_6 := hk3_6.tr c38 (by intro k hx hD; obtain rfl := List.mem_singleton.1 hx; first | exact hD rfl | exact hD.1 rfl | (have hD2 := hD.2; omega))
               replace hb13 := hb13.tr1 c38 (Ne.symm ne_b_b5)
               obtain ⟨hvk4, hln4⟩ := runV_vk c4.1 _ _ hv4 hvk0
               refine w_yes 2 109 false <| st_neq rfl rfl <| pF rfl rfl <| Wp rfl <| st_call (ags := [_]) rfl rfl T.ent28 rfl (truth_spec _ _) ?_
               rintro _ w39 ⟨rfl, c40⟩
               replace HC := HC.then c40
               replace hk3_6 := hk3_6.tr0 c40
               replace hb13 := hb13.tr0 c40
               replace hb4 := hb4.tr0 c40
               replace hl4 := hl4.tr0 c40
               replace hv4x := hv4x.tr0 c40
               refine aI rfl <| en <| x_ret <| block_r <| then_r <| ret_tmp (v := .int _ _) rfl rfl ?_
               try obtain rfl := Option.some.inj hr
               exact ⟨rfl, hm_mono ⟨_, _, hb4, hl4, hv4x, hA4⟩, HC⟩
             ·try simp only [nm, ne_eq] at h12
              rw [if_neg h12] at hr
              refine x_skip <| block_n <| then_n <| x_seq <| x_draw [(0, 0), (1, 0), (2, 0), (3, 0), (4, 0), (5, 0), (6, 1), (7, 1), (8, 0)] T.mixed rfl rfl rfl (fun W => W.heap[b5]? = w16.heap[b5]? ∧ True) ⟨rfl, trivial⟩ ?_
              have o43 := hb13
              have c42 := Chg.drew w16
              generalize World.drew w16 = w41 at c42 ⊢
              replace HC := HC.then c42
              replace hk3_6 := hk3_6.tr0 c42
              replace hb13 := hb13.tr0 c42
              replace hb0 := hb0.tr0 c42
              replace hl0 := hl0.tr0 c42
              replace hv0x := hv0x.tr0 c42
              refine sq_q rfl (fun W hT => r_move (v := .pointer _) rfl) <| sq_q rfl (fun W hT => r_fieldAddr T.fld38_0 rfl) <| sq_q rfl (fun W hT => r_load1 (v := S _) T.one9 rfl (Blk.cell (show Blk W b5 _ _ from hT.1.trans o43) rfl)) <| sq_q rfl (fun W hT => r_move (v := .int _ _) rfl) <| sq_q rfl (fun W hT => r_move (v := .pointer _) rfl) <| sq_q rfl (fun W hT => r_loadA (vs := [_, _, _, _]) T.agg38 rfl (Blk.cells (n := 4) (vs := [_, _, _, _]) (show Blk W b5 _ _ from hT.1.trans o43) rfl) rfl) ?_
              obtain ⟨r5, hk5, hr⟩ := obind hr
              obtain ⟨c5, hc5, hv5⟩ := kid_of hk5
              have hss5 := kid_two hc0 hc5 (by decide)
              obtain ⟨hs15, hs25, hs35, hs45, _⟩ := hkids c5 (List.mem_of_getElem? hc5)
              refine sq_call1 rfl (r_call (ags := [_, _, _]) rfl rfl T.ent26 rfl) (kid_spec (i := 1) (x := t.node p) (r := r5) (D := fun k => k ≠ b) (hm_mono ⟨_, _, hb0, hl0, hv0x, hA0⟩) ⟨_, _, rfl, hkl, hkc, hk3_6.mono (fun k hk hD => hK0 k hD)⟩ (by rw [node_kids, List.getElem?_map, hc5]; rfl) (fun W hW => ih c5.1 c5.2 _ _ W (by omega) hs45 hs15 (by omega) hW hvk0 (by omega) hv5)) ?_
              rintro _ w44 ⟨rfl, ⟨Av5, cv5, hb5x, hl5, hv5x, hA5⟩, c45⟩
              replace HC := HC.trans c45 (by intro x hx; simp only [List.mem_singleton] at hx; subst hx; exact .inl (by simp))
              replace hk3_6 := hk3_6.tr c45 (by intro k hx hD; obtain rfl := List.mem_singleton.1 hx; first | exact hD rfl | exact hD.1 rfl | (have hD2 := hD.2; omega))
              replace hb13 := hb13.tr1 c45 (Ne.symm ne_b_b5)
              obtain rfl := Option.some.inj hr
              refine ⟨_, fun _ h => h, ⟨(Eq.trans hb13 o43.symm), trivial⟩, ?_⟩
              refine sq_call1 rfl (r_call (ags := [_, _, _, _]) rfl rfl T.ent29 rfl) (mapply_spec _ _ _ hb5x) ?_
              rintro _ w46 ⟨rfl, hb6x, c47⟩
              replace HC := HC.trans c47 (by intro x hx; simp only [List.mem_singleton] at hx; subst hx; exact .inl (by simp))
              replace hk3_6 := hk3_6.tr c47 (by intro k hx hD; obtain rfl := List.mem_singleton.1 hx; first | exact hD rfl | exact hD.1 rfl | (have hD2 := hD.2; omega))
              replace hb13 := hb13.tr1 c47 (Ne.symm ne_b_b5)
              replace hl5 := hl5.tr c47 (by intro k hx hD; obtain rfl := List.mem_singleton.1 hx; first | exact hD rfl | exact hD.1 rfl | (have hD2 := hD.2; omega))
              replace hv5x := hv5x.tr c47 (by intro k hx hD; obtain rfl := List.mem_singleton.1 hx; first | exact hD rfl | exact hD.1 rfl | (have hD2 := hD.2; omega))
              refine ⟨_, fun _ h => h, ⟨(Eq.trans hb13 o43.symm), trivial⟩, ?_⟩
              refine sq_q rfl (fun W hT => r_assign (v := .int _ _) rfl) ?_
              clear o43
              refine sq_nil <| then_n <| x_ret <| ret_tmp (v := .int _ _) rfl rfl ?_
              try obtain rfl := Option.some.inj hr
              exact ⟨rfl, hm_mono ⟨_, _, hb6x, hl5, hv5x, hA5⟩, HC⟩

end Go.Proofs.YtmbbhgglllfelaaGreatDoor.K
set_option linter.unusedVariables false
set_option linter.unusedSimpArgs false
set_option autoImplicit false
set_option maxRecDepth 20000
namespace Go.Proofs.YtmbbhgglllfelaaGreatDoor.K
open Go Go.Proofs Go.RowKit

theorem take_snoc {α : Type} {l : List α} {i : Nat} {x : α} (h : l[i]? = some x) : l.take i ++ [x] = l.take (i + 1) := by rw [List.take_add_one, h]; rfl
end Go.Proofs.YtmbbhgglllfelaaGreatDoor.K
