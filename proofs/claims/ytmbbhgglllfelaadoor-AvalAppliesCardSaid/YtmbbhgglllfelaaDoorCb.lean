/- Reading expressions: the reader's methods. -/
import Derived.Test.YtmbbhgglllfelaaDoorCa
import Derived.Test.YtmbbhgglllfelaaDoorKitN
set_option linter.unusedVariables false
set_option linter.unusedSimpArgs false
set_option autoImplicit false
set_option maxRecDepth 20000
namespace Go.Proofs.YtmbbhgglllfelaaDoor.K
open Go Go.Proofs Go.RowKit

theorem Tab.trP {M : Nat → Prop} {w w' : World} (h : Tab w) (hc : ChgP M w w') (hb : ¬ M 1) : Tab w' := by
  have he := hc.block 1 h.lt hb
  unfold Tab Lib.TabIs World.var? at *
  simp only [gTab, Option.bind_some] at *
  rw [he]; exact h
theorem ndE_tr {w w' : World} {D : Nat → Prop} {x : Nd} {vs : List Value} (h : ndE.R w D x vs) (c : Chg [] w w') : ndE.R w' D x vs := ndE.tr h (fun k hk _ => c.block k hk (by simp)) c.size
theorem ndE_tr1 {w w' : World} {D : Nat → Prop} {x : Nd} {vs : List Value} {g : Nat} (h : ndE.R w D x vs) (c : Chg [g] w w') (hg : ¬ D g) : ndE.R w' D x vs := ndE.tr h (fun k hk hD => c.block k hk (by intro hx; rw [List.mem_singleton] at hx; subst hx; exact hg hD)) c.size
/-- What a reader's methods are called with. -/
structure RPre (D Dt : Nat → Prop) (w : World) (b : Nat) (ts : List Tk) (out : List Nd) (d : Nat) (pl : Int) : Prop where
  fr : ∀ k, w.heap.size ≤ k → D k
  nb : ¬ D b
  dt : ∀ k, Dt k → ¬ D k ∧ k ≠ b
  st : RdAt D Dt w b ts out d pl 0
  wf : WfT ts
  hd : d ≤ 64
  len : out.length + ts.length ≤ 1000000000
  tab : Tab w
  one : ¬ D 1
  two : 1 ≠ b
theorem bind_some {x : Option PR} {g : Int → List Tk → List Nd → Option PR} {r : PR} (h : PR.bind x g = some r) : ∃ ri, x = some ri ∧ (match ri with | .bad e a => r = .bad e a | .good k ts out => g k ts out = some r) := by
  cases x with
  | none => cases h
  | some ri =>
    refine ⟨ri, rfl, ?_⟩
    cases ri with
    | bad e a => exact (Option.some.inj h).symm
    | good k ts out => exact h
theorem in_iff {x : Tk} {tl : List Tk} {l : List Bytes} : inOp (x :: tl) l = true ↔ x.1.1 = 3 ∧ x.1.2.2 ∈ l := by
  simp [inOp, hdT]

theorem want_spec {Dt : Nat → Prop} {w : World} {b : Nat} {x : Tk} {tl : List Tk} {At Ao : Option Addr} {no capt capo : Nat} {deep pl e : Int} (o : Bytes) (hb : Blk w b [.slice At (x :: tl).length capt, .slice Ao no capo, .int .i64 deep, .int .i64 pl, .int .i64 e] 64) (hs : Sl tkE w Dt At (x :: tl)) (hDtb : ¬ Dt b) (hDtn : ∀ k, w.heap.size ≤ k → ¬ Dt k) (hct : (x :: tl).length ≤ capt) :
    CallR Tryd.prog 68 #[.pointer (some ⟨b, 0, none⟩), S o] w fun v w' => v = .tuple ⟨[]⟩ ∧ (((e = 0 ∧ x.1.1 = 3 ∧ x.1.2.2 ∈ [o]) ∧ ∃ At' capt', Blk w' b [.slice At' tl.length capt', .slice Ao no capo, .int .i64 deep, .int .i64 pl, .int .i64 e] 64 ∧ Sl tkE w' Dt At' tl ∧ tl.length ≤ capt') ∨ (¬ (e = 0 ∧ x.1.1 = 3 ∧ x.1.2.2 ∈ [o]) ∧ Blk w' b [.slice At (x :: tl).length capt, .slice Ao no capo, .int .i64 deep, .int .i64 (if e = 0 then x.2 else pl), .int .i64 (if e = 0 then 101 else e)] 64 ∧ Sl tkE w' Dt At (x :: tl))) ∧ Chg [b] w w' := by
 refine callR_of_wp (args := [_, _]) Tryd.func68 rfl (Nat.le_of_ble_eq_true rfl) ?_
 have HC : Chg [b] w w := .refl _
 refine sr rfl <| mP rfl <| mS rfl <| Wp rfl <| st_lit (ps := [(0, .tmp 8)]) (vs := [S _]) T.lit92 (by decide) rfl (by simp only [List.forall_mem_cons, List.not_mem_nil, false_imp_iff, implies_true, and_true]; exact rfl) rfl ?_
 intro b1 w2 e3 c4 hb5
 have ge_b1 : w.heap.size ≤ b1 := by rw [e3]; exact HC.size
 have ne_b_b1 : b ≠ b1 := by rw [e3]; exact hb.ne_size
 replace HC := HC.then c4
 replace hb := hb.tr0 c4
 replace hs := hs.tr0 c4
 clear e3
 refine Wp rfl <| st_call (ags := [_, _]) rfl rfl T.ent67 rfl (take_spec (x := x) (tl := tl) (l := [o]) hb hs hDtb (fun k hk => hDtn k (Nat.le_trans HC.size hk)) hct (Sl.of_one (c := sE) (x := o) (D := fun _ => True) hb5 rfl trivial) (by first | decide | (simp; done) | exact lv_len _)) ?_
 rintro _ w6 ⟨(⟨hC7, rfl, At7, capt7, hb7, hs7, hct7⟩ | ⟨hC7, rfl, hb7, hs7⟩), c7⟩
 ·replace HC := HC.trans c7 (by intro x hx; simp only [List.mem_singleton] at hx; subst hx; exact .inl (by simp))
  replace hb5 := hb5.tr1 c7 (Ne.symm ne_b_b1)
  refine mv (v := .tuple ⟨[_, _]⟩) rfl <| Wp rfl <| st_extract (vs := [_, _]) (v := S _) rfl rfl <| Wp rfl <| st_extract (vs := [_, _]) (v := .bool _) rfl rfl <| aS rfl <| aB rfl <| en <| sr rfl <| mB rfl <| Wp rfl <| st_not rfl <| en <| x_cond rfl (fun h0 => ?_) (fun h0 => ?_)
  ·try simp only [nm, ne_eq] at h0
   cases h0
  ·try simp only [nm, ne_eq] at h0
   refine x_skip <| ret_none_n rfl ?_
   exact ⟨rfl, .inl ⟨hC7, _, _, hb7, hs7, hct7⟩, HC⟩
 ·replace HC := HC.trans c7 (by intro x hx; simp only [List.mem_singleton] at hx; subst hx; exact .inl (by simp))
  replace hb5 := hb5.tr1 c7 (Ne.symm ne_b_b1)
  refine mv (v := .tuple ⟨[_, _]⟩) rfl <| Wp rfl <| st_extract (vs := [_, _]) (v := S _) rfl rfl <| Wp rfl <| st_extract (vs := [_, _]) (v := .bool _) rfl rfl <| aS rfl <| aB rfl <| en <| sr rfl <| mB rfl <| Wp rfl <| st_not rfl <| en <| x_cond rfl (fun h0 => ?_) (fun h0 => ?_)
  ·try simp only [nm, ne_eq] at h0
   refine x_region rfl <| mP rfl <| Wp rfl <| st_call (ags := [_, _]) rfl rfl T.ent46 rfl (fail_spec 101 hb7 hs7 hDtb (fun k hk => hDtn k (Nat.le_trans HC.size hk))) ?_
   rintro _ w8 ⟨rfl, hb9, c9⟩
   replace HC := HC.trans c9 (by intro x hx; simp only [List.mem_singleton] at hx; subst hx; exact .inl (by simp))
   replace hb5 := hb5.tr1 c9 (Ne.symm ne_b_b1)
   replace hs7 := hs7.tr c9 (by intro k hx hD; obtain rfl := List.mem_singleton.1 hx; first | exact hDtb hD | exact absurd hD (hDtn _ ge_b))
   refine wops_nil <| ret_none_n rfl ?_
   exact ⟨rfl, .inr ⟨hC7, hb9, hs7⟩, HC⟩
  ·try simp only [nm, ne_eq] at h0
   cases h0

theorem put_spec {D : Nat → Prop} {w : World} {b : Nat} {out : List Nd} {At Ao : Option Addr} {nt capt capo : Nat} {deep pl e : Int} {x : Nd} {vs : List Value} (hfr0 : ∀ k, w.heap.size ≤ k → D k) (hDb : ¬ D b) (hb : Blk w b [.slice At nt capt, .slice Ao out.length capo, .int .i64 deep, .int .i64 pl, .int .i64 e] 64) (ho : Own ndE 72 w D Ao capo out) (hx : ndE.R w (fun k => D k ∧ k ∉ ob Ao) x vs) (hlen : out.length ≤ 1000000000) :
    CallR Tryd.prog 56 #[.pointer (some ⟨b, 0, none⟩), .agg ⟨vs⟩] w fun v w' => v = .int .i64 (out.length : Int) ∧ (∃ Ao' capo', Blk w' b [.slice At nt capt, .slice Ao' (out ++ [x]).length capo', .int .i64 deep, .int .i64 pl, .int .i64 e] 64 ∧ Own ndE 72 w' D Ao' capo' (out ++ [x])) ∧ Chg (b :: ob Ao) w w' := by
 obtain ⟨K, cx, rfl, hk1, hk2, hk3⟩ := hx
 replace hx : ndE.R w (fun k => D k ∧ k ∉ ob Ao) x _ := ⟨K, cx, rfl, hk1, hk2, hk3⟩
 refine callR_of_wp (args := [_, _]) Tryd.func56 rfl (Nat.le_of_ble_eq_true rfl) ?_
 have HC : Chg (b :: ob Ao) w w := .refl _
 refine sr rfl <| Wp rfl <| st_box (v := .agg ⟨[S _, .int _ _, S _, .slice _ _ _]⟩) (vs := [_, _, _, _]) rfl rfl ?_
 intro b1 w2 e3 c4 hb5
 have ge_b1 : w.heap.size ≤ b1 := by rw [e3]; exact HC.size
 have ne_b_b1 : b ≠ b1 := by rw [e3]; exact hb.ne_size
 have na_b1 : b1 ∉ ob Ao := ho.fresh (by rw [e3]; exact Nat.le_refl _)
 replace HC := HC.then c4
 replace hb := hb.tr0 c4
 replace ho := ho.tr0 c4
 replace hx := ndE_tr hx c4
 clear e3
 refine aI rfl <| en <| x_seq <| x_draw [(0, 0), (1, 0), (2, 0), (3, 0), (4, 0), (5, 0), (6, 1), (7, 1), (8, 0), (9, 0), (10, 2)] T.mixed rfl rfl rfl (fun W => W.heap[b]? = w2.heap[b]? ∧ W.heap[b1]? = w2.heap[b1]? ∧ True) ⟨rfl, rfl, trivial⟩ ?_
 have o8 := hb
 have o9 := hb5
 have c7 := Chg.drew w2
 generalize World.drew w2 = w6 at c7 ⊢
 replace HC := HC.then c7
 replace hb := hb.tr0 c7
 replace ho := ho.tr0 c7
 replace hx := ndE_tr hx c7
 replace hb5 := hb5.tr0 c7
 refine sq_q rfl (fun W hT => r_move (v := .pointer _) rfl) <| sq_q rfl (fun W hT => r_move (v := .pointer _) rfl) <| sq_q rfl (fun W hT => r_nilCheck rfl) <| sq_q rfl (fun W hT => r_fieldAddr T.fld64_1 rfl) <| sq_q rfl (fun W hT => r_load1 (v := .slice _ _ _) T.one52 rfl (Blk.cell (show Blk W b _ _ from hT.1.trans o8) rfl)) <| sq_q rfl (fun W hT => r_loadA (vs := [_, _, _, _]) T.agg72 rfl (Blk.cells (n := 4) (vs := [_, _, _, _]) (show Blk W b1 _ _ from hT.2.1.trans o9) rfl) rfl) <| sq_lit1 (ps := [(0, .tmp 10)]) (vs := [S _, .int _ _, S _, .slice _ _ _]) rfl T.lit52 (by decide) rfl (by simp only [List.forall_mem_cons, List.not_mem_nil, false_imp_iff, implies_true, and_true]; exact rfl) rfl ?_
 intro b10 w11 e12 c13 hb14
 have ge_b10 : w.heap.size ≤ b10 := by rw [e12]; exact HC.size
 have ne_b_b10 : b ≠ b10 := by rw [e12]; exact hb.ne_size
 have ne_b1_b10 : b1 ≠ b10 := by rw [e12]; exact hb5.ne_size
 have na_b10 : b10 ∉ ob Ao := ho.fresh (by rw [e12]; exact Nat.le_refl _)
 replace HC := HC.then c13
 replace hb := hb.tr0 c13
 replace ho := ho.tr0 c13
 replace hx := ndE_tr hx c13
 replace hb5 := hb5.tr0 c13
 clear e12
 refine ext_T (b := b10) ⟨(Eq.trans hb o8.symm), (Eq.trans hb5 o9.symm), trivial⟩ ?_
 have o15 := hb14
 have hszA := HC.size
 refine sq_append1 (c := ndE) (D2 := fun k => D k ∧ k ∉ ob Ao) (xs := out) (ys := [x]) rfl T.slice52 rfl rfl ho rfl rfl (one_elem hx (hb14.cells (n := 4) rfl)) (fun k _ h => h) (fun k hk => hfr0 k (by omega)) (by simp only [List.length_cons, List.length_nil]; omega) (by simp only [List.length_cons, List.length_nil]; omega) ?_
 intro Ao2 capo2 w16 ho2 c17 hg2
 replace hb := hb.tr c17 (fun hx => hDb (ho.inD _ hx))
 replace hb5 := hb5.tr c17 na_b1
 replace hb14 := hb14.tr c17 na_b10
 replace HC := HC.trans c17 (by intro k hk; exact .inl (by simp [hk]))
 refine ⟨_, fun _ h => h, ⟨(Eq.trans hb14 o15.symm), ⟨(Eq.trans hb o8.symm), (Eq.trans hb5 o9.symm), trivial⟩⟩, ?_⟩
 refine sq_q rfl (fun W hT => r_nilCheck rfl) <| sq_q rfl (fun W hT => r_fieldAddr T.fld64_1 rfl) <| sq_store2 rfl T.size52 (v := .slice _ _ _) rfl rfl rfl hb rfl (Nat.le_of_ble_eq_true rfl) (by simp [Value.oneCell', S]) rfl ?_
 intro w18 c19 hb20; simp only [setVs, setV] at hb20
 clear hb
 replace HC := HC.trans c19 (by intro x hx; simp only [List.mem_singleton] at hx; subst hx; exact .inl (by simp))
 replace ho2 := ho2.tN c19 hDb
 replace hb5 := hb5.tr1 c19 (Ne.symm ne_b_b1)
 replace hb14 := hb14.tr1 c19 (Ne.symm ne_b_b10)
 clear o8
 clear o9
 clear o15
 refine sq_nil <| then_n <| x_seq ?_
 have hsub : IntKind.i64.wrap (((out.length + [x].length : Nat) : Int) - 1) = (out.length : Int) := by have h1 : [x].length = 1 := rfl; rw [wrap64_id (by omega) (by omega)]; omega
 refine x_region rfl <| mP rfl <| nc rfl <| fa T.fld64_1 rfl <| lL T.one52 rfl (hb20.cell rfl) <| Wp rfl <| st_len (ct := #[52]) (by rw [show ((#[52] : Array TypeId)[0]?).bind Tryd.prog.underlying = some (.slice 72) from T.u52]; rfl) rfl <| Wp rfl <| st_subk rfl rfl (by exact hsub) <| aI rfl <| en <| x_ret <| ret_tmp (v := .int _ _) rfl rfl ?_
 exact ⟨rfl, ⟨Ao2, capo2, by rw [List.length_append]; exact hb20, ho2⟩, HC⟩

theorem RPost.lift {D D1 Dt : Nat → Prop} {b : Nat} {ts : List Tk} {out : List Nd} {d pl : Int} {w w2 w' : World} {v : Value} {r : PR} (h : RPost D1 Dt b ts out d pl w2 v w' r) (hsub : ∀ k, D1 k → D k) (hc : ChgP (fun k => D k ∨ k = b) w w2) : RPost D Dt b ts out d pl w v w' r := by
  cases r with
  | good k ts' out' =>
    obtain ⟨h1, ⟨At, capt, Ao, capo, q1, q2, q3, q4⟩, h3, h4, h5⟩ := h
    exact ⟨h1, ⟨At, capt, Ao, capo, q1, q2, q3, q4.mono (fun k _ hk => hsub k hk)⟩, h3, h4, hc.trans h5 (fun k hk => .inl (hk.imp (hsub k) id))⟩
  | bad e a =>
    obtain ⟨h1, h2, ⟨ts', out', h3, h4, ⟨At, capt, Ao, capo, q1, q2, q3, q4⟩⟩, h5⟩ := h
    exact ⟨h1, h2, ⟨ts', out', h3, h4, ⟨At, capt, Ao, capo, q1, q2, q3, q4.mono (fun k _ hk => hsub k hk)⟩⟩, hc.trans h5 (fun k hk => .inl (hk.imp (hsub k) id))⟩

theorem within_spec {D Dt : Nat → Prop} {w : World} {b : Nat} {ts : List Tk} {out : List Nd} {d : Nat} {pl : Int} {kf : FuncId} {r : PR} (hp : RPre D Dt w b ts out d pl) (hent : ∀ args (w : World), (callFunc kf args).run Tryd.prog w = .ok (.enter kf args) w)
    (hr : (64 < d + 1 ∧ r = .bad 104 (hdT ts).2) ∨ (d + 1 ≤ 64 ∧ ∀ W, RPre D Dt W b ts out (d + 1) pl → CallR Tryd.prog kf ⟨[.pointer (some ⟨b, 0, none⟩)]⟩ W fun v W' => RPost D Dt b ts out ((d + 1 : Nat) : Int) pl W v W' r)) :
    CallR Tryd.prog 44 #[.pointer (some ⟨b, 0, none⟩), .func (.func kf) #[.pointer (some ⟨b, 0, none⟩)] #[]] w fun v w' => RPost D Dt b ts out d pl w v w' r := by
 obtain ⟨hfr0, hDb, hDt, ⟨At, capt, Ao, capo, hb, hs, hct, ho⟩, hwf, hd, hlen, ht, hone1, hone2⟩ := hp
 obtain ⟨x, tl, rfl⟩ := hwf.ne
 have ht1 := ht.lt
 have hDtb : ¬ Dt b := fun h => (hDt b h).2 rfl
 have hDtn : ∀ k, w.heap.size ≤ k → ¬ Dt k := fun k hk h => (hDt k h).1 (hfr0 k hk)
 have hll : out.length + (tl.length + 1) ≤ 1000000000 := hlen
 have hd1 : IntKind.i64.wrap ((d : Int) + 1) = ((d + 1 : Nat) : Int) := by rw [wrap64_id (by omega) (by omega)]; omega
 have hd2 : IntKind.i64.wrap (((d + 1 : Nat) : Int) - 1) = (d : Int) := by rw [wrap64_id (by omega) (by omega)]; omega
 refine callR_of_wp (args := [_, _]) Tryd.func44 rfl (Nat.le_of_ble_eq_true rfl) ?_
 have HC : ChgP (fun k => D k ∨ k = b) w w := .refl _
 refine sr rfl <| aI rfl <| en <| x_seq <| sr rfl <| mP rfl <| nc rfl <| fa T.fld64_2 rfl <| lI T.one3 rfl (hb.cell rfl) <| Wp rfl <| st_addk rfl rfl (by exact hd1) <| nc rfl <| fa T.fld64_2 rfl <| Wp rfl <| st_store (v := .int _ _) T.size3 rfl rfl rfl hb rfl (Nat.le_of_ble_eq_true rfl) (by simp [Value.oneCell', S]) rfl ?_
 intro w1 c2 hb3; simp only [setVs, setV] at hb3
 clear hb
 replace HC := HC.cB c2
 replace hs := hs.tN c2 (fun h => (hDt _ h).2 rfl)
 replace ho := ho.tN c2 hDb
 replace ht := ht.tr c2 (by intro hx; have hlt := ht1; simp only [List.mem_cons, List.mem_nil_iff, or_false] at hx; first | exact hone2 hx | omega)
 refine en <| sr rfl <| mP rfl <| nc rfl <| fa T.fld64_2 rfl <| lI T.one3 rfl (hb3.cell rfl) <| Wp rfl <| st_gtr rfl rfl <| en <| x_cond rfl (fun h0 => ?_) (fun h0 => ?_)
 ·try simp only [nm, ne_eq] at h0
  obtain ⟨_, rfl⟩ := hr.resolve_right (fun h => by omega)
  refine x_region rfl <| mP rfl <| Wp rfl <| st_call (ags := [_, _]) rfl rfl T.ent46 rfl (fail_spec 104 hb3 hs hDtb (fun k hk => hDtn k (Nat.le_trans HC.size hk))) ?_
  rintro _ w4 ⟨rfl, hb9, c5⟩
  rw [if_pos rfl, if_pos rfl] at hb9
  replace HC := HC.cB c5
  replace hs := hs.tN c5 (fun h => (hDt _ h).2 rfl)
  replace ho := ho.tN c5 hDb
  replace ht := ht.tr c5 (by intro hx; have hlt := ht1; simp only [List.mem_cons, List.mem_nil_iff, or_false] at hx; first | exact hone2 hx | omega)
  refine en <| sr rfl <| aI rfl <| en <| x_seq <| sr rfl <| mP rfl <| nc rfl <| fa T.fld64_4 rfl <| lI T.one22 rfl (hb9.cell rfl) <| Wp rfl <| st_eql rfl rfl <| en <| x_cond rfl (fun h1 => ?_) (fun h1 => ?_)
  ·try simp only [nm, ne_eq] at h1
   simp at h1
  ·try simp only [nm, ne_eq] at h1
   refine x_skip <| then_n <| sr rfl <| mP rfl <| nc rfl <| fa T.fld64_2 rfl <| lI T.one3 rfl (hb9.cell rfl) <| Wp rfl <| st_subk rfl rfl (by exact hd2) <| nc rfl <| fa T.fld64_2 rfl <| Wp rfl <| st_store (v := .int _ _) T.size3 rfl rfl rfl hb9 rfl (Nat.le_of_ble_eq_true rfl) (by simp [Value.oneCell', S]) rfl ?_
   intro w6 c7 hb8; simp only [setVs, setV] at hb8
   clear hb9
   replace HC := HC.cB c7
   replace hs := hs.tN c7 (fun h => (hDt _ h).2 rfl)
   replace ho := ho.tN c7 hDb
   replace ht := ht.tr c7 (by intro hx; have hlt := ht1; simp only [List.mem_cons, List.mem_nil_iff, or_false] at hx; first | exact hone2 hx | omega)
   refine en <| sr rfl <| mI rfl <| aI rfl <| en <| x_ret <| ret_tmp (v := .int _ _) rfl rfl ?_
   exact ⟨by decide, ⟨0, rfl⟩, ⟨x :: tl, out, by simp, Nat.le_refl _, ⟨_, _, _, _, hb8, hs, hct, ho⟩⟩, HC⟩
 ·try simp only [nm, ne_eq] at h0
  have hok := hr.resolve_left (fun h => by omega)
  refine x_skip <| then_n <| sr rfl <| aI rfl <| en <| x_seq <| sr rfl <| mP rfl <| nc rfl <| fa T.fld64_4 rfl <| lI T.one22 rfl (hb3.cell rfl) <| Wp rfl <| st_eql rfl rfl <| en <| x_cond rfl (fun h1 => ?_) (fun h1 => ?_)
  ·try simp only [nm, ne_eq] at h1
   refine x_region rfl <| mv rfl <| Wp rfl <| st_callB (ags := [_]) rfl rfl hent rfl (hok.2 _ ⟨(fun k hk => hfr0 k (Nat.le_trans HC.size hk)), hDb, (fun k h => ⟨fun h2 => (hDt k h).1 (h2), (hDt k h).2⟩), ⟨_, _, _, _, hb3, hs, hct, ho⟩, hwf, hok.1, hlen, ht, (fun h => hone1 (h)), hone2⟩) ?_
   rintro v26 w9 hP
   rcases r with ⟨e1, a1⟩ | ⟨k1, ts1, out1⟩
   ·obtain ⟨he1, ⟨k1, rfl⟩, ⟨ts1, out1, hne1, hl1, At1, capt1, Ao1, capo1, hb9, hs9, hct9, ho9⟩, cP⟩ := hP
    replace HC := HC.trans cP (fun k h => .inl (h))
    replace ht := ht.trP cP (fun h => h.elim (fun h => hone1 ((fun _ h => h) 1 h)) hone2)
    refine aI rfl <| en <| sr rfl <| mP rfl <| nc rfl <| fa T.fld64_2 rfl <| lI T.one3 rfl (hb9.cell rfl) <| Wp rfl <| st_subk rfl rfl (by exact hd2) <| nc rfl <| fa T.fld64_2 rfl <| Wp rfl <| st_store (v := .int _ _) T.size3 rfl rfl rfl hb9 rfl (Nat.le_of_ble_eq_true rfl) (by simp [Value.oneCell', S]) rfl ?_
    intro w10 c11 hb12; simp only [setVs, setV] at hb12
    clear hb9
    replace HC := HC.cB c11
    replace ht := ht.tr c11 (by intro hx; have hlt := ht1; simp only [List.mem_cons, List.mem_nil_iff, or_false] at hx; first | exact hone2 hx | omega)
    replace hs9 := hs9.tN c11 (fun h => (hDt _ h).2 rfl)
    replace ho9 := ho9.tN c11 hDb
    refine en <| sr rfl <| mI rfl <| aI rfl <| en <| x_ret <| ret_tmp (v := .int _ _) rfl rfl ?_
    exact ⟨he1, ⟨k1, rfl⟩, ⟨ts1, out1, hne1, hl1, ⟨_, _, _, _, hb12, hs9, hct9, ho9⟩⟩, HC⟩
   ·obtain ⟨rfl, ⟨At1, capt1, Ao1, capo1, hb9, hs9, hct9, ho9⟩, hwf1, hl1, cP⟩ := hP
    replace HC := HC.trans cP (fun k h => .inl (h))
    replace ht := ht.trP cP (fun h => h.elim (fun h => hone1 ((fun _ h => h) 1 h)) hone2)
    refine aI rfl <| en <| sr rfl <| mP rfl <| nc rfl <| fa T.fld64_2 rfl <| lI T.one3 rfl (hb9.cell rfl) <| Wp rfl <| st_subk rfl rfl (by exact hd2) <| nc rfl <| fa T.fld64_2 rfl <| Wp rfl <| st_store (v := .int _ _) T.size3 rfl rfl rfl hb9 rfl (Nat.le_of_ble_eq_true rfl) (by simp [Value.oneCell', S]) rfl ?_
    intro w13 c14 hb15; simp only [setVs, setV] at hb15
    clear hb9
    replace HC := HC.cB c14
    replace ht := ht.tr c14 (by intro hx; have hlt := ht1; simp only [List.mem_cons, List.mem_nil_iff, or_false] at hx; first | exact hone2 hx | omega)
    replace hs9 := hs9.tN c14 (fun h => (hDt _ h).2 rfl)
    replace ho9 := ho9.tN c14 hDb
    refine en <| sr rfl <| mI rfl <| aI rfl <| en <| x_ret <| ret_tmp (v := .int _ _) rfl rfl ?_
    exact ⟨rfl, ⟨_, _, _, _, hb15, hs9, hct9, ho9⟩, hwf1, hl1, HC⟩
  ·try simp only [nm, ne_eq] at h1
   first | exact absurd rfl h1 | exact absurd trivial h1 | simp at h1

theorem within_bad {Dt : Nat → Prop} {w : World} {b : Nat} {x : Tk} {tl : List Tk} {At Ao : Option Addr} {no capt capo : Nat} {deep pl e : Int} {kv : Value} (he : e ≠ 0) (hd0 : 0 ≤ deep) (hd1 : deep ≤ 1000) (hb : Blk w b [.slice At (x :: tl).length capt, .slice Ao no capo, .int .i64 deep, .int .i64 pl, .int .i64 e] 64) (hs : Sl tkE w Dt At (x :: tl)) (hDtb : ¬ Dt b) (hDtn : ∀ k, w.heap.size ≤ k → ¬ Dt k) :
    CallR Tryd.prog 44 #[.pointer (some ⟨b, 0, none⟩), kv] w fun v w' => v = .int .i64 0 ∧ Blk w' b [.slice At (x :: tl).length capt, .slice Ao no capo, .int .i64 deep, .int .i64 pl, .int .i64 e] 64 ∧ Chg [b] w w' := by
 refine callR_of_wp (args := [_, _]) Tryd.func44 rfl (Nat.le_of_ble_eq_true rfl) ?_
 have HC : Chg [b] w w := .refl _
 have hd3 : IntKind.i64.wrap (deep + 1 - 1) = deep := by rw [show deep + 1 - 1 = deep by omega]; exact wrap64_id (by omega) (by omega)
 refine sr rfl <| aI rfl <| en <| x_seq <| sr rfl <| mP rfl <| nc rfl <| fa T.fld64_2 rfl <| lI T.one3 rfl (hb.cell rfl) <| Wp rfl <| st_addn rfl rfl (by constructor <;> omega) <| nc rfl <| fa T.fld64_2 rfl <| Wp rfl <| st_store (v := .int _ _) T.size3 rfl rfl rfl hb rfl (Nat.le_of_ble_eq_true rfl) (by simp [Value.oneCell', S]) rfl ?_
 intro w1 c2 hb3; simp only [setVs, setV] at hb3
 clear hb
 replace HC := HC.trans c2 (by intro x hx; simp only [List.mem_singleton] at hx; subst hx; exact .inl (by simp))
 replace hs := hs.tr c2 (by intro k hx hD; obtain rfl := List.mem_singleton.1 hx; first | exact hDtb hD | exact absurd hD (hDtn _ ge_b))
 refine en <| sr rfl <| mP rfl <| nc rfl <| fa T.fld64_2 rfl <| lI T.one3 rfl (hb3.cell rfl) <| Wp rfl <| st_gtr rfl rfl <| en <| x_cond rfl (fun h0 => ?_) (fun h0 => ?_)
 ·try simp only [nm, ne_eq] at h0
  refine x_region rfl <| mP rfl <| Wp rfl <| st_call (ags := [_, _]) rfl rfl T.ent46 rfl (fail_spec 104 hb3 hs hDtb (fun k hk => hDtn k (Nat.le_trans HC.size hk))) ?_
  rintro _ w4 ⟨rfl, hb9, c5⟩
  rw [if_neg he, if_neg he] at hb9
  replace HC := HC.trans c5 (by intro x hx; simp only [List.mem_singleton] at hx; subst hx; exact .inl (by simp))
  replace hs := hs.tr c5 (by intro k hx hD; obtain rfl := List.mem_singleton.1 hx; first | exact hDtb hD | exact absurd hD (hDtn _ ge_b))
  refine en <| sr rfl <| aI rfl <| en <| x_seq <| sr rfl <| mP rfl <| nc rfl <| fa T.fld64_4 rfl <| lI T.one22 rfl (hb9.cell rfl) <| Wp rfl <| st_eql rfl rfl <| en <| x_cond rfl (fun h1 => ?_) (fun h1 => ?_)
  ·try simp only [nm, ne_eq] at h1
   exact absurd h1 he
  ·try simp only [nm, ne_eq] at h1
   refine x_skip <| then_n <| sr rfl <| mP rfl <| nc rfl <| fa T.fld64_2 rfl <| lI T.one3 rfl (hb9.cell rfl) <| Wp rfl <| st_subk rfl rfl (by exact hd3) <| nc rfl <| fa T.fld64_2 rfl <| Wp rfl <| st_store (v := .int _ _) T.size3 rfl rfl rfl hb9 rfl (Nat.le_of_ble_eq_true rfl) (by simp [Value.oneCell', S]) rfl ?_
   intro w6 c7 hb8; simp only [setVs, setV] at hb8
   clear hb9
   replace HC := HC.trans c7 (by intro x hx; simp only [List.mem_singleton] at hx; subst hx; exact .inl (by simp))
   replace hs := hs.tr c7 (by intro k hx hD; obtain rfl := List.mem_singleton.1 hx; first | exact hDtb hD | exact absurd hD (hDtn _ ge_b))
   refine en <| sr rfl <| mI rfl <| aI rfl <| en <| x_ret <| ret_tmp (v := .int _ _) rfl rfl ?_
   exact ⟨rfl, hb8, HC⟩
 ·try simp only [nm, ne_eq] at h0
  refine x_skip <| then_n <| sr rfl <| aI rfl <| en <| x_seq <| sr rfl <| mP rfl <| nc rfl <| fa T.fld64_4 rfl <| lI T.one22 rfl (hb3.cell rfl) <| Wp rfl <| st_eql rfl rfl <| en <| x_cond rfl (fun h1 => ?_) (fun h1 => ?_)
  ·try simp only [nm, ne_eq] at h1
   exact absurd h1 he
  ·try simp only [nm, ne_eq] at h1
   refine x_skip <| then_n <| sr rfl <| mP rfl <| nc rfl <| fa T.fld64_2 rfl <| lI T.one3 rfl (hb3.cell rfl) <| Wp rfl <| st_subk rfl rfl (by exact hd3) <| nc rfl <| fa T.fld64_2 rfl <| Wp rfl <| st_store (v := .int _ _) T.size3 rfl rfl rfl hb3 rfl (Nat.le_of_ble_eq_true rfl) (by simp [Value.oneCell', S]) rfl ?_
   intro w9 c10 hb11; simp only [setVs, setV] at hb11
   clear hb3
   replace HC := HC.trans c10 (by intro x hx; simp only [List.mem_singleton] at hx; subst hx; exact .inl (by simp))
   replace hs := hs.tr c10 (by intro k hx hD; obtain rfl := List.mem_singleton.1 hx; first | exact hDtb hD | exact absurd hD (hDtn _ ge_b))
   refine en <| sr rfl <| mI rfl <| aI rfl <| en <| x_ret <| ret_tmp (v := .int _ _) rfl rfl ?_
   exact ⟨rfl, hb11, HC⟩

end Go.Proofs.YtmbbhgglllfelaaDoor.K
