import Derived.Test.YtmbbhgglllfelaaGreatDoorCd
import Derived.Test.YtmbbhgglllfelaaGreatDoorKitQ
set_option linter.unusedVariables false
set_option linter.unusedSimpArgs false
set_option autoImplicit false
set_option maxRecDepth 20000
namespace Go.Proofs.YtmbbhgglllfelaaGreatDoor.K
open Go Go.Proofs Go.RowKit

theorem RI.zero : RI 0 := ⟨fun _ _ _ _ _ _ _ _ _ _ h => (by simp [pP] at h), fun _ _ _ _ _ _ _ _ _ _ h => (by simp [pP] at h), fun _ _ _ _ _ _ _ _ _ _ h => (by simp [pP] at h), fun _ _ _ _ _ _ _ _ _ _ _ _ h => (by simp [pP] at h)⟩
theorem RI.upto : ∀ f : Nat, ∀ f', f' ≤ f → RI f'
  | 0, f', h => by obtain rfl : f' = 0 := (by omega); exact RI.zero
  | f + 1, f', h => by
    have ihs := RI.upto f
    by_cases e : f' ≤ f
    · exact ihs f' e
    · obtain rfl : f' = f + 1 := (by omega)
      have ih := ihs f (Nat.le_refl f)
      exact ⟨asg_step f ih, cho_step f ih, trm_step f ih, fun n hn => lev_step f ihs n hn⟩
theorem RI.all (f : Nat) : RI f := RI.upto f f (Nat.le_refl f)
/-! ### the reading ends -/
def rankN : NT → Nat
  | .asg => 23
  | .cho => 22
  | .lev n => 2 * (10 - n) + 1
  | .lop n _ => 2 * (10 - n)
  | .trm => 0
def okN : NT → Prop
  | .lev n => n ≤ 10
  | .lop n _ => n < 10
  | _ => True
def PR.le (L : Nat) : PR → Prop
  | .bad _ _ => True
  | .good _ ts _ => ts.length ≤ L
theorem inOp_drop {ts : List Tk} {l : List Bytes} (h : inOp ts l = true) : (ts.drop 1).length + 1 = ts.length := by
  cases ts with
  | nil => simp [inOp, hdT] at h
  | cons x tl => simp
theorem bind_tot {x : Option PR} {g : Int → List Tk → List Nd → Option PR} {L L1 : Nat} (hx : ∃ r, x = some r ∧ r.le L1) (hg : ∀ k ts out, ts.length ≤ L1 → ∃ r, g k ts out = some r ∧ r.le L) : ∃ r, PR.bind x g = some r ∧ r.le L := by
  obtain ⟨r, rfl, hr⟩ := hx
  cases r with
  | bad e a => exact ⟨_, rfl, trivial⟩
  | good k ts out => exact hg k ts out hr
theorem PR.le_mono {r : PR} {L L1 : Nat} (h : r.le L1) (hl : L1 ≤ L) : r.le L := by
  cases r with
  | bad e a => trivial
  | good k ts out => exact Nat.le_trans h hl
theorem some_mono {x : Option PR} {L L1 : Nat} (h : ∃ r, x = some r ∧ r.le L1) (hl : L1 ≤ L) : ∃ r, x = some r ∧ r.le L := by obtain ⟨r, h1, h2⟩ := h; exact ⟨r, h1, PR.le_mono h2 hl⟩
theorem wI_tot {f : Nat} {nt : NT} {d : Nat} {ts : List Tk} {out : List Nd} (hd : d ≤ 64) (hok : okN nt) (ih : ∀ nt d ts out, d ≤ 64 → okN nt → (65 - d) * 26 + rankN nt + ts.length < f → ∃ r, pP f nt d ts out = some r ∧ r.le ts.length) (hr : rankN nt ≤ 23) (hf : (65 - d) * 26 + ts.length < f + 3) : ∃ r, wI (pP f) nt d ts out = some r ∧ r.le ts.length := by
  unfold wI
  split
  · exact ⟨_, rfl, trivial⟩
  · exact ih nt (d + 1) ts out (by omega) hok (by omega)
theorem pP_tot : ∀ (f : Nat) (nt : NT) (d : Nat) (ts : List Tk) (out : List Nd), d ≤ 64 → okN nt → (65 - d) * 26 + rankN nt + ts.length < f → ∃ r, pP f nt d ts out = some r ∧ r.le ts.length
  | 0, _, _, _, _, _, _, h => absurd h (by omega)
  | f + 1, nt, d, ts, out, hd, hok, h => by
    have ih := pP_tot f
    have hdl : ∀ n (l : List Tk), (l.drop n).length ≤ l.length := fun n l => by simp
    cases nt with
    | asg =>
      simp only [rankN] at h
      rw [pP]
      split
      · exact some_mono (bind_tot (L := (ts.drop 2).length) (wI_tot hd trivial ih (by simp [rankN]) (by have := hdl 2 ts; omega)) fun k ts' out' h' => ⟨_, rfl, h'⟩) (hdl 2 ts)
      · exact wI_tot hd trivial ih (by simp [rankN]) (by omega)
    | cho =>
      simp only [rankN] at h
      rw [pP]
      refine bind_tot (L1 := ts.length) (ih (.lev 0) d ts out hd (by simp [okN]) (by simp only [rankN]; omega)) fun k ts1 out1 h1 => ?_
      split
      · refine some_mono (bind_tot (L := ts1.length) (L1 := (ts1.drop 1).length) (wI_tot hd trivial ih (by simp [rankN]) (by have := hdl 1 ts1; omega)) fun a ts2 out2 h2 => ?_) h1
        have := hdl 1 ts1
        split
        · refine some_mono (bind_tot (L := (ts2.drop 1).length) (L1 := (ts2.drop 1).length) (wI_tot hd trivial ih (by simp [rankN]) (by have := hdl 1 ts2; omega)) fun c ts3 out3 h3 => ⟨_, rfl, h3⟩) (by have := hdl 1 ts2; omega)
        · exact ⟨_, rfl, trivial⟩
      · exact ⟨_, rfl, h1⟩
    | lev n =>
      simp only [rankN] at h
      simp only [okN] at hok
      rw [pP]
      split
      · exact wI_tot hd trivial ih (by simp [rankN]) (by omega)
      · refine bind_tot (L1 := ts.length) (ih (.lev (n + 1)) d ts out hd (by simp only [okN]; omega) (by simp only [rankN]; omega)) fun k ts1 out1 h1 => ?_
        exact some_mono (ih (.lop n k) d ts1 out1 hd (by simp only [okN]; omega) (by simp only [rankN]; omega)) h1
    | lop n k =>
      simp only [rankN] at h
      simp only [okN] at hok
      rw [pP]
      split
      · rename_i hin
        have hd1 := inOp_drop hin
        refine bind_tot (L1 := (ts.drop 1).length) (ih (.lev (n + 1)) d (ts.drop 1) out hd (by simp only [okN]; omega) (by simp only [rankN]; omega)) fun k2 ts2 out2 h2 => ?_
        exact some_mono (ih (.lop n _) d ts2 _ hd (by simp only [okN]; omega) (by simp only [rankN]; omega)) (by omega)
      · exact ⟨_, rfl, Nat.le_refl _⟩
    | trm =>
      simp only [rankN] at h
      have hd1 := hdl 1 ts
      rw [pP]
      split
      · exact ⟨_, rfl, hd1⟩
      · split
        · exact ⟨_, rfl, hd1⟩
        · split
          · exact some_mono (bind_tot (L := (ts.drop 1).length) (wI_tot hd trivial ih (by simp [rankN]) (by omega)) fun k ts' out' h' => ⟨_, rfl, h'⟩) hd1
          · split
            · refine some_mono (bind_tot (L := (ts.drop 1).length) (wI_tot hd trivial ih (by simp [rankN]) (by omega)) fun k ts' out' h' => ?_) hd1
              split
              · exact ⟨_, rfl, Nat.le_trans (hdl 1 ts') h'⟩
              · exact ⟨_, rfl, trivial⟩
            · exact ⟨_, rfl, trivial⟩
def fuelP (ts : List Tk) : Nat := 65 * 26 + 24 + ts.length
theorem parse_tot (ts : List Tk) : ∃ r, wI (pP (fuelP ts)) .asg 0 ts [] = some r ∧ r.le ts.length := by
  refine wI_tot (by omega) trivial (pP_tot _) (by simp [rankN]) ?_
  unfold fuelP; omega
/-- What an expression is read as. -/
def parseV (s : Bytes) (L : List Yd) : List Nd × Int × Int :=
  if ¬ (tokV L).2.2 = 0 then ([], (tokV L).2.1, (tokV L).2.2) else
  match wI (pP (fuelP (tokV L).1)) .asg 0 (tokV L).1 [] with
  | none => ([], 0, 0)
  | some (.bad e a) => ([], a, e)
  | some (.good _ ts out) => if ¬ (hdT ts).1.1 = 0 then ([], (hdT ts).2, 101) else if 1000 < out.length then ([], s.length, 108) else (out, 0, 0)
theorem toks_wf {s : Bytes} : ∀ (k i : Nat), i ≤ s.length → s.length - i < k → (∀ z, z ∈ toksF k s i → z.2.2 = 0) → WfT ((toksF k s i).map toTk)
  | 0, i, _, h, _ => absurd h (by omega)
  | k + 1, i, hi, hk, hz => by
    have ha := atV_le hi
    have hn := nextV_len (s.drop (atV s i))
    rw [List.length_drop] at hn
    obtain ⟨hn1, hn2, hn3⟩ := hn
    rw [toksF_succ] at hz ⊢
    have h0 := hz _ (List.mem_cons_self ..)
    by_cases hs : stopV (yV s (atV s i))
    · rw [if_pos hs]
      exact hs.resolve_left (fun h => h h0)
    · rw [if_neg hs] at hz ⊢
      have hp := hn3 (fun h => hs h)
      have ih := toks_wf k (atV s i + (nextV (s.drop (atV s i))).2.1.toNat) (by omega) (by omega) (fun z hz2 => hz z (List.mem_cons_of_mem _ hz2))
      obtain ⟨x, tl, e⟩ := ih.ne
      rw [e] at ih
      rw [List.map_cons, e]
      exact ⟨fun h => hs (.inr h), ih⟩
theorem tokV_wf {s : Bytes} {L : List Yd} (hL : toksF (s.length + 1) s 0 = L) (h0 : (tokV L).2.2 = 0) : WfT (tokV L).1 ∧ (tokV L).1.length ≤ s.length + 1 := by
  obtain ⟨hv, hz⟩ := tokV_ok h0
  rw [hv]
  have := toks_wf (s := s) (s.length + 1) 0 (Nat.zero_le _) (by omega) (by rw [hL]; exact hz)
  have h2 := toksF_len (s.length + 1) s 0
  rw [hL] at this h2
  exact ⟨this, by simpa using h2⟩

theorem Sl.reD {α : Type} {c : Enc α} {w : World} {D D' : Nat → Prop} {A : Option Addr} {xs : List α} (h : Sl c w D A xs) (hf : Flat c) (hd : ∀ k, k ∈ ob A → D' k) : Sl c w D' A xs := by
  rcases h with h | ⟨b, o, rfl, h2, h3, h4⟩
  · exact .inl h
  · exact .inr ⟨b, o, rfl, h2, hd b (by simp [ob]), fun i x hx => let ⟨vs, q1, q2⟩ := h4 i x hx; ⟨vs, hf q1, q2⟩⟩

theorem Parse_spec {L : List Yd} (s : Bytes) (w : World) (hL : toksF (s.length + 1) s 0 = L) (hs : s.length ≤ 1000000) (ht : Tab w) : CallR Tryz.prog 14 #[S s] w fun v w' => ∃ A cap, v = .tuple ⟨[.slice A (parseV s L).1.length cap, .int .i64 (parseV s L).2.1, .int .i64 (parseV s L).2.2]⟩ ∧ Own ndE 38 w' (fun k => w.heap.size ≤ k) A cap (parseV s L).1 ∧ Chg [] w w' := by
 refine callR_of_wp (args := [_]) Tryz.func14 rfl (Nat.le_of_ble_eq_true rfl) ?_
 have HC : Chg [] w w := .refl _
 have ht1 := ht.lt
 refine sr rfl <| aL rfl <| aI rfl <| aI rfl <| en <| sr rfl <| mS rfl <| Wp rfl <| st_call (ags := [_]) rfl rfl T.ent21 rfl (Tokens_spec (L := L) s _ hL (by omega) ht) ?_
 rintro _ w1 ⟨At, capt, rfl, hoT, c2⟩
 replace HC := HC.then c2
 replace ht := ht.tr0 c2
 refine mv (v := .tuple ⟨[_, _, _]⟩) rfl <| Wp rfl <| st_extract (vs := [_, _, _]) (v := .slice _ _ _) rfl rfl <| Wp rfl <| st_extract (vs := [_, _, _]) (v := .int _ _) rfl rfl <| Wp rfl <| st_extract (vs := [_, _, _]) (v := .int _ _) rfl rfl <| aL rfl <| aI rfl <| aI rfl <| en <| x_seq <| sr rfl <| mI rfl <| Wp rfl <| st_neq rfl rfl <| en <| x_cond rfl (fun h0 => ?_) (fun h0 => ?_)
 ·try simp only [nm, ne_eq] at h0
  have hpv : parseV s L = ([], (tokV L).2.1, (tokV L).2.2) := by unfold parseV; rw [if_pos h0]
  refine sr rfl <| mI rfl <| mI rfl <| aL rfl <| aI rfl <| aI rfl <| en <| x_ret <| then_r <| ret_tmp3 (v := .slice _ _ _) (v2 := .int _ _) (v3 := .int _ _) rfl rfl rfl rfl ?_
  rw [hpv]
  exact ⟨none, 0, rfl, Own.nil, HC⟩
 ·try simp only [nm, ne_eq] at h0
  have he0 : (tokV L).2.2 = 0 := by omega
  obtain ⟨hwf, hln⟩ := tokV_wf hL he0
  obtain ⟨r, hpr, hrl⟩ := parse_tot (tokV L).1
  refine x_skip <| then_n <| sr rfl <| mL rfl <| Wp rfl <| st_bld (ps := [(0, .tmp 19)]) (vs := [.slice _ _ _, .slice _ _ _, .int _ _, .int _ _, .int _ _]) T.bld68 rfl <| Wp rfl <| st_box (v := .agg ⟨[.slice _ _ _, .slice _ _ _, .int _ _, .int _ _, .int _ _]⟩) (vs := [_, _, _, _, _]) rfl rfl ?_
  intro b8 w3 e4 c5 hb6
  have ge_b8 : w.heap.size ≤ b8 := by rw [e4]; exact HC.size
  have hkb_b8 : ∀ k, k ∈ ob At → k < b8 := fun k hk => by rw [e4]; exact hoT.lt k hk
  replace HC := HC.then c5
  replace ht := ht.tr0 c5
  replace hoT := hoT.tr0 c5
  clear e4
  refine aP rfl <| en <| sr rfl <| mP rfl <| mP rfl <| Wp rfl <| st_makeFunc ?_
  have hsT : Sl tkE w3 (fun k => k < b8) At (tokV L).1 := hoT.sl.reD flat_flat hkb_b8
  have hct := hoT.le.1
  have hlb := hb6.lt
  refine Wp rfl <| st_call (ags := [_, _]) rfl rfl T.ent22 rfl (within_call (D := fun k => b8 < k) (Dt := fun k => k < b8) (ts := (tokV L).1) (out := []) (d := 0) (pl := 0) ⟨(fun k hk => Nat.lt_of_lt_of_le hlb hk), Nat.lt_irrefl _, (fun k hk => ⟨Nat.lt_asymm hk, Nat.ne_of_lt hk⟩), ⟨At, capt, none, 0, hb6, hsT, hct, Own.nil⟩, hwf, by omega, by simp only [List.length_nil]; omega, ht, (show ¬ b8 < 0 by omega), by omega⟩ (RI.all _).asg T.ent23 hpr) ?_
  rintro v25 w7 hP
  rcases r with ⟨e1, a1⟩ | ⟨k1, ts1, out1⟩
  ·obtain ⟨he1, ⟨k1, rfl⟩, ⟨ts1, out1, hne1, hl1, At1, capt1, Ao1, capo1, hb9, hs9, hct9, ho9⟩, cP⟩ := hP
   obtain ⟨x1, tl1, rfl⟩ := List.exists_cons_of_ne_nil hne1
   replace HC : Chg [] w w7 := ((Chg.toP (M := fun k => b8 < k ∨ k = b8) HC (fun x hx => by cases hx)).trans cP (fun k hk => .inl hk)).toChg (fun k hk => .inr (by omega))
   replace ht := ht.trP cP (by show ¬ (b8 < 0 ∨ 0 = b8); omega)
   have hDtb : ¬ (fun k => k < b8) b8 := Nat.lt_irrefl _
   have hpv : parseV s L = ([], a1, e1) := by unfold parseV; rw [if_neg (fun h => h he0), hpr]
   refine en <| x_seq <| sr rfl <| mP rfl <| nc rfl <| fa T.fld68_0 rfl <| lL T.one52 rfl (hb9.cell rfl) ?_
   obtain ⟨lb12, _, vs11, hA8, hR10, hC9⟩ := hs9.at (i := 0) (x := x1) (rfl)
   obtain rfl : vs11 = tokC x1.1 x1.2 := hR10
   refine Wp rfl <| st_indexAddr T.u52 T.size60 (congrArg (fun z => Value.slice z _ _) hA8) rfl (by decide) (by simp) <| fa T.fld60_0 rfl <| lI T.one3 rfl (hC9.at (j := 0) rfl) <| Wp rfl <| st_neq rfl rfl <| en <| x_cond rfl (fun h1 => ?_) (fun h1 => ?_)
   ·try simp only [nm, ne_eq] at h1
    refine x_region rfl <| mP rfl <| Wp rfl <| st_call (ags := [_, _]) rfl rfl T.ent24 rfl (fail_spec (Dt := fun k => k < b8) (x := x1) (tl := tl1) 101 hb9 hs9 (Nat.lt_irrefl _) (fun k hk => by have := hb9.lt; omega)) ?_
    rintro _ w13 ⟨rfl, hb8, c14⟩
    rw [if_neg he1, if_neg he1] at hb8
    replace HC := HC.then1 c14 ge_b8
    replace ht := ht.tr c14 (by intro hx; have := ht.lt; have := ht1; simp only [List.mem_cons, List.mem_nil_iff, or_false] at hx; omega)
    refine en <| x_seq <| x_block <| sr rfl <| mP rfl <| nc rfl <| fa T.fld68_4 rfl <| lI T.one25 rfl (hb8.cell rfl) <| Wp rfl <| st_neq rfl rfl <| aB rfl <| en <| x_cond rfl (fun h2 => ?_) (fun h2 => ?_)
    ·try simp only [nm, ne_eq] at h2
     refine x_seq <| x_draw [(0, 0), (1, 0), (2, 0), (3, 0), (4, 0), (5, 0), (6, 0), (7, 0), (8, 0), (9, 0), (10, 0)] T.mixed rfl rfl rfl (fun W => W.heap[b8]? = w13.heap[b8]? ∧ True) ⟨rfl, trivial⟩ ?_
     have o17 := hb8
     have c16 := Chg.drew w13
     generalize World.drew w13 = w15 at c16 ⊢
     replace HC := HC.then c16
     replace ht := ht.tr0 c16
     replace hb8 := hb8.tr0 c16
     refine sq_q rfl (fun W hT => r_move (v := .pointer _) rfl) <| sq_q rfl (fun W hT => r_nilCheck rfl) <| sq_q rfl (fun W hT => r_fieldAddr T.fld68_3 rfl) <| sq_q rfl (fun W hT => r_load1 (v := .int _ _) T.one3 rfl (Blk.cell (show Blk W b8 _ _ from hT.1.trans o17) rfl)) <| sq_q rfl (fun W hT => r_move (v := .pointer _) rfl) <| sq_q rfl (fun W hT => r_nilCheck rfl) <| sq_q rfl (fun W hT => r_fieldAddr T.fld68_4 rfl) <| sq_q rfl (fun W hT => r_load1 (v := .int _ _) T.one25 rfl (Blk.cell (show Blk W b8 _ _ from hT.1.trans o17) rfl)) <| sq_q rfl (fun W hT => r_assign (v := .slice _ _ _) rfl) <| sq_q rfl (fun W hT => r_assign (v := .int _ _) rfl) <| sq_q rfl (fun W hT => r_assign (v := .int _ _) rfl) ?_
     clear o17
     refine sq_nil <| then_n <| x_ret <| block_r <| then_r <| ret_tmp3 (v := .slice _ _ _) (v2 := .int _ _) (v3 := .int _ _) rfl rfl rfl rfl ?_
     rw [hpv]
     exact ⟨none, 0, rfl, Own.nil, HC⟩
    ·try simp only [nm, ne_eq] at h2
     exact absurd h2 he1
   ·try simp only [nm, ne_eq] at h1
    refine x_skip <| then_n <| x_seq <| x_block <| sr rfl <| mP rfl <| nc rfl <| fa T.fld68_4 rfl <| lI T.one25 rfl (hb9.cell rfl) <| Wp rfl <| st_neq rfl rfl <| aB rfl <| en <| x_cond rfl (fun h2 => ?_) (fun h2 => ?_)
    ·try simp only [nm, ne_eq] at h2
     refine x_seq <| x_draw [(0, 0), (1, 0), (2, 0), (3, 0), (4, 0), (5, 0), (6, 0), (7, 0), (8, 0), (9, 0), (10, 0)] T.mixed rfl rfl rfl (fun W => W.heap[b8]? = w7.heap[b8]? ∧ True) ⟨rfl, trivial⟩ ?_
     have o20 := hb9
     have c19 := Chg.drew w7
     generalize World.drew w7 = w18 at c19 ⊢
     replace HC := HC.then c19
     replace ht := ht.tr0 c19
     replace hb9 := hb9.tr0 c19
     replace hs9 := hs9.tr0 c19
     replace ho9 := ho9.tr0 c19
     refine sq_q rfl (fun W hT => r_move (v := .pointer _) rfl) <| sq_q rfl (fun W hT => r_nilCheck rfl) <| sq_q rfl (fun W hT => r_fieldAddr T.fld68_3 rfl) <| sq_q rfl (fun W hT => r_load1 (v := .int _ _) T.one3 rfl (Blk.cell (show Blk W b8 _ _ from hT.1.trans o20) rfl)) <| sq_q rfl (fun W hT => r_move (v := .pointer _) rfl) <| sq_q rfl (fun W hT => r_nilCheck rfl) <| sq_q rfl (fun W hT => r_fieldAddr T.fld68_4 rfl) <| sq_q rfl (fun W hT => r_load1 (v := .int _ _) T.one25 rfl (Blk.cell (show Blk W b8 _ _ from hT.1.trans o20) rfl)) <| sq_q rfl (fun W hT => r_assign (v := .slice _ _ _) rfl) <| sq_q rfl (fun W hT => r_assign (v := .int _ _) rfl) <| sq_q rfl (fun W hT => r_assign (v := .int _ _) rfl) ?_
     clear o20
     refine sq_nil <| then_n <| x_ret <| block_r <| then_r <| ret_tmp3 (v := .slice _ _ _) (v2 := .int _ _) (v3 := .int _ _) rfl rfl rfl rfl ?_
     rw [hpv]
     exact ⟨none, 0, rfl, Own.nil, HC⟩
    ·try simp only [nm, ne_eq] at h2
     exact absurd h2 he1
  ·obtain ⟨rfl, ⟨At1, capt1, Ao1, capo1, hb9, hs9, hct9, ho9⟩, hwf1, hl1, cP⟩ := hP
   obtain ⟨x1, tl1, rfl⟩ := hwf1.ne
   replace HC : Chg [] w w7 := ((Chg.toP (M := fun k => b8 < k ∨ k = b8) HC (fun x hx => by cases hx)).trans cP (fun k hk => .inl hk)).toChg (fun k hk => .inr (by omega))
   replace ht := ht.trP cP (by show ¬ (b8 < 0 ∨ 0 = b8); omega)
   have hDtb : ¬ (fun k => k < b8) b8 := Nat.lt_irrefl _
   have hpv : parseV s L = if ¬ x1.1.1 = 0 then ([], x1.2, 101) else if 1000 < out1.length then ([], s.length, 108) else (out1, 0, 0) := by unfold parseV; rw [if_neg (fun h => h he0), hpr]; rfl
   refine en <| x_seq <| sr rfl <| mP rfl <| nc rfl <| fa T.fld68_0 rfl <| lL T.one52 rfl (hb9.cell rfl) ?_
   obtain ⟨lb25, _, vs24, hA21, hR23, hC22⟩ := hs9.at (i := 0) (x := x1) (rfl)
   obtain rfl : vs24 = tokC x1.1 x1.2 := hR23
   refine Wp rfl <| st_indexAddr T.u52 T.size60 (congrArg (fun z => Value.slice z _ _) hA21) rfl (by decide) (by simp) <| fa T.fld60_0 rfl <| lI T.one3 rfl (hC22.at (j := 0) rfl) <| Wp rfl <| st_neq rfl rfl <| en <| x_cond rfl (fun h1 => ?_) (fun h1 => ?_)
   ·try simp only [nm, ne_eq] at h1
    refine x_region rfl <| mP rfl <| Wp rfl <| st_call (ags := [_, _]) rfl rfl T.ent24 rfl (fail_spec (Dt := fun k => k < b8) (x := x1) (tl := tl1) 101 hb9 hs9 (Nat.lt_irrefl _) (fun k hk => by have := hb9.lt; omega)) ?_
    rintro _ w26 ⟨rfl, hb8, c27⟩
    rw [if_pos rfl, if_pos rfl] at hb8
    rw [if_pos h1] at hpv
    replace HC := HC.then1 c27 ge_b8
    replace ht := ht.tr c27 (by intro hx; have := ht.lt; have := ht1; simp only [List.mem_cons, List.mem_nil_iff, or_false] at hx; omega)
    refine en <| x_seq <| x_block <| sr rfl <| mP rfl <| nc rfl <| fa T.fld68_4 rfl <| lI T.one25 rfl (hb8.cell rfl) <| Wp rfl <| st_neq rfl rfl <| aB rfl <| en <| x_cond rfl (fun h2 => ?_) (fun h2 => ?_)
    ·try simp only [nm, ne_eq] at h2
     refine x_seq <| x_draw [(0, 0), (1, 0), (2, 0), (3, 0), (4, 0), (5, 0), (6, 0), (7, 0), (8, 0), (9, 0), (10, 0)] T.mixed rfl rfl rfl (fun W => W.heap[b8]? = w26.heap[b8]? ∧ True) ⟨rfl, trivial⟩ ?_
     have o30 := hb8
     have c29 := Chg.drew w26
     generalize World.drew w26 = w28 at c29 ⊢
     replace HC := HC.then c29
     replace ht := ht.tr0 c29
     replace hb8 := hb8.tr0 c29
     refine sq_q rfl (fun W hT => r_move (v := .pointer _) rfl) <| sq_q rfl (fun W hT => r_nilCheck rfl) <| sq_q rfl (fun W hT => r_fieldAddr T.fld68_3 rfl) <| sq_q rfl (fun W hT => r_load1 (v := .int _ _) T.one3 rfl (Blk.cell (show Blk W b8 _ _ from hT.1.trans o30) rfl)) <| sq_q rfl (fun W hT => r_move (v := .pointer _) rfl) <| sq_q rfl (fun W hT => r_nilCheck rfl) <| sq_q rfl (fun W hT => r_fieldAddr T.fld68_4 rfl) <| sq_q rfl (fun W hT => r_load1 (v := .int _ _) T.one25 rfl (Blk.cell (show Blk W b8 _ _ from hT.1.trans o30) rfl)) <| sq_q rfl (fun W hT => r_assign (v := .slice _ _ _) rfl) <| sq_q rfl (fun W hT => r_assign (v := .int _ _) rfl) <| sq_q rfl (fun W hT => r_assign (v := .int _ _) rfl) ?_
     clear o30
     refine sq_nil <| then_n <| x_ret <| block_r <| then_r <| ret_tmp3 (v := .slice _ _ _) (v2 := .int _ _) (v3 := .int _ _) rfl rfl rfl rfl ?_
     rw [hpv]
     exact ⟨none, 0, rfl, Own.nil, HC⟩
    ·try simp only [nm, ne_eq] at h2
     first | exact absurd rfl h2 | exact absurd trivial h2 | simp at h2
   ·try simp only [nm, ne_eq] at h1
    rw [if_neg (by omega)] at hpv
    refine x_skip <| then_n <| x_seq <| x_block <| sr rfl <| mP rfl <| nc rfl <| fa T.fld68_4 rfl <| lI T.one25 rfl (hb9.cell rfl) <| Wp rfl <| st_neq rfl rfl <| aB rfl <| en <| x_cond rfl (fun h2 => ?_) (fun h2 => ?_)
    ·try simp only [nm, ne_eq] at h2
     first | exact absurd rfl h2 | exact absurd trivial h2 | simp at h2
    ·try simp only [nm, ne_eq] at h2
     refine sr rfl <| mP rfl <| nc rfl <| fa T.fld68_1 rfl <| lL T.one32 rfl (hb9.cell rfl) <| Wp rfl <| st_len (ct := #[32]) (by rw [show ((#[32] : Array TypeId)[0]?).bind Tryz.prog.underlying = some (.slice 38) from T.u32]; rfl) rfl <| Wp rfl <| st_gtr rfl rfl <| aB rfl <| en <| x_cond rfl (fun h3 => ?_) (fun h3 => ?_)
     ·try simp only [nm, ne_eq] at h3
      rw [if_pos (by omega)] at hpv
      refine sr rfl <| mS rfl <| Wp rfl <| st_slen (ct := #[9]) T.u9 rfl <| aL rfl <| aI rfl <| aI rfl <| en <| x_ret <| block_r <| then_r <| ret_tmp3 (v := .slice _ _ _) (v2 := .int _ _) (v3 := .int _ _) rfl rfl rfl rfl ?_
      rw [hpv]
      exact ⟨none, 0, rfl, Own.nil, HC⟩
     ·try simp only [nm, ne_eq] at h3
      rw [if_neg (by omega)] at hpv
      refine x_skip <| block_n <| then_n <| sr rfl <| mP rfl <| nc rfl <| fa T.fld68_1 rfl <| lL T.one32 rfl (hb9.cell rfl) <| aL rfl <| aI rfl <| aI rfl <| en <| x_ret <| ret_tmp3 (v := .slice _ _ _) (v2 := .int _ _) (v3 := .int _ _) rfl rfl rfl rfl ?_
      rw [hpv]
      exact ⟨Ao1, capo1, rfl, ho9.mono (fun k _ h => by show w.heap.size ≤ k; have h2 : b8 < k := h; omega), HC⟩

end Go.Proofs.YtmbbhgglllfelaaGreatDoor.K
set_option linter.unusedVariables false
set_option linter.unusedSimpArgs false
set_option autoImplicit false
set_option maxRecDepth 20000
namespace Go.Proofs.YtmbbhgglllfelaaGreatDoor.K
open Go Go.Proofs Go.RowKit

/-- The level of an operator of two operands; 0: it is none. -/
def levelV (s : Bytes) : Int := if s = [124, 124] then 1 else if s = [38, 38] then 2 else if s = [124] then 3 else if s = [94] then 4 else if s = [38] then 5 else if s = [61, 61] then 6 else if s = [33, 61] then 6 else if s = [60] then 7 else if s = [60, 61] then 7 else if s = [62] then 7 else if s = [62, 61] then 7 else if s = [60, 60] then 8 else if s = [62, 62] then 8 else if s = [43] then 9 else if s = [45] then 9 else if s = [42] then 10 else if s = [47] then 10 else if s = [37] then 10 else 0
/-- An operation that can be, by itself. -/
def formP (x : Nd) : Bool :=
  if x.op = [35] then decide ((x.kids.length : Int) = 0) && (decide (x.name = []) && decide (0 ≤ x.num))
  else if x.op = [36] then decide ((x.kids.length : Int) = 0) && (nameV x.name && decide (x.num = 0))
  else if x.op ∈ asgL then decide ((x.kids.length : Int) = 1) && (nameV x.name && decide (x.num = 0))
  else if (x.op.length : Int) = 2 ∧ ((byte x.op 0).toNat : Int) = 117 ∧ x.op.drop 1 ∈ unL then decide ((x.kids.length : Int) = 1) && (decide (x.name = []) && decide (x.num = 0))
  else if x.op = [63] then decide ((x.kids.length : Int) = 3) && (decide (x.name = []) && decide (x.num = 0))
  else decide (0 < levelV x.op) && (decide ((x.kids.length : Int) = 2) && (decide (x.name = []) && decide (x.num = 0)))
def fitF : List Nd → Nat → List Int → Bool
  | [], _, st => decide (st.length = 1)
  | x :: l, i, st => if formP x = true ∧ x.kids.length ≤ st.length ∧ st.drop (st.length - x.kids.length) = x.kids then fitF l (i + 1) (st.take (st.length - x.kids.length) ++ [(i : Int)]) else false
def fitV (l : List Nd) : Bool := decide (1 ≤ l.length ∧ l.length ≤ 1000) && fitF l 0 []
theorem RAssigns_spec (s : Bytes) (w : World) : CallR Tryz.prog 12 #[S s] w fun v w' => v = .bool (decide (s ∈ asgL)) ∧ Chg [] w w' := by
 refine callR_of_wp (args := [_]) Tryz.func12 rfl (Nat.le_of_ble_eq_true rfl) ?_
 have HC : Chg [] w w := .refl _
 refine sr rfl <| aB rfl <| en <| x_seq <| sr rfl <| mS rfl <| en <| x_block <| x_seq <| sr rfl <| Wp rfl <| st_seql rfl rfl <| aB rfl <| en <| x_cond rfl (fun h0 => ?_) (fun h0 => ?_)
 ·try simp only [nm, ne_eq] at h0
  refine x_skip <| then_n <| x_cond rfl (fun h10 => ?_) (fun h10 => ?_)
  rotate_left
  · exfalso; simp_all
  refine sr rfl <| aB rfl <| en <| x_ret <| block_r <| then_r <| ret_tmp (v := .bool _) rfl rfl <| ⟨congrArg Value.bool ?_, HC⟩
  symm
  simp [asgL, *]
 ·try simp only [nm, ne_eq] at h0
  refine sr rfl <| Wp rfl <| st_seql rfl rfl <| aB rfl <| en <| x_cond rfl (fun h1 => ?_) (fun h1 => ?_)
  ·try simp only [nm, ne_eq] at h1
   refine x_skip <| then_n <| x_cond rfl (fun h10 => ?_) (fun h10 => ?_)
   rotate_left
   · exfalso; simp_all
   refine sr rfl <| aB rfl <| en <| x_ret <| block_r <| then_r <| ret_tmp (v := .bool _) rfl rfl <| ⟨congrArg Value.bool ?_, HC⟩
   symm
   simp [asgL, *]
  ·try simp only [nm, ne_eq] at h1
   refine sr rfl <| Wp rfl <| st_seql rfl rfl <| aB rfl <| en <| x_cond rfl (fun h2 => ?_) (fun h2 => ?_)
   ·try simp only [nm, ne_eq] at h2
    refine x_skip <| then_n <| x_cond rfl (fun h10 => ?_) (fun h10 => ?_)
    rotate_left
    · exfalso; simp_all
    refine sr rfl <| aB rfl <| en <| x_ret <| block_r <| then_r <| ret_tmp (v := .bool _) rfl rfl <| ⟨congrArg Value.bool ?_, HC⟩
    symm
    simp [asgL, *]
   ·try simp only [nm, ne_eq] at h2
    refine sr rfl <| Wp rfl <| st_seql rfl rfl <| aB rfl <| en <| x_cond rfl (fun h3 => ?_) (fun h3 => ?_)
    ·try simp only [nm, ne_eq] at h3
     refine x_skip <| then_n <| x_cond rfl (fun h10 => ?_) (fun h10 => ?_)
     rotate_left
     · exfalso; simp_all
     refine sr rfl <| aB rfl <| en <| x_ret <| block_r <| then_r <| ret_tmp (v := .bool _) rfl rfl <| ⟨congrArg Value.bool ?_, HC⟩
     symm
     simp [asgL, *]
    ·try simp only [nm, ne_eq] at h3
     refine sr rfl <| Wp rfl <| st_seql rfl rfl <| aB rfl <| en <| x_cond rfl (fun h4 => ?_) (fun h4 => ?_)
     ·try simp only [nm, ne_eq] at h4
      refine x_skip <| then_n <| x_cond rfl (fun h10 => ?_) (fun h10 => ?_)
      rotate_left
      · exfalso; simp_all
      refine sr rfl <| aB rfl <| en <| x_ret <| block_r <| then_r <| ret_tmp (v := .bool _) rfl rfl <| ⟨congrArg Value.bool ?_, HC⟩
      symm
      simp [asgL, *]
     ·try simp only [nm, ne_eq] at h4
      refine sr rfl <| Wp rfl <| st_seql rfl rfl <| aB rfl <| en <| x_cond rfl (fun h5 => ?_) (fun h5 => ?_)
      ·try simp only [nm, ne_eq] at h5
       refine x_skip <| then_n <| x_cond rfl (fun h10 => ?_) (fun h10 => ?_)
       rotate_left
       · exfalso; simp_all
       refine sr rfl <| aB rfl <| en <| x_ret <| block_r <| then_r <| ret_tmp (v := .bool _) rfl rfl <| ⟨congrArg Value.bool ?_, HC⟩
       symm
       simp [asgL, *]
      ·try simp only [nm, ne_eq] at h5
       refine sr rfl <| Wp rfl <| st_seql rfl rfl <| aB rfl <| en <| x_cond rfl (fun h6 => ?_) (fun h6 => ?_)
       ·try simp only [nm, ne_eq] at h6
        refine x_skip <| then_n <| x_cond rfl (fun h10 => ?_) (fun h10 => ?_)
        rotate_left
        · exfalso; simp_all
        refine sr rfl <| aB rfl <| en <| x_ret <| block_r <| then_r <| ret_tmp (v := .bool _) rfl rfl <| ⟨congrArg Value.bool ?_, HC⟩
        symm
        simp [asgL, *]
       ·try simp only [nm, ne_eq] at h6
        refine sr rfl <| Wp rfl <| st_seql rfl rfl <| aB rfl <| en <| x_cond rfl (fun h7 => ?_) (fun h7 => ?_)
        ·try simp only [nm, ne_eq] at h7
         refine x_skip <| then_n <| x_cond rfl (fun h10 => ?_) (fun h10 => ?_)
         rotate_left
         · exfalso; simp_all
         refine sr rfl <| aB rfl <| en <| x_ret <| block_r <| then_r <| ret_tmp (v := .bool _) rfl rfl <| ⟨congrArg Value.bool ?_, HC⟩
         symm
         simp [asgL, *]
        ·try simp only [nm, ne_eq] at h7
         refine sr rfl <| Wp rfl <| st_seql rfl rfl <| aB rfl <| en <| x_cond rfl (fun h8 => ?_) (fun h8 => ?_)
         ·try simp only [nm, ne_eq] at h8
          refine x_skip <| then_n <| x_cond rfl (fun h10 => ?_) (fun h10 => ?_)
          rotate_left
          · exfalso; simp_all
          refine sr rfl <| aB rfl <| en <| x_ret <| block_r <| then_r <| ret_tmp (v := .bool _) rfl rfl <| ⟨congrArg Value.bool ?_, HC⟩
          symm
          simp [asgL, *]
         ·try simp only [nm, ne_eq] at h8
          refine sr rfl <| Wp rfl <| st_seql rfl rfl <| aB rfl <| en <| x_cond rfl (fun h9 => ?_) (fun h9 => ?_)
          ·try simp only [nm, ne_eq] at h9
           refine x_skip <| then_n <| x_cond rfl (fun h10 => ?_) (fun h10 => ?_)
           rotate_left
           · exfalso; simp_all
           refine sr rfl <| aB rfl <| en <| x_ret <| block_r <| then_r <| ret_tmp (v := .bool _) rfl rfl <| ⟨congrArg Value.bool ?_, HC⟩
           symm
           simp [asgL, *]
          ·try simp only [nm, ne_eq] at h9
           refine x_region rfl <| Wp rfl <| st_seql rfl rfl <| aB rfl <| en <| x_cond rfl (fun h10 => ?_) (fun h10 => ?_)
           ·try simp only [nm, ne_eq] at h10
            refine sr rfl <| aB rfl <| en <| x_ret <| block_r <| then_r <| ret_tmp (v := .bool _) rfl rfl <| ⟨congrArg Value.bool ?_, HC⟩
            symm
            simp [asgL, *]
           ·try simp only [nm, ne_eq] at h10
            refine x_skip <| block_n <| then_n <| sr rfl <| aB rfl <| en <| x_ret <| ret_tmp (v := .bool _) rfl rfl <| ⟨congrArg Value.bool ?_, HC⟩
            symm
            simp [asgL, *]

theorem Runary_spec (s : Bytes) (w : World) : CallR Tryz.prog 113 #[S s] w fun v w' => v = .bool (decide (s ∈ unL)) ∧ Chg [] w w' := by
 refine callR_of_wp (args := [_]) Tryz.func113 rfl (Nat.le_of_ble_eq_true rfl) ?_
 have HC : Chg [] w w := .refl _
 refine sr rfl <| aB rfl <| en <| sr rfl <| mS rfl <| Wp rfl <| st_seql rfl rfl <| mB rfl <| w_split (d := 5) rfl (fun g1 => ?_) (fun g1 => ?_)
 ·try simp only [nm, ne_eq] at g1
  refine w_no 2 5 false <| w_no 2 5 false <| pT rfl rfl <| mB rfl <| w_no 6 9 false <| w_no 6 9 false <| pT rfl rfl <| mB rfl <| w_no 10 13 false <| w_no 10 13 false <| pT rfl rfl <| aB rfl <| en <| x_ret <| ret_tmp (v := .bool _) rfl rfl <| ⟨congrArg Value.bool ?_, HC⟩
  rw [Bool.eq_iff_iff]
  simp [unL, *]
 ·try simp only [nm, ne_eq] at g1
  refine w_yes 2 5 false <| st_move (v := S _) rfl <| w_yes 2 5 false <| st_seql rfl rfl <| pF rfl rfl <| mB rfl <| w_split (d := 9) rfl (fun g2 => ?_) (fun g2 => ?_)
  ·try simp only [nm, ne_eq] at g2
   refine w_no 6 9 false <| w_no 6 9 false <| pT rfl rfl <| mB rfl <| w_no 10 13 false <| w_no 10 13 false <| pT rfl rfl <| aB rfl <| en <| x_ret <| ret_tmp (v := .bool _) rfl rfl <| ⟨congrArg Value.bool ?_, HC⟩
   rw [Bool.eq_iff_iff]
   simp [unL, *]
  ·try simp only [nm, ne_eq] at g2
   refine w_yes 6 9 false <| st_move (v := S _) rfl <| w_yes 6 9 false <| st_seql rfl rfl <| pF rfl rfl <| mB rfl <| w_split (d := 13) rfl (fun g3 => ?_) (fun g3 => ?_)
   ·try simp only [nm, ne_eq] at g3
    refine w_no 10 13 false <| w_no 10 13 false <| pT rfl rfl <| aB rfl <| en <| x_ret <| ret_tmp (v := .bool _) rfl rfl <| ⟨congrArg Value.bool ?_, HC⟩
    rw [Bool.eq_iff_iff]
    simp [unL, *]
   ·try simp only [nm, ne_eq] at g3
    refine w_yes 10 13 false <| st_move (v := S _) rfl <| w_yes 10 13 false <| st_seql rfl rfl <| pF rfl rfl <| aB rfl <| en <| x_ret <| ret_tmp (v := .bool _) rfl rfl <| ⟨congrArg Value.bool ?_, HC⟩
    rw [Bool.eq_iff_iff]
    simp [unL, *]

theorem Level_spec (s : Bytes) (w : World) : CallR Tryz.prog 78 #[S s] w fun v w' => v = .int .i64 (levelV s) ∧ Chg [] w w' := by
 refine callR_of_wp (args := [_]) Tryz.func78 rfl (Nat.le_of_ble_eq_true rfl) ?_
 have HC : Chg [] w w := .refl _
 refine sr rfl <| aI rfl <| en <| x_seq <| sr rfl <| mS rfl <| en <| x_block <| sr rfl <| Wp rfl <| st_seql rfl rfl <| aB rfl <| en <| x_cond rfl (fun h0 => ?_) (fun h0 => ?_)
 ·try simp only [nm, ne_eq] at h0
  refine sr rfl <| aI rfl <| en <| x_ret <| block_r <| then_r <| ret_tmp (v := .int _ _) rfl rfl <| ⟨congrArg (Value.int .i64) ?_, HC⟩
  symm
  simp [levelV, *]
 ·try simp only [nm, ne_eq] at h0
  refine sr rfl <| Wp rfl <| st_seql rfl rfl <| aB rfl <| en <| x_cond rfl (fun h1 => ?_) (fun h1 => ?_)
  ·try simp only [nm, ne_eq] at h1
   refine sr rfl <| aI rfl <| en <| x_ret <| block_r <| then_r <| ret_tmp (v := .int _ _) rfl rfl <| ⟨congrArg (Value.int .i64) ?_, HC⟩
   symm
   simp [levelV, *]
  ·try simp only [nm, ne_eq] at h1
   refine sr rfl <| Wp rfl <| st_seql rfl rfl <| aB rfl <| en <| x_cond rfl (fun h2 => ?_) (fun h2 => ?_)
   ·try simp only [nm, ne_eq] at h2
    refine sr rfl <| aI rfl <| en <| x_ret <| block_r <| then_r <| ret_tmp (v := .int _ _) rfl rfl <| ⟨congrArg (Value.int .i64) ?_, HC⟩
    symm
    simp [levelV, *]
   ·try simp only [nm, ne_eq] at h2
    refine sr rfl <| Wp rfl <| st_seql rfl rfl <| aB rfl <| en <| x_cond rfl (fun h3 => ?_) (fun h3 => ?_)
    ·try simp only [nm, ne_eq] at h3
     refine sr rfl <| aI rfl <| en <| x_ret <| block_r <| then_r <| ret_tmp (v := .int _ _) rfl rfl <| ⟨congrArg (Value.int .i64) ?_, HC⟩
     symm
     simp [levelV, *]
    ·try simp only [nm, ne_eq] at h3
     refine sr rfl <| Wp rfl <| st_seql rfl rfl <| aB rfl <| en <| x_cond rfl (fun h4 => ?_) (fun h4 => ?_)
     ·try simp only [nm, ne_eq] at h4
      refine sr rfl <| aI rfl <| en <| x_ret <| block_r <| then_r <| ret_tmp (v := .int _ _) rfl rfl <| ⟨congrArg (Value.int .i64) ?_, HC⟩
      symm
      simp [levelV, *]
     ·try simp only [nm, ne_eq] at h4
      refine x_seq <| sr rfl <| Wp rfl <| st_seql rfl rfl <| aB rfl <| en <| x_cond rfl (fun h5 => ?_) (fun h5 => ?_)
      ·try simp only [nm, ne_eq] at h5
       refine x_skip <| then_n <| x_cond rfl (fun h6 => ?_) (fun h6 => ?_)
       rotate_left
       · exfalso; simp_all
       refine sr rfl <| aI rfl <| en <| x_ret <| block_r <| then_r <| ret_tmp (v := .int _ _) rfl rfl <| ⟨congrArg (Value.int .i64) ?_, HC⟩
       symm
       simp [levelV, *]
      ·try simp only [nm, ne_eq] at h5
       refine x_region rfl <| Wp rfl <| st_seql rfl rfl <| aB rfl <| en <| x_cond rfl (fun h6 => ?_) (fun h6 => ?_)
       ·try simp only [nm, ne_eq] at h6
        refine sr rfl <| aI rfl <| en <| x_ret <| block_r <| then_r <| ret_tmp (v := .int _ _) rfl rfl <| ⟨congrArg (Value.int .i64) ?_, HC⟩
        symm
        simp [levelV, *]
       ·try simp only [nm, ne_eq] at h6
        refine x_seq <| sr rfl <| Wp rfl <| st_seql rfl rfl <| aB rfl <| en <| x_cond rfl (fun h7 => ?_) (fun h7 => ?_)
        ·try simp only [nm, ne_eq] at h7
         refine x_skip <| then_n <| x_cond rfl (fun h10 => ?_) (fun h10 => ?_)
         rotate_left
         · exfalso; simp_all
         refine sr rfl <| aI rfl <| en <| x_ret <| block_r <| then_r <| ret_tmp (v := .int _ _) rfl rfl <| ⟨congrArg (Value.int .i64) ?_, HC⟩
         symm
         simp [levelV, *]
        ·try simp only [nm, ne_eq] at h7
         refine sr rfl <| Wp rfl <| st_seql rfl rfl <| aB rfl <| en <| x_cond rfl (fun h8 => ?_) (fun h8 => ?_)
         ·try simp only [nm, ne_eq] at h8
          refine x_skip <| then_n <| x_cond rfl (fun h10 => ?_) (fun h10 => ?_)
          rotate_left
          · exfalso; simp_all
          refine sr rfl <| aI rfl <| en <| x_ret <| block_r <| then_r <| ret_tmp (v := .int _ _) rfl rfl <| ⟨congrArg (Value.int .i64) ?_, HC⟩
          symm
          simp [levelV, *]
         ·try simp only [nm, ne_eq] at h8
          refine sr rfl <| Wp rfl <| st_seql rfl rfl <| aB rfl <| en <| x_cond rfl (fun h9 => ?_) (fun h9 => ?_)
          ·try simp only [nm, ne_eq] at h9
           refine x_skip <| then_n <| x_cond rfl (fun h10 => ?_) (fun h10 => ?_)
           rotate_left
           · exfalso; simp_all
           refine sr rfl <| aI rfl <| en <| x_ret <| block_r <| then_r <| ret_tmp (v := .int _ _) rfl rfl <| ⟨congrArg (Value.int .i64) ?_, HC⟩
           symm
           simp [levelV, *]
          ·try simp only [nm, ne_eq] at h9
           refine x_region rfl <| Wp rfl <| st_seql rfl rfl <| aB rfl <| en <| x_cond rfl (fun h10 => ?_) (fun h10 => ?_)
           ·try simp only [nm, ne_eq] at h10
            refine sr rfl <| aI rfl <| en <| x_ret <| block_r <| then_r <| ret_tmp (v := .int _ _) rfl rfl <| ⟨congrArg (Value.int .i64) ?_, HC⟩
            symm
            simp [levelV, *]
           ·try simp only [nm, ne_eq] at h10
            refine x_seq <| sr rfl <| Wp rfl <| st_seql rfl rfl <| aB rfl <| en <| x_cond rfl (fun h11 => ?_) (fun h11 => ?_)
            ·try simp only [nm, ne_eq] at h11
             refine x_skip <| then_n <| x_cond rfl (fun h12 => ?_) (fun h12 => ?_)
             rotate_left
             · exfalso; simp_all
             refine sr rfl <| aI rfl <| en <| x_ret <| block_r <| then_r <| ret_tmp (v := .int _ _) rfl rfl <| ⟨congrArg (Value.int .i64) ?_, HC⟩
             symm
             simp [levelV, *]
            ·try simp only [nm, ne_eq] at h11
             refine x_region rfl <| Wp rfl <| st_seql rfl rfl <| aB rfl <| en <| x_cond rfl (fun h12 => ?_) (fun h12 => ?_)
             ·try simp only [nm, ne_eq] at h12
              refine sr rfl <| aI rfl <| en <| x_ret <| block_r <| then_r <| ret_tmp (v := .int _ _) rfl rfl <| ⟨congrArg (Value.int .i64) ?_, HC⟩
              symm
              simp [levelV, *]
             ·try simp only [nm, ne_eq] at h12
              refine x_seq <| sr rfl <| Wp rfl <| st_seql rfl rfl <| aB rfl <| en <| x_cond rfl (fun h13 => ?_) (fun h13 => ?_)
              ·try simp only [nm, ne_eq] at h13
               refine x_skip <| then_n <| x_cond rfl (fun h14 => ?_) (fun h14 => ?_)
               rotate_left
               · exfalso; simp_all
               refine sr rfl <| aI rfl <| en <| x_ret <| block_r <| then_r <| ret_tmp (v := .int _ _) rfl rfl <| ⟨congrArg (Value.int .i64) ?_, HC⟩
               symm
               simp [levelV, *]
              ·try simp only [nm, ne_eq] at h13
               refine x_region rfl <| Wp rfl <| st_seql rfl rfl <| aB rfl <| en <| x_cond rfl (fun h14 => ?_) (fun h14 => ?_)
               ·try simp only [nm, ne_eq] at h14
                refine sr rfl <| aI rfl <| en <| x_ret <| block_r <| then_r <| ret_tmp (v := .int _ _) rfl rfl <| ⟨congrArg (Value.int .i64) ?_, HC⟩
                symm
                simp [levelV, *]
               ·try simp only [nm, ne_eq] at h14
                refine x_seq <| sr rfl <| Wp rfl <| st_seql rfl rfl <| aB rfl <| en <| x_cond rfl (fun h15 => ?_) (fun h15 => ?_)
                ·try simp only [nm, ne_eq] at h15
                 refine x_skip <| then_n <| x_cond rfl (fun h17 => ?_) (fun h17 => ?_)
                 rotate_left
                 · exfalso; simp_all
                 refine sr rfl <| aI rfl <| en <| x_ret <| block_r <| then_r <| ret_tmp (v := .int _ _) rfl rfl <| ⟨congrArg (Value.int .i64) ?_, HC⟩
                 symm
                 simp [levelV, *]
                ·try simp only [nm, ne_eq] at h15
                 refine sr rfl <| Wp rfl <| st_seql rfl rfl <| aB rfl <| en <| x_cond rfl (fun h16 => ?_) (fun h16 => ?_)
                 ·try simp only [nm, ne_eq] at h16
                  refine x_skip <| then_n <| x_cond rfl (fun h17 => ?_) (fun h17 => ?_)
                  rotate_left
                  · exfalso; simp_all
                  refine sr rfl <| aI rfl <| en <| x_ret <| block_r <| then_r <| ret_tmp (v := .int _ _) rfl rfl <| ⟨congrArg (Value.int .i64) ?_, HC⟩
                  symm
                  simp [levelV, *]
                 ·try simp only [nm, ne_eq] at h16
                  refine x_region rfl <| Wp rfl <| st_seql rfl rfl <| aB rfl <| en <| x_cond rfl (fun h17 => ?_) (fun h17 => ?_)
                  ·try simp only [nm, ne_eq] at h17
                   refine sr rfl <| aI rfl <| en <| x_ret <| block_r <| then_r <| ret_tmp (v := .int _ _) rfl rfl <| ⟨congrArg (Value.int .i64) ?_, HC⟩
                   symm
                   simp [levelV, *]
                  ·try simp only [nm, ne_eq] at h17
                   refine x_skip <| block_n <| then_n <| sr rfl <| aI rfl <| en <| x_ret <| ret_tmp (v := .int _ _) rfl rfl <| ⟨congrArg (Value.int .i64) ?_, HC⟩
                   symm
                   simp [levelV, *]

theorem fitF_step {l : List Nd} {i : Nat} {x : Nd} {st : List Int} (h : l[i]? = some x) : fitF (l.drop i) i st = if formP x = true ∧ x.kids.length ≤ st.length ∧ st.drop (st.length - x.kids.length) = x.kids then fitF (l.drop (i + 1)) (i + 1) (st.take (st.length - x.kids.length) ++ [(i : Int)]) else false := by
  obtain ⟨hi, he⟩ := List.getElem?_eq_some_iff.1 h
  rw [List.drop_eq_getElem_cons hi, he, fitF]

end Go.Proofs.YtmbbhgglllfelaaGreatDoor.K
set_option linter.unusedVariables false
set_option linter.unusedSimpArgs false
set_option autoImplicit false
set_option maxRecDepth 20000
namespace Go.Proofs.YtmbbhgglllfelaaGreatDoor.K
open Go Go.Proofs Go.RowKit

end Go.Proofs.YtmbbhgglllfelaaGreatDoor.K
set_option linter.unusedVariables false
set_option linter.unusedSimpArgs false
set_option autoImplicit false
set_option maxRecDepth 20000
namespace Go.Proofs.YtmbbhgglllfelaaGreatDoor.K
open Go Go.Proofs Go.RowKit

/-- A number's digits. -/
def decT (n : Nat) : Bytes := if h : n < 10 then [digC n] else decT (n / 10) ++ [digC (n % 10)]
termination_by n
decreasing_by omega
def bV (c : UInt8) : Value := .int .u8 (c.toNat : Int)
/-- What the loop over the digits keeps. -/
def TI (n a m : Nat) (z : Bytes) (cs : List Value) : Prop := cs.length = 20 ∧ a + z.length = 20 ∧ cs.drop a = z.map bV ∧ decT n = decT m ++ z ∧ m * 10 ^ z.length ≤ n ∧ (z = [] ∨ 0 < m)
theorem TI.pos {n a m : Nat} {z : Bytes} {cs : List Value} (hn : n ≤ 9223372036854775808) (h : TI n a m z cs) : 1 ≤ a := by
  obtain ⟨_, h2, _, _, h5, h6⟩ := h
  rcases h6 with rfl | h6
  · simp at h2; omega
  · have h7 : 10 ^ z.length ≤ n := Nat.le_trans (Nat.le_mul_of_pos_left _ h6) h5
    have h8 : 10 ^ z.length < 10 ^ 19 := by have : (10 : Nat) ^ 19 = 10000000000000000000 := rfl; omega
    have := (Nat.pow_lt_pow_iff_right (by omega : 1 < 10)).1 h8
    omega
theorem TI.cells {n a m : Nat} {z : Bytes} {cs : List Value} {c : UInt8} (hn : n ≤ 9223372036854775808) (h : TI n a m z cs) : (cs.set (a - 1) (bV c)).length = 20 ∧ (cs.set (a - 1) (bV c)).drop (a - 1) = (c :: z).map bV := by
  have hp := h.pos hn
  obtain ⟨h1, h2, h3, _⟩ := h
  refine ⟨by simpa using h1, ?_⟩
  have hlt : a - 1 < cs.length := by omega
  rw [List.drop_eq_getElem_cons (by simpa using hlt), List.getElem_set_self, List.drop_set, if_pos (by omega), show a - 1 + 1 = a by omega, h3]
  rfl
theorem TI.last {n a m : Nat} {z : Bytes} {cs : List Value} (h : TI n a m z cs) (hm : m / 10 = 0) : decT n = digC (m % 10) :: z := by
  have hlt : m < 10 := by omega
  rw [h.2.2.2.1, decT, dif_pos hlt, Nat.mod_eq_of_lt hlt]; rfl
theorem TI.step {n a m : Nat} {z : Bytes} {cs : List Value} (hn : n ≤ 9223372036854775808) (h : TI n a m z cs) (hm : ¬ m / 10 = 0) : TI n (a - 1) (m / 10) (digC (m % 10) :: z) (cs.set (a - 1) (bV (digC (m % 10)))) := by
  have hp := h.pos hn
  have hc := h.cells (c := digC (m % 10)) hn
  obtain ⟨h1, h2, h3, h4, h5, h6⟩ := h
  refine ⟨hc.1, by simp only [List.length_cons]; omega, hc.2, ?_, ?_, .inr (by omega)⟩
  · rw [h4, decT, dif_neg (by omega)]; simp
  · rw [List.length_cons, Nat.pow_succ, Nat.mul_comm (10 ^ z.length), ← Nat.mul_assoc]
    exact Nat.le_trans (Nat.mul_le_mul_right _ (Nat.div_mul_le_self m 10)) h5
theorem digC_nat : ((List.range 10).all fun d => decide ((digC d).toNat = 48 + d)) = true := by kernel_rfl
theorem digC_to {d : Nat} (h : d < 10) : (digC d).toNat = 48 + d := of_decide_eq_true (List.all_eq_true.1 digC_nat d (List.mem_range.2 h))
theorem sl_cut {w : World} {b i : Nat} {cs : List Value} {z : Bytes} {T : TypeId} (h : Blk w b cs T) (hz : cs.drop i = z.map bV) : Sl uE w (fun _ => True) (some ⟨b, 0 + i * 1, none⟩) z :=
  .inr ⟨b, 0 + i * 1, rfl, h.lt, trivial, fun j x hx => ⟨_, rfl, fun j2 v hj => by
    cases j2 with
    | succ j2 => simp at hj
    | zero =>
      simp at hj; subst hj
      refine h.cell ?_
      rw [nthV_eq]
      have h1 : (cs.drop i)[j]? = some (bV x) := by rw [hz, List.getElem?_map, hx]; rfl
      rw [List.getElem?_drop] at h1
      show cs[0 + i * 1 + j * 1 + 0]? = _
      rw [show 0 + i * 1 + j * 1 + 0 = i + j by omega]; exact h1⟩⟩

theorem Text_spec (n : Nat) (hn : n ≤ 9223372036854775807) (w : World) : CallR Tryz.prog 20 #[.int .i64 (n : Int)] w fun v w' => v = S (decT n) ∧ Chg [] w w' := by
 have hn0 := hn
 replace hn : n ≤ 9223372036854775808 := by omega
 refine callR_of_wp (args := [_]) Tryz.func20 rfl (Nat.le_of_ble_eq_true rfl) ?_
 have HC : Chg [] w w := .refl _
 refine sr rfl <| aS rfl <| en <| sr rfl <| Wp rfl <| st_alloc T.zero86 ?_
 intro b3 w1 e2 c3 hb4
 have ge_b3 : w.heap.size ≤ b3 := by rw [e2]; exact HC.size
 replace HC := HC.then c3
 clear e2
 refine en <| sr rfl <| mI rfl <| Wp rfl <| st_convk T.u2 T.u87 rfl (by exact wrapu64_id (by omega) (by omega)) <| aI rfl <| aI rfl <| en <| x_seq <| sr rfl <| mI rfl <| Wp rfl <| st_lss rfl rfl <| en <| x_cond rfl (fun h0 => ?_) (fun h0 => ?_)
 ·try simp only [nm, ne_eq] at h0
  exfalso; omega
 ·try simp only [nm, ne_eq] at h0
  refine x_skip <| then_n <| x_seq <| x_block <| x_loop (ι := Nat × Nat × Bytes × List Value) [4, 5, 12, 13, 14, 15, 16, 17, 18, 19, 20, 21, 22, 23] (fun ⟨a, m, z, cs⟩ => [(4, .int .i64 (a : Int)), (5, .int .u64 (m : Int))]) (fun ⟨a, m, z, cs⟩ W => (TI n a m z cs) ∧ (Chg [] w W) ∧ (Blk W b3 cs 86)) (fun ⟨a, m, z, cs⟩ => a) (20, n, [], [.int .u8 0, .int .u8 0, .int .u8 0, .int .u8 0, .int .u8 0, .int .u8 0, .int .u8 0, .int .u8 0, .int .u8 0, .int .u8 0, .int .u8 0, .int .u8 0, .int .u8 0, .int .u8 0, .int .u8 0, .int .u8 0, .int .u8 0, .int .u8 0, .int .u8 0, .int .u8 0]) ?_ ?_ ?_
  · exact ⟨rfl, rfl, trivial⟩
  ·refine ⟨?_, HC, hb4⟩
   exact ⟨rfl, rfl, rfl, by simp, by simp, .inl rfl⟩
  intro ⟨a, m, z, cs⟩ G6 w5 ⟨hTI, HC, hb3⟩
  change wp _ _ _ _ _ (upds (over _ _ G6) [(4, .int .i64 (a : Int)), (5, .int .u64 (m : Int))]) _ _
  have ha := hTI.pos hn
  have ha2 : a ≤ 20 := by have := hTI.2.1; omega
  have hmn : m ≤ n := Nat.le_trans (Nat.le_mul_of_pos_right _ (Nat.pos_of_ne_zero (by simp))) hTI.2.2.2.2.1
  have hd := digC_to (d := m % 10) (by omega)
  have hs13 : IntKind.i64.wrap ((a : Int) - 1) = ((a - 1 : Nat) : Int) := by rw [wrap64_id (by omega) (by omega)]; omega
  have hm16 : (m : Int).tmod 10 = ((m % 10 : Nat) : Int) := by rw [Int.tmod_eq_emod_of_nonneg (by omega)]; omega
  have hd18 : IntKind.u8.wrap (48 + ((m % 10 : Nat) : Int)) = ((digC (m % 10)).toNat : Int) := by rw [wrapu8_id (by omega) (by omega)]; omega
  have hq21 : IntKind.u64.wrap ((m : Int).tdiv 10) = ((m / 10 : Nat) : Int) := by rw [quou64 (by omega) (by omega) (by omega)]; omega
  refine x_block <| sr rfl <| mI rfl <| Wp rfl <| st_subk rfl rfl (by exact hs13) <| aI rfl <| en <| sr rfl <| mI rfl <| mI rfl <| Wp rfl <| st_remk rfl rfl (by decide) (by exact hm16) <| Wp rfl <| st_convk T.u87 T.u5 rfl (by exact wrapu8_id (by omega) (by omega)) <| Wp rfl <| st_addk rfl rfl (by exact hd18) <| Wp rfl <| st_arrAddr T.u86 T.size5 rfl rfl (by omega) (by omega) <| Wp rfl <| st_store (v := .int _ _) T.size5 rfl rfl rfl hb3 rfl (by have := hTI.1; simp only [List.length_singleton, Int.toNat_natCast]; omega) (by simp [Value.oneCell', S]) rfl ?_
  intro w7 c8 hb9
  replace hb9 : Blk w7 b3 (cs.set (a - 1) (bV (digC (m % 10)))) 86 := by have := hb9; simpa [setVs, setV_eq, Int.toNat_natCast, Nat.zero_add, bV] using this
  clear hb3
  replace HC := HC.then1 c8 ge_b3
  refine en <| sr rfl <| mI rfl <| Wp rfl <| st_quok rfl rfl (by decide) (by exact hq21) <| aI rfl <| en <| sr rfl <| mI rfl <| Wp rfl <| st_eql rfl rfl <| en <| x_cond rfl (fun h1 => ?_) (fun h1 => ?_)
  ·try simp only [nm, ne_eq] at h1
   have hfin := hTI.last (by omega)
   have hcs := hTI.cells (c := digC (m % 10)) hn
   refine x_exit <| block_o rfl <| then_x <| block_x <| then_n <| x_seq <| sr rfl <| mI rfl <| Wp rfl <| st_lss rfl rfl <| en <| x_cond rfl (fun h2 => ?_) (fun h2 => ?_)
   ·try simp only [nm, ne_eq] at h2
    exfalso; omega
   ·try simp only [nm, ne_eq] at h2
    refine x_skip <| then_n <| sr rfl <| mI rfl <| Wp rfl <| st_arrCut (i := a - 1) (k := (digC (m % 10) :: z).length) T.u86 T.size5 rfl ⟨_, rfl⟩ (by omega) (by simp only [List.length_cons]; have := hTI.2.1; omega) <| Wp rfl <| st_bytesStr T.u88 T.u5 T.u9 rfl (sl_cut hb9 hcs.2) <| aS rfl <| en <| x_ret <| ret_tmp (v := S _) rfl rfl ?_
    rw [hfin]
    exact ⟨rfl, HC⟩
  ·try simp only [nm, ne_eq] at h1
   refine x_skip <| block_n <| then_n <| ⟨(a - 1, m / 10, digC (m % 10) :: z, cs.set (a - 1) (bV (digC (m % 10)))), ?_, ?_, rfl, ⟨rfl, rfl, trivial⟩, ?_⟩
   ·refine ⟨?_, HC, hb9⟩
    exact hTI.step hn (by omega)
   ·show a - 1 < a; omega
   repeat (first | exact agree_upds agree_over rfl | refine agree_upd ?_ rfl | refine agree_upds ?_ rfl | refine agree_over_sub ?_ rfl)

end Go.Proofs.YtmbbhgglllfelaaGreatDoor.K
