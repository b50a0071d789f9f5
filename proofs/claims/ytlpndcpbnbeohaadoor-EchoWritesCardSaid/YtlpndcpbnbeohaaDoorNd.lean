/- The document: conversions carried out. -/
import Derived.Test.YtlpndcpbnbeohaaDoorNc
set_option linter.unusedVariables false
set_option linter.unusedSimpArgs false
set_option autoImplicit false
set_option maxRecDepth 20000
namespace Go.Proofs.YtlpndcpbnbeohaaDoor.K
open Go Go.Proofs Go.RowKit

/-- A read whose answer hangs on when it is done: done in the world as it stands. -/
theorem sq_peek {P : Program} {l : List Oper} {K : (World → Prop) → Env → World → Prop} {T : World → Prop} {E : Env} {w : World} {i : Nat} {rest : List (Nat × Nat)} {o : Oper} {v : Value} (ho : l[i]? = some o) (hr : (execOp (ev E) o).run P w = .ok (.value v) w)
    (h : ∃ T' : World → Prop, (∀ x, T' x → T x) ∧ T' w ∧ seqP P l K rest T' (updo E o.dst v) w) (hw : wantE l o E = true := by rfl) : seqP P l K ((i, 1) :: rest) T E w := by
  obtain ⟨T', h1, h2, h3⟩ := h
  exact sq_run1 ho hr T' h1 h2 h3 hw

theorem dgs_tab : ((List.range 16).all fun d => (decide (10 ≤ d) || decide (byte [48, 49, 50, 51, 52, 53, 54, 55, 56, 57] d = digH d)) && (decide (8 ≤ d) || decide (byte [48, 49, 50, 51, 52, 53, 54, 55] d = digH d)) && decide (byte [48, 49, 50, 51, 52, 53, 54, 55, 56, 57, 97, 98, 99, 100, 101, 102] d = digH d) && decide (byte [48, 49, 50, 51, 52, 53, 54, 55, 56, 57, 65, 66, 67, 68, 69, 70] d = Lib.upperB (digH d))) = true := by kernel_rfl
theorem dgs_at {d : Nat} (h : d < 16) : (d < 10 → byte [48, 49, 50, 51, 52, 53, 54, 55, 56, 57] d = digH d) ∧ (d < 8 → byte [48, 49, 50, 51, 52, 53, 54, 55] d = digH d) ∧ byte [48, 49, 50, 51, 52, 53, 54, 55, 56, 57, 97, 98, 99, 100, 101, 102] d = digH d ∧ byte [48, 49, 50, 51, 52, 53, 54, 55, 56, 57, 65, 66, 67, 68, 69, 70] d = Lib.upperB (digH d) := by
  have := List.all_eq_true.1 dgs_tab d (List.mem_range.2 h)
  simp only [Bool.and_eq_true, Bool.or_eq_true, decide_eq_true_eq] at this
  exact ⟨fun h2 => this.1.1.1.resolve_left (by omega), fun h2 => this.1.1.2.resolve_left (by omega), this.1.2, this.2⟩
theorem rdig10 (n : Nat) (hn : n ≤ 18446744073709551615) (w : World) : CallR Tryd.prog 50 #[.int .u64 (n : Int), .int .u64 10, S [48, 49, 50, 51, 52, 53, 54, 55, 56, 57]] w fun v w' => v = S (basV 10 n) ∧ Chg [] w w' := by
  have := rdigits_spec n 10 [48, 49, 50, 51, 52, 53, 54, 55, 56, 57] (fun c => c) hn (by omega) (by decide) (fun d hd => (dgs_at (by omega)).1 hd) w
  rw [List.map_id'] at this; exact this
theorem rdig8 (n : Nat) (hn : n ≤ 18446744073709551615) (w : World) : CallR Tryd.prog 50 #[.int .u64 (n : Int), .int .u64 8, S [48, 49, 50, 51, 52, 53, 54, 55]] w fun v w' => v = S (basV 8 n) ∧ Chg [] w w' := by
  have := rdigits_spec n 8 [48, 49, 50, 51, 52, 53, 54, 55] (fun c => c) hn (by omega) (by decide) (fun d hd => (dgs_at (by omega)).2.1 hd) w
  rw [List.map_id'] at this; exact this
theorem rdig16 (n : Nat) (hn : n ≤ 18446744073709551615) (w : World) : CallR Tryd.prog 50 #[.int .u64 (n : Int), .int .u64 16, S [48, 49, 50, 51, 52, 53, 54, 55, 56, 57, 97, 98, 99, 100, 101, 102]] w fun v w' => v = S (basV 16 n) ∧ Chg [] w w' := by
  have := rdigits_spec n 16 [48, 49, 50, 51, 52, 53, 54, 55, 56, 57, 97, 98, 99, 100, 101, 102] (fun c => c) hn (by omega) (by decide) (fun d hd => (dgs_at hd).2.2.1) w
  rw [List.map_id'] at this; exact this
theorem rdigU (n : Nat) (hn : n ≤ 18446744073709551615) (w : World) : CallR Tryd.prog 50 #[.int .u64 (n : Int), .int .u64 16, S [48, 49, 50, 51, 52, 53, 54, 55, 56, 57, 65, 66, 67, 68, 69, 70]] w fun v w' => v = S (Lib.toUpperA (basV 16 n)) ∧ Chg [] w w' := rdigits_spec n 16 [48, 49, 50, 51, 52, 53, 54, 55, 56, 57, 65, 66, 67, 68, 69, 70] Lib.upperB hn (by omega) (by decide) (fun d hd => (dgs_at hd).2.2.2) w

set_option maxHeartbeats 1000000 in
theorem rconv_spec {b : Nat} {out : Bytes} {Aa : Option Addr} {ca : Nat} {args : List Bytes} {tk ee : Bool} {st : Int} {D : Nat → Prop} {w : World} (hb : Blk w b [.slice Aa args.length ca, .bool tk, S out, .int .i64 st, .bool ee] 48) (ha : Sl sE w D Aa args) (hca : args.length ≤ ca) (hDb : ¬ D b) (x : Spc) (hx : x.Ok) (hcv : 0 ≤ idx [100, 105, 117, 111, 120, 88, 99, 115, 98] x.conv) (hsl : (hdS args).length ≤ 90000000000000) (hol : out.length ≤ 100000) : CallR Tryd.prog 30 #[.pointer (some ⟨b, 0, none⟩), .agg ⟨[.bool x.left, .bool x.zero, .int .i64 x.width, .int .i64 ((x.prec.toNat : Nat) : Int), .bool (decide (0 ≤ x.prec)), .int .u8 (x.conv.toNat : Int)]⟩] w fun v w' => v = .tuple ⟨[]⟩ ∧ ∃ Aa' ca', Blk w' b [.slice Aa' args.tail.length ca', .bool true, S (out ++ cnvO x (hdS args)), .int .i64 (cnvS x (hdS args) st), .bool (cnvE x (hdS args) ee)] 48 ∧ Sl sE w' D Aa' args.tail ∧ args.tail.length ≤ ca' ∧ Chg [b] w w' := by
 have hbl9 := hb.lt
 have hni := nm_in (hdS args)
 have hub := uN_bd hni.1 hni.2
 have hwu := wrap_u hni.1 hni.2
 have hb10 := bas_64 (b := 10) (by omega) hub
 have hb8 := bas_64 (b := 8) (by omega) hub
 have hb16 := bas_64 (b := 16) (by omega) hub
 have hel := escs_len ((hdS args).length + 1) (hdS args)
 have hel2 : (escsV (hdS args)).1.length ≤ (hdS args).length := hel
 have hcl := cnv_len hx (hdS args)
 replace hsl : (hdS args).length ≤ 100000000000000 := by omega
 have hcx := (cv_iff _).1 hcv
 refine callR_of_wp (args := [_, _]) Tryd.func30 rfl (Nat.le_of_ble_eq_true rfl) ?_
 have HC : Chg [b] w w := .refl _
 refine sr rfl <| Wp rfl <| st_box (v := .agg ⟨[.bool _, .bool _, .int _ _, .int _ _, .bool _, .int _ _]⟩) (vs := [_, _, _, _, _, _]) rfl rfl ?_
 intro b3 w1 e2 c3 hb4
 have ge_b3 : w.heap.size ≤ b3 := by rw [e2]; exact HC.size
 have ne_b_b3 : b ≠ b3 := by rw [e2]; exact hb.ne_size
 replace HC := HC.then c3
 replace hb := hb.tr0 c3
 replace ha := ha.tr0 c3
 clear e2
 refine en <| sr rfl <| mP rfl <| Wp rfl <| st_call (ags := [_]) rfl rfl T.ent46 rfl (rarg_spec hb ha hca hDb) ?_
 rintro _ w5 ⟨rfl, Aa2, ca2, hb2, ha2, hca2, c6⟩
 replace HC := HC.trans c6 (by intro x hx; simp only [List.mem_singleton] at hx; subst hx; exact .inl (by simp))
 replace hb4 := hb4.tr1 c6 (Ne.symm ne_b_b3)
 refine aS rfl <| en <| sr rfl <| fa T.fld68_5 rfl <| lI T.one5 rfl (hb4.cell rfl) <| en <| x_block <| sr rfl <| Wp rfl <| st_eql rfl rfl <| aB rfl <| en <| x_cond rfl (fun h0 => ?_) (fun h0 => ?_)
 ·try simp only [nm, ne_eq] at h0
  refine x_draw [(0, 0), (1, 0), (2, 0), (3, 0), (4, 0), (5, 0), (6, 0), (8, 0), (7, 1), (9, 1), (10, 0), (11, 0), (12, 0), (13, 2)] T.mixed rfl rfl rfl (fun W => W.heap[b3]? = w5.heap[b3]? ∧ W.heap[b]? = w5.heap[b]? ∧ True) ⟨rfl, rfl, trivial⟩ ?_
  have o9 := hb4
  have o10 := hb2
  have c8 := Chg.drew w5
  generalize World.drew w5 = w7 at c8 ⊢
  replace HC := HC.then c8
  replace hb4 := hb4.tr0 c8
  replace hb2 := hb2.tr0 c8
  replace ha2 := ha2.tr0 c8
  refine sq_q rfl (fun W hT => r_move (v := .pointer _) rfl) <| sq_q rfl (fun W hT => r_move (v := .pointer _) rfl) <| sq_q rfl (fun W hT => r_nilCheck rfl) <| sq_q rfl (fun W hT => r_fieldAddr T.fld48_2 rfl) <| sq_q rfl (fun W hT => r_load1 (v := S _) T.one9 rfl (Blk.cell (show Blk W b _ _ from hT.2.1.trans o10) rfl)) <| sq_q rfl (fun W hT => r_move (v := S _) rfl) <| sq_q rfl (fun W hT => r_loadA (vs := [_, _, _, _, _, _]) T.agg68 rfl (Blk.cells (n := 6) (vs := [_, _, _, _, _, _]) (show Blk W b3 _ _ from hT.1.trans o9) rfl) rfl) <| sq_q rfl (fun W hT => r_loadA (vs := [_, _, _, _, _, _]) T.agg68 rfl (Blk.cells (n := 6) (vs := [_, _, _, _, _, _]) (show Blk W b3 _ _ from hT.1.trans o9) rfl) rfl) <| sq_call1 rfl (r_call (ags := [_, _]) rfl rfl T.ent48 rfl) (rcut_spec x (hdS args) _) ?_
  rintro _ w11 ⟨rfl, c12⟩
  replace HC := HC.then c12
  replace hb4 := hb4.tr0 c12
  replace hb2 := hb2.tr0 c12
  replace ha2 := ha2.tr0 c12
  refine ⟨_, fun _ h => h, ⟨(Eq.trans hb4 o9.symm), (Eq.trans hb2 o10.symm), trivial⟩, ?_⟩
  refine sq_call1 rfl (r_call (ags := [_, _, _, _]) rfl rfl T.ent47 rfl) (rpadT_spec x hx _ _ (by first | (split; rw [List.length_take]; omega; omega) | omega)) ?_
  rintro _ w13 ⟨rfl, c14⟩
  replace HC := HC.then c14
  replace hb4 := hb4.tr0 c14
  replace hb2 := hb2.tr0 c14
  replace ha2 := ha2.tr0 c14
  refine ⟨_, fun _ h => h, ⟨(Eq.trans hb4 o9.symm), (Eq.trans hb2 o10.symm), trivial⟩, ?_⟩
  refine sq_q rfl (fun W hT => r_sadd rfl rfl (by (have h9 := ptx_len hx (hdS args); unfold ptxV at h9; omega))) <| sq_q rfl (fun W hT => r_nilCheck rfl) <| sq_q rfl (fun W hT => r_fieldAddr T.fld48_2 rfl) <| sq_store2 rfl T.size9 (v := S _) rfl rfl rfl hb2 rfl (Nat.le_of_ble_eq_true rfl) (by simp [Value.oneCell', S]) rfl ?_
  intro w15 c16 hb17; simp only [setVs, setV] at hb17
  clear hb2
  replace HC := HC.trans c16 (by intro x hx; simp only [List.mem_singleton] at hx; subst hx; exact .inl (by simp))
  replace hb4 := hb4.tr1 c16 (Ne.symm ne_b_b3)
  replace ha2 := ha2.tr c16 (by intro k hk hD; rw [List.mem_singleton.1 hk] at hD; exact hDb hD)
  clear o9
  clear o10
  refine sq_nil <| block_n <| ret_none_n rfl ?_
  have ho9 : cnvO x (hdS args) = ptxV x (hdS args) := by unfold cnvO; rw [if_pos h0]
  have he9 : cnvE x (hdS args) ee = ee := by unfold cnvE; rw [if_neg (by omega)]
  have hs9 : cnvS x (hdS args) st = st := by unfold cnvS; rw [if_pos (.inl h0)]
  rw [ho9, he9, hs9]
  exact ⟨rfl, _, _, hb17, ha2, hca2, HC⟩
 ·try simp only [nm, ne_eq] at h0
  refine sr rfl <| Wp rfl <| st_eql rfl rfl <| aB rfl <| en <| x_cond rfl (fun h1 => ?_) (fun h1 => ?_)
  ·try simp only [nm, ne_eq] at h1
   refine sr rfl <| mS rfl <| Wp rfl <| st_call (ags := [_]) rfl rfl T.ent12 rfl (REscapes_spec (hdS args) _ (by omega)) ?_
   rintro _ w18 ⟨rfl, c19⟩
   replace HC := HC.then c19
   replace hb4 := hb4.tr0 c19
   replace hb2 := hb2.tr0 c19
   replace ha2 := ha2.tr0 c19
   refine mv (v := .tuple ⟨[_, _]⟩) rfl <| Wp rfl <| st_extract (vs := [_, _]) (v := S _) rfl rfl <| Wp rfl <| st_extract (vs := [_, _]) (v := .bool _) rfl rfl <| aS rfl <| aB rfl <| en <| x_seq <| x_draw [(0, 0), (1, 0), (2, 0), (3, 0), (4, 0), (5, 0), (6, 0), (8, 0), (7, 1), (9, 1), (10, 0), (11, 0), (12, 0), (13, 2)] T.mixed rfl rfl rfl (fun W => W.heap[b3]? = w18.heap[b3]? ∧ W.heap[b]? = w18.heap[b]? ∧ True) ⟨rfl, rfl, trivial⟩ ?_
   have o22 := hb4
   have o23 := hb2
   have c21 := Chg.drew w18
   generalize World.drew w18 = w20 at c21 ⊢
   replace HC := HC.then c21
   replace hb4 := hb4.tr0 c21
   replace hb2 := hb2.tr0 c21
   replace ha2 := ha2.tr0 c21
   refine sq_q rfl (fun W hT => r_move (v := .pointer _) rfl) <| sq_q rfl (fun W hT => r_move (v := .pointer _) rfl) <| sq_q rfl (fun W hT => r_nilCheck rfl) <| sq_q rfl (fun W hT => r_fieldAddr T.fld48_2 rfl) <| sq_q rfl (fun W hT => r_load1 (v := S _) T.one9 rfl (Blk.cell (show Blk W b _ _ from hT.2.1.trans o23) rfl)) <| sq_q rfl (fun W hT => r_move (v := S _) rfl) <| sq_q rfl (fun W hT => r_loadA (vs := [_, _, _, _, _, _]) T.agg68 rfl (Blk.cells (n := 6) (vs := [_, _, _, _, _, _]) (show Blk W b3 _ _ from hT.1.trans o22) rfl) rfl) <| sq_q rfl (fun W hT => r_loadA (vs := [_, _, _, _, _, _]) T.agg68 rfl (Blk.cells (n := 6) (vs := [_, _, _, _, _, _]) (show Blk W b3 _ _ from hT.1.trans o22) rfl) rfl) <| sq_call1 rfl (r_call (ags := [_, _]) rfl rfl T.ent48 rfl) (rcut_spec x _ _) ?_
   rintro _ w24 ⟨rfl, c25⟩
   replace HC := HC.then c25
   replace hb4 := hb4.tr0 c25
   replace hb2 := hb2.tr0 c25
   replace ha2 := ha2.tr0 c25
   refine ⟨_, fun _ h => h, ⟨(Eq.trans hb4 o22.symm), (Eq.trans hb2 o23.symm), trivial⟩, ?_⟩
   refine sq_call1 rfl (r_call (ags := [_, _, _, _]) rfl rfl T.ent47 rfl) (rpadT_spec x hx _ _ (by first | (split; rw [List.length_take]; omega; omega) | omega)) ?_
   rintro _ w26 ⟨rfl, c27⟩
   replace HC := HC.then c27
   replace hb4 := hb4.tr0 c27
   replace hb2 := hb2.tr0 c27
   replace ha2 := ha2.tr0 c27
   refine ⟨_, fun _ h => h, ⟨(Eq.trans hb4 o22.symm), (Eq.trans hb2 o23.symm), trivial⟩, ?_⟩
   refine sq_q rfl (fun W hT => r_sadd rfl rfl (by (have h9 := ptx_len hx (escsV (hdS args)).1; unfold ptxV at h9; omega))) <| sq_q rfl (fun W hT => r_nilCheck rfl) <| sq_q rfl (fun W hT => r_fieldAddr T.fld48_2 rfl) <| sq_store2 rfl T.size9 (v := S _) rfl rfl rfl hb2 rfl (Nat.le_of_ble_eq_true rfl) (by simp [Value.oneCell', S]) rfl ?_
   intro w28 c29 hb30; simp only [setVs, setV] at hb30
   clear hb2
   replace HC := HC.trans c29 (by intro x hx; simp only [List.mem_singleton] at hx; subst hx; exact .inl (by simp))
   replace hb4 := hb4.tr1 c29 (Ne.symm ne_b_b3)
   replace ha2 := ha2.tr c29 (by intro k hk hD; rw [List.mem_singleton.1 hk] at hD; exact hDb hD)
   clear o22
   clear o23
   refine sq_nil <| then_n <| x_region rfl <| mP rfl <| mB rfl <| nc rfl <| fa T.fld48_4 rfl <| Wp rfl <| st_store (v := .bool _) T.size4 rfl rfl rfl hb30 rfl (Nat.le_of_ble_eq_true rfl) (by simp [Value.oneCell', S]) rfl ?_
   intro w31 c32 hb33; simp only [setVs, setV] at hb33
   clear hb30
   replace HC := HC.trans c32 (by intro x hx; simp only [List.mem_singleton] at hx; subst hx; exact .inl (by simp))
   replace hb4 := hb4.tr1 c32 (Ne.symm ne_b_b3)
   replace ha2 := ha2.tr c32 (by intro k hk hD; rw [List.mem_singleton.1 hk] at hD; exact hDb hD)
   refine wops_nil <| block_n <| ret_none_n rfl ?_
   have ho9 : cnvO x (hdS args) = ptxV x (escsV (hdS args)).1 := by unfold cnvO; rw [if_neg h0, if_pos h1]
   have he9 : cnvE x (hdS args) ee = (escsV (hdS args)).2 := by unfold cnvE; rw [if_pos h1]
   have hs9 : cnvS x (hdS args) st = st := by unfold cnvS; rw [if_pos (.inr (.inl h1))]
   rw [ho9, he9, hs9]
   exact ⟨rfl, _, _, hb33, ha2, hca2, HC⟩
  ·try simp only [nm, ne_eq] at h1
   refine sr rfl <| Wp rfl <| st_eql rfl rfl <| aB rfl <| en <| x_cond rfl (fun h2 => ?_) (fun h2 => ?_)
   ·try simp only [nm, ne_eq] at h2
    refine x_draw [(0, 0), (1, 0), (2, 0), (3, 0), (4, 0), (5, 0), (6, 0), (7, 0), (8, 0), (9, 0), (10, 0), (11, 1), (12, 0), (13, 0), (14, 0), (15, 2)] T.mixed rfl rfl rfl (fun W => W.heap[b3]? = w5.heap[b3]? ∧ W.heap[b]? = w5.heap[b]? ∧ True) ⟨rfl, rfl, trivial⟩ ?_
    have o36 := hb4
    have o37 := hb2
    have c35 := Chg.drew w5
    generalize World.drew w5 = w34 at c35 ⊢
    replace HC := HC.then c35
    replace hb4 := hb4.tr0 c35
    replace hb2 := hb2.tr0 c35
    replace ha2 := ha2.tr0 c35
    refine sq_q rfl (fun W hT => r_move (v := .pointer _) rfl) <| sq_q rfl (fun W hT => r_move (v := .pointer _) rfl) <| sq_q rfl (fun W hT => r_nilCheck rfl) <| sq_q rfl (fun W hT => r_fieldAddr T.fld48_2 rfl) <| sq_q rfl (fun W hT => r_load1 (v := S _) T.one9 rfl (Blk.cell (show Blk W b _ _ from hT.2.1.trans o37) rfl)) <| sq_q rfl (fun W hT => r_move (v := S _) rfl) <| sq_q rfl (fun W hT => r_move (v := S _) rfl) <| sq_q rfl (fun W hT => r_slen (ct := #[9]) T.u9 rfl) <| sq_q rfl (fun W hT => r_min rfl rfl) ?_
    rw [show min 1 ((hdS args).length : Int) = ((min 1 (hdS args).length : Nat) : Int) by omega]
    refine sq_q rfl (fun W hT => r_sshi (j := (min 1 (hdS args).length)) T.u9 rfl ⟨_, rfl⟩ (by omega)) <| sq_q rfl (fun W hT => r_loadA (vs := [_, _, _, _, _, _]) T.agg68 rfl (Blk.cells (n := 6) (vs := [_, _, _, _, _, _]) (show Blk W b3 _ _ from hT.1.trans o36) rfl) rfl) <| sq_call1 rfl (r_call (ags := [_, _, _, _]) rfl rfl T.ent47 rfl) (rpadT_spec x hx _ _ (by rw [List.length_take]; omega)) ?_
    rintro _ w38 ⟨rfl, c39⟩
    replace HC := HC.then c39
    replace hb4 := hb4.tr0 c39
    replace hb2 := hb2.tr0 c39
    replace ha2 := ha2.tr0 c39
    refine ⟨_, fun _ h => h, ⟨(Eq.trans hb4 o36.symm), (Eq.trans hb2 o37.symm), trivial⟩, ?_⟩
    refine sq_q rfl (fun W hT => r_sadd rfl rfl (by (have h9 := pad_len hx (List.take (min 1 (hdS args).length) (hdS args)); rw [List.length_take] at h9; omega))) <| sq_q rfl (fun W hT => r_nilCheck rfl) <| sq_q rfl (fun W hT => r_fieldAddr T.fld48_2 rfl) <| sq_store2 rfl T.size9 (v := S _) rfl rfl rfl hb2 rfl (Nat.le_of_ble_eq_true rfl) (by simp [Value.oneCell', S]) rfl ?_
    intro w40 c41 hb42; simp only [setVs, setV] at hb42
    clear hb2
    replace HC := HC.trans c41 (by intro x hx; simp only [List.mem_singleton] at hx; subst hx; exact .inl (by simp))
    replace hb4 := hb4.tr1 c41 (Ne.symm ne_b_b3)
    replace ha2 := ha2.tr c41 (by intro k hk hD; rw [List.mem_singleton.1 hk] at hD; exact hDb hD)
    clear o36
    clear o37
    refine sq_nil <| block_n <| ret_none_n rfl ?_
    have ho9 : cnvO x (hdS args) = padV x ((hdS args).take (min 1 (hdS args).length)) := by unfold cnvO; rw [if_neg h0, if_neg h1, if_pos h2]
    have he9 : cnvE x (hdS args) ee = ee := by unfold cnvE; rw [if_neg (by omega)]
    have hs9 : cnvS x (hdS args) st = st := by unfold cnvS; rw [if_pos (.inr (.inr h2))]
    rw [ho9, he9, hs9]
    exact ⟨rfl, _, _, hb42, ha2, hca2, HC⟩
   ·try simp only [nm, ne_eq] at h2
    refine x_seq <| sr rfl <| Wp rfl <| st_eql rfl rfl <| aB rfl <| en <| x_cond rfl (fun h3 => ?_) (fun h3 => ?_)
    ·try simp only [nm, ne_eq] at h3
     have hdi : ((x.conv.toNat : Nat) : Int) = 100 ∨ ((x.conv.toNat : Nat) : Int) = 105 := .inl h3
     refine x_skip <| then_n <| x_cond rfl (fun h4 => ?_) (fun h4 => ?_)
     rotate_left
     · first | (simp only [nm, ne_eq] at h4; exact absurd (by assumption) h4) | (exfalso; simp_all)
     refine sr rfl <| mP rfl <| mS rfl <| Wp rfl <| st_call (ags := [_, _]) rfl rfl T.ent49 rfl (rnumber_spec (hdS args) hb2 (by omega)) ?_
     rintro _ w43 ⟨rfl, hb3, c44⟩
     replace HC := HC.trans c44 (by intro x hx; simp only [List.mem_singleton] at hx; subst hx; exact .inl (by simp))
     replace hb4 := hb4.tr1 c44 (Ne.symm ne_b_b3)
     replace ha2 := ha2.tr c44 (by intro k hk hD; rw [List.mem_singleton.1 hk] at hD; exact hDb hD)
     refine aI rfl <| en <| sr rfl <| aS rfl <| en <| sr rfl <| mI rfl <| Wp rfl <| st_convInt T.u2 T.u58 rfl <| aI rfl <| en <| x_seq <| sr rfl <| mI rfl <| Wp rfl <| st_lss rfl rfl <| en <| x_cond rfl (fun h5 => ?_) (fun h5 => ?_)
     ·try simp only [nm, ne_eq] at h5
      have hwn := wrap_neg hni.1 h5
      have hbn := bas_64 (b := 10) (n := (-(nmV (hdS args)).1).toNat) (by omega) (by omega)
      refine sr rfl <| aS rfl <| en <| x_region rfl <| mI rfl <| Wp rfl <| st_neg rfl <| aI rfl <| en ?_
      rw [hwn]
      refine x_draw [(0, 0), (1, 0), (2, 0), (3, 0), (4, 0), (5, 0), (7, 0), (8, 0), (6, 1), (9, 1), (10, 0), (11, 0), (12, 0), (13, 2)] T.mixed rfl rfl rfl (fun W => W.heap[b3]? = w43.heap[b3]? ∧ W.heap[b]? = w43.heap[b]? ∧ True) ⟨rfl, rfl, trivial⟩ ?_
      have o47 := hb4
      have o48 := hb3
      have c46 := Chg.drew w43
      generalize World.drew w43 = w45 at c46 ⊢
      replace HC := HC.then c46
      replace hb4 := hb4.tr0 c46
      replace ha2 := ha2.tr0 c46
      replace hb3 := hb3.tr0 c46
      refine sq_q rfl (fun W hT => r_move (v := .pointer _) rfl) <| sq_q rfl (fun W hT => r_move (v := .pointer _) rfl) <| sq_q rfl (fun W hT => r_nilCheck rfl) <| sq_q rfl (fun W hT => r_fieldAddr T.fld48_2 rfl) <| sq_q rfl (fun W hT => r_load1 (v := S _) T.one9 rfl (Blk.cell (show Blk W b _ _ from hT.2.1.trans o48) rfl)) <| sq_q rfl (fun W hT => r_move (v := .int _ _) rfl) <| sq_q rfl (fun W hT => r_move (v := S _) rfl) <| sq_q rfl (fun W hT => r_loadA (vs := [_, _, _, _, _, _]) T.agg68 rfl (Blk.cells (n := 6) (vs := [_, _, _, _, _, _]) (show Blk W b3 _ _ from hT.1.trans o47) rfl) rfl) <| sq_call1 rfl (r_call (ags := [_, _, _]) rfl rfl T.ent50 rfl) (rdig10 _ (by omega) _) ?_
      rintro _ w49 ⟨rfl, c50⟩
      replace HC := HC.then c50
      replace hb4 := hb4.tr0 c50
      replace ha2 := ha2.tr0 c50
      replace hb3 := hb3.tr0 c50
      refine ⟨_, fun _ h => h, ⟨(Eq.trans hb4 o47.symm), (Eq.trans hb3 o48.symm), trivial⟩, ?_⟩
      refine sq_call1 rfl (r_call (ags := [_, _, _, _]) rfl rfl T.ent47 rfl) (rpadD_spec x hx [45] _ _ (by simp) (by omega)) ?_
      rintro _ w51 ⟨rfl, c52⟩
      replace HC := HC.then c52
      replace hb4 := hb4.tr0 c52
      replace ha2 := ha2.tr0 c52
      replace hb3 := hb3.tr0 c52
      refine ⟨_, fun _ h => h, ⟨(Eq.trans hb4 o47.symm), (Eq.trans hb3 o48.symm), trivial⟩, ?_⟩
      refine sq_q rfl (fun W hT => r_sadd rfl rfl (by (first | (have h9 := digs_len hx [45] (basV 10 (-(nmV (hdS args)).1).toNat); simp only [List.length_cons, List.length_nil] at h9; omega) | (have h9 := digs_len hx [] (basV 10 (uN (nmV (hdS args)).1)); simp only [List.length_nil] at h9; omega)))) <| sq_q rfl (fun W hT => r_nilCheck rfl) <| sq_q rfl (fun W hT => r_fieldAddr T.fld48_2 rfl) <| sq_store2 rfl T.size9 (v := S _) rfl rfl rfl hb3 rfl (Nat.le_of_ble_eq_true rfl) (by simp [Value.oneCell', S]) rfl ?_
      intro w53 c54 hb55; simp only [setVs, setV] at hb55
      clear hb3
      replace HC := HC.trans c54 (by intro x hx; simp only [List.mem_singleton] at hx; subst hx; exact .inl (by simp))
      replace hb4 := hb4.tr1 c54 (Ne.symm ne_b_b3)
      replace ha2 := ha2.tr c54 (by intro k hk hD; rw [List.mem_singleton.1 hk] at hD; exact hDb hD)
      clear o47
      clear o48
      refine sq_nil <| block_n <| ret_none_n rfl ?_
      have ho9 : cnvO x (hdS args) = digsV x [45] (basV 10 (-(nmV (hdS args)).1).toNat) := by unfold cnvO; rw [if_neg h0, if_neg h1, if_neg h2, if_pos hdi, if_pos h5]
      have he9 : cnvE x (hdS args) ee = ee := by unfold cnvE; rw [if_neg (by omega)]
      have hs9 : cnvS x (hdS args) st = stV (hdS args) st := by unfold cnvS; rw [if_neg (by omega)]
      rw [ho9, he9, hs9]
      exact ⟨rfl, _, _, hb55, ha2, hca2, HC⟩
     ·try simp only [nm, ne_eq] at h5
      refine x_skip <| then_n ?_
      rw [hwu]
      refine x_draw [(0, 0), (1, 0), (2, 0), (3, 0), (4, 0), (5, 0), (7, 0), (8, 0), (6, 1), (9, 1), (10, 0), (11, 0), (12, 0), (13, 2)] T.mixed rfl rfl rfl (fun W => W.heap[b3]? = w43.heap[b3]? ∧ W.heap[b]? = w43.heap[b]? ∧ True) ⟨rfl, rfl, trivial⟩ ?_
      have o58 := hb4
      have o59 := hb3
      have c57 := Chg.drew w43
      generalize World.drew w43 = w56 at c57 ⊢
      replace HC := HC.then c57
      replace hb4 := hb4.tr0 c57
      replace ha2 := ha2.tr0 c57
      replace hb3 := hb3.tr0 c57
      refine sq_q rfl (fun W hT => r_move (v := .pointer _) rfl) <| sq_q rfl (fun W hT => r_move (v := .pointer _) rfl) <| sq_q rfl (fun W hT => r_nilCheck rfl) <| sq_q rfl (fun W hT => r_fieldAddr T.fld48_2 rfl) <| sq_q rfl (fun W hT => r_load1 (v := S _) T.one9 rfl (Blk.cell (show Blk W b _ _ from hT.2.1.trans o59) rfl)) <| sq_q rfl (fun W hT => r_move (v := .int _ _) rfl) <| sq_q rfl (fun W hT => r_move (v := S _) rfl) <| sq_q rfl (fun W hT => r_loadA (vs := [_, _, _, _, _, _]) T.agg68 rfl (Blk.cells (n := 6) (vs := [_, _, _, _, _, _]) (show Blk W b3 _ _ from hT.1.trans o58) rfl) rfl) <| sq_call1 rfl (r_call (ags := [_, _, _]) rfl rfl T.ent50 rfl) (rdig10 _ (by omega) _) ?_
      rintro _ w60 ⟨rfl, c61⟩
      replace HC := HC.then c61
      replace hb4 := hb4.tr0 c61
      replace ha2 := ha2.tr0 c61
      replace hb3 := hb3.tr0 c61
      refine ⟨_, fun _ h => h, ⟨(Eq.trans hb4 o58.symm), (Eq.trans hb3 o59.symm), trivial⟩, ?_⟩
      refine sq_call1 rfl (r_call (ags := [_, _, _, _]) rfl rfl T.ent47 rfl) (rpadD_spec x hx [] _ _ (by simp) (by omega)) ?_
      rintro _ w62 ⟨rfl, c63⟩
      replace HC := HC.then c63
      replace hb4 := hb4.tr0 c63
      replace ha2 := ha2.tr0 c63
      replace hb3 := hb3.tr0 c63
      refine ⟨_, fun _ h => h, ⟨(Eq.trans hb4 o58.symm), (Eq.trans hb3 o59.symm), trivial⟩, ?_⟩
      refine sq_q rfl (fun W hT => r_sadd rfl rfl (by (first | (have h9 := digs_len hx [45] (basV 10 (-(nmV (hdS args)).1).toNat); simp only [List.length_cons, List.length_nil] at h9; omega) | (have h9 := digs_len hx [] (basV 10 (uN (nmV (hdS args)).1)); simp only [List.length_nil] at h9; omega)))) <| sq_q rfl (fun W hT => r_nilCheck rfl) <| sq_q rfl (fun W hT => r_fieldAddr T.fld48_2 rfl) <| sq_store2 rfl T.size9 (v := S _) rfl rfl rfl hb3 rfl (Nat.le_of_ble_eq_true rfl) (by simp [Value.oneCell', S]) rfl ?_
      intro w64 c65 hb66; simp only [setVs, setV] at hb66
      clear hb3
      replace HC := HC.trans c65 (by intro x hx; simp only [List.mem_singleton] at hx; subst hx; exact .inl (by simp))
      replace hb4 := hb4.tr1 c65 (Ne.symm ne_b_b3)
      replace ha2 := ha2.tr c65 (by intro k hk hD; rw [List.mem_singleton.1 hk] at hD; exact hDb hD)
      clear o58
      clear o59
      refine sq_nil <| block_n <| ret_none_n rfl ?_
      have ho9 : cnvO x (hdS args) = digsV x [] (basV 10 (uN (nmV (hdS args)).1)) := by unfold cnvO; rw [if_neg h0, if_neg h1, if_neg h2, if_pos hdi, if_neg h5]
      have he9 : cnvE x (hdS args) ee = ee := by unfold cnvE; rw [if_neg (by omega)]
      have hs9 : cnvS x (hdS args) st = stV (hdS args) st := by unfold cnvS; rw [if_neg (by omega)]
      rw [ho9, he9, hs9]
      exact ⟨rfl, _, _, hb66, ha2, hca2, HC⟩
    ·try simp only [nm, ne_eq] at h3
     refine x_region rfl <| Wp rfl <| st_eql rfl rfl <| aB rfl <| en <| x_cond rfl (fun h4 => ?_) (fun h4 => ?_)
     ·try simp only [nm, ne_eq] at h4
      have hdi : ((x.conv.toNat : Nat) : Int) = 100 ∨ ((x.conv.toNat : Nat) : Int) = 105 := .inr h4
      refine sr rfl <| mP rfl <| mS rfl <| Wp rfl <| st_call (ags := [_, _]) rfl rfl T.ent49 rfl (rnumber_spec (hdS args) hb2 (by omega)) ?_
      rintro _ w67 ⟨rfl, hb3, c68⟩
      replace HC := HC.trans c68 (by intro x hx; simp only [List.mem_singleton] at hx; subst hx; exact .inl (by simp))
      replace hb4 := hb4.tr1 c68 (Ne.symm ne_b_b3)
      replace ha2 := ha2.tr c68 (by intro k hk hD; rw [List.mem_singleton.1 hk] at hD; exact hDb hD)
      refine aI rfl <| en <| sr rfl <| aS rfl <| en <| sr rfl <| mI rfl <| Wp rfl <| st_convInt T.u2 T.u58 rfl <| aI rfl <| en <| x_seq <| sr rfl <| mI rfl <| Wp rfl <| st_lss rfl rfl <| en <| x_cond rfl (fun h5 => ?_) (fun h5 => ?_)
      ·try simp only [nm, ne_eq] at h5
       have hwn := wrap_neg hni.1 h5
       have hbn := bas_64 (b := 10) (n := (-(nmV (hdS args)).1).toNat) (by omega) (by omega)
       refine sr rfl <| aS rfl <| en <| x_region rfl <| mI rfl <| Wp rfl <| st_neg rfl <| aI rfl <| en ?_
       rw [hwn]
       refine x_draw [(0, 0), (1, 0), (2, 0), (3, 0), (4, 0), (5, 0), (7, 0), (8, 0), (6, 1), (9, 1), (10, 0), (11, 0), (12, 0), (13, 2)] T.mixed rfl rfl rfl (fun W => W.heap[b3]? = w67.heap[b3]? ∧ W.heap[b]? = w67.heap[b]? ∧ True) ⟨rfl, rfl, trivial⟩ ?_
       have o71 := hb4
       have o72 := hb3
       have c70 := Chg.drew w67
       generalize World.drew w67 = w69 at c70 ⊢
       replace HC := HC.then c70
       replace hb4 := hb4.tr0 c70
       replace ha2 := ha2.tr0 c70
       replace hb3 := hb3.tr0 c70
       refine sq_q rfl (fun W hT => r_move (v := .pointer _) rfl) <| sq_q rfl (fun W hT => r_move (v := .pointer _) rfl) <| sq_q rfl (fun W hT => r_nilCheck rfl) <| sq_q rfl (fun W hT => r_fieldAddr T.fld48_2 rfl) <| sq_q rfl (fun W hT => r_load1 (v := S _) T.one9 rfl (Blk.cell (show Blk W b _ _ from hT.2.1.trans o72) rfl)) <| sq_q rfl (fun W hT => r_move (v := .int _ _) rfl) <| sq_q rfl (fun W hT => r_move (v := S _) rfl) <| sq_q rfl (fun W hT => r_loadA (vs := [_, _, _, _, _, _]) T.agg68 rfl (Blk.cells (n := 6) (vs := [_, _, _, _, _, _]) (show Blk W b3 _ _ from hT.1.trans o71) rfl) rfl) <| sq_call1 rfl (r_call (ags := [_, _, _]) rfl rfl T.ent50 rfl) (rdig10 _ (by omega) _) ?_
       rintro _ w73 ⟨rfl, c74⟩
       replace HC := HC.then c74
       replace hb4 := hb4.tr0 c74
       replace ha2 := ha2.tr0 c74
       replace hb3 := hb3.tr0 c74
       refine ⟨_, fun _ h => h, ⟨(Eq.trans hb4 o71.symm), (Eq.trans hb3 o72.symm), trivial⟩, ?_⟩
       refine sq_call1 rfl (r_call (ags := [_, _, _, _]) rfl rfl T.ent47 rfl) (rpadD_spec x hx [45] _ _ (by simp) (by omega)) ?_
       rintro _ w75 ⟨rfl, c76⟩
       replace HC := HC.then c76
       replace hb4 := hb4.tr0 c76
       replace ha2 := ha2.tr0 c76
       replace hb3 := hb3.tr0 c76
       refine ⟨_, fun _ h => h, ⟨(Eq.trans hb4 o71.symm), (Eq.trans hb3 o72.symm), trivial⟩, ?_⟩
       refine sq_q rfl (fun W hT => r_sadd rfl rfl (by (first | (have h9 := digs_len hx [45] (basV 10 (-(nmV (hdS args)).1).toNat); simp only [List.length_cons, List.length_nil] at h9; omega) | (have h9 := digs_len hx [] (basV 10 (uN (nmV (hdS args)).1)); simp only [List.length_nil] at h9; omega)))) <| sq_q rfl (fun W hT => r_nilCheck rfl) <| sq_q rfl (fun W hT => r_fieldAddr T.fld48_2 rfl) <| sq_store2 rfl T.size9 (v := S _) rfl rfl rfl hb3 rfl (Nat.le_of_ble_eq_true rfl) (by simp [Value.oneCell', S]) rfl ?_
       intro w77 c78 hb79; simp only [setVs, setV] at hb79
       clear hb3
       replace HC := HC.trans c78 (by intro x hx; simp only [List.mem_singleton] at hx; subst hx; exact .inl (by simp))
       replace hb4 := hb4.tr1 c78 (Ne.symm ne_b_b3)
       replace ha2 := ha2.tr c78 (by intro k hk hD; rw [List.mem_singleton.1 hk] at hD; exact hDb hD)
       clear o71
       clear o72
       refine sq_nil <| block_n <| ret_none_n rfl ?_
       have ho9 : cnvO x (hdS args) = digsV x [45] (basV 10 (-(nmV (hdS args)).1).toNat) := by unfold cnvO; rw [if_neg h0, if_neg h1, if_neg h2, if_pos hdi, if_pos h5]
       have he9 : cnvE x (hdS args) ee = ee := by unfold cnvE; rw [if_neg (by omega)]
       have hs9 : cnvS x (hdS args) st = stV (hdS args) st := by unfold cnvS; rw [if_neg (by omega)]
       rw [ho9, he9, hs9]
       exact ⟨rfl, _, _, hb79, ha2, hca2, HC⟩
      ·try simp only [nm, ne_eq] at h5
       refine x_skip <| then_n ?_
       rw [hwu]
       refine x_draw [(0, 0), (1, 0), (2, 0), (3, 0), (4, 0), (5, 0), (7, 0), (8, 0), (6, 1), (9, 1), (10, 0), (11, 0), (12, 0), (13, 2)] T.mixed rfl rfl rfl (fun W => W.heap[b3]? = w67.heap[b3]? ∧ W.heap[b]? = w67.heap[b]? ∧ True) ⟨rfl, rfl, trivial⟩ ?_
       have o82 := hb4
       have o83 := hb3
       have c81 := Chg.drew w67
       generalize World.drew w67 = w80 at c81 ⊢
       replace HC := HC.then c81
       replace hb4 := hb4.tr0 c81
       replace ha2 := ha2.tr0 c81
       replace hb3 := hb3.tr0 c81
       refine sq_q rfl (fun W hT => r_move (v := .pointer _) rfl) <| sq_q rfl (fun W hT => r_move (v := .pointer _) rfl) <| sq_q rfl (fun W hT => r_nilCheck rfl) <| sq_q rfl (fun W hT => r_fieldAddr T.fld48_2 rfl) <| sq_q rfl (fun W hT => r_load1 (v := S _) T.one9 rfl (Blk.cell (show Blk W b _ _ from hT.2.1.trans o83) rfl)) <| sq_q rfl (fun W hT => r_move (v := .int _ _) rfl) <| sq_q rfl (fun W hT => r_move (v := S _) rfl) <| sq_q rfl (fun W hT => r_loadA (vs := [_, _, _, _, _, _]) T.agg68 rfl (Blk.cells (n := 6) (vs := [_, _, _, _, _, _]) (show Blk W b3 _ _ from hT.1.trans o82) rfl) rfl) <| sq_call1 rfl (r_call (ags := [_, _, _]) rfl rfl T.ent50 rfl) (rdig10 _ (by omega) _) ?_
       rintro _ w84 ⟨rfl, c85⟩
       replace HC := HC.then c85
       replace hb4 := hb4.tr0 c85
       replace ha2 := ha2.tr0 c85
       replace hb3 := hb3.tr0 c85
       refine ⟨_, fun _ h => h, ⟨(Eq.trans hb4 o82.symm), (Eq.trans hb3 o83.symm), trivial⟩, ?_⟩
       refine sq_call1 rfl (r_call (ags := [_, _, _, _]) rfl rfl T.ent47 rfl) (rpadD_spec x hx [] _ _ (by simp) (by omega)) ?_
       rintro _ w86 ⟨rfl, c87⟩
       replace HC := HC.then c87
       replace hb4 := hb4.tr0 c87
       replace ha2 := ha2.tr0 c87
       replace hb3 := hb3.tr0 c87
       refine ⟨_, fun _ h => h, ⟨(Eq.trans hb4 o82.symm), (Eq.trans hb3 o83.symm), trivial⟩, ?_⟩
       refine sq_q rfl (fun W hT => r_sadd rfl rfl (by (first | (have h9 := digs_len hx [45] (basV 10 (-(nmV (hdS args)).1).toNat); simp only [List.length_cons, List.length_nil] at h9; omega) | (have h9 := digs_len hx [] (basV 10 (uN (nmV (hdS args)).1)); simp only [List.length_nil] at h9; omega)))) <| sq_q rfl (fun W hT => r_nilCheck rfl) <| sq_q rfl (fun W hT => r_fieldAddr T.fld48_2 rfl) <| sq_store2 rfl T.size9 (v := S _) rfl rfl rfl hb3 rfl (Nat.le_of_ble_eq_true rfl) (by simp [Value.oneCell', S]) rfl ?_
       intro w88 c89 hb90; simp only [setVs, setV] at hb90
       clear hb3
       replace HC := HC.trans c89 (by intro x hx; simp only [List.mem_singleton] at hx; subst hx; exact .inl (by simp))
       replace hb4 := hb4.tr1 c89 (Ne.symm ne_b_b3)
       replace ha2 := ha2.tr c89 (by intro k hk hD; rw [List.mem_singleton.1 hk] at hD; exact hDb hD)
       clear o82
       clear o83
       refine sq_nil <| block_n <| ret_none_n rfl ?_
       have ho9 : cnvO x (hdS args) = digsV x [] (basV 10 (uN (nmV (hdS args)).1)) := by unfold cnvO; rw [if_neg h0, if_neg h1, if_neg h2, if_pos hdi, if_neg h5]
       have he9 : cnvE x (hdS args) ee = ee := by unfold cnvE; rw [if_neg (by omega)]
       have hs9 : cnvS x (hdS args) st = stV (hdS args) st := by unfold cnvS; rw [if_neg (by omega)]
       rw [ho9, he9, hs9]
       exact ⟨rfl, _, _, hb90, ha2, hca2, HC⟩
     ·try simp only [nm, ne_eq] at h4
      have hnd : ¬ (((x.conv.toNat : Nat) : Int) = 100 ∨ ((x.conv.toNat : Nat) : Int) = 105) := fun h => h.elim h3 h4
      refine sr rfl <| Wp rfl <| st_eql rfl rfl <| aB rfl <| en <| x_cond rfl (fun h6 => ?_) (fun h6 => ?_)
      ·try simp only [nm, ne_eq] at h6
       refine x_open [0, 1, 2, 3, 5, 6, 10] (.br 4 [] (.br 7 [8] (.br 9 [] (.br 11 [12, 13, 14] (.br 15 [] (.stop) (.nil)) (.nil)) (.nil)) (.nil)) (.br 7 [8] (.br 4 [] (.br 9 [] (.br 11 [12, 13, 14] (.br 15 [] (.stop) (.nil)) (.nil)) (.nil)) (.br 9 [] (.br 4 [] (.br 11 [12, 13, 14] (.br 15 [] (.stop) (.nil)) (.nil)) (.br 11 [] (.br 4 [12, 13, 14] (.br 15 [] (.stop) (.nil)) (.nil)) (.nil))) (.nil))) (.nil))) T.mixed rfl rfl (fun W => W.heap[b3]? = w5.heap[b3]? ∧ True) ⟨rfl, trivial⟩ ?_
       have o93 := hb4
       have c92 := Chg.drew w5
       generalize World.drew w5 = w91 at c92 ⊢
       replace HC := HC.then c92
       replace hb4 := hb4.tr0 c92
       replace hb2 := hb2.tr0 c92
       replace ha2 := ha2.tr0 c92
       refine sq_q rfl (fun W hT => r_move (v := .pointer _) rfl) <| sq_q rfl (fun W hT => r_move (v := .pointer _) rfl) <| sq_q rfl (fun W hT => r_nilCheck rfl) <| sq_q rfl (fun W hT => r_fieldAddr T.fld48_2 rfl) <| sq_q rfl (fun W hT => r_move (v := .pointer _) rfl) <| sq_q rfl (fun W hT => r_move (v := S _) rfl) <| sq_q rfl (fun W hT => r_loadA (vs := [_, _, _, _, _, _]) T.agg68 rfl (Blk.cells (n := 6) (vs := [_, _, _, _, _, _]) (show Blk W b3 _ _ from hT.1.trans o93) rfl) rfl) <| sq_nil <| tr_br ?_ ?_
       ·refine sq_peek rfl (r_load1 (v := S _) T.one9 rfl (Blk.cell hb2 rfl)) <| ⟨_, fun _ h => h, ⟨(Eq.trans hb4 o93.symm), trivial⟩, ?_⟩
        refine sq_nil <| tr_br ?_ ?_
        ·refine sq_call1 rfl (r_call (ags := [_, _]) rfl rfl T.ent49 rfl) (rnumber_spec (hdS args) hb2 (by omega)) ?_
         rintro _ w94 ⟨rfl, hb3, c95⟩
         replace HC := HC.trans c95 (by intro x hx; simp only [List.mem_singleton] at hx; subst hx; exact .inl (by simp))
         replace hb4 := hb4.tr1 c95 (Ne.symm ne_b_b3)
         replace ha2 := ha2.tr c95 (by intro k hk hD; rw [List.mem_singleton.1 hk] at hD; exact hDb hD)
         refine ⟨_, fun _ h => h, ⟨(Eq.trans hb4 o93.symm), trivial⟩, ?_⟩
         refine sq_q rfl (fun W hT => r_convInt T.u2 T.u58 rfl) <| sq_nil <| tr_br ?_ ?_
         ·rw [hwu]
          refine sq_call1 rfl (r_call (ags := [_, _, _]) rfl rfl T.ent50 rfl) (rdig10 _ hub _) ?_
          rintro _ w96 ⟨rfl, c97⟩
          replace HC := HC.then c97
          replace hb4 := hb4.tr0 c97
          replace ha2 := ha2.tr0 c97
          replace hb3 := hb3.tr0 c97
          refine ⟨_, fun _ h => h, ⟨(Eq.trans hb4 o93.symm), trivial⟩, ?_⟩
          refine sq_nil <| tr_br ?_ ?_
          ·refine sq_call1 rfl (r_call (ags := [_, _, _, _]) rfl rfl T.ent47 rfl) (rpadD_spec x hx [] _ _ (by simp) (by first | omega | (rw [upper_len]; omega))) ?_
           rintro _ w98 ⟨rfl, c99⟩
           replace HC := HC.then c99
           replace hb4 := hb4.tr0 c99
           replace ha2 := ha2.tr0 c99
           replace hb3 := hb3.tr0 c99
           refine ⟨_, fun _ h => h, ⟨(Eq.trans hb4 o93.symm), trivial⟩, ?_⟩
           refine sq_q rfl (fun W hT => r_sadd rfl rfl (by (have h9 := digs_len hx [] (basV 10 (uN (nmV (hdS args)).1)); simp only [List.length_nil] at h9; omega))) <| sq_q rfl (fun W hT => r_nilCheck rfl) <| sq_q rfl (fun W hT => r_fieldAddr T.fld48_2 rfl) <| sq_nil <| tr_br ?_ ?_
           ·refine sq_store1 rfl T.size9 (v := S _) rfl rfl rfl hb3 rfl (Nat.le_of_ble_eq_true rfl) (by simp [Value.oneCell', S]) rfl ?_
            intro w100 c101 hb102; simp only [setVs, setV] at hb102
            clear hb3
            replace HC := HC.trans c101 (by intro x hx; simp only [List.mem_singleton] at hx; subst hx; exact .inl (by simp))
            replace hb4 := hb4.tr1 c101 (Ne.symm ne_b_b3)
            replace ha2 := ha2.tr c101 (by intro k hk hD; rw [List.mem_singleton.1 hk] at hD; exact hDb hD)
            refine ⟨_, fun _ h => h, ⟨(Eq.trans hb4 o93.symm), trivial⟩, ?_⟩
            refine sq_nil ?_
            clear o93
            refine tr_stop <| block_n <| ret_none_n rfl ?_
            have ho9 : cnvO x (hdS args) = digsV x [] (basV 10 (uN (nmV (hdS args)).1)) := by unfold cnvO; rw [if_neg h0, if_neg h1, if_neg h2, if_neg hnd, if_pos h6]
            have he9 : cnvE x (hdS args) ee = ee := by unfold cnvE; rw [if_neg (by omega)]
            have hs9 : cnvS x (hdS args) st = stV (hdS args) st := by unfold cnvS; rw [if_neg (by omega)]
            rw [ho9, he9, hs9]
            exact ⟨rfl, _, _, hb102, ha2, hca2, HC⟩
           exact tr_nil
          exact tr_nil
         exact tr_nil
        exact tr_nil
       refine tr_br ?_ ?_
       ·refine sq_call1 rfl (r_call (ags := [_, _]) rfl rfl T.ent49 rfl) (rnumber_spec (hdS args) hb2 (by omega)) ?_
        rintro _ w103 ⟨rfl, hb3, c104⟩
        replace HC := HC.trans c104 (by intro x hx; simp only [List.mem_singleton] at hx; subst hx; exact .inl (by simp))
        replace hb4 := hb4.tr1 c104 (Ne.symm ne_b_b3)
        replace ha2 := ha2.tr c104 (by intro k hk hD; rw [List.mem_singleton.1 hk] at hD; exact hDb hD)
        refine ⟨_, fun _ h => h, ⟨(Eq.trans hb4 o93.symm), trivial⟩, ?_⟩
        refine sq_q rfl (fun W hT => r_convInt T.u2 T.u58 rfl) <| sq_nil <| tr_br ?_ ?_
        ·refine sq_peek rfl (r_load1 (v := S _) T.one9 rfl (Blk.cell hb3 rfl)) <| ⟨_, fun _ h => h, ⟨(Eq.trans hb4 o93.symm), trivial⟩, ?_⟩
         refine sq_nil <| tr_br ?_ ?_
         ·rw [hwu]
          refine sq_call1 rfl (r_call (ags := [_, _, _]) rfl rfl T.ent50 rfl) (rdig10 _ hub _) ?_
          rintro _ w105 ⟨rfl, c106⟩
          replace HC := HC.then c106
          replace hb4 := hb4.tr0 c106
          replace ha2 := ha2.tr0 c106
          replace hb3 := hb3.tr0 c106
          refine ⟨_, fun _ h => h, ⟨(Eq.trans hb4 o93.symm), trivial⟩, ?_⟩
          refine sq_nil <| tr_br ?_ ?_
          ·refine sq_call1 rfl (r_call (ags := [_, _, _, _]) rfl rfl T.ent47 rfl) (rpadD_spec x hx [] _ _ (by simp) (by first | omega | (rw [upper_len]; omega))) ?_
           rintro _ w107 ⟨rfl, c108⟩
           replace HC := HC.then c108
           replace hb4 := hb4.tr0 c108
           replace ha2 := ha2.tr0 c108
           replace hb3 := hb3.tr0 c108
           refine ⟨_, fun _ h => h, ⟨(Eq.trans hb4 o93.symm), trivial⟩, ?_⟩
           refine sq_q rfl (fun W hT => r_sadd rfl rfl (by (have h9 := digs_len hx [] (basV 10 (uN (nmV (hdS args)).1)); simp only [List.length_nil] at h9; omega))) <| sq_q rfl (fun W hT => r_nilCheck rfl) <| sq_q rfl (fun W hT => r_fieldAddr T.fld48_2 rfl) <| sq_nil <| tr_br ?_ ?_
           ·refine sq_store1 rfl T.size9 (v := S _) rfl rfl rfl hb3 rfl (Nat.le_of_ble_eq_true rfl) (by simp [Value.oneCell', S]) rfl ?_
            intro w109 c110 hb111; simp only [setVs, setV] at hb111
            clear hb3
            replace HC := HC.trans c110 (by intro x hx; simp only [List.mem_singleton] at hx; subst hx; exact .inl (by simp))
            replace hb4 := hb4.tr1 c110 (Ne.symm ne_b_b3)
            replace ha2 := ha2.tr c110 (by intro k hk hD; rw [List.mem_singleton.1 hk] at hD; exact hDb hD)
            refine ⟨_, fun _ h => h, ⟨(Eq.trans hb4 o93.symm), trivial⟩, ?_⟩
            refine sq_nil ?_
            clear o93
            refine tr_stop <| block_n <| ret_none_n rfl ?_
            have ho9 : cnvO x (hdS args) = digsV x [] (basV 10 (uN (nmV (hdS args)).1)) := by unfold cnvO; rw [if_neg h0, if_neg h1, if_neg h2, if_neg hnd, if_pos h6]
            have he9 : cnvE x (hdS args) ee = ee := by unfold cnvE; rw [if_neg (by omega)]
            have hs9 : cnvS x (hdS args) st = stV (hdS args) st := by unfold cnvS; rw [if_neg (by omega)]
            rw [ho9, he9, hs9]
            exact ⟨rfl, _, _, hb111, ha2, hca2, HC⟩
           exact tr_nil
          exact tr_nil
         exact tr_nil
        refine tr_br ?_ ?_
        ·rw [hwu]
         refine sq_call1 rfl (r_call (ags := [_, _, _]) rfl rfl T.ent50 rfl) (rdig10 _ hub _) ?_
         rintro _ w112 ⟨rfl, c113⟩
         replace HC := HC.then c113
         replace hb4 := hb4.tr0 c113
         replace ha2 := ha2.tr0 c113
         replace hb3 := hb3.tr0 c113
         refine ⟨_, fun _ h => h, ⟨(Eq.trans hb4 o93.symm), trivial⟩, ?_⟩
         refine sq_nil <| tr_br ?_ ?_
         ·refine sq_peek rfl (r_load1 (v := S _) T.one9 rfl (Blk.cell hb3 rfl)) <| ⟨_, fun _ h => h, ⟨(Eq.trans hb4 o93.symm), trivial⟩, ?_⟩
          refine sq_nil <| tr_br ?_ ?_
          ·refine sq_call1 rfl (r_call (ags := [_, _, _, _]) rfl rfl T.ent47 rfl) (rpadD_spec x hx [] _ _ (by simp) (by first | omega | (rw [upper_len]; omega))) ?_
           rintro _ w114 ⟨rfl, c115⟩
           replace HC := HC.then c115
           replace hb4 := hb4.tr0 c115
           replace ha2 := ha2.tr0 c115
           replace hb3 := hb3.tr0 c115
           refine ⟨_, fun _ h => h, ⟨(Eq.trans hb4 o93.symm), trivial⟩, ?_⟩
           refine sq_q rfl (fun W hT => r_sadd rfl rfl (by (have h9 := digs_len hx [] (basV 10 (uN (nmV (hdS args)).1)); simp only [List.length_nil] at h9; omega))) <| sq_q rfl (fun W hT => r_nilCheck rfl) <| sq_q rfl (fun W hT => r_fieldAddr T.fld48_2 rfl) <| sq_nil <| tr_br ?_ ?_
           ·refine sq_store1 rfl T.size9 (v := S _) rfl rfl rfl hb3 rfl (Nat.le_of_ble_eq_true rfl) (by simp [Value.oneCell', S]) rfl ?_
            intro w116 c117 hb118; simp only [setVs, setV] at hb118
            clear hb3
            replace HC := HC.trans c117 (by intro x hx; simp only [List.mem_singleton] at hx; subst hx; exact .inl (by simp))
            replace hb4 := hb4.tr1 c117 (Ne.symm ne_b_b3)
            replace ha2 := ha2.tr c117 (by intro k hk hD; rw [List.mem_singleton.1 hk] at hD; exact hDb hD)
            refine ⟨_, fun _ h => h, ⟨(Eq.trans hb4 o93.symm), trivial⟩, ?_⟩
            refine sq_nil ?_
            clear o93
            refine tr_stop <| block_n <| ret_none_n rfl ?_
            have ho9 : cnvO x (hdS args) = digsV x [] (basV 10 (uN (nmV (hdS args)).1)) := by unfold cnvO; rw [if_neg h0, if_neg h1, if_neg h2, if_neg hnd, if_pos h6]
            have he9 : cnvE x (hdS args) ee = ee := by unfold cnvE; rw [if_neg (by omega)]
            have hs9 : cnvS x (hdS args) st = stV (hdS args) st := by unfold cnvS; rw [if_neg (by omega)]
            rw [ho9, he9, hs9]
            exact ⟨rfl, _, _, hb118, ha2, hca2, HC⟩
           exact tr_nil
          exact tr_nil
         refine tr_br ?_ ?_
         ·refine sq_call1 rfl (r_call (ags := [_, _, _, _]) rfl rfl T.ent47 rfl) (rpadD_spec x hx [] _ _ (by simp) (by first | omega | (rw [upper_len]; omega))) ?_
          rintro _ w119 ⟨rfl, c120⟩
          replace HC := HC.then c120
          replace hb4 := hb4.tr0 c120
          replace ha2 := ha2.tr0 c120
          replace hb3 := hb3.tr0 c120
          refine ⟨_, fun _ h => h, ⟨(Eq.trans hb4 o93.symm), trivial⟩, ?_⟩
          refine sq_nil <| tr_br ?_ ?_
          ·refine sq_peek rfl (r_load1 (v := S _) T.one9 rfl (Blk.cell hb3 rfl)) <| ⟨_, fun _ h => h, ⟨(Eq.trans hb4 o93.symm), trivial⟩, ?_⟩
           refine sq_q rfl (fun W hT => r_sadd rfl rfl (by (have h9 := digs_len hx [] (basV 10 (uN (nmV (hdS args)).1)); simp only [List.length_nil] at h9; omega))) <| sq_q rfl (fun W hT => r_nilCheck rfl) <| sq_q rfl (fun W hT => r_fieldAddr T.fld48_2 rfl) <| sq_nil <| tr_br ?_ ?_
           ·refine sq_store1 rfl T.size9 (v := S _) rfl rfl rfl hb3 rfl (Nat.le_of_ble_eq_true rfl) (by simp [Value.oneCell', S]) rfl ?_
            intro w121 c122 hb123; simp only [setVs, setV] at hb123
            clear hb3
            replace HC := HC.trans c122 (by intro x hx; simp only [List.mem_singleton] at hx; subst hx; exact .inl (by simp))
            replace hb4 := hb4.tr1 c122 (Ne.symm ne_b_b3)
            replace ha2 := ha2.tr c122 (by intro k hk hD; rw [List.mem_singleton.1 hk] at hD; exact hDb hD)
            refine ⟨_, fun _ h => h, ⟨(Eq.trans hb4 o93.symm), trivial⟩, ?_⟩
            refine sq_nil ?_
            clear o93
            refine tr_stop <| block_n <| ret_none_n rfl ?_
            have ho9 : cnvO x (hdS args) = digsV x [] (basV 10 (uN (nmV (hdS args)).1)) := by unfold cnvO; rw [if_neg h0, if_neg h1, if_neg h2, if_neg hnd, if_pos h6]
            have he9 : cnvE x (hdS args) ee = ee := by unfold cnvE; rw [if_neg (by omega)]
            have hs9 : cnvS x (hdS args) st = stV (hdS args) st := by unfold cnvS; rw [if_neg (by omega)]
            rw [ho9, he9, hs9]
            exact ⟨rfl, _, _, hb123, ha2, hca2, HC⟩
           exact tr_nil
          exact tr_nil
         exact tr_nil
        exact tr_nil
       exact tr_nil
      ·try simp only [nm, ne_eq] at h6
       refine sr rfl <| Wp rfl <| st_eql rfl rfl <| aB rfl <| en <| x_cond rfl (fun h7 => ?_) (fun h7 => ?_)
       ·try simp only [nm, ne_eq] at h7
        refine x_open [0, 1, 2, 3, 5, 6, 10] (.br 4 [] (.br 7 [8] (.br 9 [] (.br 11 [12, 13, 14] (.br 15 [] (.stop) (.nil)) (.nil)) (.nil)) (.nil)) (.br 7 [8] (.br 4 [] (.br 9 [] (.br 11 [12, 13, 14] (.br 15 [] (.stop) (.nil)) (.nil)) (.nil)) (.br 9 [] (.br 4 [] (.br 11 [12, 13, 14] (.br 15 [] (.stop) (.nil)) (.nil)) (.br 11 [] (.br 4 [12, 13, 14] (.br 15 [] (.stop) (.nil)) (.nil)) (.nil))) (.nil))) (.nil))) T.mixed rfl rfl (fun W => W.heap[b3]? = w5.heap[b3]? ∧ True) ⟨rfl, trivial⟩ ?_
        have o126 := hb4
        have c125 := Chg.drew w5
        generalize World.drew w5 = w124 at c125 ⊢
        replace HC := HC.then c125
        replace hb4 := hb4.tr0 c125
        replace hb2 := hb2.tr0 c125
        replace ha2 := ha2.tr0 c125
        refine sq_q rfl (fun W hT => r_move (v := .pointer _) rfl) <| sq_q rfl (fun W hT => r_move (v := .pointer _) rfl) <| sq_q rfl (fun W hT => r_nilCheck rfl) <| sq_q rfl (fun W hT => r_fieldAddr T.fld48_2 rfl) <| sq_q rfl (fun W hT => r_move (v := .pointer _) rfl) <| sq_q rfl (fun W hT => r_move (v := S _) rfl) <| sq_q rfl (fun W hT => r_loadA (vs := [_, _, _, _, _, _]) T.agg68 rfl (Blk.cells (n := 6) (vs := [_, _, _, _, _, _]) (show Blk W b3 _ _ from hT.1.trans o126) rfl) rfl) <| sq_nil <| tr_br ?_ ?_
        ·refine sq_peek rfl (r_load1 (v := S _) T.one9 rfl (Blk.cell hb2 rfl)) <| ⟨_, fun _ h => h, ⟨(Eq.trans hb4 o126.symm), trivial⟩, ?_⟩
         refine sq_nil <| tr_br ?_ ?_
         ·refine sq_call1 rfl (r_call (ags := [_, _]) rfl rfl T.ent49 rfl) (rnumber_spec (hdS args) hb2 (by omega)) ?_
          rintro _ w127 ⟨rfl, hb3, c128⟩
          replace HC := HC.trans c128 (by intro x hx; simp only [List.mem_singleton] at hx; subst hx; exact .inl (by simp))
          replace hb4 := hb4.tr1 c128 (Ne.symm ne_b_b3)
          replace ha2 := ha2.tr c128 (by intro k hk hD; rw [List.mem_singleton.1 hk] at hD; exact hDb hD)
          refine ⟨_, fun _ h => h, ⟨(Eq.trans hb4 o126.symm), trivial⟩, ?_⟩
          refine sq_q rfl (fun W hT => r_convInt T.u2 T.u58 rfl) <| sq_nil <| tr_br ?_ ?_
          ·rw [hwu]
           refine sq_call1 rfl (r_call (ags := [_, _, _]) rfl rfl T.ent50 rfl) (rdig8 _ hub _) ?_
           rintro _ w129 ⟨rfl, c130⟩
           replace HC := HC.then c130
           replace hb4 := hb4.tr0 c130
           replace ha2 := ha2.tr0 c130
           replace hb3 := hb3.tr0 c130
           refine ⟨_, fun _ h => h, ⟨(Eq.trans hb4 o126.symm), trivial⟩, ?_⟩
           refine sq_nil <| tr_br ?_ ?_
           ·refine sq_call1 rfl (r_call (ags := [_, _, _, _]) rfl rfl T.ent47 rfl) (rpadD_spec x hx [] _ _ (by simp) (by first | omega | (rw [upper_len]; omega))) ?_
            rintro _ w131 ⟨rfl, c132⟩
            replace HC := HC.then c132
            replace hb4 := hb4.tr0 c132
            replace ha2 := ha2.tr0 c132
            replace hb3 := hb3.tr0 c132
            refine ⟨_, fun _ h => h, ⟨(Eq.trans hb4 o126.symm), trivial⟩, ?_⟩
            refine sq_q rfl (fun W hT => r_sadd rfl rfl (by (have h9 := digs_len hx [] (basV 8 (uN (nmV (hdS args)).1)); simp only [List.length_nil] at h9; omega))) <| sq_q rfl (fun W hT => r_nilCheck rfl) <| sq_q rfl (fun W hT => r_fieldAddr T.fld48_2 rfl) <| sq_nil <| tr_br ?_ ?_
            ·refine sq_store1 rfl T.size9 (v := S _) rfl rfl rfl hb3 rfl (Nat.le_of_ble_eq_true rfl) (by simp [Value.oneCell', S]) rfl ?_
             intro w133 c134 hb135; simp only [setVs, setV] at hb135
             clear hb3
             replace HC := HC.trans c134 (by intro x hx; simp only [List.mem_singleton] at hx; subst hx; exact .inl (by simp))
             replace hb4 := hb4.tr1 c134 (Ne.symm ne_b_b3)
             replace ha2 := ha2.tr c134 (by intro k hk hD; rw [List.mem_singleton.1 hk] at hD; exact hDb hD)
             refine ⟨_, fun _ h => h, ⟨(Eq.trans hb4 o126.symm), trivial⟩, ?_⟩
             refine sq_nil ?_
             clear o126
             refine tr_stop <| block_n <| ret_none_n rfl ?_
             have ho9 : cnvO x (hdS args) = digsV x [] (basV 8 (uN (nmV (hdS args)).1)) := by unfold cnvO; rw [if_neg h0, if_neg h1, if_neg h2, if_neg hnd, if_neg h6, if_pos h7]
             have he9 : cnvE x (hdS args) ee = ee := by unfold cnvE; rw [if_neg (by omega)]
             have hs9 : cnvS x (hdS args) st = stV (hdS args) st := by unfold cnvS; rw [if_neg (by omega)]
             rw [ho9, he9, hs9]
             exact ⟨rfl, _, _, hb135, ha2, hca2, HC⟩
            exact tr_nil
           exact tr_nil
          exact tr_nil
         exact tr_nil
        refine tr_br ?_ ?_
        ·refine sq_call1 rfl (r_call (ags := [_, _]) rfl rfl T.ent49 rfl) (rnumber_spec (hdS args) hb2 (by omega)) ?_
         rintro _ w136 ⟨rfl, hb3, c137⟩
         replace HC := HC.trans c137 (by intro x hx; simp only [List.mem_singleton] at hx; subst hx; exact .inl (by simp))
         replace hb4 := hb4.tr1 c137 (Ne.symm ne_b_b3)
         replace ha2 := ha2.tr c137 (by intro k hk hD; rw [List.mem_singleton.1 hk] at hD; exact hDb hD)
         refine ⟨_, fun _ h => h, ⟨(Eq.trans hb4 o126.symm), trivial⟩, ?_⟩
         refine sq_q rfl (fun W hT => r_convInt T.u2 T.u58 rfl) <| sq_nil <| tr_br ?_ ?_
         ·refine sq_peek rfl (r_load1 (v := S _) T.one9 rfl (Blk.cell hb3 rfl)) <| ⟨_, fun _ h => h, ⟨(Eq.trans hb4 o126.symm), trivial⟩, ?_⟩
          refine sq_nil <| tr_br ?_ ?_
          ·rw [hwu]
           refine sq_call1 rfl (r_call (ags := [_, _, _]) rfl rfl T.ent50 rfl) (rdig8 _ hub _) ?_
           rintro _ w138 ⟨rfl, c139⟩
           replace HC := HC.then c139
           replace hb4 := hb4.tr0 c139
           replace ha2 := ha2.tr0 c139
           replace hb3 := hb3.tr0 c139
           refine ⟨_, fun _ h => h, ⟨(Eq.trans hb4 o126.symm), trivial⟩, ?_⟩
           refine sq_nil <| tr_br ?_ ?_
           ·refine sq_call1 rfl (r_call (ags := [_, _, _, _]) rfl rfl T.ent47 rfl) (rpadD_spec x hx [] _ _ (by simp) (by first | omega | (rw [upper_len]; omega))) ?_
            rintro _ w140 ⟨rfl, c141⟩
            replace HC := HC.then c141
            replace hb4 := hb4.tr0 c141
            replace ha2 := ha2.tr0 c141
            replace hb3 := hb3.tr0 c141
            refine ⟨_, fun _ h => h, ⟨(Eq.trans hb4 o126.symm), trivial⟩, ?_⟩
            refine sq_q rfl (fun W hT => r_sadd rfl rfl (by (have h9 := digs_len hx [] (basV 8 (uN (nmV (hdS args)).1)); simp only [List.length_nil] at h9; omega))) <| sq_q rfl (fun W hT => r_nilCheck rfl) <| sq_q rfl (fun W hT => r_fieldAddr T.fld48_2 rfl) <| sq_nil <| tr_br ?_ ?_
            ·refine sq_store1 rfl T.size9 (v := S _) rfl rfl rfl hb3 rfl (Nat.le_of_ble_eq_true rfl) (by simp [Value.oneCell', S]) rfl ?_
             intro w142 c143 hb144; simp only [setVs, setV] at hb144
             clear hb3
             replace HC := HC.trans c143 (by intro x hx; simp only [List.mem_singleton] at hx; subst hx; exact .inl (by simp))
             replace hb4 := hb4.tr1 c143 (Ne.symm ne_b_b3)
             replace ha2 := ha2.tr c143 (by intro k hk hD; rw [List.mem_singleton.1 hk] at hD; exact hDb hD)
             refine ⟨_, fun _ h => h, ⟨(Eq.trans hb4 o126.symm), trivial⟩, ?_⟩
             refine sq_nil ?_
             clear o126
             refine tr_stop <| block_n <| ret_none_n rfl ?_
             have ho9 : cnvO x (hdS args) = digsV x [] (basV 8 (uN (nmV (hdS args)).1)) := by unfold cnvO; rw [if_neg h0, if_neg h1, if_neg h2, if_neg hnd, if_neg h6, if_pos h7]
             have he9 : cnvE x (hdS args) ee = ee := by unfold cnvE; rw [if_neg (by omega)]
             have hs9 : cnvS x (hdS args) st = stV (hdS args) st := by unfold cnvS; rw [if_neg (by omega)]
             rw [ho9, he9, hs9]
             exact ⟨rfl, _, _, hb144, ha2, hca2, HC⟩
            exact tr_nil
           exact tr_nil
          exact tr_nil
         refine tr_br ?_ ?_
         ·rw [hwu]
          refine sq_call1 rfl (r_call (ags := [_, _, _]) rfl rfl T.ent50 rfl) (rdig8 _ hub _) ?_
          rintro _ w145 ⟨rfl, c146⟩
          replace HC := HC.then c146
          replace hb4 := hb4.tr0 c146
          replace ha2 := ha2.tr0 c146
          replace hb3 := hb3.tr0 c146
          refine ⟨_, fun _ h => h, ⟨(Eq.trans hb4 o126.symm), trivial⟩, ?_⟩
          refine sq_nil <| tr_br ?_ ?_
          ·refine sq_peek rfl (r_load1 (v := S _) T.one9 rfl (Blk.cell hb3 rfl)) <| ⟨_, fun _ h => h, ⟨(Eq.trans hb4 o126.symm), trivial⟩, ?_⟩
           refine sq_nil <| tr_br ?_ ?_
           ·refine sq_call1 rfl (r_call (ags := [_, _, _, _]) rfl rfl T.ent47 rfl) (rpadD_spec x hx [] _ _ (by simp) (by first | omega | (rw [upper_len]; omega))) ?_
            rintro _ w147 ⟨rfl, c148⟩
            replace HC := HC.then c148
            replace hb4 := hb4.tr0 c148
            replace ha2 := ha2.tr0 c148
            replace hb3 := hb3.tr0 c148
            refine ⟨_, fun _ h => h, ⟨(Eq.trans hb4 o126.symm), trivial⟩, ?_⟩
            refine sq_q rfl (fun W hT => r_sadd rfl rfl (by (have h9 := digs_len hx [] (basV 8 (uN (nmV (hdS args)).1)); simp only [List.length_nil] at h9; omega))) <| sq_q rfl (fun W hT => r_nilCheck rfl) <| sq_q rfl (fun W hT => r_fieldAddr T.fld48_2 rfl) <| sq_nil <| tr_br ?_ ?_
            ·refine sq_store1 rfl T.size9 (v := S _) rfl rfl rfl hb3 rfl (Nat.le_of_ble_eq_true rfl) (by simp [Value.oneCell', S]) rfl ?_
             intro w149 c150 hb151; simp only [setVs, setV] at hb151
             clear hb3
             replace HC := HC.trans c150 (by intro x hx; simp only [List.mem_singleton] at hx; subst hx; exact .inl (by simp))
             replace hb4 := hb4.tr1 c150 (Ne.symm ne_b_b3)
             replace ha2 := ha2.tr c150 (by intro k hk hD; rw [List.mem_singleton.1 hk] at hD; exact hDb hD)
             refine ⟨_, fun _ h => h, ⟨(Eq.trans hb4 o126.symm), trivial⟩, ?_⟩
             refine sq_nil ?_
             clear o126
             refine tr_stop <| block_n <| ret_none_n rfl ?_
             have ho9 : cnvO x (hdS args) = digsV x [] (basV 8 (uN (nmV (hdS args)).1)) := by unfold cnvO; rw [if_neg h0, if_neg h1, if_neg h2, if_neg hnd, if_neg h6, if_pos h7]
             have he9 : cnvE x (hdS args) ee = ee := by unfold cnvE; rw [if_neg (by omega)]
             have hs9 : cnvS x (hdS args) st = stV (hdS args) st := by unfold cnvS; rw [if_neg (by omega)]
             rw [ho9, he9, hs9]
             exact ⟨rfl, _, _, hb151, ha2, hca2, HC⟩
            exact tr_nil
           exact tr_nil
          refine tr_br ?_ ?_
          ·refine sq_call1 rfl (r_call (ags := [_, _, _, _]) rfl rfl T.ent47 rfl) (rpadD_spec x hx [] _ _ (by simp) (by first | omega | (rw [upper_len]; omega))) ?_
           rintro _ w152 ⟨rfl, c153⟩
           replace HC := HC.then c153
           replace hb4 := hb4.tr0 c153
           replace ha2 := ha2.tr0 c153
           replace hb3 := hb3.tr0 c153
           refine ⟨_, fun _ h => h, ⟨(Eq.trans hb4 o126.symm), trivial⟩, ?_⟩
           refine sq_nil <| tr_br ?_ ?_
           ·refine sq_peek rfl (r_load1 (v := S _) T.one9 rfl (Blk.cell hb3 rfl)) <| ⟨_, fun _ h => h, ⟨(Eq.trans hb4 o126.symm), trivial⟩, ?_⟩
            refine sq_q rfl (fun W hT => r_sadd rfl rfl (by (have h9 := digs_len hx [] (basV 8 (uN (nmV (hdS args)).1)); simp only [List.length_nil] at h9; omega))) <| sq_q rfl (fun W hT => r_nilCheck rfl) <| sq_q rfl (fun W hT => r_fieldAddr T.fld48_2 rfl) <| sq_nil <| tr_br ?_ ?_
            ·refine sq_store1 rfl T.size9 (v := S _) rfl rfl rfl hb3 rfl (Nat.le_of_ble_eq_true rfl) (by simp [Value.oneCell', S]) rfl ?_
             intro w154 c155 hb156; simp only [setVs, setV] at hb156
             clear hb3
             replace HC := HC.trans c155 (by intro x hx; simp only [List.mem_singleton] at hx; subst hx; exact .inl (by simp))
             replace hb4 := hb4.tr1 c155 (Ne.symm ne_b_b3)
             replace ha2 := ha2.tr c155 (by intro k hk hD; rw [List.mem_singleton.1 hk] at hD; exact hDb hD)
             refine ⟨_, fun _ h => h, ⟨(Eq.trans hb4 o126.symm), trivial⟩, ?_⟩
             refine sq_nil ?_
             clear o126
             refine tr_stop <| block_n <| ret_none_n rfl ?_
             have ho9 : cnvO x (hdS args) = digsV x [] (basV 8 (uN (nmV (hdS args)).1)) := by unfold cnvO; rw [if_neg h0, if_neg h1, if_neg h2, if_neg hnd, if_neg h6, if_pos h7]
             have he9 : cnvE x (hdS args) ee = ee := by unfold cnvE; rw [if_neg (by omega)]
             have hs9 : cnvS x (hdS args) st = stV (hdS args) st := by unfold cnvS; rw [if_neg (by omega)]
             rw [ho9, he9, hs9]
             exact ⟨rfl, _, _, hb156, ha2, hca2, HC⟩
            exact tr_nil
           exact tr_nil
          exact tr_nil
         exact tr_nil
        exact tr_nil
       ·try simp only [nm, ne_eq] at h7
        refine sr rfl <| Wp rfl <| st_eql rfl rfl <| aB rfl <| en <| x_cond rfl (fun h8 => ?_) (fun h8 => ?_)
        ·try simp only [nm, ne_eq] at h8
         refine x_open [0, 1, 2, 3, 5, 6, 10] (.br 4 [] (.br 7 [8] (.br 9 [] (.br 11 [12, 13, 14] (.br 15 [] (.stop) (.nil)) (.nil)) (.nil)) (.nil)) (.br 7 [8] (.br 4 [] (.br 9 [] (.br 11 [12, 13, 14] (.br 15 [] (.stop) (.nil)) (.nil)) (.nil)) (.br 9 [] (.br 4 [] (.br 11 [12, 13, 14] (.br 15 [] (.stop) (.nil)) (.nil)) (.br 11 [] (.br 4 [12, 13, 14] (.br 15 [] (.stop) (.nil)) (.nil)) (.nil))) (.nil))) (.nil))) T.mixed rfl rfl (fun W => W.heap[b3]? = w5.heap[b3]? ∧ True) ⟨rfl, trivial⟩ ?_
         have o159 := hb4
         have c158 := Chg.drew w5
         generalize World.drew w5 = w157 at c158 ⊢
         replace HC := HC.then c158
         replace hb4 := hb4.tr0 c158
         replace hb2 := hb2.tr0 c158
         replace ha2 := ha2.tr0 c158
         refine sq_q rfl (fun W hT => r_move (v := .pointer _) rfl) <| sq_q rfl (fun W hT => r_move (v := .pointer _) rfl) <| sq_q rfl (fun W hT => r_nilCheck rfl) <| sq_q rfl (fun W hT => r_fieldAddr T.fld48_2 rfl) <| sq_q rfl (fun W hT => r_move (v := .pointer _) rfl) <| sq_q rfl (fun W hT => r_move (v := S _) rfl) <| sq_q rfl (fun W hT => r_loadA (vs := [_, _, _, _, _, _]) T.agg68 rfl (Blk.cells (n := 6) (vs := [_, _, _, _, _, _]) (show Blk W b3 _ _ from hT.1.trans o159) rfl) rfl) <| sq_nil <| tr_br ?_ ?_
         ·refine sq_peek rfl (r_load1 (v := S _) T.one9 rfl (Blk.cell hb2 rfl)) <| ⟨_, fun _ h => h, ⟨(Eq.trans hb4 o159.symm), trivial⟩, ?_⟩
          refine sq_nil <| tr_br ?_ ?_
          ·refine sq_call1 rfl (r_call (ags := [_, _]) rfl rfl T.ent49 rfl) (rnumber_spec (hdS args) hb2 (by omega)) ?_
           rintro _ w160 ⟨rfl, hb3, c161⟩
           replace HC := HC.trans c161 (by intro x hx; simp only [List.mem_singleton] at hx; subst hx; exact .inl (by simp))
           replace hb4 := hb4.tr1 c161 (Ne.symm ne_b_b3)
           replace ha2 := ha2.tr c161 (by intro k hk hD; rw [List.mem_singleton.1 hk] at hD; exact hDb hD)
           refine ⟨_, fun _ h => h, ⟨(Eq.trans hb4 o159.symm), trivial⟩, ?_⟩
           refine sq_q rfl (fun W hT => r_convInt T.u2 T.u58 rfl) <| sq_nil <| tr_br ?_ ?_
           ·rw [hwu]
            refine sq_call1 rfl (r_call (ags := [_, _, _]) rfl rfl T.ent50 rfl) (rdig16 _ hub _) ?_
            rintro _ w162 ⟨rfl, c163⟩
            replace HC := HC.then c163
            replace hb4 := hb4.tr0 c163
            replace ha2 := ha2.tr0 c163
            replace hb3 := hb3.tr0 c163
            refine ⟨_, fun _ h => h, ⟨(Eq.trans hb4 o159.symm), trivial⟩, ?_⟩
            refine sq_nil <| tr_br ?_ ?_
            ·refine sq_call1 rfl (r_call (ags := [_, _, _, _]) rfl rfl T.ent47 rfl) (rpadD_spec x hx [] _ _ (by simp) (by first | omega | (rw [upper_len]; omega))) ?_
             rintro _ w164 ⟨rfl, c165⟩
             replace HC := HC.then c165
             replace hb4 := hb4.tr0 c165
             replace ha2 := ha2.tr0 c165
             replace hb3 := hb3.tr0 c165
             refine ⟨_, fun _ h => h, ⟨(Eq.trans hb4 o159.symm), trivial⟩, ?_⟩
             refine sq_q rfl (fun W hT => r_sadd rfl rfl (by (have h9 := digs_len hx [] (basV 16 (uN (nmV (hdS args)).1)); simp only [List.length_nil] at h9; omega))) <| sq_q rfl (fun W hT => r_nilCheck rfl) <| sq_q rfl (fun W hT => r_fieldAddr T.fld48_2 rfl) <| sq_nil <| tr_br ?_ ?_
             ·refine sq_store1 rfl T.size9 (v := S _) rfl rfl rfl hb3 rfl (Nat.le_of_ble_eq_true rfl) (by simp [Value.oneCell', S]) rfl ?_
              intro w166 c167 hb168; simp only [setVs, setV] at hb168
              clear hb3
              replace HC := HC.trans c167 (by intro x hx; simp only [List.mem_singleton] at hx; subst hx; exact .inl (by simp))
              replace hb4 := hb4.tr1 c167 (Ne.symm ne_b_b3)
              replace ha2 := ha2.tr c167 (by intro k hk hD; rw [List.mem_singleton.1 hk] at hD; exact hDb hD)
              refine ⟨_, fun _ h => h, ⟨(Eq.trans hb4 o159.symm), trivial⟩, ?_⟩
              refine sq_nil ?_
              clear o159
              refine tr_stop <| block_n <| ret_none_n rfl ?_
              have ho9 : cnvO x (hdS args) = digsV x [] (basV 16 (uN (nmV (hdS args)).1)) := by unfold cnvO; rw [if_neg h0, if_neg h1, if_neg h2, if_neg hnd, if_neg h6, if_neg h7, if_pos h8]
              have he9 : cnvE x (hdS args) ee = ee := by unfold cnvE; rw [if_neg (by omega)]
              have hs9 : cnvS x (hdS args) st = stV (hdS args) st := by unfold cnvS; rw [if_neg (by omega)]
              rw [ho9, he9, hs9]
              exact ⟨rfl, _, _, hb168, ha2, hca2, HC⟩
             exact tr_nil
            exact tr_nil
           exact tr_nil
          exact tr_nil
         refine tr_br ?_ ?_
         ·refine sq_call1 rfl (r_call (ags := [_, _]) rfl rfl T.ent49 rfl) (rnumber_spec (hdS args) hb2 (by omega)) ?_
          rintro _ w169 ⟨rfl, hb3, c170⟩
          replace HC := HC.trans c170 (by intro x hx; simp only [List.mem_singleton] at hx; subst hx; exact .inl (by simp))
          replace hb4 := hb4.tr1 c170 (Ne.symm ne_b_b3)
          replace ha2 := ha2.tr c170 (by intro k hk hD; rw [List.mem_singleton.1 hk] at hD; exact hDb hD)
          refine ⟨_, fun _ h => h, ⟨(Eq.trans hb4 o159.symm), trivial⟩, ?_⟩
          refine sq_q rfl (fun W hT => r_convInt T.u2 T.u58 rfl) <| sq_nil <| tr_br ?_ ?_
          ·refine sq_peek rfl (r_load1 (v := S _) T.one9 rfl (Blk.cell hb3 rfl)) <| ⟨_, fun _ h => h, ⟨(Eq.trans hb4 o159.symm), trivial⟩, ?_⟩
           refine sq_nil <| tr_br ?_ ?_
           ·rw [hwu]
            refine sq_call1 rfl (r_call (ags := [_, _, _]) rfl rfl T.ent50 rfl) (rdig16 _ hub _) ?_
            rintro _ w171 ⟨rfl, c172⟩
            replace HC := HC.then c172
            replace hb4 := hb4.tr0 c172
            replace ha2 := ha2.tr0 c172
            replace hb3 := hb3.tr0 c172
            refine ⟨_, fun _ h => h, ⟨(Eq.trans hb4 o159.symm), trivial⟩, ?_⟩
            refine sq_nil <| tr_br ?_ ?_
            ·refine sq_call1 rfl (r_call (ags := [_, _, _, _]) rfl rfl T.ent47 rfl) (rpadD_spec x hx [] _ _ (by simp) (by first | omega | (rw [upper_len]; omega))) ?_
             rintro _ w173 ⟨rfl, c174⟩
             replace HC := HC.then c174
             replace hb4 := hb4.tr0 c174
             replace ha2 := ha2.tr0 c174
             replace hb3 := hb3.tr0 c174
             refine ⟨_, fun _ h => h, ⟨(Eq.trans hb4 o159.symm), trivial⟩, ?_⟩
             refine sq_q rfl (fun W hT => r_sadd rfl rfl (by (have h9 := digs_len hx [] (basV 16 (uN (nmV (hdS args)).1)); simp only [List.length_nil] at h9; omega))) <| sq_q rfl (fun W hT => r_nilCheck rfl) <| sq_q rfl (fun W hT => r_fieldAddr T.fld48_2 rfl) <| sq_nil <| tr_br ?_ ?_
             ·refine sq_store1 rfl T.size9 (v := S _) rfl rfl rfl hb3 rfl (Nat.le_of_ble_eq_true rfl) (by simp [Value.oneCell', S]) rfl ?_
              intro w175 c176 hb177; simp only [setVs, setV] at hb177
              clear hb3
              replace HC := HC.trans c176 (by intro x hx; simp only [List.mem_singleton] at hx; subst hx; exact .inl (by simp))
              replace hb4 := hb4.tr1 c176 (Ne.symm ne_b_b3)
              replace ha2 := ha2.tr c176 (by intro k hk hD; rw [List.mem_singleton.1 hk] at hD; exact hDb hD)
              refine ⟨_, fun _ h => h, ⟨(Eq.trans hb4 o159.symm), trivial⟩, ?_⟩
              refine sq_nil ?_
              clear o159
              refine tr_stop <| block_n <| ret_none_n rfl ?_
              have ho9 : cnvO x (hdS args) = digsV x [] (basV 16 (uN (nmV (hdS args)).1)) := by unfold cnvO; rw [if_neg h0, if_neg h1, if_neg h2, if_neg hnd, if_neg h6, if_neg h7, if_pos h8]
              have he9 : cnvE x (hdS args) ee = ee := by unfold cnvE; rw [if_neg (by omega)]
              have hs9 : cnvS x (hdS args) st = stV (hdS args) st := by unfold cnvS; rw [if_neg (by omega)]
              rw [ho9, he9, hs9]
              exact ⟨rfl, _, _, hb177, ha2, hca2, HC⟩
             exact tr_nil
            exact tr_nil
           exact tr_nil
          refine tr_br ?_ ?_
          ·rw [hwu]
           refine sq_call1 rfl (r_call (ags := [_, _, _]) rfl rfl T.ent50 rfl) (rdig16 _ hub _) ?_
           rintro _ w178 ⟨rfl, c179⟩
           replace HC := HC.then c179
           replace hb4 := hb4.tr0 c179
           replace ha2 := ha2.tr0 c179
           replace hb3 := hb3.tr0 c179
           refine ⟨_, fun _ h => h, ⟨(Eq.trans hb4 o159.symm), trivial⟩, ?_⟩
           refine sq_nil <| tr_br ?_ ?_
           ·refine sq_peek rfl (r_load1 (v := S _) T.one9 rfl (Blk.cell hb3 rfl)) <| ⟨_, fun _ h => h, ⟨(Eq.trans hb4 o159.symm), trivial⟩, ?_⟩
            refine sq_nil <| tr_br ?_ ?_
            ·refine sq_call1 rfl (r_call (ags := [_, _, _, _]) rfl rfl T.ent47 rfl) (rpadD_spec x hx [] _ _ (by simp) (by first | omega | (rw [upper_len]; omega))) ?_
             rintro _ w180 ⟨rfl, c181⟩
             replace HC := HC.then c181
             replace hb4 := hb4.tr0 c181
             replace ha2 := ha2.tr0 c181
             replace hb3 := hb3.tr0 c181
             refine ⟨_, fun _ h => h, ⟨(Eq.trans hb4 o159.symm), trivial⟩, ?_⟩
             refine sq_q rfl (fun W hT => r_sadd rfl rfl (by (have h9 := digs_len hx [] (basV 16 (uN (nmV (hdS args)).1)); simp only [List.length_nil] at h9; omega))) <| sq_q rfl (fun W hT => r_nilCheck rfl) <| sq_q rfl (fun W hT => r_fieldAddr T.fld48_2 rfl) <| sq_nil <| tr_br ?_ ?_
             ·refine sq_store1 rfl T.size9 (v := S _) rfl rfl rfl hb3 rfl (Nat.le_of_ble_eq_true rfl) (by simp [Value.oneCell', S]) rfl ?_
              intro w182 c183 hb184; simp only [setVs, setV] at hb184
              clear hb3
              replace HC := HC.trans c183 (by intro x hx; simp only [List.mem_singleton] at hx; subst hx; exact .inl (by simp))
              replace hb4 := hb4.tr1 c183 (Ne.symm ne_b_b3)
              replace ha2 := ha2.tr c183 (by intro k hk hD; rw [List.mem_singleton.1 hk] at hD; exact hDb hD)
              refine ⟨_, fun _ h => h, ⟨(Eq.trans hb4 o159.symm), trivial⟩, ?_⟩
              refine sq_nil ?_
              clear o159
              refine tr_stop <| block_n <| ret_none_n rfl ?_
              have ho9 : cnvO x (hdS args) = digsV x [] (basV 16 (uN (nmV (hdS args)).1)) := by unfold cnvO; rw [if_neg h0, if_neg h1, if_neg h2, if_neg hnd, if_neg h6, if_neg h7, if_pos h8]
              have he9 : cnvE x (hdS args) ee = ee := by unfold cnvE; rw [if_neg (by omega)]
              have hs9 : cnvS x (hdS args) st = stV (hdS args) st := by unfold cnvS; rw [if_neg (by omega)]
              rw [ho9, he9, hs9]
              exact ⟨rfl, _, _, hb184, ha2, hca2, HC⟩
             exact tr_nil
            exact tr_nil
           refine tr_br ?_ ?_
           ·refine sq_call1 rfl (r_call (ags := [_, _, _, _]) rfl rfl T.ent47 rfl) (rpadD_spec x hx [] _ _ (by simp) (by first | omega | (rw [upper_len]; omega))) ?_
            rintro _ w185 ⟨rfl, c186⟩
            replace HC := HC.then c186
            replace hb4 := hb4.tr0 c186
            replace ha2 := ha2.tr0 c186
            replace hb3 := hb3.tr0 c186
            refine ⟨_, fun _ h => h, ⟨(Eq.trans hb4 o159.symm), trivial⟩, ?_⟩
            refine sq_nil <| tr_br ?_ ?_
            ·refine sq_peek rfl (r_load1 (v := S _) T.one9 rfl (Blk.cell hb3 rfl)) <| ⟨_, fun _ h => h, ⟨(Eq.trans hb4 o159.symm), trivial⟩, ?_⟩
             refine sq_q rfl (fun W hT => r_sadd rfl rfl (by (have h9 := digs_len hx [] (basV 16 (uN (nmV (hdS args)).1)); simp only [List.length_nil] at h9; omega))) <| sq_q rfl (fun W hT => r_nilCheck rfl) <| sq_q rfl (fun W hT => r_fieldAddr T.fld48_2 rfl) <| sq_nil <| tr_br ?_ ?_
             ·refine sq_store1 rfl T.size9 (v := S _) rfl rfl rfl hb3 rfl (Nat.le_of_ble_eq_true rfl) (by simp [Value.oneCell', S]) rfl ?_
              intro w187 c188 hb189; simp only [setVs, setV] at hb189
              clear hb3
              replace HC := HC.trans c188 (by intro x hx; simp only [List.mem_singleton] at hx; subst hx; exact .inl (by simp))
              replace hb4 := hb4.tr1 c188 (Ne.symm ne_b_b3)
              replace ha2 := ha2.tr c188 (by intro k hk hD; rw [List.mem_singleton.1 hk] at hD; exact hDb hD)
              refine ⟨_, fun _ h => h, ⟨(Eq.trans hb4 o159.symm), trivial⟩, ?_⟩
              refine sq_nil ?_
              clear o159
              refine tr_stop <| block_n <| ret_none_n rfl ?_
              have ho9 : cnvO x (hdS args) = digsV x [] (basV 16 (uN (nmV (hdS args)).1)) := by unfold cnvO; rw [if_neg h0, if_neg h1, if_neg h2, if_neg hnd, if_neg h6, if_neg h7, if_pos h8]
              have he9 : cnvE x (hdS args) ee = ee := by unfold cnvE; rw [if_neg (by omega)]
              have hs9 : cnvS x (hdS args) st = stV (hdS args) st := by unfold cnvS; rw [if_neg (by omega)]
              rw [ho9, he9, hs9]
              exact ⟨rfl, _, _, hb189, ha2, hca2, HC⟩
             exact tr_nil
            exact tr_nil
           exact tr_nil
          exact tr_nil
         exact tr_nil
        ·try simp only [nm, ne_eq] at h8
         refine sr rfl <| Wp rfl <| st_eql rfl rfl <| aB rfl <| en <| x_cond rfl (fun h9 => ?_) (fun h9 => ?_)
         ·try simp only [nm, ne_eq] at h9
          refine x_open [0, 1, 2, 3, 5, 6, 10] (.br 4 [] (.br 7 [8] (.br 9 [] (.br 11 [12, 13, 14] (.br 15 [] (.stop) (.nil)) (.nil)) (.nil)) (.nil)) (.br 7 [8] (.br 4 [] (.br 9 [] (.br 11 [12, 13, 14] (.br 15 [] (.stop) (.nil)) (.nil)) (.nil)) (.br 9 [] (.br 4 [] (.br 11 [12, 13, 14] (.br 15 [] (.stop) (.nil)) (.nil)) (.br 11 [] (.br 4 [12, 13, 14] (.br 15 [] (.stop) (.nil)) (.nil)) (.nil))) (.nil))) (.nil))) T.mixed rfl rfl (fun W => W.heap[b3]? = w5.heap[b3]? ∧ True) ⟨rfl, trivial⟩ ?_
          have o192 := hb4
          have c191 := Chg.drew w5
          generalize World.drew w5 = w190 at c191 ⊢
          replace HC := HC.then c191
          replace hb4 := hb4.tr0 c191
          replace hb2 := hb2.tr0 c191
          replace ha2 := ha2.tr0 c191
          refine sq_q rfl (fun W hT => r_move (v := .pointer _) rfl) <| sq_q rfl (fun W hT => r_move (v := .pointer _) rfl) <| sq_q rfl (fun W hT => r_nilCheck rfl) <| sq_q rfl (fun W hT => r_fieldAddr T.fld48_2 rfl) <| sq_q rfl (fun W hT => r_move (v := .pointer _) rfl) <| sq_q rfl (fun W hT => r_move (v := S _) rfl) <| sq_q rfl (fun W hT => r_loadA (vs := [_, _, _, _, _, _]) T.agg68 rfl (Blk.cells (n := 6) (vs := [_, _, _, _, _, _]) (show Blk W b3 _ _ from hT.1.trans o192) rfl) rfl) <| sq_nil <| tr_br ?_ ?_
          ·refine sq_peek rfl (r_load1 (v := S _) T.one9 rfl (Blk.cell hb2 rfl)) <| ⟨_, fun _ h => h, ⟨(Eq.trans hb4 o192.symm), trivial⟩, ?_⟩
           refine sq_nil <| tr_br ?_ ?_
           ·refine sq_call1 rfl (r_call (ags := [_, _]) rfl rfl T.ent49 rfl) (rnumber_spec (hdS args) hb2 (by omega)) ?_
            rintro _ w193 ⟨rfl, hb3, c194⟩
            replace HC := HC.trans c194 (by intro x hx; simp only [List.mem_singleton] at hx; subst hx; exact .inl (by simp))
            replace hb4 := hb4.tr1 c194 (Ne.symm ne_b_b3)
            replace ha2 := ha2.tr c194 (by intro k hk hD; rw [List.mem_singleton.1 hk] at hD; exact hDb hD)
            refine ⟨_, fun _ h => h, ⟨(Eq.trans hb4 o192.symm), trivial⟩, ?_⟩
            refine sq_q rfl (fun W hT => r_convInt T.u2 T.u58 rfl) <| sq_nil <| tr_br ?_ ?_
            ·rw [hwu]
             refine sq_call1 rfl (r_call (ags := [_, _, _]) rfl rfl T.ent50 rfl) (rdigU _ hub _) ?_
             rintro _ w195 ⟨rfl, c196⟩
             replace HC := HC.then c196
             replace hb4 := hb4.tr0 c196
             replace ha2 := ha2.tr0 c196
             replace hb3 := hb3.tr0 c196
             refine ⟨_, fun _ h => h, ⟨(Eq.trans hb4 o192.symm), trivial⟩, ?_⟩
             refine sq_nil <| tr_br ?_ ?_
             ·refine sq_call1 rfl (r_call (ags := [_, _, _, _]) rfl rfl T.ent47 rfl) (rpadD_spec x hx [] _ _ (by simp) (by first | omega | (rw [upper_len]; omega))) ?_
              rintro _ w197 ⟨rfl, c198⟩
              replace HC := HC.then c198
              replace hb4 := hb4.tr0 c198
              replace ha2 := ha2.tr0 c198
              replace hb3 := hb3.tr0 c198
              refine ⟨_, fun _ h => h, ⟨(Eq.trans hb4 o192.symm), trivial⟩, ?_⟩
              refine sq_q rfl (fun W hT => r_sadd rfl rfl (by (have h9 := digs_len hx [] (Lib.toUpperA (basV 16 (uN (nmV (hdS args)).1))); rw [upper_len] at h9; simp only [List.length_nil] at h9; omega))) <| sq_q rfl (fun W hT => r_nilCheck rfl) <| sq_q rfl (fun W hT => r_fieldAddr T.fld48_2 rfl) <| sq_nil <| tr_br ?_ ?_
              ·refine sq_store1 rfl T.size9 (v := S _) rfl rfl rfl hb3 rfl (Nat.le_of_ble_eq_true rfl) (by simp [Value.oneCell', S]) rfl ?_
               intro w199 c200 hb201; simp only [setVs, setV] at hb201
               clear hb3
               replace HC := HC.trans c200 (by intro x hx; simp only [List.mem_singleton] at hx; subst hx; exact .inl (by simp))
               replace hb4 := hb4.tr1 c200 (Ne.symm ne_b_b3)
               replace ha2 := ha2.tr c200 (by intro k hk hD; rw [List.mem_singleton.1 hk] at hD; exact hDb hD)
               refine ⟨_, fun _ h => h, ⟨(Eq.trans hb4 o192.symm), trivial⟩, ?_⟩
               refine sq_nil ?_
               clear o192
               refine tr_stop <| block_n <| ret_none_n rfl ?_
               have ho9 : cnvO x (hdS args) = digsV x [] (Lib.toUpperA (basV 16 (uN (nmV (hdS args)).1))) := by unfold cnvO; rw [if_neg h0, if_neg h1, if_neg h2, if_neg hnd, if_neg h6, if_neg h7, if_neg h8]
               have he9 : cnvE x (hdS args) ee = ee := by unfold cnvE; rw [if_neg (by omega)]
               have hs9 : cnvS x (hdS args) st = stV (hdS args) st := by unfold cnvS; rw [if_neg (by omega)]
               rw [ho9, he9, hs9]
               exact ⟨rfl, _, _, hb201, ha2, hca2, HC⟩
              exact tr_nil
             exact tr_nil
            exact tr_nil
           exact tr_nil
          refine tr_br ?_ ?_
          ·refine sq_call1 rfl (r_call (ags := [_, _]) rfl rfl T.ent49 rfl) (rnumber_spec (hdS args) hb2 (by omega)) ?_
           rintro _ w202 ⟨rfl, hb3, c203⟩
           replace HC := HC.trans c203 (by intro x hx; simp only [List.mem_singleton] at hx; subst hx; exact .inl (by simp))
           replace hb4 := hb4.tr1 c203 (Ne.symm ne_b_b3)
           replace ha2 := ha2.tr c203 (by intro k hk hD; rw [List.mem_singleton.1 hk] at hD; exact hDb hD)
           refine ⟨_, fun _ h => h, ⟨(Eq.trans hb4 o192.symm), trivial⟩, ?_⟩
           refine sq_q rfl (fun W hT => r_convInt T.u2 T.u58 rfl) <| sq_nil <| tr_br ?_ ?_
           ·refine sq_peek rfl (r_load1 (v := S _) T.one9 rfl (Blk.cell hb3 rfl)) <| ⟨_, fun _ h => h, ⟨(Eq.trans hb4 o192.symm), trivial⟩, ?_⟩
            refine sq_nil <| tr_br ?_ ?_
            ·rw [hwu]
             refine sq_call1 rfl (r_call (ags := [_, _, _]) rfl rfl T.ent50 rfl) (rdigU _ hub _) ?_
             rintro _ w204 ⟨rfl, c205⟩
             replace HC := HC.then c205
             replace hb4 := hb4.tr0 c205
             replace ha2 := ha2.tr0 c205
             replace hb3 := hb3.tr0 c205
             refine ⟨_, fun _ h => h, ⟨(Eq.trans hb4 o192.symm), trivial⟩, ?_⟩
             refine sq_nil <| tr_br ?_ ?_
             ·refine sq_call1 rfl (r_call (ags := [_, _, _, _]) rfl rfl T.ent47 rfl) (rpadD_spec x hx [] _ _ (by simp) (by first | omega | (rw [upper_len]; omega))) ?_
              rintro _ w206 ⟨rfl, c207⟩
              replace HC := HC.then c207
              replace hb4 := hb4.tr0 c207
              replace ha2 := ha2.tr0 c207
              replace hb3 := hb3.tr0 c207
              refine ⟨_, fun _ h => h, ⟨(Eq.trans hb4 o192.symm), trivial⟩, ?_⟩
              refine sq_q rfl (fun W hT => r_sadd rfl rfl (by (have h9 := digs_len hx [] (Lib.toUpperA (basV 16 (uN (nmV (hdS args)).1))); rw [upper_len] at h9; simp only [List.length_nil] at h9; omega))) <| sq_q rfl (fun W hT => r_nilCheck rfl) <| sq_q rfl (fun W hT => r_fieldAddr T.fld48_2 rfl) <| sq_nil <| tr_br ?_ ?_
              ·refine sq_store1 rfl T.size9 (v := S _) rfl rfl rfl hb3 rfl (Nat.le_of_ble_eq_true rfl) (by simp [Value.oneCell', S]) rfl ?_
               intro w208 c209 hb210; simp only [setVs, setV] at hb210
               clear hb3
               replace HC := HC.trans c209 (by intro x hx; simp only [List.mem_singleton] at hx; subst hx; exact .inl (by simp))
               replace hb4 := hb4.tr1 c209 (Ne.symm ne_b_b3)
               replace ha2 := ha2.tr c209 (by intro k hk hD; rw [List.mem_singleton.1 hk] at hD; exact hDb hD)
               refine ⟨_, fun _ h => h, ⟨(Eq.trans hb4 o192.symm), trivial⟩, ?_⟩
               refine sq_nil ?_
               clear o192
               refine tr_stop <| block_n <| ret_none_n rfl ?_
               have ho9 : cnvO x (hdS args) = digsV x [] (Lib.toUpperA (basV 16 (uN (nmV (hdS args)).1))) := by unfold cnvO; rw [if_neg h0, if_neg h1, if_neg h2, if_neg hnd, if_neg h6, if_neg h7, if_neg h8]
               have he9 : cnvE x (hdS args) ee = ee := by unfold cnvE; rw [if_neg (by omega)]
               have hs9 : cnvS x (hdS args) st = stV (hdS args) st := by unfold cnvS; rw [if_neg (by omega)]
               rw [ho9, he9, hs9]
               exact ⟨rfl, _, _, hb210, ha2, hca2, HC⟩
              exact tr_nil
             exact tr_nil
            exact tr_nil
           refine tr_br ?_ ?_
           ·rw [hwu]
            refine sq_call1 rfl (r_call (ags := [_, _, _]) rfl rfl T.ent50 rfl) (rdigU _ hub _) ?_
            rintro _ w211 ⟨rfl, c212⟩
            replace HC := HC.then c212
            replace hb4 := hb4.tr0 c212
            replace ha2 := ha2.tr0 c212
            replace hb3 := hb3.tr0 c212
            refine ⟨_, fun _ h => h, ⟨(Eq.trans hb4 o192.symm), trivial⟩, ?_⟩
            refine sq_nil <| tr_br ?_ ?_
            ·refine sq_peek rfl (r_load1 (v := S _) T.one9 rfl (Blk.cell hb3 rfl)) <| ⟨_, fun _ h => h, ⟨(Eq.trans hb4 o192.symm), trivial⟩, ?_⟩
             refine sq_nil <| tr_br ?_ ?_
             ·refine sq_call1 rfl (r_call (ags := [_, _, _, _]) rfl rfl T.ent47 rfl) (rpadD_spec x hx [] _ _ (by simp) (by first | omega | (rw [upper_len]; omega))) ?_
              rintro _ w213 ⟨rfl, c214⟩
              replace HC := HC.then c214
              replace hb4 := hb4.tr0 c214
              replace ha2 := ha2.tr0 c214
              replace hb3 := hb3.tr0 c214
              refine ⟨_, fun _ h => h, ⟨(Eq.trans hb4 o192.symm), trivial⟩, ?_⟩
              refine sq_q rfl (fun W hT => r_sadd rfl rfl (by (have h9 := digs_len hx [] (Lib.toUpperA (basV 16 (uN (nmV (hdS args)).1))); rw [upper_len] at h9; simp only [List.length_nil] at h9; omega))) <| sq_q rfl (fun W hT => r_nilCheck rfl) <| sq_q rfl (fun W hT => r_fieldAddr T.fld48_2 rfl) <| sq_nil <| tr_br ?_ ?_
              ·refine sq_store1 rfl T.size9 (v := S _) rfl rfl rfl hb3 rfl (Nat.le_of_ble_eq_true rfl) (by simp [Value.oneCell', S]) rfl ?_
               intro w215 c216 hb217; simp only [setVs, setV] at hb217
               clear hb3
               replace HC := HC.trans c216 (by intro x hx; simp only [List.mem_singleton] at hx; subst hx; exact .inl (by simp))
               replace hb4 := hb4.tr1 c216 (Ne.symm ne_b_b3)
               replace ha2 := ha2.tr c216 (by intro k hk hD; rw [List.mem_singleton.1 hk] at hD; exact hDb hD)
               refine ⟨_, fun _ h => h, ⟨(Eq.trans hb4 o192.symm), trivial⟩, ?_⟩
               refine sq_nil ?_
               clear o192
               refine tr_stop <| block_n <| ret_none_n rfl ?_
               have ho9 : cnvO x (hdS args) = digsV x [] (Lib.toUpperA (basV 16 (uN (nmV (hdS args)).1))) := by unfold cnvO; rw [if_neg h0, if_neg h1, if_neg h2, if_neg hnd, if_neg h6, if_neg h7, if_neg h8]
               have he9 : cnvE x (hdS args) ee = ee := by unfold cnvE; rw [if_neg (by omega)]
               have hs9 : cnvS x (hdS args) st = stV (hdS args) st := by unfold cnvS; rw [if_neg (by omega)]
               rw [ho9, he9, hs9]
               exact ⟨rfl, _, _, hb217, ha2, hca2, HC⟩
              exact tr_nil
             exact tr_nil
            refine tr_br ?_ ?_
            ·refine sq_call1 rfl (r_call (ags := [_, _, _, _]) rfl rfl T.ent47 rfl) (rpadD_spec x hx [] _ _ (by simp) (by first | omega | (rw [upper_len]; omega))) ?_
             rintro _ w218 ⟨rfl, c219⟩
             replace HC := HC.then c219
             replace hb4 := hb4.tr0 c219
             replace ha2 := ha2.tr0 c219
             replace hb3 := hb3.tr0 c219
             refine ⟨_, fun _ h => h, ⟨(Eq.trans hb4 o192.symm), trivial⟩, ?_⟩
             refine sq_nil <| tr_br ?_ ?_
             ·refine sq_peek rfl (r_load1 (v := S _) T.one9 rfl (Blk.cell hb3 rfl)) <| ⟨_, fun _ h => h, ⟨(Eq.trans hb4 o192.symm), trivial⟩, ?_⟩
              refine sq_q rfl (fun W hT => r_sadd rfl rfl (by (have h9 := digs_len hx [] (Lib.toUpperA (basV 16 (uN (nmV (hdS args)).1))); rw [upper_len] at h9; simp only [List.length_nil] at h9; omega))) <| sq_q rfl (fun W hT => r_nilCheck rfl) <| sq_q rfl (fun W hT => r_fieldAddr T.fld48_2 rfl) <| sq_nil <| tr_br ?_ ?_
              ·refine sq_store1 rfl T.size9 (v := S _) rfl rfl rfl hb3 rfl (Nat.le_of_ble_eq_true rfl) (by simp [Value.oneCell', S]) rfl ?_
               intro w220 c221 hb222; simp only [setVs, setV] at hb222
               clear hb3
               replace HC := HC.trans c221 (by intro x hx; simp only [List.mem_singleton] at hx; subst hx; exact .inl (by simp))
               replace hb4 := hb4.tr1 c221 (Ne.symm ne_b_b3)
               replace ha2 := ha2.tr c221 (by intro k hk hD; rw [List.mem_singleton.1 hk] at hD; exact hDb hD)
               refine ⟨_, fun _ h => h, ⟨(Eq.trans hb4 o192.symm), trivial⟩, ?_⟩
               refine sq_nil ?_
               clear o192
               refine tr_stop <| block_n <| ret_none_n rfl ?_
               have ho9 : cnvO x (hdS args) = digsV x [] (Lib.toUpperA (basV 16 (uN (nmV (hdS args)).1))) := by unfold cnvO; rw [if_neg h0, if_neg h1, if_neg h2, if_neg hnd, if_neg h6, if_neg h7, if_neg h8]
               have he9 : cnvE x (hdS args) ee = ee := by unfold cnvE; rw [if_neg (by omega)]
               have hs9 : cnvS x (hdS args) st = stV (hdS args) st := by unfold cnvS; rw [if_neg (by omega)]
               rw [ho9, he9, hs9]
               exact ⟨rfl, _, _, hb222, ha2, hca2, HC⟩
              exact tr_nil
             exact tr_nil
            exact tr_nil
           exact tr_nil
          exact tr_nil
         ·try simp only [nm, ne_eq] at h9
          exact absurd hcx (by omega)

end Go.Proofs.YtlpndcpbnbeohaaDoor.K
