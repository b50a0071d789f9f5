import Derived.Test.YtlpndcpbnbeohaaDoorEe
set_option linter.unusedVariables false
set_option linter.unusedSimpArgs false
set_option autoImplicit false
set_option maxRecDepth 20000
namespace Go.Proofs.YtlpndcpbnbeohaaDoor.K
open Go Go.Proofs Go.RowKit

def uN (n : Int) : Nat := if n < 0 then (n + 18446744073709551616).toNat else n.toNat
theorem wrap_u {n : Int} (h0 : -9223372036854775808 ≤ n) (h1 : n ≤ 9223372036854775807) : IntKind.u64.wrap n = ((uN n : Nat) : Int) := by
  have e : IntKind.u64.wrap n = n % 18446744073709551616 := by simp [IntKind.wrap, IntKind.signed, IntKind.bits]
  rw [e]; unfold uN; split <;> omega
theorem uN_bd {n : Int} (h0 : -9223372036854775808 ≤ n) (h1 : n ≤ 9223372036854775807) : uN n ≤ 18446744073709551615 := by unfold uN; split <;> omega
theorem wrap_neg {n : Int} (h0 : -9223372036854775808 ≤ n) (h1 : n < 0) : IntKind.u64.wrap (0 - IntKind.u64.wrap n) = (((-n).toNat : Nat) : Int) := by
  have e : ∀ x : Int, IntKind.u64.wrap x = x % 18446744073709551616 := fun x => by simp [IntKind.wrap, IntKind.signed, IntKind.bits]
  rw [e, e]; omega
theorem wrap_in (x : Int) : -9223372036854775808 ≤ IntKind.i64.wrap x ∧ IntKind.i64.wrap x ≤ 9223372036854775807 := by
  have e : IntKind.i64.wrap x = if x % 18446744073709551616 ≥ 9223372036854775808 then x % 18446744073709551616 - 18446744073709551616 else x % 18446744073709551616 := by
    simp [IntKind.wrap, IntKind.signed, IntKind.bits]
  rw [e]; split <;> omega
theorem val_in (s : Bytes) : -9223372036854775808 ≤ (valV s).1 ∧ (valV s).1 ≤ 9223372036854775807 := by
  unfold valV
  (repeat' split) <;> first | exact wrap_in _ | (constructor <;> decide)
theorem nm_in (s : Bytes) : -9223372036854775808 ≤ (nmV s).1 ∧ (nmV s).1 ≤ 9223372036854775807 := by
  unfold nmV
  split
  · have := (byte s 1).toNat_lt
    simp only; split <;> omega
  · exact val_in s
theorem bas_len (b : Nat) (hb : 2 ≤ b) : ∀ (k n : Nat), n < b ^ (k + 1) → (basV b n).length ≤ k + 1
  | 0, n, h => by rw [basV, dif_pos (.inl (by simpa using h))]; simp
  | k + 1, n, h => by
    rw [basV]; split
    · simp
    · have h2 : n / b < b ^ (k + 1) := Nat.div_lt_of_lt_mul (by rw [Nat.mul_comm]; simpa [Nat.pow_succ] using h)
      have := bas_len b hb k (n / b) h2
      rw [List.length_append, List.length_cons, List.length_nil]; omega
theorem bas_64 {b n : Nat} (hb : b = 8 ∨ b = 10 ∨ b = 16) (hn : n ≤ 18446744073709551615) : (basV b n).length ≤ 22 := by
  refine bas_len b (by omega) 21 n <| Nat.lt_of_le_of_lt hn ?_
  show 18446744073709551615 < b ^ 22
  have h1 : (8 : Nat) ^ 22 ≤ b ^ 22 := Nat.pow_le_pow_left (by omega) _
  have h2 : (8 : Nat) ^ 22 = 73786976294838206464 := rfl
  omega
theorem dig_128 (d : Nat) : (digH d).toNat < 128 := by
  rcases Nat.lt_or_ge d 16 with h | h
  · have : ((List.range 16).all fun d => decide ((digH d).toNat < 128)) = true := by kernel_rfl
    exact of_decide_eq_true (List.all_eq_true.1 this d (List.mem_range.2 h))
  · have e : digH d = 0 := by unfold digH byte; rw [List.getD_eq_getElem?_getD, List.getElem?_eq_none (by simpa using h)]; rfl
    rw [e]; decide
theorem bas_128 (b : Nat) : ∀ (k n : Nat), n ≤ k → ∀ x, x ∈ basV b n → x.toNat < 128
  | k, n, h, x, hx => by
    rw [basV] at hx
    split at hx
    · rw [List.mem_singleton.1 hx]; exact dig_128 _
    · rename_i hc
      rcases List.mem_append.1 hx with hx | hx
      · have hlt : n / b < n := Nat.div_lt_self (by omega) (by omega)
        cases k with
        | zero => omega
        | succ k => exact bas_128 b k (n / b) (by omega) x hx
      · rw [List.mem_singleton.1 hx]; exact dig_128 _
theorem upper_len (s : Bytes) : (Lib.toUpperA s).length = s.length := by simp [Lib.toUpperA]
theorem ToUpper_spec (s : Bytes) (w : World) (hs : s.length ≤ 140737488355328) (h : ∀ x, x ∈ s → x.toNat < 128) : CallR Tryd.prog 44 #[S s] w fun v w' => v = S (Lib.toUpperA s) ∧ Chg [] w w' :=
  CallR.of (Tryd.strings_ToUpper_ascii ⟨⟨s⟩⟩ w hs (fun j b hb => h b (List.mem_of_getElem? hb))) fun e w' ⟨h1, h2⟩ => ⟨_, h1, rfl, .of_below h2⟩
/-- What a conversion puts out; whether it ends all; the status behind it. -/
def cnvO (x : Spc) (s : Bytes) : Bytes :=
  if ((x.conv.toNat : Nat) : Int) = 115 then ptxV x s
  else if ((x.conv.toNat : Nat) : Int) = 98 then ptxV x (escsV s).1
  else if ((x.conv.toNat : Nat) : Int) = 99 then padV x (s.take (min 1 s.length))
  else if ((x.conv.toNat : Nat) : Int) = 100 ∨ ((x.conv.toNat : Nat) : Int) = 105 then (if (nmV s).1 < 0 then digsV x [45] (basV 10 (-(nmV s).1).toNat) else digsV x [] (basV 10 (uN (nmV s).1)))
  else if ((x.conv.toNat : Nat) : Int) = 117 then digsV x [] (basV 10 (uN (nmV s).1))
  else if ((x.conv.toNat : Nat) : Int) = 111 then digsV x [] (basV 8 (uN (nmV s).1))
  else if ((x.conv.toNat : Nat) : Int) = 120 then digsV x [] (basV 16 (uN (nmV s).1))
  else digsV x [] (Lib.toUpperA (basV 16 (uN (nmV s).1)))
def cnvE (x : Spc) (s : Bytes) (ee : Bool) : Bool := if ((x.conv.toNat : Nat) : Int) = 98 then (escsV s).2 else ee
def cnvS (x : Spc) (s : Bytes) (st : Int) : Int := if ((x.conv.toNat : Nat) : Int) = 115 ∨ ((x.conv.toNat : Nat) : Int) = 98 ∨ ((x.conv.toNat : Nat) : Int) = 99 then st else stV s st

set_option maxHeartbeats 1000000 in
theorem convert_spec {b : Nat} {pv sv : Value} {Aa : Option Addr} {ca : Nat} {args : List Bytes} {tk ee : Bool} {st : Int} {D : Nat → Prop} {w : World} (hb : Blk w b [pv, sv, .slice Aa args.length ca, .bool tk, .bool ee, .int .i64 st] 42) (ha : Sl sE w D Aa args) (hca : args.length ≤ ca) (hDb : ¬ D b) (x : Spc) (hx : x.Ok) (hsl : (hdS args).length ≤ 90000000000000) : CallR Tryd.prog 28 #[.pointer (some ⟨b, 0, none⟩), .agg ⟨[.bool x.left, .bool x.zero, .int .i64 x.width, .int .i64 x.prec, .int .u8 (x.conv.toNat : Int)]⟩] w fun v w' => v = S (cnvO x (hdS args)) ∧ ∃ Aa' ca', Blk w' b [pv, sv, .slice Aa' args.tail.length ca', .bool true, .bool (cnvE x (hdS args) ee), .int .i64 (cnvS x (hdS args) st)] 42 ∧ Sl sE w' D Aa' args.tail ∧ args.tail.length ≤ ca' ∧ Chg [b] w w' := by
 have hbl9 := hb.lt
 have hni := nm_in (hdS args)
 have hub := uN_bd hni.1 hni.2
 have hwu := wrap_u hni.1 hni.2
 have hb10 := bas_64 (b := 10) (by omega) hub
 have hb8 := bas_64 (b := 8) (by omega) hub
 have hb16 := bas_64 (b := 16) (by omega) hub
 have hel := escs_len ((hdS args).length + 1) (hdS args)
 replace hsl : (hdS args).length ≤ 100000000000000 := by omega
 refine callR_of_wp (args := [_, _]) Tryd.func28 rfl (Nat.le_of_ble_eq_true rfl) ?_
 have HC : Chg [b] w w := .refl _
 refine sr rfl <| Wp rfl <| st_box (v := .agg ⟨[.bool _, .bool _, .int _ _, .int _ _, .int _ _]⟩) (vs := [_, _, _, _, _]) rfl rfl ?_
 intro b3 w1 e2 c3 hb4
 have ge_b3 : w.heap.size ≤ b3 := by rw [e2]; exact HC.size
 have ne_b_b3 : b ≠ b3 := by rw [e2]; exact hb.ne_size
 replace HC := HC.then c3
 replace hb := hb.tr0 c3
 replace ha := ha.tr0 c3
 clear e2
 refine aS rfl <| en <| x_seq <| sr rfl <| fa T.fld60_4 rfl <| lI T.one5 rfl (hb4.cell rfl) <| en <| x_block <| sr rfl <| Wp rfl <| st_eql rfl rfl <| aB rfl <| en <| x_cond rfl (fun h0 => ?_) (fun h0 => ?_)
 ·try simp only [nm, ne_eq] at h0
  refine x_seq <| x_draw [(0, 0), (1, 0), (2, 1), (3, 1), (4, 0)] T.mixed rfl rfl rfl (fun W => W.heap[b3]? = w1.heap[b3]? ∧ True) ⟨rfl, trivial⟩ ?_
  have o7 := hb4
  have c6 := Chg.drew w1
  generalize World.drew w1 = w5 at c6 ⊢
  replace HC := HC.then c6
  replace hb := hb.tr0 c6
  replace ha := ha.tr0 c6
  replace hb4 := hb4.tr0 c6
  refine sq_q rfl (fun W hT => r_loadA (vs := [_, _, _, _, _]) T.agg60 rfl (Blk.cells (n := 5) (vs := [_, _, _, _, _]) (show Blk W b3 _ _ from hT.1.trans o7) rfl) rfl) <| sq_q rfl (fun W hT => r_move (v := .pointer _) rfl) <| sq_call1 rfl (r_call (ags := [_]) rfl rfl T.ent39 rfl) (arg_spec hb ha hca hDb) ?_
  rintro _ w8 ⟨rfl, Aa2, ca2, hb2, ha2, hca2, c9⟩
  replace HC := HC.trans c9 (by intro x hx; simp only [List.mem_singleton] at hx; subst hx; exact .inl (by simp))
  replace hb4 := hb4.tr1 c9 (Ne.symm ne_b_b3)
  refine ⟨_, fun _ h => h, ⟨(Eq.trans hb4 o7.symm), trivial⟩, ?_⟩
  refine sq_call1 rfl (r_call (ags := [_, _]) rfl rfl T.ent38 rfl) (ptx_spec x hx (hdS args) _ hsl) ?_
  rintro _ w10 ⟨rfl, c11⟩
  replace HC := HC.then c11
  replace hb4 := hb4.tr0 c11
  replace hb2 := hb2.tr0 c11
  replace ha2 := ha2.tr0 c11
  refine ⟨_, fun _ h => h, ⟨(Eq.trans hb4 o7.symm), trivial⟩, ?_⟩
  refine sq_q rfl (fun W hT => r_assign (v := S _) rfl) ?_
  clear o7
  refine sq_nil <| then_n <| x_ret <| block_r <| then_r <| ret_tmp (v := S _) rfl rfl <| ⟨congrArg S ?_, _, _, ?_, ha2, hca2, HC⟩
  · unfold cnvO; rw [if_pos h0]
  · unfold cnvE cnvS; rw [if_neg (by omega), if_pos (.inl h0)]; exact hb2
 ·try simp only [nm, ne_eq] at h0
  refine sr rfl <| Wp rfl <| st_eql rfl rfl <| aB rfl <| en <| x_cond rfl (fun h1 => ?_) (fun h1 => ?_)
  ·try simp only [nm, ne_eq] at h1
   refine sr rfl <| mP rfl <| Wp rfl <| st_call (ags := [_]) rfl rfl T.ent39 rfl (arg_spec hb ha hca hDb) ?_
   rintro _ w12 ⟨rfl, Aa2, ca2, hb2, ha2, hca2, c13⟩
   replace HC := HC.trans c13 (by intro x hx; simp only [List.mem_singleton] at hx; subst hx; exact .inl (by simp))
   replace hb4 := hb4.tr1 c13 (Ne.symm ne_b_b3)
   refine Wp rfl <| st_call (ags := [_]) rfl rfl T.ent11 rfl (Escapes_spec (hdS args) _ (by omega)) ?_
   rintro _ w14 ⟨rfl, c15⟩
   replace HC := HC.then c15
   replace hb4 := hb4.tr0 c15
   replace hb2 := hb2.tr0 c15
   replace ha2 := ha2.tr0 c15
   refine mv (v := .tuple ⟨[_, _]⟩) rfl <| Wp rfl <| st_extract (vs := [_, _]) (v := S _) rfl rfl <| Wp rfl <| st_extract (vs := [_, _]) (v := .bool _) rfl rfl <| aS rfl <| aB rfl <| en <| sr rfl <| mP rfl <| mB rfl <| nc rfl <| fa T.fld42_3 rfl <| Wp rfl <| st_store (v := .bool _) T.size4 rfl rfl rfl hb2 rfl (Nat.le_of_ble_eq_true rfl) (by simp [Value.oneCell', S]) rfl ?_
   intro w16 c17 hb18; simp only [setVs, setV] at hb18
   clear hb2
   replace HC := HC.trans c17 (by intro x hx; simp only [List.mem_singleton] at hx; subst hx; exact .inl (by simp))
   replace hb4 := hb4.tr1 c17 (Ne.symm ne_b_b3)
   replace ha2 := ha2.tr c17 (by intro k hk hD; rw [List.mem_singleton.1 hk] at hD; exact hDb hD)
   refine en <| sr rfl <| Wp rfl <| st_loadA (vs := [_, _, _, _, _]) T.agg60 rfl (hb4.cells (n := 5) (vs := [_, _, _, _, _]) rfl) rfl <| mS rfl <| Wp rfl <| st_call (ags := [_, _]) rfl rfl T.ent38 rfl (ptx_spec x hx _ _ (by show (escsF _ _).1.length ≤ _; omega)) ?_
   rintro _ w19 ⟨rfl, c20⟩
   replace HC := HC.then c20
   replace hb4 := hb4.tr0 c20
   replace ha2 := ha2.tr0 c20
   replace hb18 := hb18.tr0 c20
   refine aS rfl <| en <| x_ret <| block_r <| then_r <| ret_tmp (v := S _) rfl rfl <| ⟨congrArg S ?_, _, _, ?_, ha2, hca2, HC⟩
   · unfold cnvO; rw [if_neg h0, if_pos h1]
   · unfold cnvE cnvS; rw [if_pos h1, if_pos (.inr (.inl h1))]; exact hb18
  ·try simp only [nm, ne_eq] at h1
   refine sr rfl <| Wp rfl <| st_eql rfl rfl <| aB rfl <| en <| x_cond rfl (fun h2 => ?_) (fun h2 => ?_)
   ·try simp only [nm, ne_eq] at h2
    refine sr rfl <| mP rfl <| Wp rfl <| st_call (ags := [_]) rfl rfl T.ent39 rfl (arg_spec hb ha hca hDb) ?_
    rintro _ w21 ⟨rfl, Aa2, ca2, hb2, ha2, hca2, c22⟩
    replace HC := HC.trans c22 (by intro x hx; simp only [List.mem_singleton] at hx; subst hx; exact .inl (by simp))
    replace hb4 := hb4.tr1 c22 (Ne.symm ne_b_b3)
    refine aS rfl <| en <| x_seq <| x_draw [(0, 0), (1, 0), (2, 0), (3, 0), (4, 0), (5, 0), (6, 1), (7, 0)] T.mixed rfl rfl rfl (fun W => W.heap[b3]? = w21.heap[b3]? ∧ True) ⟨rfl, trivial⟩ ?_
    have o25 := hb4
    have c24 := Chg.drew w21
    generalize World.drew w21 = w23 at c24 ⊢
    replace HC := HC.then c24
    replace hb4 := hb4.tr0 c24
    replace hb2 := hb2.tr0 c24
    replace ha2 := ha2.tr0 c24
    refine sq_q rfl (fun W hT => r_loadA (vs := [_, _, _, _, _]) T.agg60 rfl (Blk.cells (n := 5) (vs := [_, _, _, _, _]) (show Blk W b3 _ _ from hT.1.trans o25) rfl) rfl) <| sq_q rfl (fun W hT => r_move (v := S _) rfl) <| sq_q rfl (fun W hT => r_move (v := S _) rfl) <| sq_q rfl (fun W hT => r_slen (ct := #[9]) T.u9 rfl) <| sq_q rfl (fun W hT => r_min rfl rfl) ?_
    rw [show min 1 ((hdS args).length : Int) = ((min 1 (hdS args).length : Nat) : Int) by omega]
    refine sq_q rfl (fun W hT => r_sshi (j := (min 1 (hdS args).length)) T.u9 rfl ⟨_, rfl⟩ (by omega)) <| sq_call1 rfl (r_call (ags := [_, _]) rfl rfl T.ent40 rfl) (pad_spec x hx _ _ (by rw [List.length_take]; omega)) ?_
    rintro _ w26 ⟨rfl, c27⟩
    replace HC := HC.then c27
    replace hb4 := hb4.tr0 c27
    replace hb2 := hb2.tr0 c27
    replace ha2 := ha2.tr0 c27
    refine ⟨_, fun _ h => h, ⟨(Eq.trans hb4 o25.symm), trivial⟩, ?_⟩
    refine sq_q rfl (fun W hT => r_assign (v := S _) rfl) ?_
    clear o25
    refine sq_nil <| then_n <| x_ret <| block_r <| then_r <| ret_tmp (v := S _) rfl rfl <| ⟨congrArg S ?_, _, _, ?_, ha2, hca2, HC⟩
    · unfold cnvO; rw [if_neg h0, if_neg h1, if_pos h2]
    · unfold cnvE cnvS; rw [if_neg (by omega), if_pos (.inr (.inr h2))]; exact hb2
   ·try simp only [nm, ne_eq] at h2
    refine x_seq <| sr rfl <| Wp rfl <| st_eql rfl rfl <| aB rfl <| en <| x_cond rfl (fun h3 => ?_) (fun h3 => ?_)
    ·try simp only [nm, ne_eq] at h3
     have hdi : ((x.conv.toNat : Nat) : Int) = 100 ∨ ((x.conv.toNat : Nat) : Int) = 105 := .inl h3
     refine x_skip <| then_n <| x_cond rfl (fun h4 => ?_) (fun h4 => ?_)
     rotate_left
     · exfalso; simp_all
     refine sr rfl <| mP rfl <| Wp rfl <| st_call (ags := [_]) rfl rfl T.ent41 rfl (number_spec hb ha hca hDb hsl) ?_
     rintro _ w28 ⟨rfl, Aa2, ca2, hb2, ha2, hca2, c29⟩
     replace HC := HC.trans c29 (by intro x hx; simp only [List.mem_singleton] at hx; subst hx; exact .inl (by simp))
     replace hb4 := hb4.tr1 c29 (Ne.symm ne_b_b3)
     refine aI rfl <| en <| x_seq <| sr rfl <| mI rfl <| Wp rfl <| st_lss rfl rfl <| en <| x_cond rfl (fun h5 => ?_) (fun h5 => ?_)
     ·try simp only [nm, ne_eq] at h5
      have hwn := wrap_neg hni.1 h5
      have hbn := bas_64 (b := 10) (n := (-(nmV (hdS args)).1).toNat) (by omega) (by omega)
      refine x_seq <| x_draw [(0, 0), (1, 0), (2, 0), (3, 0), (4, 1), (5, 1), (6, 0)] T.mixed rfl rfl rfl (fun W => W.heap[b3]? = w28.heap[b3]? ∧ True) ⟨rfl, trivial⟩ ?_
      have o32 := hb4
      have c31 := Chg.drew w28
      generalize World.drew w28 = w30 at c31 ⊢
      replace HC := HC.then c31
      replace hb4 := hb4.tr0 c31
      replace hb2 := hb2.tr0 c31
      replace ha2 := ha2.tr0 c31
      refine sq_q rfl (fun W hT => r_loadA (vs := [_, _, _, _, _]) T.agg60 rfl (Blk.cells (n := 5) (vs := [_, _, _, _, _]) (show Blk W b3 _ _ from hT.1.trans o32) rfl) rfl) <| sq_q rfl (fun W hT => r_move (v := .int _ _) rfl) <| sq_q rfl (fun W hT => r_convInt T.u2 T.u58 rfl) <| sq_q rfl (fun W hT => r_neg rfl) ?_
      rw [hwn]
      refine sq_call1 rfl (r_call (ags := [_, _]) rfl rfl T.ent43 rfl) (based_spec _ 10 (by omega) (by omega) _) ?_
      rintro _ w33 ⟨rfl, c34⟩
      replace HC := HC.then c34
      replace hb4 := hb4.tr0 c34
      replace hb2 := hb2.tr0 c34
      replace ha2 := ha2.tr0 c34
      refine ⟨_, fun _ h => h, ⟨(Eq.trans hb4 o32.symm), trivial⟩, ?_⟩
      refine sq_call1 rfl (r_call (ags := [_, _, _]) rfl rfl T.ent42 rfl) (digs_spec x hx [45] _ _ (by simp) (by omega)) ?_
      rintro _ w35 ⟨rfl, c36⟩
      replace HC := HC.then c36
      replace hb4 := hb4.tr0 c36
      replace hb2 := hb2.tr0 c36
      replace ha2 := ha2.tr0 c36
      refine ⟨_, fun _ h => h, ⟨(Eq.trans hb4 o32.symm), trivial⟩, ?_⟩
      refine sq_q rfl (fun W hT => r_assign (v := S _) rfl) ?_
      clear o32
      refine sq_nil <| then_n <| x_ret <| then_r <| block_r <| then_r <| ret_tmp (v := S _) rfl rfl <| ⟨congrArg S ?_, _, _, ?_, ha2, hca2, HC⟩
      · unfold cnvO; rw [if_neg h0, if_neg h1, if_neg h2, if_pos hdi, if_pos h5]
      · unfold cnvE cnvS; rw [if_neg (by omega), if_neg (by omega)]; exact hb2
     ·try simp only [nm, ne_eq] at h5
      refine x_skip <| then_n <| x_seq <| x_draw [(0, 0), (1, 0), (2, 0), (3, 1), (4, 1), (5, 0)] T.mixed rfl rfl rfl (fun W => W.heap[b3]? = w28.heap[b3]? ∧ True) ⟨rfl, trivial⟩ ?_
      have o39 := hb4
      have c38 := Chg.drew w28
      generalize World.drew w28 = w37 at c38 ⊢
      replace HC := HC.then c38
      replace hb4 := hb4.tr0 c38
      replace hb2 := hb2.tr0 c38
      replace ha2 := ha2.tr0 c38
      refine sq_q rfl (fun W hT => r_loadA (vs := [_, _, _, _, _]) T.agg60 rfl (Blk.cells (n := 5) (vs := [_, _, _, _, _]) (show Blk W b3 _ _ from hT.1.trans o39) rfl) rfl) <| sq_q rfl (fun W hT => r_move (v := .int _ _) rfl) <| sq_q rfl (fun W hT => r_convInt T.u2 T.u58 rfl) ?_
      rw [hwu]
      refine sq_call1 rfl (r_call (ags := [_, _]) rfl rfl T.ent43 rfl) (based_spec _ 10 hub (by omega) _) ?_
      rintro _ w40 ⟨rfl, c41⟩
      replace HC := HC.then c41
      replace hb4 := hb4.tr0 c41
      replace hb2 := hb2.tr0 c41
      replace ha2 := ha2.tr0 c41
      refine ⟨_, fun _ h => h, ⟨(Eq.trans hb4 o39.symm), trivial⟩, ?_⟩
      refine sq_call1 rfl (r_call (ags := [_, _, _]) rfl rfl T.ent42 rfl) (digs_spec x hx [] _ _ (by simp) (by omega)) ?_
      rintro _ w42 ⟨rfl, c43⟩
      replace HC := HC.then c43
      replace hb4 := hb4.tr0 c43
      replace hb2 := hb2.tr0 c43
      replace ha2 := ha2.tr0 c43
      refine ⟨_, fun _ h => h, ⟨(Eq.trans hb4 o39.symm), trivial⟩, ?_⟩
      refine sq_q rfl (fun W hT => r_assign (v := S _) rfl) ?_
      clear o39
      refine sq_nil <| then_n <| x_ret <| block_r <| then_r <| ret_tmp (v := S _) rfl rfl <| ⟨congrArg S ?_, _, _, ?_, ha2, hca2, HC⟩
      · unfold cnvO; rw [if_neg h0, if_neg h1, if_neg h2, if_pos hdi, if_neg h5]
      · unfold cnvE cnvS; rw [if_neg (by omega), if_neg (by omega)]; exact hb2
    ·try simp only [nm, ne_eq] at h3
     refine x_region rfl <| Wp rfl <| st_eql rfl rfl <| aB rfl <| en <| x_cond rfl (fun h4 => ?_) (fun h4 => ?_)
     ·try simp only [nm, ne_eq] at h4
      have hdi : ((x.conv.toNat : Nat) : Int) = 100 ∨ ((x.conv.toNat : Nat) : Int) = 105 := .inr h4
      refine sr rfl <| mP rfl <| Wp rfl <| st_call (ags := [_]) rfl rfl T.ent41 rfl (number_spec hb ha hca hDb hsl) ?_
      rintro _ w44 ⟨rfl, Aa2, ca2, hb2, ha2, hca2, c45⟩
      replace HC := HC.trans c45 (by intro x hx; simp only [List.mem_singleton] at hx; subst hx; exact .inl (by simp))
      replace hb4 := hb4.tr1 c45 (Ne.symm ne_b_b3)
      refine aI rfl <| en <| x_seq <| sr rfl <| mI rfl <| Wp rfl <| st_lss rfl rfl <| en <| x_cond rfl (fun h5 => ?_) (fun h5 => ?_)
      ·try simp only [nm, ne_eq] at h5
       have hwn := wrap_neg hni.1 h5
       have hbn := bas_64 (b := 10) (n := (-(nmV (hdS args)).1).toNat) (by omega) (by omega)
       refine x_seq <| x_draw [(0, 0), (1, 0), (2, 0), (3, 0), (4, 1), (5, 1), (6, 0)] T.mixed rfl rfl rfl (fun W => W.heap[b3]? = w44.heap[b3]? ∧ True) ⟨rfl, trivial⟩ ?_
       have o48 := hb4
       have c47 := Chg.drew w44
       generalize World.drew w44 = w46 at c47 ⊢
       replace HC := HC.then c47
       replace hb4 := hb4.tr0 c47
       replace hb2 := hb2.tr0 c47
       replace ha2 := ha2.tr0 c47
       refine sq_q rfl (fun W hT => r_loadA (vs := [_, _, _, _, _]) T.agg60 rfl (Blk.cells (n := 5) (vs := [_, _, _, _, _]) (show Blk W b3 _ _ from hT.1.trans o48) rfl) rfl) <| sq_q rfl (fun W hT => r_move (v := .int _ _) rfl) <| sq_q rfl (fun W hT => r_convInt T.u2 T.u58 rfl) <| sq_q rfl (fun W hT => r_neg rfl) ?_
       rw [hwn]
       refine sq_call1 rfl (r_call (ags := [_, _]) rfl rfl T.ent43 rfl) (based_spec _ 10 (by omega) (by omega) _) ?_
       rintro _ w49 ⟨rfl, c50⟩
       replace HC := HC.then c50
       replace hb4 := hb4.tr0 c50
       replace hb2 := hb2.tr0 c50
       replace ha2 := ha2.tr0 c50
       refine ⟨_, fun _ h => h, ⟨(Eq.trans hb4 o48.symm), trivial⟩, ?_⟩
       refine sq_call1 rfl (r_call (ags := [_, _, _]) rfl rfl T.ent42 rfl) (digs_spec x hx [45] _ _ (by simp) (by omega)) ?_
       rintro _ w51 ⟨rfl, c52⟩
       replace HC := HC.then c52
       replace hb4 := hb4.tr0 c52
       replace hb2 := hb2.tr0 c52
       replace ha2 := ha2.tr0 c52
       refine ⟨_, fun _ h => h, ⟨(Eq.trans hb4 o48.symm), trivial⟩, ?_⟩
       refine sq_q rfl (fun W hT => r_assign (v := S _) rfl) ?_
       clear o48
       refine sq_nil <| then_n <| x_ret <| then_r <| block_r <| then_r <| ret_tmp (v := S _) rfl rfl <| ⟨congrArg S ?_, _, _, ?_, ha2, hca2, HC⟩
       · unfold cnvO; rw [if_neg h0, if_neg h1, if_neg h2, if_pos hdi, if_pos h5]
       · unfold cnvE cnvS; rw [if_neg (by omega), if_neg (by omega)]; exact hb2
      ·try simp only [nm, ne_eq] at h5
       refine x_skip <| then_n <| x_seq <| x_draw [(0, 0), (1, 0), (2, 0), (3, 1), (4, 1), (5, 0)] T.mixed rfl rfl rfl (fun W => W.heap[b3]? = w44.heap[b3]? ∧ True) ⟨rfl, trivial⟩ ?_
       have o55 := hb4
       have c54 := Chg.drew w44
       generalize World.drew w44 = w53 at c54 ⊢
       replace HC := HC.then c54
       replace hb4 := hb4.tr0 c54
       replace hb2 := hb2.tr0 c54
       replace ha2 := ha2.tr0 c54
       refine sq_q rfl (fun W hT => r_loadA (vs := [_, _, _, _, _]) T.agg60 rfl (Blk.cells (n := 5) (vs := [_, _, _, _, _]) (show Blk W b3 _ _ from hT.1.trans o55) rfl) rfl) <| sq_q rfl (fun W hT => r_move (v := .int _ _) rfl) <| sq_q rfl (fun W hT => r_convInt T.u2 T.u58 rfl) ?_
       rw [hwu]
       refine sq_call1 rfl (r_call (ags := [_, _]) rfl rfl T.ent43 rfl) (based_spec _ 10 hub (by omega) _) ?_
       rintro _ w56 ⟨rfl, c57⟩
       replace HC := HC.then c57
       replace hb4 := hb4.tr0 c57
       replace hb2 := hb2.tr0 c57
       replace ha2 := ha2.tr0 c57
       refine ⟨_, fun _ h => h, ⟨(Eq.trans hb4 o55.symm), trivial⟩, ?_⟩
       refine sq_call1 rfl (r_call (ags := [_, _, _]) rfl rfl T.ent42 rfl) (digs_spec x hx [] _ _ (by simp) (by omega)) ?_
       rintro _ w58 ⟨rfl, c59⟩
       replace HC := HC.then c59
       replace hb4 := hb4.tr0 c59
       replace hb2 := hb2.tr0 c59
       replace ha2 := ha2.tr0 c59
       refine ⟨_, fun _ h => h, ⟨(Eq.trans hb4 o55.symm), trivial⟩, ?_⟩
       refine sq_q rfl (fun W hT => r_assign (v := S _) rfl) ?_
       clear o55
       refine sq_nil <| then_n <| x_ret <| block_r <| then_r <| ret_tmp (v := S _) rfl rfl <| ⟨congrArg S ?_, _, _, ?_, ha2, hca2, HC⟩
       · unfold cnvO; rw [if_neg h0, if_neg h1, if_neg h2, if_pos hdi, if_neg h5]
       · unfold cnvE cnvS; rw [if_neg (by omega), if_neg (by omega)]; exact hb2
     ·try simp only [nm, ne_eq] at h4
      have hnd : ¬ (((x.conv.toNat : Nat) : Int) = 100 ∨ ((x.conv.toNat : Nat) : Int) = 105) := fun h => h.elim h3 h4
      refine sr rfl <| Wp rfl <| st_eql rfl rfl <| aB rfl <| en <| x_cond rfl (fun h6 => ?_) (fun h6 => ?_)
      ·try simp only [nm, ne_eq] at h6
       refine x_seq <| x_draw [(0, 0), (1, 0), (2, 1), (3, 0), (4, 1), (5, 1), (6, 0)] T.mixed rfl rfl rfl (fun W => W.heap[b3]? = w1.heap[b3]? ∧ True) ⟨rfl, trivial⟩ ?_
       have o62 := hb4
       have c61 := Chg.drew w1
       generalize World.drew w1 = w60 at c61 ⊢
       replace HC := HC.then c61
       replace hb := hb.tr0 c61
       replace ha := ha.tr0 c61
       replace hb4 := hb4.tr0 c61
       refine sq_q rfl (fun W hT => r_loadA (vs := [_, _, _, _, _]) T.agg60 rfl (Blk.cells (n := 5) (vs := [_, _, _, _, _]) (show Blk W b3 _ _ from hT.1.trans o62) rfl) rfl) <| sq_q rfl (fun W hT => r_move (v := .pointer _) rfl) <| sq_call1 rfl (r_call (ags := [_]) rfl rfl T.ent41 rfl) (number_spec hb ha hca hDb hsl) ?_
       rintro _ w63 ⟨rfl, Aa2, ca2, hb2, ha2, hca2, c64⟩
       replace HC := HC.trans c64 (by intro x hx; simp only [List.mem_singleton] at hx; subst hx; exact .inl (by simp))
       replace hb4 := hb4.tr1 c64 (Ne.symm ne_b_b3)
       refine ⟨_, fun _ h => h, ⟨(Eq.trans hb4 o62.symm), trivial⟩, ?_⟩
       refine sq_q rfl (fun W hT => r_convInt T.u2 T.u58 rfl) ?_
       rw [hwu]
       refine sq_call1 rfl (r_call (ags := [_, _]) rfl rfl T.ent43 rfl) (based_spec _ 10 hub (by omega) _) ?_
       rintro _ w65 ⟨rfl, c66⟩
       replace HC := HC.then c66
       replace hb4 := hb4.tr0 c66
       replace hb2 := hb2.tr0 c66
       replace ha2 := ha2.tr0 c66
       refine ⟨_, fun _ h => h, ⟨(Eq.trans hb4 o62.symm), trivial⟩, ?_⟩
       refine sq_call1 rfl (r_call (ags := [_, _, _]) rfl rfl T.ent42 rfl) (digs_spec x hx [] _ _ (by simp) (by omega)) ?_
       rintro _ w67 ⟨rfl, c68⟩
       replace HC := HC.then c68
       replace hb4 := hb4.tr0 c68
       replace hb2 := hb2.tr0 c68
       replace ha2 := ha2.tr0 c68
       refine ⟨_, fun _ h => h, ⟨(Eq.trans hb4 o62.symm), trivial⟩, ?_⟩
       refine sq_q rfl (fun W hT => r_assign (v := S _) rfl) ?_
       clear o62
       refine sq_nil <| then_n <| x_ret <| block_r <| then_r <| ret_tmp (v := S _) rfl rfl <| ⟨congrArg S ?_, _, _, ?_, ha2, hca2, HC⟩
       · unfold cnvO; rw [if_neg h0, if_neg h1, if_neg h2, if_neg hnd, if_pos h6]
       · unfold cnvE cnvS; rw [if_neg (by omega), if_neg (by omega)]; exact hb2
      ·try simp only [nm, ne_eq] at h6
       refine sr rfl <| Wp rfl <| st_eql rfl rfl <| aB rfl <| en <| x_cond rfl (fun h7 => ?_) (fun h7 => ?_)
       ·try simp only [nm, ne_eq] at h7
        refine x_seq <| x_draw [(0, 0), (1, 0), (2, 1), (3, 0), (4, 1), (5, 1), (6, 0)] T.mixed rfl rfl rfl (fun W => W.heap[b3]? = w1.heap[b3]? ∧ True) ⟨rfl, trivial⟩ ?_
        have o71 := hb4
        have c70 := Chg.drew w1
        generalize World.drew w1 = w69 at c70 ⊢
        replace HC := HC.then c70
        replace hb := hb.tr0 c70
        replace ha := ha.tr0 c70
        replace hb4 := hb4.tr0 c70
        refine sq_q rfl (fun W hT => r_loadA (vs := [_, _, _, _, _]) T.agg60 rfl (Blk.cells (n := 5) (vs := [_, _, _, _, _]) (show Blk W b3 _ _ from hT.1.trans o71) rfl) rfl) <| sq_q rfl (fun W hT => r_move (v := .pointer _) rfl) <| sq_call1 rfl (r_call (ags := [_]) rfl rfl T.ent41 rfl) (number_spec hb ha hca hDb hsl) ?_
        rintro _ w72 ⟨rfl, Aa2, ca2, hb2, ha2, hca2, c73⟩
        replace HC := HC.trans c73 (by intro x hx; simp only [List.mem_singleton] at hx; subst hx; exact .inl (by simp))
        replace hb4 := hb4.tr1 c73 (Ne.symm ne_b_b3)
        refine ⟨_, fun _ h => h, ⟨(Eq.trans hb4 o71.symm), trivial⟩, ?_⟩
        refine sq_q rfl (fun W hT => r_convInt T.u2 T.u58 rfl) ?_
        rw [hwu]
        refine sq_call1 rfl (r_call (ags := [_, _]) rfl rfl T.ent43 rfl) (based_spec _ 8 hub (by omega) _) ?_
        rintro _ w74 ⟨rfl, c75⟩
        replace HC := HC.then c75
        replace hb4 := hb4.tr0 c75
        replace hb2 := hb2.tr0 c75
        replace ha2 := ha2.tr0 c75
        refine ⟨_, fun _ h => h, ⟨(Eq.trans hb4 o71.symm), trivial⟩, ?_⟩
        refine sq_call1 rfl (r_call (ags := [_, _, _]) rfl rfl T.ent42 rfl) (digs_spec x hx [] _ _ (by simp) (by omega)) ?_
        rintro _ w76 ⟨rfl, c77⟩
        replace HC := HC.then c77
        replace hb4 := hb4.tr0 c77
        replace hb2 := hb2.tr0 c77
        replace ha2 := ha2.tr0 c77
        refine ⟨_, fun _ h => h, ⟨(Eq.trans hb4 o71.symm), trivial⟩, ?_⟩
        refine sq_q rfl (fun W hT => r_assign (v := S _) rfl) ?_
        clear o71
        refine sq_nil <| then_n <| x_ret <| block_r <| then_r <| ret_tmp (v := S _) rfl rfl <| ⟨congrArg S ?_, _, _, ?_, ha2, hca2, HC⟩
        · unfold cnvO; rw [if_neg h0, if_neg h1, if_neg h2, if_neg hnd, if_neg h6, if_pos h7]
        · unfold cnvE cnvS; rw [if_neg (by omega), if_neg (by omega)]; exact hb2
       ·try simp only [nm, ne_eq] at h7
        refine sr rfl <| Wp rfl <| st_eql rfl rfl <| aB rfl <| en <| x_cond rfl (fun h8 => ?_) (fun h8 => ?_)
        ·try simp only [nm, ne_eq] at h8
         refine x_seq <| x_draw [(0, 0), (1, 0), (2, 1), (3, 0), (4, 1), (5, 1), (6, 0)] T.mixed rfl rfl rfl (fun W => W.heap[b3]? = w1.heap[b3]? ∧ True) ⟨rfl, trivial⟩ ?_
         have o80 := hb4
         have c79 := Chg.drew w1
         generalize World.drew w1 = w78 at c79 ⊢
         replace HC := HC.then c79
         replace hb := hb.tr0 c79
         replace ha := ha.tr0 c79
         replace hb4 := hb4.tr0 c79
         refine sq_q rfl (fun W hT => r_loadA (vs := [_, _, _, _, _]) T.agg60 rfl (Blk.cells (n := 5) (vs := [_, _, _, _, _]) (show Blk W b3 _ _ from hT.1.trans o80) rfl) rfl) <| sq_q rfl (fun W hT => r_move (v := .pointer _) rfl) <| sq_call1 rfl (r_call (ags := [_]) rfl rfl T.ent41 rfl) (number_spec hb ha hca hDb hsl) ?_
         rintro _ w81 ⟨rfl, Aa2, ca2, hb2, ha2, hca2, c82⟩
         replace HC := HC.trans c82 (by intro x hx; simp only [List.mem_singleton] at hx; subst hx; exact .inl (by simp))
         replace hb4 := hb4.tr1 c82 (Ne.symm ne_b_b3)
         refine ⟨_, fun _ h => h, ⟨(Eq.trans hb4 o80.symm), trivial⟩, ?_⟩
         refine sq_q rfl (fun W hT => r_convInt T.u2 T.u58 rfl) ?_
         rw [hwu]
         refine sq_call1 rfl (r_call (ags := [_, _]) rfl rfl T.ent43 rfl) (based_spec _ 16 hub (by omega) _) ?_
         rintro _ w83 ⟨rfl, c84⟩
         replace HC := HC.then c84
         replace hb4 := hb4.tr0 c84
         replace hb2 := hb2.tr0 c84
         replace ha2 := ha2.tr0 c84
         refine ⟨_, fun _ h => h, ⟨(Eq.trans hb4 o80.symm), trivial⟩, ?_⟩
         refine sq_call1 rfl (r_call (ags := [_, _, _]) rfl rfl T.ent42 rfl) (digs_spec x hx [] _ _ (by simp) (by omega)) ?_
         rintro _ w85 ⟨rfl, c86⟩
         replace HC := HC.then c86
         replace hb4 := hb4.tr0 c86
         replace hb2 := hb2.tr0 c86
         replace ha2 := ha2.tr0 c86
         refine ⟨_, fun _ h => h, ⟨(Eq.trans hb4 o80.symm), trivial⟩, ?_⟩
         refine sq_q rfl (fun W hT => r_assign (v := S _) rfl) ?_
         clear o80
         refine sq_nil <| then_n <| x_ret <| block_r <| then_r <| ret_tmp (v := S _) rfl rfl <| ⟨congrArg S ?_, _, _, ?_, ha2, hca2, HC⟩
         · unfold cnvO; rw [if_neg h0, if_neg h1, if_neg h2, if_neg hnd, if_neg h6, if_neg h7, if_pos h8]
         · unfold cnvE cnvS; rw [if_neg (by omega), if_neg (by omega)]; exact hb2
        ·try simp only [nm, ne_eq] at h8
         refine x_skip <| block_n <| then_n <| x_seq <| x_draw [(0, 0), (1, 0), (2, 1), (3, 0), (4, 1), (5, 1), (6, 1), (7, 0)] T.mixed rfl rfl rfl (fun W => W.heap[b3]? = w1.heap[b3]? ∧ True) ⟨rfl, trivial⟩ ?_
         have o89 := hb4
         have c88 := Chg.drew w1
         generalize World.drew w1 = w87 at c88 ⊢
         replace HC := HC.then c88
         replace hb := hb.tr0 c88
         replace ha := ha.tr0 c88
         replace hb4 := hb4.tr0 c88
         refine sq_q rfl (fun W hT => r_loadA (vs := [_, _, _, _, _]) T.agg60 rfl (Blk.cells (n := 5) (vs := [_, _, _, _, _]) (show Blk W b3 _ _ from hT.1.trans o89) rfl) rfl) <| sq_q rfl (fun W hT => r_move (v := .pointer _) rfl) <| sq_call1 rfl (r_call (ags := [_]) rfl rfl T.ent41 rfl) (number_spec hb ha hca hDb hsl) ?_
         rintro _ w90 ⟨rfl, Aa2, ca2, hb2, ha2, hca2, c91⟩
         replace HC := HC.trans c91 (by intro x hx; simp only [List.mem_singleton] at hx; subst hx; exact .inl (by simp))
         replace hb4 := hb4.tr1 c91 (Ne.symm ne_b_b3)
         refine ⟨_, fun _ h => h, ⟨(Eq.trans hb4 o89.symm), trivial⟩, ?_⟩
         refine sq_q rfl (fun W hT => r_convInt T.u2 T.u58 rfl) ?_
         rw [hwu]
         refine sq_call1 rfl (r_call (ags := [_, _]) rfl rfl T.ent43 rfl) (based_spec _ 16 hub (by omega) _) ?_
         rintro _ w92 ⟨rfl, c93⟩
         replace HC := HC.then c93
         replace hb4 := hb4.tr0 c93
         replace hb2 := hb2.tr0 c93
         replace ha2 := ha2.tr0 c93
         refine ⟨_, fun _ h => h, ⟨(Eq.trans hb4 o89.symm), trivial⟩, ?_⟩
         refine sq_call1 rfl (r_call (ags := [_]) rfl rfl T.ent44 rfl) (ToUpper_spec _ _ (by omega) (bas_128 16 _ _ (Nat.le_refl _))) ?_
         rintro _ w94 ⟨rfl, c95⟩
         replace HC := HC.then c95
         replace hb4 := hb4.tr0 c95
         replace hb2 := hb2.tr0 c95
         replace ha2 := ha2.tr0 c95
         refine ⟨_, fun _ h => h, ⟨(Eq.trans hb4 o89.symm), trivial⟩, ?_⟩
         refine sq_call1 rfl (r_call (ags := [_, _, _]) rfl rfl T.ent42 rfl) (digs_spec x hx [] _ _ (by simp) (by rw [upper_len]; omega)) ?_
         rintro _ w96 ⟨rfl, c97⟩
         replace HC := HC.then c97
         replace hb4 := hb4.tr0 c97
         replace hb2 := hb2.tr0 c97
         replace ha2 := ha2.tr0 c97
         refine ⟨_, fun _ h => h, ⟨(Eq.trans hb4 o89.symm), trivial⟩, ?_⟩
         refine sq_q rfl (fun W hT => r_assign (v := S _) rfl) ?_
         clear o89
         refine sq_nil <| then_n <| x_ret <| ret_tmp (v := S _) rfl rfl <| ⟨congrArg S ?_, _, _, ?_, ha2, hca2, HC⟩
         · unfold cnvO; rw [if_neg h0, if_neg h1, if_neg h2, if_neg hnd, if_neg h6, if_neg h7, if_neg h8]
         · unfold cnvE cnvS; rw [if_neg (by omega), if_neg (by omega)]; exact hb2

end Go.Proofs.YtlpndcpbnbeohaaDoor.K
set_option linter.unusedVariables false
set_option linter.unusedSimpArgs false
set_option autoImplicit false
set_option maxRecDepth 20000
namespace Go.Proofs.YtlpndcpbnbeohaaDoor.K
open Go Go.Proofs Go.RowKit

/-- A writer. -/
structure Wr where
  args : List Bytes
  took : Bool
  done : Bool
  st : Int
  out : Bytes
def cnvQ (q : Wr) (x : Spc) : Wr := ⟨q.args.tail, true, cnvE x (hdS q.args) q.done, cnvS x (hdS q.args) q.st, q.out ++ cnvO x (hdS q.args)⟩
/-- A format is gone through. -/
def onceF : Nat → Bytes → Wr → Wr
  | 0, _, q => q
  | k + 1, f, q => if f ≠ [] ∧ q.done = false ∧ q.out.length ≤ 65536 then
      (if ((byte f 0).toNat : Int) = 92 then onceF k (f.drop (escV f false).2.toNat) ⟨q.args, q.took, q.done, q.st, q.out ++ [(escV f false).1]⟩
       else if Lib.hasPrefix f [37, 37] = true then onceF k (f.drop 2) ⟨q.args, q.took, q.done, q.st, q.out ++ [37]⟩
       else if ((byte f 0).toNat : Int) = 37 then (if rdO (f.drop 1) = false then ⟨q.args, q.took, true, 1, q.out⟩ else onceF k ((rd3 (f.drop 1)).drop 1) (cnvQ q (rdX (f.drop 1))))
       else onceF k (f.drop 1) ⟨q.args, q.took, q.done, q.st, q.out ++ [byte f 0]⟩)
    else q
theorem once_no {k : Nat} {f : Bytes} {q : Wr} (h : ¬ (f ≠ [] ∧ q.done = false ∧ q.out.length ≤ 65536)) : onceF k f q = q := by
  cases k with
  | zero => rfl
  | succ k => rw [onceF, if_neg h]
theorem once_yes {k : Nat} {f : Bytes} {q : Wr} (h : f ≠ [] ∧ q.done = false ∧ q.out.length ≤ 65536) : onceF (k + 1) f q = (if ((byte f 0).toNat : Int) = 92 then onceF k (f.drop (escV f false).2.toNat) ⟨q.args, q.took, q.done, q.st, q.out ++ [(escV f false).1]⟩
       else if Lib.hasPrefix f [37, 37] = true then onceF k (f.drop 2) ⟨q.args, q.took, q.done, q.st, q.out ++ [37]⟩
       else if ((byte f 0).toNat : Int) = 37 then (if rdO (f.drop 1) = false then ⟨q.args, q.took, true, 1, q.out⟩ else onceF k ((rd3 (f.drop 1)).drop 1) (cnvQ q (rdX (f.drop 1))))
       else onceF k (f.drop 1) ⟨q.args, q.took, q.done, q.st, q.out ++ [byte f 0]⟩) := by rw [onceF, if_pos h]
theorem esc_f (s : Bytes) (h : 0 < s.length) : 1 ≤ (escV s false).2 ∧ (escV s false).2 ≤ s.length := by
  rcases esc_in s false h with h1 | h1
  · exfalso
    unfold escV at h1
    split at h1
    · exact absurd (show (1 : Int) = -1 from h1) (by decide)
    · split at h1
      · exact absurd (show (2 : Int) = -1 from h1) (by decide)
      · split at h1
        · rename_i h2; cases h2.2
        · split at h1
          · exact absurd (show (1 : Int) = -1 from h1) (by decide)
          · simp only at h1; omega
  · exact h1
theorem cnv_len {x : Spc} (hx : x.Ok) (s : Bytes) : (cnvO x s).length ≤ 3000 + s.length := by
  have hni := nm_in s
  have hub := uN_bd hni.1 hni.2
  have h1 := ptx_len hx s
  have h2 := ptx_len hx (escsV s).1
  have h3 : (escsV s).1.length ≤ s.length := escs_len _ _
  have h4 := pad_len hx (s.take (min 1 s.length))
  have h5 := bas_64 (b := 10) (by omega) hub
  have h6 := bas_64 (b := 8) (by omega) hub
  have h7 := bas_64 (b := 16) (by omega) hub
  have d1 := digs_len hx [] (basV 10 (uN (nmV s).1))
  have d2 := digs_len hx [] (basV 8 (uN (nmV s).1))
  have d3 := digs_len hx [] (basV 16 (uN (nmV s).1))
  have d4 := digs_len hx [] (Lib.toUpperA (basV 16 (uN (nmV s).1)))
  rw [upper_len] at d4
  simp only [List.length_nil] at d1 d2 d3 d4
  rw [List.length_take] at h4
  unfold cnvO
  split
  · omega
  split
  · omega
  split
  · omega
  split
  · split
    · rename_i hn
      have h8 := bas_64 (b := 10) (n := (-(nmV s).1).toNat) (by omega) (by omega)
      have d5 := digs_len hx [45] (basV 10 (-(nmV s).1).toNat)
      simp only [List.length_cons, List.length_nil] at d5; omega
    · omega
  split
  · omega
  split
  · omega
  split <;> omega
theorem tail_mem {l : List Bytes} {s : Bytes} (h : s ∈ l.tail) : s ∈ l := by cases l with | nil => cases h | cons a l => exact List.mem_cons_of_mem _ h
theorem hd_len {l : List Bytes} {n : Nat} (h : ∀ s, s ∈ l → s.length ≤ n) : (hdS l).length ≤ n := by cases l with | nil => exact Nat.zero_le _ | cons a l => exact h a (by simp)
section
variable {w w' : World} {b : Nat} {A : Option Addr} {cap : Nat} {s : Bytes} {rs rs' : List Value}
theorem BldW.pv (h : BldW w b A cap s rs) : ∃ pv, (pv = .pointer none ∨ pv = .pointer (some ⟨b, 0, none⟩)) ∧ Blk w b (pv :: .slice A s.length cap :: rs) 42 := by
  rcases h.blk with hb | hb
  · exact ⟨_, .inl rfl, hb⟩
  · exact ⟨_, .inr rfl, hb⟩
theorem BldW.mk' {pv : Value} (hp : pv = .pointer none ∨ pv = .pointer (some ⟨b, 0, none⟩)) (hb : Blk w b (pv :: .slice A s.length cap :: rs) 42) (ho : OwnB 5 w A cap s) (hn : s = [] → A = none) : BldW w b A cap s rs := by
  rcases hp with rfl | rfl
  · exact ⟨.inl hb, ho, hn⟩
  · exact ⟨.inr hb, ho, hn⟩
theorem BldW.put {pv : Value} (h : BldW w b A cap s rs) (hp : pv = .pointer none ∨ pv = .pointer (some ⟨b, 0, none⟩)) (hc : Chg [b] w w') (hb : Blk w' b (pv :: .slice A s.length cap :: rs') 42) : BldW w' b A cap s rs' :=
  .mk' hp hb (h.own.tr hc (fun k hk hx => h.ne (List.mem_singleton.1 hx ▸ hk))) h.nil
end

theorem hp2 {s : Bytes} (h : Lib.hasPrefix s [37, 37] = true) : 2 ≤ s.length := by
  have := (List.isPrefixOf_iff_prefix.1 (show ([37, 37] : Bytes).isPrefixOf s = true from h)).length_le
  simpa using this

set_option maxHeartbeats 1000000 in
theorem once_spec {b m ca : Nat} {A0 : Option Addr} {cap0 : Nat} {Aa : Option Addr} {q0 : Wr} {w : World} (f0 : Bytes) (hw : BldW w b A0 cap0 q0.out [.slice Aa q0.args.length ca, .bool q0.took, .bool q0.done, .int .i64 q0.st]) (ha : Sl sE w (fun k => k < m) Aa q0.args) (hca : q0.args.length ≤ ca) (hag : ∀ s, s ∈ q0.args → s.length ≤ 10000000000000) (hob : ∀ k, k ∈ ob A0 → m ≤ k) (hbm : m ≤ b) (hm : m ≤ w.heap.size) (hf : f0.length ≤ 10000000000000) : CallR Tryd.prog 17 #[.pointer (some ⟨b, 0, none⟩), S f0] w fun v w' => v = .tuple ⟨[]⟩ ∧ ∃ A' cap' Aa' ca', BldW w' b A' cap' (onceF (f0.length + 1) f0 q0).out [.slice Aa' (onceF (f0.length + 1) f0 q0).args.length ca', .bool (onceF (f0.length + 1) f0 q0).took, .bool (onceF (f0.length + 1) f0 q0).done, .int .i64 (onceF (f0.length + 1) f0 q0).st] ∧ Sl sE w' (fun k => k < m) Aa' (onceF (f0.length + 1) f0 q0).args ∧ (onceF (f0.length + 1) f0 q0).args.length ≤ ca' ∧ (∀ s, s ∈ (onceF (f0.length + 1) f0 q0).args → s.length ≤ 10000000000000) ∧ (∀ k, k ∈ ob A' → m ≤ k) ∧ (∀ k, k ∈ ob A' → k ∈ ob A0 ∨ w.heap.size ≤ k) ∧ Chg (b :: ob A0) w w' := by
 have hbl9 := hw.ltb
 have hoA : ∀ k, k ∈ ob A0 → k ∈ ob A0 ∨ w.heap.size ≤ k := fun k hk => .inl hk
 refine callR_of_wp (args := [_, _]) Tryd.func17 rfl (Nat.le_of_ble_eq_true rfl) ?_
 have HC : Chg (b :: ob A0) w w := .refl _
 refine x_scope <| x_seq <| x_label <| then_n <| x_block <| x_loop (ι := Bytes × Nat × Wr × Option Addr × Nat × Option Addr × Nat) [1, 4, 5, 6, 7, 8, 9, 10, 11, 12, 13, 14, 15, 16, 17, 18, 19, 20, 21, 22, 23, 24, 25, 26, 27, 28, 29, 30, 31, 32, 33, 34, 35, 36, 37, 38, 39, 40, 41, 42, 43, 44, 45, 46, 47, 48, 49, 50, 51, 52, 53, 54, 55, 56, 57, 58, 59, 60, 61, 62, 63, 64, 65, 66, 67, 68, 69, 70, 71, 72, 73, 74, 75, 76, 77, 78, 79, 80, 81, 82, 83, 84, 85] (fun ⟨f, k, q, A, cap, Aa, ca⟩ => [(1, S f)]) (fun ⟨f, k, q, A, cap, Aa, ca⟩ W => (onceF k f q = onceF (f0.length + 1) f0 q0 ∧ f.length < k ∧ f.length ≤ f0.length ∧ q.args.length ≤ ca ∧ (∀ s, s ∈ q.args → s.length ≤ 10000000000000) ∧ (∀ k, k ∈ ob A → m ≤ k) ∧ (∀ k, k ∈ ob A → k ∈ ob A0 ∨ w.heap.size ≤ k)) ∧ (Chg (b :: ob A0) w W) ∧ (BldW W b A cap q.out [.slice Aa q.args.length ca, .bool q.took, .bool q.done, .int .i64 q.st]) ∧ (Sl sE W (fun k => k < m) Aa q.args)) (fun ⟨f, k, q, A, cap, Aa, ca⟩ => k) (f0, f0.length + 1, q0, A0, cap0, Aa, ca) ?_ ?_ ?_
 · exact ⟨rfl, trivial⟩
 ·refine ⟨?_, HC, hw, ha⟩
  exact ⟨rfl, Nat.lt_succ_self _, Nat.le_refl _, hca, hag, hob, hoA⟩
 clear hob hoA hag hca
 intro ⟨f, k, q, A, cap, Aa, ca⟩ G2 w1 ⟨⟨hto, hfk, hfl, hca, hag, hob, hoA⟩, HC, hw, ha⟩
 change wp _ _ _ _ _ (upds (over _ _ G2) [(1, S f)]) _ _
 refine x_seq <| x_seq ?_
 obtain ⟨pv, hpv, hbk⟩ := BldW.pv hw
 refine x_region rfl <| mS rfl <| Wp rfl <| st_sneq rfl rfl <| mB rfl <| w_split (d := 11) rfl (fun g3 => ?_) (fun g3 => ?_)
 ·try simp only [nm, ne_eq] at g3
  have hfne : f ≠ [] := by assumption
  have hfp := List.length_pos_iff.2 hfne
  refine w_yes 2 11 true <| st_move (v := .pointer _) rfl <| w_yes 2 11 true <| st_nilCheck rfl <| w_yes 2 11 true <| st_fieldAddr T.fld42_3 rfl <| w_yes 2 11 true <| st_load1 (v := .bool _) T.one4 rfl (hbk.cell rfl) <| w_yes 2 11 true <| st_not rfl <| pT rfl rfl <| mB rfl <| w_split (d := 18) rfl (fun g4 => ?_) (fun g4 => ?_)
  ·try simp only [nm, ne_eq] at g4
   have hnd : q.done = false := by first | assumption | simp_all
   refine w_yes 9 18 true <| st_move (v := .pointer _) rfl <| w_yes 9 18 true <| st_nilCheck rfl <| w_yes 9 18 true <| st_fieldAddr T.fld42_0 rfl <| w_yes 9 18 true <| st_call (ags := [_]) rfl rfl T.ent16 rfl (LenW_spec hw) ?_
   rintro _ w5 ⟨rfl, c6⟩
   replace HC := HC.then c6
   replace hw := hw.tr0 c6
   replace ha := ha.tr0 c6
   replace hbk := hbk.tr0 c6
   refine w_yes 9 18 true <| st_leq rfl rfl <| pT rfl rfl <| en <| x_cond rfl (fun h0 => ?_) (fun h0 => ?_)
   ·try simp only [nm, ne_eq] at h0
    have hlo : q.out.length ≤ 65536 := by omega
    have hgo : f ≠ [] ∧ q.done = false ∧ q.out.length ≤ 65536 := ⟨hfne, hnd, hlo⟩
    obtain ⟨k, rfl⟩ : ∃ j, k = j + 1 := ⟨k - 1, by omega⟩
    refine x_skip <| then_n <| x_block <| x_block <| sr rfl <| mS rfl <| Wp rfl <| st_sidx T.u9 rfl rfl (by omega) (by omega) <| Wp rfl <| st_eql rfl rfl <| aB rfl <| en <| x_cond rfl (fun h1 => ?_) (fun h1 => ?_)
    ·try simp only [nm, ne_eq] at h1
     refine sr rfl <| mS rfl <| Wp rfl <| st_call (ags := [_, _]) rfl rfl T.ent20 rfl (escape_spec f false _ (by omega)) ?_
     rintro _ w7 ⟨rfl, c8⟩
     replace HC := HC.then c8
     replace hw := hw.tr0 c8
     replace ha := ha.tr0 c8
     replace hbk := hbk.tr0 c8
     refine mv (v := .tuple ⟨[_, _]⟩) rfl <| Wp rfl <| st_extract (vs := [_, _]) (v := .int _ _) rfl rfl <| Wp rfl <| st_extract (vs := [_, _]) (v := .int _ _) rfl rfl <| aI rfl <| aI rfl <| en <| x_seq ?_
     have hef := esc_f f hfp
     obtain ⟨n, hn⟩ : ∃ n : Nat, (escV f false).2 = (n : Int) := ⟨(escV f false).2.toNat, by omega⟩
     rw [hn] at hef ⊢
     refine x_region rfl <| mP rfl <| nc rfl <| fa T.fld42_0 rfl <| mI rfl <| Wp rfl <| st_call (ags := [_, _]) rfl rfl T.ent21 rfl (WriteByteW_spec (escV f false).1 hw (by omega)) ?_
     rintro _ w9 ⟨rfl, A11, cap12, hw13, c10, hgr14⟩
     have hszW := HC.size
     replace HC := HC.trans c10 (fun k hk => (List.mem_cons.1 hk).elim (fun h => .inl (by rw [h]; simp)) (fun h => (hoA k h).imp (fun h => List.mem_cons_of_mem _ h) id))
     replace ha := ha.tr c10 (fun k hk hD => by have hD2 : k < m := hD; rcases List.mem_cons.1 hk with h | h; omega; (have := hob k h; omega))
     replace hob : ∀ k, k ∈ ob A11 → m ≤ k := fun k hk => (hgr14 k hk).elim (fun h => hob k h) (fun h => by omega)
     replace hoA : ∀ k, k ∈ ob A11 → k ∈ ob A0 ∨ w.heap.size ≤ k := fun k hk => (hgr14 k hk).elim (fun h => hoA k h) (fun h => .inr (by omega))
     refine en <| x_region rfl <| mS rfl <| mI rfl <| Wp rfl <| st_sslo (i := n) T.u9 rfl ⟨_, rfl⟩ (by omega) <| aS rfl <| wops_nil <| block_n <| block_n <| then_n <| ⟨((f.drop n), k, ⟨q.args, q.took, q.done, q.st, q.out ++ [(escV f false).1]⟩, A11, cap12, Aa, ca), ?_, ?_, rfl, ⟨rfl, trivial⟩, ?_⟩
     ·refine ⟨?_, HC, hw13, ha⟩
      exact ⟨by rw [← hto, once_yes hgo, if_pos h1, hn, Int.toNat_natCast], by rw [List.length_drop]; omega, by rw [List.length_drop]; omega, hca, hag, hob, hoA⟩
     ·show k < k + 1; omega
     repeat (first | exact agree_upds agree_over rfl | refine agree_upd ?_ rfl | refine agree_upds ?_ rfl | refine agree_over_sub ?_ rfl)
    ·try simp only [nm, ne_eq] at h1
     refine sr rfl <| mS rfl <| Wp rfl <| st_call (ags := [_, _]) rfl rfl T.ent25 rfl (HasPrefix_spec _ _ _) ?_
     rintro _ w15 ⟨rfl, c16⟩
     replace HC := HC.then c16
     replace hw := hw.tr0 c16
     replace ha := ha.tr0 c16
     replace hbk := hbk.tr0 c16
     refine aB rfl <| en <| x_cond rfl (fun h2 => ?_) (fun h2 => ?_)
     ·try simp only [nm, ne_eq] at h2
      refine sr rfl <| mP rfl <| nc rfl <| fa T.fld42_0 rfl <| Wp rfl <| st_call (ags := [_, _]) rfl rfl T.ent21 rfl (WriteByteW_spec 37 hw (by omega)) ?_
      rintro _ w17 ⟨rfl, A19, cap20, hw21, c18, hgr22⟩
      have hszW := HC.size
      replace HC := HC.trans c18 (fun k hk => (List.mem_cons.1 hk).elim (fun h => .inl (by rw [h]; simp)) (fun h => (hoA k h).imp (fun h => List.mem_cons_of_mem _ h) id))
      replace ha := ha.tr c18 (fun k hk hD => by have hD2 : k < m := hD; rcases List.mem_cons.1 hk with h | h; omega; (have := hob k h; omega))
      replace hob : ∀ k, k ∈ ob A19 → m ≤ k := fun k hk => (hgr22 k hk).elim (fun h => hob k h) (fun h => by omega)
      replace hoA : ∀ k, k ∈ ob A19 → k ∈ ob A0 ∨ w.heap.size ≤ k := fun k hk => (hgr22 k hk).elim (fun h => hoA k h) (fun h => .inr (by omega))
      refine en <| x_region rfl <| mS rfl <| Wp rfl <| st_sslo (i := 2) T.u9 rfl ⟨_, rfl⟩ (by (have := hp2 (by assumption : Lib.hasPrefix f [37, 37] = true); omega)) <| aS rfl <| wops_nil <| block_n <| block_n <| then_n <| ⟨((f.drop 2), k, ⟨q.args, q.took, q.done, q.st, q.out ++ [37]⟩, A19, cap20, Aa, ca), ?_, ?_, rfl, ⟨rfl, trivial⟩, ?_⟩
      ·refine ⟨?_, HC, hw21, ha⟩
       exact ⟨by rw [← hto, once_yes hgo, if_neg h1, if_pos h2], by rw [List.length_drop]; omega, by rw [List.length_drop]; omega, hca, hag, hob, hoA⟩
      ·show k < k + 1; omega
      repeat (first | exact agree_upds agree_over rfl | refine agree_upd ?_ rfl | refine agree_upds ?_ rfl | refine agree_over_sub ?_ rfl)
     ·try simp only [nm, ne_eq] at h2
      have hp9 : ¬ Lib.hasPrefix f [37, 37] = true := fun h9 => by rw [h2] at h9; cases h9
      refine sr rfl <| mS rfl <| Wp rfl <| st_sidx T.u9 rfl rfl (by omega) (by omega) <| Wp rfl <| st_eql rfl rfl <| aB rfl <| en <| x_cond rfl (fun h3 => ?_) (fun h3 => ?_)
      ·try simp only [nm, ne_eq] at h3
       have hrl := rd_len (f.drop 1)
       rw [List.length_drop] at hrl
       refine sr rfl <| mS rfl <| Wp rfl <| st_sslo (i := 1) T.u9 rfl ⟨_, rfl⟩ (by omega) <| Wp rfl <| st_call (ags := [_]) rfl rfl T.ent26 rfl (read_spec (f.drop 1) _ (by rw [List.length_drop]; omega)) ?_
       rintro _ w23 ⟨rfl, c24⟩
       replace HC := HC.then c24
       replace hw := hw.tr0 c24
       replace ha := ha.tr0 c24
       replace hbk := hbk.tr0 c24
       refine mv (v := .tuple ⟨[_, _, _]⟩) rfl <| Wp rfl <| st_extract (vs := [_, _, _]) (v := .agg ⟨[.bool _, .bool _, .int _ _, .int _ _, .int _ _]⟩) rfl rfl <| Wp rfl <| st_extract (vs := [_, _, _]) (v := S _) rfl rfl <| Wp rfl <| st_extract (vs := [_, _, _]) (v := .bool _) rfl rfl <| Wp rfl <| st_alloc T.zero60 ?_
       intro b6 w25 e26 c27 hb28
       have ge_b6 : w.heap.size ≤ b6 := by rw [e26]; exact HC.size
       have ne_b_b6 : b ≠ b6 := by rw [e26]; exact hbk.ne_size
       have nw_b6 : b6 ∉ ob A := hw.fresh (by rw [e26]; exact Nat.le_refl _)
       replace HC := HC.then c27
       replace hw := hw.tr0 c27
       replace ha := ha.tr0 c27
       replace hbk := hbk.tr0 c27
       clear e26
       refine Wp rfl <| st_store (v := .agg ⟨[.bool _, .bool _, .int _ _, .int _ _, .int _ _]⟩) T.size60 rfl rfl rfl hb28 rfl (Nat.le_of_ble_eq_true rfl) (by simp [Value.oneCell', S]) rfl ?_
       intro w29 c30 hb31; simp only [setVs, setV] at hb31
       clear hb28
       replace HC := HC.then1 c30 ge_b6
       replace hw := hw.tr c30 (by simp only [List.mem_cons, List.mem_nil_iff, or_false]; omega) (fun k hk hx => by rw [List.mem_singleton.1 hx] at hk; exact nw_b6 hk)
       replace ha := ha.tr c30 (by intro k hk hD; have hD2 : k < m := hD; simp only [List.mem_cons, List.mem_nil_iff, or_false] at hk; omega)
       replace hbk := hbk.tr1 c30 ne_b_b6
       refine aS rfl <| aB rfl <| en <| x_seq <| sr rfl <| mB rfl <| Wp rfl <| st_not rfl <| en <| x_cond rfl (fun h4 => ?_) (fun h4 => ?_)
       ·try simp only [nm, ne_eq] at h4
        have hno : rdO (f.drop 1) = false := by first | assumption | simp_all
        refine x_seq ?_
        have ho9 := hw.own
        have hne9 := hw.ne
        have hnl9 := hw.nil
        refine x_region rfl <| mP rfl <| mP rfl <| nc rfl <| fa T.fld42_4 rfl <| Wp rfl <| st_store (v := .int _ _) T.size3 rfl rfl rfl hbk rfl (Nat.le_of_ble_eq_true rfl) (by simp [Value.oneCell', S]) rfl ?_
        intro w32 c33 hb34; simp only [setVs, setV] at hb34
        clear hbk
        replace HC := HC.trans c33 (by intro x hx; simp only [List.mem_singleton] at hx; subst hx; exact .inl (by simp))
        replace ha := ha.tr c33 (by intro k hk hD; have hD2 : k < m := hD; simp only [List.mem_cons, List.mem_nil_iff, or_false] at hk; omega)
        replace hb31 := hb31.tr1 c33 (Ne.symm ne_b_b6)
        replace ho9 := ho9.tr c33 (fun k hk hx => by rw [List.mem_singleton.1 hx] at hk; exact hne9 hk)
        refine nc rfl <| fa T.fld42_3 rfl <| Wp rfl <| st_store (v := .bool _) T.size4 rfl rfl rfl hb34 rfl (Nat.le_of_ble_eq_true rfl) (by simp [Value.oneCell', S]) rfl ?_
        intro w35 c36 hb37; simp only [setVs, setV] at hb37
        clear hb34
        replace HC := HC.trans c36 (by intro x hx; simp only [List.mem_singleton] at hx; subst hx; exact .inl (by simp))
        replace ha := ha.tr c36 (by intro k hk hD; have hD2 : k < m := hD; simp only [List.mem_cons, List.mem_nil_iff, or_false] at hk; omega)
        replace hb31 := hb31.tr1 c36 (Ne.symm ne_b_b6)
        replace ho9 := ho9.tr c36 (fun k hk hx => by rw [List.mem_singleton.1 hx] at hk; exact hne9 hk)
        refine en <| x_exit <| then_x <| block_o rfl <| block_o rfl <| then_x <| block_x <| scope_n <| ret_none_n rfl ?_
        have hend : onceF (f0.length + 1) f0 q0 = ⟨q.args, q.took, true, 1, q.out⟩ := by rw [← hto, once_yes hgo, if_neg h1, if_neg hp9, if_pos h3, if_pos hno]
        rw [hend]
        exact ⟨rfl, A, cap, Aa, ca, BldW.mk' hpv hb37 ho9 hnl9, ha, hca, hag, hob, hoA, HC⟩
       ·try simp only [nm, ne_eq] at h4
        have hyo : rdO (f.drop 1) = true := by first | assumption | simp_all
        have hxo := rdX_ok hyo
        have hdl := hd_len hag
        have hcl := cnv_len hxo (hdS q.args)
        rw [if_pos hyo]
        refine x_skip <| then_n <| x_seq <| x_draw [(0, 0), (1, 0), (2, 0), (3, 0), (4, 0), (5, 1), (6, 2)] T.mixed rfl rfl rfl (fun W => W.heap[b6]? = w29.heap[b6]? ∧ True) ⟨rfl, trivial⟩ ?_
        have o40 := hb31
        have c39 := Chg.drew w29
        generalize World.drew w29 = w38 at c39 ⊢
        replace HC := HC.then c39
        replace hw := hw.tr0 c39
        replace ha := ha.tr0 c39
        replace hbk := hbk.tr0 c39
        replace hb31 := hb31.tr0 c39
        refine sq_q rfl (fun W hT => r_move (v := .pointer _) rfl) <| sq_q rfl (fun W hT => r_nilCheck rfl) <| sq_q rfl (fun W hT => r_fieldAddr T.fld42_0 rfl) <| sq_q rfl (fun W hT => r_move (v := .pointer _) rfl) <| sq_q rfl (fun W hT => r_loadA (vs := [_, _, _, _, _]) T.agg60 rfl (Blk.cells (n := 5) (vs := [_, _, _, _, _]) (show Blk W b6 _ _ from hT.1.trans o40) rfl) rfl) <| sq_call1 rfl (r_call (ags := [_, _]) rfl rfl T.ent28 rfl) (convert_spec hbk ha hca (fun h => by have h7 : b < m := h; omega) (rdX (f.drop 1)) hxo (by omega)) ?_
        rintro _ w41 ⟨rfl, Aa2, ca2, hb2, ha2, hca2, c42⟩
        have hwc : BldW w41 b A cap q.out [.slice Aa2 q.args.tail.length ca2, .bool true, .bool (cnvE (rdX (f.drop 1)) (hdS q.args) q.done), .int .i64 (cnvS (rdX (f.drop 1)) (hdS q.args) q.st)] := hw.put hpv c42 hb2
        replace HC := HC.trans c42 (fun k hk => .inl (by rw [List.mem_singleton.1 hk]; simp))
        replace hb31 := hb31.tr1 c42 (by omega)
        refine ⟨_, fun _ h => h, ⟨(Eq.trans hb31 o40.symm), trivial⟩, ?_⟩
        refine sq_call2 rfl (r_call (ags := [_, _]) rfl rfl T.ent27 rfl) (WriteStringW_spec (cnvO (rdX (f.drop 1)) (hdS q.args)) hwc (by omega)) ?_
        rintro _ w43 ⟨rfl, A45, cap46, hw47, c44, hgr48⟩
        have hszW := HC.size
        replace HC := HC.trans c44 (fun k hk => (List.mem_cons.1 hk).elim (fun h => .inl (by rw [h]; simp)) (fun h => (hoA k h).imp (fun h => List.mem_cons_of_mem _ h) id))
        replace ha2 := ha2.tr c44 (fun k hk hD => by have hD2 : k < m := hD; rcases List.mem_cons.1 hk with h | h; omega; (have := hob k h; omega))
        replace hob : ∀ k, k ∈ ob A45 → m ≤ k := fun k hk => (hgr48 k hk).elim (fun h => hob k h) (fun h => by omega)
        replace hoA : ∀ k, k ∈ ob A45 → k ∈ ob A0 ∨ w.heap.size ≤ k := fun k hk => (hgr48 k hk).elim (fun h => hoA k h) (fun h => .inr (by omega))
        clear o40
        refine sq_nil <| then_n <| x_region rfl <| mS rfl <| aS rfl <| wops_nil <| block_n <| block_n <| then_n <| ⟨(((rd3 (f.drop 1)).drop 1), k, (cnvQ q (rdX (f.drop 1))), A45, cap46, Aa2, ca2), ?_, ?_, rfl, ⟨rfl, trivial⟩, ?_⟩
        ·refine ⟨?_, HC, hw47, ha2⟩
         exact ⟨by rw [← hto, once_yes hgo, if_neg h1, if_neg hp9, if_pos h3, if_neg (by rw [hyo]; decide)], by rw [List.length_drop]; omega, by rw [List.length_drop]; omega, hca2, (fun s hs => hag s (tail_mem hs)), hob, hoA⟩
        ·show k < k + 1; omega
        repeat (first | exact agree_upds agree_over rfl | refine agree_upd ?_ rfl | refine agree_upds ?_ rfl | refine agree_over_sub ?_ rfl)
      ·try simp only [nm, ne_eq] at h3
       refine x_seq <| x_draw [(0, 0), (1, 0), (2, 0), (3, 0), (4, 0), (5, 2)] T.mixed rfl rfl rfl (fun W => W.heap[b]? = w15.heap[b]? ∧ True) ⟨rfl, trivial⟩ ?_
       have o51 := hbk
       have c50 := Chg.drew w15
       generalize World.drew w15 = w49 at c50 ⊢
       replace HC := HC.then c50
       replace hw := hw.tr0 c50
       replace ha := ha.tr0 c50
       replace hbk := hbk.tr0 c50
       refine sq_q rfl (fun W hT => r_move (v := .pointer _) rfl) <| sq_q rfl (fun W hT => r_nilCheck rfl) <| sq_q rfl (fun W hT => r_fieldAddr T.fld42_0 rfl) <| sq_q rfl (fun W hT => r_move (v := S _) rfl) <| sq_q rfl (fun W hT => r_sidx T.u9 rfl rfl (by omega) (by omega)) <| sq_call2 rfl (r_call (ags := [_, _]) rfl rfl T.ent21 rfl) (WriteByteW_spec (byte f 0) hw (by omega)) ?_
       rintro _ w52 ⟨rfl, A54, cap55, hw56, c53, hgr57⟩
       have hszW := HC.size
       replace HC := HC.trans c53 (fun k hk => (List.mem_cons.1 hk).elim (fun h => .inl (by rw [h]; simp)) (fun h => (hoA k h).imp (fun h => List.mem_cons_of_mem _ h) id))
       replace ha := ha.tr c53 (fun k hk hD => by have hD2 : k < m := hD; rcases List.mem_cons.1 hk with h | h; omega; (have := hob k h; omega))
       replace hob : ∀ k, k ∈ ob A54 → m ≤ k := fun k hk => (hgr57 k hk).elim (fun h => hob k h) (fun h => by omega)
       replace hoA : ∀ k, k ∈ ob A54 → k ∈ ob A0 ∨ w.heap.size ≤ k := fun k hk => (hgr57 k hk).elim (fun h => hoA k h) (fun h => .inr (by omega))
       clear o51
       refine sq_nil <| then_n <| x_region rfl <| mS rfl <| Wp rfl <| st_sslo (i := 1) T.u9 rfl ⟨_, rfl⟩ (by omega) <| aS rfl <| wops_nil <| block_n <| block_n <| then_n <| ⟨((f.drop 1), k, ⟨q.args, q.took, q.done, q.st, q.out ++ [(byte f 0)]⟩, A54, cap55, Aa, ca), ?_, ?_, rfl, ⟨rfl, trivial⟩, ?_⟩
       ·refine ⟨?_, HC, hw56, ha⟩
        exact ⟨by rw [← hto, once_yes hgo, if_neg h1, if_neg hp9, if_neg h3], by rw [List.length_drop]; omega, by rw [List.length_drop]; omega, hca, hag, hob, hoA⟩
       ·show k < k + 1; omega
       repeat (first | exact agree_upds agree_over rfl | refine agree_upd ?_ rfl | refine agree_upds ?_ rfl | refine agree_over_sub ?_ rfl)
   ·try simp only [nm, ne_eq] at h0
    have hend : onceF (f0.length + 1) f0 q0 = q := by rw [← hto]; exact once_no (fun h => by have := h.2.2; omega)
    refine x_exit <| then_x <| then_x <| block_x <| scope_n <| ret_none_n rfl ?_
    rw [hend]
    exact ⟨rfl, A, cap, Aa, ca, hw, ha, hca, hag, hob, hoA, HC⟩
  ·try simp only [nm, ne_eq] at g4
   iterate 5 refine w_no 9 18 true ?_
   refine pF rfl rfl <| en <| x_cond (t := false) rfl (fun h0 => ?_) (fun h0 => ?_)
   · exact absurd h0 (by decide)
   have hend : onceF (f0.length + 1) f0 q0 = q := by rw [← hto]; exact once_no (fun h => by have := h.2.1; simp_all)
   refine x_exit <| then_x <| then_x <| block_x <| scope_n <| ret_none_n rfl ?_
   rw [hend]
   exact ⟨rfl, A, cap, Aa, ca, hw, ha, hca, hag, hob, hoA, HC⟩
 ·try simp only [nm, ne_eq] at g3
  iterate 5 refine w_no 2 11 true ?_
  refine pF rfl rfl <| mB rfl ?_
  iterate 5 refine w_no 9 18 true ?_
  refine pF rfl rfl <| en <| x_cond (t := false) rfl (fun h0 => ?_) (fun h0 => ?_)
  · exact absurd h0 (by decide)
  have hend : onceF (f0.length + 1) f0 q0 = q := by rw [← hto]; exact once_no (fun h => h.1 (by first | assumption | simp_all))
  refine x_exit <| then_x <| then_x <| block_x <| scope_n <| ret_none_n rfl ?_
  rw [hend]
  exact ⟨rfl, A, cap, Aa, ca, hw, ha, hca, hag, hob, hoA, HC⟩

end Go.Proofs.YtlpndcpbnbeohaaDoor.K
