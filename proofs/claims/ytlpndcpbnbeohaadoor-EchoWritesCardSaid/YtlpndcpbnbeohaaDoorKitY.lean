import Derived.Test.YtlpndcpbnbeohaaDoorKitP
import Derived.Test.YtlpndcpbnbeohaaDoorShelf
import Derived.Lib.IndexAny
import Derived.Lib.IndexLaws
import Derived.Lib.LaidTab
import Derived.Lib.Space
import Derived.Test.YtlpndcpbnbeohaaDoorKitS
import Derived.Test.YtlpndcpbnbeohaaDoorTy
import Derived.Lib.FrozenHead2
import Derived.Lib.MinMax
set_option linter.unusedVariables false
set_option linter.unusedSimpArgs false
set_option autoImplicit false
namespace Go.Proofs.YtlpndcpbnbeohaaDoor.K
open Go Go.Proofs Go.RowKit
/-- The first place of a byte, or -1. -/
def idx (s : Bytes) (c : UInt8) : Int := Lib.indexByte s c
theorem IndexByte_spec (s : Bytes) (c : UInt8) (w : World) : CallR Tryd.prog 31 #[S s, .int .u8 (c.toNat : Int)] w fun v w' => v = .int .i64 (idx s c) ∧ Chg [] w w' :=
  CallR.of (Tryd.strings_IndexByte ⟨⟨s⟩⟩ (c.toNat : Int) w) fun e w' ⟨h1, h2⟩ => ⟨_, h1, by simp [idx], .refl' h2⟩
theorem wrap_u8 (x : Int) : IntKind.u8.wrap x = x % 256 := by simp [IntKind.wrap, IntKind.signed, IntKind.bits]
def digB (c : UInt8) : Bool := decide (48 ≤ c.toNat ∧ c.toNat ≤ 57)
def lowB (c : UInt8) : UInt8 := if 65 ≤ c.toNat ∧ c.toNat ≤ 90 then c + 32 else c
/-- How many first bytes are as told. -/
def runN (p : UInt8 → Bool) : Bytes → Nat
  | [] => 0
  | c :: s => if p c = true then runN p s + 1 else 0
theorem drop_byte {t : Bytes} {i : Nat} (h : i < t.length) : t.drop i = byte t i :: t.drop (i + 1) := by
  rw [List.drop_eq_getElem_cons h]; simp [byte, h]
theorem runN_on {p : UInt8 → Bool} {s : Bytes} {n : Nat} (h : n < s.length) (hp : p (byte s n) = true) : runN p (s.drop n) = runN p (s.drop (n + 1)) + 1 := by
  rw [drop_byte h, runN, if_pos hp]
theorem runN_off {p : UInt8 → Bool} {s : Bytes} {n : Nat} (h : n < s.length) (hp : p (byte s n) = false) : runN p (s.drop n) = 0 := by
  rw [drop_byte h, runN, if_neg (by simp [hp])]
theorem runN_le (p : UInt8 → Bool) : ∀ s : Bytes, runN p s ≤ s.length
  | [] => Nat.le_refl _
  | c :: s => by
    have := runN_le p s
    simp only [runN, List.length_cons]; split <;> omega
theorem byte_at {t : Bytes} {i : Nat} {x : UInt8} (h : t[i]? = some x) : x = byte t i := by simp [byte, List.getD_eq_getElem?_getD, h]
theorem idx_le (s : Bytes) (c : UInt8) : idx s c < s.length ∨ idx s c = -1 := by
  by_cases h : 0 ≤ idx s c
  · have h1 := Lib.indexByte_some (l := s) (c := c) (o := (idx s c).toNat) (by show idx s c = _; omega)
    have := (List.getElem?_eq_some_iff.1 h1.1).1
    exact .inl (by omega)
  · have := Lib.indexByte_ge s c
    exact .inr (by unfold idx at *; omega)
theorem HasPrefix_spec (s p : Bytes) (w : World) : CallR Tryd.prog 25 #[S s, S p] w fun v w' => v = .bool (Lib.hasPrefix s p) ∧ Chg [] w w' :=
  CallR.of (Tryd.strings_HasPrefix ⟨⟨s⟩⟩ ⟨⟨p⟩⟩ w) fun e w' ⟨h1, h2⟩ => ⟨_, h1, rfl, .refl' h2⟩
/-- A number's digits, read: none: a byte is no digit, or it is too great. -/
def digV (c : UInt8) : Int := idx [48, 49, 50, 51, 52, 53, 54, 55, 56, 57, 97, 98, 99, 100, 101, 102] (lowB c)
def readN (base : Int) : Int → Bytes → Option Int
  | n, [] => some n
  | n, c :: s => if digV c < 0 ∨ base ≤ digV c ∨ (9223372036854775807 - digV c).tdiv base < n then none else readN base (n * base + digV c) s
theorem digV_lt (c : UInt8) : -1 ≤ digV c ∧ digV c < 16 := by
  have h1 := Lib.indexByte_ge [48, 49, 50, 51, 52, 53, 54, 55, 56, 57, 97, 98, 99, 100, 101, 102] (lowB c)
  have h2 := idx_le [48, 49, 50, 51, 52, 53, 54, 55, 56, 57, 97, 98, 99, 100, 101, 102] (lowB c)
  simp only [List.length_cons, List.length_nil] at h2
  unfold digV
  unfold idx at *
  omega
theorem pre_len {s p : Bytes} (h : Lib.hasPrefix s p = true) : p.length ≤ s.length := by
  rw [← Lib.hasPrefix_of_take, Bool.and_eq_true, decide_eq_true_eq] at h; exact h.1
def constB (s : Bytes) : Int × Bytes :=
  if (Lib.hasPrefix s [48, 120] || Lib.hasPrefix s [48, 88]) = true then (16, s.drop 2)
  else if (Lib.hasPrefix s [48] && decide (1 < s.length)) = true then (8, s.drop 1) else (10, s)
def constV (s : Bytes) : Int × Bool := match readN (constB s).1 0 (constB s).2 with
  | none => (0, false)
  | some n => (n, !decide ((constB s).2 = []))
theorem constV_none {s t : Bytes} {b : Int} (h : constB s = (b, t)) (hr : readN b 0 t = none) : constV s = (0, false) := by simp [constV, h, hr]
theorem constV_some {s t : Bytes} {b n : Int} (h : constB s = (b, t)) (hr : readN b 0 t = some n) : constV s = (n, !decide (t = [])) := by simp [constV, h, hr]
theorem readN_at {b n : Int} {t : Bytes} {i : Nat} (h : i < t.length) (h1 : ¬ (digV (byte t i) < 0 ∨ b ≤ digV (byte t i) ∨ (9223372036854775807 - digV (byte t i)).tdiv b < n)) : readN b n (t.drop i) = readN b (n * b + digV (byte t i)) (t.drop (i + 1)) := by
  rw [drop_byte h, readN, if_neg h1]
theorem readN_no {b n : Int} {t : Bytes} {i : Nat} (h : i < t.length) (h1 : digV (byte t i) < 0 ∨ b ≤ digV (byte t i) ∨ (9223372036854775807 - digV (byte t i)).tdiv b < n) : readN b n (t.drop i) = none := by
  rw [drop_byte h, readN, if_pos h1]
theorem readN_end {b n : Int} {t : Bytes} {i : Nat} (h : ¬ i < t.length) : readN b n (t.drop i) = some n := by
  rw [List.drop_of_length_le (by omega)]; rfl
end Go.Proofs.YtlpndcpbnbeohaaDoor.K
set_option linter.unusedVariables false
set_option linter.unusedSimpArgs false
set_option autoImplicit false
namespace Go.Proofs.YtlpndcpbnbeohaaDoor.K
open Go Go.Proofs Go.RowKit
theorem TrimPrefix_spec (s p : Bytes) (w : World) : CallR Tryd.prog 64 #[S s, S p] w fun v w' => v = S (Lib.trimPrefix s p) ∧ Chg [] w w' :=
  CallR.of (Tryd.strings_TrimPrefix ⟨⟨s⟩⟩ ⟨⟨p⟩⟩ w) fun e w' ⟨h1, h2⟩ => ⟨_, h1, rfl, .refl' h2⟩
end Go.Proofs.YtlpndcpbnbeohaaDoor.K
set_option linter.unusedVariables false
set_option linter.unusedSimpArgs false
set_option autoImplicit false
set_option maxRecDepth 20000
namespace Go.Proofs.YtlpndcpbnbeohaaDoor.K
open Go Go.Proofs Go.RowKit

theorem a_low (c : UInt8) (w : World) : CallR Tryd.prog 76 #[.int .u8 (c.toNat : Int)] w fun v w' => v = .int .u8 ((lowB c).toNat : Int) ∧ Chg [] w w' := by
 refine callR_of_wp (args := [_]) Tryd.func76 rfl (Nat.le_of_ble_eq_true rfl) ?_
 have HC : Chg [] w w := .refl _
 refine sr rfl <| aI rfl <| en <| x_seq <| sr rfl <| mI rfl <| Wp rfl <| st_geq rfl rfl <| mB rfl <| w_split (d := 5) rfl (fun g1 => ?_) (fun g1 => ?_)
 ·try simp only [nm, ne_eq] at g1
  refine w_yes 2 5 true <| st_move (v := .int _ _) rfl <| w_yes 2 5 true <| st_leq rfl rfl <| pT rfl rfl <| en <| x_cond rfl (fun h0 => ?_) (fun h0 => ?_)
  ·try simp only [nm, ne_eq] at h0
   refine sr rfl <| mI rfl <| Wp rfl <| st_sub rfl rfl <| Wp rfl <| st_add rfl rfl <| aI rfl <| en <| x_ret <| then_r <| ret_tmp (v := .int _ _) rfl rfl ?_
   have hc := c.toNat_lt
   refine ⟨congrArg (Value.int .u8) ?_, HC⟩
   rw [lowB, if_pos (by omega), UInt8.toNat_add, wrap_u8, wrap_u8]; show _ = (((c.toNat + 32) % 256 : Nat) : Int); omega
  ·try simp only [nm, ne_eq] at h0
   refine x_skip <| then_n <| sr rfl <| mI rfl <| aI rfl <| en <| x_ret <| ret_tmp (v := .int _ _) rfl rfl ?_
   have hc := c.toNat_lt
   refine ⟨congrArg (Value.int .u8) ?_, HC⟩
   rw [lowB, if_neg (by omega)]
 ·try simp only [nm, ne_eq] at g1
  refine w_no 2 5 true <| w_no 2 5 true <| pF rfl rfl <| en <| x_cond (t := false) rfl (fun h0 => ?_) (fun h0 => ?_)
  · exact absurd h0 (by decide)
  refine x_skip <| then_n <| sr rfl <| mI rfl <| aI rfl <| en <| x_ret <| ret_tmp (v := .int _ _) rfl rfl ?_
  have hc := c.toNat_lt
  refine ⟨congrArg (Value.int .u8) ?_, HC⟩
  rw [lowB, if_neg (by omega)]

theorem Constant_spec (s : Bytes) (w : World) (hs : s.length ≤ 9223372036854775807) : CallR Tryd.prog 66 #[S s] w fun v w' => v = .tuple ⟨[.int .i64 (constV s).1, .bool (constV s).2]⟩ ∧ Chg [] w w' := by
 refine callR_of_wp (args := [_]) Tryd.func66 rfl (Nat.le_of_ble_eq_true rfl) ?_
 have HC : Chg [] w w := .refl _
 refine sr rfl <| aI rfl <| aB rfl <| en <| sr rfl <| mS rfl <| aI rfl <| aS rfl <| en <| x_seq <| x_block <| sr rfl <| mS rfl <| Wp rfl <| st_call (ags := [_, _]) rfl rfl T.ent25 rfl (HasPrefix_spec _ _ _) ?_
 rintro _ w1 ⟨rfl, c2⟩
 replace HC := HC.then c2
 refine mB rfl <| w_split (d := 14) rfl (fun g3 => ?_) (fun g3 => ?_)
 ·try simp only [nm, ne_eq] at g3
  refine w_no 2 14 false <| w_no 2 14 false <| pT rfl rfl <| aB rfl <| en <| x_cond (t := true) rfl (fun h0 => ?_) (fun h0 => ?_)
  rotate_left
  · exact absurd h0 (by decide)
  have hcb : constB s = (16, ((s.take s.length).drop 2)) := by rw [List.take_length]; unfold constB; rw [if_pos (by first | (rw [show Lib.hasPrefix s [48, 120] = true by assumption]; rfl) | (rw [show Lib.hasPrefix s [48, 88] = true by assumption, Bool.or_true]))]
  have hdl : (((s.take s.length).drop 2)).length ≤ 9223372036854775807 := by first | exact hs | (simp; omega)
  refine x_draw [(0, 0), (1, 0), (2, 0), (3, 0)] T.mixed rfl rfl rfl (fun _ => True) trivial ?_
  have c5 := Chg.drew w1
  generalize World.drew w1 = w4 at c5 ⊢
  replace HC := HC.then c5
  refine sq_q rfl (fun W hT => r_move (v := S _) rfl) <| sq_q rfl (fun W hT => r_sslice (i := 2) (j := s.length) T.u9 rfl ⟨_, rfl⟩ (by rfl) (by first | (have := pre_len (s := s) (p := [48, 120]) (by assumption); simp at this; omega) | (have := pre_len (s := s) (p := [48, 88]) (by assumption); simp at this; omega)) (by omega)) <| sq_q rfl (fun W hT => r_assign (v := .int _ _) rfl) <| sq_q rfl (fun W hT => r_assign (v := S _) rfl) <| sq_nil <| block_n <| then_n <| sr rfl <| aI rfl <| en <| x_seq <| sr rfl <| mS rfl <| Wp rfl <| st_strBytes (s := ((s.take s.length).drop 2)) T.u9 T.u38 T.u5 rfl ?_
  intro b6 cp7 w8 ge0_b6 lt_b6 c9 hs10
  replace HC := HC.then c9
  refine Wp rfl <| st_len (ct := #[38]) (by rw [show ((#[38] : Array TypeId)[0]?).bind Tryd.prog.underlying = some (.slice 5) from T.u38]; rfl) rfl <| mI rfl <| en <| x_block <| x_loop (ι := Nat × Int) [2, 3, 6, 8, 9, 33, 34, 35, 36, 37, 38, 39, 40, 41, 42, 43, 44, 45, 46, 47, 48, 49, 50, 51, 52, 53, 54, 55, 56, 57, 58, 59, 60] (fun ⟨i, n⟩ => [(33, .int .i64 (i : Int)), (6, .int .i64 n)]) (fun ⟨i, n⟩ W => (i ≤ (((s.take s.length).drop 2)).length ∧ 0 ≤ n ∧ n ≤ 9223372036854775807 ∧ readN 16 n ((((s.take s.length).drop 2)).drop i) = readN 16 0 (((s.take s.length).drop 2))) ∧ (Chg [] w W) ∧ (Sl uE W (fun k => k = b6) (some ⟨b6, 0, none⟩) ((s.take s.length).drop 2))) (fun ⟨i, n⟩ => (((s.take s.length).drop 2)).length - i) (0, 0) ?_ ?_ ?_
  · exact ⟨rfl, rfl, trivial⟩
  ·refine ⟨?_, HC, hs10⟩
   exact ⟨Nat.zero_le _, by omega, by omega, rfl⟩
  intro ⟨i, n⟩ G12 w11 ⟨⟨hi, hn0, hn1, hr⟩, HC, hs10⟩
  change wp _ _ _ _ _ (upds (over _ _ G12) [(33, .int .i64 (i : Int)), (6, .int .i64 n)]) _ _
  refine sr rfl <| Wp rfl <| st_lss rfl rfl <| en <| x_seq <| x_cond rfl (fun h2 => ?_) (fun h2 => ?_)
  ·try simp only [nm, ne_eq] at h2
   refine x_skip <| then_n <| x_seq <| x_block <| sr rfl ?_
   obtain ⟨x13, hx14⟩ : ∃ zz, ((s.take s.length).drop 2)[i]? = some zz := ⟨_, List.getElem?_eq_getElem (by omega)⟩
   obtain ⟨lb19, _, vs18, hA15, hR17, hC16⟩ := hs10.at hx14
   obtain rfl : vs18 = [.int .u8 (x13.toNat : Int)] := hR17
   refine Wp rfl <| st_indexAddr T.u38 T.size5 (congrArg (fun z => Value.slice z _ _) hA15) rfl (by omega) (by omega) <| lI T.one5 rfl (hC16.at (j := 0) rfl) <| aI rfl <| en <| x_seq ?_
   obtain rfl : x13 = byte (((s.take s.length).drop 2)) i := byte_at hx14
   have hdv := digV_lt (byte (((s.take s.length).drop 2)) i)
   have hde : digV (byte (((s.take s.length).drop 2)) i) = idx [48, 49, 50, 51, 52, 53, 54, 55, 56, 57, 97, 98, 99, 100, 101, 102] (lowB (byte (((s.take s.length).drop 2)) i)) := rfl
   refine x_region rfl <| mI rfl <| Wp rfl <| st_call (ags := [_]) rfl rfl T.ent76 rfl (a_low _ _) ?_
   rintro _ w20 ⟨rfl, c21⟩
   replace HC := HC.then c21
   replace hs10 := hs10.tr0 c21
   refine Wp rfl <| st_call (ags := [_, _]) rfl rfl T.ent31 rfl (IndexByte_spec _ _ _) ?_
   rintro _ w22 ⟨rfl, c23⟩
   replace HC := HC.then c23
   replace hs10 := hs10.tr0 c23
   refine aI rfl <| en <| x_seq <| sr rfl <| mI rfl <| Wp rfl <| st_lss rfl rfl <| mB rfl <| w_split (d := 42) rfl (fun g24 => ?_) (fun g24 => ?_)
   ·try simp only [nm, ne_eq] at g24
    iterate 3 refine w_no 2 42 false ?_
    refine pT rfl rfl <| mB rfl ?_
    iterate 6 refine w_no 7 47 false ?_
    refine pT rfl rfl <| en <| x_cond (t := true) rfl (fun h3 => ?_) (fun h3 => ?_)
    rotate_left
    · exact absurd h3 (by decide)
    refine sr rfl <| aI rfl <| aB rfl <| en <| x_ret <| then_r <| block_r <| then_r <| then_r <| block_r <| then_r <| ret_tmp2 (v := .int _ _) (v2 := .bool _) rfl rfl rfl <| ⟨?_, HC⟩
    rw [constV_none hcb (by rw [← hr]; exact readN_no (by omega) (by first | exact .inl (by assumption) | exact .inr (.inl (by omega)) | exact .inr (.inr (by omega))))]
   ·try simp only [nm, ne_eq] at g24
    refine w_yes 2 42 false <| st_move (v := .int _ _) rfl <| w_yes 2 42 false <| st_move (v := .int _ _) rfl <| w_yes 2 42 false <| st_geq rfl rfl <| pF rfl rfl <| mB rfl <| w_split (d := 47) rfl (fun g25 => ?_) (fun g25 => ?_)
    ·try simp only [nm, ne_eq] at g25
     iterate 6 refine w_no 7 47 false ?_
     refine pT rfl rfl <| en <| x_cond (t := true) rfl (fun h3 => ?_) (fun h3 => ?_)
     rotate_left
     · exact absurd h3 (by decide)
     refine sr rfl <| aI rfl <| aB rfl <| en <| x_ret <| then_r <| block_r <| then_r <| then_r <| block_r <| then_r <| ret_tmp2 (v := .int _ _) (v2 := .bool _) rfl rfl rfl <| ⟨?_, HC⟩
     rw [constV_none hcb (by rw [← hr]; exact readN_no (by omega) (by first | exact .inl (by assumption) | exact .inr (.inl (by omega)) | exact .inr (.inr (by omega))))]
    ·try simp only [nm, ne_eq] at g25
     have htd : (9223372036854775807 - digV (byte (((s.take s.length).drop 2)) i)).tdiv 16 = (9223372036854775807 - digV (byte (((s.take s.length).drop 2)) i)) / 16 := Int.tdiv_eq_ediv_of_nonneg (by omega)
     have hwr : IntKind.i64.wrap ((9223372036854775807 - idx [48, 49, 50, 51, 52, 53, 54, 55, 56, 57, 97, 98, 99, 100, 101, 102] (lowB (byte (((s.take s.length).drop 2)) i))).tdiv 16) = (9223372036854775807 - digV (byte (((s.take s.length).drop 2)) i)) / 16 := by rw [← hde, htd]; exact wrap64_id (by omega) (by omega)
     refine w_yes 7 47 false <| st_move (v := .int _ _) rfl <| w_yes 7 47 false <| st_move (v := .int _ _) rfl <| w_yes 7 47 false <| st_subn rfl rfl (by constructor <;> omega) <| w_yes 7 47 false <| st_move (v := .int _ _) rfl <| w_yes 7 47 false <| st_quo rfl rfl (by decide) <| w_yes 7 47 false <| st_gtr rfl rfl <| pF rfl rfl <| en <| x_cond rfl (fun h3 => ?_) (fun h3 => ?_)
     ·try simp only [nm, ne_eq] at h3
      refine sr rfl <| aI rfl <| aB rfl <| en <| x_ret <| then_r <| block_r <| then_r <| then_r <| block_r <| then_r <| ret_tmp2 (v := .int _ _) (v2 := .bool _) rfl rfl rfl <| ⟨?_, HC⟩
      rw [constV_none hcb (by rw [← hr]; exact readN_no (by omega) (by first | exact .inl (by assumption) | exact .inr (.inl (by omega)) | exact .inr (.inr (by omega))))]
     ·try simp only [nm, ne_eq] at h3
      refine x_skip <| then_n <| x_region rfl <| mI rfl <| mI rfl <| Wp rfl <| st_muln rfl rfl (by constructor <;> omega) <| mI rfl <| Wp rfl <| st_addn rfl rfl (by constructor <;> omega) <| aI rfl <| wops_nil <| block_n <| then_n <| x_region rfl <| Wp rfl <| st_addn rfl rfl (by constructor <;> omega) <| mI rfl <| en <| ⟨(i + 1, n * 16 + digV (byte (((s.take s.length).drop 2)) i)), ?_, ?_, rfl, ⟨rfl, rfl, trivial⟩, ?_⟩
      ·refine ⟨?_, HC, hs10⟩
       exact ⟨by omega, by omega, by omega, by rw [← hr]; exact (readN_at (by omega) (by rintro (h | h | h) <;> omega)).symm⟩
      ·show (((s.take s.length).drop 2)).length - (i + 1) < (((s.take s.length).drop 2)).length - i; omega
      repeat (first | exact agree_upds agree_over rfl | refine agree_upd ?_ rfl | refine agree_upds ?_ rfl | refine agree_over_sub ?_ rfl)
  ·try simp only [nm, ne_eq] at h2
   refine x_exit <| then_x <| then_x <| block_x <| then_n <| sr rfl <| mI rfl <| mS rfl <| Wp rfl <| st_sneq rfl rfl <| aI rfl <| aB rfl <| en <| x_ret <| ret_tmp2 (v := .int _ _) (v2 := .bool _) rfl rfl rfl <| ⟨?_, HC⟩
   rw [constV_some hcb (hr.symm.trans (readN_end (by omega)))]
 ·try simp only [nm, ne_eq] at g3
  refine w_yes 2 14 false <| st_move (v := S _) rfl <| w_yes 2 14 false <| st_call (ags := [_, _]) rfl rfl T.ent25 rfl (HasPrefix_spec _ _ _) ?_
  rintro _ w26 ⟨rfl, c27⟩
  replace HC := HC.then c27
  refine pF rfl rfl <| aB rfl <| en <| x_cond rfl (fun h0 => ?_) (fun h0 => ?_)
  ·try simp only [nm, ne_eq] at h0
   have hcb : constB s = (16, ((s.take s.length).drop 2)) := by rw [List.take_length]; unfold constB; rw [if_pos (by first | (rw [show Lib.hasPrefix s [48, 120] = true by assumption]; rfl) | (rw [show Lib.hasPrefix s [48, 88] = true by assumption, Bool.or_true]))]
   have hdl : (((s.take s.length).drop 2)).length ≤ 9223372036854775807 := by first | exact hs | (simp; omega)
   refine x_draw [(0, 0), (1, 0), (2, 0), (3, 0)] T.mixed rfl rfl rfl (fun _ => True) trivial ?_
   have c29 := Chg.drew w26
   generalize World.drew w26 = w28 at c29 ⊢
   replace HC := HC.then c29
   refine sq_q rfl (fun W hT => r_move (v := S _) rfl) <| sq_q rfl (fun W hT => r_sslice (i := 2) (j := s.length) T.u9 rfl ⟨_, rfl⟩ (by rfl) (by first | (have := pre_len (s := s) (p := [48, 120]) (by assumption); simp at this; omega) | (have := pre_len (s := s) (p := [48, 88]) (by assumption); simp at this; omega)) (by omega)) <| sq_q rfl (fun W hT => r_assign (v := .int _ _) rfl) <| sq_q rfl (fun W hT => r_assign (v := S _) rfl) <| sq_nil <| block_n <| then_n <| sr rfl <| aI rfl <| en <| x_seq <| sr rfl <| mS rfl <| Wp rfl <| st_strBytes (s := ((s.take s.length).drop 2)) T.u9 T.u38 T.u5 rfl ?_
   intro b30 cp31 w32 ge0_b30 lt_b30 c33 hs34
   replace HC := HC.then c33
   refine Wp rfl <| st_len (ct := #[38]) (by rw [show ((#[38] : Array TypeId)[0]?).bind Tryd.prog.underlying = some (.slice 5) from T.u38]; rfl) rfl <| mI rfl <| en <| x_block <| x_loop (ι := Nat × Int) [2, 3, 6, 8, 9, 33, 34, 35, 36, 37, 38, 39, 40, 41, 42, 43, 44, 45, 46, 47, 48, 49, 50, 51, 52, 53, 54, 55, 56, 57, 58, 59, 60] (fun ⟨i, n⟩ => [(33, .int .i64 (i : Int)), (6, .int .i64 n)]) (fun ⟨i, n⟩ W => (i ≤ (((s.take s.length).drop 2)).length ∧ 0 ≤ n ∧ n ≤ 9223372036854775807 ∧ readN 16 n ((((s.take s.length).drop 2)).drop i) = readN 16 0 (((s.take s.length).drop 2))) ∧ (Chg [] w W) ∧ (Sl uE W (fun k => k = b30) (some ⟨b30, 0, none⟩) ((s.take s.length).drop 2))) (fun ⟨i, n⟩ => (((s.take s.length).drop 2)).length - i) (0, 0) ?_ ?_ ?_
   · exact ⟨rfl, rfl, trivial⟩
   ·refine ⟨?_, HC, hs34⟩
    exact ⟨Nat.zero_le _, by omega, by omega, rfl⟩
   intro ⟨i, n⟩ G36 w35 ⟨⟨hi, hn0, hn1, hr⟩, HC, hs34⟩
   change wp _ _ _ _ _ (upds (over _ _ G36) [(33, .int .i64 (i : Int)), (6, .int .i64 n)]) _ _
   refine sr rfl <| Wp rfl <| st_lss rfl rfl <| en <| x_seq <| x_cond rfl (fun h2 => ?_) (fun h2 => ?_)
   ·try simp only [nm, ne_eq] at h2
    refine x_skip <| then_n <| x_seq <| x_block <| sr rfl ?_
    obtain ⟨x37, hx38⟩ : ∃ zz, ((s.take s.length).drop 2)[i]? = some zz := ⟨_, List.getElem?_eq_getElem (by omega)⟩
    obtain ⟨lb43, _, vs42, hA39, hR41, hC40⟩ := hs34.at hx38
    obtain rfl : vs42 = [.int .u8 (x37.toNat : Int)] := hR41
    refine Wp rfl <| st_indexAddr T.u38 T.size5 (congrArg (fun z => Value.slice z _ _) hA39) rfl (by omega) (by omega) <| lI T.one5 rfl (hC40.at (j := 0) rfl) <| aI rfl <| en <| x_seq ?_
    obtain rfl : x37 = byte (((s.take s.length).drop 2)) i := byte_at hx38
    have hdv := digV_lt (byte (((s.take s.length).drop 2)) i)
    have hde : digV (byte (((s.take s.length).drop 2)) i) = idx [48, 49, 50, 51, 52, 53, 54, 55, 56, 57, 97, 98, 99, 100, 101, 102] (lowB (byte (((s.take s.length).drop 2)) i)) := rfl
    refine x_region rfl <| mI rfl <| Wp rfl <| st_call (ags := [_]) rfl rfl T.ent76 rfl (a_low _ _) ?_
    rintro _ w44 ⟨rfl, c45⟩
    replace HC := HC.then c45
    replace hs34 := hs34.tr0 c45
    refine Wp rfl <| st_call (ags := [_, _]) rfl rfl T.ent31 rfl (IndexByte_spec _ _ _) ?_
    rintro _ w46 ⟨rfl, c47⟩
    replace HC := HC.then c47
    replace hs34 := hs34.tr0 c47
    refine aI rfl <| en <| x_seq <| sr rfl <| mI rfl <| Wp rfl <| st_lss rfl rfl <| mB rfl <| w_split (d := 42) rfl (fun g48 => ?_) (fun g48 => ?_)
    ·try simp only [nm, ne_eq] at g48
     iterate 3 refine w_no 2 42 false ?_
     refine pT rfl rfl <| mB rfl ?_
     iterate 6 refine w_no 7 47 false ?_
     refine pT rfl rfl <| en <| x_cond (t := true) rfl (fun h3 => ?_) (fun h3 => ?_)
     rotate_left
     · exact absurd h3 (by decide)
     refine sr rfl <| aI rfl <| aB rfl <| en <| x_ret <| then_r <| block_r <| then_r <| then_r <| block_r <| then_r <| ret_tmp2 (v := .int _ _) (v2 := .bool _) rfl rfl rfl <| ⟨?_, HC⟩
     rw [constV_none hcb (by rw [← hr]; exact readN_no (by omega) (by first | exact .inl (by assumption) | exact .inr (.inl (by omega)) | exact .inr (.inr (by omega))))]
    ·try simp only [nm, ne_eq] at g48
     refine w_yes 2 42 false <| st_move (v := .int _ _) rfl <| w_yes 2 42 false <| st_move (v := .int _ _) rfl <| w_yes 2 42 false <| st_geq rfl rfl <| pF rfl rfl <| mB rfl <| w_split (d := 47) rfl (fun g49 => ?_) (fun g49 => ?_)
     ·try simp only [nm, ne_eq] at g49
      iterate 6 refine w_no 7 47 false ?_
      refine pT rfl rfl <| en <| x_cond (t := true) rfl (fun h3 => ?_) (fun h3 => ?_)
      rotate_left
      · exact absurd h3 (by decide)
      refine sr rfl <| aI rfl <| aB rfl <| en <| x_ret <| then_r <| block_r <| then_r <| then_r <| block_r <| then_r <| ret_tmp2 (v := .int _ _) (v2 := .bool _) rfl rfl rfl <| ⟨?_, HC⟩
      rw [constV_none hcb (by rw [← hr]; exact readN_no (by omega) (by first | exact .inl (by assumption) | exact .inr (.inl (by omega)) | exact .inr (.inr (by omega))))]
     ·try simp only [nm, ne_eq] at g49
      have htd : (9223372036854775807 - digV (byte (((s.take s.length).drop 2)) i)).tdiv 16 = (9223372036854775807 - digV (byte (((s.take s.length).drop 2)) i)) / 16 := Int.tdiv_eq_ediv_of_nonneg (by omega)
      have hwr : IntKind.i64.wrap ((9223372036854775807 - idx [48, 49, 50, 51, 52, 53, 54, 55, 56, 57, 97, 98, 99, 100, 101, 102] (lowB (byte (((s.take s.length).drop 2)) i))).tdiv 16) = (9223372036854775807 - digV (byte (((s.take s.length).drop 2)) i)) / 16 := by rw [← hde, htd]; exact wrap64_id (by omega) (by omega)
      refine w_yes 7 47 false <| st_move (v := .int _ _) rfl <| w_yes 7 47 false <| st_move (v := .int _ _) rfl <| w_yes 7 47 false <| st_subn rfl rfl (by constructor <;> omega) <| w_yes 7 47 false <| st_move (v := .int _ _) rfl <| w_yes 7 47 false <| st_quo rfl rfl (by decide) <| w_yes 7 47 false <| st_gtr rfl rfl <| pF rfl rfl <| en <| x_cond rfl (fun h3 => ?_) (fun h3 => ?_)
      ·try simp only [nm, ne_eq] at h3
       refine sr rfl <| aI rfl <| aB rfl <| en <| x_ret <| then_r <| block_r <| then_r <| then_r <| block_r <| then_r <| ret_tmp2 (v := .int _ _) (v2 := .bool _) rfl rfl rfl <| ⟨?_, HC⟩
       rw [constV_none hcb (by rw [← hr]; exact readN_no (by omega) (by first | exact .inl (by assumption) | exact .inr (.inl (by omega)) | exact .inr (.inr (by omega))))]
      ·try simp only [nm, ne_eq] at h3
       refine x_skip <| then_n <| x_region rfl <| mI rfl <| mI rfl <| Wp rfl <| st_muln rfl rfl (by constructor <;> omega) <| mI rfl <| Wp rfl <| st_addn rfl rfl (by constructor <;> omega) <| aI rfl <| wops_nil <| block_n <| then_n <| x_region rfl <| Wp rfl <| st_addn rfl rfl (by constructor <;> omega) <| mI rfl <| en <| ⟨(i + 1, n * 16 + digV (byte (((s.take s.length).drop 2)) i)), ?_, ?_, rfl, ⟨rfl, rfl, trivial⟩, ?_⟩
       ·refine ⟨?_, HC, hs34⟩
        exact ⟨by omega, by omega, by omega, by rw [← hr]; exact (readN_at (by omega) (by rintro (h | h | h) <;> omega)).symm⟩
       ·show (((s.take s.length).drop 2)).length - (i + 1) < (((s.take s.length).drop 2)).length - i; omega
       repeat (first | exact agree_upds agree_over rfl | refine agree_upd ?_ rfl | refine agree_upds ?_ rfl | refine agree_over_sub ?_ rfl)
   ·try simp only [nm, ne_eq] at h2
    refine x_exit <| then_x <| then_x <| block_x <| then_n <| sr rfl <| mI rfl <| mS rfl <| Wp rfl <| st_sneq rfl rfl <| aI rfl <| aB rfl <| en <| x_ret <| ret_tmp2 (v := .int _ _) (v2 := .bool _) rfl rfl rfl <| ⟨?_, HC⟩
    rw [constV_some hcb (hr.symm.trans (readN_end (by omega)))]
  ·try simp only [nm, ne_eq] at h0
   refine sr rfl <| mS rfl <| Wp rfl <| st_call (ags := [_, _]) rfl rfl T.ent25 rfl (HasPrefix_spec _ _ _) ?_
   rintro _ w50 ⟨rfl, c51⟩
   replace HC := HC.then c51
   refine mB rfl <| w_split (d := 23) rfl (fun g52 => ?_) (fun g52 => ?_)
   ·try simp only [nm, ne_eq] at g52
    refine w_yes 2 23 true <| st_move (v := S _) rfl <| w_yes 2 23 true <| st_slen (ct := #[9]) T.u9 rfl <| w_yes 2 23 true <| st_gtr rfl rfl <| pT rfl rfl <| aB rfl <| en <| x_cond rfl (fun h1 => ?_) (fun h1 => ?_)
    ·try simp only [nm, ne_eq] at h1
     have hcb : constB s = (8, ((s.take s.length).drop 1)) := by rw [List.take_length]; unfold constB; rw [if_neg (by rw [show Lib.hasPrefix s [48, 120] = false by assumption, show Lib.hasPrefix s [48, 88] = false by assumption]; simp), if_pos (by rw [show Lib.hasPrefix s [48] = true by assumption]; simp; omega)]
     have hdl : (((s.take s.length).drop 1)).length ≤ 9223372036854775807 := by first | exact hs | (simp; omega)
     refine x_draw [(0, 0), (1, 0), (2, 0), (3, 0)] T.mixed rfl rfl rfl (fun _ => True) trivial ?_
     have c54 := Chg.drew w50
     generalize World.drew w50 = w53 at c54 ⊢
     replace HC := HC.then c54
     refine sq_q rfl (fun W hT => r_move (v := S _) rfl) <| sq_q rfl (fun W hT => r_sslice (i := 1) (j := s.length) T.u9 rfl ⟨_, rfl⟩ (by rfl) (by omega) (by omega)) <| sq_q rfl (fun W hT => r_assign (v := .int _ _) rfl) <| sq_q rfl (fun W hT => r_assign (v := S _) rfl) <| sq_nil <| block_n <| then_n <| sr rfl <| aI rfl <| en <| x_seq <| sr rfl <| mS rfl <| Wp rfl <| st_strBytes (s := ((s.take s.length).drop 1)) T.u9 T.u38 T.u5 rfl ?_
     intro b55 cp56 w57 ge0_b55 lt_b55 c58 hs59
     replace HC := HC.then c58
     refine Wp rfl <| st_len (ct := #[38]) (by rw [show ((#[38] : Array TypeId)[0]?).bind Tryd.prog.underlying = some (.slice 5) from T.u38]; rfl) rfl <| mI rfl <| en <| x_block <| x_loop (ι := Nat × Int) [2, 3, 6, 8, 9, 33, 34, 35, 36, 37, 38, 39, 40, 41, 42, 43, 44, 45, 46, 47, 48, 49, 50, 51, 52, 53, 54, 55, 56, 57, 58, 59, 60] (fun ⟨i, n⟩ => [(33, .int .i64 (i : Int)), (6, .int .i64 n)]) (fun ⟨i, n⟩ W => (i ≤ (((s.take s.length).drop 1)).length ∧ 0 ≤ n ∧ n ≤ 9223372036854775807 ∧ readN 8 n ((((s.take s.length).drop 1)).drop i) = readN 8 0 (((s.take s.length).drop 1))) ∧ (Chg [] w W) ∧ (Sl uE W (fun k => k = b55) (some ⟨b55, 0, none⟩) ((s.take s.length).drop 1))) (fun ⟨i, n⟩ => (((s.take s.length).drop 1)).length - i) (0, 0) ?_ ?_ ?_
     · exact ⟨rfl, rfl, trivial⟩
     ·refine ⟨?_, HC, hs59⟩
      exact ⟨Nat.zero_le _, by omega, by omega, rfl⟩
     intro ⟨i, n⟩ G61 w60 ⟨⟨hi, hn0, hn1, hr⟩, HC, hs59⟩
     change wp _ _ _ _ _ (upds (over _ _ G61) [(33, .int .i64 (i : Int)), (6, .int .i64 n)]) _ _
     refine sr rfl <| Wp rfl <| st_lss rfl rfl <| en <| x_seq <| x_cond rfl (fun h2 => ?_) (fun h2 => ?_)
     ·try simp only [nm, ne_eq] at h2
      refine x_skip <| then_n <| x_seq <| x_block <| sr rfl ?_
      obtain ⟨x62, hx63⟩ : ∃ zz, ((s.take s.length).drop 1)[i]? = some zz := ⟨_, List.getElem?_eq_getElem (by omega)⟩
      obtain ⟨lb68, _, vs67, hA64, hR66, hC65⟩ := hs59.at hx63
      obtain rfl : vs67 = [.int .u8 (x62.toNat : Int)] := hR66
      refine Wp rfl <| st_indexAddr T.u38 T.size5 (congrArg (fun z => Value.slice z _ _) hA64) rfl (by omega) (by omega) <| lI T.one5 rfl (hC65.at (j := 0) rfl) <| aI rfl <| en <| x_seq ?_
      obtain rfl : x62 = byte (((s.take s.length).drop 1)) i := byte_at hx63
      have hdv := digV_lt (byte (((s.take s.length).drop 1)) i)
      have hde : digV (byte (((s.take s.length).drop 1)) i) = idx [48, 49, 50, 51, 52, 53, 54, 55, 56, 57, 97, 98, 99, 100, 101, 102] (lowB (byte (((s.take s.length).drop 1)) i)) := rfl
      refine x_region rfl <| mI rfl <| Wp rfl <| st_call (ags := [_]) rfl rfl T.ent76 rfl (a_low _ _) ?_
      rintro _ w69 ⟨rfl, c70⟩
      replace HC := HC.then c70
      replace hs59 := hs59.tr0 c70
      refine Wp rfl <| st_call (ags := [_, _]) rfl rfl T.ent31 rfl (IndexByte_spec _ _ _) ?_
      rintro _ w71 ⟨rfl, c72⟩
      replace HC := HC.then c72
      replace hs59 := hs59.tr0 c72
      refine aI rfl <| en <| x_seq <| sr rfl <| mI rfl <| Wp rfl <| st_lss rfl rfl <| mB rfl <| w_split (d := 42) rfl (fun g73 => ?_) (fun g73 => ?_)
      ·try simp only [nm, ne_eq] at g73
       iterate 3 refine w_no 2 42 false ?_
       refine pT rfl rfl <| mB rfl ?_
       iterate 6 refine w_no 7 47 false ?_
       refine pT rfl rfl <| en <| x_cond (t := true) rfl (fun h3 => ?_) (fun h3 => ?_)
       rotate_left
       · exact absurd h3 (by decide)
       refine sr rfl <| aI rfl <| aB rfl <| en <| x_ret <| then_r <| block_r <| then_r <| then_r <| block_r <| then_r <| ret_tmp2 (v := .int _ _) (v2 := .bool _) rfl rfl rfl <| ⟨?_, HC⟩
       rw [constV_none hcb (by rw [← hr]; exact readN_no (by omega) (by first | exact .inl (by assumption) | exact .inr (.inl (by omega)) | exact .inr (.inr (by omega))))]
      ·try simp only [nm, ne_eq] at g73
       refine w_yes 2 42 false <| st_move (v := .int _ _) rfl <| w_yes 2 42 false <| st_move (v := .int _ _) rfl <| w_yes 2 42 false <| st_geq rfl rfl <| pF rfl rfl <| mB rfl <| w_split (d := 47) rfl (fun g74 => ?_) (fun g74 => ?_)
       ·try simp only [nm, ne_eq] at g74
        iterate 6 refine w_no 7 47 false ?_
        refine pT rfl rfl <| en <| x_cond (t := true) rfl (fun h3 => ?_) (fun h3 => ?_)
        rotate_left
        · exact absurd h3 (by decide)
        refine sr rfl <| aI rfl <| aB rfl <| en <| x_ret <| then_r <| block_r <| then_r <| then_r <| block_r <| then_r <| ret_tmp2 (v := .int _ _) (v2 := .bool _) rfl rfl rfl <| ⟨?_, HC⟩
        rw [constV_none hcb (by rw [← hr]; exact readN_no (by omega) (by first | exact .inl (by assumption) | exact .inr (.inl (by omega)) | exact .inr (.inr (by omega))))]
       ·try simp only [nm, ne_eq] at g74
        have htd : (9223372036854775807 - digV (byte (((s.take s.length).drop 1)) i)).tdiv 8 = (9223372036854775807 - digV (byte (((s.take s.length).drop 1)) i)) / 8 := Int.tdiv_eq_ediv_of_nonneg (by omega)
        have hwr : IntKind.i64.wrap ((9223372036854775807 - idx [48, 49, 50, 51, 52, 53, 54, 55, 56, 57, 97, 98, 99, 100, 101, 102] (lowB (byte (((s.take s.length).drop 1)) i))).tdiv 8) = (9223372036854775807 - digV (byte (((s.take s.length).drop 1)) i)) / 8 := by rw [← hde, htd]; exact wrap64_id (by omega) (by omega)
        refine w_yes 7 47 false <| st_move (v := .int _ _) rfl <| w_yes 7 47 false <| st_move (v := .int _ _) rfl <| w_yes 7 47 false <| st_subn rfl rfl (by constructor <;> omega) <| w_yes 7 47 false <| st_move (v := .int _ _) rfl <| w_yes 7 47 false <| st_quo rfl rfl (by decide) <| w_yes 7 47 false <| st_gtr rfl rfl <| pF rfl rfl <| en <| x_cond rfl (fun h3 => ?_) (fun h3 => ?_)
        ·try simp only [nm, ne_eq] at h3
         refine sr rfl <| aI rfl <| aB rfl <| en <| x_ret <| then_r <| block_r <| then_r <| then_r <| block_r <| then_r <| ret_tmp2 (v := .int _ _) (v2 := .bool _) rfl rfl rfl <| ⟨?_, HC⟩
         rw [constV_none hcb (by rw [← hr]; exact readN_no (by omega) (by first | exact .inl (by assumption) | exact .inr (.inl (by omega)) | exact .inr (.inr (by omega))))]
        ·try simp only [nm, ne_eq] at h3
         refine x_skip <| then_n <| x_region rfl <| mI rfl <| mI rfl <| Wp rfl <| st_muln rfl rfl (by constructor <;> omega) <| mI rfl <| Wp rfl <| st_addn rfl rfl (by constructor <;> omega) <| aI rfl <| wops_nil <| block_n <| then_n <| x_region rfl <| Wp rfl <| st_addn rfl rfl (by constructor <;> omega) <| mI rfl <| en <| ⟨(i + 1, n * 8 + digV (byte (((s.take s.length).drop 1)) i)), ?_, ?_, rfl, ⟨rfl, rfl, trivial⟩, ?_⟩
         ·refine ⟨?_, HC, hs59⟩
          exact ⟨by omega, by omega, by omega, by rw [← hr]; exact (readN_at (by omega) (by rintro (h | h | h) <;> omega)).symm⟩
         ·show (((s.take s.length).drop 1)).length - (i + 1) < (((s.take s.length).drop 1)).length - i; omega
         repeat (first | exact agree_upds agree_over rfl | refine agree_upd ?_ rfl | refine agree_upds ?_ rfl | refine agree_over_sub ?_ rfl)
     ·try simp only [nm, ne_eq] at h2
      refine x_exit <| then_x <| then_x <| block_x <| then_n <| sr rfl <| mI rfl <| mS rfl <| Wp rfl <| st_sneq rfl rfl <| aI rfl <| aB rfl <| en <| x_ret <| ret_tmp2 (v := .int _ _) (v2 := .bool _) rfl rfl rfl <| ⟨?_, HC⟩
      rw [constV_some hcb (hr.symm.trans (readN_end (by omega)))]
    ·try simp only [nm, ne_eq] at h1
     have hcb : constB s = (10, s) := by unfold constB; rw [if_neg (by rw [show Lib.hasPrefix s [48, 120] = false by assumption, show Lib.hasPrefix s [48, 88] = false by assumption]; simp), if_neg (by rw [Bool.and_eq_true, decide_eq_true_eq]; rintro ⟨ha, hb⟩; first | (rw [show Lib.hasPrefix s [48] = false by assumption] at ha; cases ha) | omega)]
     have hdl : (s).length ≤ 9223372036854775807 := by first | exact hs | (simp; omega)
     refine x_skip <| block_n <| then_n <| sr rfl <| aI rfl <| en <| x_seq <| sr rfl <| mS rfl <| Wp rfl <| st_strBytes (s := s) T.u9 T.u38 T.u5 rfl ?_
     intro b75 cp76 w77 ge0_b75 lt_b75 c78 hs79
     replace HC := HC.then c78
     refine Wp rfl <| st_len (ct := #[38]) (by rw [show ((#[38] : Array TypeId)[0]?).bind Tryd.prog.underlying = some (.slice 5) from T.u38]; rfl) rfl <| mI rfl <| en <| x_block <| x_loop (ι := Nat × Int) [2, 3, 6, 8, 9, 33, 34, 35, 36, 37, 38, 39, 40, 41, 42, 43, 44, 45, 46, 47, 48, 49, 50, 51, 52, 53, 54, 55, 56, 57, 58, 59, 60] (fun ⟨i, n⟩ => [(33, .int .i64 (i : Int)), (6, .int .i64 n)]) (fun ⟨i, n⟩ W => (i ≤ (s).length ∧ 0 ≤ n ∧ n ≤ 9223372036854775807 ∧ readN 10 n ((s).drop i) = readN 10 0 (s)) ∧ (Chg [] w W) ∧ (Sl uE W (fun k => k = b75) (some ⟨b75, 0, none⟩) s)) (fun ⟨i, n⟩ => (s).length - i) (0, 0) ?_ ?_ ?_
     · exact ⟨rfl, rfl, trivial⟩
     ·refine ⟨?_, HC, hs79⟩
      exact ⟨Nat.zero_le _, by omega, by omega, rfl⟩
     intro ⟨i, n⟩ G81 w80 ⟨⟨hi, hn0, hn1, hr⟩, HC, hs79⟩
     change wp _ _ _ _ _ (upds (over _ _ G81) [(33, .int .i64 (i : Int)), (6, .int .i64 n)]) _ _
     refine sr rfl <| Wp rfl <| st_lss rfl rfl <| en <| x_seq <| x_cond rfl (fun h2 => ?_) (fun h2 => ?_)
     ·try simp only [nm, ne_eq] at h2
      refine x_skip <| then_n <| x_seq <| x_block <| sr rfl ?_
      obtain ⟨x82, hx83⟩ : ∃ zz, s[i]? = some zz := ⟨_, List.getElem?_eq_getElem (by omega)⟩
      obtain ⟨lb88, _, vs87, hA84, hR86, hC85⟩ := hs79.at hx83
      obtain rfl : vs87 = [.int .u8 (x82.toNat : Int)] := hR86
      refine Wp rfl <| st_indexAddr T.u38 T.size5 (congrArg (fun z => Value.slice z _ _) hA84) rfl (by omega) (by omega) <| lI T.one5 rfl (hC85.at (j := 0) rfl) <| aI rfl <| en <| x_seq ?_
      obtain rfl : x82 = byte (s) i := byte_at hx83
      have hdv := digV_lt (byte (s) i)
      have hde : digV (byte (s) i) = idx [48, 49, 50, 51, 52, 53, 54, 55, 56, 57, 97, 98, 99, 100, 101, 102] (lowB (byte (s) i)) := rfl
      refine x_region rfl <| mI rfl <| Wp rfl <| st_call (ags := [_]) rfl rfl T.ent76 rfl (a_low _ _) ?_
      rintro _ w89 ⟨rfl, c90⟩
      replace HC := HC.then c90
      replace hs79 := hs79.tr0 c90
      refine Wp rfl <| st_call (ags := [_, _]) rfl rfl T.ent31 rfl (IndexByte_spec _ _ _) ?_
      rintro _ w91 ⟨rfl, c92⟩
      replace HC := HC.then c92
      replace hs79 := hs79.tr0 c92
      refine aI rfl <| en <| x_seq <| sr rfl <| mI rfl <| Wp rfl <| st_lss rfl rfl <| mB rfl <| w_split (d := 42) rfl (fun g93 => ?_) (fun g93 => ?_)
      ·try simp only [nm, ne_eq] at g93
       iterate 3 refine w_no 2 42 false ?_
       refine pT rfl rfl <| mB rfl ?_
       iterate 6 refine w_no 7 47 false ?_
       refine pT rfl rfl <| en <| x_cond (t := true) rfl (fun h3 => ?_) (fun h3 => ?_)
       rotate_left
       · exact absurd h3 (by decide)
       refine sr rfl <| aI rfl <| aB rfl <| en <| x_ret <| then_r <| block_r <| then_r <| then_r <| block_r <| then_r <| ret_tmp2 (v := .int _ _) (v2 := .bool _) rfl rfl rfl <| ⟨?_, HC⟩
       rw [constV_none hcb (by rw [← hr]; exact readN_no (by omega) (by first | exact .inl (by assumption) | exact .inr (.inl (by omega)) | exact .inr (.inr (by omega))))]
      ·try simp only [nm, ne_eq] at g93
       refine w_yes 2 42 false <| st_move (v := .int _ _) rfl <| w_yes 2 42 false <| st_move (v := .int _ _) rfl <| w_yes 2 42 false <| st_geq rfl rfl <| pF rfl rfl <| mB rfl <| w_split (d := 47) rfl (fun g94 => ?_) (fun g94 => ?_)
       ·try simp only [nm, ne_eq] at g94
        iterate 6 refine w_no 7 47 false ?_
        refine pT rfl rfl <| en <| x_cond (t := true) rfl (fun h3 => ?_) (fun h3 => ?_)
        rotate_left
        · exact absurd h3 (by decide)
        refine sr rfl <| aI rfl <| aB rfl <| en <| x_ret <| then_r <| block_r <| then_r <| then_r <| block_r <| then_r <| ret_tmp2 (v := .int _ _) (v2 := .bool _) rfl rfl rfl <| ⟨?_, HC⟩
        rw [constV_none hcb (by rw [← hr]; exact readN_no (by omega) (by first | exact .inl (by assumption) | exact .inr (.inl (by omega)) | exact .inr (.inr (by omega))))]
       ·try simp only [nm, ne_eq] at g94
        have htd : (9223372036854775807 - digV (byte (s) i)).tdiv 10 = (9223372036854775807 - digV (byte (s) i)) / 10 := Int.tdiv_eq_ediv_of_nonneg (by omega)
        have hwr : IntKind.i64.wrap ((9223372036854775807 - idx [48, 49, 50, 51, 52, 53, 54, 55, 56, 57, 97, 98, 99, 100, 101, 102] (lowB (byte (s) i))).tdiv 10) = (9223372036854775807 - digV (byte (s) i)) / 10 := by rw [← hde, htd]; exact wrap64_id (by omega) (by omega)
        refine w_yes 7 47 false <| st_move (v := .int _ _) rfl <| w_yes 7 47 false <| st_move (v := .int _ _) rfl <| w_yes 7 47 false <| st_subn rfl rfl (by constructor <;> omega) <| w_yes 7 47 false <| st_move (v := .int _ _) rfl <| w_yes 7 47 false <| st_quo rfl rfl (by decide) <| w_yes 7 47 false <| st_gtr rfl rfl <| pF rfl rfl <| en <| x_cond rfl (fun h3 => ?_) (fun h3 => ?_)
        ·try simp only [nm, ne_eq] at h3
         refine sr rfl <| aI rfl <| aB rfl <| en <| x_ret <| then_r <| block_r <| then_r <| then_r <| block_r <| then_r <| ret_tmp2 (v := .int _ _) (v2 := .bool _) rfl rfl rfl <| ⟨?_, HC⟩
         rw [constV_none hcb (by rw [← hr]; exact readN_no (by omega) (by first | exact .inl (by assumption) | exact .inr (.inl (by omega)) | exact .inr (.inr (by omega))))]
        ·try simp only [nm, ne_eq] at h3
         refine x_skip <| then_n <| x_region rfl <| mI rfl <| mI rfl <| Wp rfl <| st_muln rfl rfl (by constructor <;> omega) <| mI rfl <| Wp rfl <| st_addn rfl rfl (by constructor <;> omega) <| aI rfl <| wops_nil <| block_n <| then_n <| x_region rfl <| Wp rfl <| st_addn rfl rfl (by constructor <;> omega) <| mI rfl <| en <| ⟨(i + 1, n * 10 + digV (byte (s) i)), ?_, ?_, rfl, ⟨rfl, rfl, trivial⟩, ?_⟩
         ·refine ⟨?_, HC, hs79⟩
          exact ⟨by omega, by omega, by omega, by rw [← hr]; exact (readN_at (by omega) (by rintro (h | h | h) <;> omega)).symm⟩
         ·show (s).length - (i + 1) < (s).length - i; omega
         repeat (first | exact agree_upds agree_over rfl | refine agree_upd ?_ rfl | refine agree_upds ?_ rfl | refine agree_over_sub ?_ rfl)
     ·try simp only [nm, ne_eq] at h2
      refine x_exit <| then_x <| then_x <| block_x <| then_n <| sr rfl <| mI rfl <| mS rfl <| Wp rfl <| st_sneq rfl rfl <| aI rfl <| aB rfl <| en <| x_ret <| ret_tmp2 (v := .int _ _) (v2 := .bool _) rfl rfl rfl <| ⟨?_, HC⟩
      rw [constV_some hcb (hr.symm.trans (readN_end (by omega)))]
   ·try simp only [nm, ne_eq] at g52
    iterate 3 refine w_no 2 23 true ?_
    refine pF rfl rfl <| aB rfl <| en <| x_cond (t := false) rfl (fun h1 => ?_) (fun h1 => ?_)
    · exact absurd h1 (by decide)
    have hcb : constB s = (10, s) := by unfold constB; rw [if_neg (by rw [show Lib.hasPrefix s [48, 120] = false by assumption, show Lib.hasPrefix s [48, 88] = false by assumption]; simp), if_neg (by rw [Bool.and_eq_true, decide_eq_true_eq]; rintro ⟨ha, hb⟩; first | (rw [show Lib.hasPrefix s [48] = false by assumption] at ha; cases ha) | omega)]
    have hdl : (s).length ≤ 9223372036854775807 := by first | exact hs | (simp; omega)
    refine x_skip <| block_n <| then_n <| sr rfl <| aI rfl <| en <| x_seq <| sr rfl <| mS rfl <| Wp rfl <| st_strBytes (s := s) T.u9 T.u38 T.u5 rfl ?_
    intro b95 cp96 w97 ge0_b95 lt_b95 c98 hs99
    replace HC := HC.then c98
    refine Wp rfl <| st_len (ct := #[38]) (by rw [show ((#[38] : Array TypeId)[0]?).bind Tryd.prog.underlying = some (.slice 5) from T.u38]; rfl) rfl <| mI rfl <| en <| x_block <| x_loop (ι := Nat × Int) [2, 3, 6, 8, 9, 33, 34, 35, 36, 37, 38, 39, 40, 41, 42, 43, 44, 45, 46, 47, 48, 49, 50, 51, 52, 53, 54, 55, 56, 57, 58, 59, 60] (fun ⟨i, n⟩ => [(33, .int .i64 (i : Int)), (6, .int .i64 n)]) (fun ⟨i, n⟩ W => (i ≤ (s).length ∧ 0 ≤ n ∧ n ≤ 9223372036854775807 ∧ readN 10 n ((s).drop i) = readN 10 0 (s)) ∧ (Chg [] w W) ∧ (Sl uE W (fun k => k = b95) (some ⟨b95, 0, none⟩) s)) (fun ⟨i, n⟩ => (s).length - i) (0, 0) ?_ ?_ ?_
    · exact ⟨rfl, rfl, trivial⟩
    ·refine ⟨?_, HC, hs99⟩
     exact ⟨Nat.zero_le _, by omega, by omega, rfl⟩
    intro ⟨i, n⟩ G101 w100 ⟨⟨hi, hn0, hn1, hr⟩, HC, hs99⟩
    change wp _ _ _ _ _ (upds (over _ _ G101) [(33, .int .i64 (i : Int)), (6, .int .i64 n)]) _ _
    refine sr rfl <| Wp rfl <| st_lss rfl rfl <| en <| x_seq <| x_cond rfl (fun h2 => ?_) (fun h2 => ?_)
    ·try simp only [nm, ne_eq] at h2
     refine x_skip <| then_n <| x_seq <| x_block <| sr rfl ?_
     obtain ⟨x102, hx103⟩ : ∃ zz, s[i]? = some zz := ⟨_, List.getElem?_eq_getElem (by omega)⟩
     obtain ⟨lb108, _, vs107, hA104, hR106, hC105⟩ := hs99.at hx103
     obtain rfl : vs107 = [.int .u8 (x102.toNat : Int)] := hR106
     refine Wp rfl <| st_indexAddr T.u38 T.size5 (congrArg (fun z => Value.slice z _ _) hA104) rfl (by omega) (by omega) <| lI T.one5 rfl (hC105.at (j := 0) rfl) <| aI rfl <| en <| x_seq ?_
     obtain rfl : x102 = byte (s) i := byte_at hx103
     have hdv := digV_lt (byte (s) i)
     have hde : digV (byte (s) i) = idx [48, 49, 50, 51, 52, 53, 54, 55, 56, 57, 97, 98, 99, 100, 101, 102] (lowB (byte (s) i)) := rfl
     refine x_region rfl <| mI rfl <| Wp rfl <| st_call (ags := [_]) rfl rfl T.ent76 rfl (a_low _ _) ?_
     rintro _ w109 ⟨rfl, c110⟩
     replace HC := HC.then c110
     replace hs99 := hs99.tr0 c110
     refine Wp rfl <| st_call (ags := [_, _]) rfl rfl T.ent31 rfl (IndexByte_spec _ _ _) ?_
     rintro _ w111 ⟨rfl, c112⟩
     replace HC := HC.then c112
     replace hs99 := hs99.tr0 c112
     refine aI rfl <| en <| x_seq <| sr rfl <| mI rfl <| Wp rfl <| st_lss rfl rfl <| mB rfl <| w_split (d := 42) rfl (fun g113 => ?_) (fun g113 => ?_)
     ·try simp only [nm, ne_eq] at g113
      iterate 3 refine w_no 2 42 false ?_
      refine pT rfl rfl <| mB rfl ?_
      iterate 6 refine w_no 7 47 false ?_
      refine pT rfl rfl <| en <| x_cond (t := true) rfl (fun h3 => ?_) (fun h3 => ?_)
      rotate_left
      · exact absurd h3 (by decide)
      refine sr rfl <| aI rfl <| aB rfl <| en <| x_ret <| then_r <| block_r <| then_r <| then_r <| block_r <| then_r <| ret_tmp2 (v := .int _ _) (v2 := .bool _) rfl rfl rfl <| ⟨?_, HC⟩
      rw [constV_none hcb (by rw [← hr]; exact readN_no (by omega) (by first | exact .inl (by assumption) | exact .inr (.inl (by omega)) | exact .inr (.inr (by omega))))]
     ·try simp only [nm, ne_eq] at g113
      refine w_yes 2 42 false <| st_move (v := .int _ _) rfl <| w_yes 2 42 false <| st_move (v := .int _ _) rfl <| w_yes 2 42 false <| st_geq rfl rfl <| pF rfl rfl <| mB rfl <| w_split (d := 47) rfl (fun g114 => ?_) (fun g114 => ?_)
      ·try simp only [nm, ne_eq] at g114
       iterate 6 refine w_no 7 47 false ?_
       refine pT rfl rfl <| en <| x_cond (t := true) rfl (fun h3 => ?_) (fun h3 => ?_)
       rotate_left
       · exact absurd h3 (by decide)
       refine sr rfl <| aI rfl <| aB rfl <| en <| x_ret <| then_r <| block_r <| then_r <| then_r <| block_r <| then_r <| ret_tmp2 (v := .int _ _) (v2 := .bool _) rfl rfl rfl <| ⟨?_, HC⟩
       rw [constV_none hcb (by rw [← hr]; exact readN_no (by omega) (by first | exact .inl (by assumption) | exact .inr (.inl (by omega)) | exact .inr (.inr (by omega))))]
      ·try simp only [nm, ne_eq] at g114
       have htd : (9223372036854775807 - digV (byte (s) i)).tdiv 10 = (9223372036854775807 - digV (byte (s) i)) / 10 := Int.tdiv_eq_ediv_of_nonneg (by omega)
       have hwr : IntKind.i64.wrap ((9223372036854775807 - idx [48, 49, 50, 51, 52, 53, 54, 55, 56, 57, 97, 98, 99, 100, 101, 102] (lowB (byte (s) i))).tdiv 10) = (9223372036854775807 - digV (byte (s) i)) / 10 := by rw [← hde, htd]; exact wrap64_id (by omega) (by omega)
       refine w_yes 7 47 false <| st_move (v := .int _ _) rfl <| w_yes 7 47 false <| st_move (v := .int _ _) rfl <| w_yes 7 47 false <| st_subn rfl rfl (by constructor <;> omega) <| w_yes 7 47 false <| st_move (v := .int _ _) rfl <| w_yes 7 47 false <| st_quo rfl rfl (by decide) <| w_yes 7 47 false <| st_gtr rfl rfl <| pF rfl rfl <| en <| x_cond rfl (fun h3 => ?_) (fun h3 => ?_)
       ·try simp only [nm, ne_eq] at h3
        refine sr rfl <| aI rfl <| aB rfl <| en <| x_ret <| then_r <| block_r <| then_r <| then_r <| block_r <| then_r <| ret_tmp2 (v := .int _ _) (v2 := .bool _) rfl rfl rfl <| ⟨?_, HC⟩
        rw [constV_none hcb (by rw [← hr]; exact readN_no (by omega) (by first | exact .inl (by assumption) | exact .inr (.inl (by omega)) | exact .inr (.inr (by omega))))]
       ·try simp only [nm, ne_eq] at h3
        refine x_skip <| then_n <| x_region rfl <| mI rfl <| mI rfl <| Wp rfl <| st_muln rfl rfl (by constructor <;> omega) <| mI rfl <| Wp rfl <| st_addn rfl rfl (by constructor <;> omega) <| aI rfl <| wops_nil <| block_n <| then_n <| x_region rfl <| Wp rfl <| st_addn rfl rfl (by constructor <;> omega) <| mI rfl <| en <| ⟨(i + 1, n * 10 + digV (byte (s) i)), ?_, ?_, rfl, ⟨rfl, rfl, trivial⟩, ?_⟩
        ·refine ⟨?_, HC, hs99⟩
         exact ⟨by omega, by omega, by omega, by rw [← hr]; exact (readN_at (by omega) (by rintro (h | h | h) <;> omega)).symm⟩
        ·show (s).length - (i + 1) < (s).length - i; omega
        repeat (first | exact agree_upds agree_over rfl | refine agree_upd ?_ rfl | refine agree_upds ?_ rfl | refine agree_over_sub ?_ rfl)
    ·try simp only [nm, ne_eq] at h2
     refine x_exit <| then_x <| then_x <| block_x <| then_n <| sr rfl <| mI rfl <| mS rfl <| Wp rfl <| st_sneq rfl rfl <| aI rfl <| aB rfl <| en <| x_ret <| ret_tmp2 (v := .int _ _) (v2 := .bool _) rfl rfl rfl <| ⟨?_, HC⟩
     rw [constV_some hcb (hr.symm.trans (readN_end (by omega)))]

end Go.Proofs.YtlpndcpbnbeohaaDoor.K
set_option linter.unusedVariables false
set_option linter.unusedSimpArgs false
set_option autoImplicit false
namespace Go.Proofs.YtlpndcpbnbeohaaDoor.K
open Go Go.RowKit
variable {T e : TypeId} {w w' : World} {b : Nat} {A : Option Addr} {cap : Nat} {s : Bytes}
variable {P : Program} {r : Option Nat} {n : Nat} {O : Array Oper} {Q : Post} {E : Env} {ds : List Deferred} {l : List Oper}
def byteS (P : Program) (t e : TypeId) : Prop := P.underlying t = some (.slice e) ∧ (P.info? e).map (fun i => (i.zero, i.size, i.bytes)) = some (some (.int .u8 0), 1, 1)
open Go.Lib in
theorem run_appendB {t ty : TypeId} {s2 : Bytes} {a : Addr} {c : Nat} (hB : byteS P t e) (ho : OwnB e w A cap s) (hn : s = [] → A = none) (hl : s.length + s2.length ≤ 140737488355328) (h2 : s2 ≠ [])
    (hnews : ∀ j u, (Lib.byteCells s2)[j]? = some u → w.cell? (a.add j) = some u) :
    ∃ A' cap' w', (Builtin.append_ #[t, t] ty #[.slice A s.length cap, .slice (some a) s2.length c]).run P w = .ok (.slice A' (s ++ s2).length cap') w' ∧ OwnB e w' A' cap' (s ++ s2) ∧ Chg (ob A) w w' ∧ (∀ g, g ∈ ob A' → g ∈ ob A ∨ w.heap.size ≤ g) ∧ (s ++ s2 = [] → A' = none) := by
  obtain ⟨ht, hi0⟩ := hB
  obtain ⟨i, hi, hi2⟩ := Option.map_eq_some_iff.1 hi0
  simp only [Prod.mk.injEq] at hi2
  obtain ⟨hz, hsize, hby⟩ := hi2
  have happ : Lib.byteCells s ++ Lib.byteCells s2 = Lib.byteCells (s ++ s2) := by simp [Lib.byteCells]
  have hx1 : (Lib.byteCells s).length = s.length := Lib.byteCells_length s
  have hx2 : (Lib.byteCells s2).length = s2.length := Lib.byteCells_length s2
  have hp2 := List.length_pos_iff.2 h2
  have hlen : (Lib.byteCells (s ++ s2)).length = (s ++ s2).length * 1 := by rw [Lib.byteCells_length, Nat.mul_one]
  have h1 : ∀ u ∈ Lib.byteCells s2, u.oneCell' = true := fun u hu => by obtain ⟨x, _, rfl⟩ := List.mem_map.1 (show u ∈ s2.map _ from hu); rfl
  have hnn : ¬ s ++ s2 = [] := fun h => h2 (List.append_eq_nil_iff.1 h).2
  rcases ho.2 with ⟨hv, h0⟩ | ⟨g, cp, cur, fz, hv, hbg, hg, hfz, hnc, hcm, hcs, htake⟩
  · simp only [Value.slice.injEq] at hv
    obtain ⟨rfl, _, rfl⟩ := hv
    have hs0 : s = [] := List.eq_nil_of_length_eq_zero h0
    subst hs0
    obtain ⟨v', w', r1, r2, r3, r4⟩ := run_append_ownF (P := P) w w.heap.size t ty e i (.int .u8 0) 1 1 ht hi hz hsize hby rfl (by decide) (.slice none 0 0) 0 [] (World.ownsRowF_nil _ _ _ _) a s2.length c (Lib.byteCells s2) (by omega) hnews h1 (by simp [maxLen]; simp at hl; omega) (by simp at hl; omega) (Nat.le_refl _)
    rw [List.nil_append, Nat.zero_add] at r2
    have hgr : Chg [] w w' := ⟨r3.os, r3.tape, r3.output, r3.size, fun k hk _ => r3.block k hk (by simp [Value.ownBlock])⟩
    rcases r2.2 with ⟨h5, h6⟩ | ⟨g2, cp, cur, fz, h5, h6, h7⟩
    · omega
    · refine ⟨some ⟨g2, 0, none⟩, cp, w', by rw [h5] at r1; exact r1, ⟨by simp [Lib.byteCells], .inr ⟨g2, cp, cur, fz, rfl, Nat.zero_le _, h7⟩⟩, hgr, fun g hg => by simp [ob] at hg; exact .inr (by omega), fun hnil => absurd hnil hnn⟩
  · simp only [Value.slice.injEq] at hv
    obtain ⟨rfl, _, rfl⟩ := hv
    by_cases hroom : s.length + s2.length ≤ cap
    · have hcs' : cur.size = cap := by simpa using hcs
      have hr := run_append_roomF (P := P) w t ty e i ht hi g s.length cap cur fz hg (by rw [hsize]; simpa using hfz) a s2.length c (Lib.byteCells s2) (by rw [hsize]; omega) hnews h1 hroom (by rw [hsize]; omega)
      rw [hsize, Nat.mul_one] at hr
      refine ⟨_, _, _, by rw [List.length_append]; exact hr, ⟨hlen, .inr ⟨g, cap, _, fz, by rw [List.length_append] <;> rfl, hbg, setRow_heap w g cur _ e _ hg, by rw [List.length_append]; omega, by rw [List.length_append]; exact hroom, hcm, ?_, ?_⟩⟩,
        ⟨rfl, rfl, rfl, by simp, fun k _ hk => setRow_other w g k _ (fun e => hk (by simp [ob, e]))⟩, fun g' hg' => by simp [ob] at hg' ⊢; exact .inl hg', fun h => absurd h hnn⟩
      · simp only [List.size_toArray, List.length_append, List.length_take, List.length_drop, Array.length_toList]
        omega
      · have ht' : cur.toList.take s.length = Lib.byteCells s := by simpa using htake
        rw [ht', happ, ← hlen]
        exact List.take_left
    · have holds : ∀ j u, (Lib.byteCells s)[j]? = some u → w.cell? ((⟨g, 0, none⟩ : Addr).add j) = some u := World.ownsRowF.cells ho (g := g) rfl
      have hr := run_append_grow (P := P) w t ty e i (.int .u8 0) ht hi hz ⟨g, 0, none⟩ s.length cap (Lib.byteCells s) (by rw [hsize]; omega) holds a s2.length c (Lib.byteCells s2) (by rw [hsize]; omega) hnews (by omega) (by omega) (by rw [hby]; exact growslice_fits (by omega) (by omega))
      have hge := grownCap_ge w (s.length + s2.length) cap e
      have hcm2 : grownCap w (s.length + s2.length) cap e ≤ maxLen := grownCap_le_maxLen w (s.length + s2.length) cap e (by simp [maxLen]; omega)
      refine ⟨_, _, _, by rw [List.length_append]; exact hr, ⟨hlen, .inr ⟨w.heap.size, _, _, (0, 0), by rw [List.length_append] <;> rfl, Nat.zero_le _, heap_alloc_new w.drew _, Nat.zero_le _, by rw [List.length_append]; exact hge, hcm2, ?_, ?_⟩⟩,
        ((Chg.drew w).then (Chg.alloc _ _)).wide, fun g' hg' => by simp [ob] at hg'; exact .inr (by omega), fun h => absurd h hnn⟩
      · have hz1 : (Value.int IntKind.u8 0).cells.size = 1 := rfl
        simp only [Array.size_append, List.size_toArray, size_zeroCells, hz1, hx1, hx2]
        omega
      · simp only [Array.toList_append, List.append_assoc]
        rw [← List.append_assoc, happ, ← hlen]
        exact List.take_left
section
variable {dst : Option Nat} {ty : TypeId} {pos : String} {af : Array Edge} {g : Option (Nat × Bool)}
theorem st_appendB {t : TypeId} {x y : Operand} {s2 : Bytes} {a : Addr} {c : Nat} (hB : byteS P t e) (hx : ev E x = .slice A s.length cap) (hy : ev E y = .slice (some a) s2.length c) (ho : OwnB e w A cap s) (hn : s = [] → A = none) (hl : s.length + s2.length ≤ 140737488355328) (h2 : s2 ≠ [])
    (hnews : ∀ j u, (Lib.byteCells s2)[j]? = some u → w.cell? (a.add j) = some u)
    (h : ∀ A' cap' w', OwnB e w' A' cap' (s ++ s2) → Chg (ob A) w w' → (∀ g, g ∈ ob A' → g ∈ ob A ∨ w.heap.size ≤ g) → (s ++ s2 = [] → A' = none) → wops P r n O Q l (updo E dst (.slice A' (s ++ s2).length cap')) ds w') :
    wop P r n O Q ⟨dst, .call ⟨.builtin .append, #[x, y], #[t, t]⟩, ty, pos, af, g⟩ l E ds w := by
  obtain ⟨A', cap', w', h1, h2, h3, h4, h5⟩ := run_appendB (ty := ty) (s2 := s2) (c := c) hB ho hn hl h2 hnews
  refine wop_run (fun _ => by simp) ?_ (h A' cap' w' h2 h3 h4 h5)
  simp only [execOp, resolve, invoke, builtin, List.map_toArray, List.map_cons, List.map_nil, hx, hy, Sem.run_bind, Sem.run_pure, h1, Result.andThen]
theorem r_min {x y : Operand} {k k' : IntKind} {a c : Int} {ct : Array TypeId} (hx : ev E x = .int k a) (hy : ev E y = .int k' c) : (execOp (ev E) ⟨dst, .call ⟨.builtin .min, #[x, y], ct⟩, ty, pos, af, g⟩).run P w = .ok (.value (.int k (min a c))) w := by
  simp only [execOp, resolve, invoke, builtin, List.map_toArray, List.map_cons, List.map_nil, hx, hy, Sem.run_bind, Sem.run_pure, Lib.run_min_ints, Result.andThen]
theorem st_min {x y : Operand} {k k' : IntKind} {a c : Int} {ct : Array TypeId} (hx : ev E x = .int k a) (hy : ev E y = .int k' c) (h : wops P r n O Q l (updo E dst (.int k (min a c))) ds w) : wop P r n O Q ⟨dst, .call ⟨.builtin .min, #[x, y], ct⟩, ty, pos, af, g⟩ l E ds w := wop_run (fun _ => by simp) (r_min hx hy) h
theorem r_max {x y : Operand} {k k' : IntKind} {a c : Int} {ct : Array TypeId} (hx : ev E x = .int k a) (hy : ev E y = .int k' c) : (execOp (ev E) ⟨dst, .call ⟨.builtin .max, #[x, y], ct⟩, ty, pos, af, g⟩).run P w = .ok (.value (.int k (max a c))) w := by
  simp only [execOp, resolve, invoke, builtin, List.map_toArray, List.map_cons, List.map_nil, hx, hy, Sem.run_bind, Sem.run_pure, Lib.run_max_ints, Result.andThen]
theorem st_max {x y : Operand} {k k' : IntKind} {a c : Int} {ct : Array TypeId} (hx : ev E x = .int k a) (hy : ev E y = .int k' c) (h : wops P r n O Q l (updo E dst (.int k (max a c))) ds w) : wop P r n O Q ⟨dst, .call ⟨.builtin .max, #[x, y], ct⟩, ty, pos, af, g⟩ l E ds w := wop_run (fun _ => by simp) (r_max hx hy) h
end
theorem lit_news {b : Nat} {c : UInt8} {T : TypeId} (hb : Blk w b [.int .u8 (c.toNat : Int)] T) : ∀ (j : Nat) u, (Lib.byteCells [c])[j]? = some u → w.cell? ((⟨b, 0, none⟩ : Addr).add j) = some u := fun j u h => by
  cases j with
  | zero => simp [Lib.byteCells] at h; subst h; rw [Addr.add_lit]; exact hb.cell rfl
  | succ j => simp [Lib.byteCells] at h
end Go.Proofs.YtlpndcpbnbeohaaDoor.K
