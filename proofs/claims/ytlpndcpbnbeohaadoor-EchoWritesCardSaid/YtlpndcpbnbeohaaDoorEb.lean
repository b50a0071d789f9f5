/- Escapes. -/
import Derived.Test.YtlpndcpbnbeohaaDoorEa
set_option linter.unusedVariables false
set_option linter.unusedSimpArgs false
set_option autoImplicit false
set_option maxRecDepth 20000
namespace Go.Proofs.YtlpndcpbnbeohaaDoor.K
open Go Go.Proofs Go.RowKit

def octB (c : UInt8) : Bool := decide (48 ≤ c.toNat ∧ c.toNat ≤ 55)
theorem oct_tab : ((List.range 256).all fun n => decide (shrV .u8 (n : Int) 3 = 6) == decide (48 ≤ n ∧ n ≤ 55)) = true := by kernel_rfl
theorem oct_shr (c : UInt8) : decide (shrV .u8 (c.toNat : Int) 3 = 6) = octB c := by
  have h := List.all_eq_true.1 oct_tab c.toNat (List.mem_range.2 c.toNat_lt)
  exact beq_iff_eq.1 h
theorem acc_tab : ((List.range 256).all fun m => (List.range 8).all fun d => decide (orV .u8 (shlV .u8 (m : Int) 3) (andV .u8 ((48 + d : Nat) : Int) 7) = ((m * 8 % 256 + d : Nat) : Int))) = true := by kernel_rfl
theorem acc_or {m : Nat} {c : UInt8} (hm : m < 256) (hc : octB c = true) : orV .u8 (shlV .u8 (m : Int) 3) (andV .u8 (c.toNat : Int) 7) = ((m * 8 % 256 + (c.toNat - 48) : Nat) : Int) := by
  unfold octB at hc; rw [decide_eq_true_eq] at hc
  have h := of_decide_eq_true (List.all_eq_true.1 (List.all_eq_true.1 acc_tab m (List.mem_range.2 hm)) (c.toNat - 48) (List.mem_range.2 (by omega)))
  rw [show 48 + (c.toNat - 48) = c.toNat by omega] at h; exact h
/-- A number by 8: so many digits at most; the number, and how many there are. -/
def octF : Nat → Bytes → Nat → Nat × Nat
  | 0, _, m => (m, 0)
  | _ + 1, [], m => (m, 0)
  | k + 1, x :: s, m => if octB x = true then ((octF k s (m * 8 % 256 + (x.toNat - 48))).1, (octF k s (m * 8 % 256 + (x.toNat - 48))).2 + 1) else (m, 0)
theorem octF_on {s : Bytes} {k en m : Nat} (h1 : k < en) (h2 : k < s.length) (h : octB (byte s k) = true) : octF (en - k) (s.drop k) m = ((octF (en - (k + 1)) (s.drop (k + 1)) (m * 8 % 256 + ((byte s k).toNat - 48))).1, (octF (en - (k + 1)) (s.drop (k + 1)) (m * 8 % 256 + ((byte s k).toNat - 48))).2 + 1) := by
  rw [show en - k = (en - (k + 1)) + 1 by omega, drop_byte h2, octF, if_pos h]
theorem octF_off {s : Bytes} {k en m : Nat} (h : en ≤ k ∨ s.length ≤ k ∨ octB (byte s k) = false) : octF (en - k) (s.drop k) m = (m, 0) := by
  by_cases h1 : en ≤ k
  · rw [show en - k = 0 by omega]; rfl
  by_cases h2 : s.length ≤ k
  · rw [List.drop_of_length_le h2, show en - k = (en - k - 1) + 1 by omega]; rfl
  have h3 := (h.resolve_left h1).resolve_left h2
  rw [show en - k = (en - k - 1) + 1 by omega, drop_byte (by omega), octF, if_neg (by rw [h3]; decide)]
theorem octF_bd : ∀ (k : Nat) (s : Bytes) (m : Nat), m < 256 → (octF k s m).1 < 256 ∧ (octF k s m).2 ≤ k ∧ (octF k s m).2 ≤ s.length
  | 0, s, m, h => ⟨h, Nat.le_refl _, Nat.zero_le _⟩
  | k + 1, [], m, h => ⟨h, Nat.zero_le _, Nat.le_refl _⟩
  | k + 1, x :: s, m, h => by
    rw [octF]
    by_cases hx : octB x = true
    · rw [if_pos hx]
      unfold octB at hx; rw [decide_eq_true_eq] at hx
      have h2 := octF_bd k s (m * 8 % 256 + (x.toNat - 48)) (by omega)
      exact ⟨h2.1, by simp only; omega, by simp only [List.length_cons]; omega⟩
    · rw [if_neg hx]; exact ⟨h, Nat.zero_le _, Nat.zero_le _⟩
def escN (s : Bytes) (arg : Bool) : Nat := if arg = true ∧ ((byte s 1).toNat : Int) = 48 then 5 else 4
/-- A \'s byte, and how many bytes it has; below 0: it ends all. -/
def escV (s : Bytes) (arg : Bool) : UInt8 × Int :=
  if s.length < 2 then (92, 1)
  else if 0 ≤ idx [97, 98, 116, 110, 118, 102, 114, 92] (byte s 1) then (byte [7, 8, 9, 10, 11, 12, 13, 92] (idx [97, 98, 116, 110, 118, 102, 114, 92] (byte s 1)).toNat, 2)
  else if ((byte s 1).toNat : Int) = 99 ∧ arg = true then (0, -1)
  else if octB (byte s 1) = false then (92, 1)
  else (UInt8.ofNat (octF (escN s arg - 1) (s.drop 1) 0).1, ((octF (escN s arg - 1) (s.drop 1) 0).2 + 1 : Nat))
theorem esc_in (s : Bytes) (arg : Bool) (h : 0 < s.length) : (escV s arg).2 = -1 ∨ (1 ≤ (escV s arg).2 ∧ (escV s arg).2 ≤ s.length) := by
  unfold escV
  by_cases h1 : s.length < 2
  · rw [if_pos h1]; right; simp only; omega
  rw [if_neg h1]; split
  · right; simp only; omega
  · split
    · left; rfl
    · split
      · right; simp only; omega
      · right
        have := octF_bd (escN s arg - 1) (s.drop 1) 0 (by omega)
        rw [List.length_drop] at this
        simp only; omega
/-- A text's escapes are bytes; and whether it ends there. -/
def escsF : Nat → Bytes → Bytes × Bool
  | 0, _ => ([], false)
  | _ + 1, [] => ([], false)
  | k + 1, c :: s => if c.toNat = 92 then (if (escV (c :: s) true).2 < 0 then ([], true) else ((escV (c :: s) true).1 :: (escsF k ((c :: s).drop (escV (c :: s) true).2.toNat)).1, (escsF k ((c :: s).drop (escV (c :: s) true).2.toNat)).2)) else (c :: (escsF k s).1, (escsF k s).2)
def escsV (s : Bytes) : Bytes × Bool := escsF (s.length + 1) s
theorem escs_len : ∀ (j : Nat) (s : Bytes), (escsF j s).1.length ≤ s.length
  | 0, s => by simp [escsF]
  | j + 1, [] => by simp [escsF]
  | j + 1, c :: s => by
    rw [escsF]
    have hi := esc_in (c :: s) true (by simp)
    split
    · split
      · simp
      · have h1 := escs_len j ((c :: s).drop (escV (c :: s) true).2.toNat)
        rw [List.length_drop] at h1
        simp only [List.length_cons] at *; omega
    · have h1 := escs_len j s
      simp only [List.length_cons]; omega
theorem u8_ofNat {m : Nat} (h : m < 256) : (((UInt8.ofNat m).toNat : Nat) : Int) = (m : Int) := by rw [UInt8.toNat_ofNat_of_lt' (by show m < 256; exact h)]
theorem repeatL_one (c : UInt8) : ∀ n : Nat, Lib.repeatL [c] n = List.replicate n c
  | 0 => rfl
  | n + 1 => by show [c] ++ Lib.repeatL [c] n = _; rw [repeatL_one c n]; rfl
theorem Repeat_spec (c : UInt8) (n : Nat) (w : World) (hn : n ≤ 140737488355328) : CallR Tryd.prog 56 #[S [c], .int .i64 (n : Int)] w fun v w' => v = S (List.replicate n c) ∧ Chg [] w w' :=
  CallR.of (Tryd.strings_Repeat ⟨⟨[c]⟩⟩ n w (by omega) (by show 1 * n ≤ _; omega)) fun e w' ⟨h1, h2⟩ => ⟨_, h1, by show Value.string ⟨(Lib.repeatL [c] n).toArray⟩ = _; rw [repeatL_one]; rfl, .of_below h2⟩

theorem oct_spec (c : UInt8) (w : World) : CallR Tryd.prog 32 #[.int .u8 (c.toNat : Int)] w fun v w' => v = .bool (octB c) ∧ Chg [] w w' := by
 refine callR_of_wp (args := [_]) Tryd.func32 rfl (Nat.le_of_ble_eq_true rfl) ?_
 have HC : Chg [] w w := .refl _
 refine sr rfl <| aB rfl <| en <| sr rfl <| mI rfl <| Wp rfl <| st_shr rfl rfl (by decide) <| Wp rfl <| st_eql rfl rfl <| aB rfl <| en <| x_ret <| ret_tmp (v := .bool _) rfl rfl ?_
 exact ⟨congrArg Value.bool (oct_shr c), HC⟩

theorem escape_spec (s : Bytes) (arg : Bool) (w : World) (hs : s.length ≤ 9223372036854775807) : CallR Tryd.prog 20 #[S s, .bool arg] w fun v w' => v = .tuple ⟨[.int .u8 ((escV s arg).1.toNat : Int), .int .i64 (escV s arg).2]⟩ ∧ Chg [] w w' := by
 refine callR_of_wp (args := [_, _]) Tryd.func20 rfl (Nat.le_of_ble_eq_true rfl) ?_
 have HC : Chg [] w w := .refl _
 refine sr rfl <| aI rfl <| aI rfl <| en <| x_seq <| sr rfl <| mS rfl <| Wp rfl <| st_slen (ct := #[9]) T.u9 rfl <| Wp rfl <| st_lss rfl rfl <| en <| x_cond rfl (fun h0 => ?_) (fun h0 => ?_)
 ·try simp only [nm, ne_eq] at h0
  refine sr rfl <| aI rfl <| aI rfl <| en <| x_ret <| then_r <| ret_tmp2 (v := .int _ _) (v2 := .int _ _) rfl rfl rfl <| ⟨?_, HC⟩
  unfold escV; rw [if_pos (by omega)]
  try rfl
 ·try simp only [nm, ne_eq] at h0
  refine x_skip <| then_n <| x_seq <| sr rfl <| mS rfl <| Wp rfl <| st_sidx T.u9 rfl rfl (by omega) (by omega) <| Wp rfl <| st_call (ags := [_, _]) rfl rfl T.ent31 rfl (IndexByte_spec [97, 98, 116, 110, 118, 102, 114, 92] (byte s 1) _) ?_
  rintro _ w1 ⟨rfl, c2⟩
  replace HC := HC.then c2
  refine aI rfl <| en <| sr rfl <| mI rfl <| Wp rfl <| st_geq rfl rfl <| en <| x_cond rfl (fun h1 => ?_) (fun h1 => ?_)
  ·try simp only [nm, ne_eq] at h1
   refine sr rfl <| mI rfl <| Wp rfl <| st_sidx T.u9 rfl rfl (by omega) (by (have := idx_le [97, 98, 116, 110, 118, 102, 114, 92] (byte s 1); simp only [List.length_cons, List.length_nil] at *; omega)) <| aI rfl <| aI rfl <| en <| x_ret <| then_r <| ret_tmp2 (v := .int _ _) (v2 := .int _ _) rfl rfl rfl <| ⟨?_, HC⟩
   unfold escV; rw [if_neg (by omega), if_pos h1]
   try rfl
  ·try simp only [nm, ne_eq] at h1
   refine x_skip <| then_n <| x_seq <| x_block <| sr rfl <| mS rfl <| Wp rfl <| st_sidx T.u9 rfl rfl (by omega) (by omega) <| Wp rfl <| st_eql rfl rfl <| mB rfl <| w_split (d := 24) rfl (fun g3 => ?_) (fun g3 => ?_)
   ·try simp only [nm, ne_eq] at g3
    refine w_yes 3 24 true <| st_move (v := .bool _) rfl <| pT rfl rfl <| aB rfl <| en <| x_cond rfl (fun h2 => ?_) (fun h2 => ?_)
    ·try simp only [nm, ne_eq] at h2
     refine sr rfl <| aI rfl <| aI rfl <| en <| x_ret <| block_r <| then_r <| ret_tmp2 (v := .int _ _) (v2 := .int _ _) rfl rfl rfl <| ⟨?_, HC⟩
     unfold escV; rw [if_neg (by omega), if_neg h1, if_pos ⟨by assumption, by assumption⟩]
     try rfl
    ·try simp only [nm, ne_eq] at h2
     refine sr rfl <| mS rfl <| Wp rfl <| st_sidx T.u9 rfl rfl (by omega) (by omega) <| Wp rfl <| st_call (ags := [_]) rfl rfl T.ent32 rfl (oct_spec _ _) ?_
     rintro _ w4 ⟨rfl, c5⟩
     replace HC := HC.then c5
     refine Wp rfl <| st_not rfl <| aB rfl <| en <| x_cond rfl (fun h3 => ?_) (fun h3 => ?_)
     ·try simp only [nm, ne_eq] at h3
      refine sr rfl <| aI rfl <| aI rfl <| en <| x_ret <| block_r <| then_r <| ret_tmp2 (v := .int _ _) (v2 := .int _ _) rfl rfl rfl <| ⟨?_, HC⟩
      unfold escV; rw [if_neg (by omega), if_neg h1, if_neg (by rintro ⟨h8, h9⟩; simp_all), if_pos (by first | assumption | simp_all)]
      try rfl
     ·try simp only [nm, ne_eq] at h3
      have ho1 : octB (byte s 1) = true := by first | assumption | simp_all
      refine x_skip <| block_n <| then_n <| sr rfl <| aI rfl <| en <| x_seq <| sr rfl <| mB rfl <| mB rfl <| w_split (d := 33) rfl (fun g6 => ?_) (fun g6 => ?_)
      ·try simp only [nm, ne_eq] at g6
       refine w_yes 1 33 true <| st_move (v := S _) rfl <| w_yes 1 33 true <| st_sidx T.u9 rfl rfl (by omega) (by omega) <| w_yes 1 33 true <| st_eql rfl rfl <| pT rfl rfl <| en <| x_cond rfl (fun h4 => ?_) (fun h4 => ?_)
       ·try simp only [nm, ne_eq] at h4
        refine x_region rfl <| mI rfl <| Wp rfl <| st_addn rfl rfl (by constructor <;> omega) <| aI rfl <| en <| x_seq ?_
        have hen : escN s arg = 5 := by unfold escN; rw [if_pos ⟨by assumption, by assumption⟩]
        refine x_region rfl <| aI rfl <| aI rfl <| en <| x_seq <| x_block <| x_loop (ι := Nat × Nat) [8, 9, 40, 41, 42, 43, 44, 45, 46, 47, 48, 49, 50, 51, 52, 53, 54, 55, 56, 57, 58, 59, 60] (fun ⟨k, m⟩ => [(8, .int .u8 (m : Int)), (9, .int .i64 (k : Int))]) (fun ⟨k, m⟩ W => (1 ≤ k ∧ k ≤ 5 ∧ k ≤ s.length ∧ m < 256 ∧ octF (5 - 1) (s.drop 1) 0 = ((octF (5 - k) (s.drop k) m).1, (octF (5 - k) (s.drop k) m).2 + (k - 1))) ∧ (Chg [] w W)) (fun ⟨k, m⟩ => 5 - k) (1, 0) ?_ ?_ ?_
        · exact ⟨rfl, rfl, trivial⟩
        ·refine ⟨?_, HC⟩
         exact ⟨Nat.le_refl _, by decide, by omega, by decide, rfl⟩
        intro ⟨k, m⟩ G8 w7 ⟨⟨hk1, hk2, hk3, hm, hof⟩, HC⟩
        change wp _ _ _ _ _ (upds (over _ _ G8) [(8, .int .u8 (m : Int)), (9, .int .i64 (k : Int))]) _ _
        refine x_seq <| sr rfl <| mI rfl <| mI rfl <| mS rfl <| Wp rfl <| st_slen (ct := #[9]) T.u9 rfl <| Wp rfl <| st_min rfl rfl <| Wp rfl <| st_lss rfl rfl <| mB rfl <| w_split (d := 46) rfl (fun g9 => ?_) (fun g9 => ?_)
        ·try simp only [nm, ne_eq] at g9
         have hkl : k < 5 ∧ k < s.length := by omega
         refine w_yes 6 46 true <| st_move (v := S _) rfl <| w_yes 6 46 true <| st_move (v := .int _ _) rfl <| w_yes 6 46 true <| st_sidx T.u9 rfl rfl (by omega) (by omega) <| w_yes 6 46 true <| st_call (ags := [_]) rfl rfl T.ent32 rfl (oct_spec _ _) ?_
         rintro _ w10 ⟨rfl, c11⟩
         replace HC := HC.then c11
         refine pT rfl rfl <| en <| x_cond rfl (fun h5 => ?_) (fun h5 => ?_)
         ·try simp only [nm, ne_eq] at h5
          have hob : octB (byte s k) = true := by first | assumption | simp_all
          refine x_skip <| then_n <| x_seq <| x_block <| x_region rfl <| mI rfl <| Wp rfl <| st_shl rfl rfl (by decide) <| mS rfl <| mI rfl <| Wp rfl <| st_sidx T.u9 rfl rfl (by omega) (by omega) <| Wp rfl <| st_and rfl rfl <| Wp rfl <| st_or rfl rfl <| aI rfl <| wops_nil <| block_n <| then_n <| x_region rfl <| mI rfl <| Wp rfl <| st_addn rfl rfl (by constructor <;> omega) <| aI rfl <| en <| ⟨(k + 1, m * 8 % 256 + ((byte s k).toNat - 48)), ?_, ?_, rfl, ⟨(congrArg (Value.int .u8) (acc_or hm hob)), rfl, trivial⟩, ?_⟩
          ·refine ⟨?_, HC⟩
           exact ⟨by omega, by omega, by omega, by unfold octB at hob; rw [decide_eq_true_eq] at hob; omega, by rw [hof, octF_on (by omega) (by omega) hob]; ext <;> simp only <;> omega⟩
          ·show 5 - (k + 1) < 5 - k; omega
          repeat (first | exact agree_upds agree_over rfl | refine agree_upd ?_ rfl | refine agree_upds ?_ rfl | refine agree_over_sub ?_ rfl)
         ·try simp only [nm, ne_eq] at h5
          have hev : octF (5 - 1) (s.drop 1) 0 = (m, k - 1) := by rw [hof, octF_off (by first | omega | (right; right; first | assumption | simp_all))]; simp
          refine x_exit <| then_x <| then_x <| block_x <| then_n <| sr rfl <| mI rfl <| mI rfl <| aI rfl <| aI rfl <| en <| x_ret <| ret_tmp2 (v := .int _ _) (v2 := .int _ _) rfl rfl rfl <| ⟨?_, HC⟩
          unfold escV; rw [if_neg (by omega), if_neg h1, if_neg (by rintro ⟨h8, h9⟩; simp_all), if_neg (by first | assumption | simp_all)]
          rw [hen, hev]
          show _ = Value.tuple ⟨[.int .u8 (((UInt8.ofNat m).toNat : Nat) : Int), .int .i64 ((k - 1 + 1 : Nat) : Int)]⟩
          rw [u8_ofNat hm, show k - 1 + 1 = k by omega]
        ·try simp only [nm, ne_eq] at g9
         iterate 4 refine w_no 6 46 true ?_
         refine pF rfl rfl <| en <| x_cond (t := false) rfl (fun h5 => ?_) (fun h5 => ?_)
         · exact absurd h5 (by decide)
         have hev : octF (5 - 1) (s.drop 1) 0 = (m, k - 1) := by rw [hof, octF_off (by first | omega | (right; right; first | assumption | simp_all))]; simp
         refine x_exit <| then_x <| then_x <| block_x <| then_n <| sr rfl <| mI rfl <| mI rfl <| aI rfl <| aI rfl <| en <| x_ret <| ret_tmp2 (v := .int _ _) (v2 := .int _ _) rfl rfl rfl <| ⟨?_, HC⟩
         unfold escV; rw [if_neg (by omega), if_neg h1, if_neg (by rintro ⟨h8, h9⟩; simp_all), if_neg (by first | assumption | simp_all)]
         rw [hen, hev]
         show _ = Value.tuple ⟨[.int .u8 (((UInt8.ofNat m).toNat : Nat) : Int), .int .i64 ((k - 1 + 1 : Nat) : Int)]⟩
         rw [u8_ofNat hm, show k - 1 + 1 = k by omega]
       ·try simp only [nm, ne_eq] at h4
        refine x_skip <| then_n <| x_seq ?_
        have hen : escN s arg = 4 := by unfold escN; rw [if_neg (by rintro ⟨h8, h9⟩; simp_all)]
        refine x_region rfl <| aI rfl <| aI rfl <| en <| x_seq <| x_block <| x_loop (ι := Nat × Nat) [8, 9, 40, 41, 42, 43, 44, 45, 46, 47, 48, 49, 50, 51, 52, 53, 54, 55, 56, 57, 58, 59, 60] (fun ⟨k, m⟩ => [(8, .int .u8 (m : Int)), (9, .int .i64 (k : Int))]) (fun ⟨k, m⟩ W => (1 ≤ k ∧ k ≤ 4 ∧ k ≤ s.length ∧ m < 256 ∧ octF (4 - 1) (s.drop 1) 0 = ((octF (4 - k) (s.drop k) m).1, (octF (4 - k) (s.drop k) m).2 + (k - 1))) ∧ (Chg [] w W)) (fun ⟨k, m⟩ => 4 - k) (1, 0) ?_ ?_ ?_
        · exact ⟨rfl, rfl, trivial⟩
        ·refine ⟨?_, HC⟩
         exact ⟨Nat.le_refl _, by decide, by omega, by decide, rfl⟩
        intro ⟨k, m⟩ G13 w12 ⟨⟨hk1, hk2, hk3, hm, hof⟩, HC⟩
        change wp _ _ _ _ _ (upds (over _ _ G13) [(8, .int .u8 (m : Int)), (9, .int .i64 (k : Int))]) _ _
        refine x_seq <| sr rfl <| mI rfl <| mI rfl <| mS rfl <| Wp rfl <| st_slen (ct := #[9]) T.u9 rfl <| Wp rfl <| st_min rfl rfl <| Wp rfl <| st_lss rfl rfl <| mB rfl <| w_split (d := 46) rfl (fun g14 => ?_) (fun g14 => ?_)
        ·try simp only [nm, ne_eq] at g14
         have hkl : k < 4 ∧ k < s.length := by omega
         refine w_yes 6 46 true <| st_move (v := S _) rfl <| w_yes 6 46 true <| st_move (v := .int _ _) rfl <| w_yes 6 46 true <| st_sidx T.u9 rfl rfl (by omega) (by omega) <| w_yes 6 46 true <| st_call (ags := [_]) rfl rfl T.ent32 rfl (oct_spec _ _) ?_
         rintro _ w15 ⟨rfl, c16⟩
         replace HC := HC.then c16
         refine pT rfl rfl <| en <| x_cond rfl (fun h5 => ?_) (fun h5 => ?_)
         ·try simp only [nm, ne_eq] at h5
          have hob : octB (byte s k) = true := by first | assumption | simp_all
          refine x_skip <| then_n <| x_seq <| x_block <| x_region rfl <| mI rfl <| Wp rfl <| st_shl rfl rfl (by decide) <| mS rfl <| mI rfl <| Wp rfl <| st_sidx T.u9 rfl rfl (by omega) (by omega) <| Wp rfl <| st_and rfl rfl <| Wp rfl <| st_or rfl rfl <| aI rfl <| wops_nil <| block_n <| then_n <| x_region rfl <| mI rfl <| Wp rfl <| st_addn rfl rfl (by constructor <;> omega) <| aI rfl <| en <| ⟨(k + 1, m * 8 % 256 + ((byte s k).toNat - 48)), ?_, ?_, rfl, ⟨(congrArg (Value.int .u8) (acc_or hm hob)), rfl, trivial⟩, ?_⟩
          ·refine ⟨?_, HC⟩
           exact ⟨by omega, by omega, by omega, by unfold octB at hob; rw [decide_eq_true_eq] at hob; omega, by rw [hof, octF_on (by omega) (by omega) hob]; ext <;> simp only <;> omega⟩
          ·show 4 - (k + 1) < 4 - k; omega
          repeat (first | exact agree_upds agree_over rfl | refine agree_upd ?_ rfl | refine agree_upds ?_ rfl | refine agree_over_sub ?_ rfl)
         ·try simp only [nm, ne_eq] at h5
          have hev : octF (4 - 1) (s.drop 1) 0 = (m, k - 1) := by rw [hof, octF_off (by first | omega | (right; right; first | assumption | simp_all))]; simp
          refine x_exit <| then_x <| then_x <| block_x <| then_n <| sr rfl <| mI rfl <| mI rfl <| aI rfl <| aI rfl <| en <| x_ret <| ret_tmp2 (v := .int _ _) (v2 := .int _ _) rfl rfl rfl <| ⟨?_, HC⟩
          unfold escV; rw [if_neg (by omega), if_neg h1, if_neg (by rintro ⟨h8, h9⟩; simp_all), if_neg (by first | assumption | simp_all)]
          rw [hen, hev]
          show _ = Value.tuple ⟨[.int .u8 (((UInt8.ofNat m).toNat : Nat) : Int), .int .i64 ((k - 1 + 1 : Nat) : Int)]⟩
          rw [u8_ofNat hm, show k - 1 + 1 = k by omega]
        ·try simp only [nm, ne_eq] at g14
         iterate 4 refine w_no 6 46 true ?_
         refine pF rfl rfl <| en <| x_cond (t := false) rfl (fun h5 => ?_) (fun h5 => ?_)
         · exact absurd h5 (by decide)
         have hev : octF (4 - 1) (s.drop 1) 0 = (m, k - 1) := by rw [hof, octF_off (by first | omega | (right; right; first | assumption | simp_all))]; simp
         refine x_exit <| then_x <| then_x <| block_x <| then_n <| sr rfl <| mI rfl <| mI rfl <| aI rfl <| aI rfl <| en <| x_ret <| ret_tmp2 (v := .int _ _) (v2 := .int _ _) rfl rfl rfl <| ⟨?_, HC⟩
         unfold escV; rw [if_neg (by omega), if_neg h1, if_neg (by rintro ⟨h8, h9⟩; simp_all), if_neg (by first | assumption | simp_all)]
         rw [hen, hev]
         show _ = Value.tuple ⟨[.int .u8 (((UInt8.ofNat m).toNat : Nat) : Int), .int .i64 ((k - 1 + 1 : Nat) : Int)]⟩
         rw [u8_ofNat hm, show k - 1 + 1 = k by omega]
      ·try simp only [nm, ne_eq] at g6
       iterate 3 refine w_no 1 33 true ?_
       refine pF rfl rfl <| en <| x_cond (t := false) rfl (fun h4 => ?_) (fun h4 => ?_)
       · exact absurd h4 (by decide)
       refine x_skip <| then_n <| x_seq ?_
       have hen : escN s arg = 4 := by unfold escN; rw [if_neg (by rintro ⟨h8, h9⟩; simp_all)]
       refine x_region rfl <| aI rfl <| aI rfl <| en <| x_seq <| x_block <| x_loop (ι := Nat × Nat) [8, 9, 40, 41, 42, 43, 44, 45, 46, 47, 48, 49, 50, 51, 52, 53, 54, 55, 56, 57, 58, 59, 60] (fun ⟨k, m⟩ => [(8, .int .u8 (m : Int)), (9, .int .i64 (k : Int))]) (fun ⟨k, m⟩ W => (1 ≤ k ∧ k ≤ 4 ∧ k ≤ s.length ∧ m < 256 ∧ octF (4 - 1) (s.drop 1) 0 = ((octF (4 - k) (s.drop k) m).1, (octF (4 - k) (s.drop k) m).2 + (k - 1))) ∧ (Chg [] w W)) (fun ⟨k, m⟩ => 4 - k) (1, 0) ?_ ?_ ?_
       · exact ⟨rfl, rfl, trivial⟩
       ·refine ⟨?_, HC⟩
        exact ⟨Nat.le_refl _, by decide, by omega, by decide, rfl⟩
       intro ⟨k, m⟩ G18 w17 ⟨⟨hk1, hk2, hk3, hm, hof⟩, HC⟩
       change wp _ _ _ _ _ (upds (over _ _ G18) [(8, .int .u8 (m : Int)), (9, .int .i64 (k : Int))]) _ _
       refine x_seq <| sr rfl <| mI rfl <| mI rfl <| mS rfl <| Wp rfl <| st_slen (ct := #[9]) T.u9 rfl <| Wp rfl <| st_min rfl rfl <| Wp rfl <| st_lss rfl rfl <| mB rfl <| w_split (d := 46) rfl (fun g19 => ?_) (fun g19 => ?_)
       ·try simp only [nm, ne_eq] at g19
        have hkl : k < 4 ∧ k < s.length := by omega
        refine w_yes 6 46 true <| st_move (v := S _) rfl <| w_yes 6 46 true <| st_move (v := .int _ _) rfl <| w_yes 6 46 true <| st_sidx T.u9 rfl rfl (by omega) (by omega) <| w_yes 6 46 true <| st_call (ags := [_]) rfl rfl T.ent32 rfl (oct_spec _ _) ?_
        rintro _ w20 ⟨rfl, c21⟩
        replace HC := HC.then c21
        refine pT rfl rfl <| en <| x_cond rfl (fun h5 => ?_) (fun h5 => ?_)
        ·try simp only [nm, ne_eq] at h5
         have hob : octB (byte s k) = true := by first | assumption | simp_all
         refine x_skip <| then_n <| x_seq <| x_block <| x_region rfl <| mI rfl <| Wp rfl <| st_shl rfl rfl (by decide) <| mS rfl <| mI rfl <| Wp rfl <| st_sidx T.u9 rfl rfl (by omega) (by omega) <| Wp rfl <| st_and rfl rfl <| Wp rfl <| st_or rfl rfl <| aI rfl <| wops_nil <| block_n <| then_n <| x_region rfl <| mI rfl <| Wp rfl <| st_addn rfl rfl (by constructor <;> omega) <| aI rfl <| en <| ⟨(k + 1, m * 8 % 256 + ((byte s k).toNat - 48)), ?_, ?_, rfl, ⟨(congrArg (Value.int .u8) (acc_or hm hob)), rfl, trivial⟩, ?_⟩
         ·refine ⟨?_, HC⟩
          exact ⟨by omega, by omega, by omega, by unfold octB at hob; rw [decide_eq_true_eq] at hob; omega, by rw [hof, octF_on (by omega) (by omega) hob]; ext <;> simp only <;> omega⟩
         ·show 4 - (k + 1) < 4 - k; omega
         repeat (first | exact agree_upds agree_over rfl | refine agree_upd ?_ rfl | refine agree_upds ?_ rfl | refine agree_over_sub ?_ rfl)
        ·try simp only [nm, ne_eq] at h5
         have hev : octF (4 - 1) (s.drop 1) 0 = (m, k - 1) := by rw [hof, octF_off (by first | omega | (right; right; first | assumption | simp_all))]; simp
         refine x_exit <| then_x <| then_x <| block_x <| then_n <| sr rfl <| mI rfl <| mI rfl <| aI rfl <| aI rfl <| en <| x_ret <| ret_tmp2 (v := .int _ _) (v2 := .int _ _) rfl rfl rfl <| ⟨?_, HC⟩
         unfold escV; rw [if_neg (by omega), if_neg h1, if_neg (by rintro ⟨h8, h9⟩; simp_all), if_neg (by first | assumption | simp_all)]
         rw [hen, hev]
         show _ = Value.tuple ⟨[.int .u8 (((UInt8.ofNat m).toNat : Nat) : Int), .int .i64 ((k - 1 + 1 : Nat) : Int)]⟩
         rw [u8_ofNat hm, show k - 1 + 1 = k by omega]
       ·try simp only [nm, ne_eq] at g19
        iterate 4 refine w_no 6 46 true ?_
        refine pF rfl rfl <| en <| x_cond (t := false) rfl (fun h5 => ?_) (fun h5 => ?_)
        · exact absurd h5 (by decide)
        have hev : octF (4 - 1) (s.drop 1) 0 = (m, k - 1) := by rw [hof, octF_off (by first | omega | (right; right; first | assumption | simp_all))]; simp
        refine x_exit <| then_x <| then_x <| block_x <| then_n <| sr rfl <| mI rfl <| mI rfl <| aI rfl <| aI rfl <| en <| x_ret <| ret_tmp2 (v := .int _ _) (v2 := .int _ _) rfl rfl rfl <| ⟨?_, HC⟩
        unfold escV; rw [if_neg (by omega), if_neg h1, if_neg (by rintro ⟨h8, h9⟩; simp_all), if_neg (by first | assumption | simp_all)]
        rw [hen, hev]
        show _ = Value.tuple ⟨[.int .u8 (((UInt8.ofNat m).toNat : Nat) : Int), .int .i64 ((k - 1 + 1 : Nat) : Int)]⟩
        rw [u8_ofNat hm, show k - 1 + 1 = k by omega]
   ·try simp only [nm, ne_eq] at g3
    refine w_no 3 24 true <| pF rfl rfl <| aB rfl <| en <| x_cond (t := false) rfl (fun h2 => ?_) (fun h2 => ?_)
    · exact absurd h2 (by decide)
    refine sr rfl <| mS rfl <| Wp rfl <| st_sidx T.u9 rfl rfl (by omega) (by omega) <| Wp rfl <| st_call (ags := [_]) rfl rfl T.ent32 rfl (oct_spec _ _) ?_
    rintro _ w22 ⟨rfl, c23⟩
    replace HC := HC.then c23
    refine Wp rfl <| st_not rfl <| aB rfl <| en <| x_cond rfl (fun h3 => ?_) (fun h3 => ?_)
    ·try simp only [nm, ne_eq] at h3
     refine sr rfl <| aI rfl <| aI rfl <| en <| x_ret <| block_r <| then_r <| ret_tmp2 (v := .int _ _) (v2 := .int _ _) rfl rfl rfl <| ⟨?_, HC⟩
     unfold escV; rw [if_neg (by omega), if_neg h1, if_neg (by rintro ⟨h8, h9⟩; simp_all), if_pos (by first | assumption | simp_all)]
     try rfl
    ·try simp only [nm, ne_eq] at h3
     have ho1 : octB (byte s 1) = true := by first | assumption | simp_all
     refine x_skip <| block_n <| then_n <| sr rfl <| aI rfl <| en <| x_seq <| sr rfl <| mB rfl <| mB rfl <| w_split (d := 33) rfl (fun g24 => ?_) (fun g24 => ?_)
     ·try simp only [nm, ne_eq] at g24
      refine w_yes 1 33 true <| st_move (v := S _) rfl <| w_yes 1 33 true <| st_sidx T.u9 rfl rfl (by omega) (by omega) <| w_yes 1 33 true <| st_eql rfl rfl <| pT rfl rfl <| en <| x_cond rfl (fun h4 => ?_) (fun h4 => ?_)
      ·try simp only [nm, ne_eq] at h4
       refine x_region rfl <| mI rfl <| Wp rfl <| st_addn rfl rfl (by constructor <;> omega) <| aI rfl <| en <| x_seq ?_
       have hen : escN s arg = 5 := by unfold escN; rw [if_pos ⟨by assumption, by assumption⟩]
       refine x_region rfl <| aI rfl <| aI rfl <| en <| x_seq <| x_block <| x_loop (ι := Nat × Nat) [8, 9, 40, 41, 42, 43, 44, 45, 46, 47, 48, 49, 50, 51, 52, 53, 54, 55, 56, 57, 58, 59, 60] (fun ⟨k, m⟩ => [(8, .int .u8 (m : Int)), (9, .int .i64 (k : Int))]) (fun ⟨k, m⟩ W => (1 ≤ k ∧ k ≤ 5 ∧ k ≤ s.length ∧ m < 256 ∧ octF (5 - 1) (s.drop 1) 0 = ((octF (5 - k) (s.drop k) m).1, (octF (5 - k) (s.drop k) m).2 + (k - 1))) ∧ (Chg [] w W)) (fun ⟨k, m⟩ => 5 - k) (1, 0) ?_ ?_ ?_
       · exact ⟨rfl, rfl, trivial⟩
       ·refine ⟨?_, HC⟩
        exact ⟨Nat.le_refl _, by decide, by omega, by decide, rfl⟩
       intro ⟨k, m⟩ G26 w25 ⟨⟨hk1, hk2, hk3, hm, hof⟩, HC⟩
       change wp _ _ _ _ _ (upds (over _ _ G26) [(8, .int .u8 (m : Int)), (9, .int .i64 (k : Int))]) _ _
       refine x_seq <| sr rfl <| mI rfl <| mI rfl <| mS rfl <| Wp rfl <| st_slen (ct := #[9]) T.u9 rfl <| Wp rfl <| st_min rfl rfl <| Wp rfl <| st_lss rfl rfl <| mB rfl <| w_split (d := 46) rfl (fun g27 => ?_) (fun g27 => ?_)
       ·try simp only [nm, ne_eq] at g27
        have hkl : k < 5 ∧ k < s.length := by omega
        refine w_yes 6 46 true <| st_move (v := S _) rfl <| w_yes 6 46 true <| st_move (v := .int _ _) rfl <| w_yes 6 46 true <| st_sidx T.u9 rfl rfl (by omega) (by omega) <| w_yes 6 46 true <| st_call (ags := [_]) rfl rfl T.ent32 rfl (oct_spec _ _) ?_
        rintro _ w28 ⟨rfl, c29⟩
        replace HC := HC.then c29
        refine pT rfl rfl <| en <| x_cond rfl (fun h5 => ?_) (fun h5 => ?_)
        ·try simp only [nm, ne_eq] at h5
         have hob : octB (byte s k) = true := by first | assumption | simp_all
         refine x_skip <| then_n <| x_seq <| x_block <| x_region rfl <| mI rfl <| Wp rfl <| st_shl rfl rfl (by decide) <| mS rfl <| mI rfl <| Wp rfl <| st_sidx T.u9 rfl rfl (by omega) (by omega) <| Wp rfl <| st_and rfl rfl <| Wp rfl <| st_or rfl rfl <| aI rfl <| wops_nil <| block_n <| then_n <| x_region rfl <| mI rfl <| Wp rfl <| st_addn rfl rfl (by constructor <;> omega) <| aI rfl <| en <| ⟨(k + 1, m * 8 % 256 + ((byte s k).toNat - 48)), ?_, ?_, rfl, ⟨(congrArg (Value.int .u8) (acc_or hm hob)), rfl, trivial⟩, ?_⟩
         ·refine ⟨?_, HC⟩
          exact ⟨by omega, by omega, by omega, by unfold octB at hob; rw [decide_eq_true_eq] at hob; omega, by rw [hof, octF_on (by omega) (by omega) hob]; ext <;> simp only <;> omega⟩
         ·show 5 - (k + 1) < 5 - k; omega
         repeat (first | exact agree_upds agree_over rfl | refine agree_upd ?_ rfl | refine agree_upds ?_ rfl | refine agree_over_sub ?_ rfl)
        ·try simp only [nm, ne_eq] at h5
         have hev : octF (5 - 1) (s.drop 1) 0 = (m, k - 1) := by rw [hof, octF_off (by first | omega | (right; right; first | assumption | simp_all))]; simp
         refine x_exit <| then_x <| then_x <| block_x <| then_n <| sr rfl <| mI rfl <| mI rfl <| aI rfl <| aI rfl <| en <| x_ret <| ret_tmp2 (v := .int _ _) (v2 := .int _ _) rfl rfl rfl <| ⟨?_, HC⟩
         unfold escV; rw [if_neg (by omega), if_neg h1, if_neg (by rintro ⟨h8, h9⟩; simp_all), if_neg (by first | assumption | simp_all)]
         rw [hen, hev]
         show _ = Value.tuple ⟨[.int .u8 (((UInt8.ofNat m).toNat : Nat) : Int), .int .i64 ((k - 1 + 1 : Nat) : Int)]⟩
         rw [u8_ofNat hm, show k - 1 + 1 = k by omega]
       ·try simp only [nm, ne_eq] at g27
        iterate 4 refine w_no 6 46 true ?_
        refine pF rfl rfl <| en <| x_cond (t := false) rfl (fun h5 => ?_) (fun h5 => ?_)
        · exact absurd h5 (by decide)
        have hev : octF (5 - 1) (s.drop 1) 0 = (m, k - 1) := by rw [hof, octF_off (by first | omega | (right; right; first | assumption | simp_all))]; simp
        refine x_exit <| then_x <| then_x <| block_x <| then_n <| sr rfl <| mI rfl <| mI rfl <| aI rfl <| aI rfl <| en <| x_ret <| ret_tmp2 (v := .int _ _) (v2 := .int _ _) rfl rfl rfl <| ⟨?_, HC⟩
        unfold escV; rw [if_neg (by omega), if_neg h1, if_neg (by rintro ⟨h8, h9⟩; simp_all), if_neg (by first | assumption | simp_all)]
        rw [hen, hev]
        show _ = Value.tuple ⟨[.int .u8 (((UInt8.ofNat m).toNat : Nat) : Int), .int .i64 ((k - 1 + 1 : Nat) : Int)]⟩
        rw [u8_ofNat hm, show k - 1 + 1 = k by omega]
      ·try simp only [nm, ne_eq] at h4
       refine x_skip <| then_n <| x_seq ?_
       have hen : escN s arg = 4 := by unfold escN; rw [if_neg (by rintro ⟨h8, h9⟩; simp_all)]
       refine x_region rfl <| aI rfl <| aI rfl <| en <| x_seq <| x_block <| x_loop (ι := Nat × Nat) [8, 9, 40, 41, 42, 43, 44, 45, 46, 47, 48, 49, 50, 51, 52, 53, 54, 55, 56, 57, 58, 59, 60] (fun ⟨k, m⟩ => [(8, .int .u8 (m : Int)), (9, .int .i64 (k : Int))]) (fun ⟨k, m⟩ W => (1 ≤ k ∧ k ≤ 4 ∧ k ≤ s.length ∧ m < 256 ∧ octF (4 - 1) (s.drop 1) 0 = ((octF (4 - k) (s.drop k) m).1, (octF (4 - k) (s.drop k) m).2 + (k - 1))) ∧ (Chg [] w W)) (fun ⟨k, m⟩ => 4 - k) (1, 0) ?_ ?_ ?_
       · exact ⟨rfl, rfl, trivial⟩
       ·refine ⟨?_, HC⟩
        exact ⟨Nat.le_refl _, by decide, by omega, by decide, rfl⟩
       intro ⟨k, m⟩ G31 w30 ⟨⟨hk1, hk2, hk3, hm, hof⟩, HC⟩
       change wp _ _ _ _ _ (upds (over _ _ G31) [(8, .int .u8 (m : Int)), (9, .int .i64 (k : Int))]) _ _
       refine x_seq <| sr rfl <| mI rfl <| mI rfl <| mS rfl <| Wp rfl <| st_slen (ct := #[9]) T.u9 rfl <| Wp rfl <| st_min rfl rfl <| Wp rfl <| st_lss rfl rfl <| mB rfl <| w_split (d := 46) rfl (fun g32 => ?_) (fun g32 => ?_)
       ·try simp only [nm, ne_eq] at g32
        have hkl : k < 4 ∧ k < s.length := by omega
        refine w_yes 6 46 true <| st_move (v := S _) rfl <| w_yes 6 46 true <| st_move (v := .int _ _) rfl <| w_yes 6 46 true <| st_sidx T.u9 rfl rfl (by omega) (by omega) <| w_yes 6 46 true <| st_call (ags := [_]) rfl rfl T.ent32 rfl (oct_spec _ _) ?_
        rintro _ w33 ⟨rfl, c34⟩
        replace HC := HC.then c34
        refine pT rfl rfl <| en <| x_cond rfl (fun h5 => ?_) (fun h5 => ?_)
        ·try simp only [nm, ne_eq] at h5
         have hob : octB (byte s k) = true := by first | assumption | simp_all
         refine x_skip <| then_n <| x_seq <| x_block <| x_region rfl <| mI rfl <| Wp rfl <| st_shl rfl rfl (by decide) <| mS rfl <| mI rfl <| Wp rfl <| st_sidx T.u9 rfl rfl (by omega) (by omega) <| Wp rfl <| st_and rfl rfl <| Wp rfl <| st_or rfl rfl <| aI rfl <| wops_nil <| block_n <| then_n <| x_region rfl <| mI rfl <| Wp rfl <| st_addn rfl rfl (by constructor <;> omega) <| aI rfl <| en <| ⟨(k + 1, m * 8 % 256 + ((byte s k).toNat - 48)), ?_, ?_, rfl, ⟨(congrArg (Value.int .u8) (acc_or hm hob)), rfl, trivial⟩, ?_⟩
         ·refine ⟨?_, HC⟩
          exact ⟨by omega, by omega, by omega, by unfold octB at hob; rw [decide_eq_true_eq] at hob; omega, by rw [hof, octF_on (by omega) (by omega) hob]; ext <;> simp only <;> omega⟩
         ·show 4 - (k + 1) < 4 - k; omega
         repeat (first | exact agree_upds agree_over rfl | refine agree_upd ?_ rfl | refine agree_upds ?_ rfl | refine agree_over_sub ?_ rfl)
        ·try simp only [nm, ne_eq] at h5
         have hev : octF (4 - 1) (s.drop 1) 0 = (m, k - 1) := by rw [hof, octF_off (by first | omega | (right; right; first | assumption | simp_all))]; simp
         refine x_exit <| then_x <| then_x <| block_x <| then_n <| sr rfl <| mI rfl <| mI rfl <| aI rfl <| aI rfl <| en <| x_ret <| ret_tmp2 (v := .int _ _) (v2 := .int _ _) rfl rfl rfl <| ⟨?_, HC⟩
         unfold escV; rw [if_neg (by omega), if_neg h1, if_neg (by rintro ⟨h8, h9⟩; simp_all), if_neg (by first | assumption | simp_all)]
         rw [hen, hev]
         show _ = Value.tuple ⟨[.int .u8 (((UInt8.ofNat m).toNat : Nat) : Int), .int .i64 ((k - 1 + 1 : Nat) : Int)]⟩
         rw [u8_ofNat hm, show k - 1 + 1 = k by omega]
       ·try simp only [nm, ne_eq] at g32
        iterate 4 refine w_no 6 46 true ?_
        refine pF rfl rfl <| en <| x_cond (t := false) rfl (fun h5 => ?_) (fun h5 => ?_)
        · exact absurd h5 (by decide)
        have hev : octF (4 - 1) (s.drop 1) 0 = (m, k - 1) := by rw [hof, octF_off (by first | omega | (right; right; first | assumption | simp_all))]; simp
        refine x_exit <| then_x <| then_x <| block_x <| then_n <| sr rfl <| mI rfl <| mI rfl <| aI rfl <| aI rfl <| en <| x_ret <| ret_tmp2 (v := .int _ _) (v2 := .int _ _) rfl rfl rfl <| ⟨?_, HC⟩
        unfold escV; rw [if_neg (by omega), if_neg h1, if_neg (by rintro ⟨h8, h9⟩; simp_all), if_neg (by first | assumption | simp_all)]
        rw [hen, hev]
        show _ = Value.tuple ⟨[.int .u8 (((UInt8.ofNat m).toNat : Nat) : Int), .int .i64 ((k - 1 + 1 : Nat) : Int)]⟩
        rw [u8_ofNat hm, show k - 1 + 1 = k by omega]
     ·try simp only [nm, ne_eq] at g24
      iterate 3 refine w_no 1 33 true ?_
      refine pF rfl rfl <| en <| x_cond (t := false) rfl (fun h4 => ?_) (fun h4 => ?_)
      · exact absurd h4 (by decide)
      refine x_skip <| then_n <| x_seq ?_
      have hen : escN s arg = 4 := by unfold escN; rw [if_neg (by rintro ⟨h8, h9⟩; simp_all)]
      refine x_region rfl <| aI rfl <| aI rfl <| en <| x_seq <| x_block <| x_loop (ι := Nat × Nat) [8, 9, 40, 41, 42, 43, 44, 45, 46, 47, 48, 49, 50, 51, 52, 53, 54, 55, 56, 57, 58, 59, 60] (fun ⟨k, m⟩ => [(8, .int .u8 (m : Int)), (9, .int .i64 (k : Int))]) (fun ⟨k, m⟩ W => (1 ≤ k ∧ k ≤ 4 ∧ k ≤ s.length ∧ m < 256 ∧ octF (4 - 1) (s.drop 1) 0 = ((octF (4 - k) (s.drop k) m).1, (octF (4 - k) (s.drop k) m).2 + (k - 1))) ∧ (Chg [] w W)) (fun ⟨k, m⟩ => 4 - k) (1, 0) ?_ ?_ ?_
      · exact ⟨rfl, rfl, trivial⟩
      ·refine ⟨?_, HC⟩
       exact ⟨Nat.le_refl _, by decide, by omega, by decide, rfl⟩
      intro ⟨k, m⟩ G36 w35 ⟨⟨hk1, hk2, hk3, hm, hof⟩, HC⟩
      change wp _ _ _ _ _ (upds (over _ _ G36) [(8, .int .u8 (m : Int)), (9, .int .i64 (k : Int))]) _ _
      refine x_seq <| sr rfl <| mI rfl <| mI rfl <| mS rfl <| Wp rfl <| st_slen (ct := #[9]) T.u9 rfl <| Wp rfl <| st_min rfl rfl <| Wp rfl <| st_lss rfl rfl <| mB rfl <| w_split (d := 46) rfl (fun g37 => ?_) (fun g37 => ?_)
      ·try simp only [nm, ne_eq] at g37
       have hkl : k < 4 ∧ k < s.length := by omega
       refine w_yes 6 46 true <| st_move (v := S _) rfl <| w_yes 6 46 true <| st_move (v := .int _ _) rfl <| w_yes 6 46 true <| st_sidx T.u9 rfl rfl (by omega) (by omega) <| w_yes 6 46 true <| st_call (ags := [_]) rfl rfl T.ent32 rfl (oct_spec _ _) ?_
       rintro _ w38 ⟨rfl, c39⟩
       replace HC := HC.then c39
       refine pT rfl rfl <| en <| x_cond rfl (fun h5 => ?_) (fun h5 => ?_)
       ·try simp only [nm, ne_eq] at h5
        have hob : octB (byte s k) = true := by first | assumption | simp_all
        refine x_skip <| then_n <| x_seq <| x_block <| x_region rfl <| mI rfl <| Wp rfl <| st_shl rfl rfl (by decide) <| mS rfl <| mI rfl <| Wp rfl <| st_sidx T.u9 rfl rfl (by omega) (by omega) <| Wp rfl <| st_and rfl rfl <| Wp rfl <| st_or rfl rfl <| aI rfl <| wops_nil <| block_n <| then_n <| x_region rfl <| mI rfl <| Wp rfl <| st_addn rfl rfl (by constructor <;> omega) <| aI rfl <| en <| ⟨(k + 1, m * 8 % 256 + ((byte s k).toNat - 48)), ?_, ?_, rfl, ⟨(congrArg (Value.int .u8) (acc_or hm hob)), rfl, trivial⟩, ?_⟩
        ·refine ⟨?_, HC⟩
         exact ⟨by omega, by omega, by omega, by unfold octB at hob; rw [decide_eq_true_eq] at hob; omega, by rw [hof, octF_on (by omega) (by omega) hob]; ext <;> simp only <;> omega⟩
        ·show 4 - (k + 1) < 4 - k; omega
        repeat (first | exact agree_upds agree_over rfl | refine agree_upd ?_ rfl | refine agree_upds ?_ rfl | refine agree_over_sub ?_ rfl)
       ·try simp only [nm, ne_eq] at h5
        have hev : octF (4 - 1) (s.drop 1) 0 = (m, k - 1) := by rw [hof, octF_off (by first | omega | (right; right; first | assumption | simp_all))]; simp
        refine x_exit <| then_x <| then_x <| block_x <| then_n <| sr rfl <| mI rfl <| mI rfl <| aI rfl <| aI rfl <| en <| x_ret <| ret_tmp2 (v := .int _ _) (v2 := .int _ _) rfl rfl rfl <| ⟨?_, HC⟩
        unfold escV; rw [if_neg (by omega), if_neg h1, if_neg (by rintro ⟨h8, h9⟩; simp_all), if_neg (by first | assumption | simp_all)]
        rw [hen, hev]
        show _ = Value.tuple ⟨[.int .u8 (((UInt8.ofNat m).toNat : Nat) : Int), .int .i64 ((k - 1 + 1 : Nat) : Int)]⟩
        rw [u8_ofNat hm, show k - 1 + 1 = k by omega]
      ·try simp only [nm, ne_eq] at g37
       iterate 4 refine w_no 6 46 true ?_
       refine pF rfl rfl <| en <| x_cond (t := false) rfl (fun h5 => ?_) (fun h5 => ?_)
       · exact absurd h5 (by decide)
       have hev : octF (4 - 1) (s.drop 1) 0 = (m, k - 1) := by rw [hof, octF_off (by first | omega | (right; right; first | assumption | simp_all))]; simp
       refine x_exit <| then_x <| then_x <| block_x <| then_n <| sr rfl <| mI rfl <| mI rfl <| aI rfl <| aI rfl <| en <| x_ret <| ret_tmp2 (v := .int _ _) (v2 := .int _ _) rfl rfl rfl <| ⟨?_, HC⟩
       unfold escV; rw [if_neg (by omega), if_neg h1, if_neg (by rintro ⟨h8, h9⟩; simp_all), if_neg (by first | assumption | simp_all)]
       rw [hen, hev]
       show _ = Value.tuple ⟨[.int .u8 (((UInt8.ofNat m).toNat : Nat) : Int), .int .i64 ((k - 1 + 1 : Nat) : Int)]⟩
       rw [u8_ofNat hm, show k - 1 + 1 = k by omega]

theorem Escapes_spec (s : Bytes) (w : World) (hs : s.length ≤ 100000000000000) : CallR Tryd.prog 11 #[S s] w fun v w' => v = .tuple ⟨[S (escsV s).1, .bool (escsV s).2]⟩ ∧ Chg [] w w' := by
 refine callR_of_wp (args := [_]) Tryd.func11 rfl (Nat.le_of_ble_eq_true rfl) ?_
 have HC : Chg [] w w := .refl _
 refine sr rfl <| aS rfl <| aB rfl <| en <| sr rfl <| Wp rfl <| st_alloc T.zero40 ?_
 intro b4 w1 e2 c3 hb4
 have ge_b4 : w.heap.size ≤ b4 := by rw [e2]; exact HC.size
 replace HC := HC.then c3
 clear e2
 refine en <| x_seq <| x_block ?_
 have hbd := BldP.new hb4
 refine x_loop (ι := Bytes × Nat × Bytes × Option Addr × Nat) [0, 2, 3, 5, 6, 7, 8, 9, 10, 11, 12, 13, 14, 15, 16, 17, 18, 19, 20, 21, 22, 23, 24, 25] (fun ⟨rest, j, out, A, cap⟩ => [(0, S rest)]) (fun ⟨rest, j, out, A, cap⟩ W => (rest.length < j ∧ out.length + rest.length ≤ s.length ∧ escsF (s.length + 1) s = (out ++ (escsF j rest).1, (escsF j rest).2) ∧ ∀ k, k ∈ ob A → w.heap.size ≤ k) ∧ (Chg [] w W) ∧ (BldP W b4 A cap out [])) (fun ⟨rest, j, out, A, cap⟩ => j) (s, s.length + 1, [], none, 0) ?_ ?_ ?_
 · exact ⟨rfl, trivial⟩
 ·refine ⟨?_, HC, hbd⟩
  exact ⟨Nat.lt_succ_self _, by simp, by simp, fun k hk => by cases hk⟩
 intro ⟨rest, j, out, A, cap⟩ G6 w5 ⟨⟨hj, hol, htot, hob⟩, HC, hbd⟩
 change wp _ _ _ _ _ (upds (over _ _ G6) [(0, S rest)]) _ _
 refine x_seq <| sr rfl <| mS rfl <| Wp rfl <| st_sneq rfl rfl <| en <| x_cond rfl (fun h0 => ?_) (fun h0 => ?_)
 ·try simp only [nm, ne_eq] at h0
  obtain ⟨c, r', rfl⟩ := List.exists_cons_of_ne_nil h0
  obtain ⟨j, rfl⟩ : ∃ i, j = i + 1 := ⟨j - 1, by omega⟩
  refine x_skip <| then_n <| x_block <| sr rfl <| mS rfl <| Wp rfl <| st_sidx T.u9 rfl rfl (by decide) (by (simp only [List.length_cons]; omega)) <| aI rfl <| aI rfl <| en <| x_seq <| sr rfl <| mI rfl <| Wp rfl <| st_eql rfl rfl <| en <| x_cond rfl (fun h1 => ?_) (fun h1 => ?_)
  ·try simp only [nm, ne_eq] at h1
   have hc92 : c.toNat = 92 := by have h9 : ((c.toNat : Nat) : Int) = 92 := h1; omega
   have hei := esc_in (c :: r') true (by simp)
   refine x_region rfl <| mS rfl <| Wp rfl <| st_call (ags := [_, _]) rfl rfl T.ent20 rfl (escape_spec (c :: r') true _ (by simp only [List.length_cons] at *; omega)) ?_
   rintro _ w7 ⟨rfl, c8⟩
   replace HC := HC.then c8
   replace hbd := hbd.tr0 c8
   refine mv (v := .tuple ⟨[_, _]⟩) rfl <| Wp rfl <| st_extract (vs := [_, _]) (v := .int _ _) rfl rfl <| Wp rfl <| st_extract (vs := [_, _]) (v := .int _ _) rfl rfl <| aI rfl <| aI rfl <| en <| x_seq <| sr rfl <| mI rfl <| Wp rfl <| st_lss rfl rfl <| en <| x_cond rfl (fun h2 => ?_) (fun h2 => ?_)
   ·try simp only [nm, ne_eq] at h2
    have hev : escsV s = (out, true) := by unfold escsV; rw [htot, escsF, if_pos hc92, if_pos (by first | assumption | omega)]; simp
    refine sr rfl <| Wp rfl <| st_call (ags := [_]) rfl rfl T.ent18 rfl (StringP_spec hbd) ?_
    rintro _ w9 ⟨rfl, hbz11, c10⟩
    replace HC := HC.trans c10 (fun k hk => .inr (hob k hk))
    refine aS rfl <| aB rfl <| en <| x_ret <| then_r <| block_r <| then_r <| block_r <| then_r <| ret_tmp2 (v := S _) (v2 := .bool _) rfl rfl rfl ?_
    rw [hev]
    exact ⟨rfl, HC⟩
   ·try simp only [nm, ne_eq] at h2
    refine x_skip <| then_n <| sr rfl <| mI rfl <| Wp rfl <| st_call (ags := [_, _]) rfl rfl T.ent21 rfl (WriteByteP_spec (escV (c :: r') true).1 hbd (by simp only [List.length_cons] at *; omega)) ?_
    rintro _ w12 ⟨rfl, A14, cap15, hbd16, c13, hgr17⟩
    have hszW := HC.size
    replace HC := HC.trans c13 (fun k hk => (List.mem_cons.1 hk).elim (fun h => .inr (by rw [h]; exact ge_b4)) (fun h => .inr (hob k h)))
    replace hob : ∀ k, k ∈ ob A14 → w.heap.size ≤ k := fun k hk => (hgr17 k hk).elim (fun h => hob k h) (fun h => by omega)
    refine en ?_
    obtain ⟨n, hn⟩ : ∃ n : Nat, (escV (c :: r') true).2 = (n : Int) := ⟨(escV (c :: r') true).2.toNat, by omega⟩
    rw [hn] at hei ⊢
    refine x_region rfl <| mS rfl <| mI rfl <| Wp rfl <| st_sslo (i := n) T.u9 rfl ⟨_, rfl⟩ (by (simp only [List.length_cons] at *; omega)) <| aS rfl <| wops_nil <| block_n <| then_n <| ⟨((c :: r').drop n, j, out ++ [(escV (c :: r') true).1], A14, cap15), ?_, ?_, rfl, ⟨rfl, trivial⟩, ?_⟩
    ·refine ⟨?_, HC, hbd16⟩
     exact ⟨by rw [List.length_drop]; simp only [List.length_cons] at *; omega, by rw [List.length_drop]; simp only [List.length_append, List.length_cons, List.length_nil] at *; omega, by rw [htot, escsF, if_pos hc92, if_neg (by omega), hn, Int.toNat_natCast]; simp, hob⟩
    ·show j < j + 1; omega
    repeat (first | exact agree_upds agree_over rfl | refine agree_upd ?_ rfl | refine agree_upds ?_ rfl | refine agree_over_sub ?_ rfl)
  ·try simp only [nm, ne_eq] at h1
   have hc92 : ¬ c.toNat = 92 := by have h9 : ¬ ((c.toNat : Nat) : Int) = 92 := h1; omega
   refine x_skip <| then_n <| x_seq <| sr rfl <| mI rfl <| Wp rfl <| st_lss rfl rfl <| en <| x_cond rfl (fun h2 => ?_) (fun h2 => ?_)
   ·try simp only [nm, ne_eq] at h2
    first | exact absurd rfl h2 | exact absurd trivial h2 | (simp at h2; done)
   ·try simp only [nm, ne_eq] at h2
    refine x_skip <| then_n <| sr rfl <| mI rfl <| Wp rfl <| st_call (ags := [_, _]) rfl rfl T.ent21 rfl (WriteByteP_spec c hbd (by simp only [List.length_cons] at *; omega)) ?_
    rintro _ w18 ⟨rfl, A20, cap21, hbd22, c19, hgr23⟩
    have hszW := HC.size
    replace HC := HC.trans c19 (fun k hk => (List.mem_cons.1 hk).elim (fun h => .inr (by rw [h]; exact ge_b4)) (fun h => .inr (hob k h)))
    replace hob : ∀ k, k ∈ ob A20 → w.heap.size ≤ k := fun k hk => (hgr23 k hk).elim (fun h => hob k h) (fun h => by omega)
    refine en <| x_region rfl <| mS rfl <| mI rfl <| Wp rfl <| st_sslo (i := 1) T.u9 rfl ⟨_, rfl⟩ (by (simp only [List.length_cons] at *; omega)) <| aS rfl <| wops_nil <| block_n <| then_n <| ⟨((c :: r').drop 1, j, out ++ [c], A20, cap21), ?_, ?_, rfl, ⟨rfl, trivial⟩, ?_⟩
    ·refine ⟨?_, HC, hbd22⟩
     exact ⟨by simp only [List.drop_succ_cons, List.drop_zero, List.length_cons] at *; omega, by simp only [List.drop_succ_cons, List.drop_zero, List.length_append, List.length_cons, List.length_nil] at *; omega, by rw [htot, escsF, if_neg hc92]; simp, hob⟩
    ·show j < j + 1; omega
    repeat (first | exact agree_upds agree_over rfl | refine agree_upd ?_ rfl | refine agree_upds ?_ rfl | refine agree_over_sub ?_ rfl)
 ·try simp only [nm, ne_eq] at h0
  have hre : rest = [] := by first | assumption | simpa using h0
  obtain ⟨j, rfl⟩ : ∃ i, j = i + 1 := ⟨j - 1, by omega⟩
  have hev : escsV s = (out, false) := by unfold escsV; rw [htot, hre]; simp [escsF]
  refine x_exit <| then_x <| then_x <| block_x <| then_n <| sr rfl <| Wp rfl <| st_call (ags := [_]) rfl rfl T.ent18 rfl (StringP_spec hbd) ?_
  rintro _ w24 ⟨rfl, hbz26, c25⟩
  replace HC := HC.trans c25 (fun k hk => .inr (hob k hk))
  refine aS rfl <| aB rfl <| en <| x_ret <| ret_tmp2 (v := S _) (v2 := .bool _) rfl rfl rfl ?_
  rw [hev]
  exact ⟨rfl, HC⟩

end Go.Proofs.YtlpndcpbnbeohaaDoor.K
