/- The law EchoNumbers. -/
import Derived.Test.YtlpndcpbnbeohaaDoorEl
set_option linter.unusedVariables false
set_option linter.unusedSimpArgs false
set_option autoImplicit false
set_option maxRecDepth 20000
namespace Go.Proofs.YtlpndcpbnbeohaaDoor.K
open Go Go.Proofs Go.RowKit

theorem text_nat (m : Nat) : textV (m : Int) = basV 10 m := by
  unfold textV sgV abN; rw [if_neg (by omega), if_neg (by omega)]; rfl
theorem RTextN_spec (m : Nat) (w : World) (hm : m ≤ 1000) : CallR Tryd.prog 15 #[.int .i64 (m : Int)] w fun v w' => v = S (basV 10 m) ∧ Chg [] w w' := by
  have := RText_spec (m : Int) (by omega) (by omega) w
  rw [text_nat] at this; exact this
theorem text_len {n : Int} (h0 : -9223372036854775808 ≤ n) (h1 : n ≤ 9223372036854775807) : (textV n).length ≤ 23 := by
  have h4 := bas_lenU (n := abN n) (by unfold abN; split <;> omega)
  unfold textV sgV; rw [List.length_append]; split <;> simp only [List.length_cons, List.length_nil] <;> omega
theorem byte_rep {k i : Nat} {c : UInt8} {a b : Bytes} (h : i < k) : byte (a ++ (List.replicate k c ++ b)) (a.length + i) = c := by
  unfold byte
  rw [List.getD_eq_getElem?_getD, List.getElem?_append_right (by omega), show a.length + i - a.length = i by omega, List.getElem?_append_left (by simpa using h)]
  simp [h]
structure Nums (n : Int) (W : Nat) (U L Z : Bytes) (K g : Nat) : Prop where
  u : U = List.replicate K 32 ++ textV n
  l : L = textV n ++ List.replicate K 32
  z : Z = sgV n ++ (List.replicate K 48 ++ basV 10 (abN n))
  k : K = W - (textV n).length
  g : g = (sgV n).length
theorem Nums.ul {n : Int} {W K g : Nat} {U L Z : Bytes} (h : Nums n W U L Z K g) : U.length = K + (textV n).length ∧ L.length = K + (textV n).length ∧ Z.length = K + (textV n).length ∧ g ≤ (textV n).length := by
  obtain ⟨rfl, rfl, rfl, hk, rfl⟩ := h
  have e : (textV n).length = (sgV n).length + (basV 10 (abN n)).length := by unfold textV; exact List.length_append
  refine ⟨by rw [List.length_append, List.length_replicate], by rw [List.length_append, List.length_replicate, Nat.add_comm], by rw [List.length_append, List.length_append, List.length_replicate, e]; omega, by omega⟩
theorem Nums.ub {n : Int} {W K g : Nat} {U L Z : Bytes} (h : Nums n W U L Z K g) {i : Nat} (hi : i < K) : (byte U i).toNat = 32 ∧ (byte L ((textV n).length + i)).toNat = 32 ∧ (byte Z (g + i)).toNat = 48 := by
  obtain ⟨rfl, rfl, rfl, _, rfl⟩ := h
  refine ⟨?_, ?_, ?_⟩
  · have := byte_rep (c := 32) (a := []) (b := textV n) hi
    rw [List.nil_append, List.length_nil, Nat.zero_add] at this; rw [this]; rfl
  · have := byte_rep (c := 32) (a := textV n) (b := []) hi
    rw [List.append_nil] at this; rw [this]; rfl
  · rw [byte_rep hi]; rfl
theorem Nums.cut {n : Int} {W K g : Nat} {U L Z : Bytes} (h : Nums n W U L Z K g) : U.drop K = textV n ∧ L.take (textV n).length = textV n ∧ Z.take g ++ Z.drop (g + K) = textV n := by
  obtain ⟨rfl, rfl, rfl, _, rfl⟩ := h
  refine ⟨List.drop_left' (List.length_replicate ..), List.take_left, ?_⟩
  rw [List.take_left, List.drop_append, List.drop_of_length_le (by omega), show (sgV n).length + K - (sgV n).length = K by omega, List.drop_left' (List.length_replicate ..)]; rfl
theorem padN_k (W : Nat) (n : Int) : padN W n = W - (textV n).length := Int.toNat_sub W _

theorem EchoNumbers_spec {w : World} (n : Int) (w0 : Nat) (hn0 : -9223372036854775808 ≤ n) (hn1 : n ≤ 9223372036854775807) (hw0 : w0 ≤ 65535) : CallR Tryd.prog 5 #[.int .i64 n, .int .u16 (w0 : Int)] w fun v w' => v = .bool true ∧ Chg [] w w' := by
 obtain ⟨W, hW⟩ : ∃ W, W = w0 % 1001 := ⟨_, rfl⟩
 have hW1 : W ≤ 1000 := by omega
 have hrem : ((w0 : Nat) : Int).tmod 1001 = ((W : Nat) : Int) := by rw [Int.tmod_eq_emod_of_nonneg (by omega)]; omega
 have htl := text_len hn0 hn1
 have hbl := bas_lenU (n := W) (by omega)
 refine callR_of_wp (args := [_, _]) Tryd.func5 rfl (Nat.le_of_ble_eq_true rfl) ?_
 have HC : Chg [] w w := .refl _
 refine sr rfl <| aB rfl <| en <| x_seq <| sr rfl <| mI rfl <| Wp rfl <| st_eql rfl rfl <| en <| x_cond rfl (fun h0 => ?_) (fun h0 => ?_)
 ·try simp only [nm, ne_eq] at h0
  refine sr rfl <| Wp rfl <| st_call (ags := []) rfl rfl T.ent8 rfl (awake23_spec) ?_
  rintro _ w1 ⟨rfl, c2⟩
  replace HC := HC.then c2
  refine aB rfl <| en <| x_ret <| then_r <| ret_tmp (v := .bool _) rfl rfl ?_
  exact ⟨rfl, HC⟩
 ·try simp only [nm, ne_eq] at h0
  have hn2 : -9223372036854775808 < n := by omega
  have hp1 := printf_1 hn2 hn1
  have hp2 := printf_2 hW1 hn2 hn1
  have hp3 := printf_3 hW1 hn2 hn1
  have hp4 := printf_4 hW1 hn2 hn1
  obtain ⟨U, L, Z, K, g, hN⟩ : ∃ U L Z K g, Nums n W U L Z K g := ⟨_, _, _, _, _, rfl, rfl, rfl, rfl, rfl⟩
  rw [padN_k, ← hN.k] at hp2 hp3 hp4
  rw [← hN.u] at hp2
  rw [← hN.l] at hp3
  rw [← hN.z] at hp4
  have hNl := hN.ul
  have hNk := hN.k
  have hNc := hN.cut
  refine x_skip <| then_n <| sr rfl <| mI rfl <| Wp rfl <| st_call (ags := [_]) rfl rfl T.ent15 rfl (RText_spec n hn0 hn1 _) ?_
  rintro _ w3 ⟨rfl, c4⟩
  replace HC := HC.then c4
  refine aS rfl <| en <| sr rfl <| mI rfl <| Wp rfl <| st_convk T.u32 T.u3 rfl (by exact wrap64_id (by omega) (by omega)) <| Wp rfl <| st_remk rfl rfl (by decide) (by exact hrem) <| aI rfl <| en <| sr rfl <| mS rfl <| Wp rfl <| st_lit (ps := [(0, .const (S [37, 100])), (1, .tmp 27)]) (vs := [S _, S _]) T.lit22 (by decide) rfl (by simp only [List.forall_mem_cons, List.not_mem_nil, false_imp_iff, implies_true, and_true]; exact ⟨rfl, rfl⟩) rfl ?_
  intro b5 w6 e7 c8 hb9
  have ge_b5 : w.heap.size ≤ b5 := by rw [e7]; exact HC.size
  replace HC := HC.then c8
  clear e7
  refine Wp rfl <| st_call (ags := [_]) rfl rfl T.ent9 rfl (Printf_spec (args := [[37, 100], (textV n)]) (c := 2) (sl_lit (f := fun s : Bytes => [S s]) [[37, 100], (textV n)] (by simp) hb9) (Nat.le_refl _) (fun s hs => by simp only [List.mem_cons, List.mem_nil_iff, or_false] at hs; rcases hs with rfl | rfl <;> (try simp only [List.length_append, List.length_cons, List.length_nil]) <;> omega)) ?_
  rintro vT1 w10 ⟨hvT, c11⟩
  rw [hp1] at hvT
  change vT1 = .tuple ⟨[S (textV n), .int .i64 0]⟩ at hvT
  subst hvT
  replace HC := HC.then c11
  replace hb9 := hb9.tr0 c11
  refine mv (v := .tuple ⟨[_, _]⟩) rfl <| Wp rfl <| st_extract (vs := [_, _]) (v := S _) rfl rfl <| Wp rfl <| st_extract (vs := [_, _]) (v := .int _ _) rfl rfl <| aS rfl <| aI rfl <| en <| sr rfl <| mI rfl <| Wp rfl <| st_call (ags := [_]) rfl rfl T.ent15 rfl (RTextN_spec W _ hW1) ?_
  rintro _ w12 ⟨rfl, c13⟩
  replace HC := HC.then c13
  replace hb9 := hb9.tr0 c13
  refine Wp rfl <| st_sadd rfl rfl (by (simp only [List.length_append, List.length_cons, List.length_nil]; omega)) <| Wp rfl <| st_sadd rfl rfl (by (simp only [List.length_append, List.length_cons, List.length_nil]; omega)) <| mS rfl <| Wp rfl <| st_lit (ps := [(0, .tmp 36), (1, .tmp 37)]) (vs := [S _, S _]) T.lit22 (by decide) rfl (by simp only [List.forall_mem_cons, List.not_mem_nil, false_imp_iff, implies_true, and_true]; exact ⟨rfl, rfl⟩) rfl ?_
  intro b14 w15 e16 c17 hb18
  have ge_b14 : w.heap.size ≤ b14 := by rw [e16]; exact HC.size
  have ne_b5_b14 : b5 ≠ b14 := by rw [e16]; exact hb9.ne_size
  replace HC := HC.then c17
  replace hb9 := hb9.tr0 c17
  clear e16
  refine Wp rfl <| st_call (ags := [_]) rfl rfl T.ent9 rfl (Printf_spec (args := [([37] ++ basV 10 W ++ [100]), (textV n)]) (c := 2) (sl_lit (f := fun s : Bytes => [S s]) [([37] ++ basV 10 W ++ [100]), (textV n)] (by simp) hb18) (Nat.le_refl _) (fun s hs => by simp only [List.mem_cons, List.mem_nil_iff, or_false] at hs; rcases hs with rfl | rfl <;> (try simp only [List.length_append, List.length_cons, List.length_nil]) <;> omega)) ?_
  rintro vT2 w19 ⟨hvT, c20⟩
  rw [hp2] at hvT
  change vT2 = .tuple ⟨[S U, .int .i64 0]⟩ at hvT
  subst hvT
  replace HC := HC.then c20
  replace hb9 := hb9.tr0 c20
  replace hb18 := hb18.tr0 c20
  refine mv (v := .tuple ⟨[_, _]⟩) rfl <| Wp rfl <| st_extract (vs := [_, _]) (v := S _) rfl rfl <| Wp rfl <| st_extract (vs := [_, _]) (v := .int _ _) rfl rfl <| aS rfl <| aI rfl <| en <| sr rfl <| mI rfl <| Wp rfl <| st_call (ags := [_]) rfl rfl T.ent15 rfl (RTextN_spec W _ hW1) ?_
  rintro _ w21 ⟨rfl, c22⟩
  replace HC := HC.then c22
  replace hb9 := hb9.tr0 c22
  replace hb18 := hb18.tr0 c22
  refine Wp rfl <| st_sadd rfl rfl (by (simp only [List.length_append, List.length_cons, List.length_nil]; omega)) <| Wp rfl <| st_sadd rfl rfl (by (simp only [List.length_append, List.length_cons, List.length_nil]; omega)) <| mS rfl <| Wp rfl <| st_lit (ps := [(0, .tmp 46), (1, .tmp 47)]) (vs := [S _, S _]) T.lit22 (by decide) rfl (by simp only [List.forall_mem_cons, List.not_mem_nil, false_imp_iff, implies_true, and_true]; exact ⟨rfl, rfl⟩) rfl ?_
  intro b23 w24 e25 c26 hb27
  have ge_b23 : w.heap.size ≤ b23 := by rw [e25]; exact HC.size
  have ne_b5_b23 : b5 ≠ b23 := by rw [e25]; exact hb9.ne_size
  have ne_b14_b23 : b14 ≠ b23 := by rw [e25]; exact hb18.ne_size
  replace HC := HC.then c26
  replace hb9 := hb9.tr0 c26
  replace hb18 := hb18.tr0 c26
  clear e25
  refine Wp rfl <| st_call (ags := [_]) rfl rfl T.ent9 rfl (Printf_spec (args := [([37, 45] ++ basV 10 W ++ [100]), (textV n)]) (c := 2) (sl_lit (f := fun s : Bytes => [S s]) [([37, 45] ++ basV 10 W ++ [100]), (textV n)] (by simp) hb27) (Nat.le_refl _) (fun s hs => by simp only [List.mem_cons, List.mem_nil_iff, or_false] at hs; rcases hs with rfl | rfl <;> (try simp only [List.length_append, List.length_cons, List.length_nil]) <;> omega)) ?_
  rintro vT3 w28 ⟨hvT, c29⟩
  rw [hp3] at hvT
  change vT3 = .tuple ⟨[S L, .int .i64 0]⟩ at hvT
  subst hvT
  replace HC := HC.then c29
  replace hb9 := hb9.tr0 c29
  replace hb18 := hb18.tr0 c29
  replace hb27 := hb27.tr0 c29
  refine mv (v := .tuple ⟨[_, _]⟩) rfl <| Wp rfl <| st_extract (vs := [_, _]) (v := S _) rfl rfl <| Wp rfl <| st_extract (vs := [_, _]) (v := .int _ _) rfl rfl <| aS rfl <| aI rfl <| en <| sr rfl <| mI rfl <| Wp rfl <| st_call (ags := [_]) rfl rfl T.ent15 rfl (RTextN_spec W _ hW1) ?_
  rintro _ w30 ⟨rfl, c31⟩
  replace HC := HC.then c31
  replace hb9 := hb9.tr0 c31
  replace hb18 := hb18.tr0 c31
  replace hb27 := hb27.tr0 c31
  refine Wp rfl <| st_sadd rfl rfl (by (simp only [List.length_append, List.length_cons, List.length_nil]; omega)) <| Wp rfl <| st_sadd rfl rfl (by (simp only [List.length_append, List.length_cons, List.length_nil]; omega)) <| mS rfl <| Wp rfl <| st_lit (ps := [(0, .tmp 56), (1, .tmp 57)]) (vs := [S _, S _]) T.lit22 (by decide) rfl (by simp only [List.forall_mem_cons, List.not_mem_nil, false_imp_iff, implies_true, and_true]; exact ⟨rfl, rfl⟩) rfl ?_
  intro b32 w33 e34 c35 hb36
  have ge_b32 : w.heap.size ≤ b32 := by rw [e34]; exact HC.size
  have ne_b5_b32 : b5 ≠ b32 := by rw [e34]; exact hb9.ne_size
  have ne_b14_b32 : b14 ≠ b32 := by rw [e34]; exact hb18.ne_size
  have ne_b23_b32 : b23 ≠ b32 := by rw [e34]; exact hb27.ne_size
  replace HC := HC.then c35
  replace hb9 := hb9.tr0 c35
  replace hb18 := hb18.tr0 c35
  replace hb27 := hb27.tr0 c35
  clear e34
  refine Wp rfl <| st_call (ags := [_]) rfl rfl T.ent9 rfl (Printf_spec (args := [([37, 48] ++ basV 10 W ++ [100]), (textV n)]) (c := 2) (sl_lit (f := fun s : Bytes => [S s]) [([37, 48] ++ basV 10 W ++ [100]), (textV n)] (by simp) hb36) (Nat.le_refl _) (fun s hs => by simp only [List.mem_cons, List.mem_nil_iff, or_false] at hs; rcases hs with rfl | rfl <;> (try simp only [List.length_append, List.length_cons, List.length_nil]) <;> omega)) ?_
  rintro vT4 w37 ⟨hvT, c38⟩
  rw [hp4] at hvT
  change vT4 = .tuple ⟨[S Z, .int .i64 0]⟩ at hvT
  subst hvT
  replace HC := HC.then c38
  replace hb9 := hb9.tr0 c38
  replace hb18 := hb18.tr0 c38
  replace hb27 := hb27.tr0 c38
  replace hb36 := hb36.tr0 c38
  refine mv (v := .tuple ⟨[_, _]⟩) rfl <| Wp rfl <| st_extract (vs := [_, _]) (v := S _) rfl rfl <| Wp rfl <| st_extract (vs := [_, _]) (v := .int _ _) rfl rfl <| aS rfl <| aI rfl <| en <| x_seq <| sr rfl <| mS rfl <| mS rfl <| Wp rfl <| st_sneq rfl rfl <| mB rfl <| w_split (d := 65) rfl (fun g39 => ?_) (fun g39 => ?_)
  ·try simp only [nm, ne_eq] at g39
   first | exact absurd rfl g39 | exact absurd trivial g39 | omega | (simp at g39; done)
  ·try simp only [nm, ne_eq] at g39
   refine w_yes 3 65 false <| st_move (v := .int _ _) rfl <| w_yes 3 65 false <| st_move (v := .int _ _) rfl <| w_yes 3 65 false <| st_addn rfl rfl (by constructor <;> omega) <| w_yes 3 65 false <| st_move (v := .int _ _) rfl <| w_yes 3 65 false <| st_addn rfl rfl (by constructor <;> omega) <| w_yes 3 65 false <| st_move (v := .int _ _) rfl <| w_yes 3 65 false <| st_addn rfl rfl (by constructor <;> omega) <| w_yes 3 65 false <| st_neq rfl rfl <| pF rfl rfl <| mB rfl <| w_split (d := 75) rfl (fun g40 => ?_) (fun g40 => ?_)
   ·try simp only [nm, ne_eq] at g40
    first | exact absurd rfl g40 | exact absurd trivial g40 | omega | (simp at g40; done)
   ·try simp only [nm, ne_eq] at g40
    refine w_yes 13 75 false <| st_move (v := S _) rfl <| w_yes 13 75 false <| st_slen (ct := #[9]) T.u9 rfl <| w_yes 13 75 false <| st_move (v := .int _ _) rfl <| w_yes 13 75 false <| st_move (v := S _) rfl <| w_yes 13 75 false <| st_slen (ct := #[9]) T.u9 rfl <| w_yes 13 75 false <| st_max rfl rfl <| w_yes 13 75 false <| st_neq rfl rfl <| pF rfl rfl <| mB rfl <| w_split (d := 84) rfl (fun g41 => ?_) (fun g41 => ?_)
    ·try simp only [nm, ne_eq] at g41
     first | exact absurd rfl g41 | exact absurd trivial g41 | omega | (simp at g41; done)
    ·try simp only [nm, ne_eq] at g41
     refine w_yes 22 84 false <| st_move (v := S _) rfl <| w_yes 22 84 false <| st_slen (ct := #[9]) T.u9 rfl <| w_yes 22 84 false <| st_move (v := S _) rfl <| w_yes 22 84 false <| st_slen (ct := #[9]) T.u9 rfl <| w_yes 22 84 false <| st_neq rfl rfl <| pF rfl rfl <| mB rfl <| w_split (d := 91) rfl (fun g42 => ?_) (fun g42 => ?_)
     ·try simp only [nm, ne_eq] at g42
      first | exact absurd rfl g42 | exact absurd trivial g42 | omega | (simp at g42; done)
     ·try simp only [nm, ne_eq] at g42
      refine w_yes 29 91 false <| st_move (v := S _) rfl <| w_yes 29 91 false <| st_slen (ct := #[9]) T.u9 rfl <| w_yes 29 91 false <| st_move (v := S _) rfl <| w_yes 29 91 false <| st_slen (ct := #[9]) T.u9 rfl <| w_yes 29 91 false <| st_neq rfl rfl <| pF rfl rfl <| en <| x_cond rfl (fun h1 => ?_) (fun h1 => ?_)
      ·try simp only [nm, ne_eq] at h1
       first | exact absurd rfl h1 | (have h9 := h1; omega)
      ·try simp only [nm, ne_eq] at h1
       refine x_skip <| then_n <| sr rfl <| mS rfl <| Wp rfl <| st_slen (ct := #[9]) T.u9 rfl <| mS rfl <| Wp rfl <| st_slen (ct := #[9]) T.u9 rfl <| Wp rfl <| st_subk rfl rfl (by exact (show _ = ((K : Nat) : Int) by rw [wrap64_id (by omega) (by omega)]; omega)) <| aI rfl <| en <| sr rfl <| aI rfl <| en <| x_seq <| sr rfl <| mI rfl <| Wp rfl <| st_lss rfl rfl <| en <| x_cond rfl (fun h2 => ?_) (fun h2 => ?_)
       ·try simp only [nm, ne_eq] at h2
        have hg : g = 1 := by rw [hN.g]; unfold sgV; rw [if_pos h2]; rfl
        refine x_region rfl <| aI rfl <| en <| x_seq <| sr rfl <| aI rfl <| en <| x_block <| x_loop (ι := Nat) [4, 17, 105, 106, 107, 108, 109, 110, 111, 112, 113, 114, 115, 116, 117, 118, 119, 120, 121, 122, 123, 124, 125, 126, 127, 128, 129, 130] (fun i => [(17, .int .i64 (i : Int))]) (fun i W => (i ≤ K) ∧ (Chg [] w W)) (fun i => K - i) 0 ?_ ?_ ?_
        · exact ⟨rfl, trivial⟩
        ·refine ⟨?_, HC⟩
         exact Nat.zero_le _
        intro i G44 w43 ⟨hi, HC⟩
        change wp _ _ _ _ _ (upds (over _ _ G44) [(17, .int .i64 (i : Int))]) _ _
        refine x_seq <| sr rfl <| mI rfl <| mI rfl <| Wp rfl <| st_lss rfl rfl <| en <| x_cond rfl (fun h3 => ?_) (fun h3 => ?_)
        ·try simp only [nm, ne_eq] at h3
         have hNb := hN.ub (i := i) (by omega)
         rw [hg] at hNb
         refine x_skip <| then_n <| x_seq <| x_block <| sr rfl <| mS rfl <| mI rfl <| Wp rfl <| st_sidx T.u9 rfl rfl (by omega) (by omega) <| Wp rfl <| st_neq rfl rfl <| mB rfl <| w_split (d := 114) rfl (fun g45 => ?_) (fun g45 => ?_)
         ·try simp only [nm, ne_eq] at g45
          exact absurd (by omega) g45
         ·try simp only [nm, ne_eq] at g45
          refine w_yes 4 114 false <| st_move (v := S _) rfl <| w_yes 4 114 false <| st_move (v := S _) rfl <| w_yes 4 114 false <| st_slen (ct := #[9]) T.u9 rfl <| w_yes 4 114 false <| st_move (v := .int _ _) rfl <| w_yes 4 114 false <| st_addk rfl rfl (by exact (show _ = (((textV n).length + i : Nat) : Int) by rw [wrap64_id (by omega) (by omega)]; omega)) <| w_yes 4 114 false <| st_sidx T.u9 rfl rfl (by omega) (by omega) <| w_yes 4 114 false <| st_neq rfl rfl <| pF rfl rfl <| mB rfl <| w_split (d := 123) rfl (fun g46 => ?_) (fun g46 => ?_)
          ·try simp only [nm, ne_eq] at g46
           exact absurd (by omega) g46
          ·try simp only [nm, ne_eq] at g46
           refine w_yes 13 123 false <| st_move (v := S _) rfl <| w_yes 13 123 false <| st_move (v := .int _ _) rfl <| w_yes 13 123 false <| st_move (v := .int _ _) rfl <| w_yes 13 123 false <| st_addk rfl rfl (by first | exact (show _ = ((1 + i : Nat) : Int) by rw [wrap64_id (by omega) (by omega)]; omega) | exact (show _ = ((0 + i : Nat) : Int) by rw [wrap64_id (by omega) (by omega)]; omega)) <| w_yes 13 123 false <| st_sidx T.u9 rfl rfl (by omega) (by omega) <| w_yes 13 123 false <| st_neq rfl rfl <| pF rfl rfl <| en <| x_cond rfl (fun h4 => ?_) (fun h4 => ?_)
           ·try simp only [nm, ne_eq] at h4
            exact absurd (by omega) h4
           ·try simp only [nm, ne_eq] at h4
            refine x_skip <| block_n <| then_n <| x_region rfl <| mI rfl <| Wp rfl <| st_addn rfl rfl (by constructor <;> omega) <| aI rfl <| en <| ⟨i + 1, ?_, ?_, rfl, ⟨rfl, trivial⟩, ?_⟩
            ·refine ⟨?_, HC⟩
             exact (by omega)
            ·show K - (i + 1) < K - i; omega
            repeat (first | exact agree_upds agree_over rfl | refine agree_upd ?_ rfl | refine agree_upds ?_ rfl | refine agree_over_sub ?_ rfl)
        ·try simp only [nm, ne_eq] at h3
         rw [hg] at hNc
         refine x_exit <| then_x <| then_x <| block_x <| then_n <| x_seq <| x_draw [(0, 0), (1, 0), (2, 0), (3, 0), (4, 0), (5, 0), (6, 0), (7, 0), (8, 0), (9, 0), (10, 0), (11, 0), (12, 0), (13, 0), (14, 0), (15, 0), (16, 0), (17, 0), (18, 0), (19, 0), (20, 0), (21, 0), (22, 0), (23, 0), (24, 0), (25, 0), (26, 0), (27, 1), (28, 0), (29, 0)] T.mixed rfl rfl rfl (fun _ => True) trivial ?_
         have c48 := Chg.drew w43
         generalize World.drew w43 = w47 at c48 ⊢
         replace HC := HC.then c48
         refine sq_q rfl (fun W hT => r_move (v := S _) rfl) <| sq_q rfl (fun W hT => r_move (v := .int _ _) rfl) <| sq_q rfl (fun W hT => r_sslo (i := K) T.u9 rfl ⟨_, rfl⟩ (by omega)) <| sq_q rfl (fun W hT => r_move (v := S _) rfl) <| sq_q rfl (fun W hT => r_seql rfl rfl) <| sq_q rfl (fun W hT => r_move (v := .bool _) rfl) <| sq_split (d := 136) rfl (fun g49 => ?_) (fun g49 => ?_)
         ·try simp only [nm, ne_eq] at g49
          refine sq_q rfl (fun W hT => r_move (v := S _) rfl) <| sq_q rfl (fun W hT => r_move (v := S _) rfl) <| sq_q rfl (fun W hT => r_slen (ct := #[9]) T.u9 rfl) <| sq_q rfl (fun W hT => r_sshi (j := (textV n).length) T.u9 rfl ⟨_, rfl⟩ (by omega)) <| sq_q rfl (fun W hT => r_move (v := S _) rfl) <| sq_q rfl (fun W hT => r_seql rfl rfl) <| sq_q rfl (fun W hT => r_pick (b := true) (v := .bool _) rfl rfl) <| sq_q rfl (fun W hT => r_move (v := .bool _) rfl) <| sq_split (d := 144) rfl (fun g50 => ?_) (fun g50 => ?_)
          ·try simp only [nm, ne_eq] at g50
           refine sq_q rfl (fun W hT => r_move (v := S _) rfl) <| sq_q rfl (fun W hT => r_move (v := .int _ _) rfl) <| sq_q rfl (fun W hT => r_sshi (j := 1) T.u9 rfl ⟨_, rfl⟩ (by omega)) <| sq_q rfl (fun W hT => r_move (v := S _) rfl) <| sq_q rfl (fun W hT => r_move (v := .int _ _) rfl) <| sq_q rfl (fun W hT => r_move (v := .int _ _) rfl) <| sq_q rfl (fun W hT => r_addk rfl rfl (by first | exact (show _ = ((1 + K : Nat) : Int) by rw [wrap64_id (by omega) (by omega)]; omega) | exact (show _ = ((0 + K : Nat) : Int) by rw [wrap64_id (by omega) (by omega)]; omega))) <| sq_q rfl (fun W hT => r_sslo (i := (1 + K)) T.u9 rfl ⟨_, rfl⟩ (by omega)) <| sq_q rfl (fun W hT => r_sadd rfl rfl (by (simp only [List.length_take, List.length_drop]; omega))) <| sq_q rfl (fun W hT => r_move (v := S _) rfl) <| sq_q rfl (fun W hT => r_seql rfl rfl) <| sq_q rfl (fun W hT => r_pick (b := true) (v := .bool _) rfl rfl) <| sq_q rfl (fun W hT => r_move (v := .bool _) rfl) <| sq_split (d := 157) rfl (fun g51 => ?_) (fun g51 => ?_)
           ·try simp only [nm, ne_eq] at g51
            refine sq_call1 rfl (r_call (ags := []) rfl rfl T.ent8 rfl) (awake23_spec) ?_
            rintro _ w52 ⟨rfl, c53⟩
            replace HC := HC.then c53
            refine ⟨_, fun _ h => h, trivial, ?_⟩
            refine sq_q rfl (fun W hT => r_pick (b := true) (v := .bool _) rfl rfl) <| sq_q rfl (fun W hT => r_assign (v := .bool _) rfl) <| sq_nil <| then_n <| x_ret <| ret_tmp (v := .bool _) rfl rfl ?_
            exact ⟨rfl, HC⟩
           ·try simp only [nm, ne_eq] at g51
            exact absurd hNc.2.2 g51
          ·try simp only [nm, ne_eq] at g50
           exact absurd hNc.2.1 g50
         ·try simp only [nm, ne_eq] at g49
          exact absurd hNc.1 g49
       ·try simp only [nm, ne_eq] at h2
        have hg : g = 0 := by rw [hN.g]; unfold sgV; rw [if_neg h2]; rfl
        refine x_skip <| then_n <| x_seq <| sr rfl <| aI rfl <| en <| x_block <| x_loop (ι := Nat) [4, 17, 105, 106, 107, 108, 109, 110, 111, 112, 113, 114, 115, 116, 117, 118, 119, 120, 121, 122, 123, 124, 125, 126, 127, 128, 129, 130] (fun i => [(17, .int .i64 (i : Int))]) (fun i W => (i ≤ K) ∧ (Chg [] w W)) (fun i => K - i) 0 ?_ ?_ ?_
        · exact ⟨rfl, trivial⟩
        ·refine ⟨?_, HC⟩
         exact Nat.zero_le _
        intro i G55 w54 ⟨hi, HC⟩
        change wp _ _ _ _ _ (upds (over _ _ G55) [(17, .int .i64 (i : Int))]) _ _
        refine x_seq <| sr rfl <| mI rfl <| mI rfl <| Wp rfl <| st_lss rfl rfl <| en <| x_cond rfl (fun h3 => ?_) (fun h3 => ?_)
        ·try simp only [nm, ne_eq] at h3
         have hNb := hN.ub (i := i) (by omega)
         rw [hg] at hNb
         refine x_skip <| then_n <| x_seq <| x_block <| sr rfl <| mS rfl <| mI rfl <| Wp rfl <| st_sidx T.u9 rfl rfl (by omega) (by omega) <| Wp rfl <| st_neq rfl rfl <| mB rfl <| w_split (d := 114) rfl (fun g56 => ?_) (fun g56 => ?_)
         ·try simp only [nm, ne_eq] at g56
          exact absurd (by omega) g56
         ·try simp only [nm, ne_eq] at g56
          refine w_yes 4 114 false <| st_move (v := S _) rfl <| w_yes 4 114 false <| st_move (v := S _) rfl <| w_yes 4 114 false <| st_slen (ct := #[9]) T.u9 rfl <| w_yes 4 114 false <| st_move (v := .int _ _) rfl <| w_yes 4 114 false <| st_addk rfl rfl (by exact (show _ = (((textV n).length + i : Nat) : Int) by rw [wrap64_id (by omega) (by omega)]; omega)) <| w_yes 4 114 false <| st_sidx T.u9 rfl rfl (by omega) (by omega) <| w_yes 4 114 false <| st_neq rfl rfl <| pF rfl rfl <| mB rfl <| w_split (d := 123) rfl (fun g57 => ?_) (fun g57 => ?_)
          ·try simp only [nm, ne_eq] at g57
           exact absurd (by omega) g57
          ·try simp only [nm, ne_eq] at g57
           refine w_yes 13 123 false <| st_move (v := S _) rfl <| w_yes 13 123 false <| st_move (v := .int _ _) rfl <| w_yes 13 123 false <| st_move (v := .int _ _) rfl <| w_yes 13 123 false <| st_addk rfl rfl (by first | exact (show _ = ((1 + i : Nat) : Int) by rw [wrap64_id (by omega) (by omega)]; omega) | exact (show _ = ((0 + i : Nat) : Int) by rw [wrap64_id (by omega) (by omega)]; omega)) <| w_yes 13 123 false <| st_sidx T.u9 rfl rfl (by omega) (by omega) <| w_yes 13 123 false <| st_neq rfl rfl <| pF rfl rfl <| en <| x_cond rfl (fun h4 => ?_) (fun h4 => ?_)
           ·try simp only [nm, ne_eq] at h4
            exact absurd (by omega) h4
           ·try simp only [nm, ne_eq] at h4
            refine x_skip <| block_n <| then_n <| x_region rfl <| mI rfl <| Wp rfl <| st_addn rfl rfl (by constructor <;> omega) <| aI rfl <| en <| ⟨i + 1, ?_, ?_, rfl, ⟨rfl, trivial⟩, ?_⟩
            ·refine ⟨?_, HC⟩
             exact (by omega)
            ·show K - (i + 1) < K - i; omega
            repeat (first | exact agree_upds agree_over rfl | refine agree_upd ?_ rfl | refine agree_upds ?_ rfl | refine agree_over_sub ?_ rfl)
        ·try simp only [nm, ne_eq] at h3
         rw [hg] at hNc
         refine x_exit <| then_x <| then_x <| block_x <| then_n <| x_seq <| x_draw [(0, 0), (1, 0), (2, 0), (3, 0), (4, 0), (5, 0), (6, 0), (7, 0), (8, 0), (9, 0), (10, 0), (11, 0), (12, 0), (13, 0), (14, 0), (15, 0), (16, 0), (17, 0), (18, 0), (19, 0), (20, 0), (21, 0), (22, 0), (23, 0), (24, 0), (25, 0), (26, 0), (27, 1), (28, 0), (29, 0)] T.mixed rfl rfl rfl (fun _ => True) trivial ?_
         have c59 := Chg.drew w54
         generalize World.drew w54 = w58 at c59 ⊢
         replace HC := HC.then c59
         refine sq_q rfl (fun W hT => r_move (v := S _) rfl) <| sq_q rfl (fun W hT => r_move (v := .int _ _) rfl) <| sq_q rfl (fun W hT => r_sslo (i := K) T.u9 rfl ⟨_, rfl⟩ (by omega)) <| sq_q rfl (fun W hT => r_move (v := S _) rfl) <| sq_q rfl (fun W hT => r_seql rfl rfl) <| sq_q rfl (fun W hT => r_move (v := .bool _) rfl) <| sq_split (d := 136) rfl (fun g60 => ?_) (fun g60 => ?_)
         ·try simp only [nm, ne_eq] at g60
          refine sq_q rfl (fun W hT => r_move (v := S _) rfl) <| sq_q rfl (fun W hT => r_move (v := S _) rfl) <| sq_q rfl (fun W hT => r_slen (ct := #[9]) T.u9 rfl) <| sq_q rfl (fun W hT => r_sshi (j := (textV n).length) T.u9 rfl ⟨_, rfl⟩ (by omega)) <| sq_q rfl (fun W hT => r_move (v := S _) rfl) <| sq_q rfl (fun W hT => r_seql rfl rfl) <| sq_q rfl (fun W hT => r_pick (b := true) (v := .bool _) rfl rfl) <| sq_q rfl (fun W hT => r_move (v := .bool _) rfl) <| sq_split (d := 144) rfl (fun g61 => ?_) (fun g61 => ?_)
          ·try simp only [nm, ne_eq] at g61
           refine sq_q rfl (fun W hT => r_move (v := S _) rfl) <| sq_q rfl (fun W hT => r_move (v := .int _ _) rfl) <| sq_q rfl (fun W hT => r_sshi (j := 0) T.u9 rfl ⟨_, rfl⟩ (by omega)) <| sq_q rfl (fun W hT => r_move (v := S _) rfl) <| sq_q rfl (fun W hT => r_move (v := .int _ _) rfl) <| sq_q rfl (fun W hT => r_move (v := .int _ _) rfl) <| sq_q rfl (fun W hT => r_addk rfl rfl (by first | exact (show _ = ((1 + K : Nat) : Int) by rw [wrap64_id (by omega) (by omega)]; omega) | exact (show _ = ((0 + K : Nat) : Int) by rw [wrap64_id (by omega) (by omega)]; omega))) <| sq_q rfl (fun W hT => r_sslo (i := (0 + K)) T.u9 rfl ⟨_, rfl⟩ (by omega)) <| sq_q rfl (fun W hT => r_sadd rfl rfl (by (simp only [List.length_take, List.length_drop]; omega))) <| sq_q rfl (fun W hT => r_move (v := S _) rfl) <| sq_q rfl (fun W hT => r_seql rfl rfl) <| sq_q rfl (fun W hT => r_pick (b := true) (v := .bool _) rfl rfl) <| sq_q rfl (fun W hT => r_move (v := .bool _) rfl) <| sq_split (d := 157) rfl (fun g62 => ?_) (fun g62 => ?_)
           ·try simp only [nm, ne_eq] at g62
            refine sq_call1 rfl (r_call (ags := []) rfl rfl T.ent8 rfl) (awake23_spec) ?_
            rintro _ w63 ⟨rfl, c64⟩
            replace HC := HC.then c64
            refine ⟨_, fun _ h => h, trivial, ?_⟩
            refine sq_q rfl (fun W hT => r_pick (b := true) (v := .bool _) rfl rfl) <| sq_q rfl (fun W hT => r_assign (v := .bool _) rfl) <| sq_nil <| then_n <| x_ret <| ret_tmp (v := .bool _) rfl rfl ?_
            exact ⟨rfl, HC⟩
           ·try simp only [nm, ne_eq] at g62
            exact absurd hNc.2.2 g62
          ·try simp only [nm, ne_eq] at g61
           exact absurd hNc.2.1 g61
         ·try simp only [nm, ne_eq] at g60
          exact absurd hNc.1 g60

end Go.Proofs.YtlpndcpbnbeohaaDoor.K
