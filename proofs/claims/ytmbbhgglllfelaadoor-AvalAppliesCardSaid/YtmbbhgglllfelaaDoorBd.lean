/- Walks: the tokens, one by one. -/
import Derived.Test.YtmbbhgglllfelaaDoorBc
import Derived.Test.YtmbbhgglllfelaaDoorKitM
set_option linter.unusedVariables false
set_option linter.unusedSimpArgs false
set_option autoImplicit false
set_option maxRecDepth 20000
namespace Go.Proofs.YtmbbhgglllfelaaDoor.K
open Go Go.Proofs Go.RowKit

/-- A token, its place, what is wrong. -/
abbrev Yd := (Int × Int × Bytes) × Int × Int
def stopV (y : Yd) : Prop := ¬ y.2.2 = 0 ∨ y.1.1 = 0
instance (y : Yd) : Decidable (stopV y) := inferInstanceAs (Decidable (_ ∨ _))
def atV (s : Bytes) (i : Nat) : Nat := i + runN blankB (s.drop i)
def yV (s : Bytes) (j : Nat) : Yd := ((nextV (s.drop j)).1, (j : Int), (nextV (s.drop j)).2.2)
def toksF : Nat → Bytes → Nat → List Yd
  | 0, _, _ => []
  | k + 1, s, i => yV s (atV s i) :: if stopV (yV s (atV s i)) then [] else toksF k s (atV s i + (nextV (s.drop (atV s i))).2.1.toNat)
theorem toksF_succ (k : Nat) (s : Bytes) (i : Nat) : toksF (k + 1) s i = yV s (atV s i) :: if stopV (yV s (atV s i)) then [] else toksF k s (atV s i + (nextV (s.drop (atV s i))).2.1.toNat) := by rw [toksF]
def yE (y : Yd) : List Value := [.agg ⟨tokC y.1 y.2.1⟩, .int .i64 y.2.2]
theorem Tab.kept {K : Nat → Prop} {A B : World} (h : Tab A) (hk : Kept K A B) (h1 : K 1) : Tab B := by
  have he := hk.2 1 h1 h.lt
  unfold Tab Lib.TabIs World.var? at *
  simp only [gTab, Option.bind_some] at *
  rw [he]; exact h
theorem atV_le {s : Bytes} {i : Nat} (h : i ≤ s.length) : i ≤ atV s i ∧ atV s i ≤ s.length := by
  have := runN_le blankB (s.drop i)
  simp only [List.length_drop] at this
  unfold atV; omega
theorem findN_hit {q : Bytes → Bool} : ∀ (l : List Bytes) (i : Nat), 0 ≤ findN q i l → ∃ j x, findN q i l = ((i + j : Nat) : Int) ∧ l[j]? = some x ∧ q x = true
  | [], i, h => by simp [findN] at h
  | x :: l, i, h => by
    unfold findN at h ⊢
    by_cases hq : q x = true
    · rw [if_pos hq]; exact ⟨0, x, rfl, rfl, hq⟩
    · rw [if_neg hq] at h ⊢
      obtain ⟨j, y, h1, h2, h3⟩ := findN_hit l (i + 1) h
      exact ⟨j + 1, y, by rw [h1]; omega, by simpa using h2, h3⟩
theorem ops_pos : ∀ o, o ∈ opsL → 0 < o.length := by decide
theorem nextV_len (s : Bytes) : 0 ≤ (nextV s).2.1 ∧ (nextV s).2.1 ≤ s.length ∧ (¬ ((nextV s).2.2 ≠ 0 ∨ (nextV s).1.1 = 0) → 0 < (nextV s).2.1) := by
  have hr := runN_le wordB s
  unfold nextV
  split
  · simp
  · rename_i hs
    split
    · rename_i hd
      have h1 : 0 < runN wordB s := by
        cases s with
        | nil => exact absurd rfl hs
        | cons c s =>
          have : digB c = true := by simpa [byte] using hd
          rw [runN, if_pos (by simp [wordB, this])]; omega
      split <;> simp <;> omega
    · split
      · simp; omega
      · split
        · simp
        · rename_i hf
          obtain ⟨j, x, h1, h2, h3⟩ := findN_hit (q := Lib.hasPrefix s) opsL 0 (by omega)
          rw [h1, Nat.zero_add, Int.toNat_natCast, List.getD_eq_getElem?_getD, h2]
          have := pre_len h3
          have := ops_pos x (List.mem_of_getElem? h2)
          simp; omega

theorem tokens_iter {bt : Nat} {s : Bytes} {L : List Yd} {K : Nat → Prop} {w : World} (hL : toksF (s.length + 1) s 0 = L) (q1 : Blk w bt [S s] 9) (ht : Tab w) (hK1 : K bt) (hKt : K 1) (hs : s.length ≤ 9223372036854775807) :
    Iter2 Tryd.prog 60 [.pointer (some ⟨bt, 0, none⟩)] [] K yE L w := by
 intro lp J Jx W hws hk hJm hJxm hR hJ
 replace ht := ht.kept ⟨hws, fun k hK hl => hk k hl hK⟩ hKt
 replace q1 := q1.of_eq (hk _ q1.lt hK1)
 refine callR_of_wp (args := [_, _]) Tryd.func60 rfl (Nat.le_of_ble_eq_true rfl) ?_
 have HC : Chg [] W W := .refl _
 have ht1 := ht.lt
 refine sr rfl <| aI rfl <| en <| x_block <| x_loop (ι := Nat × Nat × List Yd) [3, 4, 5, 6, 7, 8, 9, 10, 11, 12, 13, 14, 15, 16, 17, 18, 19, 20, 21, 22, 23, 24, 25, 26, 27, 28, 29, 30, 31, 32, 33, 34, 35, 36, 37, 38] (fun ⟨i, k, pre⟩ => [(3, .int .i64 (i : Int))]) (fun ⟨i, k, pre⟩ W => (i ≤ s.length ∧ s.length - i < k ∧ pre ++ toksF k s i = L) ∧ (Blk W bt [S s] 9) ∧ (Tab W) ∧ (J pre W)) (fun ⟨i, k, pre⟩ => s.length - i) (0, s.length + 1, []) ?_ ?_ ?_
 · exact ⟨rfl, trivial⟩
 ·refine ⟨?_, q1, ht, hJm _ _ _ hJ HC⟩
  exact ⟨Nat.zero_le _, by omega, hL⟩
 intro ⟨i, k, pre⟩ G2 w1 ⟨⟨hi, hkl, hq⟩, q1, ht, hJ⟩
 change wp _ _ _ _ _ (upds (over _ _ G2) [(3, .int .i64 (i : Int))]) _ _
 have HC : Chg [] w1 w1 := .refl _
 have ht1 := ht.lt
 have hat := atV_le hi
 have hnl := nextV_len (s.drop (atV s i))
 have hrl := runN_le blankB (s.drop i)
 simp only [List.length_drop] at hnl hrl
 have hadd : IntKind.i64.wrap ((i : Int) + (runN blankB (s.drop i) : Int)) = ((atV s i : Nat) : Int) := by rw [wrap64_id (by omega) (by omega)]; unfold atV; omega
 have hadd2 : IntKind.i64.wrap (((atV s i : Nat) : Int) + (nextV (s.drop (atV s i))).2.1) = ((atV s i + (nextV (s.drop (atV s i))).2.1.toNat : Nat) : Int) := by rw [wrap64_id (by omega) (by omega)]; omega
 obtain ⟨k, rfl⟩ : ∃ k', k = k' + 1 := ⟨k - 1, by omega⟩
 rw [toksF_succ] at hq
 have hyx : L = pre ++ yV s (atV s i) :: (if stopV (yV s (atV s i)) then [] else toksF k s (atV s i + (nextV (s.drop (atV s i))).2.1.toNat)) := hq.symm
 refine x_block <| sr rfl <| mI rfl <| lS T.one9 rfl (q1.cell rfl) <| mI rfl <| Wp rfl <| st_sslo (i := i) T.u9 rfl ⟨_, rfl⟩ (by omega) <| Wp rfl <| st_call (ags := [_, _]) rfl rfl T.ent61 rfl (run_spec (k := 62) (caps := #[]) (s.drop i) (by simp only [List.length_drop]; omega) T.ent62 (fun c W _ => a_blank c W)) ?_
 rintro _ w3 ⟨rfl, c4⟩
 replace q1 := q1.tr0 c4
 replace ht := ht.tr0 c4
 replace HC := HC.then c4
 refine Wp rfl <| st_addk rfl rfl (by exact hadd) <| aI rfl <| en <| sr rfl <| lS T.one9 rfl (q1.cell rfl) <| mI rfl <| Wp rfl <| st_sslo (i := atV s i) T.u9 rfl ⟨_, rfl⟩ (by omega) <| mI rfl <| Wp rfl <| st_call (ags := [_, _]) rfl rfl T.ent63 rfl (next_spec (s.drop (atV s i)) _ _ (by simp only [List.length_drop]; omega) ht) ?_
 rintro _ w5 ⟨rfl, c6⟩
 replace q1 := q1.tr0 c6
 replace ht := ht.tr0 c6
 replace HC := HC.then c6
 refine mv (v := .tuple ⟨[_, _, _]⟩) rfl <| Wp rfl <| st_extract (vs := [_, _, _]) (v := .agg ⟨[.int _ _, .int _ _, S _, .int _ _]⟩) rfl rfl <| Wp rfl <| st_extract (vs := [_, _, _]) (v := .int _ _) rfl rfl <| Wp rfl <| st_extract (vs := [_, _, _]) (v := .int _ _) rfl rfl <| Wp rfl <| st_alloc T.zero68 ?_
 intro b4 w7 e8 c9 hb10
 have ge_b4 : w1.heap.size ≤ b4 := by rw [e8]; exact HC.size
 have ne_bt_b4 : bt ≠ b4 := by rw [e8]; exact q1.ne_size
 replace q1 := q1.tr0 c9
 replace ht := ht.tr0 c9
 replace HC := HC.then c9
 clear e8
 refine Wp rfl <| st_store (v := .agg ⟨[.int _ _, .int _ _, S _, .int _ _]⟩) T.size68 rfl rfl rfl hb10 rfl (Nat.le_of_ble_eq_true rfl) (by simp [Value.oneCell', S]) rfl ?_
 intro w11 c12 hb13; simp only [setVs, setV] at hb13
 clear hb10
 replace q1 := q1.tr1 c12 ne_bt_b4
 replace ht := ht.tr c12 (by intro hx; have := ht.lt; have := ht1; simp only [List.mem_cons, List.mem_nil_iff, or_false] at hx; omega)
 replace HC := HC.then1 c12 ge_b4
 refine aI rfl <| aI rfl <| en <| x_seq <| sr rfl <| mv (v := .func _ _ _) rfl <| Wp rfl <| st_loadA (vs := [_, _, _, _]) T.agg68 rfl (hb13.cells (n := 4) (vs := [_, _, _, _]) rfl) rfl <| mI rfl <| Wp rfl <| st_yield (vs := [_, _]) rfl rfl rfl rfl (hR pre (yV s (atV s i)) _ _ _ hyx hJ HC) ?_
 rintro _ w14 ⟨hk2, ⟨rfl, hJ2⟩ | ⟨rfl, hJ2⟩⟩
 ·replace q1 := q1.kept hk2 (.inl hK1)
  replace ht := ht.kept hk2 (.inl hKt)
  replace hb13 := hb13.kept hk2 (.inr ge_b4)
  have HCn : Chg [] w14 w14 := .refl _
  refine Wp rfl <| st_not rfl <| mB rfl <| w_yes 5 27 false <| st_move (v := .int _ _) rfl <| w_yes 5 27 false <| st_neq rfl rfl <| pF rfl rfl <| mB rfl <| w_split (d := 31) rfl (fun g15 => ?_) (fun g15 => ?_)
  ·try simp only [nm, ne_eq] at g15
   have hst : stopV (yV s (atV s i)) := .inl (by assumption)
   iterate 3 refine w_no 9 31 false ?_
   refine pT rfl rfl <| en <| x_cond (t := true) rfl (fun h0 => ?_) (fun h0 => ?_)
   rotate_left
   · exact absurd h0 (by decide)
   refine x_ret <| then_r <| block_r <| then_r <| block_r <| ret_none rfl ?_
   left; rw [hyx, if_pos hst]; exact hJm _ _ _ hJ2 HCn
  ·try simp only [nm, ne_eq] at g15
   refine w_yes 9 31 false <| st_fieldAddr T.fld68_0 rfl <| w_yes 9 31 false <| st_load1 (v := .int _ _) T.one3 rfl (hb13.cell rfl) <| w_yes 9 31 false <| st_eql rfl rfl <| pF rfl rfl <| en <| x_cond rfl (fun h0 => ?_) (fun h0 => ?_)
   ·try simp only [nm, ne_eq] at h0
    have hst : stopV (yV s (atV s i)) := .inr (by assumption)
    refine x_ret <| then_r <| block_r <| then_r <| block_r <| ret_none rfl ?_
    left; rw [hyx, if_pos hst]; exact hJm _ _ _ hJ2 HCn
   ·try simp only [nm, ne_eq] at h0
    have hst : ¬ stopV (yV s (atV s i)) := fun h => h.elim (fun h => h (by assumption)) (fun h => absurd h (by assumption))
    refine x_skip <| then_n <| x_region rfl <| mI rfl <| mI rfl <| Wp rfl <| st_addk rfl rfl (by exact hadd2) <| aI rfl <| wops_nil <| block_n <| then_n <| ⟨(atV s i + (nextV (s.drop (atV s i))).2.1.toNat, k, pre ++ [yV s (atV s i)]), ?_, ?_, rfl, ⟨rfl, trivial⟩, ?_⟩
    ·refine ⟨?_, q1, ht, hJm _ _ _ hJ2 HCn⟩
     exact ⟨by omega, by omega, by rw [hyx, if_neg hst]; simp⟩
    ·show s.length - (atV s i + (nextV (s.drop (atV s i))).2.1.toNat) < s.length - i; omega
    repeat (first | exact agree_upds agree_over rfl | refine agree_upd ?_ rfl | refine agree_upds ?_ rfl | refine agree_over_sub ?_ rfl)
 ·replace q1 := q1.kept hk2 (.inl hK1)
  replace ht := ht.kept hk2 (.inl hKt)
  replace hb13 := hb13.kept hk2 (.inr ge_b4)
  have HCn : Chg [] w14 w14 := .refl _
  refine Wp rfl <| st_not rfl <| mB rfl <| w_no 5 27 false <| w_no 5 27 false <| pT rfl rfl <| mB rfl ?_
  iterate 3 refine w_no 9 31 false ?_
  refine pT rfl rfl <| en <| x_cond (t := true) rfl (fun h0 => ?_) (fun h0 => ?_)
  rotate_left
  · exact absurd h0 (by decide)
  refine x_ret <| then_r <| block_r <| then_r <| block_r <| ret_none rfl ?_
  exact .inr ⟨_, hJ2⟩

end Go.Proofs.YtmbbhgglllfelaaDoor.K
