import Derived.Test.YtpelmhoocepenaaDoorWm
import Derived.Laws.MakeOwn
import Derived.Test.YtpelmhoocepenaaDoorKitM
set_option linter.unusedVariables false
set_option linter.unusedSimpArgs false
set_option autoImplicit false
set_option maxRecDepth 20000
namespace Go.Proofs.YtpelmhoocepenaaDoor.K
open Go Go.Proofs Go.RowKit

section make
open Go.Proofs
variable {P : Program} {r : Option Nat} {n : Nat} {O : Array Oper} {Q : Post} {E : Env} {ds : List Deferred} {w : World} {l : List Oper}
variable {dst : Option Nat} {ty : TypeId} {pos : String} {af : Array Edge} {g : Option (Nat × Bool)}
theorem st_make1 {t e : TypeId} {x y : Operand} {zs : List Value} {kl kc : IntKind} (ht : P.underlying t = some (.slice e)) (hz : zeroB P e zs) (hi : (P.info? e).any (fun i => Nat.beq (i.size) zs.length && Nat.ble i.bytes 1000000) = true) (hl : zs.length ≤ 1000) (hx : ev E x = .int kl 1) (hy : ev E y = .int kc 1)
    (h : ∀ b w', b = w.heap.size → Chg [] w w' → Blk w' b zs e → wops P r n O Q l (updo E dst (.slice (some ⟨b, 0, none⟩) 1 1)) ds w') : wop P r n O Q ⟨dst, .makeSlice t x y, ty, pos, af, g⟩ l E ds w := by
  obtain ⟨i, z, h1, h2, h3⟩ := hz
  rw [h1] at hi
  simp only [Option.any_some, Bool.and_eq_true] at hi
  have hs := Nat.eq_of_beq_eq_true hi.1
  have hb := Nat.le_of_ble_eq_true hi.2
  have hr := run_makeSlice (P := P) (w := w) t e i z ht h1 h2 kl kc 1 1 (by decide) (by decide) (by rw [hs]; simp; omega) (by omega) (by decide)
  have hm : madeCells z.cells ((1 : Int).toNat * i.size) = ⟨zs⟩ := by
    rw [h3, hs]
    apply Array.ext'
    apply List.ext_getElem?
    intro j
    simp only [madeCells, Array.toList_map, Array.toList_range, List.getElem?_map]
    by_cases hj : j < zs.length
    · rw [List.getElem?_range (by simpa using hj)]
      simp [Nat.mod_eq_of_lt hj, hj]
    · rw [List.getElem?_eq_none (by simpa using hj), List.getElem?_eq_none (by omega)]; rfl
  rw [hm] at hr
  refine wop_run (w' := w.alloc (.cells ⟨zs⟩ e)) (fun _ => by simp) ?_ (h w.heap.size _ rfl (Chg.alloc w _) (Blk.new w zs e))
  simp only [execOp, hx, hy, Sem.run_bind, hr, Result.andThen, Sem.run_pure]
  rfl
end make
def newZ : Tre := [⟨2, 7, 0, [], [], 0⟩]
theorem newZ_fit : FitT newZ where
  few := by decide
  kids := fun x hx => by obtain rfl := List.mem_singleton.1 hx; exact ⟨List.Pairwise.nil, by decide, fun p hp => by cases hp⟩
  up := fun x hx _ => by obtain rfl := List.mem_singleton.1 hx; decide
  data := fun x hx => by obtain rfl := List.mem_singleton.1 hx; decide
  kind := fun x hx => by obtain rfl := List.mem_singleton.1 hx; decide
  root := by decide

theorem New_spec (w : World) : CallR Tryd.prog 6 #[.int .i64 1, .int .i64 0] w fun v w' => (∃ bn, v = .tuple ⟨[.agg ⟨[.slice (some ⟨bn, 0, none⟩) 1 1, .int .i64 1, .int .i64 0]⟩, .int .i64 0]⟩ ∧ w.heap.size ≤ bn ∧ Blk w' bn [.int .i64 2, .int .i64 7, .int .i64 0, S [], .slice none 0 0, .int .i64 0] 39) ∧ Chg [] w w' := by
 refine callR_of_wp (args := [_, _]) Tryd.func6 rfl (Nat.le_of_ble_eq_true rfl) ?_
 have HC : Chg [] w w := .refl _
 refine sr rfl <| Wp rfl <| st_alloc T.zero24 ?_
 intro b1 w2 e3 c4 hb5
 have ge_b1 : w.heap.size ≤ b1 := by rw [e3]; exact HC.size
 replace HC := HC.then c4
 clear e3
 refine aI rfl <| en <| x_seq <| sr rfl <| mI rfl <| Wp rfl <| st_lss rfl rfl <| mB rfl <| w_split (d := 9) rfl (fun g6 => ?_) (fun g6 => ?_)
 ·try simp only [nm, ne_eq] at g6
  first | exact absurd rfl g6 | exact absurd trivial g6 | (simp at g6; done)
 ·try simp only [nm, ne_eq] at g6
  refine w_yes 2 9 false <| st_move (v := .int _ _) rfl <| w_yes 2 9 false <| st_gtr rfl rfl <| pF rfl rfl <| mB rfl <| w_split (d := 13) rfl (fun g7 => ?_) (fun g7 => ?_)
  ·try simp only [nm, ne_eq] at g7
   first | exact absurd rfl g7 | exact absurd trivial g7 | (simp at g7; done)
  ·try simp only [nm, ne_eq] at g7
   refine w_yes 6 13 false <| st_move (v := .int _ _) rfl <| w_yes 6 13 false <| st_lss rfl rfl <| pF rfl rfl <| mB rfl <| w_split (d := 17) rfl (fun g8 => ?_) (fun g8 => ?_)
   ·try simp only [nm, ne_eq] at g8
    first | exact absurd rfl g8 | exact absurd trivial g8 | (simp at g8; done)
   ·try simp only [nm, ne_eq] at g8
    refine w_yes 10 17 false <| st_move (v := .int _ _) rfl <| w_yes 10 17 false <| st_gtr rfl rfl <| pF rfl rfl <| en <| x_cond rfl (fun h0 => ?_) (fun h0 => ?_)
    ·try simp only [nm, ne_eq] at h0
     first | exact absurd rfl h0 | exact absurd trivial h0 | (simp at h0; done)
    ·try simp only [nm, ne_eq] at h0
     refine x_skip <| then_n <| sr rfl <| mI rfl <| Wp rfl <| st_make1 T.u22 T.zero39 (by kernel_rfl) (by decide) rfl rfl ?_
     intro bn w9 e10 c11 hb12
     have ge_bn : w.heap.size ≤ bn := by rw [e10]; exact HC.size
     have ne_b1_bn : b1 ≠ bn := by rw [e10]; exact hb5.ne_size
     replace HC := HC.then c11
     replace hb5 := hb5.tr0 c11
     clear e10
     refine mI rfl <| mI rfl <| Wp rfl <| st_bld (ps := [(0, .tmp 23), (1, .tmp 24), (2, .tmp 25)]) (vs := [.slice _ _ _, .int _ _, .int _ _]) T.bld24 rfl <| Wp rfl <| st_alloc T.zero24 ?_
     intro b13 w14 e15 c16 hb17
     have ge_b13 : w.heap.size ≤ b13 := by rw [e15]; exact HC.size
     have ne_b1_b13 : b1 ≠ b13 := by rw [e15]; exact hb5.ne_size
     have ne_bn_b13 : bn ≠ b13 := by rw [e15]; exact hb12.ne_size
     replace HC := HC.then c16
     replace hb5 := hb5.tr0 c16
     replace hb12 := hb12.tr0 c16
     clear e15
     refine Wp rfl <| st_store (v := .agg ⟨[.slice _ _ _, .int _ _, .int _ _]⟩) T.size24 rfl rfl rfl hb17 rfl (Nat.le_of_ble_eq_true rfl) (by simp [Value.oneCell', S]) rfl ?_
     intro w18 c19 hb20; simp only [setVs, setV] at hb20
     clear hb17
     replace HC := HC.then1 c19 ge_b13
     replace hb5 := hb5.tr1 c19 ne_b1_b13
     replace hb12 := hb12.tr1 c19 ne_bn_b13
     refine en <| sr rfl <| fa T.fld24_0 rfl <| lL T.one22 rfl (hb20.cell rfl) <| Wp rfl <| st_bld (ps := [(0, .const (.int .i64 2)), (1, .const (.int .i64 7))]) (vs := [.int _ _, .int _ _, .int _ _, S _, .slice _ _ _, .int _ _]) T.bld39 rfl <| Wp rfl <| st_indexAddr T.u22 T.size39 rfl rfl (by decide) (by decide) <| Wp rfl <| st_store (v := .agg ⟨[.int _ _, .int _ _, .int _ _, S _, .slice _ _ _, .int _ _]⟩) T.size39 rfl rfl rfl hb12 rfl (Nat.le_of_ble_eq_true rfl) (by simp [Value.oneCell', S]) rfl ?_
     intro w21 c22 hb23; simp only [setVs, setV] at hb23
     clear hb12
     replace HC := HC.then1 c22 ge_bn
     replace hb5 := hb5.tr1 c22 ne_b1_bn
     replace hb20 := hb20.tr1 c22 (Ne.symm ne_bn_b13)
     refine en <| sr rfl <| Wp rfl <| st_loadA (vs := [_, _, _]) T.agg24 rfl (hb20.cells (n := 3) (vs := [_, _, _]) rfl) rfl <| Wp rfl <| st_store (v := .agg ⟨[.slice _ _ _, .int _ _, .int _ _]⟩) T.size24 rfl rfl rfl hb5 rfl (Nat.le_of_ble_eq_true rfl) (by simp [Value.oneCell', S]) rfl ?_
     intro w24 c25 hb26; simp only [setVs, setV] at hb26
     clear hb5
     replace HC := HC.then1 c25 ge_b1
     replace hb20 := hb20.tr1 c25 (Ne.symm ne_b1_b13)
     replace hb23 := hb23.tr1 c25 (Ne.symm ne_b1_bn)
     refine aI rfl <| en <| x_ret <| ret_many (vs := [.agg ⟨[_, _, _]⟩, .int _ _]) rfl ⟨⟨_, _, rfl, run_loadVarA T.agg24 (hb26.cells (n := 3) rfl) rfl⟩, ⟨rfl, trivial⟩⟩ (Nat.le_of_ble_eq_true rfl) ?_
     exact ⟨⟨bn, rfl, ge_bn, hb23⟩, HC⟩

end Go.Proofs.YtpelmhoocepenaaDoor.K
set_option linter.unusedVariables false
set_option linter.unusedSimpArgs false
set_option autoImplicit false
set_option maxRecDepth 20000
namespace Go.Proofs.YtpelmhoocepenaaDoor.K
open Go Go.Proofs Go.RowKit

/-- A number's digits. -/
def dgC (d : Nat) : UInt8 := UInt8.ofNat (48 + d)
def decR (n : Nat) : Bytes := if h : n < 10 then [dgC n] else decR (n / 10) ++ [dgC (n % 10)]
def decS (a : Int) : Bytes := if a < 0 then 45 :: decR a.natAbs else decR a.natAbs
theorem dgC_to {d : Nat} (h : d < 10) : (dgC d).toNat = 48 + d := by unfold dgC; rw [UInt8.toNat_ofNat']; omega
theorem dgC_dig {d : Nat} (h : d < 10) : digB (dgC d) = true ∧ dgV (dgC d) = d := by
  unfold digB dgV; rw [dgC_to h]; exact ⟨by rw [decide_eq_true_eq]; omega, by omega⟩
theorem numN_snoc : ∀ (s : Bytes) (m : Int) (c : UInt8), numN m (s ++ [c]) = match numN m s with | none => none | some k => numN k [c]
  | [], m, c => by rw [List.nil_append]; rfl
  | x :: s, m, c => by
    rw [List.cons_append, numN, numN]
    split
    · rfl
    · exact numN_snoc s _ c
theorem numN_one {k : Int} {d : Nat} (hd : d < 10) (hk : -9223372036854775808 ≤ k * 10 - d) (h0 : k ≤ 0) : numN k [dgC d] = some (k * 10 - d) := by
  obtain ⟨h1, h2⟩ := dgC_dig hd
  rw [numN, h1, h2, if_neg]
  · rfl
  · rintro (h | h)
    · cases h
    · have h3 : (-9223372036854775808 + (d : Int)).tdiv 10 = -((9223372036854775808 - (d : Int)) / 10) := by
        rw [show (-9223372036854775808 + (d : Int)) = -(9223372036854775808 - (d : Int)) by omega, Int.neg_tdiv, Int.tdiv_eq_ediv_of_nonneg (by omega)]
      rw [h3] at h; omega
theorem numN_dec (n : Nat) : n ≤ 9223372036854775808 → numN 0 (decR n) = some (-(n : Int)) := by
  induction n using Nat.strongRecOn with
  | _ n ih =>
    intro hn
    rw [decR]
    split
    · rename_i h; rw [numN_one h (by omega) (by omega)]; congr 1; omega
    · rename_i h
      rw [numN_snoc, ih (n / 10) (by omega) (by omega)]
      simp only
      rw [numN_one (by omega) (by omega) (by omega)]; congr 1; omega
theorem decR_hd (n : Nat) : ∃ c s, decR n = c :: s ∧ digB c = true := by
  induction n using Nat.strongRecOn with
  | _ n ih =>
    rw [decR]
    split
    · rename_i h; exact ⟨_, _, rfl, (dgC_dig h).1⟩
    · rename_i h
      obtain ⟨c, s, h1, h2⟩ := ih (n / 10) (by omega)
      exact ⟨c, s ++ [dgC (n % 10)], by rw [h1]; rfl, h2⟩
theorem trim_ne {c a : UInt8} {s : Bytes} (h : c ≠ a) : Lib.trimPrefix (c :: s) [a] = c :: s := by
  unfold Lib.trimPrefix Lib.hasPrefix; simp [h.symm, h]
theorem trim_eq {a : UInt8} {s : Bytes} : Lib.trimPrefix (a :: s) [a] = s := by unfold Lib.trimPrefix Lib.hasPrefix; simp
theorem numV_dec {a : Int} (h0 : -9223372036854775808 ≤ a) (h1 : a ≤ 9223372036854775807) : numV (decS a) = (a, true) := by
  obtain ⟨c, s, hs, hc⟩ := decR_hd a.natAbs
  have hd := hc
  unfold digB at hd; rw [decide_eq_true_eq] at hd
  have hm : c ≠ 45 := by intro e; rw [e] at hd; exact absurd hd.1 (by decide)
  have hp : c ≠ 43 := by intro e; rw [e] at hd; exact absurd hd.1 (by decide)
  have hn := numN_dec a.natAbs (by omega)
  unfold decS
  split
  · rename_i hneg
    have ht : Lib.trimPrefix (45 :: decR a.natAbs) [45] = decR a.natAbs := trim_eq
    have hne : ¬ Lib.trimPrefix (45 :: decR a.natAbs) [45] = 45 :: decR a.natAbs := by rw [ht]; intro e; have := congrArg List.length e; simp at this
    have hr : restV (45 :: decR a.natAbs) = decR a.natAbs := by unfold restV; rw [if_neg hne, ht]
    unfold numV
    rw [hr, hn]
    simp only
    rw [if_neg (by rintro (h | h); (rw [hs] at h; cases h); exact hne h.1), if_neg hne]
    congr 1; omega
  · rename_i hpos
    have ht : Lib.trimPrefix (decR a.natAbs) [45] = decR a.natAbs := by rw [hs]; exact trim_ne hm
    have ht2 : Lib.trimPrefix (decR a.natAbs) [43] = decR a.natAbs := by rw [hs]; exact trim_ne hp
    have hr : restV (decR a.natAbs) = decR a.natAbs := by unfold restV; rw [if_pos ht, ht2]
    unfold numV
    rw [hr, hn]
    simp only
    rw [if_neg (by rintro (h | h); (rw [hs] at h; cases h); (have := h.2; omega)), if_pos ht]
    congr 1; rw [wrap64_id (by omega) (by omega)]; omega

end Go.Proofs.YtpelmhoocepenaaDoor.K
set_option linter.unusedVariables false
set_option linter.unusedSimpArgs false
set_option autoImplicit false
set_option maxRecDepth 20000
namespace Go.Proofs.YtpelmhoocepenaaDoor.K
open Go Go.Proofs Go.RowKit

theorem decR_len : ∀ (k n : Nat), n < 10 ^ (k + 1) → (decR n).length ≤ k + 1
  | 0, n, h => by rw [decR, dif_pos (by simpa using h)]; simp
  | k + 1, n, h => by
    rw [decR]
    split
    · simp
    · have h2 := decR_len k (n / 10) (by rw [Nat.pow_succ] at h; omega)
      simp only [List.length_append, List.length_cons, List.length_nil]; omega
theorem decR_20 {n : Nat} (h : n ≤ 9223372036854775808) : (decR n).length ≤ 20 := decR_len 19 n (by have : (10 : Nat) ^ (19 + 1) = 100000000000000000000 := rfl; omega)
def sgV (a : Int) (m : Nat) : Int := if a < 0 then -(m : Int) else m
def tlV (m : Nat) (z : Bytes) : Bytes := (if m = 0 then [] else decR m) ++ z
theorem decR_big {m : Nat} (h : 10 ≤ m) : decR m = decR (m / 10) ++ [dgC (m % 10)] := by rw [decR, dif_neg (by omega)]
theorem decR_small {m : Nat} (h : m < 10) : decR m = [dgC m] := by rw [decR, dif_pos h]
theorem tl_step {m : Nat} {z : Bytes} (h : m ≠ 0) : tlV (m / 10) (dgC (m % 10) :: z) = tlV m z := by
  unfold tlV
  rw [if_neg h]
  by_cases h9 : m < 10
  · rw [if_pos (by omega), decR_small h9, Nat.mod_eq_of_lt h9]; rfl
  · rw [if_neg (by omega), decR_big (m := m) (by omega)]; simp
theorem dg_at {d : Nat} (h : d < 10) : byte [48, 49, 50, 51, 52, 53, 54, 55, 56, 57] d = dgC d := by
  match d, h with
  | 0, _ => rfl
  | 1, _ => rfl
  | 2, _ => rfl
  | 3, _ => rfl
  | 4, _ => rfl
  | 5, _ => rfl
  | 6, _ => rfl
  | 7, _ => rfl
  | 8, _ => rfl
  | 9, _ => rfl
theorem sg_mod (a : Int) (m : Nat) : (sgV a m).tmod 10 = sgV a (m % 10) := by
  unfold sgV; split
  · rw [Int.neg_tmod, Int.tmod_eq_emod_of_nonneg (by omega)]; omega
  · rw [Int.tmod_eq_emod_of_nonneg (by omega)]; omega
theorem sg_div (a : Int) (m : Nat) : (sgV a m).tdiv 10 = sgV a (m / 10) := by
  unfold sgV; split
  · rw [Int.neg_tdiv, Int.tdiv_eq_ediv_of_nonneg (by omega)]; omega
  · rw [Int.tdiv_eq_ediv_of_nonneg (by omega)]; omega
theorem sg_in {a : Int} {m : Nat} (h0 : -9223372036854775808 ≤ a) (h1 : a ≤ 9223372036854775807) (h : m ≤ a.natAbs) : -9223372036854775808 ≤ sgV a m ∧ sgV a m ≤ 9223372036854775807 := by unfold sgV; split <;> omega

theorem ltext_spec (a : Int) (h0 : -9223372036854775808 ≤ a) (h1 : a ≤ 9223372036854775807) (w : World) : CallR Tryd.prog 9 #[.int .i64 a] w fun v w' => v = S (decS a) ∧ Chg [] w w' := by
 have hN := decR_20 (n := a.natAbs) (by omega)
 refine callR_of_wp (args := [_]) Tryd.func9 rfl (Nat.le_of_ble_eq_true rfl) ?_
 have HC : Chg [] w w := .refl _
 refine sr rfl <| aS rfl <| en <| sr rfl <| aS rfl <| en <| x_seq <| sr rfl <| mI rfl <| aI rfl <| en <| x_block <| x_loop (ι := Nat × Bytes) [3, 4, 5, 7, 8, 9, 10, 11, 12, 13, 14, 15, 16, 17, 18, 19, 20, 21, 22, 23, 24, 25] (fun ⟨m, z⟩ => [(3, S z), (4, .int .i64 (sgV a m))]) (fun ⟨m, z⟩ W => (m ≤ a.natAbs ∧ ((z = [] ∧ m = a.natAbs) ∨ (z ≠ [] ∧ tlV m z = decR a.natAbs)) ∧ z.length ≤ 20) ∧ (Chg [] w W)) (fun ⟨m, z⟩ => if z = [] then m + 2 else m + 1) (a.natAbs, []) ?_ ?_ ?_
 · exact ⟨rfl, congrArg (Value.int .i64) (show a = sgV a a.natAbs by unfold sgV; split <;> omega), trivial⟩
 ·refine ⟨?_, HC⟩
  exact ⟨Nat.le_refl _, .inl ⟨rfl, rfl⟩, by simp⟩
 intro ⟨m, z⟩ G2 w1 ⟨⟨hm, hz, hzl⟩, HC⟩
 change wp _ _ _ _ _ (upds (over _ _ G2) [(3, S z), (4, .int .i64 (sgV a m))]) _ _
 have hsm := sg_mod a m
 have hsd := sg_div a m
 have hsi := sg_in h0 h1 (m := m % 10) (by omega)
 have hsi2 := sg_in h0 h1 (m := m / 10) (by omega)
 refine x_seq <| sr rfl <| mI rfl <| Wp rfl <| st_neq rfl rfl <| mB rfl <| w_split (d := 9) rfl (fun g3 => ?_) (fun g3 => ?_)
 ·try simp only [nm, ne_eq] at g3
  refine w_no 2 9 false <| w_no 2 9 false <| pT rfl rfl <| en <| x_cond (t := true) rfl (fun h0 => ?_) (fun h0 => ?_)
  rotate_left
  · exact absurd h0 (by decide)
  have hgo : m ≠ 0 ∨ z = [] := by first | (right; assumption) | (left; intro e; rw [e] at g3; exact g3 (by unfold sgV; split <;> rfl)) | (left; intro e; subst e; simp_all [sgV]; done)
  have htl : tlV (m / 10) (dgC (m % 10) :: z) = decR a.natAbs := by rcases hz with ⟨rfl, rfl⟩ | ⟨h8, h9⟩; (unfold tlV; by_cases h9 : a.natAbs < 10; (rw [if_pos (by omega), decR_small h9, Nat.mod_eq_of_lt h9]; rfl); (rw [if_neg (by omega), ← decR_big (m := a.natAbs) (by omega)])); (rw [← h9]; exact tl_step (hgo.resolve_right h8))
  have htlen : (dgC (m % 10) :: z).length ≤ 20 := by have h9 := congrArg List.length htl; unfold tlV at h9; simp only [List.length_append] at h9; omega
  have hmu : (if dgC (m % 10) :: z = [] then m / 10 + 2 else m / 10 + 1) < (if z = [] then m + 2 else m + 1) := by rw [if_neg (by simp)]; split; omega; (rcases hgo with h | h; omega; contradiction)
  refine x_skip <| then_n <| x_seq <| x_block <| sr rfl <| mI rfl <| Wp rfl <| st_rem rfl rfl (by decide) <| aI rfl <| en <| x_seq <| sr rfl <| mI rfl <| Wp rfl <| st_lss rfl rfl <| en <| x_cond rfl (fun h1 => ?_) (fun h1 => ?_)
  ·try simp only [nm, ne_eq] at h1
   have hdd : IntKind.i64.wrap (0 - (sgV a m).tmod 10) = ((m % 10 : Nat) : Int) := by rw [hsm] at *; unfold sgV at *; split at * <;> (rw [wrap64_id (by omega) (by omega)]; omega)
   refine x_region rfl <| mI rfl <| Wp rfl <| st_neg rfl <| aI rfl <| en ?_
   rw [hdd]
   have hd10 : m % 10 < 10 := Nat.mod_lt _ (by omega)
   have hdg := dg_at hd10
   have hdt := dgC_to hd10
   refine x_region rfl <| mI rfl <| Wp rfl <| st_sidx T.u9 rfl rfl (by omega) (by (simp only [List.length_cons, List.length_nil]; omega)) ?_
   rw [show byte [48, 49, 50, 51, 52, 53, 54, 55, 56, 57] ((m % 10 : Nat) : Int).toNat = dgC (m % 10) from hdg]
   refine Wp rfl <| st_byteStr (c := (dgC (m % 10))) T.u5 T.u9 rfl (by rw [hdt]; omega) <| mS rfl <| Wp rfl <| st_sadd rfl rfl (by (simp only [List.length_cons, List.length_nil]; omega)) <| aS rfl <| wops_nil <| block_n <| then_n <| x_region rfl <| mI rfl <| Wp rfl <| st_quok rfl rfl (by decide) (by exact (show IntKind.i64.wrap _ = sgV a (m / 10) by rw [hsd]; exact wrap64_id hsi2.1 hsi2.2)) <| aI rfl <| en <| ⟨(m / 10, dgC (m % 10) :: z), ?_, ?_, rfl, ⟨rfl, rfl, trivial⟩, ?_⟩
   ·refine ⟨?_, HC⟩
    exact ⟨by omega, .inr ⟨by simp, htl⟩, htlen⟩
   ·exact hmu
   repeat (first | exact agree_upds agree_over rfl | refine agree_upd ?_ rfl | refine agree_upds ?_ rfl | refine agree_over_sub ?_ rfl)
  ·try simp only [nm, ne_eq] at h1
   have hdd : (sgV a m).tmod 10 = ((m % 10 : Nat) : Int) := by rw [hsm] at *; unfold sgV at *; split at * <;> omega
   refine x_skip <| then_n ?_
   rw [hdd]
   have hd10 : m % 10 < 10 := Nat.mod_lt _ (by omega)
   have hdg := dg_at hd10
   have hdt := dgC_to hd10
   refine x_region rfl <| mI rfl <| Wp rfl <| st_sidx T.u9 rfl rfl (by omega) (by (simp only [List.length_cons, List.length_nil]; omega)) ?_
   rw [show byte [48, 49, 50, 51, 52, 53, 54, 55, 56, 57] ((m % 10 : Nat) : Int).toNat = dgC (m % 10) from hdg]
   refine Wp rfl <| st_byteStr (c := (dgC (m % 10))) T.u5 T.u9 rfl (by rw [hdt]; omega) <| mS rfl <| Wp rfl <| st_sadd rfl rfl (by (simp only [List.length_cons, List.length_nil]; omega)) <| aS rfl <| wops_nil <| block_n <| then_n <| x_region rfl <| mI rfl <| Wp rfl <| st_quok rfl rfl (by decide) (by exact (show IntKind.i64.wrap _ = sgV a (m / 10) by rw [hsd]; exact wrap64_id hsi2.1 hsi2.2)) <| aI rfl <| en <| ⟨(m / 10, dgC (m % 10) :: z), ?_, ?_, rfl, ⟨rfl, rfl, trivial⟩, ?_⟩
   ·refine ⟨?_, HC⟩
    exact ⟨by omega, .inr ⟨by simp, htl⟩, htlen⟩
   ·exact hmu
   repeat (first | exact agree_upds agree_over rfl | refine agree_upd ?_ rfl | refine agree_upds ?_ rfl | refine agree_over_sub ?_ rfl)
 ·try simp only [nm, ne_eq] at g3
  refine w_yes 2 9 false <| st_move (v := S _) rfl <| w_yes 2 9 false <| st_seql rfl rfl <| pF rfl rfl <| en <| x_cond rfl (fun h0 => ?_) (fun h0 => ?_)
  ·try simp only [nm, ne_eq] at h0
   have hgo : m ≠ 0 ∨ z = [] := by first | (right; assumption) | (left; intro e; rw [e] at g3; exact g3 (by unfold sgV; split <;> rfl)) | (left; intro e; subst e; simp_all [sgV]; done)
   have htl : tlV (m / 10) (dgC (m % 10) :: z) = decR a.natAbs := by rcases hz with ⟨rfl, rfl⟩ | ⟨h8, h9⟩; (unfold tlV; by_cases h9 : a.natAbs < 10; (rw [if_pos (by omega), decR_small h9, Nat.mod_eq_of_lt h9]; rfl); (rw [if_neg (by omega), ← decR_big (m := a.natAbs) (by omega)])); (rw [← h9]; exact tl_step (hgo.resolve_right h8))
   have htlen : (dgC (m % 10) :: z).length ≤ 20 := by have h9 := congrArg List.length htl; unfold tlV at h9; simp only [List.length_append] at h9; omega
   have hmu : (if dgC (m % 10) :: z = [] then m / 10 + 2 else m / 10 + 1) < (if z = [] then m + 2 else m + 1) := by rw [if_neg (by simp)]; split; omega; (rcases hgo with h | h; omega; contradiction)
   refine x_skip <| then_n <| x_seq <| x_block <| sr rfl <| mI rfl <| Wp rfl <| st_rem rfl rfl (by decide) <| aI rfl <| en <| x_seq <| sr rfl <| mI rfl <| Wp rfl <| st_lss rfl rfl <| en <| x_cond rfl (fun h1 => ?_) (fun h1 => ?_)
   ·try simp only [nm, ne_eq] at h1
    have hdd : IntKind.i64.wrap (0 - (sgV a m).tmod 10) = ((m % 10 : Nat) : Int) := by rw [hsm] at *; unfold sgV at *; split at * <;> (rw [wrap64_id (by omega) (by omega)]; omega)
    refine x_region rfl <| mI rfl <| Wp rfl <| st_neg rfl <| aI rfl <| en ?_
    rw [hdd]
    have hd10 : m % 10 < 10 := Nat.mod_lt _ (by omega)
    have hdg := dg_at hd10
    have hdt := dgC_to hd10
    refine x_region rfl <| mI rfl <| Wp rfl <| st_sidx T.u9 rfl rfl (by omega) (by (simp only [List.length_cons, List.length_nil]; omega)) ?_
    rw [show byte [48, 49, 50, 51, 52, 53, 54, 55, 56, 57] ((m % 10 : Nat) : Int).toNat = dgC (m % 10) from hdg]
    refine Wp rfl <| st_byteStr (c := (dgC (m % 10))) T.u5 T.u9 rfl (by rw [hdt]; omega) <| mS rfl <| Wp rfl <| st_sadd rfl rfl (by (simp only [List.length_cons, List.length_nil]; omega)) <| aS rfl <| wops_nil <| block_n <| then_n <| x_region rfl <| mI rfl <| Wp rfl <| st_quok rfl rfl (by decide) (by exact (show IntKind.i64.wrap _ = sgV a (m / 10) by rw [hsd]; exact wrap64_id hsi2.1 hsi2.2)) <| aI rfl <| en <| ⟨(m / 10, dgC (m % 10) :: z), ?_, ?_, rfl, ⟨rfl, rfl, trivial⟩, ?_⟩
    ·refine ⟨?_, HC⟩
     exact ⟨by omega, .inr ⟨by simp, htl⟩, htlen⟩
    ·exact hmu
    repeat (first | exact agree_upds agree_over rfl | refine agree_upd ?_ rfl | refine agree_upds ?_ rfl | refine agree_over_sub ?_ rfl)
   ·try simp only [nm, ne_eq] at h1
    have hdd : (sgV a m).tmod 10 = ((m % 10 : Nat) : Int) := by rw [hsm] at *; unfold sgV at *; split at * <;> omega
    refine x_skip <| then_n ?_
    rw [hdd]
    have hd10 : m % 10 < 10 := Nat.mod_lt _ (by omega)
    have hdg := dg_at hd10
    have hdt := dgC_to hd10
    refine x_region rfl <| mI rfl <| Wp rfl <| st_sidx T.u9 rfl rfl (by omega) (by (simp only [List.length_cons, List.length_nil]; omega)) ?_
    rw [show byte [48, 49, 50, 51, 52, 53, 54, 55, 56, 57] ((m % 10 : Nat) : Int).toNat = dgC (m % 10) from hdg]
    refine Wp rfl <| st_byteStr (c := (dgC (m % 10))) T.u5 T.u9 rfl (by rw [hdt]; omega) <| mS rfl <| Wp rfl <| st_sadd rfl rfl (by (simp only [List.length_cons, List.length_nil]; omega)) <| aS rfl <| wops_nil <| block_n <| then_n <| x_region rfl <| mI rfl <| Wp rfl <| st_quok rfl rfl (by decide) (by exact (show IntKind.i64.wrap _ = sgV a (m / 10) by rw [hsd]; exact wrap64_id hsi2.1 hsi2.2)) <| aI rfl <| en <| ⟨(m / 10, dgC (m % 10) :: z), ?_, ?_, rfl, ⟨rfl, rfl, trivial⟩, ?_⟩
    ·refine ⟨?_, HC⟩
     exact ⟨by omega, .inr ⟨by simp, htl⟩, htlen⟩
    ·exact hmu
    repeat (first | exact agree_upds agree_over rfl | refine agree_upd ?_ rfl | refine agree_upds ?_ rfl | refine agree_over_sub ?_ rfl)
  ·try simp only [nm, ne_eq] at h0
   have hst : m = 0 ∧ z ≠ [] := by constructor; (first | (unfold sgV at *; split at * <;> simp_all; done) | (unfold sgV at *; split at * <;> omega)); (first | assumption | simp_all)
   have hzz : z = decR a.natAbs := by rcases hz with h | h; (exact absurd h.1 hst.2); (rw [← h.2, hst.1]; rfl)
   refine x_exit <| then_x <| then_x <| block_x <| then_n <| x_seq <| sr rfl <| mI rfl <| Wp rfl <| st_lss rfl rfl <| en <| x_cond rfl (fun h2 => ?_) (fun h2 => ?_)
   ·try simp only [nm, ne_eq] at h2
    refine sr rfl <| mS rfl <| Wp rfl <| st_sadd rfl rfl (by (simp only [List.length_cons, List.length_nil]; omega)) <| aS rfl <| en <| x_ret <| then_r <| ret_tmp (v := S _) rfl rfl <| ⟨?_, HC⟩
    unfold decS; first | (rw [if_pos (by assumption), hzz]; rfl) | (rw [if_neg (by assumption), hzz])
   ·try simp only [nm, ne_eq] at h2
    refine x_skip <| then_n <| sr rfl <| mS rfl <| aS rfl <| en <| x_ret <| ret_tmp (v := S _) rfl rfl <| ⟨?_, HC⟩
    unfold decS; first | (rw [if_pos (by assumption), hzz]; rfl) | (rw [if_neg (by assumption), hzz])

end Go.Proofs.YtpelmhoocepenaaDoor.K
set_option linter.unusedVariables false
set_option linter.unusedSimpArgs false
set_option autoImplicit false
set_option maxRecDepth 20000
namespace Go.Proofs.YtpelmhoocepenaaDoor.K
open Go Go.Proofs Go.RowKit

theorem chunks_flat {α : Type} {sz : Nat} {f : α → List Value} {h1 h2 h3} {w : World} {D : Nat → Prop} : ∀ xs : List α, Chunks (Enc.flat sz f h1 h2 h3) w D xs (xs.flatMap f)
  | [] => .nil
  | x :: xs => by rw [List.flatMap_cons]; exact Chunks.cons rfl (chunks_flat xs)
theorem sl_lit {α : Type} {sz : Nat} {f : α → List Value} {h1 h2 h3} {w : World} {b : Nat} {T' : TypeId} (xs : List α) (hm : xs.length ≤ 9223372036854775807) (h : Blk w b (xs.flatMap f) T') : Sl (Enc.flat sz f h1 h2 h3) w (fun k => k = b) (some ⟨b, 0, none⟩) xs :=
  (Own.of_blk (D := fun k => k = b) h rfl hm (chunks_flat xs)).sl
theorem newSl {w : World} {bn : Nat} (h : Blk w bn [.int .i64 2, .int .i64 7, .int .i64 0, S [], .slice none 0 0, .int .i64 0] 39) : Sl inE w (fun k => k = bn) (some ⟨bn, 0, none⟩) newZ :=
  Sl.of_one (c := inE) (x := (⟨2, 7, 0, [], [], 0⟩ : Ino)) h ⟨none, 0, rfl, Nat.le_refl _, by decide, Sl.nil⟩ rfl
theorem aw_1 : testV newZ 0 [[97], [61], [98]] = 1 := by kernel_rfl
theorem aw_2 : testV newZ 0 [[33], [97], [61], [98]] = 0 := by kernel_rfl
theorem aw_3 : testV newZ 0 [[45, 100], [47]] = 0 := by kernel_rfl
theorem aw_4 : testV newZ 0 [[51], [45, 108, 116], [120]] = 2 := by kernel_rfl
theorem aw_5 : testV newZ 0 [] = 1 := rfl
/-- What a number of three arguments tells. -/
theorem num_tell {a b : Int} {op : Bytes} (ha0 : -9223372036854775808 ≤ a) (ha1 : a ≤ 9223372036854775807) (hb0 : -9223372036854775808 ≤ b) (hb1 : b ≤ 9223372036854775807) (h : op ∈ binL) (h1 : op ≠ [61]) (h2 : op ≠ [33, 61]) : testV newZ 0 [decS a, op, decS b] = truN (bmapV (Lib.compareInt a b) op) := by
  show threeV newZ 0 (decS a) op (decS b) = _
  unfold threeV; rw [if_pos h]
  unfold binV; rw [if_neg h1, if_neg h2, numV_dec ha0 ha1, numV_dec hb0 hb1]; rfl
theorem decS_len {a : Int} (h0 : -9223372036854775808 ≤ a) (h1 : a ≤ 9223372036854775807) : (decS a).length ≤ 21 := by
  have h := decR_20 (n := a.natAbs) (by omega)
  unfold decS; split
  · rw [List.length_cons]; omega
  · omega

set_option maxHeartbeats 800000 in
theorem awake24_spec {w : World} (hmx : MaxT w) (ht : Tab w) : CallR Tryd.prog 10 #[] w fun v w' => v = .bool true ∧ Chg [] w w' := by
 refine callR_of_wp (args := []) Tryd.func10 rfl (Nat.le_of_ble_eq_true rfl) ?_
 have HC : Chg [] w w := .refl _
 have hm1 := hmx.lt
 have ht1 := ht.lt
 refine sr rfl <| aB rfl <| en <| sr rfl <| Wp rfl <| st_call (ags := [_, _]) rfl rfl T.ent6 rfl (New_spec _) ?_
 rintro _ w1 ⟨⟨bn, rfl, hgn, hbn⟩, c2⟩
 have ge_bn : w.heap.size ≤ bn := Nat.le_trans HC.size hgn
 replace HC := HC.then c2
 replace hmx := hmx.tr0 c2
 replace ht := ht.tr0 c2
 refine mv (v := .tuple ⟨[_, _]⟩) rfl <| Wp rfl <| st_extract (vs := [_, _]) (v := .agg ⟨[.slice _ _ _, .int _ _, .int _ _]⟩) rfl rfl <| Wp rfl <| st_extract (vs := [_, _]) (v := .int _ _) rfl rfl <| Wp rfl <| st_alloc T.zero24 ?_
 intro b1 w3 e4 c5 hb6
 have ge_b1 : w.heap.size ≤ b1 := by rw [e4]; exact HC.size
 have ne_bn_b1 : bn ≠ b1 := by rw [e4]; exact hbn.ne_size
 replace HC := HC.then c5
 replace hmx := hmx.tr0 c5
 replace ht := ht.tr0 c5
 replace hbn := hbn.tr0 c5
 clear e4
 refine Wp rfl <| st_store (v := .agg ⟨[.slice _ _ _, .int _ _, .int _ _]⟩) T.size24 rfl rfl rfl hb6 rfl (Nat.le_of_ble_eq_true rfl) (by simp [Value.oneCell', S]) rfl ?_
 intro w7 c8 hb9; simp only [setVs, setV] at hb9
 clear hb6
 replace HC := HC.then1 c8 ge_b1
 replace hmx := hmx.tr c8 (by intro hx; simp only [List.mem_cons, List.mem_nil_iff, or_false] at hx; omega)
 replace ht := ht.tr c8 (by intro hx; have := ht.lt; have := ht1; simp only [List.mem_cons, List.mem_nil_iff, or_false] at hx; omega)
 replace hbn := hbn.tr1 c8 ne_bn_b1
 refine aI rfl <| en <| sr rfl <| Wp rfl <| st_loadA (vs := [_, _, _]) T.agg24 rfl (hb9.cells (n := 3) (vs := [_, _, _]) rfl) rfl <| Wp rfl <| st_lit (ps := [(0, .const (S [97])), (1, .const (S [61])), (2, .const (S [98]))]) (vs := [S _, S _, S _]) T.lit29 (by decide) rfl (by simp only [List.forall_mem_cons, List.not_mem_nil, false_imp_iff, implies_true, and_true]; exact ⟨rfl, rfl, rfl⟩) rfl ?_
 intro b10 w11 e12 c13 hb14
 have ge_b10 : w.heap.size ≤ b10 := by rw [e12]; exact HC.size
 have ne_bn_b10 : bn ≠ b10 := by rw [e12]; exact hbn.ne_size
 have ne_b1_b10 : b1 ≠ b10 := by rw [e12]; exact hb9.ne_size
 replace HC := HC.then c13
 replace hmx := hmx.tr0 c13
 replace ht := ht.tr0 c13
 replace hbn := hbn.tr0 c13
 replace hb9 := hb9.tr0 c13
 clear e12
 refine Wp rfl <| st_call (ags := [_, _, _]) rfl rfl T.ent8 rfl (test3_spec (Z := newZ) (newSl hbn) (by decide) newZ_fit (a := [97]) (b := [61]) (d := [98]) (sl_lit (f := fun s : Bytes => [S s]) [[97], [61], [98]] (by simp) hb14) (Nat.le_refl _) hmx ht (by simp) (by simp) (by simp)) ?_
 rintro vT1 w15 ⟨hvT, c16⟩
 rw [aw_1] at hvT
 subst hvT
 replace HC := HC.then c16
 replace hmx := hmx.tr0 c16
 replace ht := ht.tr0 c16
 replace hbn := hbn.tr0 c16
 replace hb9 := hb9.tr0 c16
 replace hb14 := hb14.tr0 c16
 refine Wp rfl <| st_eql rfl rfl <| mB rfl <| w_split (d := 11) rfl (fun g17 => ?_) (fun g17 => ?_)
 ·try simp only [nm, ne_eq] at g17
  refine w_yes 4 11 true <| st_loadA (vs := [_, _, _]) T.agg24 rfl (hb9.cells (n := 3) (vs := [_, _, _]) rfl) rfl <| w_yes 4 11 true <| st_lit (ps := [(0, .const (S [33])), (1, .const (S [97])), (2, .const (S [61])), (3, .const (S [98]))]) (vs := [S _, S _, S _, S _]) T.lit29 (by decide) rfl (by simp only [List.forall_mem_cons, List.not_mem_nil, false_imp_iff, implies_true, and_true]; exact ⟨rfl, rfl, rfl, rfl⟩) rfl ?_
  intro b18 w19 e20 c21 hb22
  have ge_b18 : w.heap.size ≤ b18 := by rw [e20]; exact HC.size
  have ne_bn_b18 : bn ≠ b18 := by rw [e20]; exact hbn.ne_size
  have ne_b1_b18 : b1 ≠ b18 := by rw [e20]; exact hb9.ne_size
  have ne_b10_b18 : b10 ≠ b18 := by rw [e20]; exact hb14.ne_size
  replace HC := HC.then c21
  replace hmx := hmx.tr0 c21
  replace ht := ht.tr0 c21
  replace hbn := hbn.tr0 c21
  replace hb9 := hb9.tr0 c21
  replace hb14 := hb14.tr0 c21
  clear e20
  refine w_yes 4 11 true <| st_call (ags := [_, _, _]) rfl rfl T.ent8 rfl (test4_spec (Z := newZ) (newSl hbn) (by decide) newZ_fit (a := [33]) (b := [97]) (d := [61]) (e := [98]) (sl_lit (f := fun s : Bytes => [S s]) [[33], [97], [61], [98]] (by simp) hb22) (Nat.le_refl _) hmx ht (by simp) (by simp) (by simp) (by simp)) ?_
  rintro vT2 w23 ⟨hvT, c24⟩
  rw [aw_2] at hvT
  subst hvT
  replace HC := HC.then c24
  replace hmx := hmx.tr0 c24
  replace ht := ht.tr0 c24
  replace hbn := hbn.tr0 c24
  replace hb9 := hb9.tr0 c24
  replace hb14 := hb14.tr0 c24
  replace hb22 := hb22.tr0 c24
  refine w_yes 4 11 true <| st_eql rfl rfl <| pT rfl rfl <| mB rfl <| w_split (d := 17) rfl (fun g25 => ?_) (fun g25 => ?_)
  ·try simp only [nm, ne_eq] at g25
   refine w_yes 10 17 true <| st_loadA (vs := [_, _, _]) T.agg24 rfl (hb9.cells (n := 3) (vs := [_, _, _]) rfl) rfl <| w_yes 10 17 true <| st_lit (ps := [(0, .const (S [45, 100])), (1, .const (S [47]))]) (vs := [S _, S _]) T.lit29 (by decide) rfl (by simp only [List.forall_mem_cons, List.not_mem_nil, false_imp_iff, implies_true, and_true]; exact ⟨rfl, rfl⟩) rfl ?_
   intro b26 w27 e28 c29 hb30
   have ge_b26 : w.heap.size ≤ b26 := by rw [e28]; exact HC.size
   have ne_bn_b26 : bn ≠ b26 := by rw [e28]; exact hbn.ne_size
   have ne_b1_b26 : b1 ≠ b26 := by rw [e28]; exact hb9.ne_size
   have ne_b10_b26 : b10 ≠ b26 := by rw [e28]; exact hb14.ne_size
   have ne_b18_b26 : b18 ≠ b26 := by rw [e28]; exact hb22.ne_size
   replace HC := HC.then c29
   replace hmx := hmx.tr0 c29
   replace ht := ht.tr0 c29
   replace hbn := hbn.tr0 c29
   replace hb9 := hb9.tr0 c29
   replace hb14 := hb14.tr0 c29
   replace hb22 := hb22.tr0 c29
   clear e28
   refine w_yes 10 17 true <| st_call (ags := [_, _, _]) rfl rfl T.ent8 rfl (test2_spec (Z := newZ) (newSl hbn) (by decide) newZ_fit (a := [45, 100]) (b := [47]) (sl_lit (f := fun s : Bytes => [S s]) [[45, 100], [47]] (by simp) hb30) (Nat.le_refl _) hmx ht (by simp) (by simp)) ?_
   rintro vT3 w31 ⟨hvT, c32⟩
   rw [aw_3] at hvT
   subst hvT
   replace HC := HC.then c32
   replace hmx := hmx.tr0 c32
   replace ht := ht.tr0 c32
   replace hbn := hbn.tr0 c32
   replace hb9 := hb9.tr0 c32
   replace hb14 := hb14.tr0 c32
   replace hb22 := hb22.tr0 c32
   replace hb30 := hb30.tr0 c32
   refine w_yes 10 17 true <| st_eql rfl rfl <| pT rfl rfl <| mB rfl <| w_split (d := 23) rfl (fun g33 => ?_) (fun g33 => ?_)
   ·try simp only [nm, ne_eq] at g33
    refine w_yes 16 23 true <| st_loadA (vs := [_, _, _]) T.agg24 rfl (hb9.cells (n := 3) (vs := [_, _, _]) rfl) rfl <| w_yes 16 23 true <| st_lit (ps := [(0, .const (S [51])), (1, .const (S [45, 108, 116])), (2, .const (S [120]))]) (vs := [S _, S _, S _]) T.lit29 (by decide) rfl (by simp only [List.forall_mem_cons, List.not_mem_nil, false_imp_iff, implies_true, and_true]; exact ⟨rfl, rfl, rfl⟩) rfl ?_
    intro b34 w35 e36 c37 hb38
    have ge_b34 : w.heap.size ≤ b34 := by rw [e36]; exact HC.size
    have ne_bn_b34 : bn ≠ b34 := by rw [e36]; exact hbn.ne_size
    have ne_b1_b34 : b1 ≠ b34 := by rw [e36]; exact hb9.ne_size
    have ne_b10_b34 : b10 ≠ b34 := by rw [e36]; exact hb14.ne_size
    have ne_b18_b34 : b18 ≠ b34 := by rw [e36]; exact hb22.ne_size
    have ne_b26_b34 : b26 ≠ b34 := by rw [e36]; exact hb30.ne_size
    replace HC := HC.then c37
    replace hmx := hmx.tr0 c37
    replace ht := ht.tr0 c37
    replace hbn := hbn.tr0 c37
    replace hb9 := hb9.tr0 c37
    replace hb14 := hb14.tr0 c37
    replace hb22 := hb22.tr0 c37
    replace hb30 := hb30.tr0 c37
    clear e36
    refine w_yes 16 23 true <| st_call (ags := [_, _, _]) rfl rfl T.ent8 rfl (test3_spec (Z := newZ) (newSl hbn) (by decide) newZ_fit (a := [51]) (b := [45, 108, 116]) (d := [120]) (sl_lit (f := fun s : Bytes => [S s]) [[51], [45, 108, 116], [120]] (by simp) hb38) (Nat.le_refl _) hmx ht (by simp) (by simp) (by simp)) ?_
    rintro vT4 w39 ⟨hvT, c40⟩
    rw [aw_4] at hvT
    subst hvT
    replace HC := HC.then c40
    replace hmx := hmx.tr0 c40
    replace ht := ht.tr0 c40
    replace hbn := hbn.tr0 c40
    replace hb9 := hb9.tr0 c40
    replace hb14 := hb14.tr0 c40
    replace hb22 := hb22.tr0 c40
    replace hb30 := hb30.tr0 c40
    replace hb38 := hb38.tr0 c40
    refine w_yes 16 23 true <| st_eql rfl rfl <| pT rfl rfl <| mB rfl <| w_split (d := 29) rfl (fun g41 => ?_) (fun g41 => ?_)
    ·try simp only [nm, ne_eq] at g41
     refine w_yes 22 29 true <| st_loadA (vs := [_, _, _]) T.agg24 rfl (hb9.cells (n := 3) (vs := [_, _, _]) rfl) rfl <| w_yes 22 29 true <| st_call (ags := [_, _, _]) rfl rfl T.ent8 rfl (test0_spec (Z := newZ) (newSl hbn) (by decide) newZ_fit hmx ht) ?_
     rintro vT5 w42 ⟨hvT, c43⟩
     rw [aw_5] at hvT
     subst hvT
     replace HC := HC.then c43
     replace hmx := hmx.tr0 c43
     replace ht := ht.tr0 c43
     replace hbn := hbn.tr0 c43
     replace hb9 := hb9.tr0 c43
     replace hb14 := hb14.tr0 c43
     replace hb22 := hb22.tr0 c43
     replace hb30 := hb30.tr0 c43
     replace hb38 := hb38.tr0 c43
     refine w_yes 22 29 true <| st_eql rfl rfl <| pT rfl rfl <| aB rfl <| en <| x_ret <| ret_tmp (v := .bool _) rfl rfl ?_
     exact ⟨rfl, HC⟩
    ·try simp only [nm, ne_eq] at g41
     first | exact absurd rfl g41 | exact absurd trivial g41 | (simp at g41; done)
   ·try simp only [nm, ne_eq] at g33
    first | exact absurd rfl g33 | exact absurd trivial g33 | (simp at g33; done)
  ·try simp only [nm, ne_eq] at g25
   first | exact absurd rfl g25 | exact absurd trivial g25 | (simp at g25; done)
 ·try simp only [nm, ne_eq] at g17
  first | exact absurd rfl g17 | exact absurd trivial g17 | (simp at g17; done)

theorem num1_spec {a b : Int} {bt ba bb bn : Nat} {w : World} (op : Bytes) (ha0 : -9223372036854775808 ≤ a) (ha1 : a ≤ 9223372036854775807) (hb0 : -9223372036854775808 ≤ b) (hb1 : b ≤ 9223372036854775807) (hop : op.length ≤ 100) (hbt : Blk w bt [.slice (some ⟨bn, 0, none⟩) 1 1, .int .i64 1, .int .i64 0] 24) (hba : Blk w ba [.int .i64 a] 2) (hbb : Blk w bb [.int .i64 b] 2) (hbn : Blk w bn [.int .i64 2, .int .i64 7, .int .i64 0, S [], .slice none 0 0, .int .i64 0] 39) (hmx : MaxT w) (ht : Tab w) : CallR Tryd.prog 7 #[S op, .pointer (some ⟨bt, 0, none⟩), .pointer (some ⟨ba, 0, none⟩), .pointer (some ⟨bb, 0, none⟩)] w fun v w' => v = .int .i64 (testV newZ 0 [decS a, op, decS b]) ∧ Chg [] w w' := by
 refine callR_of_wp (args := [_, _, _, _]) Tryd.func7 rfl (Nat.le_of_ble_eq_true rfl) ?_
 have HC : Chg [] w w := .refl _
 have hm1 := hmx.lt
 have ht1 := ht.lt
 have hla := decS_len ha0 ha1
 have hlb := decS_len hb0 hb1
 refine sr rfl <| aI rfl <| en <| x_seq <| x_draw [(0, 0), (1, 0), (3, 0), (4, 0), (2, 1), (5, 1), (6, 1), (7, 1), (8, 0)] T.mixed rfl rfl rfl (fun W => W.heap[bt]? = w.heap[bt]? ∧ W.heap[ba]? = w.heap[ba]? ∧ W.heap[bb]? = w.heap[bb]? ∧ W.heap[bn]? = w.heap[bn]? ∧ True) ⟨rfl, rfl, rfl, rfl, trivial⟩ ?_
 have o3 := hbt
 have o4 := hba
 have o5 := hbb
 have o6 := hbn
 have c2 := Chg.drew w
 generalize World.drew w = w1 at c2 ⊢
 replace HC := HC.then c2
 replace hmx := hmx.tr0 c2
 replace ht := ht.tr0 c2
 replace hbt := hbt.tr0 c2
 replace hba := hba.tr0 c2
 replace hbb := hbb.tr0 c2
 replace hbn := hbn.tr0 c2
 refine sq_q rfl (fun W hT => r_loadA (vs := [_, _, _]) T.agg24 rfl (Blk.cells (n := 3) (vs := [_, _, _]) (show Blk W bt _ _ from hT.1.trans o3) rfl) rfl) <| sq_q rfl (fun W hT => r_load1 (v := .int _ _) T.one2 rfl (Blk.cell (show Blk W ba _ _ from hT.2.1.trans o4) rfl)) <| sq_q rfl (fun W hT => r_move (v := S _) rfl) <| sq_q rfl (fun W hT => r_load1 (v := .int _ _) T.one2 rfl (Blk.cell (show Blk W bb _ _ from hT.2.2.1.trans o5) rfl)) <| sq_call1 rfl (r_call (ags := [_]) rfl rfl T.ent9 rfl) (ltext_spec a ha0 ha1 _) ?_
 rintro _ w7 ⟨rfl, c8⟩
 replace HC := HC.then c8
 replace hmx := hmx.tr0 c8
 replace ht := ht.tr0 c8
 replace hbt := hbt.tr0 c8
 replace hba := hba.tr0 c8
 replace hbb := hbb.tr0 c8
 replace hbn := hbn.tr0 c8
 refine ⟨_, fun _ h => h, ⟨(Eq.trans hbt o3.symm), (Eq.trans hba o4.symm), (Eq.trans hbb o5.symm), (Eq.trans hbn o6.symm), trivial⟩, ?_⟩
 refine sq_call1 rfl (r_call (ags := [_]) rfl rfl T.ent9 rfl) (ltext_spec b hb0 hb1 _) ?_
 rintro _ w9 ⟨rfl, c10⟩
 replace HC := HC.then c10
 replace hmx := hmx.tr0 c10
 replace ht := ht.tr0 c10
 replace hbt := hbt.tr0 c10
 replace hba := hba.tr0 c10
 replace hbb := hbb.tr0 c10
 replace hbn := hbn.tr0 c10
 refine ⟨_, fun _ h => h, ⟨(Eq.trans hbt o3.symm), (Eq.trans hba o4.symm), (Eq.trans hbb o5.symm), (Eq.trans hbn o6.symm), trivial⟩, ?_⟩
 refine sq_lit1 (ps := [(0, .tmp 8), (1, .tmp 9), (2, .tmp 11)]) (vs := [S _, S _, S _]) rfl T.lit29 (by decide) rfl (by simp only [List.forall_mem_cons, List.not_mem_nil, false_imp_iff, implies_true, and_true]; exact ⟨rfl, rfl, rfl⟩) rfl ?_
 intro b11 w12 e13 c14 hb15
 have ge_b11 : w.heap.size ≤ b11 := by rw [e13]; exact HC.size
 have ne_bt_b11 : bt ≠ b11 := by rw [e13]; exact hbt.ne_size
 have ne_ba_b11 : ba ≠ b11 := by rw [e13]; exact hba.ne_size
 have ne_bb_b11 : bb ≠ b11 := by rw [e13]; exact hbb.ne_size
 have ne_bn_b11 : bn ≠ b11 := by rw [e13]; exact hbn.ne_size
 replace HC := HC.then c14
 replace hmx := hmx.tr0 c14
 replace ht := ht.tr0 c14
 replace hbt := hbt.tr0 c14
 replace hba := hba.tr0 c14
 replace hbb := hbb.tr0 c14
 replace hbn := hbn.tr0 c14
 clear e13
 refine ext_T (b := b11) ⟨(Eq.trans hbt o3.symm), (Eq.trans hba o4.symm), (Eq.trans hbb o5.symm), (Eq.trans hbn o6.symm), trivial⟩ ?_
 have o16 := hb15
 refine sq_call1 rfl (r_call (ags := [_, _, _]) rfl rfl T.ent8 rfl) (test3_spec (Z := newZ) (newSl hbn) (by decide) newZ_fit (a := decS a) (b := op) (d := decS b) (sl_lit (f := fun s : Bytes => [S s]) [decS a, op, decS b] (by simp) hb15) (Nat.le_refl _) hmx ht (by omega) (by omega) (by omega)) ?_
 rintro _ w17 ⟨rfl, c18⟩
 replace HC := HC.then c18
 replace hmx := hmx.tr0 c18
 replace ht := ht.tr0 c18
 replace hbt := hbt.tr0 c18
 replace hba := hba.tr0 c18
 replace hbb := hbb.tr0 c18
 replace hbn := hbn.tr0 c18
 replace hb15 := hb15.tr0 c18
 refine ⟨_, fun _ h => h, ⟨(Eq.trans hb15 o16.symm), ⟨(Eq.trans hbt o3.symm), (Eq.trans hba o4.symm), (Eq.trans hbb o5.symm), (Eq.trans hbn o6.symm), trivial⟩⟩, ?_⟩
 refine sq_q rfl (fun W hT => r_assign (v := .int _ _) rfl) ?_
 clear o3
 clear o4
 clear o5
 clear o6
 clear o16
 refine sq_nil <| then_n <| x_ret <| ret_tmp (v := .int _ _) rfl rfl ?_
 exact ⟨rfl, HC⟩

theorem truN_bd (x : Bool) : 0 ≤ truN x ∧ truN x ≤ 1 := by unfold truN; split <;> omega
theorem bm_lt (c : Int) : bmapV c [45, 108, 116] = decide (c < 0) := rfl
theorem bm_eq (c : Int) : bmapV c [45, 101, 113] = decide (c = 0) := rfl
theorem bm_gt (c : Int) : bmapV c [45, 103, 116] = decide (0 < c) := rfl
theorem bm_ne (c : Int) : bmapV c [45, 110, 101] = !decide (c = 0) := rfl
theorem bm_le (c : Int) : bmapV c [45, 108, 101] = decide (c ≤ 0) := rfl
theorem bm_ge (c : Int) : bmapV c [45, 103, 101] = decide (0 ≤ c) := rfl
theorem tell_lt (a b : Int) : truN (bmapV (Lib.compareInt a b) [45, 108, 116]) = if a < b then 0 else 1 := by rw [bm_lt]; unfold truN Lib.compareInt; (repeat' split) <;> simp_all <;> omega
theorem tell_eq (a b : Int) : truN (bmapV (Lib.compareInt a b) [45, 101, 113]) = if a = b then 0 else 1 := by rw [bm_eq]; unfold truN Lib.compareInt; (repeat' split) <;> simp_all <;> omega
theorem tell_gt (a b : Int) : truN (bmapV (Lib.compareInt a b) [45, 103, 116]) = if b < a then 0 else 1 := by rw [bm_gt]; unfold truN Lib.compareInt; (repeat' split) <;> simp_all <;> omega
theorem tell_ne (a b : Int) : truN (bmapV (Lib.compareInt a b) [45, 110, 101]) = if a = b then 1 else 0 := by rw [bm_ne]; unfold truN Lib.compareInt; (repeat' split) <;> simp_all <;> omega
theorem tell_le (a b : Int) : truN (bmapV (Lib.compareInt a b) [45, 108, 101]) = if a ≤ b then 0 else 1 := by rw [bm_le]; unfold truN Lib.compareInt; (repeat' split) <;> simp_all <;> omega
theorem tell_ge (a b : Int) : truN (bmapV (Lib.compareInt a b) [45, 103, 101]) = if b ≤ a then 0 else 1 := by rw [bm_ge]; unfold truN Lib.compareInt; (repeat' split) <;> simp_all <;> omega

set_option maxHeartbeats 2000000 in
theorem TestNumbers_spec {a b : Int} {w : World} (ha0 : -9223372036854775808 ≤ a) (ha1 : a ≤ 9223372036854775807) (hb0 : -9223372036854775808 ≤ b) (hb1 : b ≤ 9223372036854775807) (hmx : MaxT w) (ht : Tab w) : CallR Tryd.prog 3 #[.int .i64 a, .int .i64 b] w fun v w' => v = .bool true ∧ Chg [] w w' := by
 refine callR_of_wp (args := [_, _]) Tryd.func3 rfl (Nat.le_of_ble_eq_true rfl) ?_
 have HC : Chg [] w w := .refl _
 have hm1 := hmx.lt
 have ht1 := ht.lt
 refine sr rfl <| Wp rfl <| st_box (v := .int _ _) (vs := [_]) rfl rfl ?_
 intro b2 w1 e2 c3 hb4
 have ge_b2 : w.heap.size ≤ b2 := by rw [e2]; exact HC.size
 replace HC := HC.then c3
 replace hmx := hmx.tr0 c3
 replace ht := ht.tr0 c3
 clear e2
 refine Wp rfl <| st_box (v := .int _ _) (vs := [_]) rfl rfl ?_
 intro b3 w5 e6 c7 hb8
 have ge_b3 : w.heap.size ≤ b3 := by rw [e6]; exact HC.size
 have ne_b2_b3 : b2 ≠ b3 := by rw [e6]; exact hb4.ne_size
 replace HC := HC.then c7
 replace hmx := hmx.tr0 c7
 replace ht := ht.tr0 c7
 replace hb4 := hb4.tr0 c7
 clear e6
 refine aB rfl <| en <| sr rfl <| Wp rfl <| st_call (ags := [_, _]) rfl rfl T.ent6 rfl (New_spec _) ?_
 rintro _ w9 ⟨⟨bn, rfl, hgn, hbn⟩, c10⟩
 have ge_bn : w.heap.size ≤ bn := Nat.le_trans HC.size hgn
 have ne_b2_bn : b2 ≠ bn := Nat.ne_of_lt (Nat.lt_of_lt_of_le hb4.lt hgn)
 have ne_b3_bn : b3 ≠ bn := Nat.ne_of_lt (Nat.lt_of_lt_of_le hb8.lt hgn)
 replace HC := HC.then c10
 replace hmx := hmx.tr0 c10
 replace ht := ht.tr0 c10
 replace hb4 := hb4.tr0 c10
 replace hb8 := hb8.tr0 c10
 refine mv (v := .tuple ⟨[_, _]⟩) rfl <| Wp rfl <| st_extract (vs := [_, _]) (v := .agg ⟨[.slice _ _ _, .int _ _, .int _ _]⟩) rfl rfl <| Wp rfl <| st_extract (vs := [_, _]) (v := .int _ _) rfl rfl <| Wp rfl <| st_alloc T.zero24 ?_
 intro b5 w11 e12 c13 hb14
 have ge_b5 : w.heap.size ≤ b5 := by rw [e12]; exact HC.size
 have ne_b2_b5 : b2 ≠ b5 := by rw [e12]; exact hb4.ne_size
 have ne_b3_b5 : b3 ≠ b5 := by rw [e12]; exact hb8.ne_size
 have ne_bn_b5 : bn ≠ b5 := by rw [e12]; exact hbn.ne_size
 replace HC := HC.then c13
 replace hmx := hmx.tr0 c13
 replace ht := ht.tr0 c13
 replace hb4 := hb4.tr0 c13
 replace hb8 := hb8.tr0 c13
 replace hbn := hbn.tr0 c13
 clear e12
 refine Wp rfl <| st_store (v := .agg ⟨[.slice _ _ _, .int _ _, .int _ _]⟩) T.size24 rfl rfl rfl hb14 rfl (Nat.le_of_ble_eq_true rfl) (by simp [Value.oneCell', S]) rfl ?_
 intro w15 c16 hb17; simp only [setVs, setV] at hb17
 clear hb14
 replace HC := HC.then1 c16 ge_b5
 replace hmx := hmx.tr c16 (by intro hx; simp only [List.mem_cons, List.mem_nil_iff, or_false] at hx; omega)
 replace ht := ht.tr c16 (by intro hx; have := ht.lt; have := ht1; simp only [List.mem_cons, List.mem_nil_iff, or_false] at hx; omega)
 replace hb4 := hb4.tr1 c16 ne_b2_b5
 replace hb8 := hb8.tr1 c16 ne_b3_b5
 replace hbn := hbn.tr1 c16 ne_bn_b5
 refine aI rfl <| en <| sr rfl <| Wp rfl <| st_makeFunc <| av (v := .func _ _ _) rfl <| en <| sr rfl <| mv (v := .func _ _ _) rfl <| Wp rfl <| st_call (f := 7) (cap := #[.pointer (some ⟨b5, 0, none⟩), .pointer (some ⟨b2, 0, none⟩), .pointer (some ⟨b3, 0, none⟩)]) (ags := [_, _, _, _]) rfl rfl T.ent7 rfl (num1_spec [45, 108, 116] ha0 ha1 hb0 hb1 (by decide) hb17 hb4 hb8 hbn hmx ht) ?_
 rintro vN17 w18 ⟨hvN, c19⟩
 rw [num_tell ha0 ha1 hb0 hb1 (by decide) (by decide) (by decide)] at hvN
 subst hvN
 have hq17 := truN_bd (bmapV (Lib.compareInt a b) [45, 108, 116])
 replace HC := HC.then c19
 replace hmx := hmx.tr0 c19
 replace ht := ht.tr0 c19
 replace hb4 := hb4.tr0 c19
 replace hb8 := hb8.tr0 c19
 replace hbn := hbn.tr0 c19
 replace hb17 := hb17.tr0 c19
 refine mv (v := .func _ _ _) rfl <| Wp rfl <| st_call (f := 7) (cap := #[.pointer (some ⟨b5, 0, none⟩), .pointer (some ⟨b2, 0, none⟩), .pointer (some ⟨b3, 0, none⟩)]) (ags := [_, _, _, _]) rfl rfl T.ent7 rfl (num1_spec [45, 101, 113] ha0 ha1 hb0 hb1 (by decide) hb17 hb4 hb8 hbn hmx ht) ?_
 rintro vN19 w20 ⟨hvN, c21⟩
 rw [num_tell ha0 ha1 hb0 hb1 (by decide) (by decide) (by decide)] at hvN
 subst hvN
 have hq19 := truN_bd (bmapV (Lib.compareInt a b) [45, 101, 113])
 replace HC := HC.then c21
 replace hmx := hmx.tr0 c21
 replace ht := ht.tr0 c21
 replace hb4 := hb4.tr0 c21
 replace hb8 := hb8.tr0 c21
 replace hbn := hbn.tr0 c21
 replace hb17 := hb17.tr0 c21
 refine mv (v := .func _ _ _) rfl <| Wp rfl <| st_call (f := 7) (cap := #[.pointer (some ⟨b5, 0, none⟩), .pointer (some ⟨b2, 0, none⟩), .pointer (some ⟨b3, 0, none⟩)]) (ags := [_, _, _, _]) rfl rfl T.ent7 rfl (num1_spec [45, 103, 116] ha0 ha1 hb0 hb1 (by decide) hb17 hb4 hb8 hbn hmx ht) ?_
 rintro vN21 w22 ⟨hvN, c23⟩
 rw [num_tell ha0 ha1 hb0 hb1 (by decide) (by decide) (by decide)] at hvN
 subst hvN
 have hq21 := truN_bd (bmapV (Lib.compareInt a b) [45, 103, 116])
 replace HC := HC.then c23
 replace hmx := hmx.tr0 c23
 replace ht := ht.tr0 c23
 replace hb4 := hb4.tr0 c23
 replace hb8 := hb8.tr0 c23
 replace hbn := hbn.tr0 c23
 replace hb17 := hb17.tr0 c23
 refine aI rfl <| aI rfl <| aI rfl <| en <| sr rfl <| mI rfl <| Wp rfl <| st_eql rfl rfl <| lI T.one2 rfl (hb4.cell rfl) <| lI T.one2 rfl (hb8.cell rfl) <| Wp rfl <| st_lss rfl rfl <| Wp rfl <| st_beql T.u4 rfl rfl <| mB rfl <| w_split (d := 28) rfl (fun g24 => ?_) (fun g24 => ?_)
 ·try simp only [nm, ne_eq] at g24
  refine w_yes 6 28 true <| st_move (v := .int _ _) rfl <| w_yes 6 28 true <| st_eql rfl rfl <| w_yes 6 28 true <| st_load1 (v := .int _ _) T.one2 rfl (hb4.cell rfl) <| w_yes 6 28 true <| st_load1 (v := .int _ _) T.one2 rfl (hb8.cell rfl) <| w_yes 6 28 true <| st_eql rfl rfl <| w_yes 6 28 true <| st_beql T.u4 rfl rfl <| pT rfl rfl <| mB rfl <| w_split (d := 36) rfl (fun g25 => ?_) (fun g25 => ?_)
  ·try simp only [nm, ne_eq] at g25
   refine w_yes 14 36 true <| st_move (v := .int _ _) rfl <| w_yes 14 36 true <| st_eql rfl rfl <| w_yes 14 36 true <| st_load1 (v := .int _ _) T.one2 rfl (hb4.cell rfl) <| w_yes 14 36 true <| st_load1 (v := .int _ _) T.one2 rfl (hb8.cell rfl) <| w_yes 14 36 true <| st_gtr rfl rfl <| w_yes 14 36 true <| st_beql T.u4 rfl rfl <| pT rfl rfl <| mB rfl <| w_split (d := 44) rfl (fun g26 => ?_) (fun g26 => ?_)
   ·try simp only [nm, ne_eq] at g26
    refine w_yes 22 44 true <| st_move (v := .int _ _) rfl <| w_yes 22 44 true <| st_move (v := .int _ _) rfl <| w_yes 22 44 true <| st_addn rfl rfl (by constructor <;> omega) <| w_yes 22 44 true <| st_move (v := .int _ _) rfl <| w_yes 22 44 true <| st_addn rfl rfl (by constructor <;> omega) <| w_yes 22 44 true <| st_eql rfl rfl <| pT rfl rfl <| mB rfl <| w_split (d := 52) rfl (fun g27 => ?_) (fun g27 => ?_)
    ·try simp only [nm, ne_eq] at g27
     refine w_yes 30 52 true <| st_move (v := .func _ _ _) rfl <| w_yes 30 52 true <| st_call (f := 7) (cap := #[.pointer (some ⟨b5, 0, none⟩), .pointer (some ⟨b2, 0, none⟩), .pointer (some ⟨b3, 0, none⟩)]) (ags := [_, _, _, _]) rfl rfl T.ent7 rfl (num1_spec [45, 110, 101] ha0 ha1 hb0 hb1 (by decide) hb17 hb4 hb8 hbn hmx ht) ?_
     rintro vN54 w28 ⟨hvN, c29⟩
     rw [num_tell ha0 ha1 hb0 hb1 (by decide) (by decide) (by decide)] at hvN
     subst hvN
     have hq54 := truN_bd (bmapV (Lib.compareInt a b) [45, 110, 101])
     replace HC := HC.then c29
     replace hmx := hmx.tr0 c29
     replace ht := ht.tr0 c29
     replace hb4 := hb4.tr0 c29
     replace hb8 := hb8.tr0 c29
     replace hbn := hbn.tr0 c29
     replace hb17 := hb17.tr0 c29
     refine w_yes 30 52 true <| st_move (v := .int _ _) rfl <| w_yes 30 52 true <| st_addn rfl rfl (by constructor <;> omega) <| w_yes 30 52 true <| st_eql rfl rfl <| pT rfl rfl <| mB rfl <| w_split (d := 59) rfl (fun g30 => ?_) (fun g30 => ?_)
     ·try simp only [nm, ne_eq] at g30
      refine w_yes 37 59 true <| st_move (v := .func _ _ _) rfl <| w_yes 37 59 true <| st_call (f := 7) (cap := #[.pointer (some ⟨b5, 0, none⟩), .pointer (some ⟨b2, 0, none⟩), .pointer (some ⟨b3, 0, none⟩)]) (ags := [_, _, _, _]) rfl rfl T.ent7 rfl (num1_spec [45, 108, 101] ha0 ha1 hb0 hb1 (by decide) hb17 hb4 hb8 hbn hmx ht) ?_
      rintro vN61 w31 ⟨hvN, c32⟩
      rw [num_tell ha0 ha1 hb0 hb1 (by decide) (by decide) (by decide)] at hvN
      subst hvN
      have hq61 := truN_bd (bmapV (Lib.compareInt a b) [45, 108, 101])
      replace HC := HC.then c32
      replace hmx := hmx.tr0 c32
      replace ht := ht.tr0 c32
      replace hb4 := hb4.tr0 c32
      replace hb8 := hb8.tr0 c32
      replace hbn := hbn.tr0 c32
      replace hb17 := hb17.tr0 c32
      refine w_yes 37 59 true <| st_move (v := .int _ _) rfl <| w_yes 37 59 true <| st_addn rfl rfl (by constructor <;> omega) <| w_yes 37 59 true <| st_eql rfl rfl <| pT rfl rfl <| mB rfl <| w_split (d := 66) rfl (fun g33 => ?_) (fun g33 => ?_)
      ·try simp only [nm, ne_eq] at g33
       refine w_yes 44 66 true <| st_move (v := .func _ _ _) rfl <| w_yes 44 66 true <| st_call (f := 7) (cap := #[.pointer (some ⟨b5, 0, none⟩), .pointer (some ⟨b2, 0, none⟩), .pointer (some ⟨b3, 0, none⟩)]) (ags := [_, _, _, _]) rfl rfl T.ent7 rfl (num1_spec [45, 103, 101] ha0 ha1 hb0 hb1 (by decide) hb17 hb4 hb8 hbn hmx ht) ?_
       rintro vN68 w34 ⟨hvN, c35⟩
       rw [num_tell ha0 ha1 hb0 hb1 (by decide) (by decide) (by decide)] at hvN
       subst hvN
       have hq68 := truN_bd (bmapV (Lib.compareInt a b) [45, 103, 101])
       replace HC := HC.then c35
       replace hmx := hmx.tr0 c35
       replace ht := ht.tr0 c35
       replace hb4 := hb4.tr0 c35
       replace hb8 := hb8.tr0 c35
       replace hbn := hbn.tr0 c35
       replace hb17 := hb17.tr0 c35
       refine w_yes 44 66 true <| st_move (v := .int _ _) rfl <| w_yes 44 66 true <| st_addn rfl rfl (by constructor <;> omega) <| w_yes 44 66 true <| st_eql rfl rfl <| pT rfl rfl <| mB rfl <| w_split (d := 73) rfl (fun g36 => ?_) (fun g36 => ?_)
       ·try simp only [nm, ne_eq] at g36
        refine w_yes 51 73 true <| st_call (ags := []) rfl rfl T.ent10 rfl (awake24_spec hmx ht) ?_
        rintro _ w37 ⟨rfl, c38⟩
        replace HC := HC.then c38
        replace hmx := hmx.tr0 c38
        replace ht := ht.tr0 c38
        replace hb4 := hb4.tr0 c38
        replace hb8 := hb8.tr0 c38
        replace hbn := hbn.tr0 c38
        replace hb17 := hb17.tr0 c38
        refine pT rfl rfl <| aB rfl <| en <| x_ret <| ret_tmp (v := .bool _) rfl rfl ?_
        exact ⟨rfl, HC⟩
       ·try simp only [nm, ne_eq] at g36
        (simp only [tell_lt, tell_eq, tell_gt, tell_ne, tell_le, tell_ge] at g36; exfalso; revert g36; by_cases hab : a < b <;> by_cases hac : a = b <;> by_cases had : b < a <;> by_cases hae : a ≤ b <;> by_cases haf : b ≤ a <;> first | (exfalso; omega) | simp [hab, hac, had, hae, haf] | (subst hac; simp))
      ·try simp only [nm, ne_eq] at g33
       (simp only [tell_lt, tell_eq, tell_gt, tell_ne, tell_le, tell_ge] at g33; exfalso; revert g33; by_cases hab : a < b <;> by_cases hac : a = b <;> by_cases had : b < a <;> by_cases hae : a ≤ b <;> by_cases haf : b ≤ a <;> first | (exfalso; omega) | simp [hab, hac, had, hae, haf] | (subst hac; simp))
     ·try simp only [nm, ne_eq] at g30
      (simp only [tell_lt, tell_eq, tell_gt, tell_ne, tell_le, tell_ge] at g30; exfalso; revert g30; by_cases hab : a < b <;> by_cases hac : a = b <;> by_cases had : b < a <;> by_cases hae : a ≤ b <;> by_cases haf : b ≤ a <;> first | (exfalso; omega) | simp [hab, hac, had, hae, haf] | (subst hac; simp))
    ·try simp only [nm, ne_eq] at g27
     (simp only [tell_lt, tell_eq, tell_gt, tell_ne, tell_le, tell_ge] at g27; exfalso; revert g27; by_cases hab : a < b <;> by_cases hac : a = b <;> by_cases had : b < a <;> by_cases hae : a ≤ b <;> by_cases haf : b ≤ a <;> first | (exfalso; omega) | simp [hab, hac, had, hae, haf] | (subst hac; simp))
   ·try simp only [nm, ne_eq] at g26
    (simp only [tell_lt, tell_eq, tell_gt, tell_ne, tell_le, tell_ge] at g26; exfalso; revert g26; by_cases hab : a < b <;> by_cases hac : a = b <;> by_cases had : b < a <;> by_cases hae : a ≤ b <;> by_cases haf : b ≤ a <;> first | (exfalso; omega) | simp [hab, hac, had, hae, haf] | (subst hac; simp))
  ·try simp only [nm, ne_eq] at g25
   (simp only [tell_lt, tell_eq, tell_gt, tell_ne, tell_le, tell_ge] at g25; exfalso; revert g25; by_cases hab : a < b <;> by_cases hac : a = b <;> by_cases had : b < a <;> by_cases hae : a ≤ b <;> by_cases haf : b ≤ a <;> first | (exfalso; omega) | simp [hab, hac, had, hae, haf] | (subst hac; simp))
 ·try simp only [nm, ne_eq] at g24
  (simp only [tell_lt, tell_eq, tell_gt, tell_ne, tell_le, tell_ge] at g24; exfalso; revert g24; by_cases hab : a < b <;> by_cases hac : a = b <;> by_cases had : b < a <;> by_cases hae : a ≤ b <;> by_cases haf : b ≤ a <;> first | (exfalso; omega) | simp [hab, hac, had, hae, haf] | (subst hac; simp))

end Go.Proofs.YtpelmhoocepenaaDoor.K
