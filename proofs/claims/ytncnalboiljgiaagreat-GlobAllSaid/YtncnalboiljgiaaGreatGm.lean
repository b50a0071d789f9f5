import Derived.Test.YtncnalboiljgiaaGreatKitSq
import Derived.Test.YtncnalboiljgiaaGreatGl
set_option linter.unusedVariables false
set_option linter.unusedSimpArgs false
set_option autoImplicit false
set_option maxRecDepth 20000
namespace Go.Proofs.YtncnalboiljgiaaGreat.K
open Go Go.Proofs Go.RowKit
section make
open Go.Proofs
variable {P : Program} {r : Option Nat} {n : Nat} {O : Array Oper} {Q : Post} {E : Env} {ds : List Deferred} {w : World} {l : List Oper}
variable {dst : Option Nat} {ty : TypeId} {pos : String} {af : Array Edge} {g : Option (Nat × Bool)}
theorem st_makeN {t e : TypeId} {x y : Operand} {z : Value} {kl kc : IntKind} {m : Nat} (ht : P.underlying t = some (.slice e)) (hz : zeroB P e [z]) (hi : (P.info? e).any (fun i => Nat.beq (i.size) 1 && Nat.ble i.bytes 1000000) = true) (hm : m ≤ 1000) (hx : ev E x = .int kl (m : Int)) (hy : ev E y = .int kc (m : Int))
    (h : ∀ b w', b = w.heap.size → Chg [] w w' → Blk w' b (List.replicate m z) e → wops P r n O Q l (updo E dst (.slice (some ⟨b, 0, none⟩) m m)) ds w') : wop P r n O Q ⟨dst, .makeSlice t x y, ty, pos, af, g⟩ l E ds w := by
  obtain ⟨i, z', h1, h2, h3⟩ := hz
  rw [h1] at hi
  simp only [Option.any_some, Bool.and_eq_true] at hi
  have hs := Nat.eq_of_beq_eq_true hi.1
  have hb := Nat.le_of_ble_eq_true hi.2
  have hbm : i.bytes * m ≤ 1000000 * 1000 := Nat.mul_le_mul hb hm
  have hr := run_makeSlice (P := P) (w := w) t e i z' ht h1 h2 kl kc (m : Int) (m : Int) (by omega) (by omega) (by rw [hs]; simp; omega) (by have h9 : ((i.bytes * m : Nat) : Int) ≤ ((1000000 * 1000 : Nat) : Int) := Int.ofNat_le.2 hbm; rw [Int.natCast_mul] at h9; omega) (by omega)
  have hm2 : madeCells z'.cells ((m : Int).toNat * i.size) = ⟨List.replicate m z⟩ := by
    rw [h3, hs]
    apply Array.ext'
    apply List.ext_getElem?
    intro j
    simp only [madeCells, Array.toList_map, Array.toList_range, List.getElem?_map, Int.toNat_natCast, Nat.mul_one]
    by_cases hj : j < m
    · rw [List.getElem?_range hj, List.getElem?_replicate, if_pos hj]
      simp [Nat.mod_one]
    · rw [List.getElem?_eq_none (by simpa using hj), List.getElem?_eq_none (by simpa using hj)]; rfl
  rw [hm2] at hr
  refine wop_run (w' := w.alloc (.cells ⟨List.replicate m z⟩ e)) (fun _ => by simp) ?_ (h w.heap.size _ rfl (Chg.alloc w _) (Blk.new w _ e))
  simp only [execOp, hx, hy, Sem.run_bind, hr, Result.andThen, Sem.run_pure, Int.toNat_natCast]
end make
def CntAt (w : World) (b n : Nat) : Prop := ∃ cs : List Int, cs.length = n ∧ Blk w b (cs.map (Value.int .i64)) 3
theorem CntAt.tr {w w' : World} {b n : Nat} {bs : List Nat} (h : CntAt w b n) (hc : Chg bs w w') (hb : b ∉ bs) : CntAt w' b n := by
  obtain ⟨cs, h1, h2⟩ := h; exact ⟨cs, h1, h2.tr hc hb⟩
theorem CntAt.tr0 {w w' : World} {b n : Nat} (h : CntAt w b n) (hc : Chg [] w w') : CntAt w' b n := h.tr hc (by simp)
theorem CntAt.lt {w : World} {b n : Nat} (h : CntAt w b n) : b < w.heap.size := by obtain ⟨cs, _, h⟩ := h; exact h.lt
theorem CntAt.ne_size {w : World} {b n : Nat} (h : CntAt w b n) : b ≠ w.heap.size := Nat.ne_of_lt h.lt
theorem CntAt.at {w : World} {b n i : Nat} (h : CntAt w b n) (hi : i < n) : ∃ v, w.cell? ⟨b, 0 + i * 1, none⟩ = some (.int .i64 v) := by
  obtain ⟨cs, h1, h2⟩ := h
  exact ⟨cs[i]'(by omega), h2.cell (by rw [nthV_eq]; simp [h1, hi])⟩
theorem setVs_map1 {cs : List Int} {i : Nat} {v : Int} : setVs (cs.map (Value.int .i64)) (0 + i * 1) [.int .i64 v] = (cs.set i v).map (Value.int .i64) := by
  simp only [setVs, setV_eq, Nat.zero_add, Nat.mul_one, List.map_set]
theorem rep_map {m : Nat} : List.replicate m (Value.int .i64 0) = (List.replicate m (0 : Int)).map (Value.int .i64) := by simp
def AloneP (x : Ino) : Prop := 0 ≤ x.kind ∧ x.kind ≤ 3 ∧ (x.kind ≠ 2 → x.kids.length = 0) ∧ 0 ≤ x.mode ∧ x.mode ≤ 7
theorem bool_post {b : Bool} {p : Prop} (h : b = true → p) : ∃ c, Value.bool b = .bool c ∧ (c = true → p) := ⟨b, rfl, h⟩
theorem no_post {p : Prop} : ∃ c, Value.bool false = .bool c ∧ (c = true → p) := ⟨false, rfl, fun h => by cases h⟩
theorem riseK_snoc {l : List Ke} {q : Ke} (h : RiseK l) (hq : ∀ i p, i + 1 = l.length → l[i]? = some p → Op.bytesLess p.1 q.1 = true) : RiseK (l ++ [q]) := by
  unfold RiseK at *
  rw [List.pairwise_append]
  refine ⟨h, List.pairwise_singleton _ _, fun a ha b hb => ?_⟩
  obtain rfl := List.mem_singleton.1 hb
  obtain ⟨i, hi⟩ := List.mem_iff_getElem?.1 ha
  have hil := (List.getElem?_eq_some_iff.1 hi).1
  obtain ⟨p, hp⟩ : ∃ p, l[l.length - 1]? = some p := ⟨_, List.getElem?_eq_getElem (by omega)⟩
  have h1 := hq (l.length - 1) p (by omega) hp
  by_cases e : i = l.length - 1
  · subst e; rw [hp] at hi; obtain rfl := Option.some.inj hi; exact h1
  · exact less_trans _ _ _ (riseK_lt h (by omega) hi hp) h1
theorem inV_in {Z : Tre} {k : Int} (h : inV Z k = true) : 0 ≤ k ∧ k < Z.length := by unfold inV at h; rwa [Bool.and_eq_true, decide_eq_true_eq, decide_eq_true_eq] at h
def NmP (n : Bytes) : Prop := n ≠ [] ∧ n.length ≤ 64
def KidsP (Z : Tre) (l : List Ke) : Prop := RiseK l ∧ ∀ p, p ∈ l → (0 ≤ p.2 ∧ p.2 < Z.length ∧ kindV Z p.2 ≠ 0) ∧ NmP p.1
def GoodP (Z : Tre) (x : Ino) : Prop := AloneP x ∧ x.data.length ≤ 65536 ∧ (x.kind = 2 → x.kids.length ≤ 1024 ∧ KidsP Z x.kids)
theorem cell_heap {W w : World} {b o : Nat} {v : Value} (h : W.heap[b]? = w.heap[b]?) (hv : w.cell? ⟨b, o, none⟩ = some v) : W.cell? ⟨b, o, none⟩ = some v := by
  unfold World.cell? at *; rw [h]; exact hv
theorem up_dir {Z : Tre} {j : Nat} {x x0 : Ino} (hx : Z[j]? = some x) (hx0 : Z[0]? = some x0) (hk : x0.kind = 2) (hu : x0.up = 0) (h : (j : Int) = 0 ∨ dirV Z (upV Z (j : Int)) = true) : dirV Z x.up = true := by
  rcases h with h | h
  · have e : j = 0 := by omega
    subst e; rw [hx] at hx0; obtain rfl := Option.some.inj hx0
    rw [hu]; unfold dirV kindV inoV; rw [if_pos (Int.le_refl 0), show (0 : Int).toNat = 0 from rfl, hx]; simp [hk]
  · have e : upV Z (j : Int) = x.up := by unfold upV inoV; rw [if_pos (by omega), Int.toNat_natCast, hx]; rfl
    rwa [e] at h
theorem fit_of {Z : Tre} {x0 : Ino} (hx0 : Z[0]? = some x0) (hk : x0.kind = 2) (hl : Z.length ≤ 256) (hg : ∀ j x, j < Z.length → Z[j]? = some x → GoodP Z x) (hr : ∀ j x, j < Z.length → Z[j]? = some x → x.kind = 2 → dirV Z x.up = true) : FitT Z := by
  have hm : ∀ x, x ∈ Z → ∃ j : Nat, j < Z.length ∧ Z[j]? = some x := fun x hx => by
    obtain ⟨j, hj⟩ := List.mem_iff_getElem?.1 hx; exact ⟨j, (List.getElem?_eq_some_iff.1 hj).1, hj⟩
  refine ⟨by omega, fun x hx => ?_, fun x hx h2 => ?_, fun x hx => ?_, fun x hx => ?_, ?_, fun x hx => by obtain ⟨j, hj, hjx⟩ := hm x hx; exact (hg j x hj hjx).1.2.2.2⟩
  · obtain ⟨j, hj, hjx⟩ := hm x hx
    obtain ⟨⟨_, _, h3, _⟩, _, h5⟩ := hg j x hj hjx
    by_cases e : x.kind = 2
    · exact ⟨(h5 e).2.1, (h5 e).1, fun p hp => ((h5 e).2.2 p hp).1⟩
    · rw [List.length_eq_zero_iff.1 (h3 e)]; exact ⟨List.Pairwise.nil, Nat.zero_le _, fun p hp => by cases hp⟩
  · obtain ⟨j, hj, hjx⟩ := hm x hx; exact hr j x hj hjx h2
  · obtain ⟨j, hj, hjx⟩ := hm x hx; exact (hg j x hj hjx).2.1
  · obtain ⟨j, hj, hjx⟩ := hm x hx; exact ⟨(hg j x hj hjx).1.1, (hg j x hj hjx).1.2.1⟩
  · unfold dirV kindV inoV; rw [if_pos (Int.le_refl 0), show (0 : Int).toNat = 0 from rfl, hx0]; simp [hk]
theorem names_of {Z : Tre} (hg : ∀ j x, j < Z.length → Z[j]? = some x → GoodP Z x) : NamesT Z := by
  intro x hx e he
  obtain ⟨j, hj⟩ := List.mem_iff_getElem?.1 hx
  obtain ⟨⟨_, _, h3, _⟩, _, h5⟩ := hg j x (List.getElem?_eq_some_iff.1 hj).1 hj
  by_cases e2 : x.kind = 2
  · exact ((h5 e2).2.2 e he).2
  · rw [List.length_eq_zero_iff.1 (h3 e2)] at he; cases he
theorem kidsP_nil {Z : Tre} : KidsP Z [] := ⟨List.Pairwise.nil, fun p hp => by cases hp⟩
theorem kidsP_step {Z : Tre} {l : List Ke} {i : Nat} {q : Ke} (h : KidsP Z (l.take i)) (hq : l[i]? = some q) (hr : i = 0 ∨ ∃ p, l[i - 1]? = some p ∧ Op.bytesLess p.1 q.1 = true) (h0 : 0 ≤ q.2 ∧ q.2 < Z.length) (h1 : kindV Z q.2 ≠ 0) (hnm : NmP q.1) : KidsP Z (l.take (i + 1)) := by
  have hil := (List.getElem?_eq_some_iff.1 hq).1
  rw [List.take_add_one, hq]
  refine ⟨riseK_snoc h.1 (fun j p hj hp => ?_), fun p hp => ?_⟩
  · rw [List.length_take] at hj
    rcases hr with hr | ⟨p2, h2, h3⟩
    · omega
    · rw [List.getElem?_take_of_lt (by omega), show j = i - 1 by omega, h2] at hp
      obtain rfl := Option.some.inj hp; exact h3
  · rcases List.mem_append.1 hp with hp | hp
    · exact h.2 p hp
    · obtain rfl := List.mem_singleton.1 hp; exact ⟨⟨h0.1, h0.2, h1⟩, hnm⟩
theorem rthere_spec {Z : Tre} {An : Option Addr} {capn : Nat} {mx my : Int} {D : Nat → Prop} {w : World} (hT : Sl inE w D An Z) (hTl : Z.length ≤ 1000000000) (k : Int) : CallR Tryz.prog 29 #[.agg ⟨[.slice An Z.length capn, .int .i64 mx, .int .i64 my]⟩, .int .i64 k] w fun v w' => v = .bool (inV Z k) ∧ Chg [] w w' := by
 replace hT := hT.mono (D' := fun k => k < w.heap.size) (fun k hk _ => hk)
 refine callR_of_wp (args := [_, _]) Tryz.func29 rfl (Nat.le_of_ble_eq_true rfl) ?_
 have HC : Chg [] w w := .refl _
 refine sr rfl <| Wp rfl <| st_box (v := .agg ⟨[.slice _ _ _, .int _ _, .int _ _]⟩) (vs := [_, _, _]) rfl rfl ?_
 intro b2 w1 e2 c3 hb4
 have ge_b2 := gB e2 HC.size
 replace HC := HC.then c3
 clear e2
 refine aB rfl <| en <| sr rfl <| mI rfl <| Wp rfl <| st_geq rfl rfl <| mB rfl <| w_split (d := 7) rfl (fun g5 => ?_) (fun g5 => ?_)
 ·try simp only [nm, ne_eq] at g5
  refine w_yes 2 7 true <| st_move (v := .int _ _) rfl <| w_yes 2 7 true <| st_fieldAddr T.fld24_0 rfl <| w_yes 2 7 true <| st_load1 (v := .slice _ _ _) T.one22 rfl (hb4.cell rfl) <| w_yes 2 7 true <| st_len (ct := #[22]) (by rw [show ((#[22] : Array TypeId)[0]?).bind Tryz.prog.underlying = some (.slice 36) from T.u22]; rfl) rfl <| w_yes 2 7 true <| st_lss rfl rfl <| pT rfl rfl <| aB rfl <| en <| x_ret <| ret_tmp (v := .bool _) rfl rfl <| ⟨?_, HC⟩
  unfold inV; rw [decide_eq_true (show 0 ≤ k by omega)]; rfl
 ·try simp only [nm, ne_eq] at g5
  iterate 5 refine w_no 2 7 true ?_
  refine pF rfl rfl <| aB rfl <| en <| x_ret <| ret_tmp (v := .bool _) rfl rfl <| ⟨?_, HC⟩
  unfold inV; rw [decide_eq_false (show ¬ 0 ≤ k by omega)]; rfl
theorem rName_spec (s : Bytes) (w : World) (hs : s.length ≤ 9223372036854775807) : CallR Tryz.prog 51 #[S s] w fun v w' => (∃ b, v = .bool b ∧ (b = true → NmP s)) ∧ Chg [] w w' := by
 refine callR_of_wp (args := [_]) Tryz.func51 rfl (Nat.le_of_ble_eq_true rfl) ?_
 have HC : Chg [] w w := .refl _
 refine sr rfl <| aB rfl <| en <| x_seq <| sr rfl <| aI rfl <| en <| x_block <| x_loop (ι := Nat) [2, 3, 4, 5, 6, 7, 8, 9, 10, 11, 12, 13, 14, 15, 16, 17, 18, 19] (fun i => [(3, .int .i64 (i : Int))]) (fun i W => (i ≤ s.length) ∧ (Chg [] w W)) (fun i => s.length - i) 0 ?_ ?_ ?_
 · exact ⟨rfl, trivial⟩
 ·refine ⟨?_, HC⟩
  exact Nat.zero_le _
 intro i G2 w1 ⟨hi, HC⟩
 change wp _ _ _ _ _ (upds (over _ _ G2) [(3, .int .i64 (i : Int))]) _ _
 refine x_seq <| sr rfl <| mI rfl <| mS rfl <| Wp rfl <| st_slen (ct := #[9]) T.u9 rfl <| Wp rfl <| st_lss rfl rfl <| en <| x_cond rfl (fun h0 => ?_) (fun h0 => ?_)
 ·try simp only [nm, ne_eq] at h0
  refine x_skip <| then_n <| x_seq <| x_block <| sr rfl <| mS rfl <| mI rfl <| Wp rfl <| st_sidx T.u9 rfl rfl (by omega) (by omega) <| Wp rfl <| st_eql rfl rfl <| mB rfl <| w_split (d := 14) rfl (fun g3 => ?_) (fun g3 => ?_)
  ·try simp only [nm, ne_eq] at g3
   iterate 4 refine w_no 4 14 false ?_
   refine pT rfl rfl <| en <| x_cond (t := true) rfl (fun h1 => ?_) (fun h1 => ?_)
   rotate_left
   · exact absurd h1 (by decide)
   refine sr rfl <| aB rfl <| en <| x_ret <| block_r <| then_r <| then_r <| block_r <| then_r <| ret_tmp (v := .bool _) rfl rfl ?_
   first | exact ⟨no_post, HC⟩ | (refine ⟨bool_post fun hb => ?_, HC⟩; unfold NmP; (try simp only [Bool.not_eq_true', decide_eq_true_eq, decide_eq_false_iff_not, Bool.and_eq_true] at hb); refine ⟨by first | assumption | simp_all, by first | omega | simp_all⟩)
  ·try simp only [nm, ne_eq] at g3
   refine w_yes 4 14 false <| st_move (v := S _) rfl <| w_yes 4 14 false <| st_move (v := .int _ _) rfl <| w_yes 4 14 false <| st_sidx T.u9 rfl rfl (by omega) (by omega) <| w_yes 4 14 false <| st_eql rfl rfl <| pF rfl rfl <| en <| x_cond rfl (fun h1 => ?_) (fun h1 => ?_)
   ·try simp only [nm, ne_eq] at h1
    refine sr rfl <| aB rfl <| en <| x_ret <| block_r <| then_r <| then_r <| block_r <| then_r <| ret_tmp (v := .bool _) rfl rfl ?_
    first | exact ⟨no_post, HC⟩ | (refine ⟨bool_post fun hb => ?_, HC⟩; unfold NmP; (try simp only [Bool.not_eq_true', decide_eq_true_eq, decide_eq_false_iff_not, Bool.and_eq_true] at hb); refine ⟨by first | assumption | simp_all, by first | omega | simp_all⟩)
   ·try simp only [nm, ne_eq] at h1
    refine x_skip <| block_n <| then_n <| x_region rfl <| mI rfl <| Wp rfl <| st_addn rfl rfl (by constructor <;> omega) <| aI rfl <| en <| ⟨i + 1, ?_, ?_, rfl, ⟨rfl, trivial⟩, ?_⟩
    ·refine ⟨?_, HC⟩
     exact by omega
    ·show s.length - (i + 1) < s.length - i; omega
    exact q9
 ·try simp only [nm, ne_eq] at h0
  refine x_exit <| then_x <| then_x <| block_x <| then_n <| sr rfl <| mS rfl <| Wp rfl <| st_sneq rfl rfl <| mB rfl <| w_split (d := 22) rfl (fun g4 => ?_) (fun g4 => ?_)
  ·try simp only [nm, ne_eq] at g4
   refine w_yes 2 22 true <| st_move (v := S _) rfl <| w_yes 2 22 true <| st_slen (ct := #[9]) T.u9 rfl <| w_yes 2 22 true <| st_leq rfl rfl <| pT rfl rfl <| mB rfl <| w_split (d := 27) rfl (fun g5 => ?_) (fun g5 => ?_)
   ·try simp only [nm, ne_eq] at g5
    refine w_yes 7 27 true <| st_move (v := S _) rfl <| w_yes 7 27 true <| st_sneq rfl rfl <| pT rfl rfl <| mB rfl <| w_split (d := 31) rfl (fun g6 => ?_) (fun g6 => ?_)
    ·try simp only [nm, ne_eq] at g6
     refine w_yes 11 31 true <| st_move (v := S _) rfl <| w_yes 11 31 true <| st_sneq rfl rfl <| pT rfl rfl <| aB rfl <| en <| x_ret <| ret_tmp (v := .bool _) rfl rfl ?_
     first | exact ⟨no_post, HC⟩ | (refine ⟨bool_post fun hb => ?_, HC⟩; unfold NmP; (try simp only [Bool.not_eq_true', decide_eq_true_eq, decide_eq_false_iff_not, Bool.and_eq_true] at hb); refine ⟨by first | assumption | simp_all, by first | omega | simp_all⟩)
    ·try simp only [nm, ne_eq] at g6
     refine w_no 11 31 true <| w_no 11 31 true <| pF rfl rfl <| aB rfl <| en <| x_ret <| ret_tmp (v := .bool _) rfl rfl ?_
     first | exact ⟨no_post, HC⟩ | (refine ⟨bool_post fun hb => ?_, HC⟩; unfold NmP; (try simp only [Bool.not_eq_true', decide_eq_true_eq, decide_eq_false_iff_not, Bool.and_eq_true] at hb); refine ⟨by first | assumption | simp_all, by first | omega | simp_all⟩)
   ·try simp only [nm, ne_eq] at g5
    refine w_no 7 27 true <| w_no 7 27 true <| pF rfl rfl <| mB rfl <| w_no 11 31 true <| w_no 11 31 true <| pF rfl rfl <| aB rfl <| en <| x_ret <| ret_tmp (v := .bool _) rfl rfl ?_
    first | exact ⟨no_post, HC⟩ | (refine ⟨bool_post fun hb => ?_, HC⟩; unfold NmP; (try simp only [Bool.not_eq_true', decide_eq_true_eq, decide_eq_false_iff_not, Bool.and_eq_true] at hb); refine ⟨by first | assumption | simp_all, by first | omega | simp_all⟩)
  ·try simp only [nm, ne_eq] at g4
   iterate 3 refine w_no 2 22 true ?_
   refine pF rfl rfl <| mB rfl <| w_no 7 27 true <| w_no 7 27 true <| pF rfl rfl <| mB rfl <| w_no 11 31 true <| w_no 11 31 true <| pF rfl rfl <| aB rfl <| en <| x_ret <| ret_tmp (v := .bool _) rfl rfl ?_
   first | exact ⟨no_post, HC⟩ | (refine ⟨bool_post fun hb => ?_, HC⟩; unfold NmP; (try simp only [Bool.not_eq_true', decide_eq_true_eq, decide_eq_false_iff_not, Bool.and_eq_true] at hb); refine ⟨by first | assumption | simp_all, by first | omega | simp_all⟩)
theorem alone_spec (x : Ino) (K : Option Addr) (c : Nat) (w : World) (hd : x.data.length ≤ 9223372036854775807) : CallR Tryz.prog 31 #[.agg ⟨[.int .i64 x.kind, .int .i64 x.mode, .int .i64 x.links, S x.data, .slice K x.kids.length c, .int .i64 x.up]⟩] w fun v w' => (∃ b, v = .bool b ∧ (b = true → AloneP x)) ∧ Chg [] w w' := by
 refine callR_of_wp (args := [_]) Tryz.func31 rfl (Nat.le_of_ble_eq_true rfl) ?_
 have HC : Chg [] w w := .refl _
 refine sr rfl <| Wp rfl <| st_box (v := .agg ⟨[.int _ _, .int _ _, .int _ _, S _, .slice _ _ _, .int _ _]⟩) (vs := [_, _, _, _, _, _]) rfl rfl ?_
 intro b1 w1 e2 c3 hb4
 have ge_b1 := gB e2 HC.size
 replace HC := HC.then c3
 clear e2
 refine aB rfl <| en <| x_seq <| sr rfl <| fa T.fld36_0 rfl <| lI T.one3 rfl (hb4.cell rfl) <| Wp rfl <| st_eql rfl rfl <| en <| x_cond rfl (fun h0 => ?_) (fun h0 => ?_)
 ·try simp only [nm, ne_eq] at h0
  refine sr rfl <| fa T.fld36_1 rfl <| lI T.one3 rfl (hb4.cell rfl) <| Wp rfl <| st_eql rfl rfl <| mB rfl <| w_split (d := 10) rfl (fun g5 => ?_) (fun g5 => ?_)
  ·try simp only [nm, ne_eq] at g5
   refine w_yes 3 10 true <| st_fieldAddr T.fld36_2 rfl <| w_yes 3 10 true <| st_load1 (v := .int _ _) T.one3 rfl (hb4.cell rfl) <| w_yes 3 10 true <| st_eql rfl rfl <| pT rfl rfl <| mB rfl <| w_split (d := 15) rfl (fun g6 => ?_) (fun g6 => ?_)
   ·try simp only [nm, ne_eq] at g6
    refine w_yes 8 15 true <| st_fieldAddr T.fld36_3 rfl <| w_yes 8 15 true <| st_load1 (v := S _) T.one9 rfl (hb4.cell rfl) <| w_yes 8 15 true <| st_seql rfl rfl <| pT rfl rfl <| mB rfl <| w_split (d := 20) rfl (fun g7 => ?_) (fun g7 => ?_)
    ·try simp only [nm, ne_eq] at g7
     refine w_yes 13 20 true <| st_fieldAddr T.fld36_4 rfl <| w_yes 13 20 true <| st_load1 (v := .slice _ _ _) T.one34 rfl (hb4.cell rfl) <| w_yes 13 20 true <| st_len (ct := #[34]) (by rw [show ((#[34] : Array TypeId)[0]?).bind Tryz.prog.underlying = some (.slice 38) from T.u34]; rfl) rfl <| w_yes 13 20 true <| st_eql rfl rfl <| pT rfl rfl <| mB rfl <| w_split (d := 26) rfl (fun g8 => ?_) (fun g8 => ?_)
     ·try simp only [nm, ne_eq] at g8
      refine w_yes 19 26 true <| st_fieldAddr T.fld36_5 rfl <| w_yes 19 26 true <| st_load1 (v := .int _ _) T.one3 rfl (hb4.cell rfl) <| w_yes 19 26 true <| st_eql rfl rfl <| pT rfl rfl <| aB rfl <| en <| x_ret <| then_r <| ret_tmp (v := .bool _) rfl rfl ?_
      first | exact ⟨no_post, HC⟩ | (refine ⟨bool_post fun hb => ?_, HC⟩; unfold AloneP; (try simp only [decide_eq_true_eq] at hb); omega)
     ·try simp only [nm, ne_eq] at g8
      iterate 3 refine w_no 19 26 true ?_
      refine pF rfl rfl <| aB rfl <| en <| x_ret <| then_r <| ret_tmp (v := .bool _) rfl rfl ?_
      first | exact ⟨no_post, HC⟩ | (refine ⟨bool_post fun hb => ?_, HC⟩; unfold AloneP; (try simp only [decide_eq_true_eq] at hb); omega)
    ·try simp only [nm, ne_eq] at g7
     iterate 4 refine w_no 13 20 true ?_
     refine pF rfl rfl <| mB rfl ?_
     iterate 3 refine w_no 19 26 true ?_
     refine pF rfl rfl <| aB rfl <| en <| x_ret <| then_r <| ret_tmp (v := .bool _) rfl rfl ?_
     first | exact ⟨no_post, HC⟩ | (refine ⟨bool_post fun hb => ?_, HC⟩; unfold AloneP; (try simp only [decide_eq_true_eq] at hb); omega)
   ·try simp only [nm, ne_eq] at g6
    iterate 3 refine w_no 8 15 true ?_
    refine pF rfl rfl <| mB rfl ?_
    iterate 4 refine w_no 13 20 true ?_
    refine pF rfl rfl <| mB rfl ?_
    iterate 3 refine w_no 19 26 true ?_
    refine pF rfl rfl <| aB rfl <| en <| x_ret <| then_r <| ret_tmp (v := .bool _) rfl rfl ?_
    first | exact ⟨no_post, HC⟩ | (refine ⟨bool_post fun hb => ?_, HC⟩; unfold AloneP; (try simp only [decide_eq_true_eq] at hb); omega)
  ·try simp only [nm, ne_eq] at g5
   iterate 3 refine w_no 3 10 true ?_
   refine pF rfl rfl <| mB rfl ?_
   iterate 3 refine w_no 8 15 true ?_
   refine pF rfl rfl <| mB rfl ?_
   iterate 4 refine w_no 13 20 true ?_
   refine pF rfl rfl <| mB rfl ?_
   iterate 3 refine w_no 19 26 true ?_
   refine pF rfl rfl <| aB rfl <| en <| x_ret <| then_r <| ret_tmp (v := .bool _) rfl rfl ?_
   first | exact ⟨no_post, HC⟩ | (refine ⟨bool_post fun hb => ?_, HC⟩; unfold AloneP; (try simp only [decide_eq_true_eq] at hb); omega)
 ·try simp only [nm, ne_eq] at h0
  refine x_skip <| then_n <| x_seq <| sr rfl <| fa T.fld36_1 rfl <| lI T.one3 rfl (hb4.cell rfl) <| Wp rfl <| st_lss rfl rfl <| mB rfl <| w_split (d := 34) rfl (fun g9 => ?_) (fun g9 => ?_)
  ·try simp only [nm, ne_eq] at g9
   iterate 3 refine w_no 3 34 false ?_
   refine pT rfl rfl <| en <| x_cond (t := true) rfl (fun h1 => ?_) (fun h1 => ?_)
   rotate_left
   · exact absurd h1 (by decide)
   refine sr rfl <| aB rfl <| en <| x_ret <| then_r <| ret_tmp (v := .bool _) rfl rfl ?_
   first | exact ⟨no_post, HC⟩ | (refine ⟨bool_post fun hb => ?_, HC⟩; unfold AloneP; (try simp only [decide_eq_true_eq] at hb); omega)
  ·try simp only [nm, ne_eq] at g9
   refine w_yes 3 34 false <| st_fieldAddr T.fld36_1 rfl <| w_yes 3 34 false <| st_load1 (v := .int _ _) T.one3 rfl (hb4.cell rfl) <| w_yes 3 34 false <| st_gtr rfl rfl <| pF rfl rfl <| en <| x_cond rfl (fun h1 => ?_) (fun h1 => ?_)
   ·try simp only [nm, ne_eq] at h1
    refine sr rfl <| aB rfl <| en <| x_ret <| then_r <| ret_tmp (v := .bool _) rfl rfl ?_
    first | exact ⟨no_post, HC⟩ | (refine ⟨bool_post fun hb => ?_, HC⟩; unfold AloneP; (try simp only [decide_eq_true_eq] at hb); omega)
   ·try simp only [nm, ne_eq] at h1
    refine x_skip <| then_n <| x_seq <| sr rfl <| fa T.fld36_0 rfl <| lI T.one3 rfl (hb4.cell rfl) <| en <| x_block <| sr rfl <| Wp rfl <| st_eql rfl rfl <| aB rfl <| en <| x_cond rfl (fun h2 => ?_) (fun h2 => ?_)
    ·try simp only [nm, ne_eq] at h2
     refine sr rfl <| fa T.fld36_4 rfl <| lL T.one34 rfl (hb4.cell rfl) <| Wp rfl <| st_len (ct := #[34]) (by rw [show ((#[34] : Array TypeId)[0]?).bind Tryz.prog.underlying = some (.slice 38) from T.u34]; rfl) rfl <| Wp rfl <| st_eql rfl rfl <| mB rfl <| w_split (d := 47) rfl (fun g10 => ?_) (fun g10 => ?_)
     ·try simp only [nm, ne_eq] at g10
      refine w_yes 4 47 true <| st_fieldAddr T.fld36_5 rfl <| w_yes 4 47 true <| st_load1 (v := .int _ _) T.one3 rfl (hb4.cell rfl) <| w_yes 4 47 true <| st_eql rfl rfl <| pT rfl rfl <| aB rfl <| en <| x_ret <| block_r <| then_r <| ret_tmp (v := .bool _) rfl rfl ?_
      first | exact ⟨no_post, HC⟩ | (refine ⟨bool_post fun hb => ?_, HC⟩; unfold AloneP; (try simp only [decide_eq_true_eq] at hb); omega)
     ·try simp only [nm, ne_eq] at g10
      iterate 3 refine w_no 4 47 true ?_
      refine pF rfl rfl <| aB rfl <| en <| x_ret <| block_r <| then_r <| ret_tmp (v := .bool _) rfl rfl ?_
      first | exact ⟨no_post, HC⟩ | (refine ⟨bool_post fun hb => ?_, HC⟩; unfold AloneP; (try simp only [decide_eq_true_eq] at hb); omega)
    ·try simp only [nm, ne_eq] at h2
     refine sr rfl <| Wp rfl <| st_eql rfl rfl <| aB rfl <| en <| x_cond rfl (fun h3 => ?_) (fun h3 => ?_)
     ·try simp only [nm, ne_eq] at h3
      refine x_seq <| sr rfl <| aI rfl <| en <| x_block <| x_loop (ι := Nat) [2, 3, 54, 55, 56, 57, 58, 59, 60, 61, 62, 63, 64, 65] (fun i => [(3, .int .i64 (i : Int))]) (fun i W => (i ≤ x.data.length) ∧ (Chg [] w W) ∧ (Blk W b1 [.int .i64 x.kind, .int .i64 x.mode, .int .i64 x.links, S x.data, .slice K x.kids.length c, .int .i64 x.up] 36)) (fun i => x.data.length - i) 0 ?_ ?_ ?_
      · exact ⟨rfl, trivial⟩
      ·refine ⟨?_, HC, hb4⟩
       exact Nat.zero_le _
      intro i G12 w11 ⟨hi, HC, hb4⟩
      change wp _ _ _ _ _ (upds (over _ _ G12) [(3, .int .i64 (i : Int))]) _ _
      refine x_seq <| sr rfl <| mI rfl <| fa T.fld36_3 rfl <| lS T.one9 rfl (hb4.cell rfl) <| Wp rfl <| st_slen (ct := #[9]) T.u9 rfl <| Wp rfl <| st_lss rfl rfl <| en <| x_cond rfl (fun h4 => ?_) (fun h4 => ?_)
      ·try simp only [nm, ne_eq] at h4
       refine x_skip <| then_n <| x_seq <| x_block <| sr rfl <| fa T.fld36_3 rfl <| lS T.one9 rfl (hb4.cell rfl) <| mI rfl <| Wp rfl <| st_sidx T.u9 rfl rfl (by omega) (by omega) <| Wp rfl <| st_eql rfl rfl <| en <| x_cond rfl (fun h5 => ?_) (fun h5 => ?_)
       ·try simp only [nm, ne_eq] at h5
        refine sr rfl <| aB rfl <| en <| x_ret <| block_r <| then_r <| then_r <| block_r <| then_r <| block_r <| then_r <| ret_tmp (v := .bool _) rfl rfl ?_
        first | exact ⟨no_post, HC⟩ | (refine ⟨bool_post fun hb => ?_, HC⟩; unfold AloneP; (try simp only [decide_eq_true_eq] at hb); omega)
       ·try simp only [nm, ne_eq] at h5
        refine x_skip <| block_n <| then_n <| x_region rfl <| mI rfl <| Wp rfl <| st_addn rfl rfl (by constructor <;> omega) <| aI rfl <| en <| ⟨i + 1, ?_, ?_, rfl, ⟨rfl, trivial⟩, ?_⟩
        ·refine ⟨?_, HC, hb4⟩
         exact by omega
        ·show x.data.length - (i + 1) < x.data.length - i; omega
        exact q9
      ·try simp only [nm, ne_eq] at h4
       refine x_exit <| then_x <| then_x <| block_x <| then_n <| sr rfl <| fa T.fld36_4 rfl <| lL T.one34 rfl (hb4.cell rfl) <| Wp rfl <| st_len (ct := #[34]) (by rw [show ((#[34] : Array TypeId)[0]?).bind Tryz.prog.underlying = some (.slice 38) from T.u34]; rfl) rfl <| Wp rfl <| st_eql rfl rfl <| mB rfl <| w_split (d := 70) rfl (fun g13 => ?_) (fun g13 => ?_)
       ·try simp only [nm, ne_eq] at g13
        refine w_yes 4 70 true <| st_fieldAddr T.fld36_5 rfl <| w_yes 4 70 true <| st_load1 (v := .int _ _) T.one3 rfl (hb4.cell rfl) <| w_yes 4 70 true <| st_eql rfl rfl <| pT rfl rfl <| mB rfl <| w_split (d := 75) rfl (fun g14 => ?_) (fun g14 => ?_)
        ·try simp only [nm, ne_eq] at g14
         refine w_yes 9 75 true <| st_fieldAddr T.fld36_3 rfl <| w_yes 9 75 true <| st_load1 (v := S _) T.one9 rfl (hb4.cell rfl) <| w_yes 9 75 true <| st_sneq rfl rfl <| pT rfl rfl <| mB rfl <| w_split (d := 80) rfl (fun g15 => ?_) (fun g15 => ?_)
         ·try simp only [nm, ne_eq] at g15
          refine w_yes 14 80 true <| st_fieldAddr T.fld36_3 rfl <| w_yes 14 80 true <| st_load1 (v := S _) T.one9 rfl (hb4.cell rfl) <| w_yes 14 80 true <| st_slen (ct := #[9]) T.u9 rfl <| w_yes 14 80 true <| st_leq rfl rfl <| pT rfl rfl <| aB rfl <| en <| x_ret <| block_r <| then_r <| ret_tmp (v := .bool _) rfl rfl ?_
          first | exact ⟨no_post, HC⟩ | (refine ⟨bool_post fun hb => ?_, HC⟩; unfold AloneP; (try simp only [decide_eq_true_eq] at hb); omega)
         ·try simp only [nm, ne_eq] at g15
          iterate 4 refine w_no 14 80 true ?_
          refine pF rfl rfl <| aB rfl <| en <| x_ret <| block_r <| then_r <| ret_tmp (v := .bool _) rfl rfl ?_
          first | exact ⟨no_post, HC⟩ | (refine ⟨bool_post fun hb => ?_, HC⟩; unfold AloneP; (try simp only [decide_eq_true_eq] at hb); omega)
        ·try simp only [nm, ne_eq] at g14
         iterate 3 refine w_no 9 75 true ?_
         refine pF rfl rfl <| mB rfl ?_
         iterate 4 refine w_no 14 80 true ?_
         refine pF rfl rfl <| aB rfl <| en <| x_ret <| block_r <| then_r <| ret_tmp (v := .bool _) rfl rfl ?_
         first | exact ⟨no_post, HC⟩ | (refine ⟨bool_post fun hb => ?_, HC⟩; unfold AloneP; (try simp only [decide_eq_true_eq] at hb); omega)
       ·try simp only [nm, ne_eq] at g13
        iterate 3 refine w_no 4 70 true ?_
        refine pF rfl rfl <| mB rfl ?_
        iterate 3 refine w_no 9 75 true ?_
        refine pF rfl rfl <| mB rfl ?_
        iterate 4 refine w_no 14 80 true ?_
        refine pF rfl rfl <| aB rfl <| en <| x_ret <| block_r <| then_r <| ret_tmp (v := .bool _) rfl rfl ?_
        first | exact ⟨no_post, HC⟩ | (refine ⟨bool_post fun hb => ?_, HC⟩; unfold AloneP; (try simp only [decide_eq_true_eq] at hb); omega)
     ·try simp only [nm, ne_eq] at h3
      refine sr rfl <| Wp rfl <| st_eql rfl rfl <| aB rfl <| en <| x_cond rfl (fun h6 => ?_) (fun h6 => ?_)
      ·try simp only [nm, ne_eq] at h6
       refine sr rfl <| fa T.fld36_3 rfl <| lS T.one9 rfl (hb4.cell rfl) <| Wp rfl <| st_seql rfl rfl <| aB rfl <| en <| x_ret <| block_r <| then_r <| ret_tmp (v := .bool _) rfl rfl ?_
       first | exact ⟨no_post, HC⟩ | (refine ⟨bool_post fun hb => ?_, HC⟩; unfold AloneP; (try simp only [decide_eq_true_eq] at hb); omega)
      ·try simp only [nm, ne_eq] at h6
       refine x_skip <| block_n <| then_n <| sr rfl <| aB rfl <| en <| x_ret <| ret_tmp (v := .bool _) rfl rfl ?_
       first | exact ⟨no_post, HC⟩ | (refine ⟨bool_post fun hb => ?_, HC⟩; unfold AloneP; (try simp only [decide_eq_true_eq] at hb); omega)
theorem kids_spec {Z : Tre} {An : Option Addr} {capn m : Nat} {mx my : Int} {w : World} (hm : m ≤ w.heap.size) (hT : Sl inE w (fun k => k < m) An Z) (hTl : Z.length ≤ 1000000000) (k : Int) (x : Ino) (hx : Z[k.toNat]? = some x) (hk0 : 0 ≤ k) (hk1 : k < Z.length) (hkl : x.kids.length ≤ 1024) (hkn : ∀ p, p ∈ x.kids → p.1.length ≤ 140737488351232) {bc cc : Nat} (hbc : m ≤ bc) (hc : CntAt w bc Z.length) : CallR Tryz.prog 32 #[.agg ⟨[.slice An Z.length capn, .int .i64 mx, .int .i64 my]⟩, .int .i64 k, .slice (some ⟨bc, 0, none⟩) Z.length cc] w fun v w' => (∃ b, v = .bool b ∧ (b = true → KidsP Z x.kids)) ∧ CntAt w' bc Z.length ∧ Chg [bc] w w' := by
 have hbl := hc.lt
 refine callR_of_wp (args := [_, _, _]) Tryz.func32 rfl (Nat.le_of_ble_eq_true rfl) ?_
 have HC : Chg [bc] w w := .refl _
 refine sr rfl <| Wp rfl <| st_box (v := .agg ⟨[.slice _ _ _, .int _ _, .int _ _]⟩) (vs := [_, _, _]) rfl rfl ?_
 intro b3 w1 e2 c3 hb4
 have ge_b3 := gB e2 HC.size
 replace HC := HC.then c3
 replace hT := hT.tr0 c3
 replace hc := hc.tr0 c3
 clear e2
 refine aB rfl <| en <| sr rfl <| fa T.fld24_0 rfl <| lL T.one22 rfl (hb4.cell rfl) <| mI rfl ?_
 obtain ⟨lb9, _, vs8, hA5, hR7, hC6⟩ := hT.at (i := (k.toNat)) (x := x) (hx)
 obtain ⟨K10, cK10, rfl, hk1_10, hk2_10, hk3_10⟩ := hR7
 refine Wp rfl <| st_indexAddr T.u22 T.size36 (congrArg (fun z => Value.slice z _ _) hA5) rfl (by omega) (by omega) <| fa T.fld36_4 rfl <| lL T.one34 rfl (hC6.at (j := 4) rfl) <| aL rfl <| en <| x_seq <| sr rfl <| aI rfl <| en <| x_block <| x_loop (ι := Nat) [6, 8, 9, 16, 17, 18, 19, 20, 21, 22, 23, 24, 25, 26, 27, 28, 29, 30, 31, 32, 33, 34, 35, 36, 37, 38, 39, 40, 41, 42, 43, 44, 45, 46, 47, 48, 49, 50, 51, 52, 53, 54, 55, 56, 57, 58, 59, 60, 61, 62, 63, 64, 65, 66, 67, 68, 69, 70, 71, 72, 73, 74, 75, 76, 77, 78, 79, 80, 81, 82, 83, 84, 85, 86, 87, 88, 89, 90, 91, 92, 93, 94, 95, 96, 97] (fun i => [(8, .int .i64 (i : Int))]) (fun i W => (i ≤ x.kids.length ∧ KidsP Z (x.kids.take i)) ∧ (Chg [bc] w W) ∧ (Sl inE W (fun k => k < m) An Z) ∧ (CntAt W bc Z.length) ∧ (Blk W b3 [.slice An Z.length capn, .int .i64 mx, .int .i64 my] 24) ∧ (Sl keE W (fun k => k < m) K10 x.kids)) (fun i => x.kids.length - i) 0 ?_ ?_ ?_
 · exact ⟨rfl, trivial⟩
 ·refine ⟨?_, HC, hT, hc, hb4, hk3_10⟩
  exact ⟨Nat.zero_le _, kidsP_nil⟩
 intro i G12 w11 ⟨⟨hi, hkp⟩, HC, hT, hc, hb4, hk3_10⟩
 change wp _ _ _ _ _ (upds (over _ _ G12) [(8, .int .i64 (i : Int))]) _ _
 refine x_seq <| sr rfl <| mI rfl <| mL rfl <| Wp rfl <| st_len (ct := #[34]) (by rw [show ((#[34] : Array TypeId)[0]?).bind Tryz.prog.underlying = some (.slice 38) from T.u34]; rfl) rfl <| Wp rfl <| st_lss rfl rfl <| en <| x_cond rfl (fun h0 => ?_) (fun h0 => ?_)
 ·try simp only [nm, ne_eq] at h0
  refine x_skip <| then_n <| x_seq <| x_block <| x_seq <| x_seq ?_
  obtain ⟨q, hq⟩ : ∃ q, x.kids[i]? = some q := ⟨_, List.getElem?_eq_getElem (by omega)⟩
  have hql : q.1.length ≤ 9223372036854775807 := by have := hkn q (List.mem_of_getElem? hq); omega
  obtain ⟨lb17, _, vs16, hA13, hR15, hC14⟩ := hk3_10.at (i := i) (x := q) (hq)
  obtain rfl : vs16 = [S q.1, .int .i64 q.2] := hR15
  obtain ⟨q2, hx18⟩ : ∃ zz, x.kids[(((i : Int) - 1).toNat)]? = some zz := ⟨_, List.getElem?_eq_getElem (by omega)⟩
  obtain ⟨lb23, _, vs22, hA19, hR21, hC20⟩ := hk3_10.at hx18
  obtain rfl : vs22 = [S q2.1, .int .i64 q2.2] := hR21
  obtain ⟨lb28, _, vs27, hA24, hR26, hC25⟩ := hk3_10.at (i := i) (x := q) (hq)
  obtain rfl : vs27 = [S q.1, .int .i64 q.2] := hR26
  obtain ⟨lb33, _, vs32, hA29, hR31, hC30⟩ := hk3_10.at (i := i) (x := q) (hq)
  obtain rfl : vs32 = [S q.1, .int .i64 q.2] := hR31
  refine x_draw [(0, 0), (1, 0), (2, 0), (3, 0), (4, 0), (5, 1), (6, 0), (7, 0), (8, 0), (9, 0), (10, 0), (11, 0), (12, 0), (13, 0), (14, 0), (15, 0), (16, 0), (17, 0), (18, 0), (19, 0), (20, 0), (21, 0), (22, 0), (23, 0), (24, 0), (25, 0), (26, 0), (27, 0), (28, 0), (29, 0), (30, 0), (31, 0), (32, 1), (33, 0), (34, 0)] T.mixed rfl rfl rfl (fun W => W.heap[b3]? = w11.heap[b3]? ∧ W.heap[lb17]? = w11.heap[lb17]? ∧ W.heap[lb23]? = w11.heap[lb23]? ∧ W.heap[lb28]? = w11.heap[lb28]? ∧ W.heap[lb33]? = w11.heap[lb33]? ∧ True) ⟨rfl, rfl, rfl, rfl, rfl, trivial⟩ ?_
  have o36 := hb4
  have c35 := Chg.drew w11
  generalize World.drew w11 = w34 at c35 ⊢
  have ht_lb17 : lb17 < w34.heap.size ∧ w34.heap[lb17]? = w11.heap[lb17]? := ⟨Nat.lt_of_lt_of_le hC14.lt c35.size, c35.block lb17 hC14.lt (by simp)⟩
  have ht_lb23 : lb23 < w34.heap.size ∧ w34.heap[lb23]? = w11.heap[lb23]? := ⟨Nat.lt_of_lt_of_le hC20.lt c35.size, c35.block lb23 hC20.lt (by simp)⟩
  have ht_lb28 : lb28 < w34.heap.size ∧ w34.heap[lb28]? = w11.heap[lb28]? := ⟨Nat.lt_of_lt_of_le hC25.lt c35.size, c35.block lb28 hC25.lt (by simp)⟩
  have ht_lb33 : lb33 < w34.heap.size ∧ w34.heap[lb33]? = w11.heap[lb33]? := ⟨Nat.lt_of_lt_of_le hC30.lt c35.size, c35.block lb33 hC30.lt (by simp)⟩
  replace HC := HC.then c35
  replace hT := hT.tr0 c35
  replace hc := hc.tr0 c35
  replace hb4 := hb4.tr0 c35
  replace hk3_10 := hk3_10.tr0 c35
  refine sq_q rfl (fun W hT => r_move (v := .slice _ _ _) rfl) <| sq_q rfl (fun W hT => r_move (v := .int _ _) rfl) <| sq_q rfl (fun W hT => r_indexAddr T.u34 T.size38 (congrArg (fun z => Value.slice z _ _) hA13) rfl (by omega) (by omega)) <| sq_q rfl (fun W hT => r_fieldAddr T.fld38_0 rfl) <| sq_q rfl (fun W hT => r_load1 (v := S _) T.one9 rfl (Cells.at (j := 0) (Cells.tr hC14 hT.2.1) rfl)) <| sq_call1 rfl (r_call (ags := [_]) rfl rfl T.ent51 rfl) (rName_spec _ _ hql) ?_
  rintro _ w37 ⟨⟨bn, rfl, hbn⟩, c38⟩
  replace HC := HC.then c38
  replace hT := hT.tr0 c38
  replace hc := hc.tr0 c38
  replace hb4 := hb4.tr0 c38
  replace hk3_10 := hk3_10.tr0 c38
  replace ht_lb17 := And.intro (Nat.lt_of_lt_of_le ht_lb17.1 c38.size) ((c38.block lb17 ht_lb17.1 (by simp)).trans ht_lb17.2)
  replace ht_lb23 := And.intro (Nat.lt_of_lt_of_le ht_lb23.1 c38.size) ((c38.block lb23 ht_lb23.1 (by simp)).trans ht_lb23.2)
  replace ht_lb28 := And.intro (Nat.lt_of_lt_of_le ht_lb28.1 c38.size) ((c38.block lb28 ht_lb28.1 (by simp)).trans ht_lb28.2)
  replace ht_lb33 := And.intro (Nat.lt_of_lt_of_le ht_lb33.1 c38.size) ((c38.block lb33 ht_lb33.1 (by simp)).trans ht_lb33.2)
  refine ⟨_, fun _ h => h, ⟨(Eq.trans hb4 o36.symm), (by first | assumption | exact ht_lb17.2), (by first | assumption | exact ht_lb23.2), (by first | assumption | exact ht_lb28.2), (by first | assumption | exact ht_lb33.2), trivial⟩, ?_⟩
  refine sq_q rfl (fun W hT => r_not rfl) <| sq_q rfl (fun W hT => r_move (v := .bool _) rfl) <| sq_split (d := 29) rfl (fun g39 => ?_) (fun g39 => ?_)
  ·try simp only [nm, ne_eq] at g39
   refine sq_no rfl rfl <| sq_no rfl rfl <| sq_no rfl rfl <| sq_no rfl rfl <| sq_no rfl rfl <| sq_no rfl rfl <| sq_no rfl rfl <| sq_no rfl rfl <| sq_no rfl rfl <| sq_no rfl rfl <| sq_no rfl rfl <| sq_no rfl rfl <| sq_no rfl rfl <| sq_no rfl rfl <| sq_no rfl rfl <| sq_no rfl rfl <| sq_q rfl (fun W hT => r_pick (b := true) (v := .bool _) rfl rfl) <| sq_q rfl (fun W hT => r_move (v := .bool _) rfl) <| sq_no rfl rfl <| sq_no rfl rfl <| sq_no rfl rfl <| sq_no rfl rfl <| sq_no rfl rfl <| sq_no rfl rfl <| sq_no rfl rfl <| sq_no rfl rfl <| sq_q rfl (fun W hT => r_pick (b := true) (v := .bool _) rfl rfl) ?_
   clear o36
   refine sq_nil <| then_n <| x_cond (t := true) rfl (fun h1 => ?_) (fun h1 => ?_)
   rotate_left
   · exact absurd h1 (by decide)
   refine sr rfl <| aB rfl <| en <| x_ret <| then_r <| block_r <| then_r <| then_r <| block_r <| then_r <| ret_tmp (v := .bool _) rfl rfl ?_
   first | exact ⟨no_post, hc, HC⟩ | (rw [List.take_of_length_le (by omega)] at hkp; exact ⟨⟨_, rfl, fun _ => hkp⟩, hc, HC⟩)
  ·try simp only [nm, ne_eq] at g39
   refine sq_q rfl (fun W hT => r_move (v := .int _ _) rfl) <| sq_q rfl (fun W hT => r_gtr rfl rfl) <| sq_q rfl (fun W hT => r_move (v := .bool _) rfl) <| sq_split (d := 32) rfl (fun g40 => ?_) (fun g40 => ?_)
   ·try simp only [nm, ne_eq] at g40
    refine sq_q rfl (fun W hT => r_move (v := .slice _ _ _) rfl) <| sq_q rfl (fun W hT => r_move (v := .int _ _) rfl) <| sq_q rfl (fun W hT => r_subn rfl rfl (by constructor <;> omega)) <| sq_q rfl (fun W hT => r_indexAddr T.u34 T.size38 (congrArg (fun z => Value.slice z _ _) hA19) rfl (by omega) (by omega)) <| sq_q rfl (fun W hT => r_fieldAddr T.fld38_0 rfl) <| sq_q rfl (fun W hT => r_load1 (v := S _) T.one9 rfl (Cells.at (j := 0) (Cells.tr hC20 hT.2.2.1) rfl)) <| sq_q rfl (fun W hT => r_move (v := .slice _ _ _) rfl) <| sq_q rfl (fun W hT => r_move (v := .int _ _) rfl) <| sq_q rfl (fun W hT => r_indexAddr T.u34 T.size38 (congrArg (fun z => Value.slice z _ _) hA24) rfl (by omega) (by omega)) <| sq_q rfl (fun W hT => r_fieldAddr T.fld38_0 rfl) <| sq_q rfl (fun W hT => r_load1 (v := S _) T.one9 rfl (Cells.at (j := 0) (Cells.tr hC25 hT.2.2.2.1) rfl)) <| sq_q rfl (fun W hT => r_sgeq rfl rfl) <| sq_q rfl (fun W hT => r_pick (b := true) (v := .bool _) rfl rfl) <| sq_q rfl (fun W hT => r_pick (b := false) (v := .bool _) rfl rfl) <| sq_q rfl (fun W hT => r_move (v := .bool _) rfl) <| sq_split (d := 47) rfl (fun g41 => ?_) (fun g41 => ?_)
    ·try simp only [nm, ne_eq] at g41
     refine sq_no rfl rfl <| sq_no rfl rfl <| sq_no rfl rfl <| sq_no rfl rfl <| sq_no rfl rfl <| sq_no rfl rfl <| sq_no rfl rfl <| sq_no rfl rfl <| sq_q rfl (fun W hT => r_pick (b := true) (v := .bool _) rfl rfl) ?_
     clear o36
     refine sq_nil <| then_n <| x_cond (t := true) rfl (fun h1 => ?_) (fun h1 => ?_)
     rotate_left
     · exact absurd h1 (by decide)
     refine sr rfl <| aB rfl <| en <| x_ret <| then_r <| block_r <| then_r <| then_r <| block_r <| then_r <| ret_tmp (v := .bool _) rfl rfl ?_
     first | exact ⟨no_post, hc, HC⟩ | (rw [List.take_of_length_le (by omega)] at hkp; exact ⟨⟨_, rfl, fun _ => hkp⟩, hc, HC⟩)
    ·try simp only [nm, ne_eq] at g41
     refine sq_q rfl (fun W hT => r_loadA (vs := [_, _, _]) T.agg24 rfl (Blk.cells (n := 3) (vs := [_, _, _]) (show Blk W b3 _ _ from hT.1.trans o36) rfl) rfl) <| sq_q rfl (fun W hT => r_move (v := .slice _ _ _) rfl) <| sq_q rfl (fun W hT => r_move (v := .int _ _) rfl) <| sq_q rfl (fun W hT => r_indexAddr T.u34 T.size38 (congrArg (fun z => Value.slice z _ _) hA29) rfl (by omega) (by omega)) <| sq_q rfl (fun W hT => r_fieldAddr T.fld38_1 rfl) <| sq_q rfl (fun W hT => r_load1 (v := .int _ _) T.one3 rfl (Cells.at (j := 1) (Cells.tr hC30 hT.2.2.2.2.1) rfl)) <| sq_call1 rfl (r_call (ags := [_, _]) rfl rfl T.ent29 rfl) (rthere_spec hT hTl _) ?_
     rintro _ w42 ⟨rfl, c43⟩
     replace HC := HC.then c43
     replace hT := hT.tr0 c43
     replace hc := hc.tr0 c43
     replace hb4 := hb4.tr0 c43
     replace hk3_10 := hk3_10.tr0 c43
     replace ht_lb17 := And.intro (Nat.lt_of_lt_of_le ht_lb17.1 c43.size) ((c43.block lb17 ht_lb17.1 (by simp)).trans ht_lb17.2)
     replace ht_lb23 := And.intro (Nat.lt_of_lt_of_le ht_lb23.1 c43.size) ((c43.block lb23 ht_lb23.1 (by simp)).trans ht_lb23.2)
     replace ht_lb28 := And.intro (Nat.lt_of_lt_of_le ht_lb28.1 c43.size) ((c43.block lb28 ht_lb28.1 (by simp)).trans ht_lb28.2)
     replace ht_lb33 := And.intro (Nat.lt_of_lt_of_le ht_lb33.1 c43.size) ((c43.block lb33 ht_lb33.1 (by simp)).trans ht_lb33.2)
     refine ⟨_, fun _ h => h, ⟨(Eq.trans hb4 o36.symm), (by first | assumption | exact ht_lb17.2), (by first | assumption | exact ht_lb23.2), (by first | assumption | exact ht_lb28.2), (by first | assumption | exact ht_lb33.2), trivial⟩, ?_⟩
     refine sq_q rfl (fun W hT => r_not rfl) <| sq_q rfl (fun W hT => r_pick (b := false) (v := .bool _) rfl rfl) ?_
     clear o36
     refine sq_nil <| then_n <| x_cond rfl (fun h1 => ?_) (fun h1 => ?_)
     ·try simp only [nm, ne_eq] at h1
      refine sr rfl <| aB rfl <| en <| x_ret <| then_r <| block_r <| then_r <| then_r <| block_r <| then_r <| ret_tmp (v := .bool _) rfl rfl ?_
      first | exact ⟨no_post, hc, HC⟩ | (rw [List.take_of_length_le (by omega)] at hkp; exact ⟨⟨_, rfl, fun _ => hkp⟩, hc, HC⟩)
     ·try simp only [nm, ne_eq] at h1
      obtain ⟨hq0, hq1⟩ := inV_in (by assumption : inV Z q.2 = true)
      obtain ⟨xq, hxq, hioq⟩ := ino_some hq0 hq1
      refine x_skip <| then_n <| x_seq ?_
      obtain ⟨lb48, _, vs47, hA44, hR46, hC45⟩ := hk3_10.at (i := i) (x := q) (hq)
      obtain rfl : vs47 = [S q.1, .int .i64 q.2] := hR46
      obtain ⟨lb53, _, vs52, hA49, hR51, hC50⟩ := hT.at (i := (q.2.toNat)) (x := xq) (hxq)
      obtain ⟨K54, cK54, rfl, hk1_54, hk2_54, hk3_54⟩ := hR51
      refine x_draw [(0, 0), (1, 0), (2, 0), (3, 0), (4, 0), (5, 0), (6, 0), (7, 0), (8, 0), (9, 1), (10, 2)] T.mixed rfl rfl rfl (fun W => W.heap[b3]? = w42.heap[b3]? ∧ W.heap[lb48]? = w42.heap[lb48]? ∧ W.heap[lb53]? = w42.heap[lb53]? ∧ True) ⟨rfl, rfl, rfl, trivial⟩ ?_
      have o57 := hb4
      have c56 := Chg.drew w42
      generalize World.drew w42 = w55 at c56 ⊢
      have ht_lb48 : lb48 < w55.heap.size ∧ w55.heap[lb48]? = w42.heap[lb48]? := ⟨Nat.lt_of_lt_of_le hC45.lt c56.size, c56.block lb48 hC45.lt (by simp)⟩
      have ht_lb53 : lb53 < w55.heap.size ∧ w55.heap[lb53]? = w42.heap[lb53]? := ⟨Nat.lt_of_lt_of_le hC50.lt c56.size, c56.block lb53 hC50.lt (by simp)⟩
      replace HC := HC.then c56
      replace hT := hT.tr0 c56
      replace hc := hc.tr0 c56
      replace hb4 := hb4.tr0 c56
      replace hk3_10 := hk3_10.tr0 c56
      refine sq_q rfl (fun W hT => r_fieldAddr T.fld24_0 rfl) <| sq_q rfl (fun W hT => r_load1 (v := .slice _ _ _) T.one22 rfl (Blk.cell (show Blk W b3 _ _ from hT.1.trans o57) rfl)) <| sq_q rfl (fun W hT => r_move (v := .slice _ _ _) rfl) <| sq_q rfl (fun W hT => r_move (v := .int _ _) rfl) <| sq_q rfl (fun W hT => r_indexAddr T.u34 T.size38 (congrArg (fun z => Value.slice z _ _) hA44) rfl (by omega) (by omega)) <| sq_q rfl (fun W hT => r_fieldAddr T.fld38_1 rfl) <| sq_q rfl (fun W hT => r_load1 (v := .int _ _) T.one3 rfl (Cells.at (j := 1) (Cells.tr hC45 hT.2.1) rfl)) <| sq_q rfl (fun W hT => r_indexAddr T.u22 T.size36 (congrArg (fun z => Value.slice z _ _) hA49) rfl (by omega) (by omega)) <| sq_q rfl (fun W hT => r_loadA (vs := [_, _, _, _, _, _]) T.agg36 rfl (Cells.tr hC50 hT.2.2.1) rfl) <| sq_alloc1 rfl T.zero36 ?_
      intro b9 w58 e59 c60 hb61
      have ge_b9 := gB e59 HC.size
      have ne_b3_b9 := nF e59 hb4.ne_size
      have nh_lb48_b9 : lb48 ≠ b9 := by have h1 := ht_lb48.1; have h2 := e59; omega
      have nh_lb53_b9 : lb53 ≠ b9 := by have h1 := ht_lb53.1; have h2 := e59; omega
      replace HC := HC.then c60
      replace hT := hT.tr0 c60
      replace hc := hc.tr0 c60
      replace hb4 := hb4.tr0 c60
      replace hk3_10 := hk3_10.tr0 c60
      replace ht_lb48 := And.intro (Nat.lt_of_lt_of_le ht_lb48.1 c60.size) ((c60.block lb48 ht_lb48.1 (by simp)).trans ht_lb48.2)
      replace ht_lb53 := And.intro (Nat.lt_of_lt_of_le ht_lb53.1 c60.size) ((c60.block lb53 ht_lb53.1 (by simp)).trans ht_lb53.2)
      clear e59
      refine ext_T (b := b9) ⟨(Eq.trans hb4 o57.symm), (by first | assumption | exact ht_lb48.2), (by first | assumption | exact ht_lb53.2), trivial⟩ ?_
      have o62 := hb61
      refine sq_store2 rfl T.size36 (v := .agg ⟨[.int _ _, .int _ _, .int _ _, S _, .slice _ _ _, .int _ _]⟩) rfl rfl rfl hb61 rfl (Nat.le_of_ble_eq_true rfl) q5 rfl ?_
      intro w63 c64 hb65; simp only [setVs, setV] at hb65
      clear hb61
      replace HC := HC.then1 c64 ge_b9
      replace hT := hT.tr c64 (by intro k hx hD; simp only [List.mem_cons, List.mem_nil_iff, or_false] at hx; have hD2 : k < m := hD; omega)
      replace hc := hc.tr c64 q1
      replace hb4 := hb4.tr1 c64 ne_b3_b9
      replace hk3_10 := hk3_10.tr c64 (by intro k hx hD; simp only [List.mem_cons, List.mem_nil_iff, or_false] at hx; have hD2 : k < m := hD; omega)
      replace ht_lb48 := And.intro (Nat.lt_of_lt_of_le ht_lb48.1 c64.size) ((c64.block lb48 ht_lb48.1 (by simpa using nh_lb48_b9)).trans ht_lb48.2)
      replace ht_lb53 := And.intro (Nat.lt_of_lt_of_le ht_lb53.1 c64.size) ((c64.block lb53 ht_lb53.1 (by simpa using nh_lb53_b9)).trans ht_lb53.2)
      clear o57
      clear o62
      refine sq_nil <| then_n <| x_seq <| sr rfl <| fa T.fld36_0 rfl <| lI T.one3 rfl (hb65.cell rfl) <| Wp rfl <| st_eql rfl rfl <| mB rfl <| w_split (d := 69) rfl (fun g66 => ?_) (fun g66 => ?_)
      ·try simp only [nm, ne_eq] at g66
       iterate 4 refine w_no 3 69 false ?_
       iterate 7 refine w_no 7 73 true ?_
       iterate 4 refine w_no 14 80 false ?_
       refine w_no 7 73 true <| w_no 3 69 false <| pT rfl rfl <| en <| x_cond (t := true) rfl (fun h2 => ?_) (fun h2 => ?_)
       rotate_left
       · exact absurd h2 (by decide)
       refine sr rfl <| aB rfl <| en <| x_ret <| then_r <| block_r <| then_r <| then_r <| block_r <| then_r <| ret_tmp (v := .bool _) rfl rfl ?_
       first | exact ⟨no_post, hc, HC⟩ | (rw [List.take_of_length_le (by omega)] at hkp; exact ⟨⟨_, rfl, fun _ => hkp⟩, hc, HC⟩)
      ·try simp only [nm, ne_eq] at g66
       refine w_yes 3 69 false <| st_fieldAddr T.fld36_0 rfl <| w_yes 3 69 false <| st_load1 (v := .int _ _) T.one3 rfl (hb65.cell rfl) <| w_yes 3 69 false <| st_eql rfl rfl <| w_yes 3 69 false <| st_move (v := .bool _) rfl <| w_split (d := 73) rfl (fun g67 => ?_) (fun g67 => ?_)
       ·try simp only [nm, ne_eq] at g67
        refine w_yes 7 73 true <| st_move (v := .slice _ _ _) rfl <| w_yes 7 73 true <| st_move (v := .int _ _) rfl ?_
        obtain ⟨lb72, _, vs71, hA68, hR70, hC69⟩ := hk3_10.at (i := i) (x := q) (hq)
        obtain rfl : vs71 = [S q.1, .int .i64 q.2] := hR70
        refine w_yes 7 73 true <| st_indexAddr T.u34 T.size38 (congrArg (fun z => Value.slice z _ _) hA68) rfl (by omega) (by omega) <| w_yes 7 73 true <| st_fieldAddr T.fld38_1 rfl <| w_yes 7 73 true <| st_load1 (v := .int _ _) T.one3 rfl (hC69.at (j := 1) rfl) <| w_yes 7 73 true <| st_eql rfl rfl <| w_yes 7 73 true <| st_move (v := .bool _) rfl <| w_split (d := 80) rfl (fun g73 => ?_) (fun g73 => ?_)
        ·try simp only [nm, ne_eq] at g73
         iterate 4 refine w_no 14 80 false ?_
         refine w_yes 7 73 true <| st_pick (b := true) (v := .bool _) rfl rfl <| w_yes 3 69 false <| st_pick (b := true) (v := .bool _) rfl rfl <| pF rfl rfl <| en <| x_cond (t := true) rfl (fun h2 => ?_) (fun h2 => ?_)
         rotate_left
         · exact absurd h2 (by decide)
         refine sr rfl <| aB rfl <| en <| x_ret <| then_r <| block_r <| then_r <| then_r <| block_r <| then_r <| ret_tmp (v := .bool _) rfl rfl ?_
         first | exact ⟨no_post, hc, HC⟩ | (rw [List.take_of_length_le (by omega)] at hkp; exact ⟨⟨_, rfl, fun _ => hkp⟩, hc, HC⟩)
        ·try simp only [nm, ne_eq] at g73
         refine w_yes 14 80 false <| st_fieldAddr T.fld36_5 rfl <| w_yes 14 80 false <| st_load1 (v := .int _ _) T.one3 rfl (hb65.cell rfl) <| w_yes 14 80 false <| st_move (v := .int _ _) rfl <| w_yes 14 80 false <| st_neq rfl rfl <| w_yes 7 73 true <| st_pick (b := false) (v := .bool _) rfl rfl <| w_yes 3 69 false <| st_pick (b := true) (v := .bool _) rfl rfl <| pF rfl rfl <| en <| x_cond rfl (fun h2 => ?_) (fun h2 => ?_)
         ·try simp only [nm, ne_eq] at h2
          refine sr rfl <| aB rfl <| en <| x_ret <| then_r <| block_r <| then_r <| then_r <| block_r <| then_r <| ret_tmp (v := .bool _) rfl rfl ?_
          first | exact ⟨no_post, hc, HC⟩ | (rw [List.take_of_length_le (by omega)] at hkp; exact ⟨⟨_, rfl, fun _ => hkp⟩, hc, HC⟩)
         ·try simp only [nm, ne_eq] at h2
          have hqk : kindV Z q.2 ≠ 0 := by unfold kindV; rw [hioq]; assumption
          refine x_skip <| then_n ?_
          obtain ⟨vc, hvc⟩ := hc.at (i := q.2.toNat) (by omega)
          refine x_region rfl <| mL rfl <| mL rfl <| mI rfl ?_
          obtain ⟨lb78, _, vs77, hA74, hR76, hC75⟩ := hk3_10.at (i := i) (x := q) (hq)
          obtain rfl : vs77 = [S q.1, .int .i64 q.2] := hR76
          refine Wp rfl <| st_indexAddr T.u34 T.size38 (congrArg (fun z => Value.slice z _ _) hA74) rfl (by omega) (by omega) <| fa T.fld38_1 rfl <| lI T.one3 rfl (hC75.at (j := 1) rfl) <| Wp rfl <| st_indexAddr T.u66 T.size3 rfl rfl (by omega) (by omega) <| lI T.one3 rfl hvc <| Wp rfl <| st_add rfl rfl <| Wp rfl <| st_indexAddr T.u66 T.size3 rfl rfl (by omega) (by omega) ?_
          obtain ⟨cs, hcl, hcb⟩ := hc
          refine Wp rfl <| st_store (vs := [.int .i64 _]) T.size3 rfl rfl rfl hcb rfl (by simp only [List.length_map, List.length_cons, List.length_nil]; omega) (by simp [Value.oneCell']) setVs_map1 ?_
          intro w79 c80 hb81
          replace HC := HC.trans c80 q4
          replace hT := hT.tr c80 (by intro k hx hD; simp only [List.mem_cons, List.mem_nil_iff, or_false] at hx; have hD2 : k < m := hD; omega)
          replace hb4 := hb4.tr1 c80 q0
          replace hk3_10 := hk3_10.tr c80 (by intro k hx hD; simp only [List.mem_cons, List.mem_nil_iff, or_false] at hx; have hD2 : k < m := hD; omega)
          have hc2 : CntAt w79 bc Z.length := ⟨_, by rw [List.length_set]; exact hcl, hb81⟩
          refine wops_nil <| block_n <| then_n <| x_region rfl <| mI rfl <| Wp rfl <| st_addn rfl rfl (by constructor <;> omega) <| aI rfl <| en <| ⟨i + 1, ?_, ?_, rfl, ⟨rfl, trivial⟩, ?_⟩
          ·refine ⟨?_, HC, hT, hc2, hb4, hk3_10⟩
           exact ⟨by omega, kidsP_step hkp hq (by first | (left; omega) | exact .inr ⟨q2, by rw [show i - 1 = ((i : Int) - 1).toNat by omega]; assumption, by assumption⟩) ⟨hq0, hq1⟩ hqk (hbn (by first | assumption | simp_all))⟩
          ·show x.kids.length - (i + 1) < x.kids.length - i; omega
          exact q9
       ·try simp only [nm, ne_eq] at g67
        iterate 7 refine w_no 7 73 true ?_
        iterate 4 refine w_no 14 80 false ?_
        refine w_no 7 73 true <| w_yes 3 69 false <| st_pick (b := false) (v := .bool _) rfl rfl <| pF rfl rfl <| en <| x_cond (t := false) rfl (fun h2 => ?_) (fun h2 => ?_)
        · exact absurd h2 (by decide)
        have hqk : kindV Z q.2 ≠ 0 := by unfold kindV; rw [hioq]; assumption
        refine x_skip <| then_n ?_
        obtain ⟨vc, hvc⟩ := hc.at (i := q.2.toNat) (by omega)
        refine x_region rfl <| mL rfl <| mL rfl <| mI rfl ?_
        obtain ⟨lb86, _, vs85, hA82, hR84, hC83⟩ := hk3_10.at (i := i) (x := q) (hq)
        obtain rfl : vs85 = [S q.1, .int .i64 q.2] := hR84
        refine Wp rfl <| st_indexAddr T.u34 T.size38 (congrArg (fun z => Value.slice z _ _) hA82) rfl (by omega) (by omega) <| fa T.fld38_1 rfl <| lI T.one3 rfl (hC83.at (j := 1) rfl) <| Wp rfl <| st_indexAddr T.u66 T.size3 rfl rfl (by omega) (by omega) <| lI T.one3 rfl hvc <| Wp rfl <| st_add rfl rfl <| Wp rfl <| st_indexAddr T.u66 T.size3 rfl rfl (by omega) (by omega) ?_
        obtain ⟨cs, hcl, hcb⟩ := hc
        refine Wp rfl <| st_store (vs := [.int .i64 _]) T.size3 rfl rfl rfl hcb rfl (by simp only [List.length_map, List.length_cons, List.length_nil]; omega) (by simp [Value.oneCell']) setVs_map1 ?_
        intro w87 c88 hb89
        replace HC := HC.trans c88 q4
        replace hT := hT.tr c88 (by intro k hx hD; simp only [List.mem_cons, List.mem_nil_iff, or_false] at hx; have hD2 : k < m := hD; omega)
        replace hb4 := hb4.tr1 c88 q0
        replace hk3_10 := hk3_10.tr c88 (by intro k hx hD; simp only [List.mem_cons, List.mem_nil_iff, or_false] at hx; have hD2 : k < m := hD; omega)
        have hc2 : CntAt w87 bc Z.length := ⟨_, by rw [List.length_set]; exact hcl, hb89⟩
        refine wops_nil <| block_n <| then_n <| x_region rfl <| mI rfl <| Wp rfl <| st_addn rfl rfl (by constructor <;> omega) <| aI rfl <| en <| ⟨i + 1, ?_, ?_, rfl, ⟨rfl, trivial⟩, ?_⟩
        ·refine ⟨?_, HC, hT, hc2, hb4, hk3_10⟩
         exact ⟨by omega, kidsP_step hkp hq (by first | (left; omega) | exact .inr ⟨q2, by rw [show i - 1 = ((i : Int) - 1).toNat by omega]; assumption, by assumption⟩) ⟨hq0, hq1⟩ hqk (hbn (by first | assumption | simp_all))⟩
        ·show x.kids.length - (i + 1) < x.kids.length - i; omega
        exact q9
   ·try simp only [nm, ne_eq] at g40
    refine sq_no rfl rfl <| sq_no rfl rfl <| sq_no rfl rfl <| sq_no rfl rfl <| sq_no rfl rfl <| sq_no rfl rfl <| sq_no rfl rfl <| sq_no rfl rfl <| sq_no rfl rfl <| sq_no rfl rfl <| sq_no rfl rfl <| sq_no rfl rfl <| sq_q rfl (fun W hT => r_pick (b := false) (v := .bool _) rfl rfl) <| sq_q rfl (fun W hT => r_pick (b := false) (v := .bool _) rfl rfl) <| sq_q rfl (fun W hT => r_move (v := .bool _) rfl) <| sq_q rfl (fun W hT => r_loadA (vs := [_, _, _]) T.agg24 rfl (Blk.cells (n := 3) (vs := [_, _, _]) (show Blk W b3 _ _ from hT.1.trans o36) rfl) rfl) <| sq_q rfl (fun W hT => r_move (v := .slice _ _ _) rfl) <| sq_q rfl (fun W hT => r_move (v := .int _ _) rfl) <| sq_q rfl (fun W hT => r_indexAddr T.u34 T.size38 (congrArg (fun z => Value.slice z _ _) hA29) rfl (by omega) (by omega)) <| sq_q rfl (fun W hT => r_fieldAddr T.fld38_1 rfl) <| sq_q rfl (fun W hT => r_load1 (v := .int _ _) T.one3 rfl (Cells.at (j := 1) (Cells.tr hC30 hT.2.2.2.2.1) rfl)) <| sq_call1 rfl (r_call (ags := [_, _]) rfl rfl T.ent29 rfl) (rthere_spec hT hTl _) ?_
    rintro _ w90 ⟨rfl, c91⟩
    replace HC := HC.then c91
    replace hT := hT.tr0 c91
    replace hc := hc.tr0 c91
    replace hb4 := hb4.tr0 c91
    replace hk3_10 := hk3_10.tr0 c91
    replace ht_lb17 := And.intro (Nat.lt_of_lt_of_le ht_lb17.1 c91.size) ((c91.block lb17 ht_lb17.1 (by simp)).trans ht_lb17.2)
    replace ht_lb23 := And.intro (Nat.lt_of_lt_of_le ht_lb23.1 c91.size) ((c91.block lb23 ht_lb23.1 (by simp)).trans ht_lb23.2)
    replace ht_lb28 := And.intro (Nat.lt_of_lt_of_le ht_lb28.1 c91.size) ((c91.block lb28 ht_lb28.1 (by simp)).trans ht_lb28.2)
    replace ht_lb33 := And.intro (Nat.lt_of_lt_of_le ht_lb33.1 c91.size) ((c91.block lb33 ht_lb33.1 (by simp)).trans ht_lb33.2)
    refine ⟨_, fun _ h => h, ⟨(Eq.trans hb4 o36.symm), (by first | assumption | exact ht_lb17.2), (by first | assumption | exact ht_lb23.2), (by first | assumption | exact ht_lb28.2), (by first | assumption | exact ht_lb33.2), trivial⟩, ?_⟩
    refine sq_q rfl (fun W hT => r_not rfl) <| sq_q rfl (fun W hT => r_pick (b := false) (v := .bool _) rfl rfl) ?_
    clear o36
    refine sq_nil <| then_n <| x_cond rfl (fun h1 => ?_) (fun h1 => ?_)
    ·try simp only [nm, ne_eq] at h1
     refine sr rfl <| aB rfl <| en <| x_ret <| then_r <| block_r <| then_r <| then_r <| block_r <| then_r <| ret_tmp (v := .bool _) rfl rfl ?_
     first | exact ⟨no_post, hc, HC⟩ | (rw [List.take_of_length_le (by omega)] at hkp; exact ⟨⟨_, rfl, fun _ => hkp⟩, hc, HC⟩)
    ·try simp only [nm, ne_eq] at h1
     obtain ⟨hq0, hq1⟩ := inV_in (by assumption : inV Z q.2 = true)
     obtain ⟨xq, hxq, hioq⟩ := ino_some hq0 hq1
     refine x_skip <| then_n <| x_seq ?_
     obtain ⟨lb96, _, vs95, hA92, hR94, hC93⟩ := hk3_10.at (i := i) (x := q) (hq)
     obtain rfl : vs95 = [S q.1, .int .i64 q.2] := hR94
     obtain ⟨lb101, _, vs100, hA97, hR99, hC98⟩ := hT.at (i := (q.2.toNat)) (x := xq) (hxq)
     obtain ⟨K102, cK102, rfl, hk1_102, hk2_102, hk3_102⟩ := hR99
     refine x_draw [(0, 0), (1, 0), (2, 0), (3, 0), (4, 0), (5, 0), (6, 0), (7, 0), (8, 0), (9, 1), (10, 2)] T.mixed rfl rfl rfl (fun W => W.heap[b3]? = w90.heap[b3]? ∧ W.heap[lb96]? = w90.heap[lb96]? ∧ W.heap[lb101]? = w90.heap[lb101]? ∧ True) ⟨rfl, rfl, rfl, trivial⟩ ?_
     have o105 := hb4
     have c104 := Chg.drew w90
     generalize World.drew w90 = w103 at c104 ⊢
     have ht_lb96 : lb96 < w103.heap.size ∧ w103.heap[lb96]? = w90.heap[lb96]? := ⟨Nat.lt_of_lt_of_le hC93.lt c104.size, c104.block lb96 hC93.lt (by simp)⟩
     have ht_lb101 : lb101 < w103.heap.size ∧ w103.heap[lb101]? = w90.heap[lb101]? := ⟨Nat.lt_of_lt_of_le hC98.lt c104.size, c104.block lb101 hC98.lt (by simp)⟩
     replace HC := HC.then c104
     replace hT := hT.tr0 c104
     replace hc := hc.tr0 c104
     replace hb4 := hb4.tr0 c104
     replace hk3_10 := hk3_10.tr0 c104
     refine sq_q rfl (fun W hT => r_fieldAddr T.fld24_0 rfl) <| sq_q rfl (fun W hT => r_load1 (v := .slice _ _ _) T.one22 rfl (Blk.cell (show Blk W b3 _ _ from hT.1.trans o105) rfl)) <| sq_q rfl (fun W hT => r_move (v := .slice _ _ _) rfl) <| sq_q rfl (fun W hT => r_move (v := .int _ _) rfl) <| sq_q rfl (fun W hT => r_indexAddr T.u34 T.size38 (congrArg (fun z => Value.slice z _ _) hA92) rfl (by omega) (by omega)) <| sq_q rfl (fun W hT => r_fieldAddr T.fld38_1 rfl) <| sq_q rfl (fun W hT => r_load1 (v := .int _ _) T.one3 rfl (Cells.at (j := 1) (Cells.tr hC93 hT.2.1) rfl)) <| sq_q rfl (fun W hT => r_indexAddr T.u22 T.size36 (congrArg (fun z => Value.slice z _ _) hA97) rfl (by omega) (by omega)) <| sq_q rfl (fun W hT => r_loadA (vs := [_, _, _, _, _, _]) T.agg36 rfl (Cells.tr hC98 hT.2.2.1) rfl) <| sq_alloc1 rfl T.zero36 ?_
     intro b9 w106 e107 c108 hb109
     have ge_b9 := gB e107 HC.size
     have ne_b3_b9 := nF e107 hb4.ne_size
     have nh_lb96_b9 : lb96 ≠ b9 := by have h1 := ht_lb96.1; have h2 := e107; omega
     have nh_lb101_b9 : lb101 ≠ b9 := by have h1 := ht_lb101.1; have h2 := e107; omega
     replace HC := HC.then c108
     replace hT := hT.tr0 c108
     replace hc := hc.tr0 c108
     replace hb4 := hb4.tr0 c108
     replace hk3_10 := hk3_10.tr0 c108
     replace ht_lb96 := And.intro (Nat.lt_of_lt_of_le ht_lb96.1 c108.size) ((c108.block lb96 ht_lb96.1 (by simp)).trans ht_lb96.2)
     replace ht_lb101 := And.intro (Nat.lt_of_lt_of_le ht_lb101.1 c108.size) ((c108.block lb101 ht_lb101.1 (by simp)).trans ht_lb101.2)
     clear e107
     refine ext_T (b := b9) ⟨(Eq.trans hb4 o105.symm), (by first | assumption | exact ht_lb96.2), (by first | assumption | exact ht_lb101.2), trivial⟩ ?_
     have o110 := hb109
     refine sq_store2 rfl T.size36 (v := .agg ⟨[.int _ _, .int _ _, .int _ _, S _, .slice _ _ _, .int _ _]⟩) rfl rfl rfl hb109 rfl (Nat.le_of_ble_eq_true rfl) q5 rfl ?_
     intro w111 c112 hb113; simp only [setVs, setV] at hb113
     clear hb109
     replace HC := HC.then1 c112 ge_b9
     replace hT := hT.tr c112 (by intro k hx hD; simp only [List.mem_cons, List.mem_nil_iff, or_false] at hx; have hD2 : k < m := hD; omega)
     replace hc := hc.tr c112 q1
     replace hb4 := hb4.tr1 c112 ne_b3_b9
     replace hk3_10 := hk3_10.tr c112 (by intro k hx hD; simp only [List.mem_cons, List.mem_nil_iff, or_false] at hx; have hD2 : k < m := hD; omega)
     replace ht_lb96 := And.intro (Nat.lt_of_lt_of_le ht_lb96.1 c112.size) ((c112.block lb96 ht_lb96.1 (by simpa using nh_lb96_b9)).trans ht_lb96.2)
     replace ht_lb101 := And.intro (Nat.lt_of_lt_of_le ht_lb101.1 c112.size) ((c112.block lb101 ht_lb101.1 (by simpa using nh_lb101_b9)).trans ht_lb101.2)
     clear o105
     clear o110
     refine sq_nil <| then_n <| x_seq <| sr rfl <| fa T.fld36_0 rfl <| lI T.one3 rfl (hb113.cell rfl) <| Wp rfl <| st_eql rfl rfl <| mB rfl <| w_split (d := 69) rfl (fun g114 => ?_) (fun g114 => ?_)
     ·try simp only [nm, ne_eq] at g114
      iterate 4 refine w_no 3 69 false ?_
      iterate 7 refine w_no 7 73 true ?_
      iterate 4 refine w_no 14 80 false ?_
      refine w_no 7 73 true <| w_no 3 69 false <| pT rfl rfl <| en <| x_cond (t := true) rfl (fun h2 => ?_) (fun h2 => ?_)
      rotate_left
      · exact absurd h2 (by decide)
      refine sr rfl <| aB rfl <| en <| x_ret <| then_r <| block_r <| then_r <| then_r <| block_r <| then_r <| ret_tmp (v := .bool _) rfl rfl ?_
      first | exact ⟨no_post, hc, HC⟩ | (rw [List.take_of_length_le (by omega)] at hkp; exact ⟨⟨_, rfl, fun _ => hkp⟩, hc, HC⟩)
     ·try simp only [nm, ne_eq] at g114
      refine w_yes 3 69 false <| st_fieldAddr T.fld36_0 rfl <| w_yes 3 69 false <| st_load1 (v := .int _ _) T.one3 rfl (hb113.cell rfl) <| w_yes 3 69 false <| st_eql rfl rfl <| w_yes 3 69 false <| st_move (v := .bool _) rfl <| w_split (d := 73) rfl (fun g115 => ?_) (fun g115 => ?_)
      ·try simp only [nm, ne_eq] at g115
       refine w_yes 7 73 true <| st_move (v := .slice _ _ _) rfl <| w_yes 7 73 true <| st_move (v := .int _ _) rfl ?_
       obtain ⟨lb120, _, vs119, hA116, hR118, hC117⟩ := hk3_10.at (i := i) (x := q) (hq)
       obtain rfl : vs119 = [S q.1, .int .i64 q.2] := hR118
       refine w_yes 7 73 true <| st_indexAddr T.u34 T.size38 (congrArg (fun z => Value.slice z _ _) hA116) rfl (by omega) (by omega) <| w_yes 7 73 true <| st_fieldAddr T.fld38_1 rfl <| w_yes 7 73 true <| st_load1 (v := .int _ _) T.one3 rfl (hC117.at (j := 1) rfl) <| w_yes 7 73 true <| st_eql rfl rfl <| w_yes 7 73 true <| st_move (v := .bool _) rfl <| w_split (d := 80) rfl (fun g121 => ?_) (fun g121 => ?_)
       ·try simp only [nm, ne_eq] at g121
        iterate 4 refine w_no 14 80 false ?_
        refine w_yes 7 73 true <| st_pick (b := true) (v := .bool _) rfl rfl <| w_yes 3 69 false <| st_pick (b := true) (v := .bool _) rfl rfl <| pF rfl rfl <| en <| x_cond (t := true) rfl (fun h2 => ?_) (fun h2 => ?_)
        rotate_left
        · exact absurd h2 (by decide)
        refine sr rfl <| aB rfl <| en <| x_ret <| then_r <| block_r <| then_r <| then_r <| block_r <| then_r <| ret_tmp (v := .bool _) rfl rfl ?_
        first | exact ⟨no_post, hc, HC⟩ | (rw [List.take_of_length_le (by omega)] at hkp; exact ⟨⟨_, rfl, fun _ => hkp⟩, hc, HC⟩)
       ·try simp only [nm, ne_eq] at g121
        refine w_yes 14 80 false <| st_fieldAddr T.fld36_5 rfl <| w_yes 14 80 false <| st_load1 (v := .int _ _) T.one3 rfl (hb113.cell rfl) <| w_yes 14 80 false <| st_move (v := .int _ _) rfl <| w_yes 14 80 false <| st_neq rfl rfl <| w_yes 7 73 true <| st_pick (b := false) (v := .bool _) rfl rfl <| w_yes 3 69 false <| st_pick (b := true) (v := .bool _) rfl rfl <| pF rfl rfl <| en <| x_cond rfl (fun h2 => ?_) (fun h2 => ?_)
        ·try simp only [nm, ne_eq] at h2
         refine sr rfl <| aB rfl <| en <| x_ret <| then_r <| block_r <| then_r <| then_r <| block_r <| then_r <| ret_tmp (v := .bool _) rfl rfl ?_
         first | exact ⟨no_post, hc, HC⟩ | (rw [List.take_of_length_le (by omega)] at hkp; exact ⟨⟨_, rfl, fun _ => hkp⟩, hc, HC⟩)
        ·try simp only [nm, ne_eq] at h2
         have hqk : kindV Z q.2 ≠ 0 := by unfold kindV; rw [hioq]; assumption
         refine x_skip <| then_n ?_
         obtain ⟨vc, hvc⟩ := hc.at (i := q.2.toNat) (by omega)
         refine x_region rfl <| mL rfl <| mL rfl <| mI rfl ?_
         obtain ⟨lb126, _, vs125, hA122, hR124, hC123⟩ := hk3_10.at (i := i) (x := q) (hq)
         obtain rfl : vs125 = [S q.1, .int .i64 q.2] := hR124
         refine Wp rfl <| st_indexAddr T.u34 T.size38 (congrArg (fun z => Value.slice z _ _) hA122) rfl (by omega) (by omega) <| fa T.fld38_1 rfl <| lI T.one3 rfl (hC123.at (j := 1) rfl) <| Wp rfl <| st_indexAddr T.u66 T.size3 rfl rfl (by omega) (by omega) <| lI T.one3 rfl hvc <| Wp rfl <| st_add rfl rfl <| Wp rfl <| st_indexAddr T.u66 T.size3 rfl rfl (by omega) (by omega) ?_
         obtain ⟨cs, hcl, hcb⟩ := hc
         refine Wp rfl <| st_store (vs := [.int .i64 _]) T.size3 rfl rfl rfl hcb rfl (by simp only [List.length_map, List.length_cons, List.length_nil]; omega) (by simp [Value.oneCell']) setVs_map1 ?_
         intro w127 c128 hb129
         replace HC := HC.trans c128 q4
         replace hT := hT.tr c128 (by intro k hx hD; simp only [List.mem_cons, List.mem_nil_iff, or_false] at hx; have hD2 : k < m := hD; omega)
         replace hb4 := hb4.tr1 c128 q0
         replace hk3_10 := hk3_10.tr c128 (by intro k hx hD; simp only [List.mem_cons, List.mem_nil_iff, or_false] at hx; have hD2 : k < m := hD; omega)
         have hc2 : CntAt w127 bc Z.length := ⟨_, by rw [List.length_set]; exact hcl, hb129⟩
         refine wops_nil <| block_n <| then_n <| x_region rfl <| mI rfl <| Wp rfl <| st_addn rfl rfl (by constructor <;> omega) <| aI rfl <| en <| ⟨i + 1, ?_, ?_, rfl, ⟨rfl, trivial⟩, ?_⟩
         ·refine ⟨?_, HC, hT, hc2, hb4, hk3_10⟩
          exact ⟨by omega, kidsP_step hkp hq (by first | (left; omega) | exact .inr ⟨q2, by rw [show i - 1 = ((i : Int) - 1).toNat by omega]; assumption, by assumption⟩) ⟨hq0, hq1⟩ hqk (hbn (by first | assumption | simp_all))⟩
         ·show x.kids.length - (i + 1) < x.kids.length - i; omega
         exact q9
      ·try simp only [nm, ne_eq] at g115
       iterate 7 refine w_no 7 73 true ?_
       iterate 4 refine w_no 14 80 false ?_
       refine w_no 7 73 true <| w_yes 3 69 false <| st_pick (b := false) (v := .bool _) rfl rfl <| pF rfl rfl <| en <| x_cond (t := false) rfl (fun h2 => ?_) (fun h2 => ?_)
       · exact absurd h2 (by decide)
       have hqk : kindV Z q.2 ≠ 0 := by unfold kindV; rw [hioq]; assumption
       refine x_skip <| then_n ?_
       obtain ⟨vc, hvc⟩ := hc.at (i := q.2.toNat) (by omega)
       refine x_region rfl <| mL rfl <| mL rfl <| mI rfl ?_
       obtain ⟨lb134, _, vs133, hA130, hR132, hC131⟩ := hk3_10.at (i := i) (x := q) (hq)
       obtain rfl : vs133 = [S q.1, .int .i64 q.2] := hR132
       refine Wp rfl <| st_indexAddr T.u34 T.size38 (congrArg (fun z => Value.slice z _ _) hA130) rfl (by omega) (by omega) <| fa T.fld38_1 rfl <| lI T.one3 rfl (hC131.at (j := 1) rfl) <| Wp rfl <| st_indexAddr T.u66 T.size3 rfl rfl (by omega) (by omega) <| lI T.one3 rfl hvc <| Wp rfl <| st_add rfl rfl <| Wp rfl <| st_indexAddr T.u66 T.size3 rfl rfl (by omega) (by omega) ?_
       obtain ⟨cs, hcl, hcb⟩ := hc
       refine Wp rfl <| st_store (vs := [.int .i64 _]) T.size3 rfl rfl rfl hcb rfl (by simp only [List.length_map, List.length_cons, List.length_nil]; omega) (by simp [Value.oneCell']) setVs_map1 ?_
       intro w135 c136 hb137
       replace HC := HC.trans c136 q4
       replace hT := hT.tr c136 (by intro k hx hD; simp only [List.mem_cons, List.mem_nil_iff, or_false] at hx; have hD2 : k < m := hD; omega)
       replace hb4 := hb4.tr1 c136 q0
       replace hk3_10 := hk3_10.tr c136 (by intro k hx hD; simp only [List.mem_cons, List.mem_nil_iff, or_false] at hx; have hD2 : k < m := hD; omega)
       have hc2 : CntAt w135 bc Z.length := ⟨_, by rw [List.length_set]; exact hcl, hb137⟩
       refine wops_nil <| block_n <| then_n <| x_region rfl <| mI rfl <| Wp rfl <| st_addn rfl rfl (by constructor <;> omega) <| aI rfl <| en <| ⟨i + 1, ?_, ?_, rfl, ⟨rfl, trivial⟩, ?_⟩
       ·refine ⟨?_, HC, hT, hc2, hb4, hk3_10⟩
        exact ⟨by omega, kidsP_step hkp hq (by first | (left; omega) | exact .inr ⟨q2, by rw [show i - 1 = ((i : Int) - 1).toNat by omega]; assumption, by assumption⟩) ⟨hq0, hq1⟩ hqk (hbn (by first | assumption | simp_all))⟩
       ·show x.kids.length - (i + 1) < x.kids.length - i; omega
       exact q9
 ·try simp only [nm, ne_eq] at h0
  refine x_exit <| then_x <| then_x <| block_x <| then_n <| sr rfl <| aB rfl <| en <| x_ret <| ret_tmp (v := .bool _) rfl rfl ?_
  first | exact ⟨no_post, hc, HC⟩ | (rw [List.take_of_length_le (by omega)] at hkp; exact ⟨⟨_, rfl, fun _ => hkp⟩, hc, HC⟩)
theorem rooted_spec {Z : Tre} {An : Option Addr} {capn : Nat} {mx my : Int} {D : Nat → Prop} {w : World} (hT : Sl inE w D An Z) (hTl : Z.length ≤ 1000000000) (k : Int) (hk0 : 0 ≤ k) (hk1 : k < Z.length) : CallR Tryz.prog 33 #[.agg ⟨[.slice An Z.length capn, .int .i64 mx, .int .i64 my]⟩, .int .i64 k] w fun v w' => (∃ b, v = .bool b ∧ (b = true → k = 0 ∨ dirV Z (upV Z k) = true)) ∧ Chg [] w w' := by
 replace hT := hT.mono (D' := fun k => k < w.heap.size) (fun k hk _ => hk)
 refine callR_of_wp (args := [_, _]) Tryz.func33 rfl (Nat.le_of_ble_eq_true rfl) ?_
 have HC : Chg [] w w := .refl _
 refine sr rfl <| Wp rfl <| st_box (v := .agg ⟨[.slice _ _ _, .int _ _, .int _ _]⟩) (vs := [_, _, _]) rfl rfl ?_
 intro b2 w1 e2 c3 hb4
 have ge_b2 := gB e2 HC.size
 replace HC := HC.then c3
 replace hT := hT.tr0 c3
 clear e2
 refine aB rfl <| en <| x_seq <| sr rfl <| aI rfl <| en <| x_block <| x_loop (ι := Nat × Int) [1, 4, 5, 6, 7, 8, 9, 10, 11, 12, 13, 14, 15, 16, 17, 18, 19, 20, 21, 22, 23, 24, 25, 26, 27, 28, 29, 30, 31, 32, 33] (fun ⟨i, j⟩ => [(1, .int .i64 j), (5, .int .i64 (i : Int))]) (fun ⟨i, j⟩ W => (i ≤ Z.length + 1 ∧ 0 ≤ j ∧ j < Z.length ∧ (i = 0 → j = k) ∧ (0 < i → k = 0 ∨ dirV Z (upV Z k) = true)) ∧ (Chg [] w W) ∧ (Sl inE W (fun k => k < w.heap.size) An Z) ∧ (Blk W b2 [.slice An Z.length capn, .int .i64 mx, .int .i64 my] 24)) (fun ⟨i, j⟩ => Z.length + 2 - i) (0, k) ?_ ?_ ?_
 · exact ⟨rfl, rfl, trivial⟩
 ·refine ⟨?_, HC, hT, hb4⟩
  exact ⟨Nat.zero_le _, hk0, hk1, fun _ => rfl, fun h => absurd h (Nat.lt_irrefl _)⟩
 intro ⟨i, j⟩ G6 w5 ⟨⟨hi, hj0, hj1, hjk, hjr⟩, HC, hT, hb4⟩
 change wp _ _ _ _ _ (upds (over _ _ G6) [(1, .int .i64 j), (5, .int .i64 (i : Int))]) _ _
 refine x_seq <| sr rfl <| mI rfl <| fa T.fld24_0 rfl <| lL T.one22 rfl (hb4.cell rfl) <| Wp rfl <| st_len (ct := #[22]) (by rw [show ((#[22] : Array TypeId)[0]?).bind Tryz.prog.underlying = some (.slice 36) from T.u22]; rfl) rfl <| Wp rfl <| st_leq rfl rfl <| en <| x_cond rfl (fun h0 => ?_) (fun h0 => ?_)
 ·try simp only [nm, ne_eq] at h0
  refine x_skip <| then_n <| x_seq <| x_block <| x_seq <| sr rfl <| mI rfl <| Wp rfl <| st_eql rfl rfl <| en <| x_cond rfl (fun h1 => ?_) (fun h1 => ?_)
  ·try simp only [nm, ne_eq] at h1
   refine sr rfl <| aB rfl <| en <| x_ret <| then_r <| block_r <| then_r <| then_r <| block_r <| then_r <| ret_tmp (v := .bool _) rfl rfl ?_
   first | exact ⟨no_post, HC⟩ | exact ⟨bool_post fun _ => by rcases Nat.eq_zero_or_pos i with e | e; (left; rw [← hjk e]; assumption); exact hjr e, HC⟩
  ·try simp only [nm, ne_eq] at h1
   refine x_skip <| then_n <| x_seq ?_
   obtain ⟨y, hy, hyk, _, hyu, _⟩ := kind_dir ⟨hj0, hj1⟩
   refine x_region rfl <| fa T.fld24_0 rfl <| lL T.one22 rfl (hb4.cell rfl) <| mI rfl ?_
   obtain ⟨lb11, _, vs10, hA7, hR9, hC8⟩ := hT.at (i := (j.toNat)) (x := y) (hy)
   obtain ⟨K12, cK12, rfl, hk1_12, hk2_12, hk3_12⟩ := hR9
   refine Wp rfl <| st_indexAddr T.u22 T.size36 (congrArg (fun z => Value.slice z _ _) hA7) rfl (by omega) (by omega) <| fa T.fld36_5 rfl <| lI T.one3 rfl (hC8.at (j := 5) rfl) <| aI rfl <| en <| sr rfl <| Wp rfl <| st_loadA (vs := [_, _, _]) T.agg24 rfl (hb4.cells (n := 3) (vs := [_, _, _]) rfl) rfl <| mI rfl <| Wp rfl <| st_call (ags := [_, _]) rfl rfl T.ent29 rfl (rthere_spec hT hTl _) ?_
   rintro _ w13 ⟨rfl, c14⟩
   replace HC := HC.then c14
   replace hT := hT.tr0 c14
   replace hb4 := hb4.tr0 c14
   refine Wp rfl <| st_not rfl <| mB rfl <| w_split (d := 25) rfl (fun g15 => ?_) (fun g15 => ?_)
   ·try simp only [nm, ne_eq] at g15
    iterate 7 refine w_no 4 25 false ?_
    refine pT rfl rfl <| en <| x_cond (t := true) rfl (fun h2 => ?_) (fun h2 => ?_)
    rotate_left
    · exact absurd h2 (by decide)
    refine sr rfl <| aB rfl <| en <| x_ret <| block_r <| then_r <| then_r <| block_r <| then_r <| ret_tmp (v := .bool _) rfl rfl ?_
    first | exact ⟨no_post, HC⟩ | exact ⟨bool_post fun _ => by rcases Nat.eq_zero_or_pos i with e | e; (left; rw [← hjk e]; assumption); exact hjr e, HC⟩
   ·try simp only [nm, ne_eq] at g15
    obtain ⟨hu0, hu1⟩ := inV_in (by assumption : inV Z y.up = true)
    obtain ⟨y2, hy2, hy2k, _⟩ := kind_dir ⟨hu0, hu1⟩
    refine w_yes 4 25 false <| st_fieldAddr T.fld24_0 rfl <| w_yes 4 25 false <| st_load1 (v := .slice _ _ _) T.one22 rfl (hb4.cell rfl) <| w_yes 4 25 false <| st_move (v := .int _ _) rfl ?_
    obtain ⟨lb20, _, vs19, hA16, hR18, hC17⟩ := hT.at (i := (y.up.toNat)) (x := y2) (hy2)
    obtain ⟨K21, cK21, rfl, hk1_21, hk2_21, hk3_21⟩ := hR18
    refine w_yes 4 25 false <| st_indexAddr T.u22 T.size36 (congrArg (fun z => Value.slice z _ _) hA16) rfl (by omega) (by omega) <| w_yes 4 25 false <| st_fieldAddr T.fld36_0 rfl <| w_yes 4 25 false <| st_load1 (v := .int _ _) T.one3 rfl (hC17.at (j := 0) rfl) <| w_yes 4 25 false <| st_neq rfl rfl <| pF rfl rfl <| en <| x_cond rfl (fun h2 => ?_) (fun h2 => ?_)
    ·try simp only [nm, ne_eq] at h2
     refine sr rfl <| aB rfl <| en <| x_ret <| block_r <| then_r <| then_r <| block_r <| then_r <| ret_tmp (v := .bool _) rfl rfl ?_
     first | exact ⟨no_post, HC⟩ | exact ⟨bool_post fun _ => by rcases Nat.eq_zero_or_pos i with e | e; (left; rw [← hjk e]; assumption); exact hjr e, HC⟩
    ·try simp only [nm, ne_eq] at h2
     refine x_skip <| block_n <| then_n <| x_region rfl <| mI rfl <| Wp rfl <| st_addn rfl rfl (by constructor <;> omega) <| aI rfl <| en <| ⟨(i + 1, y.up), ?_, ?_, rfl, ⟨rfl, rfl, trivial⟩, ?_⟩
     ·refine ⟨?_, HC, hT, hb4⟩
      exact ⟨by omega, hu0, hu1, fun h => by omega, fun _ => by rcases Nat.eq_zero_or_pos i with e | e; (right; rw [← hjk e, hyu]; unfold dirV; rw [hy2k]; first | exact decide_eq_true (by assumption) | (simp; assumption)); exact hjr e⟩
     ·show Z.length + 2 - (i + 1) < Z.length + 2 - i; omega
     exact q9
 ·try simp only [nm, ne_eq] at h0
  refine x_exit <| then_x <| then_x <| block_x <| then_n <| sr rfl <| aB rfl <| en <| x_ret <| ret_tmp (v := .bool _) rfl rfl ?_
  first | exact ⟨no_post, HC⟩ | exact ⟨bool_post fun _ => by rcases Nat.eq_zero_or_pos i with e | e; (left; rw [← hjk e]; assumption); exact hjr e, HC⟩
theorem Fit_spec {Z : Tre} {An : Option Addr} {capn : Nat} {mx my : Int} {D : Nat → Prop} {w : World} (hT : Sl inE w D An Z) (hTl : Z.length ≤ 9223372036854775807) (hD : ∀ x, x ∈ Z → x.data.length ≤ 140737488351232 ∧ ∀ p, p ∈ x.kids → p.1.length ≤ 140737488351232) : CallR Tryz.prog 14 #[.agg ⟨[.slice An Z.length capn, .int .i64 mx, .int .i64 my]⟩] w fun v w' => (∃ b, v = .bool b ∧ (b = true → FitT Z ∧ NamesT Z)) ∧ Chg [] w w' := by
 replace hT := hT.mono (D' := fun k => k < w.heap.size) (fun k hk _ => hk)
 refine callR_of_wp (args := [_]) Tryz.func14 rfl (Nat.le_of_ble_eq_true rfl) ?_
 have HC : Chg [] w w := .refl _
 refine sr rfl <| Wp rfl <| st_box (v := .agg ⟨[.slice _ _ _, .int _ _, .int _ _]⟩) (vs := [_, _, _]) rfl rfl ?_
 intro b1 w1 e2 c3 hb4
 have ge_b1 := gB e2 HC.size
 replace HC := HC.then c3
 replace hT := hT.tr0 c3
 clear e2
 refine aB rfl <| en <| sr rfl <| fa T.fld24_0 rfl <| lL T.one22 rfl (hb4.cell rfl) <| Wp rfl <| st_len (ct := #[22]) (by rw [show ((#[22] : Array TypeId)[0]?).bind Tryz.prog.underlying = some (.slice 36) from T.u22]; rfl) rfl <| aI rfl <| en <| x_seq <| sr rfl <| mI rfl <| Wp rfl <| st_lss rfl rfl <| mB rfl <| w_split (d := 15) rfl (fun g5 => ?_) (fun g5 => ?_)
 ·try simp only [nm, ne_eq] at g5
  iterate 4 refine w_no 2 15 false ?_
  refine pT rfl rfl <| mB rfl ?_
  iterate 3 refine w_no 8 21 false ?_
  refine pT rfl rfl <| mB rfl ?_
  iterate 3 refine w_no 13 26 false ?_
  refine pT rfl rfl <| mB rfl ?_
  iterate 3 refine w_no 18 31 false ?_
  refine pT rfl rfl <| mB rfl ?_
  iterate 6 refine w_no 23 36 false ?_
  refine pT rfl rfl <| mB rfl ?_
  iterate 6 refine w_no 31 44 false ?_
  refine pT rfl rfl <| en <| x_cond (t := true) rfl (fun h0 => ?_) (fun h0 => ?_)
  rotate_left
  · exact absurd h0 (by decide)
  refine sr rfl <| aB rfl <| en <| x_ret <| then_r <| ret_tmp (v := .bool _) rfl rfl ?_
  first | exact ⟨no_post, HC⟩ | exact ⟨bool_post fun _ => ⟨fit_of hx0 hx0k hl1.2 (fun j x hj => hg j x (by omega)) (fun j x hj => hr j x (by omega)), names_of (fun j x hj => hg j x (by omega))⟩, HC⟩
 ·try simp only [nm, ne_eq] at g5
  refine w_yes 2 15 false <| st_move (v := .int _ _) rfl <| w_yes 2 15 false <| st_fieldAddr T.fld24_1 rfl <| w_yes 2 15 false <| st_load1 (v := .int _ _) T.one3 rfl (hb4.cell rfl) <| w_yes 2 15 false <| st_gtr rfl rfl <| pF rfl rfl <| mB rfl <| w_split (d := 21) rfl (fun g6 => ?_) (fun g6 => ?_)
  ·try simp only [nm, ne_eq] at g6
   iterate 3 refine w_no 8 21 false ?_
   refine pT rfl rfl <| mB rfl ?_
   iterate 3 refine w_no 13 26 false ?_
   refine pT rfl rfl <| mB rfl ?_
   iterate 3 refine w_no 18 31 false ?_
   refine pT rfl rfl <| mB rfl ?_
   iterate 6 refine w_no 23 36 false ?_
   refine pT rfl rfl <| mB rfl ?_
   iterate 6 refine w_no 31 44 false ?_
   refine pT rfl rfl <| en <| x_cond (t := true) rfl (fun h0 => ?_) (fun h0 => ?_)
   rotate_left
   · exact absurd h0 (by decide)
   refine sr rfl <| aB rfl <| en <| x_ret <| then_r <| ret_tmp (v := .bool _) rfl rfl ?_
   first | exact ⟨no_post, HC⟩ | exact ⟨bool_post fun _ => ⟨fit_of hx0 hx0k hl1.2 (fun j x hj => hg j x (by omega)) (fun j x hj => hr j x (by omega)), names_of (fun j x hj => hg j x (by omega))⟩, HC⟩
  ·try simp only [nm, ne_eq] at g6
   refine w_yes 8 21 false <| st_fieldAddr T.fld24_1 rfl <| w_yes 8 21 false <| st_load1 (v := .int _ _) T.one3 rfl (hb4.cell rfl) <| w_yes 8 21 false <| st_gtr rfl rfl <| pF rfl rfl <| mB rfl <| w_split (d := 26) rfl (fun g7 => ?_) (fun g7 => ?_)
   ·try simp only [nm, ne_eq] at g7
    iterate 3 refine w_no 13 26 false ?_
    refine pT rfl rfl <| mB rfl ?_
    iterate 3 refine w_no 18 31 false ?_
    refine pT rfl rfl <| mB rfl ?_
    iterate 6 refine w_no 23 36 false ?_
    refine pT rfl rfl <| mB rfl ?_
    iterate 6 refine w_no 31 44 false ?_
    refine pT rfl rfl <| en <| x_cond (t := true) rfl (fun h0 => ?_) (fun h0 => ?_)
    rotate_left
    · exact absurd h0 (by decide)
    refine sr rfl <| aB rfl <| en <| x_ret <| then_r <| ret_tmp (v := .bool _) rfl rfl ?_
    first | exact ⟨no_post, HC⟩ | exact ⟨bool_post fun _ => ⟨fit_of hx0 hx0k hl1.2 (fun j x hj => hg j x (by omega)) (fun j x hj => hr j x (by omega)), names_of (fun j x hj => hg j x (by omega))⟩, HC⟩
   ·try simp only [nm, ne_eq] at g7
    refine w_yes 13 26 false <| st_fieldAddr T.fld24_2 rfl <| w_yes 13 26 false <| st_load1 (v := .int _ _) T.one3 rfl (hb4.cell rfl) <| w_yes 13 26 false <| st_lss rfl rfl <| pF rfl rfl <| mB rfl <| w_split (d := 31) rfl (fun g8 => ?_) (fun g8 => ?_)
    ·try simp only [nm, ne_eq] at g8
     iterate 3 refine w_no 18 31 false ?_
     refine pT rfl rfl <| mB rfl ?_
     iterate 6 refine w_no 23 36 false ?_
     refine pT rfl rfl <| mB rfl ?_
     iterate 6 refine w_no 31 44 false ?_
     refine pT rfl rfl <| en <| x_cond (t := true) rfl (fun h0 => ?_) (fun h0 => ?_)
     rotate_left
     · exact absurd h0 (by decide)
     refine sr rfl <| aB rfl <| en <| x_ret <| then_r <| ret_tmp (v := .bool _) rfl rfl ?_
     first | exact ⟨no_post, HC⟩ | exact ⟨bool_post fun _ => ⟨fit_of hx0 hx0k hl1.2 (fun j x hj => hg j x (by omega)) (fun j x hj => hr j x (by omega)), names_of (fun j x hj => hg j x (by omega))⟩, HC⟩
    ·try simp only [nm, ne_eq] at g8
     refine w_yes 18 31 false <| st_fieldAddr T.fld24_2 rfl <| w_yes 18 31 false <| st_load1 (v := .int _ _) T.one3 rfl (hb4.cell rfl) <| w_yes 18 31 false <| st_gtr rfl rfl <| pF rfl rfl <| mB rfl <| w_split (d := 36) rfl (fun g9 => ?_) (fun g9 => ?_)
     ·try simp only [nm, ne_eq] at g9
      iterate 6 refine w_no 23 36 false ?_
      refine pT rfl rfl <| mB rfl ?_
      iterate 6 refine w_no 31 44 false ?_
      refine pT rfl rfl <| en <| x_cond (t := true) rfl (fun h0 => ?_) (fun h0 => ?_)
      rotate_left
      · exact absurd h0 (by decide)
      refine sr rfl <| aB rfl <| en <| x_ret <| then_r <| ret_tmp (v := .bool _) rfl rfl ?_
      first | exact ⟨no_post, HC⟩ | exact ⟨bool_post fun _ => ⟨fit_of hx0 hx0k hl1.2 (fun j x hj => hg j x (by omega)) (fun j x hj => hr j x (by omega)), names_of (fun j x hj => hg j x (by omega))⟩, HC⟩
     ·try simp only [nm, ne_eq] at g9
      obtain ⟨x0, hx0⟩ : ∃ x, Z[0]? = some x := ⟨_, List.getElem?_eq_getElem (by omega)⟩
      refine w_yes 23 36 false <| st_fieldAddr T.fld24_0 rfl <| w_yes 23 36 false <| st_load1 (v := .slice _ _ _) T.one22 rfl (hb4.cell rfl) ?_
      obtain ⟨lb14, _, vs13, hA10, hR12, hC11⟩ := hT.at (i := 0) (x := x0) (hx0)
      obtain ⟨K15, cK15, rfl, hk1_15, hk2_15, hk3_15⟩ := hR12
      refine w_yes 23 36 false <| st_indexAddr T.u22 T.size36 (congrArg (fun z => Value.slice z _ _) hA10) rfl (by omega) (by omega) <| w_yes 23 36 false <| st_fieldAddr T.fld36_0 rfl <| w_yes 23 36 false <| st_load1 (v := .int _ _) T.one3 rfl (hC11.at (j := 0) rfl) <| w_yes 23 36 false <| st_neq rfl rfl <| pF rfl rfl <| mB rfl <| w_split (d := 44) rfl (fun g16 => ?_) (fun g16 => ?_)
      ·try simp only [nm, ne_eq] at g16
       iterate 6 refine w_no 31 44 false ?_
       refine pT rfl rfl <| en <| x_cond (t := true) rfl (fun h0 => ?_) (fun h0 => ?_)
       rotate_left
       · exact absurd h0 (by decide)
       refine sr rfl <| aB rfl <| en <| x_ret <| then_r <| ret_tmp (v := .bool _) rfl rfl ?_
       first | exact ⟨no_post, HC⟩ | exact ⟨bool_post fun _ => ⟨fit_of hx0 hx0k hl1.2 (fun j x hj => hg j x (by omega)) (fun j x hj => hr j x (by omega)), names_of (fun j x hj => hg j x (by omega))⟩, HC⟩
      ·try simp only [nm, ne_eq] at g16
       refine w_yes 31 44 false <| st_fieldAddr T.fld24_0 rfl <| w_yes 31 44 false <| st_load1 (v := .slice _ _ _) T.one22 rfl (hb4.cell rfl) ?_
       obtain ⟨lb21, _, vs20, hA17, hR19, hC18⟩ := hT.at (i := 0) (x := x0) (hx0)
       obtain ⟨K22, cK22, rfl, hk1_22, hk2_22, hk3_22⟩ := hR19
       refine w_yes 31 44 false <| st_indexAddr T.u22 T.size36 (congrArg (fun z => Value.slice z _ _) hA17) rfl (by omega) (by omega) <| w_yes 31 44 false <| st_fieldAddr T.fld36_5 rfl <| w_yes 31 44 false <| st_load1 (v := .int _ _) T.one3 rfl (hC18.at (j := 5) rfl) <| w_yes 31 44 false <| st_neq rfl rfl <| pF rfl rfl <| en <| x_cond rfl (fun h0 => ?_) (fun h0 => ?_)
       ·try simp only [nm, ne_eq] at h0
        refine sr rfl <| aB rfl <| en <| x_ret <| then_r <| ret_tmp (v := .bool _) rfl rfl ?_
        first | exact ⟨no_post, HC⟩ | exact ⟨bool_post fun _ => ⟨fit_of hx0 hx0k hl1.2 (fun j x hj => hg j x (by omega)) (fun j x hj => hr j x (by omega)), names_of (fun j x hj => hg j x (by omega))⟩, HC⟩
       ·try simp only [nm, ne_eq] at h0
        have hx0k : x0.kind = 2 := by first | assumption | omega
        have hx0u : x0.up = 0 := by first | assumption | omega
        have hl1 : 1 ≤ Z.length ∧ Z.length ≤ 256 := by omega
        replace hTl : Z.length ≤ 1000000000 := by omega
        refine x_skip <| then_n <| sr rfl <| mI rfl <| Wp rfl <| st_makeN (m := Z.length) T.u66 T.zero3 T.mk3 (by omega) rfl rfl ?_
        intro bc w23 e24 c25 hb26
        have ge_bc := gB e24 HC.size
        have ne_b1_bc := nF e24 hb4.ne_size
        replace HC := HC.then c25
        replace hT := hT.tr0 c25
        replace hb4 := hb4.tr0 c25
        replace hk3_15 := hk3_15.tr0 c25
        replace hk3_22 := hk3_22.tr0 c25
        clear e24
        have hcA : CntAt w23 bc Z.length := ⟨List.replicate Z.length 0, by simp, by rw [← rep_map]; exact hb26⟩
        refine aL rfl <| en <| sr rfl <| aI rfl <| en <| x_seq <| sr rfl <| aI rfl <| en <| x_block <| x_loop (ι := Nat × Nat) [2, 5, 6, 7, 54, 55, 56, 57, 58, 59, 60, 61, 62, 63, 64, 65, 66, 67, 68, 69, 70, 71, 72, 73, 74, 75, 76, 77, 78, 79, 80, 81, 82, 83, 84, 85, 86, 87, 88, 89, 90, 91, 92, 93, 94, 95, 96, 97, 98, 99, 100] (fun ⟨i, s⟩ => [(5, .int .i64 (s : Int)), (6, .int .i64 (i : Int))]) (fun ⟨i, s⟩ W => (i ≤ Z.length ∧ s ≤ i * 65536 ∧ ∀ j x, j < i → Z[j]? = some x → GoodP Z x) ∧ (Chg [] w W) ∧ (Sl inE W (fun k => k < w.heap.size) An Z) ∧ (Blk W b1 [.slice An Z.length capn, .int .i64 mx, .int .i64 my] 24) ∧ (Sl keE W (fun k => k < w.heap.size) K15 x0.kids) ∧ (Sl keE W (fun k => k < w.heap.size) K22 x0.kids) ∧ (CntAt W bc Z.length)) (fun ⟨i, s⟩ => Z.length - i) (0, 0) ?_ ?_ ?_
        · exact ⟨rfl, rfl, trivial⟩
        ·refine ⟨?_, HC, hT, hb4, hk3_15, hk3_22, hcA⟩
         exact ⟨Nat.zero_le _, Nat.zero_le _, fun j x hj => absurd hj (Nat.not_lt_zero _)⟩
        intro ⟨i, s⟩ G28 w27 ⟨⟨hi, hs, hg⟩, HC, hT, hb4, hk3_15, hk3_22, hcA⟩
        change wp _ _ _ _ _ (upds (over _ _ G28) [(5, .int .i64 (s : Int)), (6, .int .i64 (i : Int))]) _ _
        refine x_seq <| sr rfl <| mI rfl <| mI rfl <| Wp rfl <| st_lss rfl rfl <| en <| x_cond rfl (fun h1 => ?_) (fun h1 => ?_)
        ·try simp only [nm, ne_eq] at h1
         refine x_skip <| then_n <| x_seq <| x_block <| x_seq ?_
         obtain ⟨x, hx⟩ : ∃ x, Z[i]? = some x := ⟨_, List.getElem?_eq_getElem (by omega)⟩
         have hxd := hD x (List.mem_of_getElem? hx)
         refine x_region rfl <| fa T.fld24_0 rfl <| lL T.one22 rfl (hb4.cell rfl) <| mI rfl ?_
         obtain ⟨lb33, _, vs32, hA29, hR31, hC30⟩ := hT.at (i := i) (x := x) (hx)
         obtain ⟨K34, cK34, rfl, hk1_34, hk2_34, hk3_34⟩ := hR31
         refine Wp rfl <| st_indexAddr T.u22 T.size36 (congrArg (fun z => Value.slice z _ _) hA29) rfl (by omega) (by omega) <| Wp rfl <| st_loadA (vs := [_, _, _, _, _, _]) T.agg36 rfl hC30 rfl <| Wp rfl <| st_alloc T.zero36 ?_
         intro b7 w35 e36 c37 hb38
         have ge_b7 := gB e36 HC.size
         have ne_b1_b7 := nF e36 hb4.ne_size
         have ne_bc_b7 : bc ≠ b7 := by have h1 := hcA.lt; have h2 := e36; omega
         replace HC := HC.then c37
         replace hT := hT.tr0 c37
         replace hb4 := hb4.tr0 c37
         replace hk3_15 := hk3_15.tr0 c37
         replace hk3_22 := hk3_22.tr0 c37
         replace hcA := hcA.tr0 c37
         clear e36
         refine Wp rfl <| st_st (v := .agg ⟨[_, _, _, _, _, _]⟩) T.size36 rfl rfl rfl hb38 ?_
         intro w39 c40 hb41; simp only [setVs, setV] at hb41
         clear hb38
         replace HC := HC.then1 c40 ge_b7
         replace hT := hT.tr c40 (by intro k hx hD; simp only [List.mem_cons, List.mem_nil_iff, or_false] at hx; have hD2 : k < w.heap.size := hD; omega)
         replace hb4 := hb4.tr1 c40 ne_b1_b7
         replace hk3_15 := hk3_15.tr c40 (by intro k hx hD; simp only [List.mem_cons, List.mem_nil_iff, or_false] at hx; have hD2 : k < w.heap.size := hD; omega)
         replace hk3_22 := hk3_22.tr c40 (by intro k hx hD; simp only [List.mem_cons, List.mem_nil_iff, or_false] at hx; have hD2 : k < w.heap.size := hD; omega)
         replace hcA := hcA.tr c40 q1
         refine en <| x_seq <| sr rfl <| Wp rfl <| st_loadA (vs := [_, _, _, _, _, _]) T.agg36 rfl (hb41.cells (n := 6) (vs := [_, _, _, _, _, _]) rfl) rfl <| Wp rfl <| st_call (ags := [_]) rfl rfl T.ent31 rfl (alone_spec x _ _ _ (by omega)) ?_
         rintro _ w42 ⟨⟨ba, rfl, hap⟩, c43⟩
         replace HC := HC.then c43
         replace hT := hT.tr0 c43
         replace hb4 := hb4.tr0 c43
         replace hk3_15 := hk3_15.tr0 c43
         replace hk3_22 := hk3_22.tr0 c43
         replace hcA := hcA.tr0 c43
         replace hb41 := hb41.tr0 c43
         refine Wp rfl <| st_not rfl <| mB rfl <| w_split (d := 67) rfl (fun g44 => ?_) (fun g44 => ?_)
         ·try simp only [nm, ne_eq] at g44
          iterate 4 refine w_no 3 67 false ?_
          refine pT rfl rfl <| en <| x_cond (t := true) rfl (fun h2 => ?_) (fun h2 => ?_)
          rotate_left
          · exact absurd h2 (by decide)
          refine sr rfl <| aB rfl <| en <| x_ret <| then_r <| block_r <| then_r <| then_r <| block_r <| then_r <| ret_tmp (v := .bool _) rfl rfl ?_
          first | exact ⟨no_post, HC⟩ | exact ⟨bool_post fun _ => ⟨fit_of hx0 hx0k hl1.2 (fun j x hj => hg j x (by omega)) (fun j x hj => hr j x (by omega)), names_of (fun j x hj => hg j x (by omega))⟩, HC⟩
         ·try simp only [nm, ne_eq] at g44
          refine w_yes 3 67 false <| st_fieldAddr T.fld36_3 rfl <| w_yes 3 67 false <| st_load1 (v := S _) T.one9 rfl (hb41.cell rfl) <| w_yes 3 67 false <| st_slen (ct := #[9]) T.u9 rfl <| w_yes 3 67 false <| st_gtr rfl rfl <| pF rfl rfl <| en <| x_cond rfl (fun h2 => ?_) (fun h2 => ?_)
          ·try simp only [nm, ne_eq] at h2
           refine sr rfl <| aB rfl <| en <| x_ret <| then_r <| block_r <| then_r <| then_r <| block_r <| then_r <| ret_tmp (v := .bool _) rfl rfl ?_
           first | exact ⟨no_post, HC⟩ | exact ⟨bool_post fun _ => ⟨fit_of hx0 hx0k hl1.2 (fun j x hj => hg j x (by omega)) (fun j x hj => hr j x (by omega)), names_of (fun j x hj => hg j x (by omega))⟩, HC⟩
          ·try simp only [nm, ne_eq] at h2
           refine x_skip <| then_n <| sr rfl <| mI rfl <| fa T.fld36_3 rfl <| lS T.one9 rfl (hb41.cell rfl) <| Wp rfl <| st_slen (ct := #[9]) T.u9 rfl <| Wp rfl <| st_addn rfl rfl (by constructor <;> omega) <| aI rfl <| en <| sr rfl <| fa T.fld36_0 rfl <| lI T.one3 rfl (hb41.cell rfl) <| Wp rfl <| st_eql rfl rfl <| mB rfl <| w_split (d := 81) rfl (fun g45 => ?_) (fun g45 => ?_)
           ·try simp only [nm, ne_eq] at g45
            refine w_yes 3 81 true <| st_loadA (vs := [_, _, _]) T.agg24 rfl (hb4.cells (n := 3) (vs := [_, _, _]) rfl) rfl <| w_yes 3 81 true <| st_fieldAddr T.fld36_5 rfl <| w_yes 3 81 true <| st_load1 (v := .int _ _) T.one3 rfl (hb41.cell rfl) <| w_yes 3 81 true <| st_call (ags := [_, _]) rfl rfl T.ent29 rfl (rthere_spec hT hTl _) ?_
            rintro _ w46 ⟨rfl, c47⟩
            replace HC := HC.then c47
            replace hT := hT.tr0 c47
            replace hb4 := hb4.tr0 c47
            replace hk3_15 := hk3_15.tr0 c47
            replace hk3_22 := hk3_22.tr0 c47
            replace hcA := hcA.tr0 c47
            replace hb41 := hb41.tr0 c47
            refine w_yes 3 81 true <| st_not rfl <| w_yes 3 81 true <| st_move (v := .bool _) rfl <| w_split (d := 87) rfl (fun g48 => ?_) (fun g48 => ?_)
            ·try simp only [nm, ne_eq] at g48
             iterate 4 refine w_no 9 87 false ?_
             refine w_yes 3 81 true <| st_pick (b := true) (v := .bool _) rfl rfl <| w_yes 3 81 true <| st_move (v := .bool _) rfl ?_
             iterate 5 refine w_no 15 93 false ?_
             refine w_yes 3 81 true <| st_pick (b := true) (v := .bool _) rfl rfl <| pT rfl rfl <| en <| x_cond (t := true) rfl (fun h3 => ?_) (fun h3 => ?_)
             rotate_left
             · exact absurd h3 (by decide)
             refine sr rfl <| aB rfl <| en <| x_ret <| block_r <| then_r <| then_r <| block_r <| then_r <| ret_tmp (v := .bool _) rfl rfl ?_
             first | exact ⟨no_post, HC⟩ | exact ⟨bool_post fun _ => ⟨fit_of hx0 hx0k hl1.2 (fun j x hj => hg j x (by omega)) (fun j x hj => hr j x (by omega)), names_of (fun j x hj => hg j x (by omega))⟩, HC⟩
            ·try simp only [nm, ne_eq] at g48
             refine w_yes 9 87 false <| st_fieldAddr T.fld36_4 rfl <| w_yes 9 87 false <| st_load1 (v := .slice _ _ _) T.one34 rfl (hb41.cell rfl) <| w_yes 9 87 false <| st_len (ct := #[34]) (by rw [show ((#[34] : Array TypeId)[0]?).bind Tryz.prog.underlying = some (.slice 38) from T.u34]; rfl) rfl <| w_yes 9 87 false <| st_gtr rfl rfl <| w_yes 3 81 true <| st_pick (b := false) (v := .bool _) rfl rfl <| w_yes 3 81 true <| st_move (v := .bool _) rfl <| w_split (d := 93) rfl (fun g49 => ?_) (fun g49 => ?_)
             ·try simp only [nm, ne_eq] at g49
              iterate 5 refine w_no 15 93 false ?_
              refine w_yes 3 81 true <| st_pick (b := true) (v := .bool _) rfl rfl <| pT rfl rfl <| en <| x_cond (t := true) rfl (fun h3 => ?_) (fun h3 => ?_)
              rotate_left
              · exact absurd h3 (by decide)
              refine sr rfl <| aB rfl <| en <| x_ret <| block_r <| then_r <| then_r <| block_r <| then_r <| ret_tmp (v := .bool _) rfl rfl ?_
              first | exact ⟨no_post, HC⟩ | exact ⟨bool_post fun _ => ⟨fit_of hx0 hx0k hl1.2 (fun j x hj => hg j x (by omega)) (fun j x hj => hr j x (by omega)), names_of (fun j x hj => hg j x (by omega))⟩, HC⟩
             ·try simp only [nm, ne_eq] at g49
              refine w_yes 15 93 false <| st_loadA (vs := [_, _, _]) T.agg24 rfl (hb4.cells (n := 3) (vs := [_, _, _]) rfl) rfl <| w_yes 15 93 false <| st_move (v := .int _ _) rfl <| w_yes 15 93 false <| st_move (v := .slice _ _ _) rfl <| w_yes 15 93 false <| st_call (ags := [_, _, _]) rfl rfl T.ent32 rfl (kids_spec (m := w.heap.size) HC.size hT hTl (i : Int) x hx (by omega) (by omega) (by omega) hxd.2 ge_bc hcA) ?_
              rintro _ w50 ⟨⟨bk, rfl, hkp⟩, hcn, c51⟩
              replace HC := HC.then1 c51 ge_bc
              replace hT := hT.tr c51 (by intro k hx hD; simp only [List.mem_cons, List.mem_nil_iff, or_false] at hx; have hD2 : k < w.heap.size := hD; omega)
              replace hb4 := hb4.tr1 c51 ne_b1_bc
              replace hk3_15 := hk3_15.tr c51 (by intro k hx hD; simp only [List.mem_cons, List.mem_nil_iff, or_false] at hx; have hD2 : k < w.heap.size := hD; omega)
              replace hk3_22 := hk3_22.tr c51 (by intro k hx hD; simp only [List.mem_cons, List.mem_nil_iff, or_false] at hx; have hD2 : k < w.heap.size := hD; omega)
              refine w_yes 15 93 false <| st_not rfl <| w_yes 3 81 true <| st_pick (b := false) (v := .bool _) rfl rfl <| pT rfl rfl <| en <| x_cond rfl (fun h3 => ?_) (fun h3 => ?_)
              ·try simp only [nm, ne_eq] at h3
               refine sr rfl <| aB rfl <| en <| x_ret <| block_r <| then_r <| then_r <| block_r <| then_r <| ret_tmp (v := .bool _) rfl rfl ?_
               first | exact ⟨no_post, HC⟩ | exact ⟨bool_post fun _ => ⟨fit_of hx0 hx0k hl1.2 (fun j x hj => hg j x (by omega)) (fun j x hj => hr j x (by omega)), names_of (fun j x hj => hg j x (by omega))⟩, HC⟩
              ·try simp only [nm, ne_eq] at h3
               refine x_skip <| block_n <| then_n <| x_region rfl <| mI rfl <| Wp rfl <| st_addn rfl rfl (by constructor <;> omega) <| aI rfl <| en <| ⟨(i + 1, s + x.data.length), ?_, ?_, rfl, ⟨congrArg (Value.int .i64) (by omega), rfl, trivial⟩, ?_⟩
               ·refine ⟨?_, HC, hT, hb4, hk3_15, hk3_22, hcn⟩
                refine ⟨by omega, by omega, fun j y hj hy => ?_⟩
                by_cases e : j = i
                · subst e; rw [hx] at hy; obtain rfl := Option.some.inj hy; exact ⟨hap (by assumption), by omega, fun h2 => by first | exact ⟨by omega, hkp (by assumption)⟩ | exact absurd h2 (by assumption)⟩
                · exact hg j y (by omega) hy
               ·show Z.length - (i + 1) < Z.length - i; omega
               exact q9
           ·try simp only [nm, ne_eq] at g45
            iterate 6 refine w_no 3 81 true ?_
            iterate 4 refine w_no 9 87 false ?_
            refine w_no 3 81 true <| w_no 3 81 true ?_
            iterate 5 refine w_no 15 93 false ?_
            refine w_no 3 81 true <| pF rfl rfl <| en <| x_cond (t := false) rfl (fun h3 => ?_) (fun h3 => ?_)
            · exact absurd h3 (by decide)
            refine x_skip <| block_n <| then_n <| x_region rfl <| mI rfl <| Wp rfl <| st_addn rfl rfl (by constructor <;> omega) <| aI rfl <| en <| ⟨(i + 1, s + x.data.length), ?_, ?_, rfl, ⟨congrArg (Value.int .i64) (by omega), rfl, trivial⟩, ?_⟩
            ·refine ⟨?_, HC, hT, hb4, hk3_15, hk3_22, hcA⟩
             refine ⟨by omega, by omega, fun j y hj hy => ?_⟩
             by_cases e : j = i
             · subst e; rw [hx] at hy; obtain rfl := Option.some.inj hy; exact ⟨hap (by assumption), by omega, fun h2 => by first | exact ⟨by omega, hkp (by assumption)⟩ | exact absurd h2 (by assumption)⟩
             · exact hg j y (by omega) hy
            ·show Z.length - (i + 1) < Z.length - i; omega
            exact q9
        ·try simp only [nm, ne_eq] at h1
         refine x_exit <| then_x <| then_x <| block_x <| then_n <| x_seq <| sr rfl <| aI rfl <| en <| x_block <| x_loop (ι := Nat) [2, 8, 9, 101, 102, 103, 104, 105, 106, 107, 108, 109, 110, 111, 112, 113, 114, 115, 116, 117, 118, 119, 120, 121, 122, 123, 124, 125, 126, 127, 128, 129, 130, 131, 132, 133, 134, 135, 136, 137, 138, 139, 140, 141, 142, 143, 144, 145, 146, 147, 148, 149, 150, 151, 152, 153, 154, 155] (fun i => [(8, .int .i64 (i : Int))]) (fun i W => (i ≤ Z.length ∧ ∀ j x, j < i → Z[j]? = some x → x.kind = 2 → dirV Z x.up = true) ∧ (Chg [] w W) ∧ (Sl inE W (fun k => k < w.heap.size) An Z) ∧ (Blk W b1 [.slice An Z.length capn, .int .i64 mx, .int .i64 my] 24) ∧ (Sl keE W (fun k => k < w.heap.size) K15 x0.kids) ∧ (Sl keE W (fun k => k < w.heap.size) K22 x0.kids) ∧ (CntAt W bc Z.length)) (fun i => Z.length - i) 0 ?_ ?_ ?_
         · exact ⟨rfl, trivial⟩
         ·refine ⟨?_, HC, hT, hb4, hk3_15, hk3_22, hcA⟩
          exact ⟨Nat.zero_le _, fun j x hj => absurd hj (Nat.not_lt_zero _)⟩
         intro i G53 w52 ⟨⟨hi2, hr⟩, HC, hT, hb4, hk3_15, hk3_22, hcA⟩
         change wp _ _ _ _ _ (upds (over _ _ G53) [(8, .int .i64 (i : Int))]) _ _
         refine x_seq <| sr rfl <| mI rfl <| mI rfl <| Wp rfl <| st_lss rfl rfl <| en <| x_cond rfl (fun h4 => ?_) (fun h4 => ?_)
         ·try simp only [nm, ne_eq] at h4
          refine x_skip <| then_n <| x_seq <| x_block <| x_seq ?_
          obtain ⟨x, hx⟩ : ∃ x, Z[i]? = some x := ⟨_, List.getElem?_eq_getElem (by omega)⟩
          refine x_region rfl <| fa T.fld24_0 rfl <| lL T.one22 rfl (hb4.cell rfl) <| mI rfl ?_
          obtain ⟨lb58, _, vs57, hA54, hR56, hC55⟩ := hT.at (i := i) (x := x) (hx)
          obtain ⟨K59, cK59, rfl, hk1_59, hk2_59, hk3_59⟩ := hR56
          refine Wp rfl <| st_indexAddr T.u22 T.size36 (congrArg (fun z => Value.slice z _ _) hA54) rfl (by omega) (by omega) <| Wp rfl <| st_loadA (vs := [_, _, _, _, _, _]) T.agg36 rfl hC55 rfl <| Wp rfl <| st_alloc T.zero36 ?_
          intro b9 w60 e61 c62 hb63
          have ge_b9 := gB e61 HC.size
          have ne_b1_b9 := nF e61 hb4.ne_size
          have ne_bc_b9 : bc ≠ b9 := by have h1 := hcA.lt; have h2 := e61; omega
          replace HC := HC.then c62
          replace hT := hT.tr0 c62
          replace hb4 := hb4.tr0 c62
          replace hk3_15 := hk3_15.tr0 c62
          replace hk3_22 := hk3_22.tr0 c62
          replace hcA := hcA.tr0 c62
          clear e61
          refine Wp rfl <| st_st (v := .agg ⟨[_, _, _, _, _, _]⟩) T.size36 rfl rfl rfl hb63 ?_
          intro w64 c65 hb66; simp only [setVs, setV] at hb66
          clear hb63
          replace HC := HC.then1 c65 ge_b9
          replace hT := hT.tr c65 (by intro k hx hD; simp only [List.mem_cons, List.mem_nil_iff, or_false] at hx; have hD2 : k < w.heap.size := hD; omega)
          replace hb4 := hb4.tr1 c65 ne_b1_b9
          replace hk3_15 := hk3_15.tr c65 (by intro k hx hD; simp only [List.mem_cons, List.mem_nil_iff, or_false] at hx; have hD2 : k < w.heap.size := hD; omega)
          replace hk3_22 := hk3_22.tr c65 (by intro k hx hD; simp only [List.mem_cons, List.mem_nil_iff, or_false] at hx; have hD2 : k < w.heap.size := hD; omega)
          replace hcA := hcA.tr c65 q1
          refine en <| x_seq ?_
          obtain ⟨vc, hvc⟩ := hcA.at (i := i) (by omega)
          have hcl0 := hcA.lt
          refine x_draw [(0, 0), (1, 0), (2, 0), (3, 0), (4, 0), (5, 0), (6, 0), (7, 0), (8, 0), (9, 0), (10, 0), (11, 0), (12, 0), (13, 0), (14, 0), (15, 0), (16, 0), (17, 0), (18, 0), (19, 0), (20, 0), (21, 0), (22, 0), (23, 0), (24, 0), (25, 0), (26, 0), (27, 0), (28, 0), (29, 0), (30, 1), (31, 0), (32, 0), (33, 0), (34, 0), (35, 0), (36, 0), (37, 0), (38, 0), (39, 0), (40, 0), (41, 0), (42, 0), (43, 0), (44, 0)] T.mixed rfl rfl rfl (fun W => W.heap[b1]? = w64.heap[b1]? ∧ W.heap[b9]? = w64.heap[b9]? ∧ W.heap[bc]? = w64.heap[bc]? ∧ True) ⟨rfl, rfl, rfl, trivial⟩ ?_
          have o69 := hb4
          have o70 := hb66
          have c68 := Chg.drew w64
          generalize World.drew w64 = w67 at c68 ⊢
          replace HC := HC.then c68
          replace hT := hT.tr0 c68
          replace hb4 := hb4.tr0 c68
          replace hk3_15 := hk3_15.tr0 c68
          replace hk3_22 := hk3_22.tr0 c68
          replace hcA := hcA.tr0 c68
          replace hb66 := hb66.tr0 c68
          have ht_bc : bc < w67.heap.size ∧ w67.heap[bc]? = w64.heap[bc]? := ⟨hcA.lt, c68.block bc hcl0 (by simp)⟩
          refine sq_q rfl (fun W hT => r_fieldAddr T.fld36_2 rfl) <| sq_q rfl (fun W hT => r_load1 (v := .int _ _) T.one3 rfl (Blk.cell (show Blk W b9 _ _ from hT.2.1.trans o70) rfl)) <| sq_q rfl (fun W hT => r_move (v := .slice _ _ _) rfl) <| sq_q rfl (fun W hT => r_move (v := .int _ _) rfl) <| sq_q rfl (fun W hT => r_indexAddr T.u66 T.size3 rfl rfl (by omega) (by omega)) <| sq_q rfl (fun W hT => r_load1 (v := .int _ _) T.one3 rfl (cell_heap hT.2.2.1 hvc)) <| sq_q rfl (fun W hT => r_neq rfl rfl) <| sq_q rfl (fun W hT => r_move (v := .bool _) rfl) <| sq_split (d := 118) rfl (fun g71 => ?_) (fun g71 => ?_)
          ·try simp only [nm, ne_eq] at g71
           refine sq_no rfl rfl <| sq_no rfl rfl <| sq_no rfl rfl <| sq_no rfl rfl <| sq_no rfl rfl <| sq_no rfl rfl <| sq_no rfl rfl <| sq_no rfl rfl <| sq_no rfl rfl <| sq_no rfl rfl <| sq_no rfl rfl <| sq_no rfl rfl <| sq_no rfl rfl <| sq_no rfl rfl <| sq_q rfl (fun W hT => r_pick (b := true) (v := .bool _) rfl rfl) <| sq_q rfl (fun W hT => r_move (v := .bool _) rfl) <| sq_no rfl rfl <| sq_no rfl rfl <| sq_no rfl rfl <| sq_no rfl rfl <| sq_no rfl rfl <| sq_no rfl rfl <| sq_no rfl rfl <| sq_no rfl rfl <| sq_no rfl rfl <| sq_no rfl rfl <| sq_no rfl rfl <| sq_no rfl rfl <| sq_no rfl rfl <| sq_no rfl rfl <| sq_no rfl rfl <| sq_no rfl rfl <| sq_no rfl rfl <| sq_no rfl rfl <| sq_no rfl rfl <| sq_no rfl rfl <| sq_q rfl (fun W hT => r_pick (b := true) (v := .bool _) rfl rfl) ?_
           clear o69
           clear o70
           refine sq_nil <| then_n <| x_cond (t := true) rfl (fun h5 => ?_) (fun h5 => ?_)
           rotate_left
           · exact absurd h5 (by decide)
           refine sr rfl <| aB rfl <| en <| x_ret <| block_r <| then_r <| then_r <| block_r <| then_r <| ret_tmp (v := .bool _) rfl rfl ?_
           first | exact ⟨no_post, HC⟩ | exact ⟨bool_post fun _ => ⟨fit_of hx0 hx0k hl1.2 (fun j x hj => hg j x (by omega)) (fun j x hj => hr j x (by omega)), names_of (fun j x hj => hg j x (by omega))⟩, HC⟩
          ·try simp only [nm, ne_eq] at g71
           refine sq_q rfl (fun W hT => r_fieldAddr T.fld36_0 rfl) <| sq_q rfl (fun W hT => r_load1 (v := .int _ _) T.one3 rfl (Blk.cell (show Blk W b9 _ _ from hT.2.1.trans o70) rfl)) <| sq_q rfl (fun W hT => r_neq rfl rfl) <| sq_q rfl (fun W hT => r_move (v := .bool _) rfl) <| sq_split (d := 122) rfl (fun g72 => ?_) (fun g72 => ?_)
           ·try simp only [nm, ne_eq] at g72
            refine sq_q rfl (fun W hT => r_move (v := .int _ _) rfl) <| sq_q rfl (fun W hT => r_gtr rfl rfl) <| sq_q rfl (fun W hT => r_pick (b := true) (v := .bool _) rfl rfl) <| sq_q rfl (fun W hT => r_move (v := .bool _) rfl) <| sq_split (d := 126) rfl (fun g73 => ?_) (fun g73 => ?_)
            ·try simp only [nm, ne_eq] at g73
             refine sq_q rfl (fun W hT => r_move (v := .slice _ _ _) rfl) <| sq_q rfl (fun W hT => r_move (v := .int _ _) rfl) <| sq_q rfl (fun W hT => r_indexAddr T.u66 T.size3 rfl rfl (by omega) (by omega)) <| sq_q rfl (fun W hT => r_load1 (v := .int _ _) T.one3 rfl (cell_heap hT.2.2.1 hvc)) <| sq_q rfl (fun W hT => r_eql rfl rfl) <| sq_q rfl (fun W hT => r_pick (b := true) (v := .bool _) rfl rfl) <| sq_q rfl (fun W hT => r_pick (b := false) (v := .bool _) rfl rfl) <| sq_q rfl (fun W hT => r_move (v := .bool _) rfl) <| sq_split (d := 134) rfl (fun g74 => ?_) (fun g74 => ?_)
             ·try simp only [nm, ne_eq] at g74
              refine sq_no rfl rfl <| sq_no rfl rfl <| sq_no rfl rfl <| sq_no rfl rfl <| sq_no rfl rfl <| sq_no rfl rfl <| sq_no rfl rfl <| sq_no rfl rfl <| sq_no rfl rfl <| sq_no rfl rfl <| sq_no rfl rfl <| sq_no rfl rfl <| sq_no rfl rfl <| sq_no rfl rfl <| sq_no rfl rfl <| sq_no rfl rfl <| sq_no rfl rfl <| sq_no rfl rfl <| sq_no rfl rfl <| sq_no rfl rfl <| sq_q rfl (fun W hT => r_pick (b := true) (v := .bool _) rfl rfl) ?_
              clear o69
              clear o70
              refine sq_nil <| then_n <| x_cond (t := true) rfl (fun h5 => ?_) (fun h5 => ?_)
              rotate_left
              · exact absurd h5 (by decide)
              refine sr rfl <| aB rfl <| en <| x_ret <| block_r <| then_r <| then_r <| block_r <| then_r <| ret_tmp (v := .bool _) rfl rfl ?_
              first | exact ⟨no_post, HC⟩ | exact ⟨bool_post fun _ => ⟨fit_of hx0 hx0k hl1.2 (fun j x hj => hg j x (by omega)) (fun j x hj => hr j x (by omega)), names_of (fun j x hj => hg j x (by omega))⟩, HC⟩
             ·try simp only [nm, ne_eq] at g74
              refine sq_q rfl (fun W hT => r_fieldAddr T.fld36_0 rfl) <| sq_q rfl (fun W hT => r_load1 (v := .int _ _) T.one3 rfl (Blk.cell (show Blk W b9 _ _ from hT.2.1.trans o70) rfl)) <| sq_q rfl (fun W hT => r_eql rfl rfl) <| sq_q rfl (fun W hT => r_move (v := .bool _) rfl) <| sq_split (d := 138) rfl (fun g75 => ?_) (fun g75 => ?_)
              ·try simp only [nm, ne_eq] at g75
               refine sq_q rfl (fun W hT => r_loadA (vs := [_, _, _]) T.agg24 rfl (Blk.cells (n := 3) (vs := [_, _, _]) (show Blk W b1 _ _ from hT.1.trans o69) rfl) rfl) <| sq_q rfl (fun W hT => r_move (v := .int _ _) rfl) <| sq_call1 rfl (r_call (ags := [_, _]) rfl rfl T.ent33 rfl) (rooted_spec hT hTl (i : Int) (by omega) (by omega)) ?_
               rintro _ w76 ⟨⟨br, rfl, hrp⟩, c77⟩
               replace HC := HC.then c77
               replace hT := hT.tr0 c77
               replace hb4 := hb4.tr0 c77
               replace hk3_15 := hk3_15.tr0 c77
               replace hk3_22 := hk3_22.tr0 c77
               replace hcA := hcA.tr0 c77
               replace hb66 := hb66.tr0 c77
               replace ht_bc := And.intro (Nat.lt_of_lt_of_le ht_bc.1 c77.size) ((c77.block bc ht_bc.1 (by simp)).trans ht_bc.2)
               refine ⟨_, fun _ h => h, ⟨(Eq.trans hb4 o69.symm), (Eq.trans hb66 o70.symm), (by first | assumption | exact ht_bc.2), trivial⟩, ?_⟩
               refine sq_q rfl (fun W hT => r_not rfl) <| sq_q rfl (fun W hT => r_move (v := .bool _) rfl) <| sq_split (d := 143) rfl (fun g78 => ?_) (fun g78 => ?_)
               ·try simp only [nm, ne_eq] at g78
                refine sq_no rfl rfl <| sq_no rfl rfl <| sq_no rfl rfl <| sq_no rfl rfl <| sq_no rfl rfl <| sq_no rfl rfl <| sq_no rfl rfl <| sq_no rfl rfl <| sq_no rfl rfl <| sq_q rfl (fun W hT => r_pick (b := true) (v := .bool _) rfl rfl) <| sq_q rfl (fun W hT => r_pick (b := true) (v := .bool _) rfl rfl) <| sq_q rfl (fun W hT => r_pick (b := false) (v := .bool _) rfl rfl) ?_
                clear o69
                clear o70
                refine sq_nil <| then_n <| x_cond (t := true) rfl (fun h5 => ?_) (fun h5 => ?_)
                rotate_left
                · exact absurd h5 (by decide)
                refine sr rfl <| aB rfl <| en <| x_ret <| block_r <| then_r <| then_r <| block_r <| then_r <| ret_tmp (v := .bool _) rfl rfl ?_
                first | exact ⟨no_post, HC⟩ | exact ⟨bool_post fun _ => ⟨fit_of hx0 hx0k hl1.2 (fun j x hj => hg j x (by omega)) (fun j x hj => hr j x (by omega)), names_of (fun j x hj => hg j x (by omega))⟩, HC⟩
               ·try simp only [nm, ne_eq] at g78
                refine sq_q rfl (fun W hT => r_move (v := .int _ _) rfl) <| sq_q rfl (fun W hT => r_gtr rfl rfl) <| sq_q rfl (fun W hT => r_move (v := .bool _) rfl) <| sq_split (d := 146) rfl (fun g79 => ?_) (fun g79 => ?_)
                ·try simp only [nm, ne_eq] at g79
                 refine sq_q rfl (fun W hT => r_move (v := .slice _ _ _) rfl) <| sq_q rfl (fun W hT => r_move (v := .int _ _) rfl) <| sq_q rfl (fun W hT => r_indexAddr T.u66 T.size3 rfl rfl (by omega) (by omega)) <| sq_q rfl (fun W hT => r_load1 (v := .int _ _) T.one3 rfl (cell_heap hT.2.2.1 hvc)) <| sq_q rfl (fun W hT => r_neq rfl rfl) <| sq_q rfl (fun W hT => r_pick (b := true) (v := .bool _) rfl rfl) <| sq_q rfl (fun W hT => r_pick (b := false) (v := .bool _) rfl rfl) <| sq_q rfl (fun W hT => r_pick (b := true) (v := .bool _) rfl rfl) <| sq_q rfl (fun W hT => r_pick (b := false) (v := .bool _) rfl rfl) ?_
                 clear o69
                 clear o70
                 refine sq_nil <| then_n <| x_cond rfl (fun h5 => ?_) (fun h5 => ?_)
                 ·try simp only [nm, ne_eq] at h5
                  refine sr rfl <| aB rfl <| en <| x_ret <| block_r <| then_r <| then_r <| block_r <| then_r <| ret_tmp (v := .bool _) rfl rfl ?_
                  first | exact ⟨no_post, HC⟩ | exact ⟨bool_post fun _ => ⟨fit_of hx0 hx0k hl1.2 (fun j x hj => hg j x (by omega)) (fun j x hj => hr j x (by omega)), names_of (fun j x hj => hg j x (by omega))⟩, HC⟩
                 ·try simp only [nm, ne_eq] at h5
                  refine x_skip <| block_n <| then_n <| x_region rfl <| mI rfl <| Wp rfl <| st_addn rfl rfl (by constructor <;> omega) <| aI rfl <| en <| ⟨i + 1, ?_, ?_, rfl, ⟨rfl, trivial⟩, ?_⟩
                  ·refine ⟨?_, HC, hT, hb4, hk3_15, hk3_22, hcA⟩
                   refine ⟨by omega, fun j y hj hy hy2 => ?_⟩
                   by_cases e : j = i
                   · subst e; rw [hx] at hy; obtain rfl := Option.some.inj hy; first | exact absurd hy2 (by assumption) | exact up_dir hx hx0 hx0k hx0u (hrp (by assumption))
                   · exact hr j y (by omega) hy hy2
                  ·show Z.length - (i + 1) < Z.length - i; omega
                  exact q9
                ·try simp only [nm, ne_eq] at g79
                 refine sq_no rfl rfl <| sq_no rfl rfl <| sq_no rfl rfl <| sq_no rfl rfl <| sq_no rfl rfl <| sq_q rfl (fun W hT => r_pick (b := false) (v := .bool _) rfl rfl) <| sq_q rfl (fun W hT => r_pick (b := false) (v := .bool _) rfl rfl) <| sq_q rfl (fun W hT => r_pick (b := true) (v := .bool _) rfl rfl) <| sq_q rfl (fun W hT => r_pick (b := false) (v := .bool _) rfl rfl) ?_
                 clear o69
                 clear o70
                 refine sq_nil <| then_n <| x_cond (t := false) rfl (fun h5 => ?_) (fun h5 => ?_)
                 · exact absurd h5 (by decide)
                 refine x_skip <| block_n <| then_n <| x_region rfl <| mI rfl <| Wp rfl <| st_addn rfl rfl (by constructor <;> omega) <| aI rfl <| en <| ⟨i + 1, ?_, ?_, rfl, ⟨rfl, trivial⟩, ?_⟩
                 ·refine ⟨?_, HC, hT, hb4, hk3_15, hk3_22, hcA⟩
                  refine ⟨by omega, fun j y hj hy hy2 => ?_⟩
                  by_cases e : j = i
                  · subst e; rw [hx] at hy; obtain rfl := Option.some.inj hy; first | exact absurd hy2 (by assumption) | exact up_dir hx hx0 hx0k hx0u (hrp (by assumption))
                  · exact hr j y (by omega) hy hy2
                 ·show Z.length - (i + 1) < Z.length - i; omega
                 exact q9
              ·try simp only [nm, ne_eq] at g75
               refine sq_no rfl rfl <| sq_no rfl rfl <| sq_no rfl rfl <| sq_no rfl rfl <| sq_no rfl rfl <| sq_no rfl rfl <| sq_no rfl rfl <| sq_no rfl rfl <| sq_no rfl rfl <| sq_no rfl rfl <| sq_no rfl rfl <| sq_no rfl rfl <| sq_no rfl rfl <| sq_no rfl rfl <| sq_no rfl rfl <| sq_q rfl (fun W hT => r_pick (b := false) (v := .bool _) rfl rfl) <| sq_q rfl (fun W hT => r_pick (b := false) (v := .bool _) rfl rfl) ?_
               clear o69
               clear o70
               refine sq_nil <| then_n <| x_cond (t := false) rfl (fun h5 => ?_) (fun h5 => ?_)
               · exact absurd h5 (by decide)
               refine x_skip <| block_n <| then_n <| x_region rfl <| mI rfl <| Wp rfl <| st_addn rfl rfl (by constructor <;> omega) <| aI rfl <| en <| ⟨i + 1, ?_, ?_, rfl, ⟨rfl, trivial⟩, ?_⟩
               ·refine ⟨?_, HC, hT, hb4, hk3_15, hk3_22, hcA⟩
                refine ⟨by omega, fun j y hj hy hy2 => ?_⟩
                by_cases e : j = i
                · subst e; rw [hx] at hy; obtain rfl := Option.some.inj hy; first | exact absurd hy2 (by assumption) | exact up_dir hx hx0 hx0k hx0u (hrp (by assumption))
                · exact hr j y (by omega) hy hy2
               ·show Z.length - (i + 1) < Z.length - i; omega
               exact q9
            ·try simp only [nm, ne_eq] at g73
             refine sq_no rfl rfl <| sq_no rfl rfl <| sq_no rfl rfl <| sq_no rfl rfl <| sq_no rfl rfl <| sq_q rfl (fun W hT => r_pick (b := false) (v := .bool _) rfl rfl) <| sq_q rfl (fun W hT => r_pick (b := false) (v := .bool _) rfl rfl) <| sq_q rfl (fun W hT => r_move (v := .bool _) rfl) <| sq_q rfl (fun W hT => r_fieldAddr T.fld36_0 rfl) <| sq_q rfl (fun W hT => r_load1 (v := .int _ _) T.one3 rfl (Blk.cell (show Blk W b9 _ _ from hT.2.1.trans o70) rfl)) <| sq_q rfl (fun W hT => r_eql rfl rfl) <| sq_q rfl (fun W hT => r_move (v := .bool _) rfl) <| sq_split (d := 138) rfl (fun g80 => ?_) (fun g80 => ?_)
             ·try simp only [nm, ne_eq] at g80
              refine sq_q rfl (fun W hT => r_loadA (vs := [_, _, _]) T.agg24 rfl (Blk.cells (n := 3) (vs := [_, _, _]) (show Blk W b1 _ _ from hT.1.trans o69) rfl) rfl) <| sq_q rfl (fun W hT => r_move (v := .int _ _) rfl) <| sq_call1 rfl (r_call (ags := [_, _]) rfl rfl T.ent33 rfl) (rooted_spec hT hTl (i : Int) (by omega) (by omega)) ?_
              rintro _ w81 ⟨⟨br, rfl, hrp⟩, c82⟩
              replace HC := HC.then c82
              replace hT := hT.tr0 c82
              replace hb4 := hb4.tr0 c82
              replace hk3_15 := hk3_15.tr0 c82
              replace hk3_22 := hk3_22.tr0 c82
              replace hcA := hcA.tr0 c82
              replace hb66 := hb66.tr0 c82
              replace ht_bc := And.intro (Nat.lt_of_lt_of_le ht_bc.1 c82.size) ((c82.block bc ht_bc.1 (by simp)).trans ht_bc.2)
              refine ⟨_, fun _ h => h, ⟨(Eq.trans hb4 o69.symm), (Eq.trans hb66 o70.symm), (by first | assumption | exact ht_bc.2), trivial⟩, ?_⟩
              refine sq_q rfl (fun W hT => r_not rfl) <| sq_q rfl (fun W hT => r_move (v := .bool _) rfl) <| sq_split (d := 143) rfl (fun g83 => ?_) (fun g83 => ?_)
              ·try simp only [nm, ne_eq] at g83
               refine sq_no rfl rfl <| sq_no rfl rfl <| sq_no rfl rfl <| sq_no rfl rfl <| sq_no rfl rfl <| sq_no rfl rfl <| sq_no rfl rfl <| sq_no rfl rfl <| sq_no rfl rfl <| sq_q rfl (fun W hT => r_pick (b := true) (v := .bool _) rfl rfl) <| sq_q rfl (fun W hT => r_pick (b := true) (v := .bool _) rfl rfl) <| sq_q rfl (fun W hT => r_pick (b := false) (v := .bool _) rfl rfl) ?_
               clear o69
               clear o70
               refine sq_nil <| then_n <| x_cond (t := true) rfl (fun h5 => ?_) (fun h5 => ?_)
               rotate_left
               · exact absurd h5 (by decide)
               refine sr rfl <| aB rfl <| en <| x_ret <| block_r <| then_r <| then_r <| block_r <| then_r <| ret_tmp (v := .bool _) rfl rfl ?_
               first | exact ⟨no_post, HC⟩ | exact ⟨bool_post fun _ => ⟨fit_of hx0 hx0k hl1.2 (fun j x hj => hg j x (by omega)) (fun j x hj => hr j x (by omega)), names_of (fun j x hj => hg j x (by omega))⟩, HC⟩
              ·try simp only [nm, ne_eq] at g83
               refine sq_q rfl (fun W hT => r_move (v := .int _ _) rfl) <| sq_q rfl (fun W hT => r_gtr rfl rfl) <| sq_q rfl (fun W hT => r_move (v := .bool _) rfl) <| sq_split (d := 146) rfl (fun g84 => ?_) (fun g84 => ?_)
               ·try simp only [nm, ne_eq] at g84
                refine sq_q rfl (fun W hT => r_move (v := .slice _ _ _) rfl) <| sq_q rfl (fun W hT => r_move (v := .int _ _) rfl) <| sq_q rfl (fun W hT => r_indexAddr T.u66 T.size3 rfl rfl (by omega) (by omega)) <| sq_q rfl (fun W hT => r_load1 (v := .int _ _) T.one3 rfl (cell_heap hT.2.2.1 hvc)) <| sq_q rfl (fun W hT => r_neq rfl rfl) <| sq_q rfl (fun W hT => r_pick (b := true) (v := .bool _) rfl rfl) <| sq_q rfl (fun W hT => r_pick (b := false) (v := .bool _) rfl rfl) <| sq_q rfl (fun W hT => r_pick (b := true) (v := .bool _) rfl rfl) <| sq_q rfl (fun W hT => r_pick (b := false) (v := .bool _) rfl rfl) ?_
                clear o69
                clear o70
                refine sq_nil <| then_n <| x_cond rfl (fun h5 => ?_) (fun h5 => ?_)
                ·try simp only [nm, ne_eq] at h5
                 refine sr rfl <| aB rfl <| en <| x_ret <| block_r <| then_r <| then_r <| block_r <| then_r <| ret_tmp (v := .bool _) rfl rfl ?_
                 first | exact ⟨no_post, HC⟩ | exact ⟨bool_post fun _ => ⟨fit_of hx0 hx0k hl1.2 (fun j x hj => hg j x (by omega)) (fun j x hj => hr j x (by omega)), names_of (fun j x hj => hg j x (by omega))⟩, HC⟩
                ·try simp only [nm, ne_eq] at h5
                 refine x_skip <| block_n <| then_n <| x_region rfl <| mI rfl <| Wp rfl <| st_addn rfl rfl (by constructor <;> omega) <| aI rfl <| en <| ⟨i + 1, ?_, ?_, rfl, ⟨rfl, trivial⟩, ?_⟩
                 ·refine ⟨?_, HC, hT, hb4, hk3_15, hk3_22, hcA⟩
                  refine ⟨by omega, fun j y hj hy hy2 => ?_⟩
                  by_cases e : j = i
                  · subst e; rw [hx] at hy; obtain rfl := Option.some.inj hy; first | exact absurd hy2 (by assumption) | exact up_dir hx hx0 hx0k hx0u (hrp (by assumption))
                  · exact hr j y (by omega) hy hy2
                 ·show Z.length - (i + 1) < Z.length - i; omega
                 exact q9
               ·try simp only [nm, ne_eq] at g84
                refine sq_no rfl rfl <| sq_no rfl rfl <| sq_no rfl rfl <| sq_no rfl rfl <| sq_no rfl rfl <| sq_q rfl (fun W hT => r_pick (b := false) (v := .bool _) rfl rfl) <| sq_q rfl (fun W hT => r_pick (b := false) (v := .bool _) rfl rfl) <| sq_q rfl (fun W hT => r_pick (b := true) (v := .bool _) rfl rfl) <| sq_q rfl (fun W hT => r_pick (b := false) (v := .bool _) rfl rfl) ?_
                clear o69
                clear o70
                refine sq_nil <| then_n <| x_cond (t := false) rfl (fun h5 => ?_) (fun h5 => ?_)
                · exact absurd h5 (by decide)
                refine x_skip <| block_n <| then_n <| x_region rfl <| mI rfl <| Wp rfl <| st_addn rfl rfl (by constructor <;> omega) <| aI rfl <| en <| ⟨i + 1, ?_, ?_, rfl, ⟨rfl, trivial⟩, ?_⟩
                ·refine ⟨?_, HC, hT, hb4, hk3_15, hk3_22, hcA⟩
                 refine ⟨by omega, fun j y hj hy hy2 => ?_⟩
                 by_cases e : j = i
                 · subst e; rw [hx] at hy; obtain rfl := Option.some.inj hy; first | exact absurd hy2 (by assumption) | exact up_dir hx hx0 hx0k hx0u (hrp (by assumption))
                 · exact hr j y (by omega) hy hy2
                ·show Z.length - (i + 1) < Z.length - i; omega
                exact q9
             ·try simp only [nm, ne_eq] at g80
              refine sq_no rfl rfl <| sq_no rfl rfl <| sq_no rfl rfl <| sq_no rfl rfl <| sq_no rfl rfl <| sq_no rfl rfl <| sq_no rfl rfl <| sq_no rfl rfl <| sq_no rfl rfl <| sq_no rfl rfl <| sq_no rfl rfl <| sq_no rfl rfl <| sq_no rfl rfl <| sq_no rfl rfl <| sq_no rfl rfl <| sq_q rfl (fun W hT => r_pick (b := false) (v := .bool _) rfl rfl) <| sq_q rfl (fun W hT => r_pick (b := false) (v := .bool _) rfl rfl) ?_
              clear o69
              clear o70
              refine sq_nil <| then_n <| x_cond (t := false) rfl (fun h5 => ?_) (fun h5 => ?_)
              · exact absurd h5 (by decide)
              refine x_skip <| block_n <| then_n <| x_region rfl <| mI rfl <| Wp rfl <| st_addn rfl rfl (by constructor <;> omega) <| aI rfl <| en <| ⟨i + 1, ?_, ?_, rfl, ⟨rfl, trivial⟩, ?_⟩
              ·refine ⟨?_, HC, hT, hb4, hk3_15, hk3_22, hcA⟩
               refine ⟨by omega, fun j y hj hy hy2 => ?_⟩
               by_cases e : j = i
               · subst e; rw [hx] at hy; obtain rfl := Option.some.inj hy; first | exact absurd hy2 (by assumption) | exact up_dir hx hx0 hx0k hx0u (hrp (by assumption))
               · exact hr j y (by omega) hy hy2
              ·show Z.length - (i + 1) < Z.length - i; omega
              exact q9
           ·try simp only [nm, ne_eq] at g72
            refine sq_no rfl rfl <| sq_no rfl rfl <| sq_q rfl (fun W hT => r_pick (b := false) (v := .bool _) rfl rfl) <| sq_q rfl (fun W hT => r_move (v := .bool _) rfl) <| sq_no rfl rfl <| sq_no rfl rfl <| sq_no rfl rfl <| sq_no rfl rfl <| sq_no rfl rfl <| sq_q rfl (fun W hT => r_pick (b := false) (v := .bool _) rfl rfl) <| sq_q rfl (fun W hT => r_pick (b := false) (v := .bool _) rfl rfl) <| sq_q rfl (fun W hT => r_move (v := .bool _) rfl) <| sq_q rfl (fun W hT => r_fieldAddr T.fld36_0 rfl) <| sq_q rfl (fun W hT => r_load1 (v := .int _ _) T.one3 rfl (Blk.cell (show Blk W b9 _ _ from hT.2.1.trans o70) rfl)) <| sq_q rfl (fun W hT => r_eql rfl rfl) <| sq_q rfl (fun W hT => r_move (v := .bool _) rfl) <| sq_split (d := 138) rfl (fun g85 => ?_) (fun g85 => ?_)
            ·try simp only [nm, ne_eq] at g85
             refine sq_q rfl (fun W hT => r_loadA (vs := [_, _, _]) T.agg24 rfl (Blk.cells (n := 3) (vs := [_, _, _]) (show Blk W b1 _ _ from hT.1.trans o69) rfl) rfl) <| sq_q rfl (fun W hT => r_move (v := .int _ _) rfl) <| sq_call1 rfl (r_call (ags := [_, _]) rfl rfl T.ent33 rfl) (rooted_spec hT hTl (i : Int) (by omega) (by omega)) ?_
             rintro _ w86 ⟨⟨br, rfl, hrp⟩, c87⟩
             replace HC := HC.then c87
             replace hT := hT.tr0 c87
             replace hb4 := hb4.tr0 c87
             replace hk3_15 := hk3_15.tr0 c87
             replace hk3_22 := hk3_22.tr0 c87
             replace hcA := hcA.tr0 c87
             replace hb66 := hb66.tr0 c87
             replace ht_bc := And.intro (Nat.lt_of_lt_of_le ht_bc.1 c87.size) ((c87.block bc ht_bc.1 (by simp)).trans ht_bc.2)
             refine ⟨_, fun _ h => h, ⟨(Eq.trans hb4 o69.symm), (Eq.trans hb66 o70.symm), (by first | assumption | exact ht_bc.2), trivial⟩, ?_⟩
             refine sq_q rfl (fun W hT => r_not rfl) <| sq_q rfl (fun W hT => r_move (v := .bool _) rfl) <| sq_split (d := 143) rfl (fun g88 => ?_) (fun g88 => ?_)
             ·try simp only [nm, ne_eq] at g88
              refine sq_no rfl rfl <| sq_no rfl rfl <| sq_no rfl rfl <| sq_no rfl rfl <| sq_no rfl rfl <| sq_no rfl rfl <| sq_no rfl rfl <| sq_no rfl rfl <| sq_no rfl rfl <| sq_q rfl (fun W hT => r_pick (b := true) (v := .bool _) rfl rfl) <| sq_q rfl (fun W hT => r_pick (b := true) (v := .bool _) rfl rfl) <| sq_q rfl (fun W hT => r_pick (b := false) (v := .bool _) rfl rfl) ?_
              clear o69
              clear o70
              refine sq_nil <| then_n <| x_cond (t := true) rfl (fun h5 => ?_) (fun h5 => ?_)
              rotate_left
              · exact absurd h5 (by decide)
              refine sr rfl <| aB rfl <| en <| x_ret <| block_r <| then_r <| then_r <| block_r <| then_r <| ret_tmp (v := .bool _) rfl rfl ?_
              first | exact ⟨no_post, HC⟩ | exact ⟨bool_post fun _ => ⟨fit_of hx0 hx0k hl1.2 (fun j x hj => hg j x (by omega)) (fun j x hj => hr j x (by omega)), names_of (fun j x hj => hg j x (by omega))⟩, HC⟩
             ·try simp only [nm, ne_eq] at g88
              refine sq_q rfl (fun W hT => r_move (v := .int _ _) rfl) <| sq_q rfl (fun W hT => r_gtr rfl rfl) <| sq_q rfl (fun W hT => r_move (v := .bool _) rfl) <| sq_split (d := 146) rfl (fun g89 => ?_) (fun g89 => ?_)
              ·try simp only [nm, ne_eq] at g89
               refine sq_q rfl (fun W hT => r_move (v := .slice _ _ _) rfl) <| sq_q rfl (fun W hT => r_move (v := .int _ _) rfl) <| sq_q rfl (fun W hT => r_indexAddr T.u66 T.size3 rfl rfl (by omega) (by omega)) <| sq_q rfl (fun W hT => r_load1 (v := .int _ _) T.one3 rfl (cell_heap hT.2.2.1 hvc)) <| sq_q rfl (fun W hT => r_neq rfl rfl) <| sq_q rfl (fun W hT => r_pick (b := true) (v := .bool _) rfl rfl) <| sq_q rfl (fun W hT => r_pick (b := false) (v := .bool _) rfl rfl) <| sq_q rfl (fun W hT => r_pick (b := true) (v := .bool _) rfl rfl) <| sq_q rfl (fun W hT => r_pick (b := false) (v := .bool _) rfl rfl) ?_
               clear o69
               clear o70
               refine sq_nil <| then_n <| x_cond rfl (fun h5 => ?_) (fun h5 => ?_)
               ·try simp only [nm, ne_eq] at h5
                refine sr rfl <| aB rfl <| en <| x_ret <| block_r <| then_r <| then_r <| block_r <| then_r <| ret_tmp (v := .bool _) rfl rfl ?_
                first | exact ⟨no_post, HC⟩ | exact ⟨bool_post fun _ => ⟨fit_of hx0 hx0k hl1.2 (fun j x hj => hg j x (by omega)) (fun j x hj => hr j x (by omega)), names_of (fun j x hj => hg j x (by omega))⟩, HC⟩
               ·try simp only [nm, ne_eq] at h5
                refine x_skip <| block_n <| then_n <| x_region rfl <| mI rfl <| Wp rfl <| st_addn rfl rfl (by constructor <;> omega) <| aI rfl <| en <| ⟨i + 1, ?_, ?_, rfl, ⟨rfl, trivial⟩, ?_⟩
                ·refine ⟨?_, HC, hT, hb4, hk3_15, hk3_22, hcA⟩
                 refine ⟨by omega, fun j y hj hy hy2 => ?_⟩
                 by_cases e : j = i
                 · subst e; rw [hx] at hy; obtain rfl := Option.some.inj hy; first | exact absurd hy2 (by assumption) | exact up_dir hx hx0 hx0k hx0u (hrp (by assumption))
                 · exact hr j y (by omega) hy hy2
                ·show Z.length - (i + 1) < Z.length - i; omega
                exact q9
              ·try simp only [nm, ne_eq] at g89
               refine sq_no rfl rfl <| sq_no rfl rfl <| sq_no rfl rfl <| sq_no rfl rfl <| sq_no rfl rfl <| sq_q rfl (fun W hT => r_pick (b := false) (v := .bool _) rfl rfl) <| sq_q rfl (fun W hT => r_pick (b := false) (v := .bool _) rfl rfl) <| sq_q rfl (fun W hT => r_pick (b := true) (v := .bool _) rfl rfl) <| sq_q rfl (fun W hT => r_pick (b := false) (v := .bool _) rfl rfl) ?_
               clear o69
               clear o70
               refine sq_nil <| then_n <| x_cond (t := false) rfl (fun h5 => ?_) (fun h5 => ?_)
               · exact absurd h5 (by decide)
               refine x_skip <| block_n <| then_n <| x_region rfl <| mI rfl <| Wp rfl <| st_addn rfl rfl (by constructor <;> omega) <| aI rfl <| en <| ⟨i + 1, ?_, ?_, rfl, ⟨rfl, trivial⟩, ?_⟩
               ·refine ⟨?_, HC, hT, hb4, hk3_15, hk3_22, hcA⟩
                refine ⟨by omega, fun j y hj hy hy2 => ?_⟩
                by_cases e : j = i
                · subst e; rw [hx] at hy; obtain rfl := Option.some.inj hy; first | exact absurd hy2 (by assumption) | exact up_dir hx hx0 hx0k hx0u (hrp (by assumption))
                · exact hr j y (by omega) hy hy2
               ·show Z.length - (i + 1) < Z.length - i; omega
               exact q9
            ·try simp only [nm, ne_eq] at g85
             refine sq_no rfl rfl <| sq_no rfl rfl <| sq_no rfl rfl <| sq_no rfl rfl <| sq_no rfl rfl <| sq_no rfl rfl <| sq_no rfl rfl <| sq_no rfl rfl <| sq_no rfl rfl <| sq_no rfl rfl <| sq_no rfl rfl <| sq_no rfl rfl <| sq_no rfl rfl <| sq_no rfl rfl <| sq_no rfl rfl <| sq_q rfl (fun W hT => r_pick (b := false) (v := .bool _) rfl rfl) <| sq_q rfl (fun W hT => r_pick (b := false) (v := .bool _) rfl rfl) ?_
             clear o69
             clear o70
             refine sq_nil <| then_n <| x_cond (t := false) rfl (fun h5 => ?_) (fun h5 => ?_)
             · exact absurd h5 (by decide)
             refine x_skip <| block_n <| then_n <| x_region rfl <| mI rfl <| Wp rfl <| st_addn rfl rfl (by constructor <;> omega) <| aI rfl <| en <| ⟨i + 1, ?_, ?_, rfl, ⟨rfl, trivial⟩, ?_⟩
             ·refine ⟨?_, HC, hT, hb4, hk3_15, hk3_22, hcA⟩
              refine ⟨by omega, fun j y hj hy hy2 => ?_⟩
              by_cases e : j = i
              · subst e; rw [hx] at hy; obtain rfl := Option.some.inj hy; first | exact absurd hy2 (by assumption) | exact up_dir hx hx0 hx0k hx0u (hrp (by assumption))
              · exact hr j y (by omega) hy hy2
             ·show Z.length - (i + 1) < Z.length - i; omega
             exact q9
         ·try simp only [nm, ne_eq] at h4
          refine x_exit <| then_x <| then_x <| block_x <| then_n <| sr rfl <| mI rfl <| fa T.fld24_2 rfl <| lI T.one3 rfl (hb4.cell rfl) <| Wp rfl <| st_leq rfl rfl <| aB rfl <| en <| x_ret <| ret_tmp (v := .bool _) rfl rfl ?_
          first | exact ⟨no_post, HC⟩ | exact ⟨bool_post fun _ => ⟨fit_of hx0 hx0k hl1.2 (fun j x hj => hg j x (by omega)) (fun j x hj => hr j x (by omega)), names_of (fun j x hj => hg j x (by omega))⟩, HC⟩
theorem good11_spec {Z : Tre} {An : Option Addr} {capn : Nat} {mx my : Int} {D : Nat → Prop} {w : World} (hT : Sl inE w D An Z) (hTl : Z.length ≤ 9223372036854775807) (hD : ∀ x, x ∈ Z → x.data.length ≤ 140737488351232 ∧ ∀ p, p ∈ x.kids → p.1.length ≤ 140737488351232) {A : Option Addr} {c : Nat} {Dl : Nat → Prop} {l : List Bytes} (hl : Sl sE w Dl A l) (hb : ∀ s, s ∈ l → s.length ≤ 140737488355328) (hll : l.length ≤ 1000) : CallR Tryz.prog 6 #[.agg ⟨[.slice An Z.length capn, .int .i64 mx, .int .i64 my]⟩, .slice A l.length c] w fun v w' => (∃ b, v = .bool b ∧ (b = true → FitT Z ∧ NamesT Z ∧ ∀ s, s ∈ l → s.length ≤ 300)) ∧ Chg [] w w' := by
 replace hT := hT.mono (D' := fun k => k < w.heap.size) (fun k hk _ => hk)
 refine callR_of_wp (args := [_, _]) Tryz.func6 rfl (Nat.le_of_ble_eq_true rfl) ?_
 have HC : Chg [] w w := .refl _
 refine sr rfl <| Wp rfl <| st_box (v := .agg ⟨[.slice _ _ _, .int _ _, .int _ _]⟩) (vs := [_, _, _]) rfl rfl ?_
 intro b2 w1 e2 c3 hb4
 have ge_b2 := gB e2 HC.size
 have nf_hl_b2 : l = [] ∨ b2 ∉ ob (A) := hl.fresh (by rw [e2]; exact Nat.le_refl _)
 replace HC := HC.then c3
 replace hT := hT.tr0 c3
 replace hl := hl.tr0 c3
 clear e2
 refine aB rfl <| en <| sr rfl <| aI rfl <| en <| x_seq <| sr rfl <| mL rfl <| Wp rfl <| st_len (ct := #[29]) (by rw [show ((#[29] : Array TypeId)[0]?).bind Tryz.prog.underlying = some (.slice 9) from T.u29]; rfl) rfl <| mI rfl <| en <| x_block <| x_loop (ι := Nat × Nat) [4, 5, 7, 12, 13, 14, 15, 16, 17, 18, 19, 20, 21, 22, 23, 24, 25, 26] (fun ⟨i, s⟩ => [(5, .int .i64 (s : Int)), (12, .int .i64 (i : Int))]) (fun ⟨i, s⟩ W => (i ≤ l.length ∧ s ≤ 300 ∧ ∀ j x, j < i → l[j]? = some x → x.length ≤ 300) ∧ (Chg [] w W) ∧ (Sl inE W (fun k => k < w.heap.size) An Z) ∧ (Sl sE W Dl A l) ∧ (Blk W b2 [.slice An Z.length capn, .int .i64 mx, .int .i64 my] 24)) (fun ⟨i, s⟩ => l.length - i) (0, 0) ?_ ?_ ?_
 · exact ⟨rfl, rfl, trivial⟩
 ·refine ⟨?_, HC, hT, hl, hb4⟩
  exact ⟨Nat.zero_le _, Nat.zero_le _, fun j x hj => absurd hj (Nat.not_lt_zero _)⟩
 intro ⟨i, s⟩ G6 w5 ⟨⟨hi, hs, hls⟩, HC, hT, hl, hb4⟩
 change wp _ _ _ _ _ (upds (over _ _ G6) [(5, .int .i64 (s : Int)), (12, .int .i64 (i : Int))]) _ _
 refine sr rfl <| Wp rfl <| st_lss rfl rfl <| en <| x_seq <| x_cond rfl (fun h0 => ?_) (fun h0 => ?_)
 ·try simp only [nm, ne_eq] at h0
  obtain ⟨x, hx⟩ : ∃ x, l[i]? = some x := ⟨_, List.getElem?_eq_getElem (by omega)⟩
  have hxb := hb x (List.mem_of_getElem? hx)
  refine x_skip <| then_n <| x_seq <| x_block <| sr rfl ?_
  obtain ⟨lb11, _, vs10, hA7, hR9, hC8⟩ := hl.at (i := i) (x := x) (hx)
  obtain rfl : vs10 = [S x] := hR9
  refine Wp rfl <| st_indexAddr T.u29 T.size9 (congrArg (fun z => Value.slice z _ _) hA7) rfl (by omega) (by omega) <| lS T.one9 rfl (hC8.at (j := 0) rfl) <| aS rfl <| en <| sr rfl <| mI rfl <| mS rfl <| Wp rfl <| st_slen (ct := #[9]) T.u9 rfl <| Wp rfl <| st_addn rfl rfl (by constructor <;> omega) <| aI rfl <| en <| sr rfl <| mI rfl <| Wp rfl <| st_gtr rfl rfl <| mB rfl <| w_split (d := 22) rfl (fun g12 => ?_) (fun g12 => ?_)
  ·try simp only [nm, ne_eq] at g12
   refine w_no 2 22 false <| w_no 2 22 false <| pT rfl rfl <| en <| x_cond (t := true) rfl (fun h1 => ?_) (fun h1 => ?_)
   rotate_left
   · exact absurd h1 (by decide)
   refine sr rfl <| aB rfl <| en <| x_ret <| block_r <| then_r <| then_r <| block_r <| then_r <| ret_tmp (v := .bool _) rfl rfl ?_
   first | exact ⟨no_post, HC⟩ | exact ⟨bool_post fun h9 => by first | exact ⟨(hfp (by first | assumption | simp_all)).1, (hfp (by first | assumption | simp_all)).2, hla⟩ | (exfalso; simp_all; done), HC⟩
  ·try simp only [nm, ne_eq] at g12
   refine w_yes 2 22 false <| st_move (v := .int _ _) rfl <| w_yes 2 22 false <| st_lss rfl rfl <| pF rfl rfl <| en <| x_cond rfl (fun h1 => ?_) (fun h1 => ?_)
   ·try simp only [nm, ne_eq] at h1
    refine sr rfl <| aB rfl <| en <| x_ret <| block_r <| then_r <| then_r <| block_r <| then_r <| ret_tmp (v := .bool _) rfl rfl ?_
    first | exact ⟨no_post, HC⟩ | exact ⟨bool_post fun h9 => by first | exact ⟨(hfp (by first | assumption | simp_all)).1, (hfp (by first | assumption | simp_all)).2, hla⟩ | (exfalso; simp_all; done), HC⟩
   ·try simp only [nm, ne_eq] at h1
    refine x_skip <| block_n <| then_n <| x_region rfl <| Wp rfl <| st_addn rfl rfl (by constructor <;> omega) <| mI rfl <| en <| ⟨(i + 1, s + x.length), ?_, ?_, rfl, ⟨congrArg (Value.int .i64) (by omega), rfl, trivial⟩, ?_⟩
    ·refine ⟨?_, HC, hT, hl, hb4⟩
     refine ⟨by omega, by omega, fun j y hj hy => ?_⟩
     by_cases e : j = i
     · subst e; rw [hx] at hy; obtain rfl := Option.some.inj hy; omega
     · exact hls j y (by omega) hy
    ·show l.length - (i + 1) < l.length - i; omega
    exact q9
 ·try simp only [nm, ne_eq] at h0
  have hla : ∀ s, s ∈ l → s.length ≤ 300 := fun s hs => by obtain ⟨j, hj⟩ := List.mem_iff_getElem?.1 hs; exact hls j s (by have := (List.getElem?_eq_some_iff.1 hj).1; omega) hj
  refine x_exit <| then_x <| then_x <| block_x <| then_n <| sr rfl <| aI rfl <| en <| x_seq <| sr rfl <| aI rfl <| en <| x_block <| x_loop (ι := Nat × Int) [8, 9, 27, 28, 29, 30, 31, 32, 33, 34, 35, 36, 37, 38, 39, 40, 41, 42, 43, 44, 45, 46] (fun ⟨j, n⟩ => [(8, .int .i64 n), (9, .int .i64 (j : Int))]) (fun ⟨j, n⟩ W => (j ≤ Z.length) ∧ (Chg [] w W) ∧ (Sl inE W (fun k => k < w.heap.size) An Z) ∧ (Sl sE W Dl A l) ∧ (Blk W b2 [.slice An Z.length capn, .int .i64 mx, .int .i64 my] 24)) (fun ⟨j, n⟩ => Z.length - j) (0, 0) ?_ ?_ ?_
  · exact ⟨rfl, rfl, trivial⟩
  ·refine ⟨?_, HC, hT, hl, hb4⟩
   exact Nat.zero_le _
  intro ⟨j, n⟩ G14 w13 ⟨hj, HC, hT, hl, hb4⟩
  change wp _ _ _ _ _ (upds (over _ _ G14) [(8, .int .i64 n), (9, .int .i64 (j : Int))]) _ _
  refine x_seq <| sr rfl <| mI rfl <| fa T.fld24_0 rfl <| lL T.one22 rfl (hb4.cell rfl) <| Wp rfl <| st_len (ct := #[22]) (by rw [show ((#[22] : Array TypeId)[0]?).bind Tryz.prog.underlying = some (.slice 36) from T.u22]; rfl) rfl <| Wp rfl <| st_lss rfl rfl <| mB rfl <| w_split (d := 32) rfl (fun g15 => ?_) (fun g15 => ?_)
  ·try simp only [nm, ne_eq] at g15
   refine w_yes 5 32 true <| st_move (v := .int _ _) rfl <| w_yes 5 32 true <| st_leq rfl rfl <| pT rfl rfl <| en <| x_cond rfl (fun h2 => ?_) (fun h2 => ?_)
   ·try simp only [nm, ne_eq] at h2
    obtain ⟨nd, hnd⟩ : ∃ x, Z[j]? = some x := ⟨_, List.getElem?_eq_getElem (by omega)⟩
    have hjl := (List.getElem?_eq_some_iff.1 hnd).1
    refine x_skip <| then_n <| x_seq <| x_block <| x_region rfl <| mI rfl <| fa T.fld24_0 rfl <| lL T.one22 rfl (hb4.cell rfl) <| mI rfl ?_
    obtain ⟨lb20, _, vs19, hA16, hR18, hC17⟩ := hT.at (i := j) (x := nd) (hnd)
    obtain ⟨K21, cK21, rfl, hk1_21, hk2_21, hk3_21⟩ := hR18
    refine Wp rfl <| st_indexAddr T.u22 T.size36 (congrArg (fun z => Value.slice z _ _) hA16) rfl (by omega) (by omega) <| fa T.fld36_4 rfl <| lL T.one34 rfl (hC17.at (j := 4) rfl) <| Wp rfl <| st_len (ct := #[34]) (by rw [show ((#[34] : Array TypeId)[0]?).bind Tryz.prog.underlying = some (.slice 38) from T.u34]; rfl) rfl <| Wp rfl <| st_add rfl rfl <| aI rfl <| wops_nil <| block_n <| then_n <| x_region rfl <| mI rfl <| Wp rfl <| st_addn rfl rfl (by constructor <;> omega) <| aI rfl <| en <| ⟨(j + 1, IntKind.i64.wrap (n + (nd.kids.length : Int))), ?_, ?_, rfl, ⟨rfl, rfl, trivial⟩, ?_⟩
    ·refine ⟨?_, HC, hT, hl, hb4⟩
     exact by omega
    ·show Z.length - (j + 1) < Z.length - j; omega
    exact q9
   ·try simp only [nm, ne_eq] at h2
    refine x_exit <| then_x <| then_x <| block_x <| then_n <| sr rfl <| mI rfl <| Wp rfl <| st_leq rfl rfl <| mB rfl <| w_split (d := 49) rfl (fun g22 => ?_) (fun g22 => ?_)
    ·try simp only [nm, ne_eq] at g22
     refine w_yes 2 49 true <| st_loadA (vs := [_, _, _]) T.agg24 rfl (hb4.cells (n := 3) (vs := [_, _, _]) rfl) rfl <| w_yes 2 49 true <| st_call (ags := [_]) rfl rfl T.ent14 rfl (Fit_spec hT hTl hD) ?_
     rintro _ w23 ⟨⟨bf, rfl, hfp⟩, c24⟩
     replace HC := HC.then c24
     refine pT rfl rfl <| aB rfl <| en <| x_ret <| ret_tmp (v := .bool _) rfl rfl ?_
     first | exact ⟨no_post, HC⟩ | exact ⟨bool_post fun h9 => by first | exact ⟨(hfp (by first | assumption | simp_all)).1, (hfp (by first | assumption | simp_all)).2, hla⟩ | (exfalso; simp_all; done), HC⟩
    ·try simp only [nm, ne_eq] at g22
     refine w_no 2 49 true <| w_no 2 49 true <| pF rfl rfl <| aB rfl <| en <| x_ret <| ret_tmp (v := .bool _) rfl rfl ?_
     first | exact ⟨no_post, HC⟩ | exact ⟨bool_post fun h9 => by first | exact ⟨(hfp (by first | assumption | simp_all)).1, (hfp (by first | assumption | simp_all)).2, hla⟩ | (exfalso; simp_all; done), HC⟩
  ·try simp only [nm, ne_eq] at g15
   refine w_no 5 32 true <| w_no 5 32 true <| pF rfl rfl <| en <| x_cond (t := false) rfl (fun h2 => ?_) (fun h2 => ?_)
   · exact absurd h2 (by decide)
   refine x_exit <| then_x <| then_x <| block_x <| then_n <| sr rfl <| mI rfl <| Wp rfl <| st_leq rfl rfl <| mB rfl <| w_split (d := 49) rfl (fun g25 => ?_) (fun g25 => ?_)
   ·try simp only [nm, ne_eq] at g25
    refine w_yes 2 49 true <| st_loadA (vs := [_, _, _]) T.agg24 rfl (hb4.cells (n := 3) (vs := [_, _, _]) rfl) rfl <| w_yes 2 49 true <| st_call (ags := [_]) rfl rfl T.ent14 rfl (Fit_spec hT hTl hD) ?_
    rintro _ w26 ⟨⟨bf, rfl, hfp⟩, c27⟩
    replace HC := HC.then c27
    refine pT rfl rfl <| aB rfl <| en <| x_ret <| ret_tmp (v := .bool _) rfl rfl ?_
    first | exact ⟨no_post, HC⟩ | exact ⟨bool_post fun h9 => by first | exact ⟨(hfp (by first | assumption | simp_all)).1, (hfp (by first | assumption | simp_all)).2, hla⟩ | (exfalso; simp_all; done), HC⟩
   ·try simp only [nm, ne_eq] at g25
    refine w_no 2 49 true <| w_no 2 49 true <| pF rfl rfl <| aB rfl <| en <| x_ret <| ret_tmp (v := .bool _) rfl rfl ?_
    first | exact ⟨no_post, HC⟩ | exact ⟨bool_post fun h9 => by first | exact ⟨(hfp (by first | assumption | simp_all)).1, (hfp (by first | assumption | simp_all)).2, hla⟩ | (exfalso; simp_all; done), HC⟩
theorem rsame_spec {A B : Option Addr} {ca cb : Nat} {Da Db : Nat → Prop} {a b : List Bytes} {w : World} (ha : Sl sE w Da A a) (hb : Sl sE w Db B b) (hla : a.length ≤ 1000000000) (hlb : b.length ≤ 1000000000) : CallR Tryz.prog 9 #[.slice A a.length ca, .slice B b.length cb] w fun v w' => v = .bool (decide (a = b)) ∧ Chg [] w w' := by
 refine callR_of_wp (args := [_, _]) Tryz.func9 rfl (Nat.le_of_ble_eq_true rfl) ?_
 have HC : Chg [] w w := .refl _
 refine sr rfl <| aB rfl <| en <| x_seq <| sr rfl <| mL rfl <| Wp rfl <| st_len (ct := #[29]) (by rw [show ((#[29] : Array TypeId)[0]?).bind Tryz.prog.underlying = some (.slice 9) from T.u29]; rfl) rfl <| mL rfl <| Wp rfl <| st_len (ct := #[29]) (by rw [show ((#[29] : Array TypeId)[0]?).bind Tryz.prog.underlying = some (.slice 9) from T.u29]; rfl) rfl <| Wp rfl <| st_neq rfl rfl <| en <| x_cond rfl (fun h0 => ?_) (fun h0 => ?_)
 ·try simp only [nm, ne_eq] at h0
  refine sr rfl <| aB rfl <| en <| x_ret <| then_r <| ret_tmp (v := .bool _) rfl rfl <| ⟨congrArg Value.bool (decide_eq_false (fun e => ?_)).symm, HC⟩
  rw [e] at h0; omega
 ·try simp only [nm, ne_eq] at h0
  have hll : a.length = b.length := by omega
  refine x_skip <| then_n <| x_seq <| sr rfl <| aI rfl <| en <| x_block <| x_loop (ι := Nat) [4, 5, 11, 12, 13, 14, 15, 16, 17, 18, 19, 20, 21, 22, 23, 24, 25] (fun i => [(5, .int .i64 (i : Int))]) (fun i W => (i ≤ a.length ∧ ∀ j, j < i → a[j]? = b[j]?) ∧ (Chg [] w W) ∧ (Sl sE W Da A a) ∧ (Sl sE W Db B b)) (fun i => a.length - i) 0 ?_ ?_ ?_
  · exact ⟨rfl, trivial⟩
  ·refine ⟨?_, HC, ha, hb⟩
   exact ⟨Nat.zero_le _, fun j hj => absurd hj (Nat.not_lt_zero _)⟩
  intro i G2 w1 ⟨⟨hi, hs⟩, HC, ha, hb⟩
  change wp _ _ _ _ _ (upds (over _ _ G2) [(5, .int .i64 (i : Int))]) _ _
  refine x_seq <| sr rfl <| mI rfl <| mL rfl <| Wp rfl <| st_len (ct := #[29]) (by rw [show ((#[29] : Array TypeId)[0]?).bind Tryz.prog.underlying = some (.slice 9) from T.u29]; rfl) rfl <| Wp rfl <| st_lss rfl rfl <| en <| x_cond rfl (fun h1 => ?_) (fun h1 => ?_)
  ·try simp only [nm, ne_eq] at h1
   obtain ⟨x, hx⟩ : ∃ x, a[i]? = some x := ⟨_, List.getElem?_eq_getElem (by omega)⟩
   obtain ⟨y, hy⟩ : ∃ x, b[i]? = some x := ⟨_, List.getElem?_eq_getElem (by omega)⟩
   refine x_skip <| then_n <| x_seq <| x_block <| x_seq ?_
   obtain ⟨lb7, _, vs6, hA3, hR5, hC4⟩ := ha.at (i := i) (x := x) (hx)
   obtain rfl : vs6 = [S x] := hR5
   obtain ⟨lb12, _, vs11, hA8, hR10, hC9⟩ := hb.at (i := i) (x := y) (hy)
   obtain rfl : vs11 = [S y] := hR10
   refine x_draw [(0, 0), (1, 0), (2, 0), (3, 0), (4, 0), (5, 0), (6, 0), (7, 0), (8, 0)] T.mixed rfl rfl rfl (fun W => W.heap[lb7]? = w1.heap[lb7]? ∧ W.heap[lb12]? = w1.heap[lb12]? ∧ True) ⟨rfl, rfl, trivial⟩ ?_
   have c14 := Chg.drew w1
   generalize World.drew w1 = w13 at c14 ⊢
   have ht_lb7 : lb7 < w13.heap.size ∧ w13.heap[lb7]? = w1.heap[lb7]? := ⟨Nat.lt_of_lt_of_le hC4.lt c14.size, c14.block lb7 hC4.lt (by simp)⟩
   have ht_lb12 : lb12 < w13.heap.size ∧ w13.heap[lb12]? = w1.heap[lb12]? := ⟨Nat.lt_of_lt_of_le hC9.lt c14.size, c14.block lb12 hC9.lt (by simp)⟩
   replace HC := HC.then c14
   replace ha := ha.tr0 c14
   replace hb := hb.tr0 c14
   refine sq_q rfl (fun W hT => r_move (v := .slice _ _ _) rfl) <| sq_q rfl (fun W hT => r_move (v := .int _ _) rfl) <| sq_q rfl (fun W hT => r_indexAddr T.u29 T.size9 (congrArg (fun z => Value.slice z _ _) hA3) rfl (by omega) (by omega)) <| sq_q rfl (fun W hT => r_load1 (v := S _) T.one9 rfl (Cells.at (j := 0) (Cells.tr hC4 hT.1) rfl)) <| sq_q rfl (fun W hT => r_move (v := .slice _ _ _) rfl) <| sq_q rfl (fun W hT => r_move (v := .int _ _) rfl) <| sq_q rfl (fun W hT => r_indexAddr T.u29 T.size9 (congrArg (fun z => Value.slice z _ _) hA8) rfl (by omega) (by omega)) <| sq_q rfl (fun W hT => r_load1 (v := S _) T.one9 rfl (Cells.at (j := 0) (Cells.tr hC9 hT.2.1) rfl)) <| sq_q rfl (fun W hT => r_sneq rfl rfl) <| sq_nil <| then_n <| x_cond rfl (fun h2 => ?_) (fun h2 => ?_)
   ·try simp only [nm, ne_eq] at h2
    refine sr rfl <| aB rfl <| en <| x_ret <| block_r <| then_r <| then_r <| block_r <| then_r <| ret_tmp (v := .bool _) rfl rfl <| ⟨congrArg Value.bool (decide_eq_false (fun e => ?_)).symm, HC⟩
    rw [e, hy] at hx; exact absurd (Option.some.inj hx).symm (by first | assumption | simpa using h2)
   ·try simp only [nm, ne_eq] at h2
    have hxy : x = y := by first | assumption | simpa using h2
    refine x_skip <| block_n <| then_n <| x_region rfl <| mI rfl <| Wp rfl <| st_addn rfl rfl (by constructor <;> omega) <| aI rfl <| en <| ⟨i + 1, ?_, ?_, rfl, ⟨rfl, trivial⟩, ?_⟩
    ·refine ⟨?_, HC, ha, hb⟩
     refine ⟨by omega, fun j hj => ?_⟩
     by_cases e : j = i
     · subst e; rw [hx, hy, hxy]
     · exact hs j (by omega)
    ·show a.length - (i + 1) < a.length - i; omega
    exact q9
  ·try simp only [nm, ne_eq] at h1
   refine x_exit <| then_x <| then_x <| block_x <| then_n <| sr rfl <| aB rfl <| en <| x_ret <| ret_tmp (v := .bool _) rfl rfl <| ⟨congrArg Value.bool (decide_eq_true (List.ext_getElem? fun j => ?_)).symm, HC⟩
   rcases Nat.lt_or_ge j a.length with h9 | h9; (exact hs j (by omega)); rw [List.getElem?_eq_none h9, List.getElem?_eq_none (by omega)]
end Go.Proofs.YtncnalboiljgiaaGreat.K
