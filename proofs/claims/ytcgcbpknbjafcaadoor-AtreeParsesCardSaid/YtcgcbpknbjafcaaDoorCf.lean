/- The document's fit rows. -/
import Derived.Test.YtcgcbpknbjafcaaDoorCe
import Derived.Test.YtcgcbpknbjafcaaDoorKitN
set_option linter.unusedVariables false
set_option linter.unusedSimpArgs false
set_option autoImplicit false
set_option maxRecDepth 20000
namespace Go.Proofs.YtcgcbpknbjafcaaDoor.K
open Go Go.Proofs Go.RowKit

/-- The level of an operator of two operands; 0: it is none. -/
def levelV (s : Bytes) : Int := if s = [124, 124] then 1 else if s = [38, 38] then 2 else if s = [124] then 3 else if s = [94] then 4 else if s = [38] then 5 else if s = [61, 61] then 6 else if s = [33, 61] then 6 else if s = [60] then 7 else if s = [60, 61] then 7 else if s = [62] then 7 else if s = [62, 61] then 7 else if s = [60, 60] then 8 else if s = [62, 62] then 8 else if s = [43] then 9 else if s = [45] then 9 else if s = [42] then 10 else if s = [47] then 10 else if s = [37] then 10 else 0
/-- An operation that can be, by itself. -/
def formP (x : Nd) : Bool :=
  if x.op = [35] then decide ((x.kids.length : Int) = 0) && (decide (x.name = []) && decide (0 ≤ x.num))
  else if x.op = [36] then decide ((x.kids.length : Int) = 0) && (nameV x.name && decide (x.num = 0))
  else if x.op ∈ asgL then decide ((x.kids.length : Int) = 1) && (nameV x.name && decide (x.num = 0))
  else if (x.op.length : Int) = 2 ∧ ((byte x.op 0).toNat : Int) = 117 ∧ x.op.drop 1 ∈ unL then decide ((x.kids.length : Int) = 1) && (decide (x.name = []) && decide (x.num = 0))
  else if x.op = [63] then decide ((x.kids.length : Int) = 3) && (decide (x.name = []) && decide (x.num = 0))
  else decide (0 < levelV x.op) && (decide ((x.kids.length : Int) = 2) && (decide (x.name = []) && decide (x.num = 0)))
def kidsN : List Nd → Nat
  | [] => 0
  | x :: l => x.kids.length + kidsN l
def fewN (l : List Nd) : Bool := decide (l.length ≤ 1100) && decide (kidsN l ≤ 5000)
def fitF : List Nd → Nat → List Int → Bool
  | [], _, st => decide (st.length = 1)
  | x :: l, i, st => if formP x = true ∧ x.kids.length ≤ st.length ∧ st.drop (st.length - x.kids.length) = x.kids then fitF l (i + 1) (st.take (st.length - x.kids.length) ++ [(i : Int)]) else false
def fitV (l : List Nd) : Bool := decide (1 ≤ l.length ∧ l.length ≤ 1000) && fitF l 0 []
theorem kidsN_append (a b : List Nd) : kidsN (a ++ b) = kidsN a + kidsN b := by induction a <;> simp_all [kidsN, Nat.add_assoc]
theorem kidsN_step {l : List Nd} {i : Nat} {x : Nd} (h : l[i]? = some x) : kidsN (l.take (i + 1)) = kidsN (l.take i) + x.kids.length := by
  rw [List.take_add_one, h, kidsN_append]; simp [kidsN]
theorem kidsN_take (l : List Nd) (i : Nat) : kidsN (l.take i) ≤ kidsN l := by
  have := kidsN_append (l.take i) (l.drop i); rw [List.take_append_drop] at this; omega

theorem RAssigns_spec (s : Bytes) (w : World) : CallR Tryd.prog 63 #[S s] w fun v w' => v = .bool (decide (s ∈ asgL)) ∧ Chg [] w w' := by
 refine callR_of_wp (args := [_]) Tryd.func63 rfl (Nat.le_of_ble_eq_true rfl) ?_
 have HC : Chg [] w w := .refl _
 refine sr rfl <| aB rfl <| en <| x_seq <| sr rfl <| mS rfl <| en <| x_block <| x_seq <| sr rfl <| Wp rfl <| st_seql rfl rfl <| aB rfl <| en <| x_cond rfl (fun h0 => ?_) (fun h0 => ?_)
 ·try simp only [nm, ne_eq] at h0
  refine x_skip <| then_n <| x_cond rfl (fun h10 => ?_) (fun h10 => ?_)
  rotate_left
  · exfalso; simp_all
  refine sr rfl <| aB rfl <| en <| x_ret <| block_r <| then_r <| ret_tmp (v := .bool _) rfl rfl <| ⟨congrArg Value.bool ?_, HC⟩
  symm
  simp [asgL, *]
 ·try simp only [nm, ne_eq] at h0
  refine sr rfl <| Wp rfl <| st_seql rfl rfl <| aB rfl <| en <| x_cond rfl (fun h1 => ?_) (fun h1 => ?_)
  ·try simp only [nm, ne_eq] at h1
   refine x_skip <| then_n <| x_cond rfl (fun h10 => ?_) (fun h10 => ?_)
   rotate_left
   · exfalso; simp_all
   refine sr rfl <| aB rfl <| en <| x_ret <| block_r <| then_r <| ret_tmp (v := .bool _) rfl rfl <| ⟨congrArg Value.bool ?_, HC⟩
   symm
   simp [asgL, *]
  ·try simp only [nm, ne_eq] at h1
   refine sr rfl <| Wp rfl <| st_seql rfl rfl <| aB rfl <| en <| x_cond rfl (fun h2 => ?_) (fun h2 => ?_)
   ·try simp only [nm, ne_eq] at h2
    refine x_skip <| then_n <| x_cond rfl (fun h10 => ?_) (fun h10 => ?_)
    rotate_left
    · exfalso; simp_all
    refine sr rfl <| aB rfl <| en <| x_ret <| block_r <| then_r <| ret_tmp (v := .bool _) rfl rfl <| ⟨congrArg Value.bool ?_, HC⟩
    symm
    simp [asgL, *]
   ·try simp only [nm, ne_eq] at h2
    refine sr rfl <| Wp rfl <| st_seql rfl rfl <| aB rfl <| en <| x_cond rfl (fun h3 => ?_) (fun h3 => ?_)
    ·try simp only [nm, ne_eq] at h3
     refine x_skip <| then_n <| x_cond rfl (fun h10 => ?_) (fun h10 => ?_)
     rotate_left
     · exfalso; simp_all
     refine sr rfl <| aB rfl <| en <| x_ret <| block_r <| then_r <| ret_tmp (v := .bool _) rfl rfl <| ⟨congrArg Value.bool ?_, HC⟩
     symm
     simp [asgL, *]
    ·try simp only [nm, ne_eq] at h3
     refine sr rfl <| Wp rfl <| st_seql rfl rfl <| aB rfl <| en <| x_cond rfl (fun h4 => ?_) (fun h4 => ?_)
     ·try simp only [nm, ne_eq] at h4
      refine x_skip <| then_n <| x_cond rfl (fun h10 => ?_) (fun h10 => ?_)
      rotate_left
      · exfalso; simp_all
      refine sr rfl <| aB rfl <| en <| x_ret <| block_r <| then_r <| ret_tmp (v := .bool _) rfl rfl <| ⟨congrArg Value.bool ?_, HC⟩
      symm
      simp [asgL, *]
     ·try simp only [nm, ne_eq] at h4
      refine sr rfl <| Wp rfl <| st_seql rfl rfl <| aB rfl <| en <| x_cond rfl (fun h5 => ?_) (fun h5 => ?_)
      ·try simp only [nm, ne_eq] at h5
       refine x_skip <| then_n <| x_cond rfl (fun h10 => ?_) (fun h10 => ?_)
       rotate_left
       · exfalso; simp_all
       refine sr rfl <| aB rfl <| en <| x_ret <| block_r <| then_r <| ret_tmp (v := .bool _) rfl rfl <| ⟨congrArg Value.bool ?_, HC⟩
       symm
       simp [asgL, *]
      ·try simp only [nm, ne_eq] at h5
       refine sr rfl <| Wp rfl <| st_seql rfl rfl <| aB rfl <| en <| x_cond rfl (fun h6 => ?_) (fun h6 => ?_)
       ·try simp only [nm, ne_eq] at h6
        refine x_skip <| then_n <| x_cond rfl (fun h10 => ?_) (fun h10 => ?_)
        rotate_left
        · exfalso; simp_all
        refine sr rfl <| aB rfl <| en <| x_ret <| block_r <| then_r <| ret_tmp (v := .bool _) rfl rfl <| ⟨congrArg Value.bool ?_, HC⟩
        symm
        simp [asgL, *]
       ·try simp only [nm, ne_eq] at h6
        refine sr rfl <| Wp rfl <| st_seql rfl rfl <| aB rfl <| en <| x_cond rfl (fun h7 => ?_) (fun h7 => ?_)
        ·try simp only [nm, ne_eq] at h7
         refine x_skip <| then_n <| x_cond rfl (fun h10 => ?_) (fun h10 => ?_)
         rotate_left
         · exfalso; simp_all
         refine sr rfl <| aB rfl <| en <| x_ret <| block_r <| then_r <| ret_tmp (v := .bool _) rfl rfl <| ⟨congrArg Value.bool ?_, HC⟩
         symm
         simp [asgL, *]
        ·try simp only [nm, ne_eq] at h7
         refine sr rfl <| Wp rfl <| st_seql rfl rfl <| aB rfl <| en <| x_cond rfl (fun h8 => ?_) (fun h8 => ?_)
         ·try simp only [nm, ne_eq] at h8
          refine x_skip <| then_n <| x_cond rfl (fun h10 => ?_) (fun h10 => ?_)
          rotate_left
          · exfalso; simp_all
          refine sr rfl <| aB rfl <| en <| x_ret <| block_r <| then_r <| ret_tmp (v := .bool _) rfl rfl <| ⟨congrArg Value.bool ?_, HC⟩
          symm
          simp [asgL, *]
         ·try simp only [nm, ne_eq] at h8
          refine sr rfl <| Wp rfl <| st_seql rfl rfl <| aB rfl <| en <| x_cond rfl (fun h9 => ?_) (fun h9 => ?_)
          ·try simp only [nm, ne_eq] at h9
           refine x_skip <| then_n <| x_cond rfl (fun h10 => ?_) (fun h10 => ?_)
           rotate_left
           · exfalso; simp_all
           refine sr rfl <| aB rfl <| en <| x_ret <| block_r <| then_r <| ret_tmp (v := .bool _) rfl rfl <| ⟨congrArg Value.bool ?_, HC⟩
           symm
           simp [asgL, *]
          ·try simp only [nm, ne_eq] at h9
           refine x_region rfl <| Wp rfl <| st_seql rfl rfl <| aB rfl <| en <| x_cond rfl (fun h10 => ?_) (fun h10 => ?_)
           ·try simp only [nm, ne_eq] at h10
            refine sr rfl <| aB rfl <| en <| x_ret <| block_r <| then_r <| ret_tmp (v := .bool _) rfl rfl <| ⟨congrArg Value.bool ?_, HC⟩
            symm
            simp [asgL, *]
           ·try simp only [nm, ne_eq] at h10
            refine x_skip <| block_n <| then_n <| sr rfl <| aB rfl <| en <| x_ret <| ret_tmp (v := .bool _) rfl rfl <| ⟨congrArg Value.bool ?_, HC⟩
            symm
            simp [asgL, *]

theorem Runary_spec (s : Bytes) (w : World) : CallR Tryd.prog 66 #[S s] w fun v w' => v = .bool (decide (s ∈ unL)) ∧ Chg [] w w' := by
 refine callR_of_wp (args := [_]) Tryd.func66 rfl (Nat.le_of_ble_eq_true rfl) ?_
 have HC : Chg [] w w := .refl _
 refine sr rfl <| aB rfl <| en <| sr rfl <| mS rfl <| Wp rfl <| st_seql rfl rfl <| mB rfl <| w_split (d := 5) rfl (fun g1 => ?_) (fun g1 => ?_)
 ·try simp only [nm, ne_eq] at g1
  refine w_no 2 5 false <| w_no 2 5 false <| pT rfl rfl <| mB rfl <| w_no 6 9 false <| w_no 6 9 false <| pT rfl rfl <| mB rfl <| w_no 10 13 false <| w_no 10 13 false <| pT rfl rfl <| aB rfl <| en <| x_ret <| ret_tmp (v := .bool _) rfl rfl <| ⟨congrArg Value.bool ?_, HC⟩
  rw [Bool.eq_iff_iff]
  simp [unL, *]
 ·try simp only [nm, ne_eq] at g1
  refine w_yes 2 5 false <| st_move (v := S _) rfl <| w_yes 2 5 false <| st_seql rfl rfl <| pF rfl rfl <| mB rfl <| w_split (d := 9) rfl (fun g2 => ?_) (fun g2 => ?_)
  ·try simp only [nm, ne_eq] at g2
   refine w_no 6 9 false <| w_no 6 9 false <| pT rfl rfl <| mB rfl <| w_no 10 13 false <| w_no 10 13 false <| pT rfl rfl <| aB rfl <| en <| x_ret <| ret_tmp (v := .bool _) rfl rfl <| ⟨congrArg Value.bool ?_, HC⟩
   rw [Bool.eq_iff_iff]
   simp [unL, *]
  ·try simp only [nm, ne_eq] at g2
   refine w_yes 6 9 false <| st_move (v := S _) rfl <| w_yes 6 9 false <| st_seql rfl rfl <| pF rfl rfl <| mB rfl <| w_split (d := 13) rfl (fun g3 => ?_) (fun g3 => ?_)
   ·try simp only [nm, ne_eq] at g3
    refine w_no 10 13 false <| w_no 10 13 false <| pT rfl rfl <| aB rfl <| en <| x_ret <| ret_tmp (v := .bool _) rfl rfl <| ⟨congrArg Value.bool ?_, HC⟩
    rw [Bool.eq_iff_iff]
    simp [unL, *]
   ·try simp only [nm, ne_eq] at g3
    refine w_yes 10 13 false <| st_move (v := S _) rfl <| w_yes 10 13 false <| st_seql rfl rfl <| pF rfl rfl <| aB rfl <| en <| x_ret <| ret_tmp (v := .bool _) rfl rfl <| ⟨congrArg Value.bool ?_, HC⟩
    rw [Bool.eq_iff_iff]
    simp [unL, *]

theorem Level_spec (s : Bytes) (w : World) : CallR Tryd.prog 67 #[S s] w fun v w' => v = .int .i64 (levelV s) ∧ Chg [] w w' := by
 refine callR_of_wp (args := [_]) Tryd.func67 rfl (Nat.le_of_ble_eq_true rfl) ?_
 have HC : Chg [] w w := .refl _
 refine sr rfl <| aI rfl <| en <| x_seq <| sr rfl <| mS rfl <| en <| x_block <| sr rfl <| Wp rfl <| st_seql rfl rfl <| aB rfl <| en <| x_cond rfl (fun h0 => ?_) (fun h0 => ?_)
 ·try simp only [nm, ne_eq] at h0
  refine sr rfl <| aI rfl <| en <| x_ret <| block_r <| then_r <| ret_tmp (v := .int _ _) rfl rfl <| ⟨congrArg (Value.int .i64) ?_, HC⟩
  symm
  simp [levelV, *]
 ·try simp only [nm, ne_eq] at h0
  refine sr rfl <| Wp rfl <| st_seql rfl rfl <| aB rfl <| en <| x_cond rfl (fun h1 => ?_) (fun h1 => ?_)
  ·try simp only [nm, ne_eq] at h1
   refine sr rfl <| aI rfl <| en <| x_ret <| block_r <| then_r <| ret_tmp (v := .int _ _) rfl rfl <| ⟨congrArg (Value.int .i64) ?_, HC⟩
   symm
   simp [levelV, *]
  ·try simp only [nm, ne_eq] at h1
   refine sr rfl <| Wp rfl <| st_seql rfl rfl <| aB rfl <| en <| x_cond rfl (fun h2 => ?_) (fun h2 => ?_)
   ·try simp only [nm, ne_eq] at h2
    refine sr rfl <| aI rfl <| en <| x_ret <| block_r <| then_r <| ret_tmp (v := .int _ _) rfl rfl <| ⟨congrArg (Value.int .i64) ?_, HC⟩
    symm
    simp [levelV, *]
   ·try simp only [nm, ne_eq] at h2
    refine sr rfl <| Wp rfl <| st_seql rfl rfl <| aB rfl <| en <| x_cond rfl (fun h3 => ?_) (fun h3 => ?_)
    ·try simp only [nm, ne_eq] at h3
     refine sr rfl <| aI rfl <| en <| x_ret <| block_r <| then_r <| ret_tmp (v := .int _ _) rfl rfl <| ⟨congrArg (Value.int .i64) ?_, HC⟩
     symm
     simp [levelV, *]
    ·try simp only [nm, ne_eq] at h3
     refine sr rfl <| Wp rfl <| st_seql rfl rfl <| aB rfl <| en <| x_cond rfl (fun h4 => ?_) (fun h4 => ?_)
     ·try simp only [nm, ne_eq] at h4
      refine sr rfl <| aI rfl <| en <| x_ret <| block_r <| then_r <| ret_tmp (v := .int _ _) rfl rfl <| ⟨congrArg (Value.int .i64) ?_, HC⟩
      symm
      simp [levelV, *]
     ·try simp only [nm, ne_eq] at h4
      refine x_seq <| sr rfl <| Wp rfl <| st_seql rfl rfl <| aB rfl <| en <| x_cond rfl (fun h5 => ?_) (fun h5 => ?_)
      ·try simp only [nm, ne_eq] at h5
       refine x_skip <| then_n <| x_cond rfl (fun h6 => ?_) (fun h6 => ?_)
       rotate_left
       · exfalso; simp_all
       refine sr rfl <| aI rfl <| en <| x_ret <| block_r <| then_r <| ret_tmp (v := .int _ _) rfl rfl <| ⟨congrArg (Value.int .i64) ?_, HC⟩
       symm
       simp [levelV, *]
      ·try simp only [nm, ne_eq] at h5
       refine x_region rfl <| Wp rfl <| st_seql rfl rfl <| aB rfl <| en <| x_cond rfl (fun h6 => ?_) (fun h6 => ?_)
       ·try simp only [nm, ne_eq] at h6
        refine sr rfl <| aI rfl <| en <| x_ret <| block_r <| then_r <| ret_tmp (v := .int _ _) rfl rfl <| ⟨congrArg (Value.int .i64) ?_, HC⟩
        symm
        simp [levelV, *]
       ·try simp only [nm, ne_eq] at h6
        refine x_seq <| sr rfl <| Wp rfl <| st_seql rfl rfl <| aB rfl <| en <| x_cond rfl (fun h7 => ?_) (fun h7 => ?_)
        ·try simp only [nm, ne_eq] at h7
         refine x_skip <| then_n <| x_cond rfl (fun h10 => ?_) (fun h10 => ?_)
         rotate_left
         · exfalso; simp_all
         refine sr rfl <| aI rfl <| en <| x_ret <| block_r <| then_r <| ret_tmp (v := .int _ _) rfl rfl <| ⟨congrArg (Value.int .i64) ?_, HC⟩
         symm
         simp [levelV, *]
        ·try simp only [nm, ne_eq] at h7
         refine sr rfl <| Wp rfl <| st_seql rfl rfl <| aB rfl <| en <| x_cond rfl (fun h8 => ?_) (fun h8 => ?_)
         ·try simp only [nm, ne_eq] at h8
          refine x_skip <| then_n <| x_cond rfl (fun h10 => ?_) (fun h10 => ?_)
          rotate_left
          · exfalso; simp_all
          refine sr rfl <| aI rfl <| en <| x_ret <| block_r <| then_r <| ret_tmp (v := .int _ _) rfl rfl <| ⟨congrArg (Value.int .i64) ?_, HC⟩
          symm
          simp [levelV, *]
         ·try simp only [nm, ne_eq] at h8
          refine sr rfl <| Wp rfl <| st_seql rfl rfl <| aB rfl <| en <| x_cond rfl (fun h9 => ?_) (fun h9 => ?_)
          ·try simp only [nm, ne_eq] at h9
           refine x_skip <| then_n <| x_cond rfl (fun h10 => ?_) (fun h10 => ?_)
           rotate_left
           · exfalso; simp_all
           refine sr rfl <| aI rfl <| en <| x_ret <| block_r <| then_r <| ret_tmp (v := .int _ _) rfl rfl <| ⟨congrArg (Value.int .i64) ?_, HC⟩
           symm
           simp [levelV, *]
          ·try simp only [nm, ne_eq] at h9
           refine x_region rfl <| Wp rfl <| st_seql rfl rfl <| aB rfl <| en <| x_cond rfl (fun h10 => ?_) (fun h10 => ?_)
           ·try simp only [nm, ne_eq] at h10
            refine sr rfl <| aI rfl <| en <| x_ret <| block_r <| then_r <| ret_tmp (v := .int _ _) rfl rfl <| ⟨congrArg (Value.int .i64) ?_, HC⟩
            symm
            simp [levelV, *]
           ·try simp only [nm, ne_eq] at h10
            refine x_seq <| sr rfl <| Wp rfl <| st_seql rfl rfl <| aB rfl <| en <| x_cond rfl (fun h11 => ?_) (fun h11 => ?_)
            ·try simp only [nm, ne_eq] at h11
             refine x_skip <| then_n <| x_cond rfl (fun h12 => ?_) (fun h12 => ?_)
             rotate_left
             · exfalso; simp_all
             refine sr rfl <| aI rfl <| en <| x_ret <| block_r <| then_r <| ret_tmp (v := .int _ _) rfl rfl <| ⟨congrArg (Value.int .i64) ?_, HC⟩
             symm
             simp [levelV, *]
            ·try simp only [nm, ne_eq] at h11
             refine x_region rfl <| Wp rfl <| st_seql rfl rfl <| aB rfl <| en <| x_cond rfl (fun h12 => ?_) (fun h12 => ?_)
             ·try simp only [nm, ne_eq] at h12
              refine sr rfl <| aI rfl <| en <| x_ret <| block_r <| then_r <| ret_tmp (v := .int _ _) rfl rfl <| ⟨congrArg (Value.int .i64) ?_, HC⟩
              symm
              simp [levelV, *]
             ·try simp only [nm, ne_eq] at h12
              refine x_seq <| sr rfl <| Wp rfl <| st_seql rfl rfl <| aB rfl <| en <| x_cond rfl (fun h13 => ?_) (fun h13 => ?_)
              ·try simp only [nm, ne_eq] at h13
               refine x_skip <| then_n <| x_cond rfl (fun h14 => ?_) (fun h14 => ?_)
               rotate_left
               · exfalso; simp_all
               refine sr rfl <| aI rfl <| en <| x_ret <| block_r <| then_r <| ret_tmp (v := .int _ _) rfl rfl <| ⟨congrArg (Value.int .i64) ?_, HC⟩
               symm
               simp [levelV, *]
              ·try simp only [nm, ne_eq] at h13
               refine x_region rfl <| Wp rfl <| st_seql rfl rfl <| aB rfl <| en <| x_cond rfl (fun h14 => ?_) (fun h14 => ?_)
               ·try simp only [nm, ne_eq] at h14
                refine sr rfl <| aI rfl <| en <| x_ret <| block_r <| then_r <| ret_tmp (v := .int _ _) rfl rfl <| ⟨congrArg (Value.int .i64) ?_, HC⟩
                symm
                simp [levelV, *]
               ·try simp only [nm, ne_eq] at h14
                refine x_seq <| sr rfl <| Wp rfl <| st_seql rfl rfl <| aB rfl <| en <| x_cond rfl (fun h15 => ?_) (fun h15 => ?_)
                ·try simp only [nm, ne_eq] at h15
                 refine x_skip <| then_n <| x_cond rfl (fun h17 => ?_) (fun h17 => ?_)
                 rotate_left
                 · exfalso; simp_all
                 refine sr rfl <| aI rfl <| en <| x_ret <| block_r <| then_r <| ret_tmp (v := .int _ _) rfl rfl <| ⟨congrArg (Value.int .i64) ?_, HC⟩
                 symm
                 simp [levelV, *]
                ·try simp only [nm, ne_eq] at h15
                 refine sr rfl <| Wp rfl <| st_seql rfl rfl <| aB rfl <| en <| x_cond rfl (fun h16 => ?_) (fun h16 => ?_)
                 ·try simp only [nm, ne_eq] at h16
                  refine x_skip <| then_n <| x_cond rfl (fun h17 => ?_) (fun h17 => ?_)
                  rotate_left
                  · exfalso; simp_all
                  refine sr rfl <| aI rfl <| en <| x_ret <| block_r <| then_r <| ret_tmp (v := .int _ _) rfl rfl <| ⟨congrArg (Value.int .i64) ?_, HC⟩
                  symm
                  simp [levelV, *]
                 ·try simp only [nm, ne_eq] at h16
                  refine x_region rfl <| Wp rfl <| st_seql rfl rfl <| aB rfl <| en <| x_cond rfl (fun h17 => ?_) (fun h17 => ?_)
                  ·try simp only [nm, ne_eq] at h17
                   refine sr rfl <| aI rfl <| en <| x_ret <| block_r <| then_r <| ret_tmp (v := .int _ _) rfl rfl <| ⟨congrArg (Value.int .i64) ?_, HC⟩
                   symm
                   simp [levelV, *]
                  ·try simp only [nm, ne_eq] at h17
                   refine x_skip <| block_n <| then_n <| sr rfl <| aI rfl <| en <| x_ret <| ret_tmp (v := .int _ _) rfl rfl <| ⟨congrArg (Value.int .i64) ?_, HC⟩
                   symm
                   simp [levelV, *]

theorem Rform_spec {D : Nat → Prop} {x : Nd} {vs : List Value} {w : World} (hx : ndE.R w D x vs) (hn : x.name.length ≤ 4611686018427387904) : CallR Tryd.prog 44 #[.agg ⟨vs⟩] w fun v w' => v = .bool (formP x) ∧ Chg [] w w' := by
 obtain ⟨K, cx, rfl, hk1, hk2, hk3⟩ := hx
 refine callR_of_wp (args := [_]) Tryd.func44 rfl (Nat.le_of_ble_eq_true rfl) ?_
 have HC : Chg [] w w := .refl _
 refine sr rfl <| Wp rfl <| st_box (v := .agg ⟨[S _, .int _ _, S _, .slice _ _ _]⟩) (vs := [_, _, _, _]) rfl rfl ?_
 intro b1 w2 e3 c4 hb5
 have ge_b1 : w.heap.size ≤ b1 := by rw [e3]; exact HC.size
 replace HC := HC.then c4
 clear e3
 refine aB rfl <| en <| sr rfl <| fa T.fld60_3 rfl <| lL T.one58 rfl (hb5.cell rfl) <| Wp rfl <| st_len (ct := #[58]) (by rw [show ((#[58] : Array TypeId)[0]?).bind Tryd.prog.underlying = some (.slice 3) from T.u58]; rfl) rfl <| aI rfl <| en <| x_seq <| x_block <| sr rfl <| fa T.fld60_0 rfl <| lS T.one9 rfl (hb5.cell rfl) <| Wp rfl <| st_seql rfl rfl <| aB rfl <| en <| x_cond rfl (fun h0 => ?_) (fun h0 => ?_)
 ·try simp only [nm, ne_eq] at h0
  refine sr rfl <| mI rfl <| Wp rfl <| st_eql rfl rfl <| mB rfl <| w_split (d := 13) rfl (fun g6 => ?_) (fun g6 => ?_)
  ·try simp only [nm, ne_eq] at g6
   refine w_yes 2 13 true <| st_fieldAddr T.fld60_2 rfl <| w_yes 2 13 true <| st_load1 (v := S _) T.one9 rfl (hb5.cell rfl) <| w_yes 2 13 true <| st_seql rfl rfl <| pT rfl rfl <| mB rfl <| w_split (d := 18) rfl (fun g7 => ?_) (fun g7 => ?_)
   ·try simp only [nm, ne_eq] at g7
    refine w_yes 7 18 true <| st_fieldAddr T.fld60_1 rfl <| w_yes 7 18 true <| st_load1 (v := .int _ _) T.one2 rfl (hb5.cell rfl) <| w_yes 7 18 true <| st_geq rfl rfl <| pT rfl rfl <| aB rfl <| en <| x_ret <| block_r <| then_r <| ret_tmp (v := .bool _) rfl rfl <| ⟨congrArg Value.bool ?_, HC⟩
    rw [Bool.eq_iff_iff]
    unfold formP
    first | (simp_all; done) | (simp_all; intros; omega)
   ·try simp only [nm, ne_eq] at g7
    iterate 3 refine w_no 7 18 true ?_
    refine pF rfl rfl <| aB rfl <| en <| x_ret <| block_r <| then_r <| ret_tmp (v := .bool _) rfl rfl <| ⟨congrArg Value.bool ?_, HC⟩
    rw [Bool.eq_iff_iff]
    unfold formP
    first | (simp_all; done) | (simp_all; intros; omega)
  ·try simp only [nm, ne_eq] at g6
   iterate 3 refine w_no 2 13 true ?_
   refine pF rfl rfl <| mB rfl ?_
   iterate 3 refine w_no 7 18 true ?_
   refine pF rfl rfl <| aB rfl <| en <| x_ret <| block_r <| then_r <| ret_tmp (v := .bool _) rfl rfl <| ⟨congrArg Value.bool ?_, HC⟩
   rw [Bool.eq_iff_iff]
   unfold formP
   first | (simp_all; done) | (simp_all; intros; omega)
 ·try simp only [nm, ne_eq] at h0
  refine sr rfl <| fa T.fld60_0 rfl <| lS T.one9 rfl (hb5.cell rfl) <| Wp rfl <| st_seql rfl rfl <| aB rfl <| en <| x_cond rfl (fun h1 => ?_) (fun h1 => ?_)
  ·try simp only [nm, ne_eq] at h1
   refine sr rfl <| mI rfl <| Wp rfl <| st_eql rfl rfl <| mB rfl <| w_split (d := 29) rfl (fun g8 => ?_) (fun g8 => ?_)
   ·try simp only [nm, ne_eq] at g8
    refine w_yes 2 29 true <| st_fieldAddr T.fld60_2 rfl <| w_yes 2 29 true <| st_load1 (v := S _) T.one9 rfl (hb5.cell rfl) <| w_yes 2 29 true <| st_call (ags := [_]) rfl rfl T.ent18 rfl (Name_spec _ _ hn) ?_
    rintro _ w9 ⟨rfl, c10⟩
    replace HC := HC.then c10
    replace hb5 := hb5.tr0 c10
    refine pT rfl rfl <| mB rfl <| w_split (d := 34) rfl (fun g11 => ?_) (fun g11 => ?_)
    ·try simp only [nm, ne_eq] at g11
     refine w_yes 7 34 true <| st_fieldAddr T.fld60_1 rfl <| w_yes 7 34 true <| st_load1 (v := .int _ _) T.one2 rfl (hb5.cell rfl) <| w_yes 7 34 true <| st_eql rfl rfl <| pT rfl rfl <| aB rfl <| en <| x_ret <| block_r <| then_r <| ret_tmp (v := .bool _) rfl rfl <| ⟨congrArg Value.bool ?_, HC⟩
     rw [Bool.eq_iff_iff]
     unfold formP
     first | (simp_all; done) | (simp_all; intros; omega)
    ·try simp only [nm, ne_eq] at g11
     iterate 3 refine w_no 7 34 true ?_
     refine pF rfl rfl <| aB rfl <| en <| x_ret <| block_r <| then_r <| ret_tmp (v := .bool _) rfl rfl <| ⟨congrArg Value.bool ?_, HC⟩
     rw [Bool.eq_iff_iff]
     unfold formP
     first | (simp_all; done) | (simp_all; intros; omega)
   ·try simp only [nm, ne_eq] at g8
    iterate 3 refine w_no 2 29 true ?_
    refine pF rfl rfl <| mB rfl ?_
    iterate 3 refine w_no 7 34 true ?_
    refine pF rfl rfl <| aB rfl <| en <| x_ret <| block_r <| then_r <| ret_tmp (v := .bool _) rfl rfl <| ⟨congrArg Value.bool ?_, HC⟩
    rw [Bool.eq_iff_iff]
    unfold formP
    first | (simp_all; done) | (simp_all; intros; omega)
  ·try simp only [nm, ne_eq] at h1
   refine sr rfl <| fa T.fld60_0 rfl <| lS T.one9 rfl (hb5.cell rfl) <| Wp rfl <| st_call (ags := [_]) rfl rfl T.ent63 rfl (RAssigns_spec _ _) ?_
   rintro _ w12 ⟨rfl, c13⟩
   replace HC := HC.then c13
   replace hb5 := hb5.tr0 c13
   refine aB rfl <| en <| x_cond rfl (fun h2 => ?_) (fun h2 => ?_)
   ·try simp only [nm, ne_eq] at h2
    refine sr rfl <| mI rfl <| Wp rfl <| st_eql rfl rfl <| mB rfl <| w_split (d := 45) rfl (fun g14 => ?_) (fun g14 => ?_)
    ·try simp only [nm, ne_eq] at g14
     refine w_yes 2 45 true <| st_fieldAddr T.fld60_2 rfl <| w_yes 2 45 true <| st_load1 (v := S _) T.one9 rfl (hb5.cell rfl) <| w_yes 2 45 true <| st_call (ags := [_]) rfl rfl T.ent18 rfl (Name_spec _ _ hn) ?_
     rintro _ w15 ⟨rfl, c16⟩
     replace HC := HC.then c16
     replace hb5 := hb5.tr0 c16
     refine pT rfl rfl <| mB rfl <| w_split (d := 50) rfl (fun g17 => ?_) (fun g17 => ?_)
     ·try simp only [nm, ne_eq] at g17
      refine w_yes 7 50 true <| st_fieldAddr T.fld60_1 rfl <| w_yes 7 50 true <| st_load1 (v := .int _ _) T.one2 rfl (hb5.cell rfl) <| w_yes 7 50 true <| st_eql rfl rfl <| pT rfl rfl <| aB rfl <| en <| x_ret <| block_r <| then_r <| ret_tmp (v := .bool _) rfl rfl <| ⟨congrArg Value.bool ?_, HC⟩
      rw [Bool.eq_iff_iff]
      unfold formP
      first | (simp_all; done) | (simp_all; intros; omega)
     ·try simp only [nm, ne_eq] at g17
      iterate 3 refine w_no 7 50 true ?_
      refine pF rfl rfl <| aB rfl <| en <| x_ret <| block_r <| then_r <| ret_tmp (v := .bool _) rfl rfl <| ⟨congrArg Value.bool ?_, HC⟩
      rw [Bool.eq_iff_iff]
      unfold formP
      first | (simp_all; done) | (simp_all; intros; omega)
    ·try simp only [nm, ne_eq] at g14
     iterate 3 refine w_no 2 45 true ?_
     refine pF rfl rfl <| mB rfl ?_
     iterate 3 refine w_no 7 50 true ?_
     refine pF rfl rfl <| aB rfl <| en <| x_ret <| block_r <| then_r <| ret_tmp (v := .bool _) rfl rfl <| ⟨congrArg Value.bool ?_, HC⟩
     rw [Bool.eq_iff_iff]
     unfold formP
     first | (simp_all; done) | (simp_all; intros; omega)
   ·try simp only [nm, ne_eq] at h2
    refine sr rfl <| fa T.fld60_0 rfl <| lS T.one9 rfl (hb5.cell rfl) <| Wp rfl <| st_slen (ct := #[9]) T.u9 rfl <| Wp rfl <| st_eql rfl rfl <| mB rfl <| w_split (d := 60) rfl (fun g18 => ?_) (fun g18 => ?_)
    ·try simp only [nm, ne_eq] at g18
     refine w_yes 4 60 true <| st_fieldAddr T.fld60_0 rfl <| w_yes 4 60 true <| st_load1 (v := S _) T.one9 rfl (hb5.cell rfl) <| w_yes 4 60 true <| st_sidx T.u9 rfl rfl (by omega) (by omega) <| w_yes 4 60 true <| st_eql rfl rfl <| pT rfl rfl <| mB rfl <| w_split (d := 66) rfl (fun g19 => ?_) (fun g19 => ?_)
     ·try simp only [nm, ne_eq] at g19
      refine w_yes 10 66 true <| st_fieldAddr T.fld60_0 rfl <| w_yes 10 66 true <| st_load1 (v := S _) T.one9 rfl (hb5.cell rfl) <| w_yes 10 66 true <| st_sslo (i := 1) T.u9 rfl ⟨_, rfl⟩ (by omega) <| w_yes 10 66 true <| st_call (ags := [_]) rfl rfl T.ent66 rfl (Runary_spec _ _) ?_
      rintro _ w20 ⟨rfl, c21⟩
      replace HC := HC.then c21
      replace hb5 := hb5.tr0 c21
      refine pT rfl rfl <| aB rfl <| en <| x_cond rfl (fun h3 => ?_) (fun h3 => ?_)
      ·try simp only [nm, ne_eq] at h3
       refine sr rfl <| mI rfl <| Wp rfl <| st_eql rfl rfl <| mB rfl <| w_split (d := 74) rfl (fun g22 => ?_) (fun g22 => ?_)
       ·try simp only [nm, ne_eq] at g22
        refine w_yes 2 74 true <| st_fieldAddr T.fld60_2 rfl <| w_yes 2 74 true <| st_load1 (v := S _) T.one9 rfl (hb5.cell rfl) <| w_yes 2 74 true <| st_seql rfl rfl <| pT rfl rfl <| mB rfl <| w_split (d := 79) rfl (fun g23 => ?_) (fun g23 => ?_)
        ·try simp only [nm, ne_eq] at g23
         refine w_yes 7 79 true <| st_fieldAddr T.fld60_1 rfl <| w_yes 7 79 true <| st_load1 (v := .int _ _) T.one2 rfl (hb5.cell rfl) <| w_yes 7 79 true <| st_eql rfl rfl <| pT rfl rfl <| aB rfl <| en <| x_ret <| block_r <| then_r <| ret_tmp (v := .bool _) rfl rfl <| ⟨congrArg Value.bool ?_, HC⟩
         rw [Bool.eq_iff_iff]
         unfold formP
         first | (simp_all; done) | (simp_all; intros; omega)
        ·try simp only [nm, ne_eq] at g23
         iterate 3 refine w_no 7 79 true ?_
         refine pF rfl rfl <| aB rfl <| en <| x_ret <| block_r <| then_r <| ret_tmp (v := .bool _) rfl rfl <| ⟨congrArg Value.bool ?_, HC⟩
         rw [Bool.eq_iff_iff]
         unfold formP
         first | (simp_all; done) | (simp_all; intros; omega)
       ·try simp only [nm, ne_eq] at g22
        iterate 3 refine w_no 2 74 true ?_
        refine pF rfl rfl <| mB rfl ?_
        iterate 3 refine w_no 7 79 true ?_
        refine pF rfl rfl <| aB rfl <| en <| x_ret <| block_r <| then_r <| ret_tmp (v := .bool _) rfl rfl <| ⟨congrArg Value.bool ?_, HC⟩
        rw [Bool.eq_iff_iff]
        unfold formP
        first | (simp_all; done) | (simp_all; intros; omega)
      ·try simp only [nm, ne_eq] at h3
       refine sr rfl <| fa T.fld60_0 rfl <| lS T.one9 rfl (hb5.cell rfl) <| Wp rfl <| st_seql rfl rfl <| aB rfl <| en <| x_cond rfl (fun h4 => ?_) (fun h4 => ?_)
       ·try simp only [nm, ne_eq] at h4
        refine sr rfl <| mI rfl <| Wp rfl <| st_eql rfl rfl <| mB rfl <| w_split (d := 90) rfl (fun g24 => ?_) (fun g24 => ?_)
        ·try simp only [nm, ne_eq] at g24
         refine w_yes 2 90 true <| st_fieldAddr T.fld60_2 rfl <| w_yes 2 90 true <| st_load1 (v := S _) T.one9 rfl (hb5.cell rfl) <| w_yes 2 90 true <| st_seql rfl rfl <| pT rfl rfl <| mB rfl <| w_split (d := 95) rfl (fun g25 => ?_) (fun g25 => ?_)
         ·try simp only [nm, ne_eq] at g25
          refine w_yes 7 95 true <| st_fieldAddr T.fld60_1 rfl <| w_yes 7 95 true <| st_load1 (v := .int _ _) T.one2 rfl (hb5.cell rfl) <| w_yes 7 95 true <| st_eql rfl rfl <| pT rfl rfl <| aB rfl <| en <| x_ret <| block_r <| then_r <| ret_tmp (v := .bool _) rfl rfl <| ⟨congrArg Value.bool ?_, HC⟩
          rw [Bool.eq_iff_iff]
          unfold formP
          first | (simp_all; done) | (simp_all; intros; omega)
         ·try simp only [nm, ne_eq] at g25
          iterate 3 refine w_no 7 95 true ?_
          refine pF rfl rfl <| aB rfl <| en <| x_ret <| block_r <| then_r <| ret_tmp (v := .bool _) rfl rfl <| ⟨congrArg Value.bool ?_, HC⟩
          rw [Bool.eq_iff_iff]
          unfold formP
          first | (simp_all; done) | (simp_all; intros; omega)
        ·try simp only [nm, ne_eq] at g24
         iterate 3 refine w_no 2 90 true ?_
         refine pF rfl rfl <| mB rfl ?_
         iterate 3 refine w_no 7 95 true ?_
         refine pF rfl rfl <| aB rfl <| en <| x_ret <| block_r <| then_r <| ret_tmp (v := .bool _) rfl rfl <| ⟨congrArg Value.bool ?_, HC⟩
         rw [Bool.eq_iff_iff]
         unfold formP
         first | (simp_all; done) | (simp_all; intros; omega)
       ·try simp only [nm, ne_eq] at h4
        refine x_skip <| block_n <| then_n <| sr rfl <| fa T.fld60_0 rfl <| lS T.one9 rfl (hb5.cell rfl) <| Wp rfl <| st_call (ags := [_]) rfl rfl T.ent67 rfl (Level_spec _ _) ?_
        rintro _ w26 ⟨rfl, c27⟩
        replace HC := HC.then c27
        replace hb5 := hb5.tr0 c27
        refine Wp rfl <| st_gtr rfl rfl <| mB rfl <| w_split (d := 104) rfl (fun g28 => ?_) (fun g28 => ?_)
        ·try simp only [nm, ne_eq] at g28
         refine w_yes 4 104 true <| st_move (v := .int _ _) rfl <| w_yes 4 104 true <| st_eql rfl rfl <| pT rfl rfl <| mB rfl <| w_split (d := 108) rfl (fun g29 => ?_) (fun g29 => ?_)
         ·try simp only [nm, ne_eq] at g29
          refine w_yes 8 108 true <| st_fieldAddr T.fld60_2 rfl <| w_yes 8 108 true <| st_load1 (v := S _) T.one9 rfl (hb5.cell rfl) <| w_yes 8 108 true <| st_seql rfl rfl <| pT rfl rfl <| mB rfl <| w_split (d := 113) rfl (fun g30 => ?_) (fun g30 => ?_)
          ·try simp only [nm, ne_eq] at g30
           refine w_yes 13 113 true <| st_fieldAddr T.fld60_1 rfl <| w_yes 13 113 true <| st_load1 (v := .int _ _) T.one2 rfl (hb5.cell rfl) <| w_yes 13 113 true <| st_eql rfl rfl <| pT rfl rfl <| aB rfl <| en <| x_ret <| ret_tmp (v := .bool _) rfl rfl <| ⟨congrArg Value.bool ?_, HC⟩
           rw [Bool.eq_iff_iff]
           unfold formP
           first | (simp_all; done) | (simp_all; intros; omega)
          ·try simp only [nm, ne_eq] at g30
           iterate 3 refine w_no 13 113 true ?_
           refine pF rfl rfl <| aB rfl <| en <| x_ret <| ret_tmp (v := .bool _) rfl rfl <| ⟨congrArg Value.bool ?_, HC⟩
           rw [Bool.eq_iff_iff]
           unfold formP
           first | (simp_all; done) | (simp_all; intros; omega)
         ·try simp only [nm, ne_eq] at g29
          iterate 3 refine w_no 8 108 true ?_
          refine pF rfl rfl <| mB rfl ?_
          iterate 3 refine w_no 13 113 true ?_
          refine pF rfl rfl <| aB rfl <| en <| x_ret <| ret_tmp (v := .bool _) rfl rfl <| ⟨congrArg Value.bool ?_, HC⟩
          rw [Bool.eq_iff_iff]
          unfold formP
          first | (simp_all; done) | (simp_all; intros; omega)
        ·try simp only [nm, ne_eq] at g28
         refine w_no 4 104 true <| w_no 4 104 true <| pF rfl rfl <| mB rfl ?_
         iterate 3 refine w_no 8 108 true ?_
         refine pF rfl rfl <| mB rfl ?_
         iterate 3 refine w_no 13 113 true ?_
         refine pF rfl rfl <| aB rfl <| en <| x_ret <| ret_tmp (v := .bool _) rfl rfl <| ⟨congrArg Value.bool ?_, HC⟩
         rw [Bool.eq_iff_iff]
         unfold formP
         first | (simp_all; done) | (simp_all; intros; omega)
     ·try simp only [nm, ne_eq] at g19
      iterate 4 refine w_no 10 66 true ?_
      refine pF rfl rfl <| aB rfl <| en <| x_cond (t := false) rfl (fun h3 => ?_) (fun h3 => ?_)
      · exact absurd h3 (by decide)
      refine sr rfl <| fa T.fld60_0 rfl <| lS T.one9 rfl (hb5.cell rfl) <| Wp rfl <| st_seql rfl rfl <| aB rfl <| en <| x_cond rfl (fun h4 => ?_) (fun h4 => ?_)
      ·try simp only [nm, ne_eq] at h4
       refine sr rfl <| mI rfl <| Wp rfl <| st_eql rfl rfl <| mB rfl <| w_split (d := 90) rfl (fun g31 => ?_) (fun g31 => ?_)
       ·try simp only [nm, ne_eq] at g31
        refine w_yes 2 90 true <| st_fieldAddr T.fld60_2 rfl <| w_yes 2 90 true <| st_load1 (v := S _) T.one9 rfl (hb5.cell rfl) <| w_yes 2 90 true <| st_seql rfl rfl <| pT rfl rfl <| mB rfl <| w_split (d := 95) rfl (fun g32 => ?_) (fun g32 => ?_)
        ·try simp only [nm, ne_eq] at g32
         refine w_yes 7 95 true <| st_fieldAddr T.fld60_1 rfl <| w_yes 7 95 true <| st_load1 (v := .int _ _) T.one2 rfl (hb5.cell rfl) <| w_yes 7 95 true <| st_eql rfl rfl <| pT rfl rfl <| aB rfl <| en <| x_ret <| block_r <| then_r <| ret_tmp (v := .bool _) rfl rfl <| ⟨congrArg Value.bool ?_, HC⟩
         rw [Bool.eq_iff_iff]
         unfold formP
         first | (simp_all; done) | (simp_all; intros; omega)
        ·try simp only [nm, ne_eq] at g32
         iterate 3 refine w_no 7 95 true ?_
         refine pF rfl rfl <| aB rfl <| en <| x_ret <| block_r <| then_r <| ret_tmp (v := .bool _) rfl rfl <| ⟨congrArg Value.bool ?_, HC⟩
         rw [Bool.eq_iff_iff]
         unfold formP
         first | (simp_all; done) | (simp_all; intros; omega)
       ·try simp only [nm, ne_eq] at g31
        iterate 3 refine w_no 2 90 true ?_
        refine pF rfl rfl <| mB rfl ?_
        iterate 3 refine w_no 7 95 true ?_
        refine pF rfl rfl <| aB rfl <| en <| x_ret <| block_r <| then_r <| ret_tmp (v := .bool _) rfl rfl <| ⟨congrArg Value.bool ?_, HC⟩
        rw [Bool.eq_iff_iff]
        unfold formP
        first | (simp_all; done) | (simp_all; intros; omega)
      ·try simp only [nm, ne_eq] at h4
       refine x_skip <| block_n <| then_n <| sr rfl <| fa T.fld60_0 rfl <| lS T.one9 rfl (hb5.cell rfl) <| Wp rfl <| st_call (ags := [_]) rfl rfl T.ent67 rfl (Level_spec _ _) ?_
       rintro _ w33 ⟨rfl, c34⟩
       replace HC := HC.then c34
       replace hb5 := hb5.tr0 c34
       refine Wp rfl <| st_gtr rfl rfl <| mB rfl <| w_split (d := 104) rfl (fun g35 => ?_) (fun g35 => ?_)
       ·try simp only [nm, ne_eq] at g35
        refine w_yes 4 104 true <| st_move (v := .int _ _) rfl <| w_yes 4 104 true <| st_eql rfl rfl <| pT rfl rfl <| mB rfl <| w_split (d := 108) rfl (fun g36 => ?_) (fun g36 => ?_)
        ·try simp only [nm, ne_eq] at g36
         refine w_yes 8 108 true <| st_fieldAddr T.fld60_2 rfl <| w_yes 8 108 true <| st_load1 (v := S _) T.one9 rfl (hb5.cell rfl) <| w_yes 8 108 true <| st_seql rfl rfl <| pT rfl rfl <| mB rfl <| w_split (d := 113) rfl (fun g37 => ?_) (fun g37 => ?_)
         ·try simp only [nm, ne_eq] at g37
          refine w_yes 13 113 true <| st_fieldAddr T.fld60_1 rfl <| w_yes 13 113 true <| st_load1 (v := .int _ _) T.one2 rfl (hb5.cell rfl) <| w_yes 13 113 true <| st_eql rfl rfl <| pT rfl rfl <| aB rfl <| en <| x_ret <| ret_tmp (v := .bool _) rfl rfl <| ⟨congrArg Value.bool ?_, HC⟩
          rw [Bool.eq_iff_iff]
          unfold formP
          first | (simp_all; done) | (simp_all; intros; omega)
         ·try simp only [nm, ne_eq] at g37
          iterate 3 refine w_no 13 113 true ?_
          refine pF rfl rfl <| aB rfl <| en <| x_ret <| ret_tmp (v := .bool _) rfl rfl <| ⟨congrArg Value.bool ?_, HC⟩
          rw [Bool.eq_iff_iff]
          unfold formP
          first | (simp_all; done) | (simp_all; intros; omega)
        ·try simp only [nm, ne_eq] at g36
         iterate 3 refine w_no 8 108 true ?_
         refine pF rfl rfl <| mB rfl ?_
         iterate 3 refine w_no 13 113 true ?_
         refine pF rfl rfl <| aB rfl <| en <| x_ret <| ret_tmp (v := .bool _) rfl rfl <| ⟨congrArg Value.bool ?_, HC⟩
         rw [Bool.eq_iff_iff]
         unfold formP
         first | (simp_all; done) | (simp_all; intros; omega)
       ·try simp only [nm, ne_eq] at g35
        refine w_no 4 104 true <| w_no 4 104 true <| pF rfl rfl <| mB rfl ?_
        iterate 3 refine w_no 8 108 true ?_
        refine pF rfl rfl <| mB rfl ?_
        iterate 3 refine w_no 13 113 true ?_
        refine pF rfl rfl <| aB rfl <| en <| x_ret <| ret_tmp (v := .bool _) rfl rfl <| ⟨congrArg Value.bool ?_, HC⟩
        rw [Bool.eq_iff_iff]
        unfold formP
        first | (simp_all; done) | (simp_all; intros; omega)
    ·try simp only [nm, ne_eq] at g18
     iterate 4 refine w_no 4 60 true ?_
     refine pF rfl rfl <| mB rfl ?_
     iterate 4 refine w_no 10 66 true ?_
     refine pF rfl rfl <| aB rfl <| en <| x_cond (t := false) rfl (fun h3 => ?_) (fun h3 => ?_)
     · exact absurd h3 (by decide)
     refine sr rfl <| fa T.fld60_0 rfl <| lS T.one9 rfl (hb5.cell rfl) <| Wp rfl <| st_seql rfl rfl <| aB rfl <| en <| x_cond rfl (fun h4 => ?_) (fun h4 => ?_)
     ·try simp only [nm, ne_eq] at h4
      refine sr rfl <| mI rfl <| Wp rfl <| st_eql rfl rfl <| mB rfl <| w_split (d := 90) rfl (fun g38 => ?_) (fun g38 => ?_)
      ·try simp only [nm, ne_eq] at g38
       refine w_yes 2 90 true <| st_fieldAddr T.fld60_2 rfl <| w_yes 2 90 true <| st_load1 (v := S _) T.one9 rfl (hb5.cell rfl) <| w_yes 2 90 true <| st_seql rfl rfl <| pT rfl rfl <| mB rfl <| w_split (d := 95) rfl (fun g39 => ?_) (fun g39 => ?_)
       ·try simp only [nm, ne_eq] at g39
        refine w_yes 7 95 true <| st_fieldAddr T.fld60_1 rfl <| w_yes 7 95 true <| st_load1 (v := .int _ _) T.one2 rfl (hb5.cell rfl) <| w_yes 7 95 true <| st_eql rfl rfl <| pT rfl rfl <| aB rfl <| en <| x_ret <| block_r <| then_r <| ret_tmp (v := .bool _) rfl rfl <| ⟨congrArg Value.bool ?_, HC⟩
        rw [Bool.eq_iff_iff]
        unfold formP
        first | (simp_all; done) | (simp_all; intros; omega)
       ·try simp only [nm, ne_eq] at g39
        iterate 3 refine w_no 7 95 true ?_
        refine pF rfl rfl <| aB rfl <| en <| x_ret <| block_r <| then_r <| ret_tmp (v := .bool _) rfl rfl <| ⟨congrArg Value.bool ?_, HC⟩
        rw [Bool.eq_iff_iff]
        unfold formP
        first | (simp_all; done) | (simp_all; intros; omega)
      ·try simp only [nm, ne_eq] at g38
       iterate 3 refine w_no 2 90 true ?_
       refine pF rfl rfl <| mB rfl ?_
       iterate 3 refine w_no 7 95 true ?_
       refine pF rfl rfl <| aB rfl <| en <| x_ret <| block_r <| then_r <| ret_tmp (v := .bool _) rfl rfl <| ⟨congrArg Value.bool ?_, HC⟩
       rw [Bool.eq_iff_iff]
       unfold formP
       first | (simp_all; done) | (simp_all; intros; omega)
     ·try simp only [nm, ne_eq] at h4
      refine x_skip <| block_n <| then_n <| sr rfl <| fa T.fld60_0 rfl <| lS T.one9 rfl (hb5.cell rfl) <| Wp rfl <| st_call (ags := [_]) rfl rfl T.ent67 rfl (Level_spec _ _) ?_
      rintro _ w40 ⟨rfl, c41⟩
      replace HC := HC.then c41
      replace hb5 := hb5.tr0 c41
      refine Wp rfl <| st_gtr rfl rfl <| mB rfl <| w_split (d := 104) rfl (fun g42 => ?_) (fun g42 => ?_)
      ·try simp only [nm, ne_eq] at g42
       refine w_yes 4 104 true <| st_move (v := .int _ _) rfl <| w_yes 4 104 true <| st_eql rfl rfl <| pT rfl rfl <| mB rfl <| w_split (d := 108) rfl (fun g43 => ?_) (fun g43 => ?_)
       ·try simp only [nm, ne_eq] at g43
        refine w_yes 8 108 true <| st_fieldAddr T.fld60_2 rfl <| w_yes 8 108 true <| st_load1 (v := S _) T.one9 rfl (hb5.cell rfl) <| w_yes 8 108 true <| st_seql rfl rfl <| pT rfl rfl <| mB rfl <| w_split (d := 113) rfl (fun g44 => ?_) (fun g44 => ?_)
        ·try simp only [nm, ne_eq] at g44
         refine w_yes 13 113 true <| st_fieldAddr T.fld60_1 rfl <| w_yes 13 113 true <| st_load1 (v := .int _ _) T.one2 rfl (hb5.cell rfl) <| w_yes 13 113 true <| st_eql rfl rfl <| pT rfl rfl <| aB rfl <| en <| x_ret <| ret_tmp (v := .bool _) rfl rfl <| ⟨congrArg Value.bool ?_, HC⟩
         rw [Bool.eq_iff_iff]
         unfold formP
         first | (simp_all; done) | (simp_all; intros; omega)
        ·try simp only [nm, ne_eq] at g44
         iterate 3 refine w_no 13 113 true ?_
         refine pF rfl rfl <| aB rfl <| en <| x_ret <| ret_tmp (v := .bool _) rfl rfl <| ⟨congrArg Value.bool ?_, HC⟩
         rw [Bool.eq_iff_iff]
         unfold formP
         first | (simp_all; done) | (simp_all; intros; omega)
       ·try simp only [nm, ne_eq] at g43
        iterate 3 refine w_no 8 108 true ?_
        refine pF rfl rfl <| mB rfl ?_
        iterate 3 refine w_no 13 113 true ?_
        refine pF rfl rfl <| aB rfl <| en <| x_ret <| ret_tmp (v := .bool _) rfl rfl <| ⟨congrArg Value.bool ?_, HC⟩
        rw [Bool.eq_iff_iff]
        unfold formP
        first | (simp_all; done) | (simp_all; intros; omega)
      ·try simp only [nm, ne_eq] at g42
       refine w_no 4 104 true <| w_no 4 104 true <| pF rfl rfl <| mB rfl ?_
       iterate 3 refine w_no 8 108 true ?_
       refine pF rfl rfl <| mB rfl ?_
       iterate 3 refine w_no 13 113 true ?_
       refine pF rfl rfl <| aB rfl <| en <| x_ret <| ret_tmp (v := .bool _) rfl rfl <| ⟨congrArg Value.bool ?_, HC⟩
       rw [Bool.eq_iff_iff]
       unfold formP
       first | (simp_all; done) | (simp_all; intros; omega)

theorem few_spec {l : List Nd} {Al : Option Addr} {capl : Nat} {D : Nat → Prop} {w : World} (hl : Sl ndE w D Al l) (hK : ∀ x, x ∈ l → x.kids.length ≤ 140737488355328 ∧ x.name.length ≤ 140737488355328) (hlen : l.length ≤ 140737488355328) : CallR Tryd.prog 19 #[.slice Al l.length capl] w fun v w' => v = .bool (fewN l) ∧ Chg [] w w' := by
 refine callR_of_wp (args := [_]) Tryd.func19 rfl (Nat.le_of_ble_eq_true rfl) ?_
 have HC : Chg [] w w := .refl _
 refine sr rfl <| aB rfl <| en <| sr rfl <| aI rfl <| en <| x_seq <| sr rfl <| aI rfl <| en <| x_block <| x_loop (ι := Nat) [3, 4, 5, 6, 7, 8, 9, 10, 11, 12, 13, 14, 15, 16, 17, 18, 19, 20, 21, 22] (fun i => [(4, .int .i64 (i : Int)), (3, .int .i64 ((kidsN (l.take i) : Nat) : Int))]) (fun i W => (i ≤ l.length) ∧ (Chg [] w W) ∧ (Sl ndE W D Al l)) (fun i => l.length - i) 0 ?_ ?_ ?_
 · exact ⟨rfl, rfl, trivial⟩
 ·refine ⟨?_, HC, hl⟩
  exact Nat.zero_le _
 intro i G2 w1 ⟨hi, HC, hl⟩
 change wp _ _ _ _ _ (upds (over _ _ G2) [(4, .int .i64 (i : Int)), (3, .int .i64 ((kidsN (l.take i) : Nat) : Int))]) _ _
 refine x_seq <| sr rfl <| mI rfl <| mL rfl <| Wp rfl <| st_len (ct := #[39]) (by rw [show ((#[39] : Array TypeId)[0]?).bind Tryd.prog.underlying = some (.slice 60) from T.u39]; rfl) rfl <| Wp rfl <| st_lss rfl rfl <| mB rfl <| w_split (d := 9) rfl (fun g3 => ?_) (fun g3 => ?_)
 ·try simp only [nm, ne_eq] at g3
  refine w_yes 4 9 true <| st_move (v := .int _ _) rfl <| w_yes 4 9 true <| st_leq rfl rfl <| pT rfl rfl <| en <| x_cond rfl (fun h0 => ?_) (fun h0 => ?_)
  ·try simp only [nm, ne_eq] at h0
   refine x_skip <| then_n <| x_seq <| x_block <| x_region rfl <| mI rfl <| mL rfl <| mI rfl ?_
   obtain ⟨x, hx4⟩ : ∃ zz, l[i]? = some zz := ⟨_, List.getElem?_eq_getElem (by omega)⟩
   obtain ⟨lb9, _, vs8, hA5, hR7, hC6⟩ := hl.at hx4
   obtain ⟨K10, cK10, rfl, hk1_10, hk2_10, hk3_10⟩ := hR7
   have hKx10 := hK x (List.mem_of_getElem? hx4)
   refine Wp rfl <| st_indexAddr T.u39 T.size60 (congrArg (fun z => Value.slice z _ _) hA5) rfl (by omega) (by omega) <| fa T.fld60_3 rfl <| lL T.one58 rfl (hC6.at (j := 3) rfl) <| Wp rfl <| st_len (ct := #[58]) (by rw [show ((#[58] : Array TypeId)[0]?).bind Tryd.prog.underlying = some (.slice 3) from T.u58]; rfl) rfl <| Wp rfl <| st_addn rfl rfl (by constructor <;> omega) <| aI rfl <| wops_nil <| block_n <| then_n <| x_region rfl <| mI rfl <| Wp rfl <| st_addn rfl rfl (by constructor <;> omega) <| aI rfl <| en <| ⟨i + 1, ?_, ?_, rfl, ⟨rfl, by rw [kidsN_step hx4]; rfl, trivial⟩, ?_⟩
   ·refine ⟨?_, HC, hl⟩
    show i + 1 ≤ l.length; omega
   ·show l.length - (i + 1) < l.length - i; omega
   repeat (first | exact agree_upds agree_over rfl | refine agree_upd ?_ rfl | refine agree_upds ?_ rfl | refine agree_over_sub ?_ rfl)
  ·try simp only [nm, ne_eq] at h0
   have hkt := kidsN_take l i
   have hfew : (decide ((l.length : Int) ≤ 1100) && decide (((kidsN (l.take i) : Nat) : Int) ≤ 5000)) = fewN l := by
       unfold fewN
       by_cases hi2 : i < l.length
       · have h5 : ¬ (((kidsN (l.take i) : Nat) : Int) ≤ 5000) := by omega
         rw [decide_eq_false h5, decide_eq_false (show ¬ kidsN l ≤ 5000 by omega), Bool.and_false, Bool.and_false]
       · rw [List.take_of_length_le (by omega)]
         congr 1 <;> (rw [decide_eq_decide]; omega)
   refine x_exit <| then_x <| then_x <| block_x <| then_n <| sr rfl <| mL rfl <| Wp rfl <| st_len (ct := #[39]) (by rw [show ((#[39] : Array TypeId)[0]?).bind Tryd.prog.underlying = some (.slice 60) from T.u39]; rfl) rfl <| Wp rfl <| st_leq rfl rfl <| mB rfl <| w_split (d := 26) rfl (fun g11 => ?_) (fun g11 => ?_)
   ·try simp only [nm, ne_eq] at g11
    refine w_yes 3 26 true <| st_move (v := .int _ _) rfl <| w_yes 3 26 true <| st_leq rfl rfl <| pT rfl rfl <| aB rfl <| en <| x_ret <| ret_tmp (v := .bool _) rfl rfl <| ⟨congrArg Value.bool ?_, HC⟩
    rw [← hfew]
    first | (simp_all; done) | (simp_all; intros; omega)
   ·try simp only [nm, ne_eq] at g11
    refine w_no 3 26 true <| w_no 3 26 true <| pF rfl rfl <| aB rfl <| en <| x_ret <| ret_tmp (v := .bool _) rfl rfl <| ⟨congrArg Value.bool ?_, HC⟩
    rw [← hfew]
    first | (simp_all; done) | (simp_all; intros; omega)
 ·try simp only [nm, ne_eq] at g3
  refine w_no 4 9 true <| w_no 4 9 true <| pF rfl rfl <| en <| x_cond (t := false) rfl (fun h0 => ?_) (fun h0 => ?_)
  · exact absurd h0 (by decide)
  have hkt := kidsN_take l i
  have hfew : (decide ((l.length : Int) ≤ 1100) && decide (((kidsN (l.take i) : Nat) : Int) ≤ 5000)) = fewN l := by
      unfold fewN
      by_cases hi2 : i < l.length
      · have h5 : ¬ (((kidsN (l.take i) : Nat) : Int) ≤ 5000) := by omega
        rw [decide_eq_false h5, decide_eq_false (show ¬ kidsN l ≤ 5000 by omega), Bool.and_false, Bool.and_false]
      · rw [List.take_of_length_le (by omega)]
        congr 1 <;> (rw [decide_eq_decide]; omega)
  refine x_exit <| then_x <| then_x <| block_x <| then_n <| sr rfl <| mL rfl <| Wp rfl <| st_len (ct := #[39]) (by rw [show ((#[39] : Array TypeId)[0]?).bind Tryd.prog.underlying = some (.slice 60) from T.u39]; rfl) rfl <| Wp rfl <| st_leq rfl rfl <| mB rfl <| w_split (d := 26) rfl (fun g12 => ?_) (fun g12 => ?_)
  ·try simp only [nm, ne_eq] at g12
   refine w_yes 3 26 true <| st_move (v := .int _ _) rfl <| w_yes 3 26 true <| st_leq rfl rfl <| pT rfl rfl <| aB rfl <| en <| x_ret <| ret_tmp (v := .bool _) rfl rfl <| ⟨congrArg Value.bool ?_, HC⟩
   rw [← hfew]
   first | (simp_all; done) | (simp_all; intros; omega)
  ·try simp only [nm, ne_eq] at g12
   refine w_no 3 26 true <| w_no 3 26 true <| pF rfl rfl <| aB rfl <| en <| x_ret <| ret_tmp (v := .bool _) rfl rfl <| ⟨congrArg Value.bool ?_, HC⟩
   rw [← hfew]
   first | (simp_all; done) | (simp_all; intros; omega)

theorem fitF_step {l : List Nd} {i : Nat} {x : Nd} {st : List Int} (h : l[i]? = some x) : fitF (l.drop i) i st = if formP x = true ∧ x.kids.length ≤ st.length ∧ st.drop (st.length - x.kids.length) = x.kids then fitF (l.drop (i + 1)) (i + 1) (st.take (st.length - x.kids.length) ++ [(i : Int)]) else false := by
  obtain ⟨hi, he⟩ := List.getElem?_eq_some_iff.1 h
  rw [List.drop_eq_getElem_cons hi, he, fitF]

theorem RFit_spec {l : List Nd} {Al : Option Addr} {capl : Nat} {D : Nat → Prop} {w : World} (hl : Sl ndE w D Al l) (hK : ∀ x, x ∈ l → x.kids.length ≤ 140737488355328 ∧ x.name.length ≤ 140737488355328) (hlen : l.length ≤ 140737488355328) : CallR Tryd.prog 24 #[.slice Al l.length capl] w fun v w' => v = .bool (fitV l) ∧ Chg [] w w' := by
 replace hl := hl.mono (D' := fun k => k < w.heap.size) (fun k hk _ => hk)
 refine callR_of_wp (args := [_]) Tryd.func24 rfl (Nat.le_of_ble_eq_true rfl) ?_
 have HC : Chg [] w w := .refl _
 refine sr rfl <| aB rfl <| en <| x_seq <| sr rfl <| mL rfl <| Wp rfl <| st_len (ct := #[39]) (by rw [show ((#[39] : Array TypeId)[0]?).bind Tryd.prog.underlying = some (.slice 60) from T.u39]; rfl) rfl <| Wp rfl <| st_lss rfl rfl <| mB rfl <| w_split (d := 11) rfl (fun g1 => ?_) (fun g1 => ?_)
 ·try simp only [nm, ne_eq] at g1
  iterate 3 refine w_no 3 11 false ?_
  refine pT rfl rfl <| en <| x_cond (t := true) rfl (fun h0 => ?_) (fun h0 => ?_)
  rotate_left
  · exact absurd h0 (by decide)
  have hfv : fitV l = false := by unfold fitV; rw [decide_eq_false (by omega)]; rfl
  refine sr rfl <| aB rfl <| en <| x_ret <| then_r <| ret_tmp (v := .bool _) rfl rfl <| ⟨congrArg Value.bool ?_, HC⟩
  rw [hfv]
  first | (rw [hbad]; done) | rfl | (rw [hfi, List.drop_of_length_le (by omega), fitF, decide_eq_decide]; omega) | skip
 ·try simp only [nm, ne_eq] at g1
  refine w_yes 3 11 false <| st_move (v := .slice _ _ _) rfl <| w_yes 3 11 false <| st_len (ct := #[39]) (by rw [show ((#[39] : Array TypeId)[0]?).bind Tryd.prog.underlying = some (.slice 60) from T.u39]; rfl) rfl <| w_yes 3 11 false <| st_gtr rfl rfl <| pF rfl rfl <| en <| x_cond rfl (fun h0 => ?_) (fun h0 => ?_)
  ·try simp only [nm, ne_eq] at h0
   have hfv : fitV l = false := by unfold fitV; rw [decide_eq_false (by omega)]; rfl
   refine sr rfl <| aB rfl <| en <| x_ret <| then_r <| ret_tmp (v := .bool _) rfl rfl <| ⟨congrArg Value.bool ?_, HC⟩
   rw [hfv]
   first | (rw [hbad]; done) | rfl | (rw [hfi, List.drop_of_length_le (by omega), fitF, decide_eq_decide]; omega) | skip
  ·try simp only [nm, ne_eq] at h0
   have hfv : fitV l = fitF l 0 [] := by unfold fitV; rw [decide_eq_true (by omega)]; rfl
   refine x_skip <| then_n <| sr rfl <| aL rfl <| en <| x_seq <| sr rfl <| aI rfl <| en <| x_block <| x_loop (ι := Nat × List Int × Option Addr × Nat) [2, 3, 4, 5, 6, 7, 16, 17, 18, 19, 20, 21, 22, 23, 24, 25, 26, 27, 28, 29, 30, 31, 32, 33, 34, 35, 36, 37, 38, 39, 40, 41, 42, 43, 44, 45, 46, 47, 48, 49, 50, 51, 52, 53, 54, 55, 56, 57, 58, 59, 60, 61, 62, 63, 64, 65, 66, 67, 68, 69] (fun ⟨i, st, A, cap⟩ => [(4, .int .i64 (i : Int)), (3, .slice A st.length cap)]) (fun ⟨i, st, A, cap⟩ W => (i ≤ l.length ∧ fitF l 0 [] = fitF (l.drop i) i st ∧ st.length ≤ i) ∧ (Chg [] w W) ∧ (Sl ndE W (fun k => k < w.heap.size) Al l) ∧ (Own (iE .i64) 3 W (fun k => w.heap.size ≤ k) A cap st)) (fun ⟨i, st, A, cap⟩ => l.length - i) (0, [], none, 0) ?_ ?_ ?_
   · exact ⟨rfl, rfl, trivial⟩
   ·refine ⟨?_, HC, hl, Own.nil⟩
    exact ⟨Nat.zero_le _, rfl, Nat.le_refl _⟩
   intro ⟨i, st, A, cap⟩ G3 w2 ⟨⟨hi, hfi, hsl⟩, HC, hl, ho⟩
   change wp _ _ _ _ _ (upds (over _ _ G3) [(4, .int .i64 (i : Int)), (3, .slice A st.length cap)]) _ _
   have hst := ho.sl
   refine x_seq <| sr rfl <| mI rfl <| mL rfl <| Wp rfl <| st_len (ct := #[39]) (by rw [show ((#[39] : Array TypeId)[0]?).bind Tryd.prog.underlying = some (.slice 60) from T.u39]; rfl) rfl <| Wp rfl <| st_lss rfl rfl <| en <| x_cond rfl (fun h1 => ?_) (fun h1 => ?_)
   ·try simp only [nm, ne_eq] at h1
    refine x_skip <| then_n <| x_seq <| x_block <| sr rfl <| mL rfl <| mI rfl ?_
    obtain ⟨x, hx4⟩ : ∃ zz, l[i]? = some zz := ⟨_, List.getElem?_eq_getElem (by omega)⟩
    obtain ⟨lb9, _, vs8, hA5, hR7, hC6⟩ := hl.at hx4
    obtain ⟨K10, cK10, rfl, hk1_10, hk2_10, hk3_10⟩ := hR7
    have hKx10 := hK x (List.mem_of_getElem? hx4)
    refine Wp rfl <| st_indexAddr T.u39 T.size60 (congrArg (fun z => Value.slice z _ _) hA5) rfl (by omega) (by omega) <| fa T.fld60_3 rfl <| lL T.one58 rfl (hC6.at (j := 3) rfl) <| Wp rfl <| st_len (ct := #[58]) (by rw [show ((#[58] : Array TypeId)[0]?).bind Tryd.prog.underlying = some (.slice 3) from T.u58]; rfl) rfl <| aI rfl <| en <| x_seq <| x_seq ?_
    have hx0 := hx4
    have hKx := hK x (List.mem_of_getElem? hx0)
    refine x_region rfl <| mL rfl <| mI rfl ?_
    obtain ⟨lb15, _, vs14, hA11, hR13, hC12⟩ := hl.at (i := i) (x := x) (hx0)
    obtain ⟨K16, cK16, rfl, hk1_16, hk2_16, hk3_16⟩ := hR13
    have hKx16 := hK x (List.mem_of_getElem? (hx0))
    refine Wp rfl <| st_indexAddr T.u39 T.size60 (congrArg (fun z => Value.slice z _ _) hA11) rfl (by omega) (by omega) <| Wp rfl <| st_loadA (vs := [_, _, _, _]) T.agg60 rfl hC12 rfl <| Wp rfl <| st_call (ags := [_]) rfl rfl T.ent44 rfl (Rform_spec (x := x) (D := fun k => k < w.heap.size) ⟨_, _, rfl, hk1_16, hk2_16, hk3_16⟩ (by omega)) ?_
    rintro _ w17 ⟨rfl, c18⟩
    replace HC := HC.then c18
    replace hl := hl.tr0 c18
    replace ho := ho.tr0 c18
    replace hst := hst.tr0 c18
    replace hk3_10 := hk3_10.tr0 c18
    replace hk3_16 := hk3_16.tr0 c18
    refine Wp rfl <| st_not rfl <| mB rfl <| w_split (d := 34) rfl (fun g19 => ?_) (fun g19 => ?_)
    ·try simp only [nm, ne_eq] at g19
     iterate 4 refine w_no 6 34 false ?_
     refine pT rfl rfl <| en <| x_cond (t := true) rfl (fun h2 => ?_) (fun h2 => ?_)
     rotate_left
     · exact absurd h2 (by decide)
     have hbad : fitF l 0 [] = false := by rw [hfi, fitF_step hx0, if_neg (by rintro ⟨q1, q2, q3⟩; first | omega | simp_all)]
     refine sr rfl <| aB rfl <| en <| x_ret <| then_r <| block_r <| then_r <| then_r <| block_r <| then_r <| ret_tmp (v := .bool _) rfl rfl <| ⟨congrArg Value.bool ?_, HC⟩
     rw [hfv]
     first | (rw [hbad]; done) | rfl | (rw [hfi, List.drop_of_length_le (by omega), fitF, decide_eq_decide]; omega) | skip
    ·try simp only [nm, ne_eq] at g19
     refine w_yes 6 34 false <| st_move (v := .int _ _) rfl <| w_yes 6 34 false <| st_move (v := .slice _ _ _) rfl <| w_yes 6 34 false <| st_len (ct := #[58]) (by rw [show ((#[58] : Array TypeId)[0]?).bind Tryd.prog.underlying = some (.slice 3) from T.u58]; rfl) rfl <| w_yes 6 34 false <| st_gtr rfl rfl <| pF rfl rfl <| en <| x_cond rfl (fun h2 => ?_) (fun h2 => ?_)
     ·try simp only [nm, ne_eq] at h2
      have hbad : fitF l 0 [] = false := by rw [hfi, fitF_step hx0, if_neg (by rintro ⟨q1, q2, q3⟩; first | omega | simp_all)]
      refine sr rfl <| aB rfl <| en <| x_ret <| then_r <| block_r <| then_r <| then_r <| block_r <| then_r <| ret_tmp (v := .bool _) rfl rfl <| ⟨congrArg Value.bool ?_, HC⟩
      rw [hfv]
      first | (rw [hbad]; done) | rfl | (rw [hfi, List.drop_of_length_le (by omega), fitF, decide_eq_decide]; omega) | skip
     ·try simp only [nm, ne_eq] at h2
      have hform : formP x = true := by first | assumption | simp_all
      have hkl : x.kids.length ≤ st.length := by omega
      have hs43 : IntKind.i64.wrap ((st.length : Int) - (x.kids.length : Int)) = ((st.length - x.kids.length : Nat) : Int) := by rw [wrap64_id (by omega) (by omega)]; omega
      refine x_skip <| then_n <| sr rfl <| mL rfl <| Wp rfl <| st_len (ct := #[58]) (by rw [show ((#[58] : Array TypeId)[0]?).bind Tryd.prog.underlying = some (.slice 3) from T.u58]; rfl) rfl <| mI rfl <| Wp rfl <| st_subk rfl rfl (by exact hs43) <| aI rfl <| en <| x_seq <| sr rfl <| aI rfl <| en <| x_block <| x_loop (ι := Nat) [2, 7, 44, 45, 46, 47, 48, 49, 50, 51, 52, 53, 54, 55, 56, 57, 58, 59, 60, 61, 62, 63] (fun j => [(7, .int .i64 (j : Int))]) (fun j W => (j ≤ x.kids.length ∧ (st.drop (st.length - x.kids.length)).take j = x.kids.take j) ∧ (Chg [] w W) ∧ (Sl ndE W (fun k => k < w.heap.size) Al l) ∧ (Own (iE .i64) 3 W (fun k => w.heap.size ≤ k) A cap st) ∧ (Sl (iE .i64) W (fun k => w.heap.size ≤ k) A st)) (fun j => x.kids.length - j) 0 ?_ ?_ ?_
      · exact ⟨rfl, trivial⟩
      ·refine ⟨?_, HC, hl, ho, hst⟩
       exact ⟨Nat.zero_le _, by simp⟩
      intro j G21 w20 ⟨⟨hj, hjt⟩, HC, hl, ho, hst⟩
      change wp _ _ _ _ _ (upds (over _ _ G21) [(7, .int .i64 (j : Int))]) _ _
      refine x_seq <| sr rfl <| mI rfl <| mI rfl <| Wp rfl <| st_lss rfl rfl <| en <| x_cond rfl (fun h3 => ?_) (fun h3 => ?_)
      ·try simp only [nm, ne_eq] at h3
       refine x_skip <| then_n <| x_seq <| x_block <| x_seq ?_
       obtain ⟨lb26, _, vs25, hA22, hR24, hC23⟩ := hl.at (i := i) (x := x) (hx0)
       obtain ⟨K27, cK27, rfl, hk1_27, hk2_27, hk3_27⟩ := hR24
       have hKx27 := hK x (List.mem_of_getElem? (hx0))
       obtain ⟨x28, hx29⟩ : ∃ zz, x.kids[j]? = some zz := ⟨_, List.getElem?_eq_getElem (by omega)⟩
       obtain ⟨lb34, _, vs33, hA30, hR32, hC31⟩ := hk3_27.at hx29
       obtain rfl : vs33 = [.int .i64 x28] := hR32
       obtain ⟨x35, hx36⟩ : ∃ zz, st[((st.length - x.kids.length) + j)]? = some zz := ⟨_, List.getElem?_eq_getElem (by omega)⟩
       obtain ⟨lb41, _, vs40, hA37, hR39, hC38⟩ := hst.at hx36
       obtain rfl : vs40 = [.int .i64 x35] := hR39
       refine x_draw [(0, 0), (1, 0), (2, 0), (3, 0), (4, 0), (5, 0), (6, 0), (7, 0), (8, 0), (9, 0), (10, 0), (11, 0), (12, 0), (13, 0), (14, 0)] T.mixed rfl rfl rfl (fun W => W.heap[lb26]? = w20.heap[lb26]? ∧ W.heap[lb34]? = w20.heap[lb34]? ∧ W.heap[lb41]? = w20.heap[lb41]? ∧ True) ⟨rfl, rfl, rfl, trivial⟩ ?_
       have c43 := Chg.drew w20
       generalize World.drew w20 = w42 at c43 ⊢
       have ht_lb26 : lb26 < w42.heap.size ∧ w42.heap[lb26]? = w20.heap[lb26]? := ⟨Nat.lt_of_lt_of_le hC23.lt c43.size, c43.block lb26 hC23.lt (by simp)⟩
       have ht_lb34 : lb34 < w42.heap.size ∧ w42.heap[lb34]? = w20.heap[lb34]? := ⟨Nat.lt_of_lt_of_le hC31.lt c43.size, c43.block lb34 hC31.lt (by simp)⟩
       have ht_lb41 : lb41 < w42.heap.size ∧ w42.heap[lb41]? = w20.heap[lb41]? := ⟨Nat.lt_of_lt_of_le hC38.lt c43.size, c43.block lb41 hC38.lt (by simp)⟩
       replace HC := HC.then c43
       replace hl := hl.tr0 c43
       replace ho := ho.tr0 c43
       replace hst := hst.tr0 c43
       replace hk3_27 := hk3_27.tr0 c43
       refine sq_q rfl (fun W hT => r_move (v := .slice _ _ _) rfl) <| sq_q rfl (fun W hT => r_move (v := .int _ _) rfl) <| sq_q rfl (fun W hT => r_indexAddr T.u39 T.size60 (congrArg (fun z => Value.slice z _ _) hA22) rfl (by omega) (by omega)) <| sq_q rfl (fun W hT => r_fieldAddr T.fld60_3 rfl) <| sq_q rfl (fun W hT => r_load1 (v := .slice _ _ _) T.one58 rfl (Cells.at (j := 3) (Cells.tr hC23 hT.1) rfl)) <| sq_q rfl (fun W hT => r_move (v := .int _ _) rfl) <| sq_q rfl (fun W hT => r_indexAddr T.u58 T.size3 (congrArg (fun z => Value.slice z _ _) hA30) rfl (by omega) (by omega)) <| sq_q rfl (fun W hT => r_load1 (v := .int _ _) T.one3 rfl (Cells.at (j := 0) (Cells.tr hC31 hT.2.1) rfl)) <| sq_q rfl (fun W hT => r_move (v := .slice _ _ _) rfl) <| sq_q rfl (fun W hT => r_move (v := .int _ _) rfl) <| sq_q rfl (fun W hT => r_move (v := .int _ _) rfl) <| sq_q rfl (fun W hT => r_addn rfl rfl (by constructor <;> omega)) <| sq_q rfl (fun W hT => r_indexAddr T.u58 T.size3 (congrArg (fun z => Value.slice z _ _) hA37) rfl (by omega) (by omega)) <| sq_q rfl (fun W hT => r_load1 (v := .int _ _) T.one3 rfl (Cells.at (j := 0) (Cells.tr hC38 hT.2.2.1) rfl)) <| sq_q rfl (fun W hT => r_neq rfl rfl) <| sq_nil <| then_n <| x_cond rfl (fun h4 => ?_) (fun h4 => ?_)
       ·try simp only [nm, ne_eq] at h4
        have hbad : fitF l 0 [] = false := by rw [hfi, fitF_step hx0, if_neg (by rintro ⟨q1, q2, q3⟩; apply h4; have e1 := congrArg (fun z => z[j]?) q3; simp only [List.getElem?_drop] at e1; exact (Option.some.inj (hx36.symm.trans (e1.trans hx29))).symm)]
        refine sr rfl <| aB rfl <| en <| x_ret <| block_r <| then_r <| then_r <| block_r <| then_r <| block_r <| then_r <| then_r <| block_r <| then_r <| ret_tmp (v := .bool _) rfl rfl <| ⟨congrArg Value.bool ?_, HC⟩
        rw [hfv]
        first | (rw [hbad]; done) | rfl | (rw [hfi, List.drop_of_length_le (by omega), fitF, decide_eq_decide]; omega) | skip
       ·try simp only [nm, ne_eq] at h4
        refine x_skip <| block_n <| then_n <| x_region rfl <| mI rfl <| Wp rfl <| st_addn rfl rfl (by constructor <;> omega) <| aI rfl <| en <| ⟨j + 1, ?_, ?_, rfl, ⟨rfl, trivial⟩, ?_⟩
        ·refine ⟨?_, HC, hl, ho, hst⟩
         exact ⟨by omega, take_same hjt (by rw [List.getElem?_drop]; exact hx36) hx29 h4.symm⟩
        ·show x.kids.length - (j + 1) < x.kids.length - j; omega
        repeat (first | exact agree_upds agree_over rfl | refine agree_upd ?_ rfl | refine agree_upds ?_ rfl | refine agree_over_sub ?_ rfl)
      ·try simp only [nm, ne_eq] at h3
       have hkd : st.drop (st.length - x.kids.length) = x.kids := by rw [List.take_of_length_le (by rw [List.length_drop]; omega), List.take_of_length_le (by omega)] at hjt; exact hjt
       refine x_exit <| then_x <| then_x <| block_x <| then_n <| x_region rfl <| mL rfl <| mI rfl <| Wp rfl <| st_cut (xs := st) (j := (st.length - x.kids.length)) T.u58 T.size3 rfl ⟨_, rfl⟩ (by omega) (by have := ho.le; omega) ?_
       have hcut44 := ho.take (k := (st.length - x.kids.length)) (by omega)
       have htkhcut44 : (st.take (st.length - x.kids.length)).length ≤ st.length := by rw [List.length_take]; omega
       refine mI rfl <| Wp rfl <| st_lit (ps := [(0, .tmp 67)]) (vs := [.int _ _]) T.lit58 (by decide) rfl (by simp only [List.forall_mem_cons, List.not_mem_nil, false_imp_iff, implies_true, and_true]; exact rfl) rfl ?_
       intro b45 w46 e47 c48 hb49
       have ge_b45 : w.heap.size ≤ b45 := by rw [e47]; exact HC.size
       have na_b45 : b45 ∉ ob A := hcut44.fresh (by rw [e47]; exact Nat.le_refl _)
       replace HC := HC.then c48
       replace hl := hl.tr0 c48
       replace hcut44 := hcut44.tr0 c48
       clear e47
       have hszA := HC.size
       refine Wp rfl <| st_append2 (c := (iE .i64)) (D2 := fun _ => False) (xs := (st.take (st.length - x.kids.length))) (ys := [(i : Int)]) T.slice58 rfl rfl hcut44 rfl rfl (one_elem rfl (hb49.cells (n := 1) rfl)) (fun _ _ h => h.elim) (fun k hk => by have := HC.size; omega) (by simp only [List.length_cons, List.length_nil]; omega) (by simp only [List.length_cons, List.length_nil]; omega) ?_
       intro A50 cap51 w52 ho53 c54 hg55
       replace HC := HC.trans c54 (fun k hk => .inr (hcut44.inD k hk))
       replace hl := hl.tr c54 (by intro k hx hD; have h1 := hcut44.inD k hx; omega)
       replace hb49 := hb49.tr c54 (fun hx => by first | (have h1 := hcut44.inD _ hx; omega) | exact na_b45 hx | exact hav _ hx (by simp))
       refine aL rfl <| wops_nil <| block_n <| then_n <| x_region rfl <| mI rfl <| Wp rfl <| st_addn rfl rfl (by constructor <;> omega) <| aI rfl <| en <| ⟨(i + 1, st.take (st.length - x.kids.length) ++ [(i : Int)], A50, cap51), ?_, ?_, rfl, ⟨rfl, rfl, trivial⟩, ?_⟩
       ·refine ⟨?_, HC, hl, ho53⟩
        exact ⟨by omega, by rw [hfi, fitF_step hx0, if_pos ⟨hform, hkl, hkd⟩], by simp only [List.length_append, List.length_take, List.length_cons, List.length_nil]; omega⟩
       ·show l.length - (i + 1) < l.length - i; omega
       repeat (first | exact agree_upds agree_over rfl | refine agree_upd ?_ rfl | refine agree_upds ?_ rfl | refine agree_over_sub ?_ rfl)
   ·try simp only [nm, ne_eq] at h1
    refine x_exit <| then_x <| then_x <| block_x <| then_n <| sr rfl <| mL rfl <| Wp rfl <| st_len (ct := #[58]) (by rw [show ((#[58] : Array TypeId)[0]?).bind Tryd.prog.underlying = some (.slice 3) from T.u58]; rfl) rfl <| Wp rfl <| st_eql rfl rfl <| aB rfl <| en <| x_ret <| ret_tmp (v := .bool _) rfl rfl <| ⟨congrArg Value.bool ?_, HC⟩
    rw [hfv]
    first | (rw [hbad]; done) | rfl | (rw [hfi, List.drop_of_length_le (by omega), fitF, decide_eq_decide]; omega) | skip

end Go.Proofs.YtcgcbpknbjafcaaDoor.K
