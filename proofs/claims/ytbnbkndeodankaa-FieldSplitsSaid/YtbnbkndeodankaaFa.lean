/- Walks. -/
import Derived.Test.YtbnbkndeodankaaLib
import Derived.Test.YtbnbkndeodankaaTy
set_option linter.unusedVariables false
set_option linter.unusedSimpArgs false
set_option autoImplicit false
set_option maxRecDepth 20000
namespace Go.Proofs.Ytbnbkndeodankaa.K
open Go Go.Proofs Go.RowKit


structure Piece where
  kind : Int
  text : Bytes
structure Fld where
  text : Bytes
  quoted : Bytes
deriving DecidableEq
def pE : Enc Piece := .flat 2 (fun p => [.int .i64 p.kind, S p.text]) (by omega) (fun _ => rfl) (fun _ u hu => by simp at hu; rcases hu with rfl | rfl <;> rfl)
def fE : Enc Fld := .flat 2 (fun f => [S f.text, S f.quoted]) (by omega) (fun _ => rfl) (fun _ u hu => by simp at hu; rcases hu with rfl | rfl <;> rfl)
/-- The program's splitter. -/
structure Sp where
  f : Fld
  begun : Bool
  white : Bool
  out : List Fld
def Sp.tell (x : Sp) : Sp := { f := ⟨[], []⟩, begun := false, white := x.white, out := x.out ++ [x.f] }
def Sp.put (x : Sp) (t : Bytes) (q : UInt8) : Sp := { x with f := ⟨x.f.text ++ t, x.f.quoted ++ List.replicate t.length q⟩, begun := true, white := false }
def SpAt (N : Nat) (w : World) (b : Nat) (A : Option Addr) (cap : Nat) (x : Sp) : Prop :=
  Blk w b [S x.f.text, S x.f.quoted, .bool x.begun, .bool x.white, .slice A x.out.length cap] 42 ∧ Own fE 31 w (fun k => N ≤ k ∧ k ≠ b) A cap x.out

theorem tell_spec {N b : Nat} {A : Option Addr} {cap : Nat} {x : Sp} {w : World} (h : SpAt N w b A cap x) (hN : N ≤ w.heap.size) (hl : x.out.length ≤ 1000000000) :
    CallR Try.prog 16 #[.pointer (some ⟨b, 0, none⟩)] w fun v w' => v = .tuple ⟨[]⟩ ∧ ∃ A' cap', SpAt N w' b A' cap' x.tell ∧ Chg (b :: ob A) w w' ∧ ∀ g, g ∈ ob A' → g ∈ ob A ∨ w.heap.size ≤ g := by
  obtain ⟨hb, ho⟩ := h
  refine callR_of_wp (args := [_]) Try.func16 rfl (Nat.le_of_ble_eq_true rfl) ?_
  have HC : Chg (b :: ob A) w w := .refl _
  refine x_seq ?_
  refine x_draw [(0, 0), (1, 0), (2, 0), (3, 0), (4, 0), (5, 0), (6, 0), (7, 0), (8, 0), (9, 1), (10, 1), (11, 0), (12, 0), (13, 2)] T.mixed rfl rfl rfl (fun W => W.heap[b]? = w.heap[b]? ∧ True) ⟨rfl, trivial⟩ ?_
  have o3 := hb
  have c2 := Chg.drew w
  generalize World.drew w = w1 at c2 ⊢
  replace HC := HC.then c2
  replace hb := hb.tr0 c2
  replace ho := ho.tr0 c2
  refine sq_q rfl (fun W hT => r_move (v := .pointer _) rfl) ?_
  refine sq_q rfl (fun W hT => r_move (v := .pointer _) rfl) ?_
  refine sq_q rfl (fun W hT => r_nilCheck rfl) ?_
  refine sq_q rfl (fun W hT => r_fieldAddr T.fld42_3 rfl) ?_
  refine sq_q rfl (fun W hT => r_load1 (v := .slice _ _ _) T.one28 rfl (Blk.cell (show Blk W b _ _ from hT.1.trans o3) rfl)) ?_
  refine sq_q rfl (fun W hT => r_move (v := .pointer _) rfl) ?_
  refine sq_q rfl (fun W hT => r_nilCheck rfl) ?_
  refine sq_q rfl (fun W hT => r_fieldAddr T.fld42_0 rfl) ?_
  refine sq_q rfl (fun W hT => r_loadA (vs := [_, _]) T.agg31 rfl (Blk.cells (n := 2) (vs := [_, _]) (show Blk W b _ _ from hT.1.trans o3) rfl) rfl) ?_
  refine sq_lit1 (ps := [(0, .tmp 10)]) (vs := [_, _]) rfl T.lit28 (by decide) rfl (by simp only [List.forall_mem_cons, List.not_mem_nil, false_imp_iff, implies_true, and_true]; exact rfl) rfl ?_
  intro b4 w5 e6 c7 hb8
  have ge_b4 : w.heap.size ≤ b4 := by rw [e6]; exact HC.size
  have ne_b_b4 : b ≠ b4 := by rw [e6]; exact hb.ne_size
  replace HC := HC.then c7
  replace hb := hb.tr0 c7
  replace ho := ho.tr0 c7
  clear e6
  refine ⟨_, fun _ h => h, ⟨(Eq.trans hb o3.symm), trivial⟩, ?_⟩
  have hsz := HC.size
  refine sq_append1 (c := fE) (D2 := fun _ => False) (xs := x.out) (ys := [x.f]) rfl T.slice28 rfl rfl ho rfl rfl (one_elem rfl (hb8.cells (n := 2) rfl)) (fun _ _ h => h.elim) (fun k hk => ⟨by omega, by have := hb.lt; omega⟩) (by simp only [List.length_cons, List.length_nil]; omega) (by simp only [List.length_cons, List.length_nil]; omega) ?_
  intro A2 cap2 w9 ho2 c10 hg2
  replace hb := hb.tr c10 (fun hx => (ho.inD _ hx).2 rfl)
  replace HC := HC.trans c10 (by intro x hx; exact .inl (by simp [hx]))
  clear ho
  refine ⟨_, fun _ h => h, ⟨(Eq.trans hb o3.symm), trivial⟩, ?_⟩
  refine sq_q rfl (fun W hT => r_nilCheck rfl) ?_
  refine sq_q rfl (fun W hT => r_fieldAddr T.fld42_3 rfl) ?_
  refine sq_store2 rfl T.size28 (v := .slice _ _ _) rfl rfl rfl hb rfl (Nat.le_of_ble_eq_true rfl) (by simp [Value.oneCell', S]) rfl ?_
  intro w11 c12 hb13; simp only [setVs, setV] at hb13
  clear hb
  replace HC := HC.trans c12 (by intro x hx; simp only [List.mem_singleton] at hx; subst hx; exact .inl (by simp))
  replace ho2 := ho2.tr c12 (by intro x hx; simp only [List.mem_cons, List.mem_nil_iff, or_false] at hx; subst hx; exact fun h => h.2 rfl)
  clear o3
  refine sq_nil ?_
  refine then_n ?_
  refine x_region rfl ?_
  refine w_plain rfl (st_move (v := .pointer _) rfl ?_)
  refine w_plain rfl (st_move (v := .pointer _) rfl ?_)
  refine w_plain rfl (st_bld (ps := []) (vs := [_, _]) T.bld31 rfl ?_)
  refine w_plain rfl (st_nilCheck rfl ?_)
  refine w_plain rfl (st_fieldAddr T.fld42_0 rfl ?_)
  refine w_plain rfl (st_store (v := .agg ⟨[_, _]⟩) T.size31 rfl rfl rfl hb13 rfl (Nat.le_of_ble_eq_true rfl) (by simp [Value.oneCell', S]) rfl ?_)
  intro w14 c15 hb16; simp only [setVs, setV] at hb16
  clear hb13
  replace HC := HC.trans c15 (by intro x hx; simp only [List.mem_singleton] at hx; subst hx; exact .inl (by simp))
  replace ho2 := ho2.tr c15 (by intro x hx; simp only [List.mem_cons, List.mem_nil_iff, or_false] at hx; subst hx; exact fun h => h.2 rfl)
  refine w_plain rfl (st_nilCheck rfl ?_)
  refine w_plain rfl (st_fieldAddr T.fld42_1 rfl ?_)
  refine w_plain rfl (st_store (v := .bool _) T.size4 rfl rfl rfl hb16 rfl (Nat.le_of_ble_eq_true rfl) (by simp [Value.oneCell', S]) rfl ?_)
  intro w17 c18 hb19; simp only [setVs, setV] at hb19
  clear hb16
  replace HC := HC.trans c18 (by intro x hx; simp only [List.mem_singleton] at hx; subst hx; exact .inl (by simp))
  replace ho2 := ho2.tr c18 (by intro x hx; simp only [List.mem_cons, List.mem_nil_iff, or_false] at hx; subst hx; exact fun h => h.2 rfl)
  refine wops_nil ?_
  refine ret_none_n rfl ?_
  refine ⟨rfl, A2, cap2, ⟨?_, ho2⟩, HC, fun g hg => (hg2 g hg).imp id (fun h => by omega)⟩
  have e : x.tell.out.length = x.out.length + [x.f].length := by simp [Sp.tell]
  rw [e]
  exact hb19

theorem put_spec {N b : Nat} {A : Option Addr} {cap : Nat} {x : Sp} {w : World} (t : Bytes) (c : UInt8) (h : SpAt N w b A cap x) (hl : x.f.text.length ≤ 1000000000) (hl2 : x.f.quoted.length ≤ 1000000000) (ht : t.length ≤ 1000000000) :
    CallR Try.prog 19 #[.pointer (some ⟨b, 0, none⟩), S t, S [c]] w fun v w' => v = .tuple ⟨[]⟩ ∧ SpAt N w' b A cap (x.put t c) ∧ Chg [b] w w' := by
  obtain ⟨hb, ho⟩ := h
  refine callR_of_wp (args := [_, _, _]) Try.func19 rfl (Nat.le_of_ble_eq_true rfl) ?_
  have HC : Chg [b] w w := .refl _
  refine x_seq ?_
  refine x_region rfl ?_
  refine w_plain rfl (st_move (v := .pointer _) rfl ?_)
  refine w_plain rfl (st_nilCheck rfl ?_)
  refine w_plain rfl (st_fieldAddr T.fld42_0 rfl ?_)
  refine w_plain rfl (st_fieldAddr T.fld31_0 rfl ?_)
  refine w_plain rfl (st_load1 (v := S _) T.one9 rfl (hb.cell rfl) ?_)
  refine w_plain rfl (st_move (v := S _) rfl ?_)
  refine w_plain rfl (st_sadd rfl rfl (by omega) ?_)
  refine w_plain rfl (st_nilCheck rfl ?_)
  refine w_plain rfl (st_fieldAddr T.fld42_0 rfl ?_)
  refine w_plain rfl (st_fieldAddr T.fld31_0 rfl ?_)
  refine w_plain rfl (st_store (v := S _) T.size9 rfl rfl rfl hb rfl (Nat.le_of_ble_eq_true rfl) (by simp [Value.oneCell', S]) rfl ?_)
  intro w1 c2 hb3; simp only [setVs, setV] at hb3
  clear hb
  replace HC := HC.trans c2 (by intro x hx; simp only [List.mem_singleton] at hx; subst hx; exact .inl (by simp))
  replace ho := ho.tr c2 (by intro x hx; simp only [List.mem_cons, List.mem_nil_iff, or_false] at hx; subst hx; exact fun h => h.2 rfl)
  refine wops_nil ?_
  refine then_n ?_
  refine x_seq ?_
  refine x_draw [(0, 0), (1, 0), (2, 0), (3, 0), (4, 0), (5, 0), (6, 0), (7, 0), (8, 1), (9, 0), (10, 0), (11, 0), (12, 0), (13, 2)] T.mixed rfl rfl rfl (fun W => W.heap[b]? = w1.heap[b]? ∧ True) ⟨rfl, trivial⟩ ?_
  have o6 := hb3
  have c5 := Chg.drew w1
  generalize World.drew w1 = w4 at c5 ⊢
  replace HC := HC.then c5
  replace ho := ho.tr0 c5
  replace hb3 := hb3.tr0 c5
  refine sq_q rfl (fun W hT => r_move (v := .pointer _) rfl) ?_
  refine sq_q rfl (fun W hT => r_nilCheck rfl) ?_
  refine sq_q rfl (fun W hT => r_fieldAddr T.fld42_0 rfl) ?_
  refine sq_q rfl (fun W hT => r_fieldAddr T.fld31_1 rfl) ?_
  refine sq_q rfl (fun W hT => r_load1 (v := S _) T.one9 rfl (Blk.cell (show Blk W b _ _ from hT.1.trans o6) rfl)) ?_
  refine sq_q rfl (fun W hT => r_move (v := S _) rfl) ?_
  refine sq_q rfl (fun W hT => r_move (v := S _) rfl) ?_
  refine sq_q rfl (fun W hT => r_slen (ct := #[9]) T.u9 rfl) ?_
  refine sq_call1 rfl (r_call (ags := [_, _]) rfl rfl T.ent22 rfl) (Repeat_spec c t.length _ (by omega)) ?_
  rintro _ w7 ⟨rfl, c8⟩
  replace HC := HC.then c8
  replace ho := ho.tr0 c8
  replace hb3 := hb3.tr0 c8
  refine ⟨_, fun _ h => h, ⟨(Eq.trans hb3 o6.symm), trivial⟩, ?_⟩
  refine sq_q rfl (fun W hT => r_sadd rfl rfl (by simp only [List.length_replicate]; omega)) ?_
  refine sq_q rfl (fun W hT => r_nilCheck rfl) ?_
  refine sq_q rfl (fun W hT => r_fieldAddr T.fld42_0 rfl) ?_
  refine sq_q rfl (fun W hT => r_fieldAddr T.fld31_1 rfl) ?_
  refine sq_store2 rfl T.size9 (v := S _) rfl rfl rfl hb3 rfl (Nat.le_of_ble_eq_true rfl) (by simp [Value.oneCell', S]) rfl ?_
  intro w9 c10 hb11; simp only [setVs, setV] at hb11
  clear hb3
  replace HC := HC.trans c10 (by intro x hx; simp only [List.mem_singleton] at hx; subst hx; exact .inl (by simp))
  replace ho := ho.tr c10 (by intro x hx; simp only [List.mem_cons, List.mem_nil_iff, or_false] at hx; subst hx; exact fun h => h.2 rfl)
  clear o6
  refine sq_nil ?_
  refine then_n ?_
  refine x_region rfl ?_
  refine w_plain rfl (st_move (v := .pointer _) rfl ?_)
  refine w_plain rfl (st_move (v := .pointer _) rfl ?_)
  refine w_plain rfl (st_nilCheck rfl ?_)
  refine w_plain rfl (st_fieldAddr T.fld42_1 rfl ?_)
  refine w_plain rfl (st_store (v := .bool _) T.size4 rfl rfl rfl hb11 rfl (Nat.le_of_ble_eq_true rfl) (by simp [Value.oneCell', S]) rfl ?_)
  intro w12 c13 hb14; simp only [setVs, setV] at hb14
  clear hb11
  replace HC := HC.trans c13 (by intro x hx; simp only [List.mem_singleton] at hx; subst hx; exact .inl (by simp))
  replace ho := ho.tr c13 (by intro x hx; simp only [List.mem_cons, List.mem_nil_iff, or_false] at hx; subst hx; exact fun h => h.2 rfl)
  refine w_plain rfl (st_nilCheck rfl ?_)
  refine w_plain rfl (st_fieldAddr T.fld42_2 rfl ?_)
  refine w_plain rfl (st_store (v := .bool _) T.size4 rfl rfl rfl hb14 rfl (Nat.le_of_ble_eq_true rfl) (by simp [Value.oneCell', S]) rfl ?_)
  intro w15 c16 hb17; simp only [setVs, setV] at hb17
  clear hb14
  replace HC := HC.trans c16 (by intro x hx; simp only [List.mem_singleton] at hx; subst hx; exact .inl (by simp))
  replace ho := ho.tr c16 (by intro x hx; simp only [List.mem_cons, List.mem_nil_iff, or_false] at hx; subst hx; exact fun h => h.2 rfl)
  refine wops_nil ?_
  refine ret_none_n rfl ?_
  exact ⟨rfl, ⟨hb17, ho⟩, HC⟩

def Sp.result (x : Sp) (t ifs : Bytes) : Sp :=
  if idx ifs (byte t 0) < 0 then x.put t 48
  else if idx [32, 9, 10] (byte t 0) < 0 then { (if x.white then x else x.tell) with white := false }
  else if x.begun then { x.tell with white := true } else x

theorem result_spec {N b : Nat} {A : Option Addr} {cap : Nat} {x : Sp} {w : World} (t ifs : Bytes) (h : SpAt N w b A cap x) (hN : N ≤ w.heap.size) (hl : x.out.length ≤ 1000000000) (hl1 : x.f.text.length ≤ 1000000000) (hl2 : x.f.quoted.length ≤ 1000000000) (ht : t.length ≤ 1000000000) (hpos : 0 < t.length) :
    CallR Try.prog 18 #[.pointer (some ⟨b, 0, none⟩), S t, S ifs] w fun v w' => v = .tuple ⟨[]⟩ ∧ ∃ A' cap', SpAt N w' b A' cap' (x.result t ifs) ∧ Chg (b :: ob A) w w' ∧ ∀ g, g ∈ ob A' → g ∈ ob A ∨ w.heap.size ≤ g := by
  obtain ⟨hb, ho⟩ := h
  have hlt : (0 : Int) < t.length := by omega
  refine callR_of_wp (args := [_, _, _]) Try.func18 rfl (Nat.le_of_ble_eq_true rfl) ?_
  have HC : Chg (b :: ob A) w w := .refl _
  refine x_block ?_
  refine x_seq ?_
  refine x_region rfl ?_
  refine w_plain rfl (st_move (v := S _) rfl ?_)
  refine w_plain rfl (st_move (v := S _) rfl ?_)
  refine w_plain rfl (st_sidx T.u9 rfl rfl (by omega) (by omega) ?_)
  refine w_plain rfl (st_call (ags := [_, _]) rfl rfl T.ent29 rfl (IndexByte_spec _ _ _) ?_)
  rintro _ w1 ⟨rfl, c2⟩
  replace HC := HC.then c2
  replace hb := hb.tr0 c2
  replace ho := ho.tr0 c2
  refine w_plain rfl (st_lss rfl rfl ?_)
  refine w_plain rfl (st_assign (v := .bool _) rfl ?_)
  refine wops_nil ?_
  refine then_n ?_
  refine x_cond rfl (fun h0 => ?_) (fun h0 => ?_)
  · skip
    try simp only [decide_eq_true_eq, decide_eq_false_iff_not, Bool.not_eq_true', Bool.not_eq_false', Bool.not_true, Bool.not_false, ne_eq, Int.toNat_natCast, Int.toNat_zero, Int.toNat_one, Bool.not_eq_true, Bool.not_eq_false] at h0
    refine x_region rfl ?_
    refine w_plain rfl (st_move (v := .pointer _) rfl ?_)
    refine w_plain rfl (st_move (v := S _) rfl ?_)
    refine w_plain rfl (st_call (ags := [_, _, _]) rfl rfl T.ent19 rfl (put_spec t 48 ⟨hb, ho⟩ hl1 hl2 ht) ?_)
    rintro _ w3 ⟨rfl, ⟨hb, ho⟩, c4⟩
    replace HC := HC.trans c4 (by intro x hx; simp only [List.mem_singleton] at hx; subst hx; exact .inl (by simp))
    refine wops_nil ?_
    refine block_n ?_
    refine ret_none_n rfl ?_
    refine ⟨rfl, A, cap, ?_, HC, fun g h => .inl h⟩
    unfold Sp.result
    rw [if_pos h0]
    exact ⟨hb, ho⟩
  · skip
    try simp only [decide_eq_true_eq, decide_eq_false_iff_not, Bool.not_eq_true', Bool.not_eq_false', Bool.not_true, Bool.not_false, ne_eq, Int.toNat_natCast, Int.toNat_zero, Int.toNat_one, Bool.not_eq_true, Bool.not_eq_false] at h0
    refine x_seq ?_
    refine x_region rfl ?_
    refine w_plain rfl (st_move (v := S _) rfl ?_)
    refine w_plain rfl (st_sidx T.u9 rfl rfl (by omega) (by omega) ?_)
    refine w_plain rfl (st_call (ags := [_, _]) rfl rfl T.ent29 rfl (IndexByte_spec _ _ _) ?_)
    rintro _ w5 ⟨rfl, c6⟩
    replace HC := HC.then c6
    replace hb := hb.tr0 c6
    replace ho := ho.tr0 c6
    refine w_plain rfl (st_lss rfl rfl ?_)
    refine w_plain rfl (st_assign (v := .bool _) rfl ?_)
    refine wops_nil ?_
    refine then_n ?_
    refine x_cond rfl (fun h1 => ?_) (fun h1 => ?_)
    · skip
      try simp only [decide_eq_true_eq, decide_eq_false_iff_not, Bool.not_eq_true', Bool.not_eq_false', Bool.not_true, Bool.not_false, ne_eq, Int.toNat_natCast, Int.toNat_zero, Int.toNat_one, Bool.not_eq_true, Bool.not_eq_false] at h1
      refine x_seq ?_
      refine x_seq ?_
      refine x_region rfl ?_
      refine w_plain rfl (st_move (v := .pointer _) rfl ?_)
      refine w_plain rfl (st_nilCheck rfl ?_)
      refine w_plain rfl (st_fieldAddr T.fld42_2 rfl ?_)
      refine w_plain rfl (st_load1 (v := .bool _) T.one4 rfl (hb.cell rfl) ?_)
      refine w_plain rfl (st_not rfl ?_)
      refine wops_nil ?_
      refine then_n ?_
      refine x_cond rfl (fun h2 => ?_) (fun h2 => ?_)
      · skip
        try simp only [decide_eq_true_eq, decide_eq_false_iff_not, Bool.not_eq_true', Bool.not_eq_false', Bool.not_true, Bool.not_false, ne_eq, Int.toNat_natCast, Int.toNat_zero, Int.toNat_one, Bool.not_eq_true, Bool.not_eq_false] at h2
        refine x_region rfl ?_
        refine w_plain rfl (st_move (v := .pointer _) rfl ?_)
        have hsz := HC.size
        refine w_plain rfl (st_call (ags := [_]) rfl rfl T.ent16 rfl (tell_spec ⟨hb, ho⟩ (by omega) (by first | assumption | omega)) ?_)
        rintro _ w7 ⟨rfl, A9, cap10, ⟨hb, ho⟩, c8, hg⟩
        replace HC := HC.trans c8 (by intro x hx; exact .inl hx)
        refine wops_nil ?_
        refine then_n ?_
        refine x_region rfl ?_
        refine w_plain rfl (st_move (v := .pointer _) rfl ?_)
        refine w_plain rfl (st_nilCheck rfl ?_)
        refine w_plain rfl (st_fieldAddr T.fld42_2 rfl ?_)
        refine w_plain rfl (st_store (v := .bool _) T.size4 rfl rfl rfl hb rfl (Nat.le_of_ble_eq_true rfl) (by simp [Value.oneCell', S]) rfl ?_)
        intro w11 c12 hb13; simp only [setVs, setV] at hb13
        clear hb
        replace HC := HC.trans c12 (by intro x hx; simp only [List.mem_singleton] at hx; subst hx; exact .inl (by simp))
        replace ho := ho.tr c12 (by intro x hx; simp only [List.mem_cons, List.mem_nil_iff, or_false] at hx; subst hx; exact fun h => h.2 rfl)
        refine wops_nil ?_
        refine block_n ?_
        refine ret_none_n rfl ?_
        refine ⟨rfl, A9, cap10, ?_, HC, fun g h => (hg g h).imp id (fun h => by omega)⟩
        unfold Sp.result
        rw [if_neg h0, if_pos h1, if_neg (by simp [h2])]
        exact ⟨hb13, ho⟩
      · skip
        try simp only [decide_eq_true_eq, decide_eq_false_iff_not, Bool.not_eq_true', Bool.not_eq_false', Bool.not_true, Bool.not_false, ne_eq, Int.toNat_natCast, Int.toNat_zero, Int.toNat_one, Bool.not_eq_true, Bool.not_eq_false] at h2
        refine x_skip ?_
        refine then_n ?_
        refine x_region rfl ?_
        refine w_plain rfl (st_move (v := .pointer _) rfl ?_)
        refine w_plain rfl (st_nilCheck rfl ?_)
        refine w_plain rfl (st_fieldAddr T.fld42_2 rfl ?_)
        refine w_plain rfl (st_store (v := .bool _) T.size4 rfl rfl rfl hb rfl (Nat.le_of_ble_eq_true rfl) (by simp [Value.oneCell', S]) rfl ?_)
        intro w14 c15 hb16; simp only [setVs, setV] at hb16
        clear hb
        replace HC := HC.trans c15 (by intro x hx; simp only [List.mem_singleton] at hx; subst hx; exact .inl (by simp))
        replace ho := ho.tr c15 (by intro x hx; simp only [List.mem_cons, List.mem_nil_iff, or_false] at hx; subst hx; exact fun h => h.2 rfl)
        refine wops_nil ?_
        refine block_n ?_
        refine ret_none_n rfl ?_
        refine ⟨rfl, A, cap, ?_, HC, fun g h => .inl h⟩
        unfold Sp.result
        rw [if_neg h0, if_pos h1, if_pos h2]
        exact ⟨hb16, ho⟩
    · skip
      try simp only [decide_eq_true_eq, decide_eq_false_iff_not, Bool.not_eq_true', Bool.not_eq_false', Bool.not_true, Bool.not_false, ne_eq, Int.toNat_natCast, Int.toNat_zero, Int.toNat_one, Bool.not_eq_true, Bool.not_eq_false] at h1
      refine x_seq ?_
      refine x_region rfl ?_
      refine w_plain rfl (st_move (v := .pointer _) rfl ?_)
      refine w_plain rfl (st_nilCheck rfl ?_)
      refine w_plain rfl (st_fieldAddr T.fld42_1 rfl ?_)
      refine w_plain rfl (st_load1 (v := .bool _) T.one4 rfl (hb.cell rfl) ?_)
      refine w_plain rfl (st_assign (v := .bool _) rfl ?_)
      refine wops_nil ?_
      refine then_n ?_
      refine x_cond rfl (fun h3 => ?_) (fun h3 => ?_)
      · skip
        try simp only [decide_eq_true_eq, decide_eq_false_iff_not, Bool.not_eq_true', Bool.not_eq_false', Bool.not_true, Bool.not_false, ne_eq, Int.toNat_natCast, Int.toNat_zero, Int.toNat_one, Bool.not_eq_true, Bool.not_eq_false] at h3
        refine x_seq ?_
        refine x_region rfl ?_
        refine w_plain rfl (st_move (v := .pointer _) rfl ?_)
        have hsz := HC.size
        refine w_plain rfl (st_call (ags := [_]) rfl rfl T.ent16 rfl (tell_spec ⟨hb, ho⟩ (by omega) (by first | assumption | omega)) ?_)
        rintro _ w17 ⟨rfl, A19, cap20, ⟨hb, ho⟩, c18, hg⟩
        replace HC := HC.trans c18 (by intro x hx; exact .inl hx)
        refine wops_nil ?_
        refine then_n ?_
        refine x_region rfl ?_
        refine w_plain rfl (st_move (v := .pointer _) rfl ?_)
        refine w_plain rfl (st_nilCheck rfl ?_)
        refine w_plain rfl (st_fieldAddr T.fld42_2 rfl ?_)
        refine w_plain rfl (st_store (v := .bool _) T.size4 rfl rfl rfl hb rfl (Nat.le_of_ble_eq_true rfl) (by simp [Value.oneCell', S]) rfl ?_)
        intro w21 c22 hb23; simp only [setVs, setV] at hb23
        clear hb
        replace HC := HC.trans c22 (by intro x hx; simp only [List.mem_singleton] at hx; subst hx; exact .inl (by simp))
        replace ho := ho.tr c22 (by intro x hx; simp only [List.mem_cons, List.mem_nil_iff, or_false] at hx; subst hx; exact fun h => h.2 rfl)
        refine wops_nil ?_
        refine block_n ?_
        refine ret_none_n rfl ?_
        refine ⟨rfl, A19, cap20, ?_, HC, fun g h => (hg g h).imp id (fun h => by omega)⟩
        unfold Sp.result
        rw [if_neg h0, if_neg h1, if_pos h3]
        exact ⟨hb23, ho⟩
      · skip
        try simp only [decide_eq_true_eq, decide_eq_false_iff_not, Bool.not_eq_true', Bool.not_eq_false', Bool.not_true, Bool.not_false, ne_eq, Int.toNat_natCast, Int.toNat_zero, Int.toNat_one, Bool.not_eq_true, Bool.not_eq_false] at h3
        refine x_skip ?_
        refine block_n ?_
        refine ret_none_n rfl ?_
        refine ⟨rfl, A, cap, ?_, HC, fun g h => .inl h⟩
        unfold Sp.result
        rw [if_neg h0, if_neg h1, if_neg (by simp [h3])]
        exact ⟨hb, ho⟩

theorem mark_spec (k : Int) (w : World) : CallR Try.prog 20 #[.int .i64 k] w (fun v w' => v = S [if k = 1 then 49 else 48] ∧ Chg [] w w') := by
  refine callR_of_wp (args := [_]) Try.func20 rfl (Nat.le_of_ble_eq_true rfl) ?_
  have HC : Chg [] w w := .refl _
  refine x_seq ?_
  refine x_region rfl ?_
  refine w_plain rfl (st_assign (v := S _) rfl ?_)
  refine wops_nil ?_
  refine then_n ?_
  refine x_seq ?_
  refine x_seq ?_
  refine x_region rfl ?_
  refine w_plain rfl (st_move (v := .int _ _) rfl ?_)
  refine w_plain rfl (st_eql rfl rfl ?_)
  refine wops_nil ?_
  refine then_n ?_
  refine x_cond rfl (fun h0 => ?_) (fun h0 => ?_)
  · skip
    try simp only [decide_eq_true_eq, decide_eq_false_iff_not, Bool.not_eq_true', Bool.not_eq_false', Bool.not_true, Bool.not_false, ne_eq, Int.toNat_natCast, Int.toNat_zero, Int.toNat_one, Bool.not_eq_true, Bool.not_eq_false] at h0
    refine x_seq ?_
    refine x_region rfl ?_
    refine w_plain rfl (st_assign (v := S _) rfl ?_)
    refine wops_nil ?_
    refine then_n ?_
    refine x_ret ?_
    refine then_r ?_
    refine ret_tmp (v := S _) rfl rfl ?_
    refine ⟨?_, HC⟩
    first | rw [if_pos (by assumption)] | rw [if_neg (by assumption)]
  · skip
    try simp only [decide_eq_true_eq, decide_eq_false_iff_not, Bool.not_eq_true', Bool.not_eq_false', Bool.not_true, Bool.not_false, ne_eq, Int.toNat_natCast, Int.toNat_zero, Int.toNat_one, Bool.not_eq_true, Bool.not_eq_false] at h0
    refine x_skip ?_
    refine then_n ?_
    refine x_seq ?_
    refine x_region rfl ?_
    refine w_plain rfl (st_assign (v := S _) rfl ?_)
    refine wops_nil ?_
    refine then_n ?_
    refine x_ret ?_
    refine ret_tmp (v := S _) rfl rfl ?_
    refine ⟨?_, HC⟩
    first | rw [if_pos (by assumption)] | rw [if_neg (by assumption)]

/-- A text, cut where a byte of ifs stands; of these each one by itself. -/
def cutL (ifs : Bytes) : Bytes → Bytes → List Bytes
  | acc, [] => if acc = [] then [] else [acc]
  | acc, c :: r => if idx ifs c < 0 then cutL ifs (acc ++ [c]) r else (if acc = [] then [] else [acc]) ++ [c] :: cutL ifs [] r
theorem drop_byte {t : Bytes} {i : Nat} (h : i < t.length) : t.drop i = byte t i :: t.drop (i + 1) := by
  rw [List.drop_eq_getElem_cons h]; simp [byte, h]
theorem take_byte {t : Bytes} {i j : Nat} (h : i < t.length) (hj : j ≤ i) : (t.take (i + 1)).drop j = (t.take i).drop j ++ [byte t i] := by
  rw [List.take_add_one, List.drop_append_of_le_length (by simp; omega)]; simp [byte, h]
theorem one_byte {t : Bytes} {i : Nat} (h : i < t.length) : (t.take (i + 1)).drop i = [byte t i] := by
  rw [take_byte h (Nat.le_refl i)]; simp
section
variable {ifs t : Bytes} {L pre : List Bytes} {i a : Nat}
theorem cut_on (hi : i < t.length) (ha : a ≤ i) (h : pre ++ cutL ifs ((t.take i).drop a) (t.drop i) = L) (hn : idx ifs (byte t i) < 0) : pre ++ cutL ifs ((t.take (i + 1)).drop a) (t.drop (i + 1)) = L := by
  rw [drop_byte hi, cutL, if_pos hn, ← take_byte hi ha] at h; exact h
theorem cut_two (hi : i < t.length) (ha : a < i) (h : pre ++ cutL ifs ((t.take i).drop a) (t.drop i) = L) (hn : ¬ idx ifs (byte t i) < 0) : L = pre ++ (t.take i).drop a :: ((t.take (i + 1)).drop i :: cutL ifs [] (t.drop (i + 1))) := by
  rw [drop_byte hi, cutL, if_neg hn, if_neg (by intro e; have := congrArg List.length e; simp at this; omega), ← one_byte hi] at h; rw [← h]; simp
theorem cut_one (hi : i < t.length) (ha : ¬ a < i) (h : pre ++ cutL ifs ((t.take i).drop a) (t.drop i) = L) (hn : ¬ idx ifs (byte t i) < 0) : L = pre ++ (t.take (i + 1)).drop i :: cutL ifs [] (t.drop (i + 1)) := by
  rw [drop_byte hi, cutL, if_neg hn, if_pos (by simp; omega), ← one_byte hi] at h; rw [← h]; simp
theorem cut_end (hi : ¬ i < t.length) (hl : i ≤ t.length) (ha : a < t.length) (h : pre ++ cutL ifs ((t.take i).drop a) (t.drop i) = L) : L = pre ++ [(t.take t.length).drop a] := by
  have e : i = t.length := by omega
  subst e
  rw [List.drop_length, cutL, if_neg (by intro e; have := congrArg List.length e; simp at this; omega)] at h; exact h.symm
theorem cut_fin (hi : ¬ i < t.length) (hl : i ≤ t.length) (ha : ¬ a < t.length) (h : pre ++ cutL ifs ((t.take i).drop a) (t.drop i) = L) : pre = L := by
  have e : i = t.length := by omega
  subst e
  rw [List.drop_length, cutL, if_pos (by simp; omega)] at h; simpa using h
end

theorem parts_iter {bt bi : Nat} {t ifs : Bytes} {K : Nat → Prop} {w : World} (q1 : Blk w bt [S t] 9) (q2 : Blk w bi [S ifs] 9) (hK1 : K bt) (hK2 : K bi) (ht : t.length ≤ 1000000000) :
    Iter Try.prog 28 [.pointer (some ⟨bt, 0, none⟩), .pointer (some ⟨bi, 0, none⟩)] [] K (fun s => [S s]) (cutL ifs [] t) w := by
  intro lp J Jx W hs hk hJm hJxm hR hJ
  replace q1 := q1.of_eq (hk _ q1.lt hK1)
  replace q2 := q2.of_eq (hk _ q2.lt hK2)
  refine callR_of_wp (args := [_, _, _]) Try.func28 rfl (Nat.le_of_ble_eq_true rfl) ?_
  refine x_seq ?_
  refine x_region rfl ?_
  refine w_plain rfl (st_assign (v := .int _ _) rfl ?_)
  refine wops_nil ?_
  refine then_n ?_
  refine x_seq ?_
  refine x_seq ?_
  refine x_region rfl ?_
  refine w_plain rfl (st_load1 (v := S _) T.one9 rfl (q1.cell rfl) ?_)
  refine w_plain rfl (st_slen (ct := #[9]) T.u9 rfl ?_)
  refine w_plain rfl (st_move (v := .int _ _) rfl ?_)
  refine wops_nil ?_
  refine then_n ?_
  refine x_block ?_
  refine x_loop (ι := Nat × Nat × List Bytes) [4, 5, 8, 9, 10, 11, 12, 13, 14, 15, 16, 17, 18, 19, 20, 21, 22, 23, 24, 25, 26, 27, 28, 29, 30, 31, 32, 33, 34, 35, 36, 37, 38, 39, 40, 41] (fun ⟨i, a, pre⟩ => [(8, .int .i64 (i : Int)), (4, .int .i64 (a : Int))]) (fun ⟨i, a, pre⟩ W => (i ≤ t.length ∧ a ≤ i ∧ pre ++ cutL ifs ((t.take i).drop a) (t.drop i) = cutL ifs [] t) ∧ (Blk W bt [S t] 9) ∧ (Blk W bi [S ifs] 9) ∧ (J pre W)) (fun ⟨i, a, pre⟩ => t.length - i) (0, 0, []) ?_ ?_ ?_
  · exact ⟨rfl, rfl, trivial⟩
  · skip
    refine ⟨?_, q1, q2, hJ⟩
    exact ⟨Nat.zero_le _, Nat.le_refl _, rfl⟩
  intro ⟨i, a, pre⟩ G2 w1 ⟨⟨hi, ha, hq⟩, q1, q2, hJ⟩
  change wp _ _ _ _ _ (upds (over _ _ G2) [(8, .int .i64 (i : Int)), (4, .int .i64 (a : Int))]) _ _
  refine x_seq ?_
  refine x_region rfl ?_
  refine w_plain rfl (st_lss rfl rfl ?_)
  refine wops_nil ?_
  refine then_n ?_
  refine x_seq ?_
  refine x_cond rfl (fun h0 => ?_) (fun h0 => ?_)
  · skip
    try simp only [decide_eq_true_eq, decide_eq_false_iff_not, Bool.not_eq_true', Bool.not_eq_false', Bool.not_true, Bool.not_false, ne_eq, Int.toNat_natCast, Int.toNat_zero, Int.toNat_one, Bool.not_eq_true, Bool.not_eq_false] at h0
    refine x_skip ?_
    refine then_n ?_
    refine x_seq ?_
    refine x_block ?_
    refine x_seq ?_
    refine x_region rfl ?_
    refine w_plain rfl (st_move (v := .int _ _) rfl ?_)
    refine w_plain rfl (st_assign (v := .int _ _) rfl ?_)
    refine wops_nil ?_
    refine then_n ?_
    refine x_seq ?_
    refine x_seq ?_
    refine x_draw [(0, 0), (1, 0), (2, 0), (3, 0), (4, 1), (5, 0)] T.mixed rfl rfl rfl (fun W => W.heap[bt]? = w1.heap[bt]? ∧ W.heap[bi]? = w1.heap[bi]? ∧ True) ⟨rfl, rfl, trivial⟩ ?_
    have o5 := q1
    have o6 := q2
    have c4 := Chg.drew w1
    generalize World.drew w1 = w3 at c4 ⊢
    replace q1 := q1.tr0 c4
    replace q2 := q2.tr0 c4
    replace hJ := hJm _ _ _ hJ c4
    refine sq_q rfl (fun W hT => r_load1 (v := S _) T.one9 rfl (Blk.cell (show Blk W bi _ _ from hT.2.1.trans o6) rfl)) ?_
    refine sq_q rfl (fun W hT => r_load1 (v := S _) T.one9 rfl (Blk.cell (show Blk W bt _ _ from hT.1.trans o5) rfl)) ?_
    refine sq_q rfl (fun W hT => r_move (v := .int _ _) rfl) ?_
    refine sq_q rfl (fun W hT => r_sidx T.u9 rfl rfl (by omega) (by omega)) ?_
    refine sq_call1 rfl (r_call (ags := [_, _]) rfl rfl T.ent29 rfl) (IndexByte_spec _ _ _) ?_
    rintro _ w7 ⟨rfl, c8⟩
    replace q1 := q1.tr0 c8
    replace q2 := q2.tr0 c8
    replace hJ := hJm _ _ _ hJ c8
    refine ⟨_, fun _ h => h, ⟨(Eq.trans q1 o5.symm), (Eq.trans q2 o6.symm), trivial⟩, ?_⟩
    refine sq_q rfl (fun W hT => r_lss rfl rfl) ?_
    clear o5
    clear o6
    refine sq_nil ?_
    refine then_n ?_
    refine x_cond rfl (fun h1 => ?_) (fun h1 => ?_)
    · skip
      try simp only [decide_eq_true_eq, decide_eq_false_iff_not, Bool.not_eq_true', Bool.not_eq_false', Bool.not_true, Bool.not_false, ne_eq, Int.toNat_natCast, Int.toNat_zero, Int.toNat_one, Bool.not_eq_true, Bool.not_eq_false] at h1
      refine x_exit ?_
      refine then_x ?_
      refine block_x ?_
      refine then_n ?_
      refine x_region rfl ?_
      refine w_plain rfl (st_addn rfl rfl (by constructor <;> omega) ?_)
      refine w_plain rfl (st_move (v := .int _ _) rfl ?_)
      refine wops_nil ?_
      refine then_n ?_
      refine ⟨(i + 1, a, pre), ?_, ?_, rfl, ⟨rfl, rfl, trivial⟩, ?_⟩
      · skip
        refine ⟨?_, q1, q2, hJ⟩
        exact ⟨by omega, by omega, cut_on (by omega) ha hq h1⟩
      · skip
        show t.length - (i + 1) < t.length - i; omega
      repeat (first | exact agree_upds agree_over rfl | refine agree_upd ?_ rfl)
    · skip
      try simp only [decide_eq_true_eq, decide_eq_false_iff_not, Bool.not_eq_true', Bool.not_eq_false', Bool.not_true, Bool.not_false, ne_eq, Int.toNat_natCast, Int.toNat_zero, Int.toNat_one, Bool.not_eq_true, Bool.not_eq_false] at h1
      refine x_skip ?_
      refine then_n ?_
      refine x_seq ?_
      refine x_seq ?_
      refine x_region rfl ?_
      refine w_plain rfl (st_move (v := .int _ _) rfl ?_)
      refine w_plain rfl (st_move (v := .int _ _) rfl ?_)
      refine w_plain rfl (st_lss rfl rfl ?_)
      refine w_plain rfl (st_move (v := .bool _) rfl ?_)
      refine w_split (d := 20) rfl (fun g9 => ?_) (fun g9 => ?_)
      · skip
        try simp only [decide_eq_true_eq, decide_eq_false_iff_not, Bool.not_eq_true', Bool.not_eq_false', Bool.not_true, Bool.not_false, ne_eq, Int.toNat_natCast, Int.toNat_zero, Int.toNat_one, Bool.not_eq_true, Bool.not_eq_false] at g9
        refine w_yes 3 20 true rfl rfl rfl rfl (st_move (v := .func _ _ _) rfl ?_)
        refine w_yes 3 20 true rfl rfl rfl rfl (st_load1 (v := S _) T.one9 rfl (q1.cell rfl) ?_)
        refine w_yes 3 20 true rfl rfl rfl rfl (st_move (v := .int _ _) rfl ?_)
        refine w_yes 3 20 true rfl rfl rfl rfl (st_move (v := .int _ _) rfl ?_)
        refine w_yes 3 20 true rfl rfl rfl rfl (st_sslice (i := _) (j := _) T.u9 rfl ⟨_, rfl⟩ ⟨_, rfl⟩ (by omega) (by omega) ?_)
        refine w_yes 3 20 true rfl rfl rfl rfl (st_yield (vs := [S _]) rfl rfl rfl rfl (hR pre ((t.take i).drop a) _ _ (cut_two (by omega) (by omega) hq h1) hJ) ?_)
        rintro _ w10 ⟨hk2, ⟨rfl, hJ2⟩ | ⟨rfl, hJ2⟩⟩
        · skip
          replace q1 := q1.kept hk2 hK1
          replace q2 := q2.kept hk2 hK2
          refine w_yes 3 20 true rfl rfl rfl rfl (st_not rfl ?_)
          refine w_plain rfl (st_pick (b := true) (v := .bool _) rfl rfl ?_)
          refine w_plain rfl (st_move (v := .bool _) rfl ?_)
          refine w_yes 12 29 false rfl rfl rfl rfl (st_move (v := .func _ _ _) rfl ?_)
          refine w_yes 12 29 false rfl rfl rfl rfl (st_load1 (v := S _) T.one9 rfl (q1.cell rfl) ?_)
          refine w_yes 12 29 false rfl rfl rfl rfl (st_move (v := .int _ _) rfl ?_)
          refine w_yes 12 29 false rfl rfl rfl rfl (st_move (v := .int _ _) rfl ?_)
          refine w_yes 12 29 false rfl rfl rfl rfl (st_addn rfl rfl (by constructor <;> omega) ?_)
          refine w_yes 12 29 false rfl rfl rfl rfl (st_sslice (i := i) (j := i + 1) T.u9 rfl ⟨_, rfl⟩ ⟨_, rfl⟩ (by omega) (by omega) ?_)
          refine w_yes 12 29 false rfl rfl rfl rfl (st_yield (vs := [S _]) rfl rfl rfl rfl (hR (pre ++ [(t.take i).drop a]) ((t.take (i + 1)).drop i) _ _ ((cut_two (by omega) (by omega) hq h1).trans (List.append_cons _ _ _)) hJ2) ?_)
          rintro _ w11 ⟨hk2, ⟨rfl, hJ2⟩ | ⟨rfl, hJ2⟩⟩
          · skip
            replace q1 := q1.kept hk2 hK1
            replace q2 := q2.kept hk2 hK2
            refine w_yes 12 29 false rfl rfl rfl rfl (st_not rfl ?_)
            refine w_plain rfl (st_pick (b := false) (v := .bool _) rfl rfl ?_)
            refine wops_nil ?_
            refine then_n ?_
            refine x_cond (t := false) rfl (fun h2 => ?_) (fun h2 => ?_)
            · exact absurd h2 (by decide)
            refine x_skip ?_
            refine then_n ?_
            refine x_region rfl ?_
            refine w_plain rfl (st_move (v := .int _ _) rfl ?_)
            refine w_plain rfl (st_addn rfl rfl (by constructor <;> omega) ?_)
            refine w_plain rfl (st_assign (v := .int _ _) rfl ?_)
            refine wops_nil ?_
            refine block_n ?_
            refine then_n ?_
            refine x_region rfl ?_
            refine w_plain rfl (st_addn rfl rfl (by constructor <;> omega) ?_)
            refine w_plain rfl (st_move (v := .int _ _) rfl ?_)
            refine wops_nil ?_
            refine then_n ?_
            refine ⟨(i + 1, i + 1, (pre ++ [(t.take i).drop a]) ++ [(t.take (i + 1)).drop i]), ?_, ?_, rfl, ⟨rfl, rfl, trivial⟩, ?_⟩
            · skip
              refine ⟨?_, q1, q2, hJ2⟩
              exact ⟨by omega, by omega, by rw [cut_two (by omega) (by omega) hq h1]; simp⟩
            · skip
              show t.length - (i + 1) < t.length - i; omega
            repeat (first | exact agree_upds agree_over rfl | refine agree_upd ?_ rfl)
          · skip
            replace q1 := q1.kept hk2 hK1
            replace q2 := q2.kept hk2 hK2
            refine w_yes 12 29 false rfl rfl rfl rfl (st_not rfl ?_)
            refine w_plain rfl (st_pick (b := false) (v := .bool _) rfl rfl ?_)
            refine wops_nil ?_
            refine then_n ?_
            refine x_cond (t := true) rfl (fun h2 => ?_) (fun h2 => ?_)
            rotate_left
            · exact absurd h2 (by decide)
            refine x_ret ?_
            refine then_r ?_
            refine block_r ?_
            refine then_r ?_
            refine then_r ?_
            refine block_r ?_
            refine then_r ?_
            refine ret_none rfl ?_
            exact .inr ⟨_, hJ2⟩
        · skip
          replace q1 := q1.kept hk2 hK1
          replace q2 := q2.kept hk2 hK2
          refine w_yes 3 20 true rfl rfl rfl rfl (st_not rfl ?_)
          refine w_plain rfl (st_pick (b := true) (v := .bool _) rfl rfl ?_)
          refine w_plain rfl (st_move (v := .bool _) rfl ?_)
          refine w_no 12 29 false rfl rfl rfl (by first | exact .inl rfl | exact .inr rfl) ?_
          refine w_no 12 29 false rfl rfl rfl (by first | exact .inl rfl | exact .inr rfl) ?_
          refine w_no 12 29 false rfl rfl rfl (by first | exact .inl rfl | exact .inr rfl) ?_
          refine w_no 12 29 false rfl rfl rfl (by first | exact .inl rfl | exact .inr rfl) ?_
          refine w_no 12 29 false rfl rfl rfl (by first | exact .inl rfl | exact .inr rfl) ?_
          refine w_no 12 29 false rfl rfl rfl (by first | exact .inl rfl | exact .inr rfl) ?_
          refine w_no 12 29 false rfl rfl rfl (by first | exact .inl rfl | exact .inr rfl) ?_
          refine w_no 12 29 false rfl rfl rfl (by first | exact .inl rfl | exact .inr rfl) ?_
          refine w_plain rfl (st_pick (b := true) (v := .bool _) rfl rfl ?_)
          refine wops_nil ?_
          refine then_n ?_
          refine x_cond (t := true) rfl (fun h2 => ?_) (fun h2 => ?_)
          rotate_left
          · exact absurd h2 (by decide)
          refine x_ret ?_
          refine then_r ?_
          refine block_r ?_
          refine then_r ?_
          refine then_r ?_
          refine block_r ?_
          refine then_r ?_
          refine ret_none rfl ?_
          exact .inr ⟨_, hJ2⟩
      · skip
        try simp only [decide_eq_true_eq, decide_eq_false_iff_not, Bool.not_eq_true', Bool.not_eq_false', Bool.not_true, Bool.not_false, ne_eq, Int.toNat_natCast, Int.toNat_zero, Int.toNat_one, Bool.not_eq_true, Bool.not_eq_false] at g9
        refine w_no 3 20 true rfl rfl rfl (by first | exact .inl rfl | exact .inr rfl) ?_
        refine w_no 3 20 true rfl rfl rfl (by first | exact .inl rfl | exact .inr rfl) ?_
        refine w_no 3 20 true rfl rfl rfl (by first | exact .inl rfl | exact .inr rfl) ?_
        refine w_no 3 20 true rfl rfl rfl (by first | exact .inl rfl | exact .inr rfl) ?_
        refine w_no 3 20 true rfl rfl rfl (by first | exact .inl rfl | exact .inr rfl) ?_
        refine w_no 3 20 true rfl rfl rfl (by first | exact .inl rfl | exact .inr rfl) ?_
        refine w_no 3 20 true rfl rfl rfl (by first | exact .inl rfl | exact .inr rfl) ?_
        refine w_plain rfl (st_pick (b := false) (v := .bool _) rfl rfl ?_)
        refine w_plain rfl (st_move (v := .bool _) rfl ?_)
        refine w_yes 12 29 false rfl rfl rfl rfl (st_move (v := .func _ _ _) rfl ?_)
        refine w_yes 12 29 false rfl rfl rfl rfl (st_load1 (v := S _) T.one9 rfl (q1.cell rfl) ?_)
        refine w_yes 12 29 false rfl rfl rfl rfl (st_move (v := .int _ _) rfl ?_)
        refine w_yes 12 29 false rfl rfl rfl rfl (st_move (v := .int _ _) rfl ?_)
        refine w_yes 12 29 false rfl rfl rfl rfl (st_addn rfl rfl (by constructor <;> omega) ?_)
        refine w_yes 12 29 false rfl rfl rfl rfl (st_sslice (i := i) (j := i + 1) T.u9 rfl ⟨_, rfl⟩ ⟨_, rfl⟩ (by omega) (by omega) ?_)
        refine w_yes 12 29 false rfl rfl rfl rfl (st_yield (vs := [S _]) rfl rfl rfl rfl (hR pre ((t.take (i + 1)).drop i) _ _ (cut_one (by omega) (by omega) hq h1) hJ) ?_)
        rintro _ w12 ⟨hk2, ⟨rfl, hJ2⟩ | ⟨rfl, hJ2⟩⟩
        · skip
          replace q1 := q1.kept hk2 hK1
          replace q2 := q2.kept hk2 hK2
          refine w_yes 12 29 false rfl rfl rfl rfl (st_not rfl ?_)
          refine w_plain rfl (st_pick (b := false) (v := .bool _) rfl rfl ?_)
          refine wops_nil ?_
          refine then_n ?_
          refine x_cond (t := false) rfl (fun h2 => ?_) (fun h2 => ?_)
          · exact absurd h2 (by decide)
          refine x_skip ?_
          refine then_n ?_
          refine x_region rfl ?_
          refine w_plain rfl (st_move (v := .int _ _) rfl ?_)
          refine w_plain rfl (st_addn rfl rfl (by constructor <;> omega) ?_)
          refine w_plain rfl (st_assign (v := .int _ _) rfl ?_)
          refine wops_nil ?_
          refine block_n ?_
          refine then_n ?_
          refine x_region rfl ?_
          refine w_plain rfl (st_addn rfl rfl (by constructor <;> omega) ?_)
          refine w_plain rfl (st_move (v := .int _ _) rfl ?_)
          refine wops_nil ?_
          refine then_n ?_
          refine ⟨(i + 1, i + 1, pre ++ [(t.take (i + 1)).drop i]), ?_, ?_, rfl, ⟨rfl, rfl, trivial⟩, ?_⟩
          · skip
            refine ⟨?_, q1, q2, hJ2⟩
            exact ⟨by omega, by omega, by rw [cut_one (by omega) (by omega) hq h1]; simp⟩
          · skip
            show t.length - (i + 1) < t.length - i; omega
          repeat (first | exact agree_upds agree_over rfl | refine agree_upd ?_ rfl)
        · skip
          replace q1 := q1.kept hk2 hK1
          replace q2 := q2.kept hk2 hK2
          refine w_yes 12 29 false rfl rfl rfl rfl (st_not rfl ?_)
          refine w_plain rfl (st_pick (b := false) (v := .bool _) rfl rfl ?_)
          refine wops_nil ?_
          refine then_n ?_
          refine x_cond (t := true) rfl (fun h2 => ?_) (fun h2 => ?_)
          rotate_left
          · exact absurd h2 (by decide)
          refine x_ret ?_
          refine then_r ?_
          refine block_r ?_
          refine then_r ?_
          refine then_r ?_
          refine block_r ?_
          refine then_r ?_
          refine ret_none rfl ?_
          exact .inr ⟨_, hJ2⟩
  · skip
    try simp only [decide_eq_true_eq, decide_eq_false_iff_not, Bool.not_eq_true', Bool.not_eq_false', Bool.not_true, Bool.not_false, ne_eq, Int.toNat_natCast, Int.toNat_zero, Int.toNat_one, Bool.not_eq_true, Bool.not_eq_false] at h0
    refine x_exit ?_
    refine then_x ?_
    refine then_x ?_
    refine block_x ?_
    refine then_n ?_
    refine x_seq ?_
    refine x_region rfl ?_
    refine w_plain rfl (st_move (v := .int _ _) rfl ?_)
    refine w_plain rfl (st_load1 (v := S _) T.one9 rfl (q1.cell rfl) ?_)
    refine w_plain rfl (st_slen (ct := #[9]) T.u9 rfl ?_)
    refine w_plain rfl (st_lss rfl rfl ?_)
    refine wops_nil ?_
    refine then_n ?_
    refine x_cond rfl (fun h3 => ?_) (fun h3 => ?_)
    · skip
      try simp only [decide_eq_true_eq, decide_eq_false_iff_not, Bool.not_eq_true', Bool.not_eq_false', Bool.not_true, Bool.not_false, ne_eq, Int.toNat_natCast, Int.toNat_zero, Int.toNat_one, Bool.not_eq_true, Bool.not_eq_false] at h3
      refine x_region rfl ?_
      refine w_plain rfl (st_move (v := .func _ _ _) rfl ?_)
      refine w_plain rfl (st_load1 (v := S _) T.one9 rfl (q1.cell rfl) ?_)
      refine w_plain rfl (st_move (v := .int _ _) rfl ?_)
      refine w_plain rfl (st_sslice (i := _) (j := _) T.u9 rfl ⟨_, rfl⟩ (by rfl) (by omega) (by omega) ?_)
      refine w_plain rfl (st_yield (vs := [S _]) rfl rfl rfl rfl (hR pre ((t.take t.length).drop a) _ _ (by rw [cut_end (by omega) hi (by omega) hq]) hJ) ?_)
      rintro _ w13 ⟨hk2, ⟨rfl, hJ2⟩ | ⟨rfl, hJ2⟩⟩
      · skip
        replace q1 := q1.kept hk2 hK1
        replace q2 := q2.kept hk2 hK2
        refine wops_nil ?_
        refine ret_none_n rfl ?_
        left; rw [cut_end (by omega) hi (by omega) hq]; exact hJ2
      · skip
        replace q1 := q1.kept hk2 hK1
        replace q2 := q2.kept hk2 hK2
        refine wops_nil ?_
        refine ret_none_n rfl ?_
        exact .inr ⟨_, hJ2⟩
    · skip
      try simp only [decide_eq_true_eq, decide_eq_false_iff_not, Bool.not_eq_true', Bool.not_eq_false', Bool.not_true, Bool.not_false, ne_eq, Int.toNat_natCast, Int.toNat_zero, Int.toNat_one, Bool.not_eq_true, Bool.not_eq_false] at h3
      refine x_skip ?_
      refine ret_none_n rfl ?_
      left; rw [← cut_fin (by omega) hi (by omega) hq]; exact hJ

end Go.Proofs.Ytbnbkndeodankaa.K
