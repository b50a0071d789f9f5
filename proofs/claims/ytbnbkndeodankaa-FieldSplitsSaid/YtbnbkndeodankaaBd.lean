/- Walks. -/
import Derived.Test.YtbnbkndeodankaaKitK
import Derived.Test.YtbnbkndeodankaaTy
set_option linter.unusedVariables false
set_option linter.unusedSimpArgs false
set_option autoImplicit false
set_option maxRecDepth 20000
namespace Go.Proofs.Ytbnbkndeodankaa.K
open Go Go.Proofs Go.RowKit

theorem copy_fresh {b : Nat} {v : Value} {w : World} (hb : Blk w b [.pointer none, v] 50) : CallR Try.prog 30 #[.pointer (some ⟨b, 0, none⟩)] w fun r w' => r = .tuple ⟨[]⟩ ∧ Blk w' b [.pointer (some ⟨b, 0, none⟩), v] 50 ∧ Chg [b] w w' := by
  refine callR_of_wp (args := [_]) Try.func30 rfl (Nat.le_of_ble_eq_true rfl) ?_
  have HC : Chg [b] w w := .refl _
  refine x_seq ?_
  refine x_region rfl ?_
  refine w_plain rfl (st_move (v := .pointer _) rfl ?_)
  refine w_plain rfl (st_nilCheck rfl ?_)
  refine w_plain rfl (st_fieldAddr T.fld50_0 rfl ?_)
  refine w_plain rfl (st_load1 (v := .pointer _) T.one48 rfl (hb.cell rfl) ?_)
  refine w_plain rfl (st_peqln T.u48 rfl rfl ?_)
  refine wops_nil ?_
  refine then_n ?_
  refine x_cond rfl (fun h0 => ?_) (fun h0 => ?_)
  · skip
    try simp only [decide_eq_true_eq, decide_eq_false_iff_not, Bool.not_eq_true', Bool.not_eq_false', Bool.not_true, Bool.not_false, ne_eq, Int.toNat_natCast, Int.toNat_zero, Int.toNat_one, Bool.not_eq_true, Bool.not_eq_false] at h0
    refine x_region rfl ?_
    refine w_plain rfl (st_move (v := .pointer _) rfl ?_)
    refine w_plain rfl (st_move (v := .pointer _) rfl ?_)
    refine w_plain rfl (st_toUnsafe T.u48 T.u71 T.nz50 hb (Nat.le_of_ble_eq_true rfl) rfl ?_)
    refine w_plain rfl (st_callV rfl rfl rfl (T.noesc _ _) ?_)
    refine w_plain rfl (st_fromUnsafe T.u71 T.u48 T.isSome50 hb T.lies50 rfl ?_)
    refine w_plain rfl (st_nilCheck rfl ?_)
    refine w_plain rfl (st_fieldAddr T.fld50_0 rfl ?_)
    refine w_plain rfl (st_store (v := .pointer _) T.size48 rfl rfl rfl hb rfl (Nat.le_of_ble_eq_true rfl) (by simp [Value.oneCell', S]) rfl ?_)
    intro w1 c2 hb3; simp only [setVs, setV] at hb3
    clear hb
    replace HC := HC.trans c2 (by intro x hx; simp only [List.mem_singleton] at hx; subst hx; exact .inl (by simp))
    refine wops_nil ?_
    refine ret_none_n rfl ?_
    exact ⟨rfl, hb3, HC⟩
  · skip
    try simp only [decide_eq_true_eq, decide_eq_false_iff_not, Bool.not_eq_true', Bool.not_eq_false', Bool.not_true, Bool.not_false, ne_eq, Int.toNat_natCast, Int.toNat_zero, Int.toNat_one, Bool.not_eq_true, Bool.not_eq_false] at h0
    simp at h0

theorem copy_used {b : Nat} {v : Value} {w : World} (hb : Blk w b [.pointer (some ⟨b, 0, none⟩), v] 50) : CallR Try.prog 30 #[.pointer (some ⟨b, 0, none⟩)] w fun r w' => r = .tuple ⟨[]⟩ ∧ Blk w' b [.pointer (some ⟨b, 0, none⟩), v] 50 ∧ Chg [b] w w' := by
  refine callR_of_wp (args := [_]) Try.func30 rfl (Nat.le_of_ble_eq_true rfl) ?_
  have HC : Chg [b] w w := .refl _
  refine x_seq ?_
  refine x_region rfl ?_
  refine w_plain rfl (st_move (v := .pointer _) rfl ?_)
  refine w_plain rfl (st_nilCheck rfl ?_)
  refine w_plain rfl (st_fieldAddr T.fld50_0 rfl ?_)
  refine w_plain rfl (st_load1 (v := .pointer _) T.one48 rfl (hb.cell rfl) ?_)
  refine w_plain rfl (st_peqln T.u48 rfl rfl ?_)
  refine wops_nil ?_
  refine then_n ?_
  refine x_cond rfl (fun h0 => ?_) (fun h0 => ?_)
  · skip
    try simp only [decide_eq_true_eq, decide_eq_false_iff_not, Bool.not_eq_true', Bool.not_eq_false', Bool.not_true, Bool.not_false, ne_eq, Int.toNat_natCast, Int.toNat_zero, Int.toNat_one, Bool.not_eq_true, Bool.not_eq_false] at h0
    simp at h0
  · skip
    try simp only [decide_eq_true_eq, decide_eq_false_iff_not, Bool.not_eq_true', Bool.not_eq_false', Bool.not_true, Bool.not_false, ne_eq, Int.toNat_natCast, Int.toNat_zero, Int.toNat_one, Bool.not_eq_true, Bool.not_eq_false] at h0
    refine x_seq ?_
    refine x_region rfl ?_
    refine w_plain rfl (st_move (v := .pointer _) rfl ?_)
    refine w_plain rfl (st_nilCheck rfl ?_)
    refine w_plain rfl (st_fieldAddr T.fld50_0 rfl ?_)
    refine w_plain rfl (st_load1 (v := .pointer _) T.one48 rfl (hb.cell rfl) ?_)
    refine w_plain rfl (st_move (v := .pointer _) rfl ?_)
    refine w_plain rfl (st_pneq_same T.u48 T.isSome50 rfl rfl ?_)
    refine wops_nil ?_
    refine then_n ?_
    refine x_cond (t := false) rfl (fun h1 => ?_) (fun h1 => ?_)
    · exact absurd h1 (by decide)
    refine x_skip ?_
    refine ret_none_n rfl ?_
    exact ⟨rfl, hb, HC⟩

theorem copyCheck_spec {b : Nat} {A : Option Addr} {cap : Nat} {s : Bytes} {w : World} (h : BldAt 50 5 w b A cap s) : CallR Try.prog 30 #[.pointer (some ⟨b, 0, none⟩)] w fun r w' => r = .tuple ⟨[]⟩ ∧ Blk w' b [.pointer (some ⟨b, 0, none⟩), .slice A s.length cap] 50 ∧ Chg [b] w w' := by
  rcases h.blk with hb | hb
  · exact copy_fresh hb
  · exact copy_used hb

theorem WriteString_spec {b : Nat} {A : Option Addr} {cap : Nat} {s : Bytes} {w : World} (s2 : Bytes) (h : BldAt 50 5 w b A cap s) (hl : s.length + s2.length ≤ 140737488355328) : CallR Try.prog 21 #[.pointer (some ⟨b, 0, none⟩), S s2] w fun v w' => v = .tuple ⟨[.int .i64 s2.length, .nilIface]⟩ ∧ ∃ A' cap', BldAt 50 5 w' b A' cap' (s ++ s2) ∧ Chg (b :: ob A) w w' ∧ ∀ g, g ∈ ob A' → g ∈ ob A ∨ w.heap.size ≤ g := by
  have ho := h.own
  refine callR_of_wp (args := [_, _]) Try.func21 rfl (Nat.le_of_ble_eq_true rfl) ?_
  have HC : Chg (b :: ob A) w w := .refl _
  refine x_seq ?_
  refine x_region rfl ?_
  refine w_plain rfl (st_assign (v := .int _ _) rfl ?_)
  refine w_plain rfl (st_assign (v := .nilIface) rfl ?_)
  refine wops_nil ?_
  refine then_n ?_
  refine x_seq ?_
  refine x_region rfl ?_
  refine w_plain rfl (st_move (v := .pointer _) rfl ?_)
  refine w_plain rfl (st_call (ags := [_]) rfl rfl T.ent30 rfl (copyCheck_spec h) ?_)
  rintro _ w1 ⟨rfl, hb, c2⟩
  have hsz0 := c2.size
  replace HC := HC.trans c2 (by intro x hx; simp only [List.mem_singleton] at hx; subst hx; exact .inl (by simp))
  replace ho := ho.tr c2 (fun k hk hx => by simp only [List.mem_singleton] at hx; subst hx; exact h.ne (by decide) hk)
  refine wops_nil ?_
  refine then_n ?_
  refine x_seq ?_
  refine x_region rfl ?_
  refine w_plain rfl (st_move (v := .pointer _) rfl ?_)
  refine w_plain rfl (st_move (v := .pointer _) rfl ?_)
  refine w_plain rfl (st_nilCheck rfl ?_)
  refine w_plain rfl (st_fieldAddr T.fld50_1 rfl ?_)
  refine w_plain rfl (st_load1 (v := .slice _ _ _) T.one34 rfl (hb.cell rfl) ?_)
  refine w_plain rfl (st_move (v := S _) rfl ?_)
  refine w_plain rfl (st_appendStr T.byte34 rfl rfl ho h.nil hl ?_)
  intro A3 cap4 w5 ho6 c7 hg8 hn9
  replace hb := hb.tr c7 (fun hx => h.ne (by decide) hx)
  replace HC := HC.trans c7 (fun k hk => .inl (by simp [hk]))
  have hne2 := ho6.ne hb (by decide)
  refine w_plain rfl (st_nilCheck rfl ?_)
  refine w_plain rfl (st_fieldAddr T.fld50_1 rfl ?_)
  refine w_plain rfl (st_store (v := .slice _ _ _) T.size34 rfl rfl rfl hb rfl (Nat.le_of_ble_eq_true rfl) (by simp [Value.oneCell', S]) rfl ?_)
  intro w10 c11 hb12; simp only [setVs, setV] at hb12
  clear hb
  replace HC := HC.trans c11 (by intro x hx; simp only [List.mem_singleton] at hx; subst hx; exact .inl (by simp))
  replace ho6 := ho6.tr c11 (fun k hk hx => by simp only [List.mem_singleton] at hx; subst hx; exact hne2 hk)
  refine wops_nil ?_
  refine then_n ?_
  refine x_seq ?_
  refine x_region rfl ?_
  refine w_plain rfl (st_move (v := S _) rfl ?_)
  refine w_plain rfl (st_slen (ct := #[9]) T.u9 rfl ?_)
  refine w_plain rfl (st_assign (v := .int _ _) rfl ?_)
  refine w_plain rfl (st_assign (v := .nilIface) rfl ?_)
  refine wops_nil ?_
  refine then_n ?_
  refine x_ret ?_
  refine ret_tmp2 (v := .int _ _) (v2 := .nilIface) rfl rfl rfl ?_
  exact ⟨rfl, A3, cap4, ⟨.inr hb12, ho6, hn9⟩, HC, fun g hg => (hg8 g hg).imp id (fun h => by omega)⟩

theorem String00 {b gb cap : Nat} {s : Bytes} {w : World} (hb : Blk w b [.pointer none, .slice none 0 0] 50) : CallR Try.prog 23 #[.pointer (some ⟨b, 0, none⟩)] w fun v w' => v = S [] ∧ Blk w' b [.pointer none, .slice none 0 0] 50 ∧ Chg [] w w' := by
  refine callR_of_wp (args := [_]) Try.func23 rfl (Nat.le_of_ble_eq_true rfl) ?_
  have HC : Chg [] w w := .refl _
  refine x_seq ?_
  refine x_region rfl ?_
  refine w_plain rfl (st_assign (v := S _) rfl ?_)
  refine wops_nil ?_
  refine then_n ?_
  refine x_seq ?_
  refine x_draw [(0, 0), (1, 0), (2, 0), (3, 0), (4, 0), (5, 0), (6, 0), (7, 0), (8, 0), (9, 0), (10, 1), (11, 0)] T.mixed rfl rfl rfl (fun W => W.heap[b]? = w.heap[b]? ∧ True) ⟨rfl, trivial⟩ ?_
  have o3 := hb
  have c2 := Chg.drew w
  generalize World.drew w = w1 at c2 ⊢
  replace HC := HC.then c2
  replace hb := hb.tr0 c2
  refine sq_q rfl (fun W hT => r_move (v := .pointer _) rfl) ?_
  refine sq_q rfl (fun W hT => r_nilCheck rfl) ?_
  refine sq_q rfl (fun W hT => r_fieldAddr T.fld50_1 rfl) ?_
  refine sq_q rfl (fun W hT => r_load1 (v := .slice _ _ _) T.one34 rfl (Blk.cell (show Blk W b _ _ from hT.1.trans o3) rfl)) ?_
  refine sq_q rfl (fun W hT => r_sliceData_nil rfl) ?_
  refine sq_q rfl (fun W hT => r_move (v := .pointer _) rfl) ?_
  refine sq_q rfl (fun W hT => r_nilCheck rfl) ?_
  refine sq_q rfl (fun W hT => r_fieldAddr T.fld50_1 rfl) ?_
  refine sq_q rfl (fun W hT => r_load1 (v := .slice _ _ _) T.one34 rfl (Blk.cell (show Blk W b _ _ from hT.1.trans o3) rfl)) ?_
  refine sq_q rfl (fun W hT => r_len (ct := #[34]) (by rw [show ((#[34] : Array TypeId)[0]?).bind Try.prog.underlying = some (.slice 5) from T.u34]; rfl) rfl) ?_
  refine sq_run1 rfl (r_unsafeString_nil rfl rfl) _ (fun _ h => h) ?_ ?_
  · exact ⟨(Eq.trans hb o3.symm), trivial⟩
  refine sq_q rfl (fun W hT => r_assign (v := S _) rfl) ?_
  clear o3
  refine sq_nil ?_
  refine then_n ?_
  refine x_ret ?_
  refine ret_tmp (v := S _) rfl rfl ?_
  exact ⟨rfl, hb, HC⟩

theorem String01 {b gb cap : Nat} {s : Bytes} {w : World} (hb : Blk w b [.pointer none, .slice (some ⟨gb, 0, none⟩) s.length cap] 50) (ho : OwnB 5 w (some ⟨gb, 0, none⟩) cap s) (hs : s ≠ []) (hcap : cap ≠ 0) (hne : b ≠ gb) : CallR Try.prog 23 #[.pointer (some ⟨b, 0, none⟩)] w fun v w' => v = S s ∧ Blk w' b [.pointer none, .slice (some ⟨gb, 0, none⟩) s.length cap] 50 ∧ OwnB 5 w' (some ⟨gb, 0, none⟩) cap s ∧ Chg [gb] w w' := by
  refine callR_of_wp (args := [_]) Try.func23 rfl (Nat.le_of_ble_eq_true rfl) ?_
  have HC : Chg [gb] w w := .refl _
  refine x_seq ?_
  refine x_region rfl ?_
  refine w_plain rfl (st_assign (v := S _) rfl ?_)
  refine wops_nil ?_
  refine then_n ?_
  refine x_seq ?_
  refine x_draw [(0, 0), (1, 0), (2, 0), (3, 0), (4, 0), (5, 0), (6, 0), (7, 0), (8, 0), (9, 0), (10, 1), (11, 0)] T.mixed rfl rfl rfl (fun W => W.heap[b]? = w.heap[b]? ∧ True) ⟨rfl, trivial⟩ ?_
  have o3 := hb
  have c2 := Chg.drew w
  generalize World.drew w = w1 at c2 ⊢
  replace HC := HC.then c2
  replace hb := hb.tr0 c2
  replace ho := ho.tr c2 (by simp)
  refine sq_q rfl (fun W hT => r_move (v := .pointer _) rfl) ?_
  refine sq_q rfl (fun W hT => r_nilCheck rfl) ?_
  refine sq_q rfl (fun W hT => r_fieldAddr T.fld50_1 rfl) ?_
  refine sq_q rfl (fun W hT => r_load1 (v := .slice _ _ _) T.one34 rfl (Blk.cell (show Blk W b _ _ from hT.1.trans o3) rfl)) ?_
  refine sq_q rfl (fun W hT => r_sliceData rfl hcap) ?_
  refine sq_q rfl (fun W hT => r_move (v := .pointer _) rfl) ?_
  refine sq_q rfl (fun W hT => r_nilCheck rfl) ?_
  refine sq_q rfl (fun W hT => r_fieldAddr T.fld50_1 rfl) ?_
  refine sq_q rfl (fun W hT => r_load1 (v := .slice _ _ _) T.one34 rfl (Blk.cell (show Blk W b _ _ from hT.1.trans o3) rfl)) ?_
  refine sq_q rfl (fun W hT => r_len (ct := #[34]) (by rw [show ((#[34] : Array TypeId)[0]?).bind Try.prog.underlying = some (.slice 5) from T.u34]; rfl) rfl) ?_
  refine sq_us rfl (r_unsafeString T.u70 T.cells5 ho hs rfl rfl) ?_
  rintro w4 ⟨ho6, c5⟩
  have hbx := hb.tr1 c5 hne
  refine ⟨_, fun _ h => h, ⟨(Eq.trans hbx o3.symm), trivial⟩, ?_⟩
  replace HC := HC.trans c5 (fun k hk => .inl hk)
  refine sq_q rfl (fun W hT => r_assign (v := S _) rfl) ?_
  clear o3
  refine sq_nil ?_
  refine then_n ?_
  refine x_ret ?_
  refine ret_tmp (v := S _) rfl rfl ?_
  exact ⟨rfl, hbx, ho6, HC⟩

theorem String10 {b gb cap : Nat} {s : Bytes} {w : World} (hb : Blk w b [.pointer (some ⟨b, 0, none⟩), .slice none 0 0] 50) : CallR Try.prog 23 #[.pointer (some ⟨b, 0, none⟩)] w fun v w' => v = S [] ∧ Blk w' b [.pointer (some ⟨b, 0, none⟩), .slice none 0 0] 50 ∧ Chg [] w w' := by
  refine callR_of_wp (args := [_]) Try.func23 rfl (Nat.le_of_ble_eq_true rfl) ?_
  have HC : Chg [] w w := .refl _
  refine x_seq ?_
  refine x_region rfl ?_
  refine w_plain rfl (st_assign (v := S _) rfl ?_)
  refine wops_nil ?_
  refine then_n ?_
  refine x_seq ?_
  refine x_draw [(0, 0), (1, 0), (2, 0), (3, 0), (4, 0), (5, 0), (6, 0), (7, 0), (8, 0), (9, 0), (10, 1), (11, 0)] T.mixed rfl rfl rfl (fun W => W.heap[b]? = w.heap[b]? ∧ True) ⟨rfl, trivial⟩ ?_
  have o3 := hb
  have c2 := Chg.drew w
  generalize World.drew w = w1 at c2 ⊢
  replace HC := HC.then c2
  replace hb := hb.tr0 c2
  refine sq_q rfl (fun W hT => r_move (v := .pointer _) rfl) ?_
  refine sq_q rfl (fun W hT => r_nilCheck rfl) ?_
  refine sq_q rfl (fun W hT => r_fieldAddr T.fld50_1 rfl) ?_
  refine sq_q rfl (fun W hT => r_load1 (v := .slice _ _ _) T.one34 rfl (Blk.cell (show Blk W b _ _ from hT.1.trans o3) rfl)) ?_
  refine sq_q rfl (fun W hT => r_sliceData_nil rfl) ?_
  refine sq_q rfl (fun W hT => r_move (v := .pointer _) rfl) ?_
  refine sq_q rfl (fun W hT => r_nilCheck rfl) ?_
  refine sq_q rfl (fun W hT => r_fieldAddr T.fld50_1 rfl) ?_
  refine sq_q rfl (fun W hT => r_load1 (v := .slice _ _ _) T.one34 rfl (Blk.cell (show Blk W b _ _ from hT.1.trans o3) rfl)) ?_
  refine sq_q rfl (fun W hT => r_len (ct := #[34]) (by rw [show ((#[34] : Array TypeId)[0]?).bind Try.prog.underlying = some (.slice 5) from T.u34]; rfl) rfl) ?_
  refine sq_run1 rfl (r_unsafeString_nil rfl rfl) _ (fun _ h => h) ?_ ?_
  · exact ⟨(Eq.trans hb o3.symm), trivial⟩
  refine sq_q rfl (fun W hT => r_assign (v := S _) rfl) ?_
  clear o3
  refine sq_nil ?_
  refine then_n ?_
  refine x_ret ?_
  refine ret_tmp (v := S _) rfl rfl ?_
  exact ⟨rfl, hb, HC⟩

theorem String11 {b gb cap : Nat} {s : Bytes} {w : World} (hb : Blk w b [.pointer (some ⟨b, 0, none⟩), .slice (some ⟨gb, 0, none⟩) s.length cap] 50) (ho : OwnB 5 w (some ⟨gb, 0, none⟩) cap s) (hs : s ≠ []) (hcap : cap ≠ 0) (hne : b ≠ gb) : CallR Try.prog 23 #[.pointer (some ⟨b, 0, none⟩)] w fun v w' => v = S s ∧ Blk w' b [.pointer (some ⟨b, 0, none⟩), .slice (some ⟨gb, 0, none⟩) s.length cap] 50 ∧ OwnB 5 w' (some ⟨gb, 0, none⟩) cap s ∧ Chg [gb] w w' := by
  refine callR_of_wp (args := [_]) Try.func23 rfl (Nat.le_of_ble_eq_true rfl) ?_
  have HC : Chg [gb] w w := .refl _
  refine x_seq ?_
  refine x_region rfl ?_
  refine w_plain rfl (st_assign (v := S _) rfl ?_)
  refine wops_nil ?_
  refine then_n ?_
  refine x_seq ?_
  refine x_draw [(0, 0), (1, 0), (2, 0), (3, 0), (4, 0), (5, 0), (6, 0), (7, 0), (8, 0), (9, 0), (10, 1), (11, 0)] T.mixed rfl rfl rfl (fun W => W.heap[b]? = w.heap[b]? ∧ True) ⟨rfl, trivial⟩ ?_
  have o3 := hb
  have c2 := Chg.drew w
  generalize World.drew w = w1 at c2 ⊢
  replace HC := HC.then c2
  replace hb := hb.tr0 c2
  replace ho := ho.tr c2 (by simp)
  refine sq_q rfl (fun W hT => r_move (v := .pointer _) rfl) ?_
  refine sq_q rfl (fun W hT => r_nilCheck rfl) ?_
  refine sq_q rfl (fun W hT => r_fieldAddr T.fld50_1 rfl) ?_
  refine sq_q rfl (fun W hT => r_load1 (v := .slice _ _ _) T.one34 rfl (Blk.cell (show Blk W b _ _ from hT.1.trans o3) rfl)) ?_
  refine sq_q rfl (fun W hT => r_sliceData rfl hcap) ?_
  refine sq_q rfl (fun W hT => r_move (v := .pointer _) rfl) ?_
  refine sq_q rfl (fun W hT => r_nilCheck rfl) ?_
  refine sq_q rfl (fun W hT => r_fieldAddr T.fld50_1 rfl) ?_
  refine sq_q rfl (fun W hT => r_load1 (v := .slice _ _ _) T.one34 rfl (Blk.cell (show Blk W b _ _ from hT.1.trans o3) rfl)) ?_
  refine sq_q rfl (fun W hT => r_len (ct := #[34]) (by rw [show ((#[34] : Array TypeId)[0]?).bind Try.prog.underlying = some (.slice 5) from T.u34]; rfl) rfl) ?_
  refine sq_us rfl (r_unsafeString T.u70 T.cells5 ho hs rfl rfl) ?_
  rintro w4 ⟨ho6, c5⟩
  have hbx := hb.tr1 c5 hne
  refine ⟨_, fun _ h => h, ⟨(Eq.trans hbx o3.symm), trivial⟩, ?_⟩
  replace HC := HC.trans c5 (fun k hk => .inl hk)
  refine sq_q rfl (fun W hT => r_assign (v := S _) rfl) ?_
  clear o3
  refine sq_nil ?_
  refine then_n ?_
  refine x_ret ?_
  refine ret_tmp (v := S _) rfl rfl ?_
  exact ⟨rfl, hbx, ho6, HC⟩

theorem String_spec {b : Nat} {A : Option Addr} {cap : Nat} {s : Bytes} {w : World} (h : BldAt 50 5 w b A cap s) : CallR Try.prog 23 #[.pointer (some ⟨b, 0, none⟩)] w fun v w' => v = S s ∧ BldAt 50 5 w' b A cap s ∧ Chg (ob A) w w' := by
  by_cases hs : s = []
  · subst hs
    have hA := h.nil rfl
    subst hA
    have h0 : cap = 0 := by rcases h.own.form with ⟨_, h0, _⟩ | ⟨g, cur, fz, h0, _⟩; exact h0; cases h0
    subst h0
    rcases h.blk with hb | hb
    · exact CallR.imp (String00 (gb := 0) (cap := 0) (s := []) hb) fun v w' ⟨h1, h2, h3⟩ => ⟨h1, ⟨.inl h2, h.own.tr h3 (by simp [ob]), fun _ => rfl⟩, h3⟩
    · exact CallR.imp (String10 (gb := 0) (cap := 0) (s := []) hb) fun v w' ⟨h1, h2, h3⟩ => ⟨h1, ⟨.inr h2, h.own.tr h3 (by simp [ob]), fun _ => rfl⟩, h3⟩
  · rcases h.own.form with ⟨_, _, h0⟩ | ⟨g, cur, fz, rfl, hg, hle, _⟩
    · exact absurd h0 hs
    · have hpos := List.length_pos_iff.2 hs
      have hne : b ≠ g := fun e => h.ne (by decide) (by simp [ob, e])
      rcases h.blk with hb | hb
      · exact CallR.imp (String01 hb h.own hs (by omega) hne) fun v w' ⟨h1, h2, h3, h4⟩ => ⟨h1, ⟨.inl h2, h3, fun hz => absurd hz hs⟩, h4⟩
      · exact CallR.imp (String11 hb h.own hs (by omega) hne) fun v w' ⟨h1, h2, h3, h4⟩ => ⟨h1, ⟨.inr h2, h3, fun hz => absurd hz hs⟩, h4⟩

end Go.Proofs.Ytbnbkndeodankaa.K
