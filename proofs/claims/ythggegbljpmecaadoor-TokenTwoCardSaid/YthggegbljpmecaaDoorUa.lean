import Derived.Test.YthggegbljpmecaaDoorKitX
import Derived.Test.YthggegbljpmecaaDoorKitM
import Derived.Test.YthggegbljpmecaaDoorKitS
set_option linter.unusedVariables false
set_option linter.unusedSimpArgs false
set_option autoImplicit false
set_option maxRecDepth 20000
namespace Go.Proofs.YthggegbljpmecaaDoor.K
open Go Go.Proofs Go.RowKit

/-- The builder at the beginning of block b holds s; behind it lies rs. -/
structure BldP (w : World) (b : Nat) (A : Option Addr) (cap : Nat) (s : Bytes) (rs : List Value) : Prop where
  blk : Blk w b (.pointer none :: .slice A s.length cap :: rs) 56 ∨ Blk w b (.pointer (some ⟨b, 0, none⟩) :: .slice A s.length cap :: rs) 56
  own : OwnB 5 w A cap s
  nil : s = [] → A = none
section
variable {w w' : World} {b : Nat} {A : Option Addr} {cap : Nat} {s : Bytes} {rs : List Value}
theorem BldP.ne (h : BldP w b A cap s rs) : b ∉ ob A := by
  rcases h.blk with hb | hb <;> exact h.own.ne hb (by decide)
theorem BldP.ltb (h : BldP w b A cap s rs) : b < w.heap.size := by
  rcases h.blk with hb | hb <;> exact hb.lt
theorem BldP.tr {bs : List Nat} (h : BldP w b A cap s rs) (hc : Chg bs w w') (h1 : b ∉ bs) (h2 : ∀ k, k ∈ ob A → k ∉ bs) : BldP w' b A cap s rs :=
  ⟨h.blk.imp (fun x => x.tr hc h1) (fun x => x.tr hc h1), h.own.tr hc h2, h.nil⟩
theorem BldP.tr0 (h : BldP w b A cap s rs) (hc : Chg [] w w') : BldP w' b A cap s rs := h.tr hc (by simp) (by simp)
theorem BldP.new (h : Blk w b (.pointer none :: .slice none 0 0 :: rs) 56) : BldP w b none 0 [] rs :=
  ⟨.inl h, ⟨by simp [Lib.byteCells], .inl ⟨rfl, rfl⟩⟩, fun _ => rfl⟩
theorem BldP.fresh (h : BldP w b A cap s rs) {k : Nat} (hk : w.heap.size ≤ k) : k ∉ ob A := fun hx => by have := h.own.lt k hx; omega
end

theorem copyP_fresh {b : Nat} {v : Value}  {w : World} (hb : Blk w b [.pointer none, v] 56) : CallR Tryd.prog 42 #[.pointer (some ⟨b, 0, none⟩)] w fun r w' => r = .tuple ⟨[]⟩ ∧ Blk w' b [.pointer (some ⟨b, 0, none⟩), v] 56 ∧ Chg [b] w w' := by
 refine callR_of_wp (args := [_]) Tryd.func42 rfl (Nat.le_of_ble_eq_true rfl) ?_
 have HC : Chg [b] w w := .refl _
 refine sr rfl <| mP rfl <| nc rfl <| fa T.fld56_0 rfl <| Wp rfl <| st_load1 (v := .pointer _) T.one53 rfl (hb.cell rfl) <| Wp rfl <| st_peqln T.u53 rfl rfl <| en <| x_cond rfl (fun h0 => ?_) (fun h0 => ?_)
 ·try simp only [nm, ne_eq] at h0
  refine x_region rfl <| mP rfl <| mP rfl <| Wp rfl <| st_toUnsafe T.u53 T.u116 T.nz56 hb (Nat.le_of_ble_eq_true rfl) rfl <| Wp rfl <| st_callV rfl rfl rfl (T.noesc _ _) <| Wp rfl <| st_fromUnsafe T.u116 T.u53 T.isSome56 hb T.lies56_56 rfl <| nc rfl <| fa T.fld56_0 rfl <| Wp rfl <| st_store (v := .pointer _) T.size53 rfl rfl rfl hb rfl (Nat.le_of_ble_eq_true rfl) (by simp [Value.oneCell', S]) rfl ?_
  intro w1 c2 hb3; simp only [setVs, setV] at hb3
  clear hb
  replace HC := HC.trans c2 (by intro x hx; simp only [List.mem_singleton] at hx; subst hx; exact .inl (by simp))
  refine wops_nil <| ret_none_n rfl ?_
  exact ⟨rfl, hb3, HC⟩
 ·try simp only [nm, ne_eq] at h0
  simp at h0

theorem copyP_used {b : Nat} {v : Value}  {w : World} (hb : Blk w b [.pointer (some ⟨b, 0, none⟩), v] 56) : CallR Tryd.prog 42 #[.pointer (some ⟨b, 0, none⟩)] w fun r w' => r = .tuple ⟨[]⟩ ∧ Blk w' b [.pointer (some ⟨b, 0, none⟩), v] 56 ∧ Chg [b] w w' := by
 refine callR_of_wp (args := [_]) Tryd.func42 rfl (Nat.le_of_ble_eq_true rfl) ?_
 have HC : Chg [b] w w := .refl _
 refine sr rfl <| mP rfl <| nc rfl <| fa T.fld56_0 rfl <| Wp rfl <| st_load1 (v := .pointer _) T.one53 rfl (hb.cell rfl) <| Wp rfl <| st_peqln T.u53 rfl rfl <| en <| x_cond rfl (fun h0 => ?_) (fun h0 => ?_)
 ·try simp only [nm, ne_eq] at h0
  simp at h0
 ·try simp only [nm, ne_eq] at h0
  refine sr rfl <| mP rfl <| nc rfl <| fa T.fld56_0 rfl <| Wp rfl <| st_load1 (v := .pointer _) T.one53 rfl (hb.cell rfl) <| mP rfl <| Wp rfl <| st_pneq_same T.u53 T.isSome56 rfl rfl <| en <| x_cond (t := false) rfl (fun h1 => ?_) (fun h1 => ?_)
  · exact absurd h1 (by decide)
  refine x_skip <| ret_none_n rfl ?_
  exact ⟨rfl, hb, HC⟩

theorem copyCheckP_spec {b : Nat} {A : Option Addr} {cap : Nat} {s : Bytes}  {w : World} (h : BldP w b A cap s []) : CallR Tryd.prog 42 #[.pointer (some ⟨b, 0, none⟩)] w fun r w' => r = .tuple ⟨[]⟩ ∧ Blk w' b [.pointer (some ⟨b, 0, none⟩), .slice A s.length cap] 56 ∧ Chg [b] w w' := by
  rcases h.blk with hb | hb
  · exact copyP_fresh hb
  · exact copyP_used hb

theorem WriteStringP_spec {b : Nat} {A : Option Addr} {cap : Nat} {s : Bytes}  {w : World} (s2 : Bytes) (h : BldP w b A cap s []) (hl : s.length + s2.length ≤ 140737488355328) : CallR Tryd.prog 23 #[.pointer (some ⟨b, 0, none⟩), S s2] w fun v w' => v = .tuple ⟨[.int .i64 s2.length, .nilIface]⟩ ∧ ∃ A' cap', BldP w' b A' cap' (s ++ s2) [] ∧ Chg (b :: ob A) w w' ∧ ∀ g, g ∈ ob A' → g ∈ ob A ∨ w.heap.size ≤ g := by
 have ho := h.own
 refine callR_of_wp (args := [_, _]) Tryd.func23 rfl (Nat.le_of_ble_eq_true rfl) ?_
 have HC : Chg (b :: ob A) w w := .refl _
 refine sr rfl <| aI rfl <| av (v := .nilIface) rfl <| en <| sr rfl <| mP rfl <| Wp rfl <| st_call (ags := [_]) rfl rfl T.ent42 rfl (copyCheckP_spec h) ?_
 rintro _ w1 ⟨rfl, hb, c2⟩
 have hsz0 := c2.size
 replace HC := HC.trans c2 (by intro x hx; simp only [List.mem_singleton] at hx; subst hx; exact .inl (by simp))
 replace ho := ho.tr c2 (fun k hk hx => by simp only [List.mem_singleton] at hx; subst hx; exact h.ne hk)
 refine en <| sr rfl <| mP rfl <| mP rfl <| nc rfl <| fa T.fld56_1 rfl <| lL T.one54 rfl (hb.cell rfl) <| mS rfl <| Wp rfl <| st_appendStr T.byte54 rfl rfl ho h.nil hl ?_
 intro A3 cap4 w5 ho6 c7 hg8 hn9
 replace hb := hb.tr c7 (fun hx => h.ne hx)
 replace HC := HC.trans c7 (fun k hk => .inl (by simp [hk]))
 have hne2 := ho6.ne hb (by decide)
 refine nc rfl <| fa T.fld56_1 rfl <| Wp rfl <| st_store (v := .slice _ _ _) T.size54 rfl rfl rfl hb rfl (Nat.le_of_ble_eq_true rfl) (by simp [Value.oneCell', S]) rfl ?_
 intro w10 c11 hb12; simp only [setVs, setV] at hb12
 clear hb
 replace HC := HC.trans c11 (by intro x hx; simp only [List.mem_singleton] at hx; subst hx; exact .inl (by simp))
 replace ho6 := ho6.tr c11 (fun k hk hx => by simp only [List.mem_singleton] at hx; subst hx; exact hne2 hk)
 refine en <| sr rfl <| mS rfl <| Wp rfl <| st_slen (ct := #[9]) T.u9 rfl <| aI rfl <| av (v := .nilIface) rfl <| en <| x_ret <| ret_tmp2 (v := .int _ _) (v2 := .nilIface) rfl rfl rfl ?_
 exact ⟨rfl, A3, cap4, ⟨.inr hb12, ho6, hn9⟩, HC, fun g hg => (hg8 g hg).imp id (fun h => by omega)⟩

theorem StringP00 {b gb cap : Nat} {s : Bytes}  {w : World} (hb : Blk w b [.pointer none, .slice none 0 0] 56) : CallR Tryd.prog 26 #[.pointer (some ⟨b, 0, none⟩)] w fun v w' => v = S [] ∧ Blk w' b [.pointer none, .slice none 0 0] 56 ∧ Chg [] w w' := by
 refine callR_of_wp (args := [_]) Tryd.func26 rfl (Nat.le_of_ble_eq_true rfl) ?_
 have HC : Chg [] w w := .refl _
 refine sr rfl <| aS rfl <| en <| x_seq <| x_draw [(0, 0), (1, 0), (2, 0), (3, 0), (4, 0), (5, 0), (6, 0), (7, 0), (8, 0), (9, 0), (10, 1), (11, 0)] T.mixed rfl rfl rfl (fun W => W.heap[b]? = w.heap[b]? ∧ True) ⟨rfl, trivial⟩ ?_
 have o3 := hb
 have c2 := Chg.drew w
 generalize World.drew w = w1 at c2 ⊢
 replace HC := HC.then c2
 replace hb := hb.tr0 c2
 refine sq_q rfl (fun W hT => r_move (v := .pointer _) rfl) <| sq_q rfl (fun W hT => r_nilCheck rfl) <| sq_q rfl (fun W hT => r_fieldAddr T.fld56_1 rfl) <| sq_q rfl (fun W hT => r_load1 (v := .slice _ _ _) T.one54 rfl (Blk.cell (show Blk W b _ _ from hT.1.trans o3) rfl)) <| sq_q rfl (fun W hT => r_sliceData_nil rfl) <| sq_q rfl (fun W hT => r_move (v := .pointer _) rfl) <| sq_q rfl (fun W hT => r_nilCheck rfl) <| sq_q rfl (fun W hT => r_fieldAddr T.fld56_1 rfl) <| sq_q rfl (fun W hT => r_load1 (v := .slice _ _ _) T.one54 rfl (Blk.cell (show Blk W b _ _ from hT.1.trans o3) rfl)) <| sq_q rfl (fun W hT => r_len (ct := #[54]) (by rw [show ((#[54] : Array TypeId)[0]?).bind Tryd.prog.underlying = some (.slice 5) from T.u54]; rfl) rfl) <| sq_run1 rfl (r_unsafeString_nil rfl rfl) _ (fun _ h => h) ?_ ?_
 · exact ⟨(Eq.trans hb o3.symm), trivial⟩
 refine sq_q rfl (fun W hT => r_assign (v := S _) rfl) ?_
 clear o3
 refine sq_nil <| then_n <| x_ret <| ret_tmp (v := S _) rfl rfl ?_
 exact ⟨rfl, hb, HC⟩

theorem StringP01 {b gb cap : Nat} {s : Bytes}  {w : World} (hb : Blk w b [.pointer none, .slice (some ⟨gb, 0, none⟩) s.length cap] 56) (ho : OwnB 5 w (some ⟨gb, 0, none⟩) cap s) (hs : s ≠ []) (hcap : cap ≠ 0) (hne : b ≠ gb) : CallR Tryd.prog 26 #[.pointer (some ⟨b, 0, none⟩)] w fun v w' => v = S s ∧ Blk w' b [.pointer none, .slice (some ⟨gb, 0, none⟩) s.length cap] 56 ∧ OwnB 5 w' (some ⟨gb, 0, none⟩) cap s ∧ Chg [gb] w w' := by
 refine callR_of_wp (args := [_]) Tryd.func26 rfl (Nat.le_of_ble_eq_true rfl) ?_
 have HC : Chg [gb] w w := .refl _
 refine sr rfl <| aS rfl <| en <| x_seq <| x_draw [(0, 0), (1, 0), (2, 0), (3, 0), (4, 0), (5, 0), (6, 0), (7, 0), (8, 0), (9, 0), (10, 1), (11, 0)] T.mixed rfl rfl rfl (fun W => W.heap[b]? = w.heap[b]? ∧ True) ⟨rfl, trivial⟩ ?_
 have o3 := hb
 have c2 := Chg.drew w
 generalize World.drew w = w1 at c2 ⊢
 replace HC := HC.then c2
 replace hb := hb.tr0 c2
 replace ho := ho.tr c2 (by simp)
 refine sq_q rfl (fun W hT => r_move (v := .pointer _) rfl) <| sq_q rfl (fun W hT => r_nilCheck rfl) <| sq_q rfl (fun W hT => r_fieldAddr T.fld56_1 rfl) <| sq_q rfl (fun W hT => r_load1 (v := .slice _ _ _) T.one54 rfl (Blk.cell (show Blk W b _ _ from hT.1.trans o3) rfl)) <| sq_q rfl (fun W hT => r_sliceData rfl hcap) <| sq_q rfl (fun W hT => r_move (v := .pointer _) rfl) <| sq_q rfl (fun W hT => r_nilCheck rfl) <| sq_q rfl (fun W hT => r_fieldAddr T.fld56_1 rfl) <| sq_q rfl (fun W hT => r_load1 (v := .slice _ _ _) T.one54 rfl (Blk.cell (show Blk W b _ _ from hT.1.trans o3) rfl)) <| sq_q rfl (fun W hT => r_len (ct := #[54]) (by rw [show ((#[54] : Array TypeId)[0]?).bind Tryd.prog.underlying = some (.slice 5) from T.u54]; rfl) rfl) <| sq_us rfl (r_unsafeString T.u87 T.cells5 ho hs rfl rfl) ?_
 rintro w4 ⟨ho6, c5⟩
 have hbx := hb.tr1 c5 hne
 refine ⟨_, fun _ h => h, ⟨(Eq.trans hbx o3.symm), trivial⟩, ?_⟩
 replace HC := HC.trans c5 (fun k hk => .inl hk)
 refine sq_q rfl (fun W hT => r_assign (v := S _) rfl) ?_
 clear o3
 refine sq_nil <| then_n <| x_ret <| ret_tmp (v := S _) rfl rfl ?_
 exact ⟨rfl, hbx, ho6, HC⟩

theorem StringP10 {b gb cap : Nat} {s : Bytes}  {w : World} (hb : Blk w b [.pointer (some ⟨b, 0, none⟩), .slice none 0 0] 56) : CallR Tryd.prog 26 #[.pointer (some ⟨b, 0, none⟩)] w fun v w' => v = S [] ∧ Blk w' b [.pointer (some ⟨b, 0, none⟩), .slice none 0 0] 56 ∧ Chg [] w w' := by
 refine callR_of_wp (args := [_]) Tryd.func26 rfl (Nat.le_of_ble_eq_true rfl) ?_
 have HC : Chg [] w w := .refl _
 refine sr rfl <| aS rfl <| en <| x_seq <| x_draw [(0, 0), (1, 0), (2, 0), (3, 0), (4, 0), (5, 0), (6, 0), (7, 0), (8, 0), (9, 0), (10, 1), (11, 0)] T.mixed rfl rfl rfl (fun W => W.heap[b]? = w.heap[b]? ∧ True) ⟨rfl, trivial⟩ ?_
 have o3 := hb
 have c2 := Chg.drew w
 generalize World.drew w = w1 at c2 ⊢
 replace HC := HC.then c2
 replace hb := hb.tr0 c2
 refine sq_q rfl (fun W hT => r_move (v := .pointer _) rfl) <| sq_q rfl (fun W hT => r_nilCheck rfl) <| sq_q rfl (fun W hT => r_fieldAddr T.fld56_1 rfl) <| sq_q rfl (fun W hT => r_load1 (v := .slice _ _ _) T.one54 rfl (Blk.cell (show Blk W b _ _ from hT.1.trans o3) rfl)) <| sq_q rfl (fun W hT => r_sliceData_nil rfl) <| sq_q rfl (fun W hT => r_move (v := .pointer _) rfl) <| sq_q rfl (fun W hT => r_nilCheck rfl) <| sq_q rfl (fun W hT => r_fieldAddr T.fld56_1 rfl) <| sq_q rfl (fun W hT => r_load1 (v := .slice _ _ _) T.one54 rfl (Blk.cell (show Blk W b _ _ from hT.1.trans o3) rfl)) <| sq_q rfl (fun W hT => r_len (ct := #[54]) (by rw [show ((#[54] : Array TypeId)[0]?).bind Tryd.prog.underlying = some (.slice 5) from T.u54]; rfl) rfl) <| sq_run1 rfl (r_unsafeString_nil rfl rfl) _ (fun _ h => h) ?_ ?_
 · exact ⟨(Eq.trans hb o3.symm), trivial⟩
 refine sq_q rfl (fun W hT => r_assign (v := S _) rfl) ?_
 clear o3
 refine sq_nil <| then_n <| x_ret <| ret_tmp (v := S _) rfl rfl ?_
 exact ⟨rfl, hb, HC⟩

theorem StringP11 {b gb cap : Nat} {s : Bytes}  {w : World} (hb : Blk w b [.pointer (some ⟨b, 0, none⟩), .slice (some ⟨gb, 0, none⟩) s.length cap] 56) (ho : OwnB 5 w (some ⟨gb, 0, none⟩) cap s) (hs : s ≠ []) (hcap : cap ≠ 0) (hne : b ≠ gb) : CallR Tryd.prog 26 #[.pointer (some ⟨b, 0, none⟩)] w fun v w' => v = S s ∧ Blk w' b [.pointer (some ⟨b, 0, none⟩), .slice (some ⟨gb, 0, none⟩) s.length cap] 56 ∧ OwnB 5 w' (some ⟨gb, 0, none⟩) cap s ∧ Chg [gb] w w' := by
 refine callR_of_wp (args := [_]) Tryd.func26 rfl (Nat.le_of_ble_eq_true rfl) ?_
 have HC : Chg [gb] w w := .refl _
 refine sr rfl <| aS rfl <| en <| x_seq <| x_draw [(0, 0), (1, 0), (2, 0), (3, 0), (4, 0), (5, 0), (6, 0), (7, 0), (8, 0), (9, 0), (10, 1), (11, 0)] T.mixed rfl rfl rfl (fun W => W.heap[b]? = w.heap[b]? ∧ True) ⟨rfl, trivial⟩ ?_
 have o3 := hb
 have c2 := Chg.drew w
 generalize World.drew w = w1 at c2 ⊢
 replace HC := HC.then c2
 replace hb := hb.tr0 c2
 replace ho := ho.tr c2 (by simp)
 refine sq_q rfl (fun W hT => r_move (v := .pointer _) rfl) <| sq_q rfl (fun W hT => r_nilCheck rfl) <| sq_q rfl (fun W hT => r_fieldAddr T.fld56_1 rfl) <| sq_q rfl (fun W hT => r_load1 (v := .slice _ _ _) T.one54 rfl (Blk.cell (show Blk W b _ _ from hT.1.trans o3) rfl)) <| sq_q rfl (fun W hT => r_sliceData rfl hcap) <| sq_q rfl (fun W hT => r_move (v := .pointer _) rfl) <| sq_q rfl (fun W hT => r_nilCheck rfl) <| sq_q rfl (fun W hT => r_fieldAddr T.fld56_1 rfl) <| sq_q rfl (fun W hT => r_load1 (v := .slice _ _ _) T.one54 rfl (Blk.cell (show Blk W b _ _ from hT.1.trans o3) rfl)) <| sq_q rfl (fun W hT => r_len (ct := #[54]) (by rw [show ((#[54] : Array TypeId)[0]?).bind Tryd.prog.underlying = some (.slice 5) from T.u54]; rfl) rfl) <| sq_us rfl (r_unsafeString T.u87 T.cells5 ho hs rfl rfl) ?_
 rintro w4 ⟨ho6, c5⟩
 have hbx := hb.tr1 c5 hne
 refine ⟨_, fun _ h => h, ⟨(Eq.trans hbx o3.symm), trivial⟩, ?_⟩
 replace HC := HC.trans c5 (fun k hk => .inl hk)
 refine sq_q rfl (fun W hT => r_assign (v := S _) rfl) ?_
 clear o3
 refine sq_nil <| then_n <| x_ret <| ret_tmp (v := S _) rfl rfl ?_
 exact ⟨rfl, hbx, ho6, HC⟩

theorem StringP_spec {b : Nat} {A : Option Addr} {cap : Nat} {s : Bytes}  {w : World} (h : BldP w b A cap s []) : CallR Tryd.prog 26 #[.pointer (some ⟨b, 0, none⟩)] w fun v w' => v = S s ∧ BldP w' b A cap s [] ∧ Chg (ob A) w w' := by
  by_cases hs : s = []
  · subst hs
    have hA := h.nil rfl
    subst hA
    have h0 : cap = 0 := by rcases h.own.form with ⟨_, h0, _⟩ | ⟨g, cur, fz, h0, _⟩; exact h0; cases h0
    subst h0
    rcases h.blk with hb | hb
    · exact CallR.imp (StringP00 (gb := 0) (cap := 0) (s := []) hb) fun v w' ⟨h1, h2, h3⟩ => ⟨h1, ⟨.inl h2, h.own.tr h3 (by simp [ob]), fun _ => rfl⟩, h3⟩
    · exact CallR.imp (StringP10 (gb := 0) (cap := 0) (s := []) hb) fun v w' ⟨h1, h2, h3⟩ => ⟨h1, ⟨.inr h2, h.own.tr h3 (by simp [ob]), fun _ => rfl⟩, h3⟩
  · rcases h.own.form with ⟨_, _, h0⟩ | ⟨g, cur, fz, rfl, hg, hle, _⟩
    · exact absurd h0 hs
    · have hpos := List.length_pos_iff.2 hs
      have hne : b ≠ g := fun e => h.ne (by simp [ob, e])
      rcases h.blk with hb | hb
      · exact CallR.imp (StringP01 hb h.own hs (by omega) hne) fun v w' ⟨h1, h2, h3, h4⟩ => ⟨h1, ⟨.inl h2, h3, fun hz => absurd hz hs⟩, h4⟩
      · exact CallR.imp (StringP11 hb h.own hs (by omega) hne) fun v w' ⟨h1, h2, h3, h4⟩ => ⟨h1, ⟨.inr h2, h3, fun hz => absurd hz hs⟩, h4⟩

theorem TrimPrefix_spec (s p : Bytes) (w : World) : CallR Tryd.prog 25 #[S s, S p] w fun v w' => v = S (Lib.trimPrefix s p) ∧ Chg [] w w' :=
  CallR.of (Tryd.strings_TrimPrefix ⟨⟨s⟩⟩ ⟨⟨p⟩⟩ w) fun e w' ⟨h1, h2⟩ => ⟨_, h1, rfl, .refl' h2⟩
theorem IndexFunc_spec {k : FuncId} {caps : Array Value} {q : Bytes → Bool} {w : World} {l : List Bytes} {Al : Option Addr} {capl : Nat} {D : Nat → Prop} (hl : Sl sE w D Al l) (hlen : l.length ≤ 9223372036854775807) (hent : ∀ args (w : World), (callFunc k args).run Tryd.prog w = .ok (.enter k args) w) (hp : ∀ c W, Chg [] w W → CallR Tryd.prog k ⟨S c :: caps.toList⟩ W fun v W' => v = .bool (q c) ∧ Chg [] W W') :
    CallR Tryd.prog 61 #[.slice Al l.length capl, .func (.func k) #[] caps] w fun v w' => v = .int .i64 (findN q 0 l) ∧ Chg [] w w' := by
 refine callR_of_wp (args := [_, _]) Tryd.func61 rfl (Nat.le_of_ble_eq_true rfl) ?_
 have HC : Chg [] w w := .refl _
 refine sr rfl <| aI rfl <| en <| x_seq <| sr rfl <| mL rfl <| Wp rfl <| st_len (ct := #[102]) (by rw [show ((#[102] : Array TypeId)[0]?).bind Tryd.prog.underlying = some (.slice 9) from T.u102]; rfl) rfl <| mI rfl <| en <| x_block <| x_loop (ι := Nat) [4, 5, 8, 9, 10, 11, 12, 13, 14, 15, 16, 17, 18] (fun i => [(8, .int .i64 (i : Int))]) (fun i W => (i ≤ l.length ∧ findN q 0 l = findN q i (l.drop i)) ∧ (Chg [] w W) ∧ (Sl sE W D Al l)) (fun i => l.length - i) 0 ?_ ?_ ?_
 · exact ⟨rfl, trivial⟩
 ·refine ⟨?_, HC, hl⟩
  exact ⟨Nat.zero_le _, by simp⟩
 intro i G2 w1 ⟨⟨hi, hr⟩, HC, hl⟩
 change wp _ _ _ _ _ (upds (over _ _ G2) [(8, .int .i64 (i : Int))]) _ _
 refine sr rfl <| Wp rfl <| st_lss rfl rfl <| en <| x_seq <| x_cond rfl (fun h0 => ?_) (fun h0 => ?_)
 ·try simp only [nm, ne_eq] at h0
  refine x_skip <| then_n <| x_seq <| x_block <| sr rfl <| mI rfl <| aI rfl <| en <| sr rfl <| mv (v := .func _ _ _) rfl <| mL rfl <| mI rfl ?_
  obtain ⟨x3, hx4⟩ : ∃ zz, l[i]? = some zz := ⟨_, List.getElem?_eq_getElem (by omega)⟩
  obtain ⟨lb9, _, vs8, hA5, hR7, hC6⟩ := hl.at hx4
  obtain rfl : vs8 = [S x3] := hR7
  refine Wp rfl <| st_indexAddr T.u102 T.size9 (congrArg (fun z => Value.slice z _ _) hA5) rfl (by omega) (by omega) <| lS T.one9 rfl (hC6.at (j := 0) rfl) <| Wp rfl <| st_call (f := k) (cap := caps) (ags := S _ :: caps.toList) rfl rfl hent rfl (hp _ _ HC) ?_
  rintro _ w10 ⟨rfl, c11⟩
  replace HC := HC.then c11
  replace hl := hl.tr0 c11
  refine en <| x_cond rfl (fun h1 => ?_) (fun h1 => ?_)
  ·try simp only [nm, ne_eq] at h1
   refine sr rfl <| mI rfl <| aI rfl <| en <| x_ret <| block_r <| then_r <| then_r <| block_r <| then_r <| ret_tmp (v := .int _ _) rfl rfl <| ⟨?_, HC⟩
   rw [hr, findN_off hx4 h1]
  ·try simp only [nm, ne_eq] at h1
   refine x_skip <| block_n <| then_n <| x_region rfl <| Wp rfl <| st_addn rfl rfl (by constructor <;> omega) <| mI rfl <| en <| ⟨i + 1, ?_, ?_, rfl, ⟨rfl, trivial⟩, ?_⟩
   ·refine ⟨?_, HC, hl⟩
    exact ⟨by omega, by rw [hr, findN_on hx4 h1]⟩
   ·show l.length - (i + 1) < l.length - i; omega
   repeat (first | exact agree_upds agree_over rfl | refine agree_upd ?_ rfl | refine agree_upds ?_ rfl | refine agree_over_sub ?_ rfl)
 ·try simp only [nm, ne_eq] at h0
  refine x_exit <| then_x <| then_x <| block_x <| then_n <| sr rfl <| aI rfl <| en <| x_ret <| ret_tmp (v := .int _ _) rfl rfl <| ⟨?_, HC⟩
  rw [hr, findN_end (by omega)]

end Go.Proofs.YthggegbljpmecaaDoor.K
set_option linter.unusedVariables false
set_option linter.unusedSimpArgs false
set_option autoImplicit false
set_option maxRecDepth 20000
namespace Go.Proofs.YthggegbljpmecaaDoor.K
open Go Go.Proofs Go.RowKit

end Go.Proofs.YthggegbljpmecaaDoor.K
set_option linter.unusedVariables false
set_option linter.unusedSimpArgs false
set_option autoImplicit false
set_option maxRecDepth 20000
namespace Go.Proofs.YthggegbljpmecaaDoor.K
open Go Go.Proofs Go.RowKit

theorem u8_eq {c : UInt8} {k : Int} {d : UInt8} (h : (c.toNat : Int) = k) (hk : (d.toNat : Int) = k) : c = d := UInt8.toNat_inj.1 (by omega)
theorem byte_dropk (s : Bytes) (j k : Nat) : byte (s.drop j) k = byte s (j + k) := by simp [byte, List.getD_eq_getElem?_getD]

end Go.Proofs.YthggegbljpmecaaDoor.K
set_option linter.unusedVariables false
set_option linter.unusedSimpArgs false
set_option autoImplicit false
set_option maxRecDepth 20000
namespace Go.Proofs.YthggegbljpmecaaDoor.K
open Go Go.Proofs Go.RowKit

theorem skip_cases (w : Bytes) (hw : w ≠ []) : (∃ n, skipL 64 w = .ok n ∧ 1 ≤ n ∧ n ≤ w.length) ∨ ∃ e, skipL 64 w = .error e ∧ e ≠ 0 := by
  cases h : skipL 64 w with
  | ok n => exact .inl ⟨n, rfl, skipL_le _ _ _ hw h⟩
  | error e => exact .inr ⟨e, rfl, skipL_err _ _ _ h⟩
theorem skipA_0 (w : Bytes) : skipA 64 w 0 = skipL 64 w := by
  rw [skipA, List.drop_zero]; cases skipL 64 w <;> rfl
theorem Skip_ok {n : Nat} (s : Bytes) (w : World) (hs : s.length < 4294967281) (h0 : s ≠ []) (h : skipL 64 s = .ok n) : CallR Tryd.prog 22 #[S s, .int .i64 0] w fun v w' => v = .tuple ⟨[.int .i64 (n : Int), .int .i64 0]⟩ ∧ Chg [] w w' :=
  CallR.imp (Skip_spec s 0 w hs) fun v w' ⟨h1, h2⟩ => ⟨by rw [h1, show skipV s 0 = ((n : Int), 0) from skipV_ok (j := 0) (List.length_pos_iff.2 h0) (by rw [skipA_0]; exact h)], h2⟩
theorem Skip_err {e : Nat} (s : Bytes) (w : World) (hs : s.length < 4294967281) (h0 : s ≠ []) (h : skipL 64 s = .error e) : CallR Tryd.prog 22 #[S s, .int .i64 0] w fun v w' => v = .tuple ⟨[.int .i64 0, .int .i64 (e : Int)]⟩ ∧ Chg [] w w' :=
  CallR.imp (Skip_spec s 0 w hs) fun v w' ⟨h1, h2⟩ => ⟨by rw [h1, show skipV s 0 = (0, (e : Int)) from skipV_err (j := 0) (List.length_pos_iff.2 h0) (by rw [skipA_0]; exact h)], h2⟩
theorem two_le {w : Bytes} {n : Nat} (hw : w ≠ []) (h : skipL 64 w = .ok n) (hc : byte w 0 = 39 ∨ byte w 0 = 34 ∨ byte w 0 = 96) : 2 ≤ n := by
  have h1 : skipA 64 w 0 = .ok n := by rw [skipA_0, h]
  have hl := List.length_pos_iff.2 hw
  rcases hc with h2 | h2 | h2
  · rw [skipA_quote (f := 63) hl h2] at h1
    cases h3 : runA 39 false w (0 + 1) with
    | none => rw [h3] at h1; cases h1
    | some k => rw [h3] at h1; cases h1; have := runA_le h3; omega
  · rw [skipA_double (f := 63) hl h2] at h1
    obtain ⟨i, h2, rfl⟩ := map_ok h1
    have := untilN_le (fun s k hs hk => skipL_le _ _ _ hs hk) _ _ _ _ h2
    omega
  · rw [skipA_tick (f := 63) hl h2] at h1
    cases h3 : runA 96 true w (0 + 1) with
    | none => rw [h3] at h1; cases h1
    | some k => rw [h3] at h1; cases h1; have := runA_le h3; omega
theorem in3a {c : UInt8} : 0 ≤ idx [39, 34, 92] c ↔ c = 39 ∨ c = 34 ∨ c = 92 := by rw [idx_mem]; simp

end Go.Proofs.YthggegbljpmecaaDoor.K
set_option linter.unusedVariables false
set_option linter.unusedSimpArgs false
set_option autoImplicit false
set_option maxRecDepth 20000
namespace Go.Proofs.YthggegbljpmecaaDoor.K
open Go Go.RowKit

/-- A token. -/
structure Tok where
  kind : Int
  text : Bytes
  at_ : Int
  here : Bytes
  raw : Bool
deriving DecidableEq
def tokC5 (t : Tok) : List Value := [.int .i64 t.kind, S t.text, .int .i64 t.at_, S t.here, .bool t.raw]
def tok5E : Enc Tok := .flat 5 tokC5 (by omega) (fun _ => rfl) (fun _ u hu => by simp [tokC5] at hu; rcases hu with rfl | rfl | rfl | rfl | rfl <;> rfl)
/-- What stands between two ". -/
def innerV : Bytes → Bytes
  | [] => []
  | [c] => [c]
  | c :: d :: t => if c = 92 then (if d = 10 then innerV t else if d = 36 ∨ d = 96 ∨ d = 34 ∨ d = 92 then d :: innerV t else c :: innerV (d :: t)) else c :: innerV (d :: t)
def quoB (c : UInt8) : Bool := c == 39 || c == 34 || c == 92
def trimP (s p : Bytes) : Bytes := if Lib.hasPrefix s p then s.drop p.length else s
/-- A word's part without its quotes; n: how many bytes it has. -/
def partW (w : Bytes) (n : Nat) : Bytes :=
  if byte w 0 = 39 then (w.take (n - 1)).drop 1
  else if byte w 0 = 34 then innerV ((w.take (n - 1)).drop 1)
  else if byte w 0 = 92 then trimP ((w.take n).drop 1) [10]
  else w.take n
/-- A word without its quotes, and whether it had some. -/
def plainF : Nat → Bytes → Bytes × Bool
  | 0, _ => ([], false)
  | k + 1, w => if w = [] then ([], false) else
    match skipL 64 w with
    | .error _ => (w, quoB (byte w 0))
    | .ok n => (partW w n ++ (plainF k (w.drop n)).1, quoB (byte w 0) || (plainF k (w.drop n)).2)
def plainV (w : Bytes) : Bytes × Bool := plainF w.length w
def metas : Bytes := [32, 9, 10, 59, 38, 124, 60, 62, 40, 41]
def metaB (c : UInt8) : Bool := decide (0 ≤ idx metas c)
def opsT : List Bytes := [[60, 60, 45], [38, 38], [124, 124], [59, 59], [60, 60], [62, 62], [60, 38], [62, 38], [60, 62], [62, 124], [59], [38], [124], [60], [62], [40], [41]]
/-- How many bytes a word has; where it is wrong: how many are ahead of that, and the error. -/
def wordL : Nat → Bytes → Nat × Nat
  | 0, _ => (0, 0)
  | _ + 1, [] => (0, 0)
  | k + 1, c :: t => if metaB c then (0, 0) else
    match skipL 64 (c :: t) with
    | .error e => (0, e)
    | .ok n => ((wordL k ((c :: t).drop n)).1 + n, (wordL k ((c :: t).drop n)).2)
def wordV (r : Bytes) : Nat × Nat := wordL r.length r
def preO (s : Bytes) (o : Bytes) : Bool := Lib.hasPrefix s o
def opT (r : Bytes) : Bytes := opsT.getD (findN (preO r) 0 opsT).toNat []
/-- The token that stands ahead of r, at place i: it, how many bytes, an error. -/
def nextT (r : Bytes) (i : Int) : Tok × Nat × Int :=
  if r = [] then (⟨0, [], i, [], false⟩, 0, 0)
  else if byte r 0 = 10 then (⟨3, [10], i, [], false⟩, 1, 0)
  else if metaB (byte r 0) then (⟨2, opT r, i, [], false⟩, (opT r).length, 0)
  else if (wordV r).2 ≠ 0 then (⟨0, [], i + (wordV r).1, [], false⟩, 0, (wordV r).2)
  else (⟨if (wordV r).1 = 1 ∧ digB (byte r 0) = true ∧ (byte r 1 = 60 ∨ byte r 1 = 62) ∧ 1 < r.length then 4 else 1, r.take (wordV r).1, i, [], false⟩, (wordV r).1, 0)
/-- How many bytes are no token. -/
def blankL : Nat → Bytes → Nat
  | 0, _ => 0
  | _ + 1, [] => 0
  | k + 1, c :: t => if c = 32 ∨ c = 9 then blankL k t + 1
    else if Lib.hasPrefix (c :: t) [92, 10] then blankL k (t.drop 1) + 2
    else if c = 35 then
      (if idx (c :: t) 10 < 0 then t.length + 1 else blankL k ((c :: t).drop (idx (c :: t) 10).toNat) + (idx (c :: t) 10).toNat)
    else 0
def blankV (r : Bytes) : Nat := blankL r.length r
def trimT : Bytes → Bytes
  | [] => []
  | c :: t => if c = 9 then trimT t else c :: t
/-- The lines that a word ends, and how many bytes. -/
def bodyL (fin : Bytes) (strip : Bool) : Nat → Bytes → Bytes × Nat
  | 0, _ => ([], 0)
  | k + 1, r => if r = [] then ([], 0) else
    let line := (Lib.cut r [10]).1
    let more := (Lib.cut r [10]).2.2
    let l2 := if strip then trimT line else line
    let m := line.length + (if more then 1 else 0)
    if l2 = fin then ([], m)
    else ((if more then l2 ++ [10] else l2) ++ (bodyL fin strip k (r.drop m)).1, (bodyL fin strip k (r.drop m)).2 + m)
def bodyV (fin : Bytes) (strip : Bool) (r : Bytes) : Bytes × Nat := bodyL fin strip r.length r
/-- The lines that a row of words ends. -/
def linesV : List Tok → List (Nat × Bool) → Bytes → List Tok × Nat
  | out, [], _ => (out, 0)
  | out, (j, st) :: ws, r =>
    let t := out.getD j ⟨0, [], 0, [], false⟩
    let b := bodyV (plainV t.text).1 st r
    let x := linesV (out.set j { t with here := t.here ++ b.1, raw := (plainV t.text).2 }) ws (r.drop b.2)
    (x.1, x.2 + b.2)
/-- Does a word behind these tokens end lines? -/
def hereV (out : List Tok) (t : Tok) : Option Bool :=
  match out.getLast? with
  | none => none
  | some z => if t.kind = 1 ∧ z.kind = 2 ∧ Lib.hasPrefix z.text [60, 60] = true then some (decide (z.text = [60, 60, 45])) else none
def pushW (out : List Tok) (ws : List (Nat × Bool)) (t : Tok) : List (Nat × Bool) := match hereV out t with
  | some b => ws ++ [(out.length, b)]
  | none => ws
end Go.Proofs.YthggegbljpmecaaDoor.K
set_option linter.unusedVariables false
set_option linter.unusedSimpArgs false
set_option autoImplicit false
set_option maxRecDepth 20000
namespace Go.Proofs.YthggegbljpmecaaDoor.K
open Go Go.Proofs Go.RowKit

theorem inner_nl {r : Bytes} (h : 1 < r.length) (h0 : byte r 0 = 92) (h1 : byte r 1 = 10) : innerV r = innerV (r.drop 2) := by
  match r, h with
  | c :: d :: t, _ =>
    have e0 : c = 92 := h0
    have e1 : d = 10 := h1
    show innerV (c :: d :: t) = innerV t
    rw [innerV, if_pos e0, if_pos e1]
theorem inner_sp {r : Bytes} (h : 1 < r.length) (h0 : byte r 0 = 92) (h1 : byte r 1 ≠ 10) (h2 : byte r 1 = 36 ∨ byte r 1 = 96 ∨ byte r 1 = 34 ∨ byte r 1 = 92) : innerV r = (r.drop 1).take 1 ++ innerV ((r.drop 1).drop 1) := by
  match r, h with
  | c :: d :: t, _ =>
    have e0 : c = 92 := h0
    have e1 : ¬ d = 10 := h1
    have e2 : d = 36 ∨ d = 96 ∨ d = 34 ∨ d = 92 := h2
    show innerV (c :: d :: t) = [d] ++ innerV t
    rw [innerV, if_pos e0, if_neg e1, if_pos e2]; rfl
theorem inner_on {r : Bytes} (hr : r ≠ []) (h : ¬ (1 < r.length ∧ byte r 0 = 92 ∧ (byte r 1 = 10 ∨ byte r 1 = 36 ∨ byte r 1 = 96 ∨ byte r 1 = 34 ∨ byte r 1 = 92))) : innerV r = r.take 1 ++ innerV (r.drop 1) := by
  match r, hr with
  | [c], _ => rfl
  | c :: d :: t, _ =>
    show innerV (c :: d :: t) = [c] ++ innerV (d :: t)
    have h' : ¬ (1 < (c :: d :: t).length ∧ c = 92 ∧ (d = 10 ∨ d = 36 ∨ d = 96 ∨ d = 34 ∨ d = 92)) := h
    rw [innerV]
    by_cases hc : c = 92
    · rw [if_pos hc, if_neg (fun e => h' ⟨by simp, hc, .inl e⟩), if_neg (fun e => h' ⟨by simp, hc, .inr e⟩)]; rfl
    · rw [if_neg hc]; rfl
theorem fields_opsT : Lib.fields [60, 60, 45, 32, 38, 38, 32, 124, 124, 32, 59, 59, 32, 60, 60, 32, 62, 62, 32, 60, 38, 32, 62, 38, 32, 60, 62, 32, 62, 124, 32, 59, 32, 38, 32, 124, 32, 60, 32, 62, 32, 40, 32, 41] = opsT := by kernel_rfl
theorem trimT_cons {r : Bytes} (hr : 0 < r.length) (h : byte r 0 = 9) : trimT r = trimT (r.drop 1) := by
  match r, hr with
  | c :: t, _ => have e : c = 9 := h; show trimT (c :: t) = trimT t; rw [trimT, if_pos e]
theorem trimT_stop {r : Bytes} (h : r = [] ∨ byte r 0 ≠ 9) : trimT r = r := by
  match r with
  | [] => rfl
  | c :: t =>
    have h' : c :: t = [] ∨ c ≠ 9 := h
    rw [trimT, if_neg (fun e => h'.elim (fun h => by cases h) (fun h => h e))]

theorem inner_spec (s : Bytes) (w : World) (hs : s.length < 4294967281) : CallR Tryd.prog 24 #[S s] w fun v w' => v = S (innerV s) ∧ Chg [] w w' := by
 refine callR_of_wp (args := [_]) Tryd.func24 rfl (Nat.le_of_ble_eq_true rfl) ?_
 have HC : Chg [] w w := .refl _
 refine sr rfl <| aS rfl <| en <| sr rfl <| Wp rfl <| st_alloc T.zero56 ?_
 intro b3 w1 e2 c3 hb4
 have ge_b3 : w.heap.size ≤ b3 := by rw [e2]; exact HC.size
 replace HC := HC.then c3
 clear e2
 refine en <| x_seq <| x_block ?_
 have hbd := BldP.new hb4
 refine x_loop (ι := Bytes × Bytes × Option Addr × Nat) [0, 4, 5, 6, 7, 8, 9, 10, 11, 12, 13, 14, 15, 16, 17, 18, 19, 20, 21, 22, 23, 24, 25, 26, 27, 28, 29, 30, 31, 32, 33, 34] (fun ⟨r, out, A, cap⟩ => [(0, S r)]) (fun ⟨r, out, A, cap⟩ W => (out.length + r.length ≤ s.length ∧ innerV s = out ++ innerV r ∧ (∀ k, k ∈ ob A → w.heap.size ≤ k)) ∧ (Chg [] w W) ∧ (BldP W b3 A cap out [])) (fun ⟨r, out, A, cap⟩ => r.length) (s, [], none, 0) ?_ ?_ ?_
 · exact ⟨rfl, trivial⟩
 ·refine ⟨?_, HC, hbd⟩
  exact ⟨by simp, by simp, (fun k hk => by cases hk)⟩
 intro ⟨r, out, A, cap⟩ G6 w5 ⟨⟨hol, htot, hob⟩, HC, hbd⟩
 change wp _ _ _ _ _ (upds (over _ _ G6) [(0, S r)]) _ _
 refine x_seq <| sr rfl <| mS rfl <| Wp rfl <| st_sneq rfl rfl <| en <| x_cond rfl (fun h0 => ?_) (fun h0 => ?_)
 ·try simp only [nm, ne_eq] at h0
  have hr1 := List.length_pos_iff.2 h0
  refine x_skip <| then_n <| x_block <| sr rfl <| aI rfl <| en <| x_seq <| sr rfl <| mS rfl <| Wp rfl <| st_slen (ct := #[9]) T.u9 rfl <| Wp rfl <| st_gtr rfl rfl <| mB rfl <| w_split (d := 10) rfl (fun g7 => ?_) (fun g7 => ?_)
  ·try simp only [nm, ne_eq] at g7
   refine w_yes 3 10 true <| st_move (v := S _) rfl <| w_yes 3 10 true <| st_sidx T.u9 rfl rfl (by decide) (by omega) <| w_yes 3 10 true <| st_eql rfl rfl <| pT rfl rfl <| en <| x_cond rfl (fun h1 => ?_) (fun h1 => ?_)
   ·try simp only [nm, ne_eq] at h1
    have hc0 : byte r 0 = 92 := u8_eq (by assumption) rfl
    have hl1 : 1 < r.length := by omega
    refine sr rfl <| mS rfl <| Wp rfl <| st_sidx T.u9 rfl rfl (by decide) (by omega) <| en <| x_block <| sr rfl <| Wp rfl <| st_eql rfl rfl <| aB rfl <| en <| x_cond rfl (fun h2 => ?_) (fun h2 => ?_)
    ·try simp only [nm, ne_eq] at h2
     have hun := inner_nl hl1 hc0 (u8_eq h2 rfl)
     refine sr rfl <| mS rfl <| Wp rfl <| st_sslo (i := 2) T.u9 rfl ⟨_, rfl⟩ (by omega) <| aS rfl <| en <| x_exit <| block_o rfl <| then_x <| block_x <| then_n <| ⟨((r.drop 2), out, A, cap), ?_, ?_, rfl, ⟨rfl, trivial⟩, ?_⟩
     ·refine ⟨?_, HC, hbd⟩
      exact ⟨by simp only [List.length_append, List.length_take, List.length_drop]; omega, by rw [htot, hun]; all_goals simp, hob⟩
     ·show ((r.drop 2)).length < r.length; simp only [List.length_drop]; omega
     repeat (first | exact agree_upds agree_over rfl | refine agree_upd ?_ rfl | refine agree_upds ?_ rfl | refine agree_over_sub ?_ rfl)
    ·try simp only [nm, ne_eq] at h2
     have hn10 : byte r 1 ≠ 10 := fun e => h2 (by rw [e]; rfl)
     refine x_seq <| sr rfl <| Wp rfl <| st_eql rfl rfl <| aB rfl <| en <| x_cond rfl (fun h3 => ?_) (fun h3 => ?_)
     ·try simp only [nm, ne_eq] at h3
      have hsp : byte r 1 = 36 ∨ byte r 1 = 96 ∨ byte r 1 = 34 ∨ byte r 1 = 92 := .inl (u8_eq h3 rfl)
      refine x_skip <| then_n <| x_cond rfl (fun h6 => ?_) (fun h6 => ?_)
      rotate_left
      · first | (simp only [nm, ne_eq] at h6; exact absurd (by assumption) h6) | (exfalso; simp_all)
      have hsp2 : byte r 1 = 36 ∨ byte r 1 = 96 ∨ byte r 1 = 34 ∨ byte r 1 = 92 := by first | assumption | exact .inr (.inr (.inr (u8_eq h6 rfl)))
      have hun := inner_sp hl1 hc0 hn10 hsp2
      refine x_region rfl <| mS rfl <| Wp rfl <| st_sslo (i := 1) T.u9 rfl ⟨_, rfl⟩ (by omega) <| aS rfl <| wops_nil <| block_n <| then_n <| sr rfl <| mS rfl <| mI rfl <| Wp rfl <| st_sshi (j := 1) T.u9 rfl ⟨_, rfl⟩ (by (first | omega | (simp only [List.length_drop]; omega))) <| Wp rfl <| st_call (ags := [_, _]) rfl rfl T.ent23 rfl (WriteStringP_spec ((r.drop 1).take 1) hbd (by simp only [List.length_take, List.length_drop]; omega)) ?_
      rintro _ w8 ⟨rfl, A10, cap11, hbd12, c9, hgr13⟩
      have hszW := HC.size
      replace HC := HC.trans c9 (fun k hk => (List.mem_cons.1 hk).elim (fun h => .inr (by rw [h]; exact ge_b3)) (fun h => .inr (hob k h)))
      replace hob : ∀ k, k ∈ ob A10 → w.heap.size ≤ k := fun k hk => (hgr13 k hk).elim (fun h => hob k h) (fun h => by omega)
      refine en <| x_region rfl <| mS rfl <| mI rfl <| Wp rfl <| st_sslo (i := 1) T.u9 rfl ⟨_, rfl⟩ (by (first | omega | (simp only [List.length_drop]; omega))) <| aS rfl <| wops_nil <| block_n <| then_n <| ⟨(((r.drop 1).drop 1), out ++ (r.drop 1).take 1, A10, cap11), ?_, ?_, rfl, ⟨rfl, trivial⟩, ?_⟩
      ·refine ⟨?_, HC, hbd12⟩
       exact ⟨by simp only [List.length_append, List.length_take, List.length_drop]; omega, by rw [htot, hun]; all_goals simp, hob⟩
      ·show (((r.drop 1).drop 1)).length < r.length; simp only [List.length_drop]; omega
      repeat (first | exact agree_upds agree_over rfl | refine agree_upd ?_ rfl | refine agree_upds ?_ rfl | refine agree_over_sub ?_ rfl)
     ·try simp only [nm, ne_eq] at h3
      have hn3 : byte r 1 ≠ 36 := fun e => h3 (by rw [e]; rfl)
      refine sr rfl <| Wp rfl <| st_eql rfl rfl <| aB rfl <| en <| x_cond rfl (fun h4 => ?_) (fun h4 => ?_)
      ·try simp only [nm, ne_eq] at h4
       have hsp : byte r 1 = 36 ∨ byte r 1 = 96 ∨ byte r 1 = 34 ∨ byte r 1 = 92 := .inr (.inl (u8_eq h4 rfl))
       refine x_skip <| then_n <| x_cond rfl (fun h6 => ?_) (fun h6 => ?_)
       rotate_left
       · first | (simp only [nm, ne_eq] at h6; exact absurd (by assumption) h6) | (exfalso; simp_all)
       have hsp2 : byte r 1 = 36 ∨ byte r 1 = 96 ∨ byte r 1 = 34 ∨ byte r 1 = 92 := by first | assumption | exact .inr (.inr (.inr (u8_eq h6 rfl)))
       have hun := inner_sp hl1 hc0 hn10 hsp2
       refine x_region rfl <| mS rfl <| Wp rfl <| st_sslo (i := 1) T.u9 rfl ⟨_, rfl⟩ (by omega) <| aS rfl <| wops_nil <| block_n <| then_n <| sr rfl <| mS rfl <| mI rfl <| Wp rfl <| st_sshi (j := 1) T.u9 rfl ⟨_, rfl⟩ (by (first | omega | (simp only [List.length_drop]; omega))) <| Wp rfl <| st_call (ags := [_, _]) rfl rfl T.ent23 rfl (WriteStringP_spec ((r.drop 1).take 1) hbd (by simp only [List.length_take, List.length_drop]; omega)) ?_
       rintro _ w14 ⟨rfl, A16, cap17, hbd18, c15, hgr19⟩
       have hszW := HC.size
       replace HC := HC.trans c15 (fun k hk => (List.mem_cons.1 hk).elim (fun h => .inr (by rw [h]; exact ge_b3)) (fun h => .inr (hob k h)))
       replace hob : ∀ k, k ∈ ob A16 → w.heap.size ≤ k := fun k hk => (hgr19 k hk).elim (fun h => hob k h) (fun h => by omega)
       refine en <| x_region rfl <| mS rfl <| mI rfl <| Wp rfl <| st_sslo (i := 1) T.u9 rfl ⟨_, rfl⟩ (by (first | omega | (simp only [List.length_drop]; omega))) <| aS rfl <| wops_nil <| block_n <| then_n <| ⟨(((r.drop 1).drop 1), out ++ (r.drop 1).take 1, A16, cap17), ?_, ?_, rfl, ⟨rfl, trivial⟩, ?_⟩
       ·refine ⟨?_, HC, hbd18⟩
        exact ⟨by simp only [List.length_append, List.length_take, List.length_drop]; omega, by rw [htot, hun]; all_goals simp, hob⟩
       ·show (((r.drop 1).drop 1)).length < r.length; simp only [List.length_drop]; omega
       repeat (first | exact agree_upds agree_over rfl | refine agree_upd ?_ rfl | refine agree_upds ?_ rfl | refine agree_over_sub ?_ rfl)
      ·try simp only [nm, ne_eq] at h4
       have hn4 : byte r 1 ≠ 96 := fun e => h4 (by rw [e]; rfl)
       refine sr rfl <| Wp rfl <| st_eql rfl rfl <| aB rfl <| en <| x_cond rfl (fun h5 => ?_) (fun h5 => ?_)
       ·try simp only [nm, ne_eq] at h5
        have hsp : byte r 1 = 36 ∨ byte r 1 = 96 ∨ byte r 1 = 34 ∨ byte r 1 = 92 := .inr (.inr (.inl (u8_eq h5 rfl)))
        refine x_skip <| then_n <| x_cond rfl (fun h6 => ?_) (fun h6 => ?_)
        rotate_left
        · first | (simp only [nm, ne_eq] at h6; exact absurd (by assumption) h6) | (exfalso; simp_all)
        have hsp2 : byte r 1 = 36 ∨ byte r 1 = 96 ∨ byte r 1 = 34 ∨ byte r 1 = 92 := by first | assumption | exact .inr (.inr (.inr (u8_eq h6 rfl)))
        have hun := inner_sp hl1 hc0 hn10 hsp2
        refine x_region rfl <| mS rfl <| Wp rfl <| st_sslo (i := 1) T.u9 rfl ⟨_, rfl⟩ (by omega) <| aS rfl <| wops_nil <| block_n <| then_n <| sr rfl <| mS rfl <| mI rfl <| Wp rfl <| st_sshi (j := 1) T.u9 rfl ⟨_, rfl⟩ (by (first | omega | (simp only [List.length_drop]; omega))) <| Wp rfl <| st_call (ags := [_, _]) rfl rfl T.ent23 rfl (WriteStringP_spec ((r.drop 1).take 1) hbd (by simp only [List.length_take, List.length_drop]; omega)) ?_
        rintro _ w20 ⟨rfl, A22, cap23, hbd24, c21, hgr25⟩
        have hszW := HC.size
        replace HC := HC.trans c21 (fun k hk => (List.mem_cons.1 hk).elim (fun h => .inr (by rw [h]; exact ge_b3)) (fun h => .inr (hob k h)))
        replace hob : ∀ k, k ∈ ob A22 → w.heap.size ≤ k := fun k hk => (hgr25 k hk).elim (fun h => hob k h) (fun h => by omega)
        refine en <| x_region rfl <| mS rfl <| mI rfl <| Wp rfl <| st_sslo (i := 1) T.u9 rfl ⟨_, rfl⟩ (by (first | omega | (simp only [List.length_drop]; omega))) <| aS rfl <| wops_nil <| block_n <| then_n <| ⟨(((r.drop 1).drop 1), out ++ (r.drop 1).take 1, A22, cap23), ?_, ?_, rfl, ⟨rfl, trivial⟩, ?_⟩
        ·refine ⟨?_, HC, hbd24⟩
         exact ⟨by simp only [List.length_append, List.length_take, List.length_drop]; omega, by rw [htot, hun]; all_goals simp, hob⟩
        ·show (((r.drop 1).drop 1)).length < r.length; simp only [List.length_drop]; omega
        repeat (first | exact agree_upds agree_over rfl | refine agree_upd ?_ rfl | refine agree_upds ?_ rfl | refine agree_over_sub ?_ rfl)
       ·try simp only [nm, ne_eq] at h5
        have hn5 : byte r 1 ≠ 34 := fun e => h5 (by rw [e]; rfl)
        refine x_region rfl <| Wp rfl <| st_eql rfl rfl <| aB rfl <| en <| x_cond rfl (fun h6 => ?_) (fun h6 => ?_)
        ·try simp only [nm, ne_eq] at h6
         have hsp2 : byte r 1 = 36 ∨ byte r 1 = 96 ∨ byte r 1 = 34 ∨ byte r 1 = 92 := by first | assumption | exact .inr (.inr (.inr (u8_eq h6 rfl)))
         have hun := inner_sp hl1 hc0 hn10 hsp2
         refine x_region rfl <| mS rfl <| Wp rfl <| st_sslo (i := 1) T.u9 rfl ⟨_, rfl⟩ (by omega) <| aS rfl <| wops_nil <| block_n <| then_n <| sr rfl <| mS rfl <| mI rfl <| Wp rfl <| st_sshi (j := 1) T.u9 rfl ⟨_, rfl⟩ (by (first | omega | (simp only [List.length_drop]; omega))) <| Wp rfl <| st_call (ags := [_, _]) rfl rfl T.ent23 rfl (WriteStringP_spec ((r.drop 1).take 1) hbd (by simp only [List.length_take, List.length_drop]; omega)) ?_
         rintro _ w26 ⟨rfl, A28, cap29, hbd30, c27, hgr31⟩
         have hszW := HC.size
         replace HC := HC.trans c27 (fun k hk => (List.mem_cons.1 hk).elim (fun h => .inr (by rw [h]; exact ge_b3)) (fun h => .inr (hob k h)))
         replace hob : ∀ k, k ∈ ob A28 → w.heap.size ≤ k := fun k hk => (hgr31 k hk).elim (fun h => hob k h) (fun h => by omega)
         refine en <| x_region rfl <| mS rfl <| mI rfl <| Wp rfl <| st_sslo (i := 1) T.u9 rfl ⟨_, rfl⟩ (by (first | omega | (simp only [List.length_drop]; omega))) <| aS rfl <| wops_nil <| block_n <| then_n <| ⟨(((r.drop 1).drop 1), out ++ (r.drop 1).take 1, A28, cap29), ?_, ?_, rfl, ⟨rfl, trivial⟩, ?_⟩
         ·refine ⟨?_, HC, hbd30⟩
          exact ⟨by simp only [List.length_append, List.length_take, List.length_drop]; omega, by rw [htot, hun]; all_goals simp, hob⟩
         ·show (((r.drop 1).drop 1)).length < r.length; simp only [List.length_drop]; omega
         repeat (first | exact agree_upds agree_over rfl | refine agree_upd ?_ rfl | refine agree_upds ?_ rfl | refine agree_over_sub ?_ rfl)
        ·try simp only [nm, ne_eq] at h6
         have hn6 : byte r 1 ≠ 92 := fun e => h6 (by rw [e]; rfl)
         have hun := inner_on h0 (by rintro ⟨h7, h8, h9⟩; rcases h9 with h9 | h9 | h9 | h9 | h9; exact hn10 h9; exact hn3 h9; exact hn4 h9; exact hn5 h9; exact hn6 h9)
         refine x_skip <| block_n <| then_n <| sr rfl <| mS rfl <| mI rfl <| Wp rfl <| st_sshi (j := 1) T.u9 rfl ⟨_, rfl⟩ (by (first | omega | (simp only [List.length_drop]; omega))) <| Wp rfl <| st_call (ags := [_, _]) rfl rfl T.ent23 rfl (WriteStringP_spec (r.take 1) hbd (by simp only [List.length_take, List.length_drop]; omega)) ?_
         rintro _ w32 ⟨rfl, A34, cap35, hbd36, c33, hgr37⟩
         have hszW := HC.size
         replace HC := HC.trans c33 (fun k hk => (List.mem_cons.1 hk).elim (fun h => .inr (by rw [h]; exact ge_b3)) (fun h => .inr (hob k h)))
         replace hob : ∀ k, k ∈ ob A34 → w.heap.size ≤ k := fun k hk => (hgr37 k hk).elim (fun h => hob k h) (fun h => by omega)
         refine en <| x_region rfl <| mS rfl <| mI rfl <| Wp rfl <| st_sslo (i := 1) T.u9 rfl ⟨_, rfl⟩ (by (first | omega | (simp only [List.length_drop]; omega))) <| aS rfl <| wops_nil <| block_n <| then_n <| ⟨((r.drop 1), out ++ r.take 1, A34, cap35), ?_, ?_, rfl, ⟨rfl, trivial⟩, ?_⟩
         ·refine ⟨?_, HC, hbd36⟩
          exact ⟨by simp only [List.length_append, List.length_take, List.length_drop]; omega, by rw [htot, hun]; all_goals simp, hob⟩
         ·show ((r.drop 1)).length < r.length; simp only [List.length_drop]; omega
         repeat (first | exact agree_upds agree_over rfl | refine agree_upd ?_ rfl | refine agree_upds ?_ rfl | refine agree_over_sub ?_ rfl)
   ·try simp only [nm, ne_eq] at h1
    have hun := inner_on h0 (by rintro ⟨h7, h8, _⟩; have h10 : ((byte r 0).toNat : Int) = 92 := (by rw [h8]; rfl); omega)
    refine x_skip <| then_n <| sr rfl <| mS rfl <| mI rfl <| Wp rfl <| st_sshi (j := 1) T.u9 rfl ⟨_, rfl⟩ (by (first | omega | (simp only [List.length_drop]; omega))) <| Wp rfl <| st_call (ags := [_, _]) rfl rfl T.ent23 rfl (WriteStringP_spec (r.take 1) hbd (by simp only [List.length_take, List.length_drop]; omega)) ?_
    rintro _ w38 ⟨rfl, A40, cap41, hbd42, c39, hgr43⟩
    have hszW := HC.size
    replace HC := HC.trans c39 (fun k hk => (List.mem_cons.1 hk).elim (fun h => .inr (by rw [h]; exact ge_b3)) (fun h => .inr (hob k h)))
    replace hob : ∀ k, k ∈ ob A40 → w.heap.size ≤ k := fun k hk => (hgr43 k hk).elim (fun h => hob k h) (fun h => by omega)
    refine en <| x_region rfl <| mS rfl <| mI rfl <| Wp rfl <| st_sslo (i := 1) T.u9 rfl ⟨_, rfl⟩ (by (first | omega | (simp only [List.length_drop]; omega))) <| aS rfl <| wops_nil <| block_n <| then_n <| ⟨((r.drop 1), out ++ r.take 1, A40, cap41), ?_, ?_, rfl, ⟨rfl, trivial⟩, ?_⟩
    ·refine ⟨?_, HC, hbd42⟩
     exact ⟨by simp only [List.length_append, List.length_take, List.length_drop]; omega, by rw [htot, hun]; all_goals simp, hob⟩
    ·show ((r.drop 1)).length < r.length; simp only [List.length_drop]; omega
    repeat (first | exact agree_upds agree_over rfl | refine agree_upd ?_ rfl | refine agree_upds ?_ rfl | refine agree_over_sub ?_ rfl)
  ·try simp only [nm, ne_eq] at g7
   iterate 3 refine w_no 3 10 true ?_
   refine pF rfl rfl <| en <| x_cond (t := false) rfl (fun h1 => ?_) (fun h1 => ?_)
   · exact absurd h1 (by decide)
   have hun := inner_on h0 (by rintro ⟨h7, h8, _⟩; have h10 : ((byte r 0).toNat : Int) = 92 := (by rw [h8]; rfl); omega)
   refine x_skip <| then_n <| sr rfl <| mS rfl <| mI rfl <| Wp rfl <| st_sshi (j := 1) T.u9 rfl ⟨_, rfl⟩ (by (first | omega | (simp only [List.length_drop]; omega))) <| Wp rfl <| st_call (ags := [_, _]) rfl rfl T.ent23 rfl (WriteStringP_spec (r.take 1) hbd (by simp only [List.length_take, List.length_drop]; omega)) ?_
   rintro _ w44 ⟨rfl, A46, cap47, hbd48, c45, hgr49⟩
   have hszW := HC.size
   replace HC := HC.trans c45 (fun k hk => (List.mem_cons.1 hk).elim (fun h => .inr (by rw [h]; exact ge_b3)) (fun h => .inr (hob k h)))
   replace hob : ∀ k, k ∈ ob A46 → w.heap.size ≤ k := fun k hk => (hgr49 k hk).elim (fun h => hob k h) (fun h => by omega)
   refine en <| x_region rfl <| mS rfl <| mI rfl <| Wp rfl <| st_sslo (i := 1) T.u9 rfl ⟨_, rfl⟩ (by (first | omega | (simp only [List.length_drop]; omega))) <| aS rfl <| wops_nil <| block_n <| then_n <| ⟨((r.drop 1), out ++ r.take 1, A46, cap47), ?_, ?_, rfl, ⟨rfl, trivial⟩, ?_⟩
   ·refine ⟨?_, HC, hbd48⟩
    exact ⟨by simp only [List.length_append, List.length_take, List.length_drop]; omega, by rw [htot, hun]; all_goals simp, hob⟩
   ·show ((r.drop 1)).length < r.length; simp only [List.length_drop]; omega
   repeat (first | exact agree_upds agree_over rfl | refine agree_upd ?_ rfl | refine agree_upds ?_ rfl | refine agree_over_sub ?_ rfl)
 ·try simp only [nm, ne_eq] at h0
  have hr0 : r = [] := by first | assumption | simpa using h0
  have hut : innerV s = out := by rw [htot, hr0]; simp [innerV]
  refine x_exit <| then_x <| then_x <| block_x <| then_n <| sr rfl <| Wp rfl <| st_call (ags := [_]) rfl rfl T.ent26 rfl (StringP_spec hbd) ?_
  rintro _ w50 ⟨rfl, hbz, c51⟩
  replace HC := HC.trans c51 (fun k hk => .inr (hob k hk))
  refine aS rfl <| en <| x_ret <| ret_tmp (v := S _) rfl rfl ?_
  rw [hut]
  exact ⟨rfl, HC⟩

theorem trimLB_spec (s : Bytes) (w : World) : CallR Tryd.prog 64 #[S s, .int .u8 9] w fun v w' => v = S (trimT s) ∧ Chg [] w w' := by
 refine callR_of_wp (args := [_, _]) Tryd.func64 rfl (Nat.le_of_ble_eq_true rfl) ?_
 have HC : Chg [] w w := .refl _
 refine sr rfl <| aS rfl <| en <| x_seq <| x_block <| x_loop (ι := Bytes) [0, 5, 6, 7, 8, 9, 10, 11, 12, 13, 14, 15] (fun r => [(0, S r)]) (fun r W => (trimT s = trimT r) ∧ (Chg [] w W)) (fun r => r.length) s ?_ ?_ ?_
 · exact ⟨rfl, trivial⟩
 ·refine ⟨?_, HC⟩
  exact rfl
 intro r G2 w1 ⟨htr, HC⟩
 change wp _ _ _ _ _ (upds (over _ _ G2) [(0, S r)]) _ _
 refine x_seq <| sr rfl <| mS rfl <| Wp rfl <| st_slen (ct := #[9]) T.u9 rfl <| Wp rfl <| st_gtr rfl rfl <| mB rfl <| w_split (d := 8) rfl (fun g3 => ?_) (fun g3 => ?_)
 ·try simp only [nm, ne_eq] at g3
  refine w_yes 3 8 true <| st_move (v := S _) rfl <| w_yes 3 8 true <| st_sidx T.u9 rfl rfl (by decide) (by omega) <| w_yes 3 8 true <| st_move (v := .int _ _) rfl <| w_yes 3 8 true <| st_eql rfl rfl <| pT rfl rfl <| en <| x_cond rfl (fun h0 => ?_) (fun h0 => ?_)
  ·try simp only [nm, ne_eq] at h0
   refine x_skip <| then_n <| x_block <| x_region rfl <| mS rfl <| Wp rfl <| st_sslo (i := 1) T.u9 rfl ⟨_, rfl⟩ (by omega) <| aS rfl <| wops_nil <| block_n <| then_n <| ⟨(r.drop 1), ?_, ?_, rfl, ⟨rfl, trivial⟩, ?_⟩
   ·refine ⟨?_, HC⟩
    exact (htr.trans (trimT_cons (by omega) (u8_eq (by assumption) rfl)))
   ·show (r.drop 1).length < r.length; rw [List.length_drop]; omega
   repeat (first | exact agree_upds agree_over rfl | refine agree_upd ?_ rfl | refine agree_upds ?_ rfl | refine agree_over_sub ?_ rfl)
  ·try simp only [nm, ne_eq] at h0
   have hst : trimT s = r := by rw [htr]; refine trimT_stop ?_; first | (left; exact List.length_eq_zero_iff.1 (by omega)) | (right; intro e; first | (have h10 : ((byte r 0).toNat : Int) = 9 := (by rw [e]; rfl); omega) | simp_all)
   refine x_exit <| then_x <| then_x <| block_x <| then_n <| sr rfl <| mS rfl <| aS rfl <| en <| x_ret <| ret_tmp (v := S _) rfl rfl ?_
   exact ⟨by rw [hst], HC⟩
 ·try simp only [nm, ne_eq] at g3
  iterate 4 refine w_no 3 8 true ?_
  refine pF rfl rfl <| en <| x_cond (t := false) rfl (fun h0 => ?_) (fun h0 => ?_)
  · exact absurd h0 (by decide)
  have hst : trimT s = r := by rw [htr]; refine trimT_stop ?_; first | (left; exact List.length_eq_zero_iff.1 (by omega)) | (right; intro e; first | (have h10 : ((byte r 0).toNat : Int) = 9 := (by rw [e]; rfl); omega) | simp_all)
  refine x_exit <| then_x <| then_x <| block_x <| then_n <| sr rfl <| mS rfl <| aS rfl <| en <| x_ret <| ret_tmp (v := S _) rfl rfl ?_
  exact ⟨by rw [hst], HC⟩

theorem TrimLeft_spec (s : Bytes) (w : World) : CallR Tryd.prog 38 #[S s, S [9]] w fun v w' => v = S (trimT s) ∧ Chg [] w w' := by
 refine callR_of_wp (args := [_, _]) Tryd.func38 rfl (Nat.le_of_ble_eq_true rfl) ?_
 have HC : Chg [] w w := .refl _
 refine sr rfl <| aS rfl <| en <| x_seq <| sr rfl <| mS rfl <| Wp rfl <| st_seql rfl rfl <| mB rfl <| w_split (d := 9) rfl (fun g1 => ?_) (fun g1 => ?_)
 ·try simp only [nm, ne_eq] at g1
  refine w_no 2 9 false <| w_no 2 9 false <| pT rfl rfl <| en <| x_cond (t := true) rfl (fun h0 => ?_) (fun h0 => ?_)
  rotate_left
  · exact absurd h0 (by decide)
  refine sr rfl <| mS rfl <| aS rfl <| en <| x_ret <| then_r <| ret_tmp (v := S _) rfl rfl ?_
  exact ⟨congrArg S (by rw [show s = [] by first | assumption | simp_all]; rfl), HC⟩
 ·try simp only [nm, ne_eq] at g1
  refine w_yes 2 9 false <| st_move (v := S _) rfl <| w_yes 2 9 false <| st_seql rfl rfl <| pF rfl rfl <| en <| x_cond rfl (fun h0 => ?_) (fun h0 => ?_)
  ·try simp only [nm, ne_eq] at h0
   refine sr rfl <| mS rfl <| aS rfl <| en <| x_ret <| then_r <| ret_tmp (v := S _) rfl rfl ?_
   exact ⟨congrArg S (by rw [show s = [] by first | assumption | simp_all]; rfl), HC⟩
  ·try simp only [nm, ne_eq] at h0
   refine x_skip <| then_n <| x_seq <| sr rfl <| mS rfl <| Wp rfl <| st_slen (ct := #[9]) T.u9 rfl <| Wp rfl <| st_eql rfl rfl <| mB rfl <| w_split (d := 17) rfl (fun g2 => ?_) (fun g2 => ?_)
   ·try simp only [nm, ne_eq] at g2
    refine w_yes 3 17 true <| st_move (v := S _) rfl <| w_yes 3 17 true <| st_sidx T.u9 rfl rfl (by decide) (by decide) <| w_yes 3 17 true <| st_lss rfl rfl <| pT rfl rfl <| en <| x_cond rfl (fun h1 => ?_) (fun h1 => ?_)
    ·try simp only [nm, ne_eq] at h1
     refine sr rfl <| mS rfl <| mS rfl <| Wp rfl <| st_sidx T.u9 rfl rfl (by decide) (by decide) <| Wp rfl <| st_call (ags := [_, _]) rfl rfl T.ent64 rfl (trimLB_spec s _) ?_
     rintro _ w3 ⟨rfl, c4⟩
     replace HC := HC.then c4
     refine aS rfl <| en <| x_ret <| then_r <| ret_tmp (v := S _) rfl rfl ?_
     exact ⟨rfl, HC⟩
    ·try simp only [nm, ne_eq] at h1
     first | exact absurd rfl h1 | (simp at h1; done) | exact absurd h1 (by decide)
   ·try simp only [nm, ne_eq] at g2
    first | exact absurd rfl g2 | (simp at g2; done) | exact absurd g2 (by decide)

theorem meta_spec (c : UInt8) (w : World) : CallR Tryd.prog 59 #[.int .u8 (c.toNat : Int)] w fun v w' => v = .bool (metaB c) ∧ Chg [] w w' := by
 refine callR_of_wp (args := [_]) Tryd.func59 rfl (Nat.le_of_ble_eq_true rfl) ?_
 have HC : Chg [] w w := .refl _
 refine sr rfl <| aB rfl <| en <| sr rfl <| mI rfl <| Wp rfl <| st_call (ags := [_, _]) rfl rfl T.ent21 rfl (IndexByte_spec metas c _) ?_
 rintro _ w1 ⟨rfl, c2⟩
 replace HC := HC.then c2
 refine Wp rfl <| st_geq rfl rfl <| aB rfl <| en <| x_ret <| ret_tmp (v := .bool _) rfl rfl ?_
 exact ⟨rfl, HC⟩

theorem operators_spec (w : World) (ht : Tab w) : CallR Tryd.prog 60 #[] w fun v w' => ∃ b, v = .slice (some ⟨b, 0, none⟩) opsT.length opsT.length ∧ w.heap.size ≤ b ∧ Sl sE w' (fun k => k = b) (some ⟨b, 0, none⟩) opsT ∧ Chg [] w w' := by
 refine callR_of_wp (args := []) Tryd.func60 rfl (Nat.le_of_ble_eq_true rfl) ?_
 have HC : Chg [] w w := .refl _
 have ht1 := ht.lt
 refine sr rfl <| aL rfl <| en <| sr rfl <| Wp rfl <| st_call (ags := [_]) rfl rfl T.ent85 rfl (Fields_spec [60, 60, 45, 32, 38, 38, 32, 124, 124, 32, 59, 59, 32, 60, 60, 32, 62, 62, 32, 60, 38, 32, 62, 38, 32, 60, 62, 32, 62, 124, 32, 59, 32, 38, 32, 124, 32, 60, 32, 62, 32, 40, 32, 41] _ (by decide) (all128 _ rfl) ht) ?_
 rintro _ w1 ⟨bf, rfl, hgf, hsf, c2⟩
 rw [fields_opsT] at hsf ⊢
 replace HC := HC.then c2
 replace ht := ht.tr0 c2
 refine aL rfl <| en <| x_ret <| ret_tmp (v := .slice _ _ _) rfl rfl ?_
 exact ⟨bf, rfl, hgf, hsf, HC⟩

theorem tnext1_spec {bs : Nat} {s : Bytes} {w : World} (o : Bytes) (hb : Blk w bs [S s] 9) : CallR Tryd.prog 62 #[S o, .pointer (some ⟨bs, 0, none⟩)] w fun v w' => v = .bool (preO s o) ∧ Chg [] w w' := by
 refine callR_of_wp (args := [_, _]) Tryd.func62 rfl (Nat.le_of_ble_eq_true rfl) ?_
 have HC : Chg [] w w := .refl _
 refine sr rfl <| aB rfl <| en <| sr rfl <| lS T.one9 rfl (hb.cell rfl) <| mS rfl <| Wp rfl <| st_call (ags := [_, _]) rfl rfl T.ent19 rfl (HasPrefix_spec _ _ _) ?_
 rintro _ w1 ⟨rfl, c2⟩
 replace HC := HC.then c2
 replace hb := hb.tr0 c2
 refine aB rfl <| en <| x_ret <| ret_tmp (v := .bool _) rfl rfl ?_
 exact ⟨rfl, HC⟩

end Go.Proofs.YthggegbljpmecaaDoor.K
