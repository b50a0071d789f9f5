/- Parts: what stands between ${ and }. -/
import Derived.Test.YtiiahnpgomdfmaaDoorKitX
import Derived.Test.YtiiahnpgomdfmaaDoorKitM
set_option linter.unusedVariables false
set_option linter.unusedSimpArgs false
set_option autoImplicit false
set_option maxRecDepth 20000
namespace Go.Proofs.YtiiahnpgomdfmaaDoor.K
open Go Go.Proofs Go.RowKit

/-- The builder at the beginning of block b holds s; behind it lies rs. -/
structure BldP (w : World) (b : Nat) (A : Option Addr) (cap : Nat) (s : Bytes) (rs : List Value) : Prop where
  blk : Blk w b (.pointer none :: .slice A s.length cap :: rs) 65 ∨ Blk w b (.pointer (some ⟨b, 0, none⟩) :: .slice A s.length cap :: rs) 65
  own : OwnB 5 w A cap s
  nil : s = [] → A = none
section
variable {w w' : World} {b : Nat} {A : Option Addr} {cap : Nat} {s : Bytes} {rs : List Value}
theorem BldP.ne (h : BldP w b A cap s rs) : b ∉ ob A := by
  rcases h.blk with hb | hb <;> exact h.own.ne hb (by decide)
theorem BldP.ltb (h : BldP w b A cap s rs) : b < w.heap.size := by
  rcases h.blk with hb | hb <;> exact hb.lt
theorem BldP.tr {bs : List Nat} (h : BldP w b A cap s rs) (hc : Chg bs w w') (h1 : b ∉ bs) (h2 : ∀ k, k ∈ ob A → k ∉ bs) : BldP w' b A cap s rs :=
  ⟨h.blk.imp (fun x => x.tr hc h1) (fun x => x.tr hc h1), h.own.tr hc h2, h.nil⟩
theorem BldP.tr0 (h : BldP w b A cap s rs) (hc : Chg [] w w') : BldP w' b A cap s rs := h.tr hc (by simp) (by simp)
theorem BldP.new (h : Blk w b (.pointer none :: .slice none 0 0 :: rs) 65) : BldP w b none 0 [] rs :=
  ⟨.inl h, ⟨by simp [Lib.byteCells], .inl ⟨rfl, rfl⟩⟩, fun _ => rfl⟩
theorem BldP.fresh (h : BldP w b A cap s rs) {k : Nat} (hk : w.heap.size ≤ k) : k ∉ ob A := fun hx => by have := h.own.lt k hx; omega
end

theorem copyP_fresh {b : Nat} {v : Value}  {w : World} (hb : Blk w b [.pointer none, v] 65) : CallR Tryd.prog 56 #[.pointer (some ⟨b, 0, none⟩)] w fun r w' => r = .tuple ⟨[]⟩ ∧ Blk w' b [.pointer (some ⟨b, 0, none⟩), v] 65 ∧ Chg [b] w w' := by
 refine callR_of_wp (args := [_]) Tryd.func56 rfl (Nat.le_of_ble_eq_true rfl) ?_
 have HC : Chg [b] w w := .refl _
 refine sr rfl <| mP rfl <| nc rfl <| fa T.fld65_0 rfl <| Wp rfl <| st_load1 (v := .pointer _) T.one62 rfl (hb.cell rfl) <| Wp rfl <| st_peqln T.u62 rfl rfl <| en <| x_cond rfl (fun h0 => ?_) (fun h0 => ?_)
 ·try simp only [nm, ne_eq] at h0
  refine x_region rfl <| mP rfl <| mP rfl <| Wp rfl <| st_toUnsafe T.u62 T.u123 T.nz65 hb (Nat.le_of_ble_eq_true rfl) rfl <| Wp rfl <| st_callV rfl rfl rfl (T.noesc _ _) <| Wp rfl <| st_fromUnsafe T.u123 T.u62 T.isSome65 hb T.lies65_65 rfl <| nc rfl <| fa T.fld65_0 rfl <| Wp rfl <| st_store (v := .pointer _) T.size62 rfl rfl rfl hb rfl (Nat.le_of_ble_eq_true rfl) (by simp [Value.oneCell', S]) rfl ?_
  intro w1 c2 hb3; simp only [setVs, setV] at hb3
  clear hb
  replace HC := HC.trans c2 (by intro x hx; simp only [List.mem_singleton] at hx; subst hx; exact .inl (by simp))
  refine wops_nil <| ret_none_n rfl ?_
  exact ⟨rfl, hb3, HC⟩
 ·try simp only [nm, ne_eq] at h0
  simp at h0

theorem copyP_used {b : Nat} {v : Value}  {w : World} (hb : Blk w b [.pointer (some ⟨b, 0, none⟩), v] 65) : CallR Tryd.prog 56 #[.pointer (some ⟨b, 0, none⟩)] w fun r w' => r = .tuple ⟨[]⟩ ∧ Blk w' b [.pointer (some ⟨b, 0, none⟩), v] 65 ∧ Chg [b] w w' := by
 refine callR_of_wp (args := [_]) Tryd.func56 rfl (Nat.le_of_ble_eq_true rfl) ?_
 have HC : Chg [b] w w := .refl _
 refine sr rfl <| mP rfl <| nc rfl <| fa T.fld65_0 rfl <| Wp rfl <| st_load1 (v := .pointer _) T.one62 rfl (hb.cell rfl) <| Wp rfl <| st_peqln T.u62 rfl rfl <| en <| x_cond rfl (fun h0 => ?_) (fun h0 => ?_)
 ·try simp only [nm, ne_eq] at h0
  simp at h0
 ·try simp only [nm, ne_eq] at h0
  refine sr rfl <| mP rfl <| nc rfl <| fa T.fld65_0 rfl <| Wp rfl <| st_load1 (v := .pointer _) T.one62 rfl (hb.cell rfl) <| mP rfl <| Wp rfl <| st_pneq_same T.u62 T.isSome65 rfl rfl <| en <| x_cond (t := false) rfl (fun h1 => ?_) (fun h1 => ?_)
  · exact absurd h1 (by decide)
  refine x_skip <| ret_none_n rfl ?_
  exact ⟨rfl, hb, HC⟩

theorem copyCheckP_spec {b : Nat} {A : Option Addr} {cap : Nat} {s : Bytes}  {w : World} (h : BldP w b A cap s []) : CallR Tryd.prog 56 #[.pointer (some ⟨b, 0, none⟩)] w fun r w' => r = .tuple ⟨[]⟩ ∧ Blk w' b [.pointer (some ⟨b, 0, none⟩), .slice A s.length cap] 65 ∧ Chg [b] w w' := by
  rcases h.blk with hb | hb
  · exact copyP_fresh hb
  · exact copyP_used hb

theorem byS63_65 : byteS Tryd.prog 63 5 := ⟨by kernel_rfl, by kernel_rfl⟩

theorem WriteByteP_spec {b : Nat} {A : Option Addr} {cap : Nat} {s : Bytes}  {w : World} (x : UInt8) (h : BldP w b A cap s []) (hl : s.length + 1 ≤ 140737488355328) : CallR Tryd.prog 88 #[.pointer (some ⟨b, 0, none⟩), .int .u8 (x.toNat : Int)] w fun v w' => v = .nilIface ∧ ∃ A' cap', BldP w' b A' cap' (s ++ [x]) [] ∧ Chg (b :: ob A) w w' ∧ ∀ g, g ∈ ob A' → g ∈ ob A ∨ w.heap.size ≤ g := by
 have ho := h.own
 refine callR_of_wp (args := [_, _]) Tryd.func88 rfl (Nat.le_of_ble_eq_true rfl) ?_
 have HC : Chg (b :: ob A) w w := .refl _
 refine sr rfl <| av (v := .nilIface) rfl <| en <| sr rfl <| mP rfl <| Wp rfl <| st_call (ags := [_]) rfl rfl T.ent56 rfl (copyCheckP_spec h) ?_
 rintro _ w1 ⟨rfl, hb, c2⟩
 have hsz0 := c2.size
 replace HC := HC.trans c2 (by intro x hx; simp only [List.mem_singleton] at hx; subst hx; exact .inl (by simp))
 replace ho := ho.tr c2 (fun k hk hx => by simp only [List.mem_singleton] at hx; subst hx; exact h.ne hk)
 refine en <| sr rfl <| mP rfl <| mP rfl <| nc rfl <| fa T.fld65_1 rfl <| lL T.one63 rfl (hb.cell rfl) <| mI rfl <| Wp rfl <| st_lit (ps := [(0, .tmp 12)]) (vs := [.int _ _]) T.lit63 (by decide) rfl (by simp only [List.forall_mem_cons, List.not_mem_nil, false_imp_iff, implies_true, and_true]; exact rfl) rfl ?_
 intro b3 w4 e5 c6 hb7
 have ge_b3 : w.heap.size ≤ b3 := by rw [e5]; exact HC.size
 have ne_b_b3 : b ≠ b3 := by rw [e5]; exact hb.ne_size
 replace HC := HC.then c6
 replace ho := ho.tr c6 (by simp)
 replace hb := hb.tr0 c6
 clear e5
 have hszB := HC.size
 refine Wp rfl <| st_appendB (s2 := [x]) byS63_65 rfl rfl ho h.nil hl (by simp) (lit_news hb7) ?_
 intro A8 cap9 w10 ho11 c12 hg13 hn14
 replace hb := hb.tr c12 (fun hx => h.ne hx)
 replace HC := HC.trans c12 (fun k hk => .inl (by simp [hk]))
 have hne2 := ho11.ne hb (by decide)
 refine nc rfl <| fa T.fld65_1 rfl <| Wp rfl <| st_store (v := .slice _ _ _) T.size63 rfl rfl rfl hb rfl (Nat.le_of_ble_eq_true rfl) (by simp [Value.oneCell', S]) rfl ?_
 intro w15 c16 hb17; simp only [setVs, setV] at hb17
 clear hb
 replace HC := HC.trans c16 (by intro x hx; simp only [List.mem_singleton] at hx; subst hx; exact .inl (by simp))
 replace ho11 := ho11.tr c16 (fun k hk hx => by simp only [List.mem_singleton] at hx; subst hx; exact hne2 hk)
 refine en <| sr rfl <| av (v := .nilIface) rfl <| en <| x_ret <| ret_tmp (v := .nilIface) rfl rfl ?_
 exact ⟨rfl, A8, cap9, ⟨.inr hb17, ho11, hn14⟩, HC, fun g hg => (hg13 g hg).imp id (fun h => by omega)⟩

theorem StringP00 {b gb cap : Nat} {s : Bytes}  {w : World} (hb : Blk w b [.pointer none, .slice none 0 0] 65) : CallR Tryd.prog 31 #[.pointer (some ⟨b, 0, none⟩)] w fun v w' => v = S [] ∧ Blk w' b [.pointer none, .slice none 0 0] 65 ∧ Chg [] w w' := by
 refine callR_of_wp (args := [_]) Tryd.func31 rfl (Nat.le_of_ble_eq_true rfl) ?_
 have HC : Chg [] w w := .refl _
 refine sr rfl <| aS rfl <| en <| x_seq <| x_draw [(0, 0), (1, 0), (2, 0), (3, 0), (4, 0), (5, 0), (6, 0), (7, 0), (8, 0), (9, 0), (10, 1), (11, 0)] T.mixed rfl rfl rfl (fun W => W.heap[b]? = w.heap[b]? ∧ True) ⟨rfl, trivial⟩ ?_
 have o3 := hb
 have c2 := Chg.drew w
 generalize World.drew w = w1 at c2 ⊢
 replace HC := HC.then c2
 replace hb := hb.tr0 c2
 refine sq_q rfl (fun W hT => r_move (v := .pointer _) rfl) <| sq_q rfl (fun W hT => r_nilCheck rfl) <| sq_q rfl (fun W hT => r_fieldAddr T.fld65_1 rfl) <| sq_q rfl (fun W hT => r_load1 (v := .slice _ _ _) T.one63 rfl (Blk.cell (show Blk W b _ _ from hT.1.trans o3) rfl)) <| sq_q rfl (fun W hT => r_sliceData_nil rfl) <| sq_q rfl (fun W hT => r_move (v := .pointer _) rfl) <| sq_q rfl (fun W hT => r_nilCheck rfl) <| sq_q rfl (fun W hT => r_fieldAddr T.fld65_1 rfl) <| sq_q rfl (fun W hT => r_load1 (v := .slice _ _ _) T.one63 rfl (Blk.cell (show Blk W b _ _ from hT.1.trans o3) rfl)) <| sq_q rfl (fun W hT => r_len (ct := #[63]) (by rw [show ((#[63] : Array TypeId)[0]?).bind Tryd.prog.underlying = some (.slice 5) from T.u63]; rfl) rfl) <| sq_run1 rfl (r_unsafeString_nil rfl rfl) _ (fun _ h => h) ?_ ?_
 · exact ⟨(Eq.trans hb o3.symm), trivial⟩
 refine sq_q rfl (fun W hT => r_assign (v := S _) rfl) ?_
 clear o3
 refine sq_nil <| then_n <| x_ret <| ret_tmp (v := S _) rfl rfl ?_
 exact ⟨rfl, hb, HC⟩

theorem StringP01 {b gb cap : Nat} {s : Bytes}  {w : World} (hb : Blk w b [.pointer none, .slice (some ⟨gb, 0, none⟩) s.length cap] 65) (ho : OwnB 5 w (some ⟨gb, 0, none⟩) cap s) (hs : s ≠ []) (hcap : cap ≠ 0) (hne : b ≠ gb) : CallR Tryd.prog 31 #[.pointer (some ⟨b, 0, none⟩)] w fun v w' => v = S s ∧ Blk w' b [.pointer none, .slice (some ⟨gb, 0, none⟩) s.length cap] 65 ∧ OwnB 5 w' (some ⟨gb, 0, none⟩) cap s ∧ Chg [gb] w w' := by
 refine callR_of_wp (args := [_]) Tryd.func31 rfl (Nat.le_of_ble_eq_true rfl) ?_
 have HC : Chg [gb] w w := .refl _
 refine sr rfl <| aS rfl <| en <| x_seq <| x_draw [(0, 0), (1, 0), (2, 0), (3, 0), (4, 0), (5, 0), (6, 0), (7, 0), (8, 0), (9, 0), (10, 1), (11, 0)] T.mixed rfl rfl rfl (fun W => W.heap[b]? = w.heap[b]? ∧ True) ⟨rfl, trivial⟩ ?_
 have o3 := hb
 have c2 := Chg.drew w
 generalize World.drew w = w1 at c2 ⊢
 replace HC := HC.then c2
 replace hb := hb.tr0 c2
 replace ho := ho.tr c2 (by simp)
 refine sq_q rfl (fun W hT => r_move (v := .pointer _) rfl) <| sq_q rfl (fun W hT => r_nilCheck rfl) <| sq_q rfl (fun W hT => r_fieldAddr T.fld65_1 rfl) <| sq_q rfl (fun W hT => r_load1 (v := .slice _ _ _) T.one63 rfl (Blk.cell (show Blk W b _ _ from hT.1.trans o3) rfl)) <| sq_q rfl (fun W hT => r_sliceData rfl hcap) <| sq_q rfl (fun W hT => r_move (v := .pointer _) rfl) <| sq_q rfl (fun W hT => r_nilCheck rfl) <| sq_q rfl (fun W hT => r_fieldAddr T.fld65_1 rfl) <| sq_q rfl (fun W hT => r_load1 (v := .slice _ _ _) T.one63 rfl (Blk.cell (show Blk W b _ _ from hT.1.trans o3) rfl)) <| sq_q rfl (fun W hT => r_len (ct := #[63]) (by rw [show ((#[63] : Array TypeId)[0]?).bind Tryd.prog.underlying = some (.slice 5) from T.u63]; rfl) rfl) <| sq_us rfl (r_unsafeString T.u101 T.cells5 ho hs rfl rfl) ?_
 rintro w4 ⟨ho6, c5⟩
 have hbx := hb.tr1 c5 hne
 refine ⟨_, fun _ h => h, ⟨(Eq.trans hbx o3.symm), trivial⟩, ?_⟩
 replace HC := HC.trans c5 (fun k hk => .inl hk)
 refine sq_q rfl (fun W hT => r_assign (v := S _) rfl) ?_
 clear o3
 refine sq_nil <| then_n <| x_ret <| ret_tmp (v := S _) rfl rfl ?_
 exact ⟨rfl, hbx, ho6, HC⟩

theorem StringP10 {b gb cap : Nat} {s : Bytes}  {w : World} (hb : Blk w b [.pointer (some ⟨b, 0, none⟩), .slice none 0 0] 65) : CallR Tryd.prog 31 #[.pointer (some ⟨b, 0, none⟩)] w fun v w' => v = S [] ∧ Blk w' b [.pointer (some ⟨b, 0, none⟩), .slice none 0 0] 65 ∧ Chg [] w w' := by
 refine callR_of_wp (args := [_]) Tryd.func31 rfl (Nat.le_of_ble_eq_true rfl) ?_
 have HC : Chg [] w w := .refl _
 refine sr rfl <| aS rfl <| en <| x_seq <| x_draw [(0, 0), (1, 0), (2, 0), (3, 0), (4, 0), (5, 0), (6, 0), (7, 0), (8, 0), (9, 0), (10, 1), (11, 0)] T.mixed rfl rfl rfl (fun W => W.heap[b]? = w.heap[b]? ∧ True) ⟨rfl, trivial⟩ ?_
 have o3 := hb
 have c2 := Chg.drew w
 generalize World.drew w = w1 at c2 ⊢
 replace HC := HC.then c2
 replace hb := hb.tr0 c2
 refine sq_q rfl (fun W hT => r_move (v := .pointer _) rfl) <| sq_q rfl (fun W hT => r_nilCheck rfl) <| sq_q rfl (fun W hT => r_fieldAddr T.fld65_1 rfl) <| sq_q rfl (fun W hT => r_load1 (v := .slice _ _ _) T.one63 rfl (Blk.cell (show Blk W b _ _ from hT.1.trans o3) rfl)) <| sq_q rfl (fun W hT => r_sliceData_nil rfl) <| sq_q rfl (fun W hT => r_move (v := .pointer _) rfl) <| sq_q rfl (fun W hT => r_nilCheck rfl) <| sq_q rfl (fun W hT => r_fieldAddr T.fld65_1 rfl) <| sq_q rfl (fun W hT => r_load1 (v := .slice _ _ _) T.one63 rfl (Blk.cell (show Blk W b _ _ from hT.1.trans o3) rfl)) <| sq_q rfl (fun W hT => r_len (ct := #[63]) (by rw [show ((#[63] : Array TypeId)[0]?).bind Tryd.prog.underlying = some (.slice 5) from T.u63]; rfl) rfl) <| sq_run1 rfl (r_unsafeString_nil rfl rfl) _ (fun _ h => h) ?_ ?_
 · exact ⟨(Eq.trans hb o3.symm), trivial⟩
 refine sq_q rfl (fun W hT => r_assign (v := S _) rfl) ?_
 clear o3
 refine sq_nil <| then_n <| x_ret <| ret_tmp (v := S _) rfl rfl ?_
 exact ⟨rfl, hb, HC⟩

theorem StringP11 {b gb cap : Nat} {s : Bytes}  {w : World} (hb : Blk w b [.pointer (some ⟨b, 0, none⟩), .slice (some ⟨gb, 0, none⟩) s.length cap] 65) (ho : OwnB 5 w (some ⟨gb, 0, none⟩) cap s) (hs : s ≠ []) (hcap : cap ≠ 0) (hne : b ≠ gb) : CallR Tryd.prog 31 #[.pointer (some ⟨b, 0, none⟩)] w fun v w' => v = S s ∧ Blk w' b [.pointer (some ⟨b, 0, none⟩), .slice (some ⟨gb, 0, none⟩) s.length cap] 65 ∧ OwnB 5 w' (some ⟨gb, 0, none⟩) cap s ∧ Chg [gb] w w' := by
 refine callR_of_wp (args := [_]) Tryd.func31 rfl (Nat.le_of_ble_eq_true rfl) ?_
 have HC : Chg [gb] w w := .refl _
 refine sr rfl <| aS rfl <| en <| x_seq <| x_draw [(0, 0), (1, 0), (2, 0), (3, 0), (4, 0), (5, 0), (6, 0), (7, 0), (8, 0), (9, 0), (10, 1), (11, 0)] T.mixed rfl rfl rfl (fun W => W.heap[b]? = w.heap[b]? ∧ True) ⟨rfl, trivial⟩ ?_
 have o3 := hb
 have c2 := Chg.drew w
 generalize World.drew w = w1 at c2 ⊢
 replace HC := HC.then c2
 replace hb := hb.tr0 c2
 replace ho := ho.tr c2 (by simp)
 refine sq_q rfl (fun W hT => r_move (v := .pointer _) rfl) <| sq_q rfl (fun W hT => r_nilCheck rfl) <| sq_q rfl (fun W hT => r_fieldAddr T.fld65_1 rfl) <| sq_q rfl (fun W hT => r_load1 (v := .slice _ _ _) T.one63 rfl (Blk.cell (show Blk W b _ _ from hT.1.trans o3) rfl)) <| sq_q rfl (fun W hT => r_sliceData rfl hcap) <| sq_q rfl (fun W hT => r_move (v := .pointer _) rfl) <| sq_q rfl (fun W hT => r_nilCheck rfl) <| sq_q rfl (fun W hT => r_fieldAddr T.fld65_1 rfl) <| sq_q rfl (fun W hT => r_load1 (v := .slice _ _ _) T.one63 rfl (Blk.cell (show Blk W b _ _ from hT.1.trans o3) rfl)) <| sq_q rfl (fun W hT => r_len (ct := #[63]) (by rw [show ((#[63] : Array TypeId)[0]?).bind Tryd.prog.underlying = some (.slice 5) from T.u63]; rfl) rfl) <| sq_us rfl (r_unsafeString T.u101 T.cells5 ho hs rfl rfl) ?_
 rintro w4 ⟨ho6, c5⟩
 have hbx := hb.tr1 c5 hne
 refine ⟨_, fun _ h => h, ⟨(Eq.trans hbx o3.symm), trivial⟩, ?_⟩
 replace HC := HC.trans c5 (fun k hk => .inl hk)
 refine sq_q rfl (fun W hT => r_assign (v := S _) rfl) ?_
 clear o3
 refine sq_nil <| then_n <| x_ret <| ret_tmp (v := S _) rfl rfl ?_
 exact ⟨rfl, hbx, ho6, HC⟩

theorem StringP_spec {b : Nat} {A : Option Addr} {cap : Nat} {s : Bytes}  {w : World} (h : BldP w b A cap s []) : CallR Tryd.prog 31 #[.pointer (some ⟨b, 0, none⟩)] w fun v w' => v = S s ∧ BldP w' b A cap s [] ∧ Chg (ob A) w w' := by
  by_cases hs : s = []
  · subst hs
    have hA := h.nil rfl
    subst hA
    have h0 : cap = 0 := by rcases h.own.form with ⟨_, h0, _⟩ | ⟨g, cur, fz, h0, _⟩; exact h0; cases h0
    subst h0
    rcases h.blk with hb | hb
    · exact CallR.imp (StringP00 (gb := 0) (cap := 0) (s := []) hb) fun v w' ⟨h1, h2, h3⟩ => ⟨h1, ⟨.inl h2, h.own.tr h3 (by simp [ob]), fun _ => rfl⟩, h3⟩
    · exact CallR.imp (StringP10 (gb := 0) (cap := 0) (s := []) hb) fun v w' ⟨h1, h2, h3⟩ => ⟨h1, ⟨.inr h2, h.own.tr h3 (by simp [ob]), fun _ => rfl⟩, h3⟩
  · rcases h.own.form with ⟨_, _, h0⟩ | ⟨g, cur, fz, rfl, hg, hle, _⟩
    · exact absurd h0 hs
    · have hpos := List.length_pos_iff.2 hs
      have hne : b ≠ g := fun e => h.ne (by simp [ob, e])
      rcases h.blk with hb | hb
      · exact CallR.imp (StringP01 hb h.own hs (by omega) hne) fun v w' ⟨h1, h2, h3, h4⟩ => ⟨h1, ⟨.inl h2, h3, fun hz => absurd hz hs⟩, h4⟩
      · exact CallR.imp (StringP11 hb h.own hs (by omega) hne) fun v w' ⟨h1, h2, h3, h4⟩ => ⟨h1, ⟨.inr h2, h3, fun hz => absurd hz hs⟩, h4⟩

theorem hasSuf_eq (s p : Bytes) : Lib.hasSuffix s p = hasSuf s p := by
  unfold Lib.hasSuffix hasSuf
  rw [Bool.eq_iff_iff, List.isSuffixOf_iff_suffix, Bool.and_eq_true, decide_eq_true_eq, decide_eq_true_eq]
  constructor
  · intro h; exact ⟨h.length_le, (List.suffix_iff_eq_drop.1 h).symm⟩
  · rintro ⟨_, h⟩; exact List.suffix_iff_eq_drop.2 h.symm
theorem HasSuffix_spec (s p : Bytes) (w : World) (hs : s.length ≤ 9223372036854775807) : CallR Tryd.prog 86 #[S s, S p] w fun v w' => v = .bool (hasSuf s p) ∧ Chg [] w w' :=
  CallR.of (Tryd.strings_HasSuffix ⟨⟨s⟩⟩ ⟨⟨p⟩⟩ w hs) fun e w' ⟨h1, h2⟩ => ⟨_, h1, congrArg Value.bool (hasSuf_eq s p), .refl' h2⟩
theorem TrimPrefix_spec (s p : Bytes) (w : World) : CallR Tryd.prog 30 #[S s, S p] w fun v w' => v = S (Lib.trimPrefix s p) ∧ Chg [] w w' :=
  CallR.of (Tryd.strings_TrimPrefix ⟨⟨s⟩⟩ ⟨⟨p⟩⟩ w) fun e w' ⟨h1, h2⟩ => ⟨_, h1, rfl, .refl' h2⟩
theorem HasPrefixI_spec (s p : Bytes) (w : World) : CallR Tryd.prog 50 #[S s, S p] w fun v w' => v = .bool (Lib.hasPrefix s p) ∧ Chg [] w w' :=
  CallR.of (Tryd.stringslite_HasPrefix ⟨⟨s⟩⟩ ⟨⟨p⟩⟩ w) fun e w' ⟨h1, h2⟩ => ⟨_, h1, rfl, .refl' h2⟩
theorem findN_pos {q : Bytes → Bool} : ∀ {l : List Bytes} {i : Nat}, ¬ findN q i l < 0 → ∃ j, findN q i l = ((i + j : Nat) : Int) ∧ j < l.length ∧ q (l.getD j []) = true
  | [], i, h => by simp [findN] at h
  | y :: l, i, h => by
    by_cases hy : q y = true
    · exact ⟨0, by simp [findN, hy], by simp, by simpa using hy⟩
    · simp only [findN, if_neg hy] at h ⊢
      obtain ⟨j, h1, h2, h3⟩ := findN_pos h
      exact ⟨j + 1, by rw [h1]; congr 1; omega, by simp; omega, by simpa using h3⟩
theorem fields_opsP : Lib.fields [58, 45, 32, 58, 61, 32, 58, 63, 32, 58, 43, 32, 37, 37, 32, 35, 35, 32, 45, 32, 61, 32, 63, 32, 43, 32, 37, 32, 35] = opsP := by kernel_rfl
theorem getD_at {l : List Bytes} {j : Nat} {x : Bytes} (h : l[j]? = some x) : l.getD j [] = x := by rw [List.getD_eq_getElem?_getD, h]; rfl

theorem CutPrefixI_spec (s p : Bytes) (w : World) (hs : s.length ≤ 9223372036854775807) : CallR Tryd.prog 114 #[S s, S p] w fun v w' => v = .tuple ⟨[S (if Lib.hasPrefix s p then s.drop p.length else s), .bool (Lib.hasPrefix s p)]⟩ ∧ Chg [] w w' := by
 refine callR_of_wp (args := [_, _]) Tryd.func114 rfl (Nat.le_of_ble_eq_true rfl) ?_
 have HC : Chg [] w w := .refl _
 refine sr rfl <| aS rfl <| aB rfl <| en <| x_seq <| sr rfl <| mS rfl <| mS rfl <| Wp rfl <| st_call (ags := [_, _]) rfl rfl T.ent50 rfl (HasPrefixI_spec s p _) ?_
 rintro _ w1 ⟨rfl, c2⟩
 replace HC := HC.then c2
 refine Wp rfl <| st_not rfl <| en <| x_cond rfl (fun h0 => ?_) (fun h0 => ?_)
 ·try simp only [nm, ne_eq] at h0
  refine sr rfl <| mS rfl <| aS rfl <| aB rfl <| en <| x_ret <| then_r <| ret_tmp2 (v := S _) (v2 := .bool _) rfl rfl rfl ?_
  exact ⟨by rw [h0]; simp, HC⟩
 ·try simp only [nm, ne_eq] at h0
  refine x_skip <| then_n <| sr rfl <| mS rfl <| mS rfl <| Wp rfl <| st_slen (ct := #[9]) T.u9 rfl <| Wp rfl <| st_sslo (i := p.length) T.u9 rfl ⟨_, rfl⟩ (by (have := pre_len (s := s) (p := p) (by assumption); omega)) <| aS rfl <| aB rfl <| en <| x_ret <| ret_tmp2 (v := S _) (v2 := .bool _) rfl rfl rfl ?_
  exact ⟨by rw [h0]; simp, HC⟩

theorem CutPrefix_spec (s p : Bytes) (w : World) (hs : s.length ≤ 9223372036854775807) : CallR Tryd.prog 104 #[S s, S p] w fun v w' => v = .tuple ⟨[S (if Lib.hasPrefix s p then s.drop p.length else s), .bool (Lib.hasPrefix s p)]⟩ ∧ Chg [] w w' := by
 refine callR_of_wp (args := [_, _]) Tryd.func104 rfl (Nat.le_of_ble_eq_true rfl) ?_
 have HC : Chg [] w w := .refl _
 refine sr rfl <| aS rfl <| aB rfl <| en <| sr rfl <| mS rfl <| mS rfl <| Wp rfl <| st_call (ags := [_, _]) rfl rfl T.ent114 rfl (CutPrefixI_spec s p _ hs) ?_
 rintro _ w1 ⟨rfl, c2⟩
 replace HC := HC.then c2
 refine Wp rfl <| st_extract (vs := [_, _]) (v := S _) rfl rfl <| Wp rfl <| st_extract (vs := [_, _]) (v := .bool _) rfl rfl <| aS rfl <| aB rfl <| en <| x_ret <| ret_tmp2 (v := S _) (v2 := .bool _) rfl rfl rfl ?_
 exact ⟨rfl, HC⟩

theorem IndexFunc_spec {k : FuncId} {caps : Array Value} {q : Bytes → Bool} {w : World} {l : List Bytes} {Al : Option Addr} {capl : Nat} {D : Nat → Prop} (hl : Sl sE w D Al l) (hlen : l.length ≤ 9223372036854775807) (hent : ∀ args (w : World), (callFunc k args).run Tryd.prog w = .ok (.enter k args) w) (hp : ∀ c W, Chg [] w W → CallR Tryd.prog k ⟨S c :: caps.toList⟩ W fun v W' => v = .bool (q c) ∧ Chg [] W W') :
    CallR Tryd.prog 70 #[.slice Al l.length capl, .func (.func k) #[] caps] w fun v w' => v = .int .i64 (findN q 0 l) ∧ Chg [] w w' := by
 refine callR_of_wp (args := [_, _]) Tryd.func70 rfl (Nat.le_of_ble_eq_true rfl) ?_
 have HC : Chg [] w w := .refl _
 refine sr rfl <| aI rfl <| en <| x_seq <| sr rfl <| mL rfl <| Wp rfl <| st_len (ct := #[109]) (by rw [show ((#[109] : Array TypeId)[0]?).bind Tryd.prog.underlying = some (.slice 9) from T.u109]; rfl) rfl <| mI rfl <| en <| x_block <| x_loop (ι := Nat) [4, 5, 8, 9, 10, 11, 12, 13, 14, 15, 16, 17, 18] (fun i => [(8, .int .i64 (i : Int))]) (fun i W => (i ≤ l.length ∧ findN q 0 l = findN q i (l.drop i)) ∧ (Chg [] w W) ∧ (Sl sE W D Al l)) (fun i => l.length - i) 0 ?_ ?_ ?_
 · exact ⟨rfl, trivial⟩
 ·refine ⟨?_, HC, hl⟩
  exact ⟨Nat.zero_le _, by simp⟩
 intro i G2 w1 ⟨⟨hi, hr⟩, HC, hl⟩
 change wp _ _ _ _ _ (upds (over _ _ G2) [(8, .int .i64 (i : Int))]) _ _
 refine sr rfl <| Wp rfl <| st_lss rfl rfl <| en <| x_seq <| x_cond rfl (fun h0 => ?_) (fun h0 => ?_)
 ·try simp only [nm, ne_eq] at h0
  refine x_skip <| then_n <| x_seq <| x_block <| sr rfl <| mI rfl <| aI rfl <| en <| sr rfl <| mv (v := .func _ _ _) rfl <| mL rfl <| mI rfl ?_
  obtain ⟨x3, hx4⟩ : ∃ zz, l[i]? = some zz := ⟨_, List.getElem?_eq_getElem (by omega)⟩
  obtain ⟨lb9, _, vs8, hA5, hR7, hC6⟩ := hl.at hx4
  obtain rfl : vs8 = [S x3] := hR7
  refine Wp rfl <| st_indexAddr T.u109 T.size9 (congrArg (fun z => Value.slice z _ _) hA5) rfl (by omega) (by omega) <| lS T.one9 rfl (hC6.at (j := 0) rfl) <| Wp rfl <| st_call (f := k) (cap := caps) (ags := S _ :: caps.toList) rfl rfl hent rfl (hp _ _ HC) ?_
  rintro _ w10 ⟨rfl, c11⟩
  replace HC := HC.then c11
  replace hl := hl.tr0 c11
  refine en <| x_cond rfl (fun h1 => ?_) (fun h1 => ?_)
  ·try simp only [nm, ne_eq] at h1
   refine sr rfl <| mI rfl <| aI rfl <| en <| x_ret <| block_r <| then_r <| then_r <| block_r <| then_r <| ret_tmp (v := .int _ _) rfl rfl <| ⟨?_, HC⟩
   rw [hr, findN_off hx4 h1]
  ·try simp only [nm, ne_eq] at h1
   refine x_skip <| block_n <| then_n <| x_region rfl <| Wp rfl <| st_addn rfl rfl (by constructor <;> omega) <| mI rfl <| en <| ⟨i + 1, ?_, ?_, rfl, ⟨rfl, trivial⟩, ?_⟩
   ·refine ⟨?_, HC, hl⟩
    exact ⟨by omega, by rw [hr, findN_on hx4 h1]⟩
   ·show l.length - (i + 1) < l.length - i; omega
   repeat (first | exact agree_upds agree_over rfl | refine agree_upd ?_ rfl | refine agree_upds ?_ rfl | refine agree_over_sub ?_ rfl)
 ·try simp only [nm, ne_eq] at h0
  refine x_exit <| then_x <| then_x <| block_x <| then_n <| sr rfl <| aI rfl <| en <| x_ret <| ret_tmp (v := .int _ _) rfl rfl <| ⟨?_, HC⟩
  rw [hr, findN_end (by omega)]

theorem param1_spec {bs : Nat} {s : Bytes} {w : World} (o : Bytes) (hb : Blk w bs [S s] 9) : CallR Tryd.prog 105 #[S o, .pointer (some ⟨bs, 0, none⟩)] w fun v w' => v = .bool (preP s o) ∧ Chg [] w w' := by
 refine callR_of_wp (args := [_, _]) Tryd.func105 rfl (Nat.le_of_ble_eq_true rfl) ?_
 have HC : Chg [] w w := .refl _
 refine sr rfl <| aB rfl <| en <| sr rfl <| lS T.one9 rfl (hb.cell rfl) <| mS rfl <| Wp rfl <| st_call (ags := [_, _]) rfl rfl T.ent24 rfl (HasPrefix_spec _ _ _) ?_
 rintro _ w1 ⟨rfl, c2⟩
 replace HC := HC.then c2
 replace hb := hb.tr0 c2
 refine aB rfl <| en <| x_ret <| ret_tmp (v := .bool _) rfl rfl ?_
 exact ⟨rfl, HC⟩

theorem param_spec (m : Int) (s : Bytes) (w : World) (hs : s.length < 4294967281) (ht : Tab w) : CallR Tryd.prog 87 #[.agg ⟨[.int .i64 m]⟩, S s] w fun v w' => v = .tuple ⟨[.agg ⟨prtC (paramV (!decide (m = 0)) s).1⟩, .int .i64 (paramV (!decide (m = 0)) s).2]⟩ ∧ Chg [] w w' := by
 refine callR_of_wp (args := [_, _]) Tryd.func87 rfl (Nat.le_of_ble_eq_true rfl) ?_
 have HC : Chg [] w w := .refl _
 have ht1 := ht.lt
 have hnl := namedV_le s
 refine sr rfl <| Wp rfl <| st_box (v := .agg ⟨[.int _ _]⟩) (vs := [_]) rfl rfl ?_
 intro b2 w1 e2 c3 hb4
 have ge_b2 : w.heap.size ≤ b2 := by rw [e2]; exact HC.size
 replace HC := HC.then c3
 replace ht := ht.tr0 c3
 clear e2
 refine Wp rfl <| st_alloc T.zero33 ?_
 intro b4 w5 e6 c7 hb8
 have ge_b4 : w.heap.size ≤ b4 := by rw [e6]; exact HC.size
 have ne_b2_b4 : b2 ≠ b4 := by rw [e6]; exact hb4.ne_size
 replace HC := HC.then c7
 replace ht := ht.tr0 c7
 replace hb4 := hb4.tr0 c7
 clear e6
 refine aI rfl <| en <| sr rfl <| Wp rfl <| st_loadA (vs := [_]) T.agg46 rfl (hb4.cells (n := 1) (vs := [_]) rfl) rfl <| Wp rfl <| st_call (ags := [_]) rfl rfl T.ent58 rfl (quoted_spec m _) ?_
 rintro _ w9 ⟨rfl, c10⟩
 replace HC := HC.then c10
 replace ht := ht.tr0 c10
 replace hb4 := hb4.tr0 c10
 replace hb8 := hb8.tr0 c10
 refine Wp rfl <| st_bld (ps := [(0, .const (.int .i64 1)), (5, .tmp 14)]) (vs := [.int _ _, S _, S _, S _, S _, .bool _]) T.bld33 rfl <| Wp rfl <| st_alloc T.zero33 ?_
 intro b6 w11 e12 c13 hb14
 have ge_b6 : w.heap.size ≤ b6 := by rw [e12]; exact HC.size
 have ne_b2_b6 : b2 ≠ b6 := by rw [e12]; exact hb4.ne_size
 have ne_b4_b6 : b4 ≠ b6 := by rw [e12]; exact hb8.ne_size
 replace HC := HC.then c13
 replace ht := ht.tr0 c13
 replace hb4 := hb4.tr0 c13
 replace hb8 := hb8.tr0 c13
 clear e12
 refine Wp rfl <| st_store (v := .agg ⟨[.int _ _, S _, S _, S _, S _, .bool _]⟩) T.size33 rfl rfl rfl hb14 rfl (Nat.le_of_ble_eq_true rfl) (by simp [Value.oneCell', S]) rfl ?_
 intro w15 c16 hb17; simp only [setVs, setV] at hb17
 clear hb14
 replace HC := HC.then1 c16 ge_b6
 replace ht := ht.tr c16 (by intro hx; have := ht.lt; have := ht1; simp only [List.mem_cons, List.mem_nil_iff, or_false] at hx; omega)
 replace hb4 := hb4.tr1 c16 ne_b2_b6
 replace hb8 := hb8.tr1 c16 ne_b4_b6
 refine en <| x_seq <| sr rfl <| mS rfl <| Wp rfl <| st_call (ags := [_, _]) rfl rfl T.ent104 rfl (CutPrefix_spec s [35] _ (by omega)) ?_
 rintro _ w18 ⟨rfl, c19⟩
 replace HC := HC.then c19
 replace ht := ht.tr0 c19
 replace hb4 := hb4.tr0 c19
 replace hb8 := hb8.tr0 c19
 replace hb17 := hb17.tr0 c19
 generalize hcs : (if Lib.hasPrefix s [35] = true then List.drop (List.length [35]) s else s) = cs
 refine mv (v := .tuple ⟨[_, _]⟩) rfl <| Wp rfl <| st_extract (vs := [_, _]) (v := S _) rfl rfl <| Wp rfl <| st_extract (vs := [_, _]) (v := .bool _) rfl rfl <| aS rfl <| aB rfl <| en <| sr rfl <| mB rfl <| mB rfl <| w_split (d := 22) rfl (fun g20 => ?_) (fun g20 => ?_)
 ·try simp only [nm, ne_eq] at g20
  have hp0 : Lib.hasPrefix s [35] = true := by first | assumption | simp_all
  rw [if_pos hp0] at hcs
  replace hcs : s.drop 1 = cs := hcs
  have hcl := congrArg List.length hcs
  simp only [List.length_drop] at hcl
  refine w_yes 1 22 true <| st_move (v := S _) rfl <| w_yes 1 22 true <| st_call (ags := [_]) rfl rfl T.ent12 rfl (Param_spec cs _ (by omega)) ?_
  rintro _ w21 ⟨rfl, c22⟩
  replace HC := HC.then c22
  replace ht := ht.tr0 c22
  replace hb4 := hb4.tr0 c22
  replace hb8 := hb8.tr0 c22
  replace hb17 := hb17.tr0 c22
  refine pT rfl rfl <| en <| x_cond rfl (fun h0 => ?_) (fun h0 => ?_)
  ·try simp only [nm, ne_eq] at h0
   refine sr rfl <| mS rfl <| fa T.fld33_2 rfl <| Wp rfl <| st_store (v := S _) T.size9 rfl rfl rfl hb17 rfl (Nat.le_of_ble_eq_true rfl) (by simp [Value.oneCell', S]) rfl ?_
   intro w23 c24 hb25; simp only [setVs, setV] at hb25
   clear hb17
   replace HC := HC.then1 c24 ge_b6
   replace ht := ht.tr c24 (by intro hx; have := ht.lt; have := ht1; simp only [List.mem_cons, List.mem_nil_iff, or_false] at hx; omega)
   replace hb4 := hb4.tr1 c24 ne_b2_b6
   replace hb8 := hb8.tr1 c24 ne_b4_b6
   refine fa T.fld33_3 rfl <| Wp rfl <| st_store (v := S _) T.size9 rfl rfl rfl hb25 rfl (Nat.le_of_ble_eq_true rfl) (by simp [Value.oneCell', S]) rfl ?_
   intro w26 c27 hb28; simp only [setVs, setV] at hb28
   clear hb25
   replace HC := HC.then1 c27 ge_b6
   replace ht := ht.tr c27 (by intro hx; have := ht.lt; have := ht1; simp only [List.mem_cons, List.mem_nil_iff, or_false] at hx; omega)
   replace hb4 := hb4.tr1 c27 ne_b2_b6
   replace hb8 := hb8.tr1 c27 ne_b4_b6
   refine en <| sr rfl <| Wp rfl <| st_loadA (vs := [_, _, _, _, _, _]) T.agg33 rfl (hb28.cells (n := 6) (vs := [_, _, _, _, _, _]) rfl) rfl <| Wp rfl <| st_store (v := .agg ⟨[.int _ _, S _, S _, S _, S _, .bool _]⟩) T.size33 rfl rfl rfl hb8 rfl (Nat.le_of_ble_eq_true rfl) (by simp [Value.oneCell', S]) rfl ?_
   intro w29 c30 hb31; simp only [setVs, setV] at hb31
   clear hb8
   replace HC := HC.then1 c30 ge_b4
   replace ht := ht.tr c30 (by intro hx; have := ht.lt; have := ht1; simp only [List.mem_cons, List.mem_nil_iff, or_false] at hx; omega)
   replace hb4 := hb4.tr1 c30 ne_b2_b4
   replace hb28 := hb28.tr1 c30 (Ne.symm ne_b4_b6)
   refine aI rfl <| en <| x_ret <| then_r <| ret_many (vs := [.agg ⟨[_, _, _, _, _, _]⟩, .int _ _]) rfl ⟨⟨_, _, rfl, run_loadVarA T.agg33 (hb31.cells (n := 6) rfl) rfl⟩, ⟨rfl, trivial⟩⟩ (Nat.le_of_ble_eq_true rfl) <| ⟨?_, HC⟩
   rw [paramV, if_pos (by rw [hp0, hcs]; simp_all), hcs]
   try rfl
  ·try simp only [nm, ne_eq] at h0
   refine x_skip <| then_n <| sr rfl <| mS rfl <| Wp rfl <| st_call (ags := [_]) rfl rfl T.ent21 rfl (named_spec s _ (by omega)) ?_
   rintro _ w32 ⟨rfl, c33⟩
   replace HC := HC.then c33
   replace ht := ht.tr0 c33
   replace hb4 := hb4.tr0 c33
   replace hb8 := hb8.tr0 c33
   replace hb17 := hb17.tr0 c33
   refine aI rfl <| en <| sr rfl <| mS rfl <| mI rfl <| Wp rfl <| st_sshi (j := namedV s) T.u9 rfl ⟨_, rfl⟩ (by omega) <| fa T.fld33_2 rfl <| Wp rfl <| st_store (v := S _) T.size9 rfl rfl rfl hb17 rfl (Nat.le_of_ble_eq_true rfl) (by simp [Value.oneCell', S]) rfl ?_
   intro w34 c35 hb36; simp only [setVs, setV] at hb36
   clear hb17
   replace HC := HC.then1 c35 ge_b6
   replace ht := ht.tr c35 (by intro hx; have := ht.lt; have := ht1; simp only [List.mem_cons, List.mem_nil_iff, or_false] at hx; omega)
   replace hb4 := hb4.tr1 c35 ne_b2_b6
   replace hb8 := hb8.tr1 c35 ne_b4_b6
   refine en <| sr rfl <| mS rfl <| mI rfl <| Wp rfl <| st_sslo (i := namedV s) T.u9 rfl ⟨_, rfl⟩ (by omega) <| Wp rfl <| st_alloc T.zero9 ?_
   intro b10 w37 e38 c39 hb40
   have ge_b10 : w.heap.size ≤ b10 := by rw [e38]; exact HC.size
   have ne_b2_b10 : b2 ≠ b10 := by rw [e38]; exact hb4.ne_size
   have ne_b4_b10 : b4 ≠ b10 := by rw [e38]; exact hb8.ne_size
   have ne_b6_b10 : b6 ≠ b10 := by rw [e38]; exact hb36.ne_size
   replace HC := HC.then c39
   replace ht := ht.tr0 c39
   replace hb4 := hb4.tr0 c39
   replace hb8 := hb8.tr0 c39
   replace hb36 := hb36.tr0 c39
   clear e38
   refine Wp rfl <| st_store (v := S _) T.size9 rfl rfl rfl hb40 rfl (Nat.le_of_ble_eq_true rfl) (by simp [Value.oneCell', S]) rfl ?_
   intro w41 c42 hb43; simp only [setVs, setV] at hb43
   clear hb40
   replace HC := HC.then1 c42 ge_b10
   replace ht := ht.tr c42 (by intro hx; have := ht.lt; have := ht1; simp only [List.mem_cons, List.mem_nil_iff, or_false] at hx; omega)
   replace hb4 := hb4.tr1 c42 ne_b2_b10
   replace hb8 := hb8.tr1 c42 ne_b4_b10
   replace hb36 := hb36.tr1 c42 ne_b6_b10
   refine en <| x_seq <| x_block <| sr rfl <| mI rfl <| Wp rfl <| st_eql rfl rfl <| aB rfl <| en <| x_cond rfl (fun h1 => ?_) (fun h1 => ?_)
   ·try simp only [nm, ne_eq] at h1
    refine sr rfl <| Wp rfl <| st_bld (ps := []) (vs := [.int _ _, S _, S _, S _, S _, .bool _]) T.bld33 rfl <| Wp rfl <| st_store (v := .agg ⟨[.int _ _, S _, S _, S _, S _, .bool _]⟩) T.size33 rfl rfl rfl hb8 rfl (Nat.le_of_ble_eq_true rfl) (by simp [Value.oneCell', S]) rfl ?_
    intro w44 c45 hb46; simp only [setVs, setV] at hb46
    clear hb8
    replace HC := HC.then1 c45 ge_b4
    replace ht := ht.tr c45 (by intro hx; have := ht.lt; have := ht1; simp only [List.mem_cons, List.mem_nil_iff, or_false] at hx; omega)
    replace hb4 := hb4.tr1 c45 ne_b2_b4
    replace hb36 := hb36.tr1 c45 (Ne.symm ne_b4_b6)
    replace hb43 := hb43.tr1 c45 (Ne.symm ne_b4_b10)
    refine aI rfl <| en <| x_ret <| block_r <| then_r <| ret_many (vs := [.agg ⟨[_, _, _, _, _, _]⟩, .int _ _]) rfl ⟨⟨_, _, rfl, run_loadVarA T.agg33 (hb46.cells (n := 6) rfl) rfl⟩, ⟨rfl, trivial⟩⟩ (Nat.le_of_ble_eq_true rfl) <| ⟨?_, HC⟩
    rw [paramV, if_neg (by first | (rw [hp0]; simp; done) | (rw [hp0, hcs]; simp_all)), if_pos (by omega)]; rfl
    try rfl
   ·try simp only [nm, ne_eq] at h1
    have hn0 : ¬ namedV s = 0 := by omega
    refine sr rfl <| lS T.one9 rfl (hb43.cell rfl) <| Wp rfl <| st_seql rfl rfl <| aB rfl <| en <| x_cond rfl (fun h2 => ?_) (fun h2 => ?_)
    ·try simp only [nm, ne_eq] at h2
     refine sr rfl <| Wp rfl <| st_loadA (vs := [_, _, _, _, _, _]) T.agg33 rfl (hb36.cells (n := 6) (vs := [_, _, _, _, _, _]) rfl) rfl <| Wp rfl <| st_store (v := .agg ⟨[.int _ _, S _, S _, S _, S _, .bool _]⟩) T.size33 rfl rfl rfl hb8 rfl (Nat.le_of_ble_eq_true rfl) (by simp [Value.oneCell', S]) rfl ?_
     intro w47 c48 hb49; simp only [setVs, setV] at hb49
     clear hb8
     replace HC := HC.then1 c48 ge_b4
     replace ht := ht.tr c48 (by intro hx; have := ht.lt; have := ht1; simp only [List.mem_cons, List.mem_nil_iff, or_false] at hx; omega)
     replace hb4 := hb4.tr1 c48 ne_b2_b4
     replace hb36 := hb36.tr1 c48 (Ne.symm ne_b4_b6)
     replace hb43 := hb43.tr1 c48 (Ne.symm ne_b4_b10)
     refine aI rfl <| en <| x_ret <| block_r <| then_r <| ret_many (vs := [.agg ⟨[_, _, _, _, _, _]⟩, .int _ _]) rfl ⟨⟨_, _, rfl, run_loadVarA T.agg33 (hb49.cells (n := 6) rfl) rfl⟩, ⟨rfl, trivial⟩⟩ (Nat.le_of_ble_eq_true rfl) <| ⟨?_, HC⟩
     rw [paramV, if_neg (by first | (rw [hp0]; simp; done) | (rw [hp0, hcs]; simp_all)), if_neg hn0, if_pos h2]
     try rfl
    ·try simp only [nm, ne_eq] at h2
     refine x_skip <| block_n <| then_n <| sr rfl <| Wp rfl <| st_call (ags := [_]) rfl rfl T.ent96 rfl (Fields_spec [58, 45, 32, 58, 61, 32, 58, 63, 32, 58, 43, 32, 37, 37, 32, 35, 35, 32, 45, 32, 61, 32, 63, 32, 43, 32, 37, 32, 35] _ (by decide) (all128 _ rfl) ht) ?_
     rintro _ w50 ⟨bf, rfl, hgf, hsf, c51⟩
     rw [fields_opsP] at hsf ⊢
     have ge_bf : w.heap.size ≤ bf := Nat.le_trans HC.size hgf
     have ne_b2_bf : b2 ≠ bf := Nat.ne_of_lt (Nat.lt_of_lt_of_le hb4.lt hgf)
     have ne_b4_bf : b4 ≠ bf := Nat.ne_of_lt (Nat.lt_of_lt_of_le hb8.lt hgf)
     have ne_b6_bf : b6 ≠ bf := Nat.ne_of_lt (Nat.lt_of_lt_of_le hb36.lt hgf)
     have ne_b10_bf : b10 ≠ bf := Nat.ne_of_lt (Nat.lt_of_lt_of_le hb43.lt hgf)
     replace HC := HC.then c51
     replace ht := ht.tr0 c51
     replace hb4 := hb4.tr0 c51
     replace hb8 := hb8.tr0 c51
     replace hb36 := hb36.tr0 c51
     replace hb43 := hb43.tr0 c51
     refine aL rfl <| en <| sr rfl <| mL rfl <| Wp rfl <| st_makeFunc <| Wp rfl <| st_call (ags := [_, _]) rfl rfl T.ent70 rfl (IndexFunc_spec (q := preP (s.drop (namedV s))) hsf (by decide) T.ent105 (fun c W hc => param1_spec c (hb43.tr0 hc))) ?_
     rintro _ w52 ⟨rfl, c53⟩
     replace HC := HC.then c53
     replace ht := ht.tr0 c53
     replace hb4 := hb4.tr0 c53
     replace hb8 := hb8.tr0 c53
     replace hb36 := hb36.tr0 c53
     replace hb43 := hb43.tr0 c53
     replace hsf := hsf.tr0 c53
     refine aI rfl <| en <| x_seq <| sr rfl <| mI rfl <| Wp rfl <| st_lss rfl rfl <| en <| x_cond rfl (fun h3 => ?_) (fun h3 => ?_)
     ·try simp only [nm, ne_eq] at h3
      refine sr rfl <| Wp rfl <| st_bld (ps := []) (vs := [.int _ _, S _, S _, S _, S _, .bool _]) T.bld33 rfl <| Wp rfl <| st_store (v := .agg ⟨[.int _ _, S _, S _, S _, S _, .bool _]⟩) T.size33 rfl rfl rfl hb8 rfl (Nat.le_of_ble_eq_true rfl) (by simp [Value.oneCell', S]) rfl ?_
      intro w54 c55 hb56; simp only [setVs, setV] at hb56
      clear hb8
      replace HC := HC.then1 c55 ge_b4
      replace ht := ht.tr c55 (by intro hx; have := ht.lt; have := ht1; simp only [List.mem_cons, List.mem_nil_iff, or_false] at hx; omega)
      replace hb4 := hb4.tr1 c55 ne_b2_b4
      replace hb36 := hb36.tr1 c55 (Ne.symm ne_b4_b6)
      replace hb43 := hb43.tr1 c55 (Ne.symm ne_b4_b10)
      replace hsf := hsf.tr c55 (by intro k hx hD; simp only [List.mem_singleton] at hx; subst hx; exact absurd (hD : _ = bf) (by assumption))
      refine aI rfl <| en <| x_ret <| then_r <| ret_many (vs := [.agg ⟨[_, _, _, _, _, _]⟩, .int _ _]) rfl ⟨⟨_, _, rfl, run_loadVarA T.agg33 (hb56.cells (n := 6) rfl) rfl⟩, ⟨rfl, trivial⟩⟩ (Nat.le_of_ble_eq_true rfl) <| ⟨?_, HC⟩
      rw [paramV, if_neg (by first | (rw [hp0]; simp; done) | (rw [hp0, hcs]; simp_all)), if_neg hn0, if_neg h2, if_pos h3]; rfl
      try rfl
     ·try simp only [nm, ne_eq] at h3
      obtain ⟨j, hje, hjl, hjq⟩ := findN_pos h3
      rw [Nat.zero_add] at hje
      rw [hje]
      refine x_skip <| then_n <| x_seq ?_
      obtain ⟨x57, hx58⟩ : ∃ zz, opsP[j]? = some zz := ⟨_, List.getElem?_eq_getElem (by omega)⟩
      obtain ⟨lb63, _, vs62, hA59, hR61, hC60⟩ := hsf.at hx58
      obtain rfl : vs62 = [S x57] := hR61
      obtain ⟨x64, hx65⟩ : ∃ zz, opsP[j]? = some zz := ⟨_, List.getElem?_eq_getElem (by omega)⟩
      obtain ⟨lb70, _, vs69, hA66, hR68, hC67⟩ := hsf.at hx65
      obtain rfl : vs69 = [S x64] := hR68
      refine x_draw [(0, 0), (1, 0), (2, 0), (3, 0), (4, 0), (5, 0), (6, 0), (7, 0), (8, 0), (9, 0), (10, 0), (11, 0), (12, 1), (13, 0), (14, 2)] T.mixed rfl rfl rfl (fun W => W.heap[b2]? = w52.heap[b2]? ∧ W.heap[b4]? = w52.heap[b4]? ∧ W.heap[b10]? = w52.heap[b10]? ∧ W.heap[lb63]? = w52.heap[lb63]? ∧ W.heap[lb70]? = w52.heap[lb70]? ∧ True) ⟨rfl, rfl, rfl, rfl, rfl, trivial⟩ ?_
      have o73 := hb4
      have o74 := hb8
      have o75 := hb43
      have c72 := Chg.drew w52
      generalize World.drew w52 = w71 at c72 ⊢
      have ht_lb63 : lb63 < w71.heap.size ∧ w71.heap[lb63]? = w52.heap[lb63]? := ⟨Nat.lt_of_lt_of_le hC60.lt c72.size, c72.block lb63 hC60.lt (by simp)⟩
      have ht_lb70 : lb70 < w71.heap.size ∧ w71.heap[lb70]? = w52.heap[lb70]? := ⟨Nat.lt_of_lt_of_le hC67.lt c72.size, c72.block lb70 hC67.lt (by simp)⟩
      replace HC := HC.then c72
      replace ht := ht.tr0 c72
      replace hb4 := hb4.tr0 c72
      replace hb8 := hb8.tr0 c72
      replace hb36 := hb36.tr0 c72
      replace hb43 := hb43.tr0 c72
      replace hsf := hsf.tr0 c72
      obtain rfl : x57 = x64 := Option.some.inj (hx58.symm.trans hx65)
      have hpl := pre_len (s := (s.drop (namedV s))) (p := x57) (by rw [← getD_at hx58]; exact hjq)
      refine sq_q rfl (fun W hT => r_move (v := .slice _ _ _) rfl) <| sq_q rfl (fun W hT => r_move (v := .int _ _) rfl) <| sq_q rfl (fun W hT => r_indexAddr T.u109 T.size9 (congrArg (fun z => Value.slice z _ _) hA59) rfl (by omega) (by omega)) <| sq_q rfl (fun W hT => r_load1 (v := S _) T.one9 rfl (Cells.at (j := 0) (Cells.tr hC60 hT.2.2.2.1) rfl)) <| sq_q rfl (fun W hT => r_load1 (v := S _) T.one9 rfl (Blk.cell (show Blk W b10 _ _ from hT.2.2.1.trans o75) rfl)) <| sq_q rfl (fun W hT => r_move (v := .slice _ _ _) rfl) <| sq_q rfl (fun W hT => r_move (v := .int _ _) rfl) <| sq_q rfl (fun W hT => r_indexAddr T.u109 T.size9 (congrArg (fun z => Value.slice z _ _) hA66) rfl (by omega) (by omega)) <| sq_q rfl (fun W hT => r_load1 (v := S _) T.one9 rfl (Cells.at (j := 0) (Cells.tr hC67 hT.2.2.2.2.1) rfl)) <| sq_q rfl (fun W hT => r_slen (ct := #[9]) T.u9 rfl) <| sq_q rfl (fun W hT => r_sslo (i := _) T.u9 rfl ⟨_, rfl⟩ (by omega)) <| sq_q rfl (fun W hT => r_fieldAddr T.fld33_3 rfl) <| sq_store1 rfl T.size9 (v := S _) rfl rfl rfl hb36 rfl (Nat.le_of_ble_eq_true rfl) (by simp [Value.oneCell', S]) rfl ?_
      intro w76 c77 hb78; simp only [setVs, setV] at hb78
      clear hb36
      replace HC := HC.then1 c77 ge_b6
      replace ht := ht.tr c77 (by intro hx; have := ht.lt; have := ht1; simp only [List.mem_cons, List.mem_nil_iff, or_false] at hx; omega)
      replace hb4 := hb4.tr1 c77 ne_b2_b6
      replace hb8 := hb8.tr1 c77 ne_b4_b6
      replace hb43 := hb43.tr1 c77 (Ne.symm ne_b6_b10)
      replace hsf := hsf.tr c77 (by intro k hx hD; simp only [List.mem_singleton] at hx; subst hx; exact absurd (hD : _ = bf) (by assumption))
      replace ht_lb63 := And.intro (Nat.lt_of_lt_of_le ht_lb63.1 c77.size) ((c77.block lb63 ht_lb63.1 (by intro hx; have hD := hA59; simp only [List.mem_cons, List.mem_nil_iff, or_false, Option.some.injEq, Addr.mk.injEq] at hx hD; omega)).trans ht_lb63.2)
      replace ht_lb70 := And.intro (Nat.lt_of_lt_of_le ht_lb70.1 c77.size) ((c77.block lb70 ht_lb70.1 (by intro hx; have hD := hA66; simp only [List.mem_cons, List.mem_nil_iff, or_false, Option.some.injEq, Addr.mk.injEq] at hx hD; omega)).trans ht_lb70.2)
      refine ⟨_, fun _ h => h, ⟨(Eq.trans hb4 o73.symm), (Eq.trans hb8 o74.symm), (Eq.trans hb43 o75.symm), (by first | assumption | exact ht_lb63.2), (by first | assumption | exact ht_lb70.2), trivial⟩, ?_⟩
      refine sq_q rfl (fun W hT => r_fieldAddr T.fld33_4 rfl) <| sq_store2 rfl T.size9 (v := S _) rfl rfl rfl hb78 rfl (Nat.le_of_ble_eq_true rfl) (by simp [Value.oneCell', S]) rfl ?_
      intro w79 c80 hb81; simp only [setVs, setV] at hb81
      clear hb78
      replace HC := HC.then1 c80 ge_b6
      replace ht := ht.tr c80 (by intro hx; have := ht.lt; have := ht1; simp only [List.mem_cons, List.mem_nil_iff, or_false] at hx; omega)
      replace hb4 := hb4.tr1 c80 ne_b2_b6
      replace hb8 := hb8.tr1 c80 ne_b4_b6
      replace hb43 := hb43.tr1 c80 (Ne.symm ne_b6_b10)
      replace hsf := hsf.tr c80 (by intro k hx hD; simp only [List.mem_singleton] at hx; subst hx; exact absurd (hD : _ = bf) (by assumption))
      replace ht_lb63 := And.intro (Nat.lt_of_lt_of_le ht_lb63.1 c80.size) ((c80.block lb63 ht_lb63.1 (by intro hx; have hD := hA59; simp only [List.mem_cons, List.mem_nil_iff, or_false, Option.some.injEq, Addr.mk.injEq] at hx hD; omega)).trans ht_lb63.2)
      replace ht_lb70 := And.intro (Nat.lt_of_lt_of_le ht_lb70.1 c80.size) ((c80.block lb70 ht_lb70.1 (by intro hx; have hD := hA66; simp only [List.mem_cons, List.mem_nil_iff, or_false, Option.some.injEq, Addr.mk.injEq] at hx hD; omega)).trans ht_lb70.2)
      clear o73
      clear o74
      clear o75
      refine sq_nil <| then_n <| sr rfl <| Wp rfl <| st_loadA (vs := [_, _, _, _, _, _]) T.agg33 rfl (hb81.cells (n := 6) (vs := [_, _, _, _, _, _]) rfl) rfl <| Wp rfl <| st_store (v := .agg ⟨[.int _ _, S _, S _, S _, S _, .bool _]⟩) T.size33 rfl rfl rfl hb8 rfl (Nat.le_of_ble_eq_true rfl) (by simp [Value.oneCell', S]) rfl ?_
      intro w82 c83 hb84; simp only [setVs, setV] at hb84
      clear hb8
      replace HC := HC.then1 c83 ge_b4
      replace ht := ht.tr c83 (by intro hx; have := ht.lt; have := ht1; simp only [List.mem_cons, List.mem_nil_iff, or_false] at hx; omega)
      replace hb4 := hb4.tr1 c83 ne_b2_b4
      replace hb43 := hb43.tr1 c83 (Ne.symm ne_b4_b10)
      replace hsf := hsf.tr c83 (by intro k hx hD; simp only [List.mem_singleton] at hx; subst hx; exact absurd (hD : _ = bf) (by assumption))
      replace hb81 := hb81.tr1 c83 (Ne.symm ne_b4_b6)
      refine aI rfl <| en <| x_ret <| ret_many (vs := [.agg ⟨[_, _, _, _, _, _]⟩, .int _ _]) rfl ⟨⟨_, _, rfl, run_loadVarA T.agg33 (hb84.cells (n := 6) rfl) rfl⟩, ⟨rfl, trivial⟩⟩ (Nat.le_of_ble_eq_true rfl) <| ⟨?_, HC⟩
      rw [paramV, if_neg (by first | (rw [hp0]; simp; done) | (rw [hp0, hcs]; simp_all)), if_neg hn0, if_neg h2, if_neg h3, hje, Int.toNat_natCast, getD_at hx58]
      try rfl
 ·try simp only [nm, ne_eq] at g20
  have hp0 : Lib.hasPrefix s [35] = false := by first | assumption | simp_all
  refine w_no 1 22 true <| w_no 1 22 true <| pF rfl rfl <| en <| x_cond (t := false) rfl (fun h0 => ?_) (fun h0 => ?_)
  · exact absurd h0 (by decide)
  refine x_skip <| then_n <| sr rfl <| mS rfl <| Wp rfl <| st_call (ags := [_]) rfl rfl T.ent21 rfl (named_spec s _ (by omega)) ?_
  rintro _ w85 ⟨rfl, c86⟩
  replace HC := HC.then c86
  replace ht := ht.tr0 c86
  replace hb4 := hb4.tr0 c86
  replace hb8 := hb8.tr0 c86
  replace hb17 := hb17.tr0 c86
  refine aI rfl <| en <| sr rfl <| mS rfl <| mI rfl <| Wp rfl <| st_sshi (j := namedV s) T.u9 rfl ⟨_, rfl⟩ (by omega) <| fa T.fld33_2 rfl <| Wp rfl <| st_store (v := S _) T.size9 rfl rfl rfl hb17 rfl (Nat.le_of_ble_eq_true rfl) (by simp [Value.oneCell', S]) rfl ?_
  intro w87 c88 hb89; simp only [setVs, setV] at hb89
  clear hb17
  replace HC := HC.then1 c88 ge_b6
  replace ht := ht.tr c88 (by intro hx; have := ht.lt; have := ht1; simp only [List.mem_cons, List.mem_nil_iff, or_false] at hx; omega)
  replace hb4 := hb4.tr1 c88 ne_b2_b6
  replace hb8 := hb8.tr1 c88 ne_b4_b6
  refine en <| sr rfl <| mS rfl <| mI rfl <| Wp rfl <| st_sslo (i := namedV s) T.u9 rfl ⟨_, rfl⟩ (by omega) <| Wp rfl <| st_alloc T.zero9 ?_
  intro b10 w90 e91 c92 hb93
  have ge_b10 : w.heap.size ≤ b10 := by rw [e91]; exact HC.size
  have ne_b2_b10 : b2 ≠ b10 := by rw [e91]; exact hb4.ne_size
  have ne_b4_b10 : b4 ≠ b10 := by rw [e91]; exact hb8.ne_size
  have ne_b6_b10 : b6 ≠ b10 := by rw [e91]; exact hb89.ne_size
  replace HC := HC.then c92
  replace ht := ht.tr0 c92
  replace hb4 := hb4.tr0 c92
  replace hb8 := hb8.tr0 c92
  replace hb89 := hb89.tr0 c92
  clear e91
  refine Wp rfl <| st_store (v := S _) T.size9 rfl rfl rfl hb93 rfl (Nat.le_of_ble_eq_true rfl) (by simp [Value.oneCell', S]) rfl ?_
  intro w94 c95 hb96; simp only [setVs, setV] at hb96
  clear hb93
  replace HC := HC.then1 c95 ge_b10
  replace ht := ht.tr c95 (by intro hx; have := ht.lt; have := ht1; simp only [List.mem_cons, List.mem_nil_iff, or_false] at hx; omega)
  replace hb4 := hb4.tr1 c95 ne_b2_b10
  replace hb8 := hb8.tr1 c95 ne_b4_b10
  replace hb89 := hb89.tr1 c95 ne_b6_b10
  refine en <| x_seq <| x_block <| sr rfl <| mI rfl <| Wp rfl <| st_eql rfl rfl <| aB rfl <| en <| x_cond rfl (fun h1 => ?_) (fun h1 => ?_)
  ·try simp only [nm, ne_eq] at h1
   refine sr rfl <| Wp rfl <| st_bld (ps := []) (vs := [.int _ _, S _, S _, S _, S _, .bool _]) T.bld33 rfl <| Wp rfl <| st_store (v := .agg ⟨[.int _ _, S _, S _, S _, S _, .bool _]⟩) T.size33 rfl rfl rfl hb8 rfl (Nat.le_of_ble_eq_true rfl) (by simp [Value.oneCell', S]) rfl ?_
   intro w97 c98 hb99; simp only [setVs, setV] at hb99
   clear hb8
   replace HC := HC.then1 c98 ge_b4
   replace ht := ht.tr c98 (by intro hx; have := ht.lt; have := ht1; simp only [List.mem_cons, List.mem_nil_iff, or_false] at hx; omega)
   replace hb4 := hb4.tr1 c98 ne_b2_b4
   replace hb89 := hb89.tr1 c98 (Ne.symm ne_b4_b6)
   replace hb96 := hb96.tr1 c98 (Ne.symm ne_b4_b10)
   refine aI rfl <| en <| x_ret <| block_r <| then_r <| ret_many (vs := [.agg ⟨[_, _, _, _, _, _]⟩, .int _ _]) rfl ⟨⟨_, _, rfl, run_loadVarA T.agg33 (hb99.cells (n := 6) rfl) rfl⟩, ⟨rfl, trivial⟩⟩ (Nat.le_of_ble_eq_true rfl) <| ⟨?_, HC⟩
   rw [paramV, if_neg (by first | (rw [hp0]; simp; done) | (rw [hp0, hcs]; simp_all)), if_pos (by omega)]; rfl
   try rfl
  ·try simp only [nm, ne_eq] at h1
   have hn0 : ¬ namedV s = 0 := by omega
   refine sr rfl <| lS T.one9 rfl (hb96.cell rfl) <| Wp rfl <| st_seql rfl rfl <| aB rfl <| en <| x_cond rfl (fun h2 => ?_) (fun h2 => ?_)
   ·try simp only [nm, ne_eq] at h2
    refine sr rfl <| Wp rfl <| st_loadA (vs := [_, _, _, _, _, _]) T.agg33 rfl (hb89.cells (n := 6) (vs := [_, _, _, _, _, _]) rfl) rfl <| Wp rfl <| st_store (v := .agg ⟨[.int _ _, S _, S _, S _, S _, .bool _]⟩) T.size33 rfl rfl rfl hb8 rfl (Nat.le_of_ble_eq_true rfl) (by simp [Value.oneCell', S]) rfl ?_
    intro w100 c101 hb102; simp only [setVs, setV] at hb102
    clear hb8
    replace HC := HC.then1 c101 ge_b4
    replace ht := ht.tr c101 (by intro hx; have := ht.lt; have := ht1; simp only [List.mem_cons, List.mem_nil_iff, or_false] at hx; omega)
    replace hb4 := hb4.tr1 c101 ne_b2_b4
    replace hb89 := hb89.tr1 c101 (Ne.symm ne_b4_b6)
    replace hb96 := hb96.tr1 c101 (Ne.symm ne_b4_b10)
    refine aI rfl <| en <| x_ret <| block_r <| then_r <| ret_many (vs := [.agg ⟨[_, _, _, _, _, _]⟩, .int _ _]) rfl ⟨⟨_, _, rfl, run_loadVarA T.agg33 (hb102.cells (n := 6) rfl) rfl⟩, ⟨rfl, trivial⟩⟩ (Nat.le_of_ble_eq_true rfl) <| ⟨?_, HC⟩
    rw [paramV, if_neg (by first | (rw [hp0]; simp; done) | (rw [hp0, hcs]; simp_all)), if_neg hn0, if_pos h2]
    try rfl
   ·try simp only [nm, ne_eq] at h2
    refine x_skip <| block_n <| then_n <| sr rfl <| Wp rfl <| st_call (ags := [_]) rfl rfl T.ent96 rfl (Fields_spec [58, 45, 32, 58, 61, 32, 58, 63, 32, 58, 43, 32, 37, 37, 32, 35, 35, 32, 45, 32, 61, 32, 63, 32, 43, 32, 37, 32, 35] _ (by decide) (all128 _ rfl) ht) ?_
    rintro _ w103 ⟨bf, rfl, hgf, hsf, c104⟩
    rw [fields_opsP] at hsf ⊢
    have ge_bf : w.heap.size ≤ bf := Nat.le_trans HC.size hgf
    have ne_b2_bf : b2 ≠ bf := Nat.ne_of_lt (Nat.lt_of_lt_of_le hb4.lt hgf)
    have ne_b4_bf : b4 ≠ bf := Nat.ne_of_lt (Nat.lt_of_lt_of_le hb8.lt hgf)
    have ne_b6_bf : b6 ≠ bf := Nat.ne_of_lt (Nat.lt_of_lt_of_le hb89.lt hgf)
    have ne_b10_bf : b10 ≠ bf := Nat.ne_of_lt (Nat.lt_of_lt_of_le hb96.lt hgf)
    replace HC := HC.then c104
    replace ht := ht.tr0 c104
    replace hb4 := hb4.tr0 c104
    replace hb8 := hb8.tr0 c104
    replace hb89 := hb89.tr0 c104
    replace hb96 := hb96.tr0 c104
    refine aL rfl <| en <| sr rfl <| mL rfl <| Wp rfl <| st_makeFunc <| Wp rfl <| st_call (ags := [_, _]) rfl rfl T.ent70 rfl (IndexFunc_spec (q := preP (s.drop (namedV s))) hsf (by decide) T.ent105 (fun c W hc => param1_spec c (hb96.tr0 hc))) ?_
    rintro _ w105 ⟨rfl, c106⟩
    replace HC := HC.then c106
    replace ht := ht.tr0 c106
    replace hb4 := hb4.tr0 c106
    replace hb8 := hb8.tr0 c106
    replace hb89 := hb89.tr0 c106
    replace hb96 := hb96.tr0 c106
    replace hsf := hsf.tr0 c106
    refine aI rfl <| en <| x_seq <| sr rfl <| mI rfl <| Wp rfl <| st_lss rfl rfl <| en <| x_cond rfl (fun h3 => ?_) (fun h3 => ?_)
    ·try simp only [nm, ne_eq] at h3
     refine sr rfl <| Wp rfl <| st_bld (ps := []) (vs := [.int _ _, S _, S _, S _, S _, .bool _]) T.bld33 rfl <| Wp rfl <| st_store (v := .agg ⟨[.int _ _, S _, S _, S _, S _, .bool _]⟩) T.size33 rfl rfl rfl hb8 rfl (Nat.le_of_ble_eq_true rfl) (by simp [Value.oneCell', S]) rfl ?_
     intro w107 c108 hb109; simp only [setVs, setV] at hb109
     clear hb8
     replace HC := HC.then1 c108 ge_b4
     replace ht := ht.tr c108 (by intro hx; have := ht.lt; have := ht1; simp only [List.mem_cons, List.mem_nil_iff, or_false] at hx; omega)
     replace hb4 := hb4.tr1 c108 ne_b2_b4
     replace hb89 := hb89.tr1 c108 (Ne.symm ne_b4_b6)
     replace hb96 := hb96.tr1 c108 (Ne.symm ne_b4_b10)
     replace hsf := hsf.tr c108 (by intro k hx hD; simp only [List.mem_singleton] at hx; subst hx; exact absurd (hD : _ = bf) (by assumption))
     refine aI rfl <| en <| x_ret <| then_r <| ret_many (vs := [.agg ⟨[_, _, _, _, _, _]⟩, .int _ _]) rfl ⟨⟨_, _, rfl, run_loadVarA T.agg33 (hb109.cells (n := 6) rfl) rfl⟩, ⟨rfl, trivial⟩⟩ (Nat.le_of_ble_eq_true rfl) <| ⟨?_, HC⟩
     rw [paramV, if_neg (by first | (rw [hp0]; simp; done) | (rw [hp0, hcs]; simp_all)), if_neg hn0, if_neg h2, if_pos h3]; rfl
     try rfl
    ·try simp only [nm, ne_eq] at h3
     obtain ⟨j, hje, hjl, hjq⟩ := findN_pos h3
     rw [Nat.zero_add] at hje
     rw [hje]
     refine x_skip <| then_n <| x_seq ?_
     obtain ⟨x110, hx111⟩ : ∃ zz, opsP[j]? = some zz := ⟨_, List.getElem?_eq_getElem (by omega)⟩
     obtain ⟨lb116, _, vs115, hA112, hR114, hC113⟩ := hsf.at hx111
     obtain rfl : vs115 = [S x110] := hR114
     obtain ⟨x117, hx118⟩ : ∃ zz, opsP[j]? = some zz := ⟨_, List.getElem?_eq_getElem (by omega)⟩
     obtain ⟨lb123, _, vs122, hA119, hR121, hC120⟩ := hsf.at hx118
     obtain rfl : vs122 = [S x117] := hR121
     refine x_draw [(0, 0), (1, 0), (2, 0), (3, 0), (4, 0), (5, 0), (6, 0), (7, 0), (8, 0), (9, 0), (10, 0), (11, 0), (12, 1), (13, 0), (14, 2)] T.mixed rfl rfl rfl (fun W => W.heap[b2]? = w105.heap[b2]? ∧ W.heap[b4]? = w105.heap[b4]? ∧ W.heap[b10]? = w105.heap[b10]? ∧ W.heap[lb116]? = w105.heap[lb116]? ∧ W.heap[lb123]? = w105.heap[lb123]? ∧ True) ⟨rfl, rfl, rfl, rfl, rfl, trivial⟩ ?_
     have o126 := hb4
     have o127 := hb8
     have o128 := hb96
     have c125 := Chg.drew w105
     generalize World.drew w105 = w124 at c125 ⊢
     have ht_lb116 : lb116 < w124.heap.size ∧ w124.heap[lb116]? = w105.heap[lb116]? := ⟨Nat.lt_of_lt_of_le hC113.lt c125.size, c125.block lb116 hC113.lt (by simp)⟩
     have ht_lb123 : lb123 < w124.heap.size ∧ w124.heap[lb123]? = w105.heap[lb123]? := ⟨Nat.lt_of_lt_of_le hC120.lt c125.size, c125.block lb123 hC120.lt (by simp)⟩
     replace HC := HC.then c125
     replace ht := ht.tr0 c125
     replace hb4 := hb4.tr0 c125
     replace hb8 := hb8.tr0 c125
     replace hb89 := hb89.tr0 c125
     replace hb96 := hb96.tr0 c125
     replace hsf := hsf.tr0 c125
     obtain rfl : x110 = x117 := Option.some.inj (hx111.symm.trans hx118)
     have hpl := pre_len (s := (s.drop (namedV s))) (p := x110) (by rw [← getD_at hx111]; exact hjq)
     refine sq_q rfl (fun W hT => r_move (v := .slice _ _ _) rfl) <| sq_q rfl (fun W hT => r_move (v := .int _ _) rfl) <| sq_q rfl (fun W hT => r_indexAddr T.u109 T.size9 (congrArg (fun z => Value.slice z _ _) hA112) rfl (by omega) (by omega)) <| sq_q rfl (fun W hT => r_load1 (v := S _) T.one9 rfl (Cells.at (j := 0) (Cells.tr hC113 hT.2.2.2.1) rfl)) <| sq_q rfl (fun W hT => r_load1 (v := S _) T.one9 rfl (Blk.cell (show Blk W b10 _ _ from hT.2.2.1.trans o128) rfl)) <| sq_q rfl (fun W hT => r_move (v := .slice _ _ _) rfl) <| sq_q rfl (fun W hT => r_move (v := .int _ _) rfl) <| sq_q rfl (fun W hT => r_indexAddr T.u109 T.size9 (congrArg (fun z => Value.slice z _ _) hA119) rfl (by omega) (by omega)) <| sq_q rfl (fun W hT => r_load1 (v := S _) T.one9 rfl (Cells.at (j := 0) (Cells.tr hC120 hT.2.2.2.2.1) rfl)) <| sq_q rfl (fun W hT => r_slen (ct := #[9]) T.u9 rfl) <| sq_q rfl (fun W hT => r_sslo (i := _) T.u9 rfl ⟨_, rfl⟩ (by omega)) <| sq_q rfl (fun W hT => r_fieldAddr T.fld33_3 rfl) <| sq_store1 rfl T.size9 (v := S _) rfl rfl rfl hb89 rfl (Nat.le_of_ble_eq_true rfl) (by simp [Value.oneCell', S]) rfl ?_
     intro w129 c130 hb131; simp only [setVs, setV] at hb131
     clear hb89
     replace HC := HC.then1 c130 ge_b6
     replace ht := ht.tr c130 (by intro hx; have := ht.lt; have := ht1; simp only [List.mem_cons, List.mem_nil_iff, or_false] at hx; omega)
     replace hb4 := hb4.tr1 c130 ne_b2_b6
     replace hb8 := hb8.tr1 c130 ne_b4_b6
     replace hb96 := hb96.tr1 c130 (Ne.symm ne_b6_b10)
     replace hsf := hsf.tr c130 (by intro k hx hD; simp only [List.mem_singleton] at hx; subst hx; exact absurd (hD : _ = bf) (by assumption))
     replace ht_lb116 := And.intro (Nat.lt_of_lt_of_le ht_lb116.1 c130.size) ((c130.block lb116 ht_lb116.1 (by intro hx; have hD := hA112; simp only [List.mem_cons, List.mem_nil_iff, or_false, Option.some.injEq, Addr.mk.injEq] at hx hD; omega)).trans ht_lb116.2)
     replace ht_lb123 := And.intro (Nat.lt_of_lt_of_le ht_lb123.1 c130.size) ((c130.block lb123 ht_lb123.1 (by intro hx; have hD := hA119; simp only [List.mem_cons, List.mem_nil_iff, or_false, Option.some.injEq, Addr.mk.injEq] at hx hD; omega)).trans ht_lb123.2)
     refine ⟨_, fun _ h => h, ⟨(Eq.trans hb4 o126.symm), (Eq.trans hb8 o127.symm), (Eq.trans hb96 o128.symm), (by first | assumption | exact ht_lb116.2), (by first | assumption | exact ht_lb123.2), trivial⟩, ?_⟩
     refine sq_q rfl (fun W hT => r_fieldAddr T.fld33_4 rfl) <| sq_store2 rfl T.size9 (v := S _) rfl rfl rfl hb131 rfl (Nat.le_of_ble_eq_true rfl) (by simp [Value.oneCell', S]) rfl ?_
     intro w132 c133 hb134; simp only [setVs, setV] at hb134
     clear hb131
     replace HC := HC.then1 c133 ge_b6
     replace ht := ht.tr c133 (by intro hx; have := ht.lt; have := ht1; simp only [List.mem_cons, List.mem_nil_iff, or_false] at hx; omega)
     replace hb4 := hb4.tr1 c133 ne_b2_b6
     replace hb8 := hb8.tr1 c133 ne_b4_b6
     replace hb96 := hb96.tr1 c133 (Ne.symm ne_b6_b10)
     replace hsf := hsf.tr c133 (by intro k hx hD; simp only [List.mem_singleton] at hx; subst hx; exact absurd (hD : _ = bf) (by assumption))
     replace ht_lb116 := And.intro (Nat.lt_of_lt_of_le ht_lb116.1 c133.size) ((c133.block lb116 ht_lb116.1 (by intro hx; have hD := hA112; simp only [List.mem_cons, List.mem_nil_iff, or_false, Option.some.injEq, Addr.mk.injEq] at hx hD; omega)).trans ht_lb116.2)
     replace ht_lb123 := And.intro (Nat.lt_of_lt_of_le ht_lb123.1 c133.size) ((c133.block lb123 ht_lb123.1 (by intro hx; have hD := hA119; simp only [List.mem_cons, List.mem_nil_iff, or_false, Option.some.injEq, Addr.mk.injEq] at hx hD; omega)).trans ht_lb123.2)
     clear o126
     clear o127
     clear o128
     refine sq_nil <| then_n <| sr rfl <| Wp rfl <| st_loadA (vs := [_, _, _, _, _, _]) T.agg33 rfl (hb134.cells (n := 6) (vs := [_, _, _, _, _, _]) rfl) rfl <| Wp rfl <| st_store (v := .agg ⟨[.int _ _, S _, S _, S _, S _, .bool _]⟩) T.size33 rfl rfl rfl hb8 rfl (Nat.le_of_ble_eq_true rfl) (by simp [Value.oneCell', S]) rfl ?_
     intro w135 c136 hb137; simp only [setVs, setV] at hb137
     clear hb8
     replace HC := HC.then1 c136 ge_b4
     replace ht := ht.tr c136 (by intro hx; have := ht.lt; have := ht1; simp only [List.mem_cons, List.mem_nil_iff, or_false] at hx; omega)
     replace hb4 := hb4.tr1 c136 ne_b2_b4
     replace hb96 := hb96.tr1 c136 (Ne.symm ne_b4_b10)
     replace hsf := hsf.tr c136 (by intro k hx hD; simp only [List.mem_singleton] at hx; subst hx; exact absurd (hD : _ = bf) (by assumption))
     replace hb134 := hb134.tr1 c136 (Ne.symm ne_b4_b6)
     refine aI rfl <| en <| x_ret <| ret_many (vs := [.agg ⟨[_, _, _, _, _, _]⟩, .int _ _]) rfl ⟨⟨_, _, rfl, run_loadVarA T.agg33 (hb137.cells (n := 6) rfl) rfl⟩, ⟨rfl, trivial⟩⟩ (Nat.le_of_ble_eq_true rfl) <| ⟨?_, HC⟩
     rw [paramV, if_neg (by first | (rw [hp0]; simp; done) | (rw [hp0, hcs]; simp_all)), if_neg hn0, if_neg h2, if_neg h3, hje, Int.toNat_natCast, getD_at hx111]
     try rfl

end Go.Proofs.YtiiahnpgomdfmaaDoor.K
