/- Builders. -/
import Derived.Test.YtlpndcpbnbeohaaDoorKitY
import Derived.Test.YtlpndcpbnbeohaaDoorKitX
set_option linter.unusedVariables false
set_option linter.unusedSimpArgs false
set_option autoImplicit false
set_option maxRecDepth 20000
namespace Go.Proofs.YtlpndcpbnbeohaaDoor.K
open Go Go.Proofs Go.RowKit

/-- The builder at the beginning of block b holds s; behind it lies rs. -/
structure BldP (w : World) (b : Nat) (A : Option Addr) (cap : Nat) (s : Bytes) (rs : List Value) : Prop where
  blk : Blk w b (.pointer none :: .slice A s.length cap :: rs) 40 ∨ Blk w b (.pointer (some ⟨b, 0, none⟩) :: .slice A s.length cap :: rs) 40
  own : OwnB 5 w A cap s
  nil : s = [] → A = none
section
variable {w w' : World} {b : Nat} {A : Option Addr} {cap : Nat} {s : Bytes} {rs : List Value}
theorem BldP.ne (h : BldP w b A cap s rs) : b ∉ ob A := by
  rcases h.blk with hb | hb <;> exact h.own.ne hb (by decide)
theorem BldP.ltb (h : BldP w b A cap s rs) : b < w.heap.size := by
  rcases h.blk with hb | hb <;> exact hb.lt
theorem BldP.tr {bs : List Nat} (h : BldP w b A cap s rs) (hc : Chg bs w w') (h1 : b ∉ bs) (h2 : ∀ k, k ∈ ob A → k ∉ bs) : BldP w' b A cap s rs :=
  ⟨h.blk.imp (fun x => x.tr hc h1) (fun x => x.tr hc h1), h.own.tr hc h2, h.nil⟩
theorem BldP.tr0 (h : BldP w b A cap s rs) (hc : Chg [] w w') : BldP w' b A cap s rs := h.tr hc (by simp) (by simp)
theorem BldP.new (h : Blk w b (.pointer none :: .slice none 0 0 :: rs) 40) : BldP w b none 0 [] rs :=
  ⟨.inl h, ⟨by simp [Lib.byteCells], .inl ⟨rfl, rfl⟩⟩, fun _ => rfl⟩
theorem BldP.fresh (h : BldP w b A cap s rs) {k : Nat} (hk : w.heap.size ≤ k) : k ∉ ob A := fun hx => by have := h.own.lt k hx; omega
end

theorem copyP_fresh {b : Nat} {v : Value}  {w : World} (hb : Blk w b [.pointer none, v] 40) : CallR Tryd.prog 33 #[.pointer (some ⟨b, 0, none⟩)] w fun r w' => r = .tuple ⟨[]⟩ ∧ Blk w' b [.pointer (some ⟨b, 0, none⟩), v] 40 ∧ Chg [b] w w' := by
 refine callR_of_wp (args := [_]) Tryd.func33 rfl (Nat.le_of_ble_eq_true rfl) ?_
 have HC : Chg [b] w w := .refl _
 refine sr rfl <| mP rfl <| nc rfl <| fa T.fld40_0 rfl <| Wp rfl <| st_load1 (v := .pointer _) T.one37 rfl (hb.cell rfl) <| Wp rfl <| st_peqln T.u37 rfl rfl <| en <| x_cond rfl (fun h0 => ?_) (fun h0 => ?_)
 ·try simp only [nm, ne_eq] at h0
  refine x_region rfl <| mP rfl <| mP rfl <| Wp rfl <| st_toUnsafe T.u37 T.u88 T.nz40 hb (Nat.le_of_ble_eq_true rfl) rfl <| Wp rfl <| st_callV rfl rfl rfl (T.noesc _ _) <| Wp rfl <| st_fromUnsafe T.u88 T.u37 T.isSome40 hb T.lies40_40 rfl <| nc rfl <| fa T.fld40_0 rfl <| Wp rfl <| st_store (v := .pointer _) T.size37 rfl rfl rfl hb rfl (Nat.le_of_ble_eq_true rfl) (by simp [Value.oneCell', S]) rfl ?_
  intro w1 c2 hb3; simp only [setVs, setV] at hb3
  clear hb
  replace HC := HC.trans c2 (by intro x hx; simp only [List.mem_singleton] at hx; subst hx; exact .inl (by simp))
  refine wops_nil <| ret_none_n rfl ?_
  exact ⟨rfl, hb3, HC⟩
 ·try simp only [nm, ne_eq] at h0
  simp at h0

theorem copyP_used {b : Nat} {v : Value}  {w : World} (hb : Blk w b [.pointer (some ⟨b, 0, none⟩), v] 40) : CallR Tryd.prog 33 #[.pointer (some ⟨b, 0, none⟩)] w fun r w' => r = .tuple ⟨[]⟩ ∧ Blk w' b [.pointer (some ⟨b, 0, none⟩), v] 40 ∧ Chg [b] w w' := by
 refine callR_of_wp (args := [_]) Tryd.func33 rfl (Nat.le_of_ble_eq_true rfl) ?_
 have HC : Chg [b] w w := .refl _
 refine sr rfl <| mP rfl <| nc rfl <| fa T.fld40_0 rfl <| Wp rfl <| st_load1 (v := .pointer _) T.one37 rfl (hb.cell rfl) <| Wp rfl <| st_peqln T.u37 rfl rfl <| en <| x_cond rfl (fun h0 => ?_) (fun h0 => ?_)
 ·try simp only [nm, ne_eq] at h0
  simp at h0
 ·try simp only [nm, ne_eq] at h0
  refine sr rfl <| mP rfl <| nc rfl <| fa T.fld40_0 rfl <| Wp rfl <| st_load1 (v := .pointer _) T.one37 rfl (hb.cell rfl) <| mP rfl <| Wp rfl <| st_pneq_same T.u37 T.isSome40 rfl rfl <| en <| x_cond (t := false) rfl (fun h1 => ?_) (fun h1 => ?_)
  · exact absurd h1 (by decide)
  refine x_skip <| ret_none_n rfl ?_
  exact ⟨rfl, hb, HC⟩

theorem copyCheckP_spec {b : Nat} {A : Option Addr} {cap : Nat} {s : Bytes}  {w : World} (h : BldP w b A cap s []) : CallR Tryd.prog 33 #[.pointer (some ⟨b, 0, none⟩)] w fun r w' => r = .tuple ⟨[]⟩ ∧ Blk w' b [.pointer (some ⟨b, 0, none⟩), .slice A s.length cap] 40 ∧ Chg [b] w w' := by
  rcases h.blk with hb | hb
  · exact copyP_fresh hb
  · exact copyP_used hb

theorem byS38_40 : byteS Tryd.prog 38 5 := ⟨by kernel_rfl, by kernel_rfl⟩

theorem WriteByteP_spec {b : Nat} {A : Option Addr} {cap : Nat} {s : Bytes}  {w : World} (x : UInt8) (h : BldP w b A cap s []) (hl : s.length + 1 ≤ 140737488355328) : CallR Tryd.prog 21 #[.pointer (some ⟨b, 0, none⟩), .int .u8 (x.toNat : Int)] w fun v w' => v = .nilIface ∧ ∃ A' cap', BldP w' b A' cap' (s ++ [x]) [] ∧ Chg (b :: ob A) w w' ∧ ∀ g, g ∈ ob A' → g ∈ ob A ∨ w.heap.size ≤ g := by
 have ho := h.own
 refine callR_of_wp (args := [_, _]) Tryd.func21 rfl (Nat.le_of_ble_eq_true rfl) ?_
 have HC : Chg (b :: ob A) w w := .refl _
 refine sr rfl <| av (v := .nilIface) rfl <| en <| sr rfl <| mP rfl <| Wp rfl <| st_call (ags := [_]) rfl rfl T.ent33 rfl (copyCheckP_spec h) ?_
 rintro _ w1 ⟨rfl, hb, c2⟩
 have hsz0 := c2.size
 replace HC := HC.trans c2 (by intro x hx; simp only [List.mem_singleton] at hx; subst hx; exact .inl (by simp))
 replace ho := ho.tr c2 (fun k hk hx => by simp only [List.mem_singleton] at hx; subst hx; exact h.ne hk)
 refine en <| sr rfl <| mP rfl <| mP rfl <| nc rfl <| fa T.fld40_1 rfl <| lL T.one38 rfl (hb.cell rfl) <| mI rfl <| Wp rfl <| st_lit (ps := [(0, .tmp 12)]) (vs := [.int _ _]) T.lit38 (by decide) rfl (by simp only [List.forall_mem_cons, List.not_mem_nil, false_imp_iff, implies_true, and_true]; exact rfl) rfl ?_
 intro b3 w4 e5 c6 hb7
 have ge_b3 : w.heap.size ≤ b3 := by rw [e5]; exact HC.size
 have ne_b_b3 : b ≠ b3 := by rw [e5]; exact hb.ne_size
 replace HC := HC.then c6
 replace ho := ho.tr c6 (by simp)
 replace hb := hb.tr0 c6
 clear e5
 have hszB := HC.size
 refine Wp rfl <| st_appendB (s2 := [x]) byS38_40 rfl rfl ho h.nil hl (by simp) (lit_news hb7) ?_
 intro A8 cap9 w10 ho11 c12 hg13 hn14
 replace hb := hb.tr c12 (fun hx => h.ne hx)
 replace HC := HC.trans c12 (fun k hk => .inl (by simp [hk]))
 have hne2 := ho11.ne hb (by decide)
 refine nc rfl <| fa T.fld40_1 rfl <| Wp rfl <| st_store (v := .slice _ _ _) T.size38 rfl rfl rfl hb rfl (Nat.le_of_ble_eq_true rfl) (by simp [Value.oneCell', S]) rfl ?_
 intro w15 c16 hb17; simp only [setVs, setV] at hb17
 clear hb
 replace HC := HC.trans c16 (by intro x hx; simp only [List.mem_singleton] at hx; subst hx; exact .inl (by simp))
 replace ho11 := ho11.tr c16 (fun k hk hx => by simp only [List.mem_singleton] at hx; subst hx; exact hne2 hk)
 refine en <| sr rfl <| av (v := .nilIface) rfl <| en <| x_ret <| ret_tmp (v := .nilIface) rfl rfl ?_
 exact ⟨rfl, A8, cap9, ⟨.inr hb17, ho11, hn14⟩, HC, fun g hg => (hg13 g hg).imp id (fun h => by omega)⟩

theorem StringP00 {b gb cap : Nat} {s : Bytes}  {w : World} (hb : Blk w b [.pointer none, .slice none 0 0] 40) : CallR Tryd.prog 18 #[.pointer (some ⟨b, 0, none⟩)] w fun v w' => v = S [] ∧ Blk w' b [.pointer none, .slice none 0 0] 40 ∧ Chg [] w w' := by
 refine callR_of_wp (args := [_]) Tryd.func18 rfl (Nat.le_of_ble_eq_true rfl) ?_
 have HC : Chg [] w w := .refl _
 refine sr rfl <| aS rfl <| en <| x_seq <| x_draw [(0, 0), (1, 0), (2, 0), (3, 0), (4, 0), (5, 0), (6, 0), (7, 0), (8, 0), (9, 0), (10, 1), (11, 0)] T.mixed rfl rfl rfl (fun W => W.heap[b]? = w.heap[b]? ∧ True) ⟨rfl, trivial⟩ ?_
 have o3 := hb
 have c2 := Chg.drew w
 generalize World.drew w = w1 at c2 ⊢
 replace HC := HC.then c2
 replace hb := hb.tr0 c2
 refine sq_q rfl (fun W hT => r_move (v := .pointer _) rfl) <| sq_q rfl (fun W hT => r_nilCheck rfl) <| sq_q rfl (fun W hT => r_fieldAddr T.fld40_1 rfl) <| sq_q rfl (fun W hT => r_load1 (v := .slice _ _ _) T.one38 rfl (Blk.cell (show Blk W b _ _ from hT.1.trans o3) rfl)) <| sq_q rfl (fun W hT => r_sliceData_nil rfl) <| sq_q rfl (fun W hT => r_move (v := .pointer _) rfl) <| sq_q rfl (fun W hT => r_nilCheck rfl) <| sq_q rfl (fun W hT => r_fieldAddr T.fld40_1 rfl) <| sq_q rfl (fun W hT => r_load1 (v := .slice _ _ _) T.one38 rfl (Blk.cell (show Blk W b _ _ from hT.1.trans o3) rfl)) <| sq_q rfl (fun W hT => r_len (ct := #[38]) (by rw [show ((#[38] : Array TypeId)[0]?).bind Tryd.prog.underlying = some (.slice 5) from T.u38]; rfl) rfl) <| sq_run1 rfl (r_unsafeString_nil rfl rfl) _ (fun _ h => h) ?_ ?_
 · exact ⟨(Eq.trans hb o3.symm), trivial⟩
 refine sq_q rfl (fun W hT => r_assign (v := S _) rfl) ?_
 clear o3
 refine sq_nil <| then_n <| x_ret <| ret_tmp (v := S _) rfl rfl ?_
 exact ⟨rfl, hb, HC⟩

theorem StringP01 {b gb cap : Nat} {s : Bytes}  {w : World} (hb : Blk w b [.pointer none, .slice (some ⟨gb, 0, none⟩) s.length cap] 40) (ho : OwnB 5 w (some ⟨gb, 0, none⟩) cap s) (hs : s ≠ []) (hcap : cap ≠ 0) (hne : b ≠ gb) : CallR Tryd.prog 18 #[.pointer (some ⟨b, 0, none⟩)] w fun v w' => v = S s ∧ Blk w' b [.pointer none, .slice (some ⟨gb, 0, none⟩) s.length cap] 40 ∧ OwnB 5 w' (some ⟨gb, 0, none⟩) cap s ∧ Chg [gb] w w' := by
 refine callR_of_wp (args := [_]) Tryd.func18 rfl (Nat.le_of_ble_eq_true rfl) ?_
 have HC : Chg [gb] w w := .refl _
 refine sr rfl <| aS rfl <| en <| x_seq <| x_draw [(0, 0), (1, 0), (2, 0), (3, 0), (4, 0), (5, 0), (6, 0), (7, 0), (8, 0), (9, 0), (10, 1), (11, 0)] T.mixed rfl rfl rfl (fun W => W.heap[b]? = w.heap[b]? ∧ True) ⟨rfl, trivial⟩ ?_
 have o3 := hb
 have c2 := Chg.drew w
 generalize World.drew w = w1 at c2 ⊢
 replace HC := HC.then c2
 replace hb := hb.tr0 c2
 replace ho := ho.tr c2 (by simp)
 refine sq_q rfl (fun W hT => r_move (v := .pointer _) rfl) <| sq_q rfl (fun W hT => r_nilCheck rfl) <| sq_q rfl (fun W hT => r_fieldAddr T.fld40_1 rfl) <| sq_q rfl (fun W hT => r_load1 (v := .slice _ _ _) T.one38 rfl (Blk.cell (show Blk W b _ _ from hT.1.trans o3) rfl)) <| sq_q rfl (fun W hT => r_sliceData rfl hcap) <| sq_q rfl (fun W hT => r_move (v := .pointer _) rfl) <| sq_q rfl (fun W hT => r_nilCheck rfl) <| sq_q rfl (fun W hT => r_fieldAddr T.fld40_1 rfl) <| sq_q rfl (fun W hT => r_load1 (v := .slice _ _ _) T.one38 rfl (Blk.cell (show Blk W b _ _ from hT.1.trans o3) rfl)) <| sq_q rfl (fun W hT => r_len (ct := #[38]) (by rw [show ((#[38] : Array TypeId)[0]?).bind Tryd.prog.underlying = some (.slice 5) from T.u38]; rfl) rfl) <| sq_us rfl (r_unsafeString T.u66 T.cells5 ho hs rfl rfl) ?_
 rintro w4 ⟨ho6, c5⟩
 have hbx := hb.tr1 c5 hne
 refine ⟨_, fun _ h => h, ⟨(Eq.trans hbx o3.symm), trivial⟩, ?_⟩
 replace HC := HC.trans c5 (fun k hk => .inl hk)
 refine sq_q rfl (fun W hT => r_assign (v := S _) rfl) ?_
 clear o3
 refine sq_nil <| then_n <| x_ret <| ret_tmp (v := S _) rfl rfl ?_
 exact ⟨rfl, hbx, ho6, HC⟩

theorem StringP10 {b gb cap : Nat} {s : Bytes}  {w : World} (hb : Blk w b [.pointer (some ⟨b, 0, none⟩), .slice none 0 0] 40) : CallR Tryd.prog 18 #[.pointer (some ⟨b, 0, none⟩)] w fun v w' => v = S [] ∧ Blk w' b [.pointer (some ⟨b, 0, none⟩), .slice none 0 0] 40 ∧ Chg [] w w' := by
 refine callR_of_wp (args := [_]) Tryd.func18 rfl (Nat.le_of_ble_eq_true rfl) ?_
 have HC : Chg [] w w := .refl _
 refine sr rfl <| aS rfl <| en <| x_seq <| x_draw [(0, 0), (1, 0), (2, 0), (3, 0), (4, 0), (5, 0), (6, 0), (7, 0), (8, 0), (9, 0), (10, 1), (11, 0)] T.mixed rfl rfl rfl (fun W => W.heap[b]? = w.heap[b]? ∧ True) ⟨rfl, trivial⟩ ?_
 have o3 := hb
 have c2 := Chg.drew w
 generalize World.drew w = w1 at c2 ⊢
 replace HC := HC.then c2
 replace hb := hb.tr0 c2
 refine sq_q rfl (fun W hT => r_move (v := .pointer _) rfl) <| sq_q rfl (fun W hT => r_nilCheck rfl) <| sq_q rfl (fun W hT => r_fieldAddr T.fld40_1 rfl) <| sq_q rfl (fun W hT => r_load1 (v := .slice _ _ _) T.one38 rfl (Blk.cell (show Blk W b _ _ from hT.1.trans o3) rfl)) <| sq_q rfl (fun W hT => r_sliceData_nil rfl) <| sq_q rfl (fun W hT => r_move (v := .pointer _) rfl) <| sq_q rfl (fun W hT => r_nilCheck rfl) <| sq_q rfl (fun W hT => r_fieldAddr T.fld40_1 rfl) <| sq_q rfl (fun W hT => r_load1 (v := .slice _ _ _) T.one38 rfl (Blk.cell (show Blk W b _ _ from hT.1.trans o3) rfl)) <| sq_q rfl (fun W hT => r_len (ct := #[38]) (by rw [show ((#[38] : Array TypeId)[0]?).bind Tryd.prog.underlying = some (.slice 5) from T.u38]; rfl) rfl) <| sq_run1 rfl (r_unsafeString_nil rfl rfl) _ (fun _ h => h) ?_ ?_
 · exact ⟨(Eq.trans hb o3.symm), trivial⟩
 refine sq_q rfl (fun W hT => r_assign (v := S _) rfl) ?_
 clear o3
 refine sq_nil <| then_n <| x_ret <| ret_tmp (v := S _) rfl rfl ?_
 exact ⟨rfl, hb, HC⟩

theorem StringP11 {b gb cap : Nat} {s : Bytes}  {w : World} (hb : Blk w b [.pointer (some ⟨b, 0, none⟩), .slice (some ⟨gb, 0, none⟩) s.length cap] 40) (ho : OwnB 5 w (some ⟨gb, 0, none⟩) cap s) (hs : s ≠ []) (hcap : cap ≠ 0) (hne : b ≠ gb) : CallR Tryd.prog 18 #[.pointer (some ⟨b, 0, none⟩)] w fun v w' => v = S s ∧ Blk w' b [.pointer (some ⟨b, 0, none⟩), .slice (some ⟨gb, 0, none⟩) s.length cap] 40 ∧ OwnB 5 w' (some ⟨gb, 0, none⟩) cap s ∧ Chg [gb] w w' := by
 refine callR_of_wp (args := [_]) Tryd.func18 rfl (Nat.le_of_ble_eq_true rfl) ?_
 have HC : Chg [gb] w w := .refl _
 refine sr rfl <| aS rfl <| en <| x_seq <| x_draw [(0, 0), (1, 0), (2, 0), (3, 0), (4, 0), (5, 0), (6, 0), (7, 0), (8, 0), (9, 0), (10, 1), (11, 0)] T.mixed rfl rfl rfl (fun W => W.heap[b]? = w.heap[b]? ∧ True) ⟨rfl, trivial⟩ ?_
 have o3 := hb
 have c2 := Chg.drew w
 generalize World.drew w = w1 at c2 ⊢
 replace HC := HC.then c2
 replace hb := hb.tr0 c2
 replace ho := ho.tr c2 (by simp)
 refine sq_q rfl (fun W hT => r_move (v := .pointer _) rfl) <| sq_q rfl (fun W hT => r_nilCheck rfl) <| sq_q rfl (fun W hT => r_fieldAddr T.fld40_1 rfl) <| sq_q rfl (fun W hT => r_load1 (v := .slice _ _ _) T.one38 rfl (Blk.cell (show Blk W b _ _ from hT.1.trans o3) rfl)) <| sq_q rfl (fun W hT => r_sliceData rfl hcap) <| sq_q rfl (fun W hT => r_move (v := .pointer _) rfl) <| sq_q rfl (fun W hT => r_nilCheck rfl) <| sq_q rfl (fun W hT => r_fieldAddr T.fld40_1 rfl) <| sq_q rfl (fun W hT => r_load1 (v := .slice _ _ _) T.one38 rfl (Blk.cell (show Blk W b _ _ from hT.1.trans o3) rfl)) <| sq_q rfl (fun W hT => r_len (ct := #[38]) (by rw [show ((#[38] : Array TypeId)[0]?).bind Tryd.prog.underlying = some (.slice 5) from T.u38]; rfl) rfl) <| sq_us rfl (r_unsafeString T.u66 T.cells5 ho hs rfl rfl) ?_
 rintro w4 ⟨ho6, c5⟩
 have hbx := hb.tr1 c5 hne
 refine ⟨_, fun _ h => h, ⟨(Eq.trans hbx o3.symm), trivial⟩, ?_⟩
 replace HC := HC.trans c5 (fun k hk => .inl hk)
 refine sq_q rfl (fun W hT => r_assign (v := S _) rfl) ?_
 clear o3
 refine sq_nil <| then_n <| x_ret <| ret_tmp (v := S _) rfl rfl ?_
 exact ⟨rfl, hbx, ho6, HC⟩

theorem StringP_spec {b : Nat} {A : Option Addr} {cap : Nat} {s : Bytes}  {w : World} (h : BldP w b A cap s []) : CallR Tryd.prog 18 #[.pointer (some ⟨b, 0, none⟩)] w fun v w' => v = S s ∧ BldP w' b A cap s [] ∧ Chg (ob A) w w' := by
  by_cases hs : s = []
  · subst hs
    have hA := h.nil rfl
    subst hA
    have h0 : cap = 0 := by rcases h.own.form with ⟨_, h0, _⟩ | ⟨g, cur, fz, h0, _⟩; exact h0; cases h0
    subst h0
    rcases h.blk with hb | hb
    · exact CallR.imp (StringP00 (gb := 0) (cap := 0) (s := []) hb) fun v w' ⟨h1, h2, h3⟩ => ⟨h1, ⟨.inl h2, h.own.tr h3 (by simp [ob]), fun _ => rfl⟩, h3⟩
    · exact CallR.imp (StringP10 (gb := 0) (cap := 0) (s := []) hb) fun v w' ⟨h1, h2, h3⟩ => ⟨h1, ⟨.inr h2, h.own.tr h3 (by simp [ob]), fun _ => rfl⟩, h3⟩
  · rcases h.own.form with ⟨_, _, h0⟩ | ⟨g, cur, fz, rfl, hg, hle, _⟩
    · exact absurd h0 hs
    · have hpos := List.length_pos_iff.2 hs
      have hne : b ≠ g := fun e => h.ne (by simp [ob, e])
      rcases h.blk with hb | hb
      · exact CallR.imp (StringP01 hb h.own hs (by omega) hne) fun v w' ⟨h1, h2, h3, h4⟩ => ⟨h1, ⟨.inl h2, h3, fun hz => absurd hz hs⟩, h4⟩
      · exact CallR.imp (StringP11 hb h.own hs (by omega) hne) fun v w' ⟨h1, h2, h3, h4⟩ => ⟨h1, ⟨.inr h2, h3, fun hz => absurd hz hs⟩, h4⟩

/-- The builder at the beginning of block b holds s; behind it lies rs. -/
structure BldW (w : World) (b : Nat) (A : Option Addr) (cap : Nat) (s : Bytes) (rs : List Value) : Prop where
  blk : Blk w b (.pointer none :: .slice A s.length cap :: rs) 42 ∨ Blk w b (.pointer (some ⟨b, 0, none⟩) :: .slice A s.length cap :: rs) 42
  own : OwnB 5 w A cap s
  nil : s = [] → A = none
section
variable {w w' : World} {b : Nat} {A : Option Addr} {cap : Nat} {s : Bytes} {rs : List Value}
theorem BldW.ne (h : BldW w b A cap s rs) : b ∉ ob A := by
  rcases h.blk with hb | hb <;> exact h.own.ne hb (by decide)
theorem BldW.ltb (h : BldW w b A cap s rs) : b < w.heap.size := by
  rcases h.blk with hb | hb <;> exact hb.lt
theorem BldW.tr {bs : List Nat} (h : BldW w b A cap s rs) (hc : Chg bs w w') (h1 : b ∉ bs) (h2 : ∀ k, k ∈ ob A → k ∉ bs) : BldW w' b A cap s rs :=
  ⟨h.blk.imp (fun x => x.tr hc h1) (fun x => x.tr hc h1), h.own.tr hc h2, h.nil⟩
theorem BldW.tr0 (h : BldW w b A cap s rs) (hc : Chg [] w w') : BldW w' b A cap s rs := h.tr hc (by simp) (by simp)
theorem BldW.new (h : Blk w b (.pointer none :: .slice none 0 0 :: rs) 42) : BldW w b none 0 [] rs :=
  ⟨.inl h, ⟨by simp [Lib.byteCells], .inl ⟨rfl, rfl⟩⟩, fun _ => rfl⟩
theorem BldW.fresh (h : BldW w b A cap s rs) {k : Nat} (hk : w.heap.size ≤ k) : k ∉ ob A := fun hx => by have := h.own.lt k hx; omega
end

theorem copyW_fresh {b : Nat} {v : Value} {r1 r2 r3 r4 : Value} {w : World} (hb : Blk w b [.pointer none, v, r1, r2, r3, r4] 42) : CallR Tryd.prog 33 #[.pointer (some ⟨b, 0, none⟩)] w fun r w' => r = .tuple ⟨[]⟩ ∧ Blk w' b [.pointer (some ⟨b, 0, none⟩), v, r1, r2, r3, r4] 42 ∧ Chg [b] w w' := by
 refine callR_of_wp (args := [_]) Tryd.func33 rfl (Nat.le_of_ble_eq_true rfl) ?_
 have HC : Chg [b] w w := .refl _
 refine sr rfl <| mP rfl <| nc rfl <| fa T.fld40_0 rfl <| Wp rfl <| st_load1 (v := .pointer _) T.one37 rfl (hb.cell rfl) <| Wp rfl <| st_peqln T.u37 rfl rfl <| en <| x_cond rfl (fun h0 => ?_) (fun h0 => ?_)
 ·try simp only [nm, ne_eq] at h0
  refine x_region rfl <| mP rfl <| mP rfl <| Wp rfl <| st_toUnsafe T.u37 T.u88 T.nz40 hb (Nat.le_of_ble_eq_true rfl) rfl <| Wp rfl <| st_callV rfl rfl rfl (T.noesc _ _) <| Wp rfl <| st_fromUnsafe T.u88 T.u37 T.isSome40 hb T.lies40_42 rfl <| nc rfl <| fa T.fld40_0 rfl <| Wp rfl <| st_store (v := .pointer _) T.size37 rfl rfl rfl hb rfl (Nat.le_of_ble_eq_true rfl) (by simp [Value.oneCell', S]) rfl ?_
  intro w1 c2 hb3; simp only [setVs, setV] at hb3
  clear hb
  replace HC := HC.trans c2 (by intro x hx; simp only [List.mem_singleton] at hx; subst hx; exact .inl (by simp))
  refine wops_nil <| ret_none_n rfl ?_
  exact ⟨rfl, hb3, HC⟩
 ·try simp only [nm, ne_eq] at h0
  simp at h0

theorem copyW_used {b : Nat} {v : Value} {r1 r2 r3 r4 : Value} {w : World} (hb : Blk w b [.pointer (some ⟨b, 0, none⟩), v, r1, r2, r3, r4] 42) : CallR Tryd.prog 33 #[.pointer (some ⟨b, 0, none⟩)] w fun r w' => r = .tuple ⟨[]⟩ ∧ Blk w' b [.pointer (some ⟨b, 0, none⟩), v, r1, r2, r3, r4] 42 ∧ Chg [b] w w' := by
 refine callR_of_wp (args := [_]) Tryd.func33 rfl (Nat.le_of_ble_eq_true rfl) ?_
 have HC : Chg [b] w w := .refl _
 refine sr rfl <| mP rfl <| nc rfl <| fa T.fld40_0 rfl <| Wp rfl <| st_load1 (v := .pointer _) T.one37 rfl (hb.cell rfl) <| Wp rfl <| st_peqln T.u37 rfl rfl <| en <| x_cond rfl (fun h0 => ?_) (fun h0 => ?_)
 ·try simp only [nm, ne_eq] at h0
  simp at h0
 ·try simp only [nm, ne_eq] at h0
  refine sr rfl <| mP rfl <| nc rfl <| fa T.fld40_0 rfl <| Wp rfl <| st_load1 (v := .pointer _) T.one37 rfl (hb.cell rfl) <| mP rfl <| Wp rfl <| st_pneq_same T.u37 T.isSome40 rfl rfl <| en <| x_cond (t := false) rfl (fun h1 => ?_) (fun h1 => ?_)
  · exact absurd h1 (by decide)
  refine x_skip <| ret_none_n rfl ?_
  exact ⟨rfl, hb, HC⟩

theorem copyCheckW_spec {b : Nat} {A : Option Addr} {cap : Nat} {s : Bytes} {r1 r2 r3 r4 : Value} {w : World} (h : BldW w b A cap s [r1, r2, r3, r4]) : CallR Tryd.prog 33 #[.pointer (some ⟨b, 0, none⟩)] w fun r w' => r = .tuple ⟨[]⟩ ∧ Blk w' b [.pointer (some ⟨b, 0, none⟩), .slice A s.length cap, r1, r2, r3, r4] 42 ∧ Chg [b] w w' := by
  rcases h.blk with hb | hb
  · exact copyW_fresh hb
  · exact copyW_used hb

theorem WriteStringW_spec {b : Nat} {A : Option Addr} {cap : Nat} {s : Bytes} {r1 r2 r3 r4 : Value} {w : World} (s2 : Bytes) (h : BldW w b A cap s [r1, r2, r3, r4]) (hl : s.length + s2.length ≤ 140737488355328) : CallR Tryd.prog 27 #[.pointer (some ⟨b, 0, none⟩), S s2] w fun v w' => v = .tuple ⟨[.int .i64 s2.length, .nilIface]⟩ ∧ ∃ A' cap', BldW w' b A' cap' (s ++ s2) [r1, r2, r3, r4] ∧ Chg (b :: ob A) w w' ∧ ∀ g, g ∈ ob A' → g ∈ ob A ∨ w.heap.size ≤ g := by
 have ho := h.own
 refine callR_of_wp (args := [_, _]) Tryd.func27 rfl (Nat.le_of_ble_eq_true rfl) ?_
 have HC : Chg (b :: ob A) w w := .refl _
 refine sr rfl <| aI rfl <| av (v := .nilIface) rfl <| en <| sr rfl <| mP rfl <| Wp rfl <| st_call (ags := [_]) rfl rfl T.ent33 rfl (copyCheckW_spec h) ?_
 rintro _ w1 ⟨rfl, hb, c2⟩
 have hsz0 := c2.size
 replace HC := HC.trans c2 (by intro x hx; simp only [List.mem_singleton] at hx; subst hx; exact .inl (by simp))
 replace ho := ho.tr c2 (fun k hk hx => by simp only [List.mem_singleton] at hx; subst hx; exact h.ne hk)
 refine en <| sr rfl <| mP rfl <| mP rfl <| nc rfl <| fa T.fld40_1 rfl <| lL T.one38 rfl (hb.cell rfl) <| mS rfl <| Wp rfl <| st_appendStr T.byte38 rfl rfl ho h.nil hl ?_
 intro A3 cap4 w5 ho6 c7 hg8 hn9
 replace hb := hb.tr c7 (fun hx => h.ne hx)
 replace HC := HC.trans c7 (fun k hk => .inl (by simp [hk]))
 have hne2 := ho6.ne hb (by decide)
 refine nc rfl <| fa T.fld40_1 rfl <| Wp rfl <| st_store (v := .slice _ _ _) T.size38 rfl rfl rfl hb rfl (Nat.le_of_ble_eq_true rfl) (by simp [Value.oneCell', S]) rfl ?_
 intro w10 c11 hb12; simp only [setVs, setV] at hb12
 clear hb
 replace HC := HC.trans c11 (by intro x hx; simp only [List.mem_singleton] at hx; subst hx; exact .inl (by simp))
 replace ho6 := ho6.tr c11 (fun k hk hx => by simp only [List.mem_singleton] at hx; subst hx; exact hne2 hk)
 refine en <| sr rfl <| mS rfl <| Wp rfl <| st_slen (ct := #[9]) T.u9 rfl <| aI rfl <| av (v := .nilIface) rfl <| en <| x_ret <| ret_tmp2 (v := .int _ _) (v2 := .nilIface) rfl rfl rfl ?_
 exact ⟨rfl, A3, cap4, ⟨.inr hb12, ho6, hn9⟩, HC, fun g hg => (hg8 g hg).imp id (fun h => by omega)⟩

theorem byS38_42 : byteS Tryd.prog 38 5 := ⟨by kernel_rfl, by kernel_rfl⟩

theorem WriteByteW_spec {b : Nat} {A : Option Addr} {cap : Nat} {s : Bytes} {r1 r2 r3 r4 : Value} {w : World} (x : UInt8) (h : BldW w b A cap s [r1, r2, r3, r4]) (hl : s.length + 1 ≤ 140737488355328) : CallR Tryd.prog 21 #[.pointer (some ⟨b, 0, none⟩), .int .u8 (x.toNat : Int)] w fun v w' => v = .nilIface ∧ ∃ A' cap', BldW w' b A' cap' (s ++ [x]) [r1, r2, r3, r4] ∧ Chg (b :: ob A) w w' ∧ ∀ g, g ∈ ob A' → g ∈ ob A ∨ w.heap.size ≤ g := by
 have ho := h.own
 refine callR_of_wp (args := [_, _]) Tryd.func21 rfl (Nat.le_of_ble_eq_true rfl) ?_
 have HC : Chg (b :: ob A) w w := .refl _
 refine sr rfl <| av (v := .nilIface) rfl <| en <| sr rfl <| mP rfl <| Wp rfl <| st_call (ags := [_]) rfl rfl T.ent33 rfl (copyCheckW_spec h) ?_
 rintro _ w1 ⟨rfl, hb, c2⟩
 have hsz0 := c2.size
 replace HC := HC.trans c2 (by intro x hx; simp only [List.mem_singleton] at hx; subst hx; exact .inl (by simp))
 replace ho := ho.tr c2 (fun k hk hx => by simp only [List.mem_singleton] at hx; subst hx; exact h.ne hk)
 refine en <| sr rfl <| mP rfl <| mP rfl <| nc rfl <| fa T.fld40_1 rfl <| lL T.one38 rfl (hb.cell rfl) <| mI rfl <| Wp rfl <| st_lit (ps := [(0, .tmp 12)]) (vs := [.int _ _]) T.lit38 (by decide) rfl (by simp only [List.forall_mem_cons, List.not_mem_nil, false_imp_iff, implies_true, and_true]; exact rfl) rfl ?_
 intro b3 w4 e5 c6 hb7
 have ge_b3 : w.heap.size ≤ b3 := by rw [e5]; exact HC.size
 have ne_b_b3 : b ≠ b3 := by rw [e5]; exact hb.ne_size
 replace HC := HC.then c6
 replace ho := ho.tr c6 (by simp)
 replace hb := hb.tr0 c6
 clear e5
 have hszB := HC.size
 refine Wp rfl <| st_appendB (s2 := [x]) byS38_42 rfl rfl ho h.nil hl (by simp) (lit_news hb7) ?_
 intro A8 cap9 w10 ho11 c12 hg13 hn14
 replace hb := hb.tr c12 (fun hx => h.ne hx)
 replace HC := HC.trans c12 (fun k hk => .inl (by simp [hk]))
 have hne2 := ho11.ne hb (by decide)
 refine nc rfl <| fa T.fld40_1 rfl <| Wp rfl <| st_store (v := .slice _ _ _) T.size38 rfl rfl rfl hb rfl (Nat.le_of_ble_eq_true rfl) (by simp [Value.oneCell', S]) rfl ?_
 intro w15 c16 hb17; simp only [setVs, setV] at hb17
 clear hb
 replace HC := HC.trans c16 (by intro x hx; simp only [List.mem_singleton] at hx; subst hx; exact .inl (by simp))
 replace ho11 := ho11.tr c16 (fun k hk hx => by simp only [List.mem_singleton] at hx; subst hx; exact hne2 hk)
 refine en <| sr rfl <| av (v := .nilIface) rfl <| en <| x_ret <| ret_tmp (v := .nilIface) rfl rfl ?_
 exact ⟨rfl, A8, cap9, ⟨.inr hb17, ho11, hn14⟩, HC, fun g hg => (hg13 g hg).imp id (fun h => by omega)⟩

theorem StringW30 {b m cap : Nat} {A : Option Addr} {r1 r2 r3 r4 : Value} {w : World} (hb : Blk w b [.pointer none, .slice A m cap, r1, r2, r3, r4] 42) : CallR Tryd.prog 16 #[.pointer (some ⟨b, 0, none⟩)] w fun v w' => v = .int .i64 (m : Int) ∧ Chg [] w w' := by
 refine callR_of_wp (args := [_]) Tryd.func16 rfl (Nat.le_of_ble_eq_true rfl) ?_
 have HC : Chg [] w w := .refl _
 refine sr rfl <| aI rfl <| en <| sr rfl <| mP rfl <| nc rfl <| fa T.fld40_1 rfl <| lL T.one38 rfl (hb.cell rfl) <| Wp rfl <| st_len (ct := #[38]) (by rw [show ((#[38] : Array TypeId)[0]?).bind Tryd.prog.underlying = some (.slice 5) from T.u38]; rfl) rfl <| aI rfl <| en <| x_ret <| ret_tmp (v := .int _ _) rfl rfl ?_
 exact ⟨rfl, HC⟩

theorem StringW31 {b m cap : Nat} {A : Option Addr} {r1 r2 r3 r4 : Value} {w : World} (hb : Blk w b [.pointer (some ⟨b, 0, none⟩), .slice A m cap, r1, r2, r3, r4] 42) : CallR Tryd.prog 16 #[.pointer (some ⟨b, 0, none⟩)] w fun v w' => v = .int .i64 (m : Int) ∧ Chg [] w w' := by
 refine callR_of_wp (args := [_]) Tryd.func16 rfl (Nat.le_of_ble_eq_true rfl) ?_
 have HC : Chg [] w w := .refl _
 refine sr rfl <| aI rfl <| en <| sr rfl <| mP rfl <| nc rfl <| fa T.fld40_1 rfl <| lL T.one38 rfl (hb.cell rfl) <| Wp rfl <| st_len (ct := #[38]) (by rw [show ((#[38] : Array TypeId)[0]?).bind Tryd.prog.underlying = some (.slice 5) from T.u38]; rfl) rfl <| aI rfl <| en <| x_ret <| ret_tmp (v := .int _ _) rfl rfl ?_
 exact ⟨rfl, HC⟩

theorem LenW_spec {b : Nat} {A : Option Addr} {cap : Nat} {s : Bytes} {r1 r2 r3 r4 : Value} {w : World} (h : BldW w b A cap s [r1, r2, r3, r4]) : CallR Tryd.prog 16 #[.pointer (some ⟨b, 0, none⟩)] w fun v w' => v = .int .i64 (s.length : Int) ∧ Chg [] w w' := by
  rcases h.blk with hb | hb
  · exact StringW30 hb
  · exact StringW31 hb

theorem StringW00 {b gb cap : Nat} {s : Bytes} {r1 r2 r3 r4 : Value} {w : World} (hb : Blk w b [.pointer none, .slice none 0 0, r1, r2, r3, r4] 42) : CallR Tryd.prog 18 #[.pointer (some ⟨b, 0, none⟩)] w fun v w' => v = S [] ∧ Blk w' b [.pointer none, .slice none 0 0, r1, r2, r3, r4] 42 ∧ Chg [] w w' := by
 refine callR_of_wp (args := [_]) Tryd.func18 rfl (Nat.le_of_ble_eq_true rfl) ?_
 have HC : Chg [] w w := .refl _
 refine sr rfl <| aS rfl <| en <| x_seq <| x_draw [(0, 0), (1, 0), (2, 0), (3, 0), (4, 0), (5, 0), (6, 0), (7, 0), (8, 0), (9, 0), (10, 1), (11, 0)] T.mixed rfl rfl rfl (fun W => W.heap[b]? = w.heap[b]? ∧ True) ⟨rfl, trivial⟩ ?_
 have o3 := hb
 have c2 := Chg.drew w
 generalize World.drew w = w1 at c2 ⊢
 replace HC := HC.then c2
 replace hb := hb.tr0 c2
 refine sq_q rfl (fun W hT => r_move (v := .pointer _) rfl) <| sq_q rfl (fun W hT => r_nilCheck rfl) <| sq_q rfl (fun W hT => r_fieldAddr T.fld40_1 rfl) <| sq_q rfl (fun W hT => r_load1 (v := .slice _ _ _) T.one38 rfl (Blk.cell (show Blk W b _ _ from hT.1.trans o3) rfl)) <| sq_q rfl (fun W hT => r_sliceData_nil rfl) <| sq_q rfl (fun W hT => r_move (v := .pointer _) rfl) <| sq_q rfl (fun W hT => r_nilCheck rfl) <| sq_q rfl (fun W hT => r_fieldAddr T.fld40_1 rfl) <| sq_q rfl (fun W hT => r_load1 (v := .slice _ _ _) T.one38 rfl (Blk.cell (show Blk W b _ _ from hT.1.trans o3) rfl)) <| sq_q rfl (fun W hT => r_len (ct := #[38]) (by rw [show ((#[38] : Array TypeId)[0]?).bind Tryd.prog.underlying = some (.slice 5) from T.u38]; rfl) rfl) <| sq_run1 rfl (r_unsafeString_nil rfl rfl) _ (fun _ h => h) ?_ ?_
 · exact ⟨(Eq.trans hb o3.symm), trivial⟩
 refine sq_q rfl (fun W hT => r_assign (v := S _) rfl) ?_
 clear o3
 refine sq_nil <| then_n <| x_ret <| ret_tmp (v := S _) rfl rfl ?_
 exact ⟨rfl, hb, HC⟩

theorem StringW01 {b gb cap : Nat} {s : Bytes} {r1 r2 r3 r4 : Value} {w : World} (hb : Blk w b [.pointer none, .slice (some ⟨gb, 0, none⟩) s.length cap, r1, r2, r3, r4] 42) (ho : OwnB 5 w (some ⟨gb, 0, none⟩) cap s) (hs : s ≠ []) (hcap : cap ≠ 0) (hne : b ≠ gb) : CallR Tryd.prog 18 #[.pointer (some ⟨b, 0, none⟩)] w fun v w' => v = S s ∧ Blk w' b [.pointer none, .slice (some ⟨gb, 0, none⟩) s.length cap, r1, r2, r3, r4] 42 ∧ OwnB 5 w' (some ⟨gb, 0, none⟩) cap s ∧ Chg [gb] w w' := by
 refine callR_of_wp (args := [_]) Tryd.func18 rfl (Nat.le_of_ble_eq_true rfl) ?_
 have HC : Chg [gb] w w := .refl _
 refine sr rfl <| aS rfl <| en <| x_seq <| x_draw [(0, 0), (1, 0), (2, 0), (3, 0), (4, 0), (5, 0), (6, 0), (7, 0), (8, 0), (9, 0), (10, 1), (11, 0)] T.mixed rfl rfl rfl (fun W => W.heap[b]? = w.heap[b]? ∧ True) ⟨rfl, trivial⟩ ?_
 have o3 := hb
 have c2 := Chg.drew w
 generalize World.drew w = w1 at c2 ⊢
 replace HC := HC.then c2
 replace hb := hb.tr0 c2
 replace ho := ho.tr c2 (by simp)
 refine sq_q rfl (fun W hT => r_move (v := .pointer _) rfl) <| sq_q rfl (fun W hT => r_nilCheck rfl) <| sq_q rfl (fun W hT => r_fieldAddr T.fld40_1 rfl) <| sq_q rfl (fun W hT => r_load1 (v := .slice _ _ _) T.one38 rfl (Blk.cell (show Blk W b _ _ from hT.1.trans o3) rfl)) <| sq_q rfl (fun W hT => r_sliceData rfl hcap) <| sq_q rfl (fun W hT => r_move (v := .pointer _) rfl) <| sq_q rfl (fun W hT => r_nilCheck rfl) <| sq_q rfl (fun W hT => r_fieldAddr T.fld40_1 rfl) <| sq_q rfl (fun W hT => r_load1 (v := .slice _ _ _) T.one38 rfl (Blk.cell (show Blk W b _ _ from hT.1.trans o3) rfl)) <| sq_q rfl (fun W hT => r_len (ct := #[38]) (by rw [show ((#[38] : Array TypeId)[0]?).bind Tryd.prog.underlying = some (.slice 5) from T.u38]; rfl) rfl) <| sq_us rfl (r_unsafeString T.u66 T.cells5 ho hs rfl rfl) ?_
 rintro w4 ⟨ho6, c5⟩
 have hbx := hb.tr1 c5 hne
 refine ⟨_, fun _ h => h, ⟨(Eq.trans hbx o3.symm), trivial⟩, ?_⟩
 replace HC := HC.trans c5 (fun k hk => .inl hk)
 refine sq_q rfl (fun W hT => r_assign (v := S _) rfl) ?_
 clear o3
 refine sq_nil <| then_n <| x_ret <| ret_tmp (v := S _) rfl rfl ?_
 exact ⟨rfl, hbx, ho6, HC⟩

theorem StringW10 {b gb cap : Nat} {s : Bytes} {r1 r2 r3 r4 : Value} {w : World} (hb : Blk w b [.pointer (some ⟨b, 0, none⟩), .slice none 0 0, r1, r2, r3, r4] 42) : CallR Tryd.prog 18 #[.pointer (some ⟨b, 0, none⟩)] w fun v w' => v = S [] ∧ Blk w' b [.pointer (some ⟨b, 0, none⟩), .slice none 0 0, r1, r2, r3, r4] 42 ∧ Chg [] w w' := by
 refine callR_of_wp (args := [_]) Tryd.func18 rfl (Nat.le_of_ble_eq_true rfl) ?_
 have HC : Chg [] w w := .refl _
 refine sr rfl <| aS rfl <| en <| x_seq <| x_draw [(0, 0), (1, 0), (2, 0), (3, 0), (4, 0), (5, 0), (6, 0), (7, 0), (8, 0), (9, 0), (10, 1), (11, 0)] T.mixed rfl rfl rfl (fun W => W.heap[b]? = w.heap[b]? ∧ True) ⟨rfl, trivial⟩ ?_
 have o3 := hb
 have c2 := Chg.drew w
 generalize World.drew w = w1 at c2 ⊢
 replace HC := HC.then c2
 replace hb := hb.tr0 c2
 refine sq_q rfl (fun W hT => r_move (v := .pointer _) rfl) <| sq_q rfl (fun W hT => r_nilCheck rfl) <| sq_q rfl (fun W hT => r_fieldAddr T.fld40_1 rfl) <| sq_q rfl (fun W hT => r_load1 (v := .slice _ _ _) T.one38 rfl (Blk.cell (show Blk W b _ _ from hT.1.trans o3) rfl)) <| sq_q rfl (fun W hT => r_sliceData_nil rfl) <| sq_q rfl (fun W hT => r_move (v := .pointer _) rfl) <| sq_q rfl (fun W hT => r_nilCheck rfl) <| sq_q rfl (fun W hT => r_fieldAddr T.fld40_1 rfl) <| sq_q rfl (fun W hT => r_load1 (v := .slice _ _ _) T.one38 rfl (Blk.cell (show Blk W b _ _ from hT.1.trans o3) rfl)) <| sq_q rfl (fun W hT => r_len (ct := #[38]) (by rw [show ((#[38] : Array TypeId)[0]?).bind Tryd.prog.underlying = some (.slice 5) from T.u38]; rfl) rfl) <| sq_run1 rfl (r_unsafeString_nil rfl rfl) _ (fun _ h => h) ?_ ?_
 · exact ⟨(Eq.trans hb o3.symm), trivial⟩
 refine sq_q rfl (fun W hT => r_assign (v := S _) rfl) ?_
 clear o3
 refine sq_nil <| then_n <| x_ret <| ret_tmp (v := S _) rfl rfl ?_
 exact ⟨rfl, hb, HC⟩

theorem StringW11 {b gb cap : Nat} {s : Bytes} {r1 r2 r3 r4 : Value} {w : World} (hb : Blk w b [.pointer (some ⟨b, 0, none⟩), .slice (some ⟨gb, 0, none⟩) s.length cap, r1, r2, r3, r4] 42) (ho : OwnB 5 w (some ⟨gb, 0, none⟩) cap s) (hs : s ≠ []) (hcap : cap ≠ 0) (hne : b ≠ gb) : CallR Tryd.prog 18 #[.pointer (some ⟨b, 0, none⟩)] w fun v w' => v = S s ∧ Blk w' b [.pointer (some ⟨b, 0, none⟩), .slice (some ⟨gb, 0, none⟩) s.length cap, r1, r2, r3, r4] 42 ∧ OwnB 5 w' (some ⟨gb, 0, none⟩) cap s ∧ Chg [gb] w w' := by
 refine callR_of_wp (args := [_]) Tryd.func18 rfl (Nat.le_of_ble_eq_true rfl) ?_
 have HC : Chg [gb] w w := .refl _
 refine sr rfl <| aS rfl <| en <| x_seq <| x_draw [(0, 0), (1, 0), (2, 0), (3, 0), (4, 0), (5, 0), (6, 0), (7, 0), (8, 0), (9, 0), (10, 1), (11, 0)] T.mixed rfl rfl rfl (fun W => W.heap[b]? = w.heap[b]? ∧ True) ⟨rfl, trivial⟩ ?_
 have o3 := hb
 have c2 := Chg.drew w
 generalize World.drew w = w1 at c2 ⊢
 replace HC := HC.then c2
 replace hb := hb.tr0 c2
 replace ho := ho.tr c2 (by simp)
 refine sq_q rfl (fun W hT => r_move (v := .pointer _) rfl) <| sq_q rfl (fun W hT => r_nilCheck rfl) <| sq_q rfl (fun W hT => r_fieldAddr T.fld40_1 rfl) <| sq_q rfl (fun W hT => r_load1 (v := .slice _ _ _) T.one38 rfl (Blk.cell (show Blk W b _ _ from hT.1.trans o3) rfl)) <| sq_q rfl (fun W hT => r_sliceData rfl hcap) <| sq_q rfl (fun W hT => r_move (v := .pointer _) rfl) <| sq_q rfl (fun W hT => r_nilCheck rfl) <| sq_q rfl (fun W hT => r_fieldAddr T.fld40_1 rfl) <| sq_q rfl (fun W hT => r_load1 (v := .slice _ _ _) T.one38 rfl (Blk.cell (show Blk W b _ _ from hT.1.trans o3) rfl)) <| sq_q rfl (fun W hT => r_len (ct := #[38]) (by rw [show ((#[38] : Array TypeId)[0]?).bind Tryd.prog.underlying = some (.slice 5) from T.u38]; rfl) rfl) <| sq_us rfl (r_unsafeString T.u66 T.cells5 ho hs rfl rfl) ?_
 rintro w4 ⟨ho6, c5⟩
 have hbx := hb.tr1 c5 hne
 refine ⟨_, fun _ h => h, ⟨(Eq.trans hbx o3.symm), trivial⟩, ?_⟩
 replace HC := HC.trans c5 (fun k hk => .inl hk)
 refine sq_q rfl (fun W hT => r_assign (v := S _) rfl) ?_
 clear o3
 refine sq_nil <| then_n <| x_ret <| ret_tmp (v := S _) rfl rfl ?_
 exact ⟨rfl, hbx, ho6, HC⟩

theorem StringW_spec {b : Nat} {A : Option Addr} {cap : Nat} {s : Bytes} {r1 r2 r3 r4 : Value} {w : World} (h : BldW w b A cap s [r1, r2, r3, r4]) : CallR Tryd.prog 18 #[.pointer (some ⟨b, 0, none⟩)] w fun v w' => v = S s ∧ BldW w' b A cap s [r1, r2, r3, r4] ∧ Chg (ob A) w w' := by
  by_cases hs : s = []
  · subst hs
    have hA := h.nil rfl
    subst hA
    have h0 : cap = 0 := by rcases h.own.form with ⟨_, h0, _⟩ | ⟨g, cur, fz, h0, _⟩; exact h0; cases h0
    subst h0
    rcases h.blk with hb | hb
    · exact CallR.imp (StringW00 (gb := 0) (cap := 0) (s := []) hb) fun v w' ⟨h1, h2, h3⟩ => ⟨h1, ⟨.inl h2, h.own.tr h3 (by simp [ob]), fun _ => rfl⟩, h3⟩
    · exact CallR.imp (StringW10 (gb := 0) (cap := 0) (s := []) hb) fun v w' ⟨h1, h2, h3⟩ => ⟨h1, ⟨.inr h2, h.own.tr h3 (by simp [ob]), fun _ => rfl⟩, h3⟩
  · rcases h.own.form with ⟨_, _, h0⟩ | ⟨g, cur, fz, rfl, hg, hle, _⟩
    · exact absurd h0 hs
    · have hpos := List.length_pos_iff.2 hs
      have hne : b ≠ g := fun e => h.ne (by simp [ob, e])
      rcases h.blk with hb | hb
      · exact CallR.imp (StringW01 hb h.own hs (by omega) hne) fun v w' ⟨h1, h2, h3, h4⟩ => ⟨h1, ⟨.inl h2, h3, fun hz => absurd hz hs⟩, h4⟩
      · exact CallR.imp (StringW11 hb h.own hs (by omega) hne) fun v w' ⟨h1, h2, h3, h4⟩ => ⟨h1, ⟨.inr h2, h3, fun hz => absurd hz hs⟩, h4⟩

end Go.Proofs.YtlpndcpbnbeohaaDoor.K
