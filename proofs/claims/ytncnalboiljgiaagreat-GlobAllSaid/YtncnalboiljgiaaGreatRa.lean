import Derived.Test.YtncnalboiljgiaaGreatKitSq
import Derived.Test.YtncnalboiljgiaaGreatGm
import Derived.Laws.MakeOwn
set_option linter.unusedVariables false
set_option linter.unusedSimpArgs false
set_option autoImplicit false
set_option maxRecDepth 20000
namespace Go.Proofs.YtncnalboiljgiaaGreat.K
open Go Go.Proofs Go.RowKit
section make
open Go.Proofs
variable {P : Program} {r : Option Nat} {n : Nat} {O : Array Oper} {Q : Post} {E : Env} {ds : List Deferred} {w : World} {l : List Oper}
variable {dst : Option Nat} {ty : TypeId} {pos : String} {af : Array Edge} {g : Option (Nat × Bool)}
theorem flat_nth {α : Type} {zs : List α} : ∀ (m j : Nat), j < m * zs.length → ((List.replicate m zs).flatten)[j]? = zs[j % zs.length]?
  | 0, j, h => by simp at h
  | m + 1, j, h => by
    rw [List.replicate_succ, List.flatten_cons]
    by_cases hj : j < zs.length
    · rw [List.getElem?_append_left hj, Nat.mod_eq_of_lt hj]
    · have e : j % zs.length = (j - zs.length) % zs.length := Nat.mod_eq_sub_mod (by omega)
      rw [List.getElem?_append_right (by omega), flat_nth m (j - zs.length) (by rw [Nat.succ_mul] at h; omega), e]
theorem st_makeZ {t e : TypeId} {x y : Operand} {zs cs : List Value} {kl kc : IntKind} (m : Nat) (ht : P.underlying t = some (.slice e)) (hz : zeroB P e zs) (hi : (P.info? e).any (fun i => Nat.beq (i.size) zs.length && Nat.ble i.bytes 1000000) = true) (h0 : 0 < zs.length) (hl : zs.length ≤ 1000) (hm : m ≤ 1000) (hcs : (List.replicate m zs).flatten = cs) (hx : ev E x = .int kl (m : Int)) (hy : ev E y = .int kc (m : Int))
    (h : ∀ b w', b = w.heap.size → Chg [] w w' → Blk w' b cs e → wops P r n O Q l (updo E dst (.slice (some ⟨b, 0, none⟩) m m)) ds w') : wop P r n O Q ⟨dst, .makeSlice t x y, ty, pos, af, g⟩ l E ds w := by
  obtain ⟨i, z, h1, h2, h3⟩ := hz
  rw [h1] at hi
  simp only [Option.any_some, Bool.and_eq_true] at hi
  have hs := Nat.eq_of_beq_eq_true hi.1
  have hb := Nat.le_of_ble_eq_true hi.2
  have hbm : i.bytes * m ≤ 1000000 * 1000 := Nat.mul_le_mul hb hm
  have hsm : m * zs.length ≤ 1000 * 1000 := Nat.mul_le_mul hm hl
  have hr := run_makeSlice (P := P) (w := w) t e i z ht h1 h2 kl kc (m : Int) (m : Int) (by omega) (by omega) (by rw [hs]; simp only [Int.toNat_natCast]; omega) (by have h9 : ((i.bytes * m : Nat) : Int) ≤ ((1000000 * 1000 : Nat) : Int) := Int.ofNat_le.2 hbm; rw [Int.natCast_mul] at h9; omega) (by omega)
  have hmm : madeCells z.cells ((m : Int).toNat * i.size) = ⟨cs⟩ := by
    rw [h3, hs, Int.toNat_natCast, ← hcs]
    apply Array.ext'
    apply List.ext_getElem?
    intro j
    simp only [madeCells, Array.toList_map, Array.toList_range, List.getElem?_map]
    by_cases hj : j < m * zs.length
    · rw [List.getElem?_range hj, flat_nth m j hj]
      have hlt : j % zs.length < zs.length := Nat.mod_lt _ h0
      simp [hlt]
    · rw [List.getElem?_eq_none (by simpa using hj), List.getElem?_eq_none (by simp [List.length_flatten]; omega)]; rfl
  rw [hmm] at hr
  refine wop_run (w' := w.alloc (.cells ⟨cs⟩ e)) (fun _ => by simp) ?_ (h w.heap.size _ rfl (Chg.alloc w _) (Blk.new w cs e))
  simp only [execOp, hx, hy, Sem.run_bind, hr, Result.andThen, Sem.run_pure, Int.toNat_natCast]
end make
abbrev n0C : List Value := [.int .i64 0, .int .i64 0, .int .i64 0, S [], .slice none 0 0, .int .i64 0]
def new8C : List Value := [.int .i64 2, .int .i64 7, .int .i64 0, S [], .slice none 0 0, .int .i64 0] ++ (n0C ++ (n0C ++ (n0C ++ (n0C ++ (n0C ++ (n0C ++ n0C))))))
theorem new8_spec (w : World) : CallR Tryz.prog 15 #[.int .i64 8, .int .i64 100] w fun v w' => (∃ bn, v = .tuple ⟨[.agg ⟨[.slice (some ⟨bn, 0, none⟩) 8 8, .int .i64 8, .int .i64 100]⟩, .int .i64 0]⟩ ∧ w.heap.size ≤ bn ∧ Blk w' bn new8C 36) ∧ Chg [] w w' := by
 refine callR_of_wp (args := [_, _]) Tryz.func15 rfl (Nat.le_of_ble_eq_true rfl) ?_
 have HC : Chg [] w w := .refl _
 refine sr rfl <| Wp rfl <| st_alloc T.zero24 ?_
 intro b1 w2 e3 c4 hb5
 have ge_b1 := gB e3 HC.size
 replace HC := HC.then c4
 clear e3
 refine aI rfl <| en <| x_seq <| sr rfl <| mI rfl <| Wp rfl <| st_lss rfl rfl <| mB rfl <| w_split (d := 9) rfl (fun g6 => ?_) (fun g6 => ?_)
 ·try simp only [nm, ne_eq] at g6
  first | exact absurd rfl g6 | exact absurd trivial g6 | (simp at g6; done) | (exfalso; omega)
 ·try simp only [nm, ne_eq] at g6
  refine w_yes 2 9 false <| st_move (v := .int _ _) rfl <| w_yes 2 9 false <| st_gtr rfl rfl <| pF rfl rfl <| mB rfl <| w_split (d := 13) rfl (fun g7 => ?_) (fun g7 => ?_)
  ·try simp only [nm, ne_eq] at g7
   first | exact absurd rfl g7 | exact absurd trivial g7 | (simp at g7; done) | (exfalso; omega)
  ·try simp only [nm, ne_eq] at g7
   refine w_yes 6 13 false <| st_move (v := .int _ _) rfl <| w_yes 6 13 false <| st_lss rfl rfl <| pF rfl rfl <| mB rfl <| w_split (d := 17) rfl (fun g8 => ?_) (fun g8 => ?_)
   ·try simp only [nm, ne_eq] at g8
    first | exact absurd rfl g8 | exact absurd trivial g8 | (simp at g8; done) | (exfalso; omega)
   ·try simp only [nm, ne_eq] at g8
    refine w_yes 10 17 false <| st_move (v := .int _ _) rfl <| w_yes 10 17 false <| st_gtr rfl rfl <| pF rfl rfl <| en <| x_cond rfl (fun h0 => ?_) (fun h0 => ?_)
    ·try simp only [nm, ne_eq] at h0
     first | exact absurd rfl h0 | exact absurd trivial h0 | (simp at h0; done) | (exfalso; omega)
    ·try simp only [nm, ne_eq] at h0
     refine x_skip <| then_n <| sr rfl <| mI rfl <| Wp rfl <| st_makeZ 8 (cs := n0C ++ (n0C ++ (n0C ++ (n0C ++ (n0C ++ (n0C ++ (n0C ++ n0C))))))) T.u22 T.zero36 (by kernel_rfl) (by decide) (by decide) (by decide) rfl rfl rfl ?_
     intro bn w9 e10 c11 hb12
     have ge_bn := gB e10 HC.size
     have ne_b1_bn := nF e10 hb5.ne_size
     replace HC := HC.then c11
     replace hb5 := hb5.tr0 c11
     clear e10
     refine mI rfl <| mI rfl <| Wp rfl <| st_bld (ps := [(0, .tmp 23), (1, .tmp 24), (2, .tmp 25)]) (vs := [.slice _ _ _, .int _ _, .int _ _]) T.bld24 rfl <| Wp rfl <| st_alloc T.zero24 ?_
     intro b13 w14 e15 c16 hb17
     have ge_b13 := gB e15 HC.size
     have ne_b1_b13 := nF e15 hb5.ne_size
     have ne_bn_b13 := nF e15 hb12.ne_size
     replace HC := HC.then c16
     replace hb5 := hb5.tr0 c16
     replace hb12 := hb12.tr0 c16
     clear e15
     refine Wp rfl <| st_st (v := .agg ⟨[_, _, _]⟩) T.size24 rfl rfl rfl hb17 ?_
     intro w18 c19 hb20; simp only [setVs, setV] at hb20
     clear hb17
     replace HC := HC.then1 c19 ge_b13
     replace hb5 := hb5.tr1 c19 ne_b1_b13
     replace hb12 := hb12.tr1 c19 ne_bn_b13
     refine en <| sr rfl <| fa T.fld24_0 rfl <| lL T.one22 rfl (hb20.cell rfl) <| Wp rfl <| st_bld (ps := [(0, .const (.int .i64 2)), (1, .const (.int .i64 7))]) (vs := [.int _ _, .int _ _, .int _ _, S _, .slice _ _ _, .int _ _]) T.bld36 rfl <| Wp rfl <| st_indexAddr T.u22 T.size36 rfl rfl (by decide) (by decide) <| Wp rfl <| st_st (v := .agg ⟨[_, _, _, _, _, _]⟩) T.size36 rfl rfl rfl hb12 ?_
     intro w21 c22 hb23; simp only [setVs, setV] at hb23
     clear hb12
     replace HC := HC.then1 c22 ge_bn
     replace hb5 := hb5.tr1 c22 ne_b1_bn
     replace hb20 := hb20.tr1 c22 (Ne.symm ne_bn_b13)
     refine en <| sr rfl <| Wp rfl <| st_loadA (vs := [_, _, _]) T.agg24 rfl (hb20.cells (n := 3) (vs := [_, _, _]) rfl) rfl <| Wp rfl <| st_st (v := .agg ⟨[_, _, _]⟩) T.size24 rfl rfl rfl hb5 ?_
     intro w24 c25 hb26; simp only [setVs, setV] at hb26
     clear hb5
     replace HC := HC.then1 c25 ge_b1
     replace hb23 := hb23.tr1 c25 (Ne.symm ne_b1_bn)
     refine aI rfl <| en <| x_ret <| ret_many (vs := [.agg ⟨[_, _, _]⟩, .int _ _]) rfl ⟨⟨_, _, rfl, run_loadVarA T.agg24 (hb26.cells (n := 3) rfl) rfl⟩, ⟨rfl, trivial⟩⟩ (Nat.le_of_ble_eq_true rfl) ?_
     exact ⟨⟨bn, rfl, ge_bn, hb23⟩, HC⟩
def zn0 : Ino := ⟨0, 0, 0, [], [], 0⟩
def new8Z : Tre := [⟨2, 7, 0, [], [], 0⟩, zn0, zn0, zn0, zn0, zn0, zn0, zn0]
theorem new8_chunks {w : World} {D : Nat → Prop} : Chunks inE w D new8Z new8C := by
  have h0 : inE.R w D ⟨2, 7, 0, [], [], 0⟩ [.int .i64 2, .int .i64 7, .int .i64 0, S [], .slice none 0 0, .int .i64 0] := ⟨none, 0, rfl, Nat.le_refl _, by decide, Sl.nil⟩
  have h1 : inE.R w D zn0 n0C := ⟨none, 0, rfl, Nat.le_refl _, by decide, Sl.nil⟩
  exact Chunks.cons h0 (Chunks.cons h1 (Chunks.cons h1 (Chunks.cons h1 (Chunks.cons h1 (Chunks.cons h1 (Chunks.cons h1 (Chunks.one h1)))))))
theorem new8_sl {w : World} {bn : Nat} (h : Blk w bn new8C 36) : Sl inE w (fun k => k = bn) (some ⟨bn, 0, none⟩) new8Z := (Own.of_blk (D := fun k => k = bn) (xs := new8Z) h rfl (by decide) new8_chunks).sl
theorem own_cells {w : World} {D : Nat → Prop} {A : Option Addr} {cap : Nat} {Z : Tre} {e : TypeId} (h : Own inE e w D A cap Z) (hz : Z ≠ []) : ∃ g cs, A = some ⟨g, 0, none⟩ ∧ Blk w g cs e ∧ Z.length ≤ cap ∧ Z.length * 6 ≤ cs.length ∧ ∀ (i : Nat) (x : Ino), Z[i]? = some x → ∃ K c, c ≤ 9223372036854775807 ∧ ∀ j v, ([.int .i64 x.kind, .int .i64 x.mode, .int .i64 x.links, S x.data, .slice K x.kids.length c, .int .i64 x.up] : List Value)[j]? = some v → cs[i * 6 + j]? = some v := by
  obtain ⟨cs, h1, h2, h3⟩ := h
  rcases h1.2 with ⟨h4, h5⟩ | ⟨g, cp, cur, h4, _, h6, h7, h8, h9, h10⟩
  · exact absurd (List.eq_nil_of_length_eq_zero h5) hz
  · simp only [Value.slice.injEq] at h4; obtain ⟨rfl, _, rfl⟩ := h4
    have hsz : inE.sz = 6 := rfl
    rw [hsz] at h9 h10
    refine ⟨g, cur.toList, rfl, h6, h7, ?_, fun i x hx => ?_⟩
    · have h99 : cur.toList.length = cap * 6 := by rw [Array.length_toList]; exact h9
      rw [h99]; exact Nat.mul_le_mul_right 6 h7
    · obtain ⟨vs, ⟨K, c, h11, _, hcb, _⟩, h12⟩ := h3.2 i x hx
      refine ⟨K, c, hcb, fun j v hj => ?_⟩
      have h13 := h12 j v (by rw [h11]; exact hj)
      rw [hsz, ← h10] at h13
      rw [List.getElem?_take] at h13
      split at h13
      · exact h13
      · cases h13
theorem own_spec {Z : Tre} {An : Option Addr} {capn : Nat} {mx my : Int} {D : Nat → Prop} {w : World} (hT : Sl inE w D An Z) (hTl : Z.length ≤ 1000000000) (hZn : Z ≠ []) : CallR Tryz.prog 16 #[.agg ⟨[.slice An Z.length capn, .int .i64 mx, .int .i64 my]⟩] w fun v w' => (∃ A cap, v = .agg ⟨[.slice A Z.length cap, .int .i64 mx, .int .i64 my]⟩ ∧ Own inE 36 w' (fun k => True) A cap Z ∧ ∀ g, g ∈ ob A → w.heap.size ≤ g) ∧ Chg [] w w' := by
 replace hT := hT.mono (D' := fun k => k < w.heap.size) (fun k hk _ => hk)
 obtain ⟨b0, o0, rfl⟩ : ∃ b o, An = some ⟨b, o, none⟩ := by rcases hT with h | ⟨b, o, h, _⟩; (exact absurd h hZn); exact ⟨b, o, h⟩
 refine callR_of_wp (args := [_]) Tryz.func16 rfl (Nat.le_of_ble_eq_true rfl) ?_
 have HC : Chg [] w w := .refl _
 refine sr rfl <| Wp rfl <| st_box (v := .agg ⟨[.slice _ _ _, .int _ _, .int _ _]⟩) (vs := [_, _, _]) rfl rfl ?_
 intro b1 w1 e2 c3 hb4
 have ge_b1 := gB e2 HC.size
 replace HC := HC.then c3
 replace hT := hT.tr0 c3
 clear e2
 refine Wp rfl <| st_alloc T.zero24 ?_
 intro b2 w5 e6 c7 hb8
 have ge_b2 := gB e6 HC.size
 have ne_b1_b2 := nF e6 hb4.ne_size
 replace HC := HC.then c7
 replace hT := hT.tr0 c7
 replace hb4 := hb4.tr0 c7
 clear e6
 refine en <| sr rfl <| aL rfl <| en <| sr rfl <| mL rfl <| fa T.fld24_0 rfl <| lL T.one22 rfl (hb4.cell rfl) ?_
 have hoN : Own inE 36 w5 (fun k => k < w.heap.size ∨ w5.heap.size ≤ k) none 0 ([] : Tre) := Own.nil
 obtain ⟨b9, o9, he9, hb9, hd9, hel9⟩ := (hT).resolve_left hZn
 cases he9
 have hszO := HC.size
 refine Wp rfl <| st_append2 (c := inE) (D2 := fun k => k < w.heap.size) (xs := ([] : Tre)) (ys := Z) T.slice22 rfl rfl hoN rfl rfl hel9 (fun _ _ h => ⟨.inl h, by simp [ob]⟩) (fun _ h => .inr h) (by simp only [List.length_nil]; omega) (by simp only [List.length_nil]; omega) ?_
 intro A9 cap10 w11 ho12 c13 hg14
 replace c13 : Chg [] _ w11 := c13
 rw [List.nil_append] at ho12
 have hb1w := hb4.lt
 have hb2w := hb8.lt
 have hgo : ∀ k, k ∈ ob A9 → w.heap.size ≤ k ∧ k ≠ b1 ∧ k ≠ b2 := fun k hk => by have h9 := (hg14 k hk).resolve_left (by simp [ob]); have h8 := hb4.lt; have h7 := hb8.lt; omega
 replace HC := HC.then c13
 replace hb4 := hb4.tr0 c13
 replace hb8 := hb8.tr0 c13
 refine fa T.fld24_0 rfl <| Wp rfl <| st_st (v := .slice _ _ _) T.size22 rfl rfl rfl hb4 ?_
 intro w15 c16 hb17; simp only [setVs, setV] at hb17
 clear hb4
 replace HC := HC.then1 c16 ge_b1
 replace hb8 := hb8.tr1 c16 (Ne.symm ne_b1_b2)
 replace ho12 := ho12.tr c16 (by intro k hx hD; simp only [List.mem_cons, List.mem_nil_iff, or_false] at hx; have h8 := hb1w; have h7 := hb2w; omega)
 refine en <| sr rfl <| Wp rfl <| st_loadA (vs := [_, _, _]) T.agg24 rfl (hb17.cells (n := 3) (vs := [_, _, _]) rfl) rfl <| Wp rfl <| st_st (v := .agg ⟨[_, _, _]⟩) T.size24 rfl rfl rfl hb8 ?_
 intro w18 c19 hb20; simp only [setVs, setV] at hb20
 clear hb8
 replace HC := HC.then1 c19 ge_b2
 replace ho12 := ho12.tr c19 (by intro k hx hD; simp only [List.mem_cons, List.mem_nil_iff, or_false] at hx; have h8 := hb1w; have h7 := hb2w; omega)
 refine en <| x_ret <| ret_cellA (vs := [_, _, _]) rfl rfl T.agg24 (hb20.cells (n := 3) rfl) rfl ?_
 exact ⟨⟨A9, cap10, rfl, ho12.mono (fun _ _ _ => trivial), fun g hg => (hgo g hg).1⟩, HC⟩
end Go.Proofs.YtncnalboiljgiaaGreat.K
namespace Go.Proofs.YtncnalboiljgiaaGreat.K
open Go Go.Proofs Go.RowKit
theorem drop_chunk {cs vs : List Value} {n : Nat} (h : ∀ j v, vs[j]? = some v → cs[n + j]? = some v) : cs.drop n = vs ++ cs.drop (n + vs.length) := by
  apply List.ext_getElem?; intro i
  rw [List.getElem?_drop]
  by_cases hi : i < vs.length
  · rw [List.getElem?_append_left hi, List.getElem?_eq_getElem hi]; exact h i _ (List.getElem?_eq_getElem hi)
  · rw [List.getElem?_append_right (by omega), List.getElem?_drop, show n + vs.length + (i - vs.length) = n + i by omega]
theorem own8_cells {w : World} {D : Nat → Prop} {A : Option Addr} {cap : Nat} {e : TypeId} (h : Own inE e w D A cap new8Z) : ∃ g K0 c0 K1 c1 K2 c2 K3 c3 K4 c4 K5 c5 K6 c6 K7 c7 rest, A = some ⟨g, 0, none⟩ ∧ 8 ≤ cap ∧ (c5 ≤ 9223372036854775807 ∧ c6 ≤ 9223372036854775807 ∧ c7 ≤ 9223372036854775807) ∧ Blk w g (.int .i64 2 :: .int .i64 7 :: .int .i64 0 :: S [] :: .slice K0 0 c0 :: .int .i64 0 :: .int .i64 0 :: .int .i64 0 :: .int .i64 0 :: S [] :: .slice K1 0 c1 :: .int .i64 0 :: .int .i64 0 :: .int .i64 0 :: .int .i64 0 :: S [] :: .slice K2 0 c2 :: .int .i64 0 :: .int .i64 0 :: .int .i64 0 :: .int .i64 0 :: S [] :: .slice K3 0 c3 :: .int .i64 0 :: .int .i64 0 :: .int .i64 0 :: .int .i64 0 :: S [] :: .slice K4 0 c4 :: .int .i64 0 :: .int .i64 0 :: .int .i64 0 :: .int .i64 0 :: S [] :: .slice K5 0 c5 :: .int .i64 0 :: .int .i64 0 :: .int .i64 0 :: .int .i64 0 :: S [] :: .slice K6 0 c6 :: .int .i64 0 :: .int .i64 0 :: .int .i64 0 :: .int .i64 0 :: S [] :: .slice K7 0 c7 :: .int .i64 0 :: rest) e := by
  obtain ⟨g, cs, hA, hb, h8, hl, hc⟩ := own_cells h (by unfold new8Z; simp)
  obtain ⟨K0, c0, z0, h10⟩ := hc 0 ⟨2, 7, 0, [], [], 0⟩ (by rfl)
  have q0 := drop_chunk (n := 0) (fun j v hj => h10 j v hj)
  obtain ⟨K1, c1, z1, h11⟩ := hc 1 zn0 (by rfl)
  have q1 := drop_chunk (n := 6) (fun j v hj => h11 j v hj)
  obtain ⟨K2, c2, z2, h12⟩ := hc 2 zn0 (by rfl)
  have q2 := drop_chunk (n := 12) (fun j v hj => h12 j v hj)
  obtain ⟨K3, c3, z3, h13⟩ := hc 3 zn0 (by rfl)
  have q3 := drop_chunk (n := 18) (fun j v hj => h13 j v hj)
  obtain ⟨K4, c4, z4, h14⟩ := hc 4 zn0 (by rfl)
  have q4 := drop_chunk (n := 24) (fun j v hj => h14 j v hj)
  obtain ⟨K5, c5, z5, h15⟩ := hc 5 zn0 (by rfl)
  have q5 := drop_chunk (n := 30) (fun j v hj => h15 j v hj)
  obtain ⟨K6, c6, z6, h16⟩ := hc 6 zn0 (by rfl)
  have q6 := drop_chunk (n := 36) (fun j v hj => h16 j v hj)
  obtain ⟨K7, c7, z7, h17⟩ := hc 7 zn0 (by rfl)
  have q7 := drop_chunk (n := 42) (fun j v hj => h17 j v hj)
  refine ⟨g, K0, c0, K1, c1, K2, c2, K3, c3, K4, c4, K5, c5, K6, c6, K7, c7, cs.drop 48, hA, h8, ⟨z5, z6, z7⟩, ?_⟩
  have e : cs = _ := (List.drop_zero (l := cs)).symm
  rw [q0] at e
  rw [show (0 + List.length _ : Nat) = 6 from rfl, q1] at e
  rw [show (6 + List.length _ : Nat) = 12 from rfl, q2] at e
  rw [show (12 + List.length _ : Nat) = 18 from rfl, q3] at e
  rw [show (18 + List.length _ : Nat) = 24 from rfl, q4] at e
  rw [show (24 + List.length _ : Nat) = 30 from rfl, q5] at e
  rw [show (30 + List.length _ : Nat) = 36 from rfl, q6] at e
  rw [show (36 + List.length _ : Nat) = 42 from rfl, q7] at e
  rw [e] at hb
  exact hb
def awZ : Tre := [⟨2, 7, 0, [], [([46, 100], 3), ([97], 1), ([98], 2)], 0⟩, ⟨1, 6, 1, [], [], 0⟩, ⟨2, 7, 1, [], [([99], 4)], 0⟩, ⟨1, 6, 1, [], [], 0⟩, ⟨1, 6, 1, [], [], 0⟩, zn0, zn0, zn0]
theorem awZ_mem {x : Ino} (h : x ∈ awZ) : x = ⟨2, 7, 0, [], [([46, 100], 3), ([97], 1), ([98], 2)], 0⟩ ∨ x = ⟨1, 6, 1, [], [], 0⟩ ∨ x = ⟨2, 7, 1, [], [([99], 4)], 0⟩ ∨ x = zn0 := by
  unfold awZ at h
  simp only [List.mem_cons, List.mem_nil_iff, or_false] at h
  rcases h with h | h | h | h | h | h | h | h <;> simp [h]
theorem awZ_fit : FitT awZ where
  few := by decide
  kids := fun x hx => by
    rcases awZ_mem hx with rfl | rfl | rfl | rfl
    · exact ⟨by unfold RiseK; decide, by decide, by decide⟩
    · exact ⟨List.Pairwise.nil, by decide, fun p hp => by cases hp⟩
    · exact ⟨by unfold RiseK; decide, by decide, by decide⟩
    · exact ⟨List.Pairwise.nil, by decide, fun p hp => by cases hp⟩
  up := fun x hx _ => by rcases awZ_mem hx with rfl | rfl | rfl | rfl <;> decide
  data := fun x hx => by rcases awZ_mem hx with rfl | rfl | rfl | rfl <;> decide
  kind := fun x hx => by rcases awZ_mem hx with rfl | rfl | rfl | rfl <;> decide
  root := by decide
  mode := fun x hx => by rcases awZ_mem hx with rfl | rfl | rfl | rfl <;> decide
theorem awZ_names : NamesT awZ := by
  intro x hx e he
  rcases awZ_mem hx with rfl | rfl | rfl | rfl
  · revert e; decide
  · cases he
  · revert e; decide
  · cases he
theorem sort1 (x : Bytes) : sortB [x] = [x] := sortB_eq (List.Perm.refl _) (by simp)
theorem exp_of {Z : Tre} {cwd : Int} {p q : Bytes} {l : List Bytes} (h : magicV p q = true) (h2 : expG Z cwd (if Lib.hasSuffix p [47] = true then [47] else []) (gPartsV p q) [if (byte p 0).toNat = 47 then [47] else []] = some l) : expandV Z cwd p q = sortB l := by
  unfold expandV; rw [if_neg (by rw [h]; simp), h2]
theorem aw_a : expandV awZ 0 [42] [] = [[97], [98]] := by
  rw [exp_of (l := [[97], [98]]) (by kernel_rfl) (by kernel_rfl)]
  exact sortB_eq (List.Perm.refl _) (by simp [leB]; decide)
theorem aw_b : expandV awZ 0 [46, 42] [] = [[46, 100]] := by rw [exp_of (l := [[46, 100]]) (by kernel_rfl) (by kernel_rfl)]; exact sort1 _
theorem aw_c : expandV awZ 0 [42, 47, 99] [] = [[98, 47, 99]] := by rw [exp_of (l := [[98, 47, 99]]) (by kernel_rfl) (by kernel_rfl)]; exact sort1 _
theorem aw_d : expandV awZ 0 [120, 42] [] = [] := by rw [exp_of (l := []) (by kernel_rfl) (by kernel_rfl)]; exact sortB_eq (List.Perm.refl _) List.Pairwise.nil
theorem chunks_flat {α : Type} {sz : Nat} {f : α → List Value} {h1 h2 h3} {w : World} {D : Nat → Prop} : ∀ xs : List α, Chunks (Enc.flat sz f h1 h2 h3) w D xs (xs.flatMap f)
  | [] => .nil
  | x :: xs => by rw [List.flatMap_cons]; exact Chunks.cons rfl (chunks_flat xs)
theorem sl_lit {α : Type} {sz : Nat} {f : α → List Value} {h1 h2 h3} {w : World} {b : Nat} {T' : TypeId} (xs : List α) (hm : xs.length ≤ 9223372036854775807) (h : Blk w b (xs.flatMap f) T') : Sl (Enc.flat sz f h1 h2 h3) w (fun k => k = b) (some ⟨b, 0, none⟩) xs :=
  (Own.of_blk (D := fun k => k = b) h rfl hm (chunks_flat xs)).sl
theorem aw_sl {w : World} {g k0 k1 c5 c6 c7 : Nat} {K5 K6 K7 : Option Addr} {rest : List Value} (hc5 : c5 ≤ 9223372036854775807) (hc6 : c6 ≤ 9223372036854775807) (hc7 : c7 ≤ 9223372036854775807) (h : Blk w g (.int .i64 2 :: .int .i64 7 :: .int .i64 0 :: S [] :: .slice (some ⟨k0, 0, none⟩) 3 3 :: .int .i64 0 :: .int .i64 1 :: .int .i64 6 :: .int .i64 1 :: S [] :: .slice none 0 0 :: .int .i64 0 :: .int .i64 2 :: .int .i64 7 :: .int .i64 1 :: S [] :: .slice (some ⟨k1, 0, none⟩) 1 1 :: .int .i64 0 :: .int .i64 1 :: .int .i64 6 :: .int .i64 1 :: S [] :: .slice none 0 0 :: .int .i64 0 :: .int .i64 1 :: .int .i64 6 :: .int .i64 1 :: S [] :: .slice none 0 0 :: .int .i64 0 :: .int .i64 0 :: .int .i64 0 :: .int .i64 0 :: S [] :: .slice K5 0 c5 :: .int .i64 0 :: .int .i64 0 :: .int .i64 0 :: .int .i64 0 :: S [] :: .slice K6 0 c6 :: .int .i64 0 :: .int .i64 0 :: .int .i64 0 :: .int .i64 0 :: S [] :: .slice K7 0 c7 :: .int .i64 0 :: rest) 36) (h0 : Blk w k0 [S [46, 100], .int .i64 3, S [97], .int .i64 1, S [98], .int .i64 2] 38) (h1 : Blk w k1 [S [99], .int .i64 4] 38) : Sl inE w (fun k => k = g ∨ k = k0 ∨ k = k1) (some ⟨g, 0, none⟩) awZ := by
  refine .inr ⟨g, 0, rfl, h.lt, .inl rfl, fun i x hx => ?_⟩
  have e0 : Sl keE w (fun k => k = g ∨ k = k0 ∨ k = k1) (some ⟨k0, 0, none⟩) [([46, 100], 3), ([97], 1), ([98], 2)] := (sl_lit [([46, 100], 3), ([97], 1), ([98], 2)] (by decide) h0).mono (fun k _ h => .inr (.inl h))
  have e1 : Sl keE w (fun k => k = g ∨ k = k0 ∨ k = k1) (some ⟨k1, 0, none⟩) [([99], 4)] := (sl_lit [([99], 4)] (by decide) h1).mono (fun k _ h => .inr (.inr h))
  have hi := (List.getElem?_eq_some_iff.1 hx).1
  have hi : i < 8 := hi
  match i, hi with
  | 0, _ =>
    cases hx
    exact ⟨[.int .i64 2, .int .i64 7, .int .i64 0, S [], .slice (some ⟨k0, 0, none⟩) 3 3, .int .i64 0], ⟨(some ⟨k0, 0, none⟩), 3, rfl, by decide, by decide, e0⟩, h.cells (n := 6) rfl⟩
  | 1, _ =>
    cases hx
    exact ⟨[.int .i64 1, .int .i64 6, .int .i64 1, S [], .slice none 0 0, .int .i64 0], ⟨none, 0, rfl, by decide, by decide, Sl.nil⟩, h.cells (n := 6) rfl⟩
  | 2, _ =>
    cases hx
    exact ⟨[.int .i64 2, .int .i64 7, .int .i64 1, S [], .slice (some ⟨k1, 0, none⟩) 1 1, .int .i64 0], ⟨(some ⟨k1, 0, none⟩), 1, rfl, by decide, by decide, e1⟩, h.cells (n := 6) rfl⟩
  | 3, _ =>
    cases hx
    exact ⟨[.int .i64 1, .int .i64 6, .int .i64 1, S [], .slice none 0 0, .int .i64 0], ⟨none, 0, rfl, by decide, by decide, Sl.nil⟩, h.cells (n := 6) rfl⟩
  | 4, _ =>
    cases hx
    exact ⟨[.int .i64 1, .int .i64 6, .int .i64 1, S [], .slice none 0 0, .int .i64 0], ⟨none, 0, rfl, by decide, by decide, Sl.nil⟩, h.cells (n := 6) rfl⟩
  | 5, _ =>
    cases hx
    exact ⟨[.int .i64 0, .int .i64 0, .int .i64 0, S [], .slice K5 0 c5, .int .i64 0], ⟨K5, c5, rfl, Nat.zero_le _, hc5, Sl.nil⟩, h.cells (n := 6) rfl⟩
  | 6, _ =>
    cases hx
    exact ⟨[.int .i64 0, .int .i64 0, .int .i64 0, S [], .slice K6 0 c6, .int .i64 0], ⟨K6, c6, rfl, Nat.zero_le _, hc6, Sl.nil⟩, h.cells (n := 6) rfl⟩
  | 7, _ =>
    cases hx
    exact ⟨[.int .i64 0, .int .i64 0, .int .i64 0, S [], .slice K7 0 c7, .int .i64 0], ⟨K7, c7, rfl, Nat.zero_le _, hc7, Sl.nil⟩, h.cells (n := 6) rfl⟩
theorem own8_spec {w : World} {bn : Nat} (h : Blk w bn new8C 36) : CallR Tryz.prog 16 #[.agg ⟨[.slice (some ⟨bn, 0, none⟩) 8 8, .int .i64 8, .int .i64 100]⟩] w fun v w' => (∃ A cap, v = .agg ⟨[.slice A 8 cap, .int .i64 8, .int .i64 100]⟩ ∧ Own inE 36 w' (fun k => True) A cap new8Z ∧ ∀ g, g ∈ ob A → w.heap.size ≤ g) ∧ Chg [] w w' := by
  have hl : new8Z.length = 8 := rfl
  have h9 := own_spec (Z := new8Z) (capn := 8) (mx := 8) (my := 100) (new8_sl h) (by rw [hl]; omega) (by unfold new8Z; simp)
  rw [hl] at h9
  exact h9
theorem aw_exp {w : World} {An : Option Addr} {capn : Nat} {D : Nat → Prop} (hT : Sl inE w D An awZ) (p : Bytes) (hmx : MaxT w) (hp : p.length ≤ 300) : CallR Tryz.prog 10 #[.agg ⟨[.slice An 8 capn, .int .i64 8, .int .i64 100]⟩, .int .i64 0, S p, S []] w fun v w' => (∃ A cap, v = .slice A (expandV awZ 0 p []).length cap ∧ (expandV awZ 0 p []).length ≤ cap ∧ Sl sE w' (fun k => w.heap.size ≤ k) A (expandV awZ 0 p [])) ∧ Chg [] w w' := by
  have hl : awZ.length = 8 := rfl
  have h9 := gExpand_spec (Z := awZ) (capn := capn) (mx := 8) (my := 100) (cwd := 0) hT (by rw [hl]; omega) awZ_fit awZ_names p [] hmx hp (by simp)
  rw [hl] at h9
  exact h9
set_option maxHeartbeats 1600000 in
theorem awake11_spec {w : World} (hmx : MaxT w) : CallR Tryz.prog 8 #[] w fun v w' => v = .bool true ∧ Chg [] w w' := by
 refine callR_of_wp (args := []) Tryz.func8 rfl (Nat.le_of_ble_eq_true rfl) ?_
 have HC : Chg [] w w := .refl _
 have hm1 := hmx.lt
 refine sr rfl <| aB rfl <| en <| sr rfl <| Wp rfl <| st_call (ags := [_, _]) rfl rfl T.ent15 rfl (new8_spec _) ?_
 rintro _ w1 ⟨⟨bn, rfl, hgn, hbn⟩, c2⟩
 have ge_bn : w.heap.size ≤ bn := Nat.le_trans HC.size hgn
 replace HC := HC.then c2
 replace hmx := hmx.tr0 c2
 refine mv (v := .tuple ⟨[_, _]⟩) rfl <| Wp rfl <| st_extract (vs := [_, _]) (v := .agg ⟨[.slice _ _ _, .int _ _, .int _ _]⟩) rfl rfl <| Wp rfl <| st_extract (vs := [_, _]) (v := .int _ _) rfl rfl <| Wp rfl <| st_alloc T.zero24 ?_
 intro b1 w3 e4 c5 hb6
 have ge_b1 := gB e4 HC.size
 have ne_bn_b1 := nF e4 hbn.ne_size
 replace HC := HC.then c5
 replace hmx := hmx.tr0 c5
 replace hbn := hbn.tr0 c5
 clear e4
 refine Wp rfl <| st_st (v := .agg ⟨[_, _, _]⟩) T.size24 rfl rfl rfl hb6 ?_
 intro w7 c8 hb9; simp only [setVs, setV] at hb9
 clear hb6
 replace HC := HC.then1 c8 ge_b1
 replace hmx := hmx.tr c8 q1
 replace hbn := hbn.tr1 c8 ne_bn_b1
 refine aI rfl <| en <| sr rfl <| Wp rfl <| st_loadA (vs := [_, _, _]) T.agg24 rfl (hb9.cells (n := 3) (vs := [_, _, _]) rfl) rfl <| Wp rfl <| st_call (ags := [_]) rfl rfl T.ent16 rfl (own8_spec hbn) ?_
 rintro _ w10 ⟨⟨A8, cap8, rfl, hown, hgo⟩, c11⟩
 have hbo := hown
 obtain ⟨g, K0, c0, K1, c1, K2, c2, K3, c3, K4, c4, K5, c5, K6, c6, K7, c7, rest, rfl, hc8, ⟨hz5, hz6, hz7⟩, hbg⟩ := own8_cells hown
 have hgg := hgo g (by simp [ob])
 have ge_g : w.heap.size ≤ g := Nat.le_trans HC.size hgg
 have ne_bn_g : bn ≠ g := Nat.ne_of_lt (Nat.lt_of_lt_of_le hbn.lt hgg)
 have ne_b1_g : b1 ≠ g := Nat.ne_of_lt (Nat.lt_of_lt_of_le hb9.lt hgg)
 replace HC := HC.then c11
 replace hmx := hmx.tr0 c11
 replace hbn := hbn.tr0 c11
 replace hb9 := hb9.tr0 c11
 refine Wp rfl <| st_st (v := .agg ⟨[_, _, _]⟩) T.size24 rfl rfl rfl hb9 ?_
 intro w12 c13 hb14; simp only [setVs, setV] at hb14
 clear hb9
 replace HC := HC.then1 c13 ge_b1
 replace hmx := hmx.tr c13 q1
 replace hbn := hbn.tr1 c13 ne_bn_b1
 replace hbg := hbg.tr1 c13 (Ne.symm ne_b1_g)
 refine en <| sr rfl <| fa T.fld24_0 rfl <| lL T.one22 rfl (hb14.cell rfl) <| Wp rfl <| st_bld (ps := [(0, .const (S [46, 100])), (1, .const (.int .i64 3))]) (vs := [S _, .int _ _]) T.bld38 rfl <| Wp rfl <| st_bld (ps := [(0, .const (S [97])), (1, .const (.int .i64 1))]) (vs := [S _, .int _ _]) T.bld38 rfl <| Wp rfl <| st_bld (ps := [(0, .const (S [98])), (1, .const (.int .i64 2))]) (vs := [S _, .int _ _]) T.bld38 rfl <| Wp rfl <| st_lit (ps := [(0, .tmp 11), (1, .tmp 12), (2, .tmp 13)]) (vs := [S _, .int _ _, S _, .int _ _, S _, .int _ _]) T.lit34 (by decide) rfl (by simp only [List.forall_mem_cons, List.not_mem_nil, false_imp_iff, implies_true, and_true]; exact ⟨rfl, rfl, rfl⟩) rfl ?_
 intro b15 w16 e17 c18 hb19
 have ge_b15 := gB e17 HC.size
 have ne_bn_b15 := nF e17 hbn.ne_size
 have ne_g_b15 := nF e17 hbg.ne_size
 have ne_b1_b15 := nF e17 hb14.ne_size
 replace HC := HC.then c18
 replace hmx := hmx.tr0 c18
 replace hbn := hbn.tr0 c18
 replace hbg := hbg.tr0 c18
 replace hb14 := hb14.tr0 c18
 clear e17
 refine Wp rfl <| st_indexAddr T.u22 T.size36 rfl rfl (by decide) (by decide) <| fa T.fld36_4 rfl <| Wp rfl <| st_st (v := .slice _ _ _) T.size34 rfl rfl rfl hbg ?_
 intro w20 c21 hb22; simp only [setVs, setV] at hb22
 clear hbg
 replace HC := HC.then1 c21 ge_g
 replace hmx := hmx.tr c21 q1
 replace hbn := hbn.tr1 c21 ne_bn_g
 replace hb14 := hb14.tr1 c21 ne_b1_g
 replace hb19 := hb19.tr1 c21 (Ne.symm ne_g_b15)
 refine en <| x_seq ?_
 replace hb22 : Blk w20 g (.int .i64 2 :: .int .i64 7 :: .int .i64 0 :: S [] :: .slice (some ⟨b15, 0, none⟩) 3 3 :: .int .i64 0 :: .int .i64 0 :: .int .i64 0 :: .int .i64 0 :: S [] :: .slice K1 0 c1 :: .int .i64 0 :: .int .i64 0 :: .int .i64 0 :: .int .i64 0 :: S [] :: .slice K2 0 c2 :: .int .i64 0 :: .int .i64 0 :: .int .i64 0 :: .int .i64 0 :: S [] :: .slice K3 0 c3 :: .int .i64 0 :: .int .i64 0 :: .int .i64 0 :: .int .i64 0 :: S [] :: .slice K4 0 c4 :: .int .i64 0 :: .int .i64 0 :: .int .i64 0 :: .int .i64 0 :: S [] :: .slice K5 0 c5 :: .int .i64 0 :: .int .i64 0 :: .int .i64 0 :: .int .i64 0 :: S [] :: .slice K6 0 c6 :: .int .i64 0 :: .int .i64 0 :: .int .i64 0 :: .int .i64 0 :: S [] :: .slice K7 0 c7 :: .int .i64 0 :: rest) 36 := hb22
 refine x_region rfl <| fa T.fld24_0 rfl <| lL T.one22 rfl (hb14.cell rfl) <| Wp rfl <| st_bld (ps := [(0, .const (.int .i64 1)), (1, .const (.int .i64 6)), (2, .const (.int .i64 1))]) (vs := [.int _ _, .int _ _, .int _ _, S _, .slice _ _ _, .int _ _]) T.bld36 rfl <| Wp rfl <| st_indexAddr T.u22 T.size36 rfl rfl (by decide) (by decide) <| Wp rfl <| st_st (v := .agg ⟨[_, _, _, _, _, _]⟩) T.size36 rfl rfl rfl hb22 ?_
 intro w23 c24 hb25; simp only [setVs, setV] at hb25
 clear hb22
 replace HC := HC.then1 c24 ge_g
 replace hmx := hmx.tr c24 q1
 replace hbn := hbn.tr1 c24 ne_bn_g
 replace hb14 := hb14.tr1 c24 ne_b1_g
 replace hb19 := hb19.tr1 c24 (Ne.symm ne_g_b15)
 refine en <| x_seq ?_
 replace hb25 : Blk w23 g (.int .i64 2 :: .int .i64 7 :: .int .i64 0 :: S [] :: .slice (some ⟨b15, 0, none⟩) 3 3 :: .int .i64 0 :: .int .i64 1 :: .int .i64 6 :: .int .i64 1 :: S [] :: .slice none 0 0 :: .int .i64 0 :: .int .i64 0 :: .int .i64 0 :: .int .i64 0 :: S [] :: .slice K2 0 c2 :: .int .i64 0 :: .int .i64 0 :: .int .i64 0 :: .int .i64 0 :: S [] :: .slice K3 0 c3 :: .int .i64 0 :: .int .i64 0 :: .int .i64 0 :: .int .i64 0 :: S [] :: .slice K4 0 c4 :: .int .i64 0 :: .int .i64 0 :: .int .i64 0 :: .int .i64 0 :: S [] :: .slice K5 0 c5 :: .int .i64 0 :: .int .i64 0 :: .int .i64 0 :: .int .i64 0 :: S [] :: .slice K6 0 c6 :: .int .i64 0 :: .int .i64 0 :: .int .i64 0 :: .int .i64 0 :: S [] :: .slice K7 0 c7 :: .int .i64 0 :: rest) 36 := hb25
 refine x_region rfl <| fa T.fld24_0 rfl <| lL T.one22 rfl (hb14.cell rfl) <| Wp rfl <| st_bld (ps := [(0, .const (S [99])), (1, .const (.int .i64 4))]) (vs := [S _, .int _ _]) T.bld38 rfl <| Wp rfl <| st_lit (ps := [(0, .tmp 23)]) (vs := [S _, .int _ _]) T.lit34 (by decide) rfl q6 rfl ?_
 intro b26 w27 e28 c29 hb30
 have ge_b26 := gB e28 HC.size
 have ne_bn_b26 := nF e28 hbn.ne_size
 have ne_b1_b26 := nF e28 hb14.ne_size
 have ne_b15_b26 := nF e28 hb19.ne_size
 have ne_g_b26 := nF e28 hb25.ne_size
 replace HC := HC.then c29
 replace hmx := hmx.tr0 c29
 replace hbn := hbn.tr0 c29
 replace hb14 := hb14.tr0 c29
 replace hb19 := hb19.tr0 c29
 replace hb25 := hb25.tr0 c29
 clear e28
 refine Wp rfl <| st_bld (ps := [(0, .const (.int .i64 2)), (1, .const (.int .i64 7)), (2, .const (.int .i64 1)), (4, .tmp 24)]) (vs := [.int _ _, .int _ _, .int _ _, S _, .slice _ _ _, .int _ _]) T.bld36 rfl <| Wp rfl <| st_indexAddr T.u22 T.size36 rfl rfl (by decide) (by decide) <| Wp rfl <| st_st (v := .agg ⟨[_, _, _, _, _, _]⟩) T.size36 rfl rfl rfl hb25 ?_
 intro w31 c32 hb33; simp only [setVs, setV] at hb33
 clear hb25
 replace HC := HC.then1 c32 ge_g
 replace hmx := hmx.tr c32 q1
 replace hbn := hbn.tr1 c32 ne_bn_g
 replace hb14 := hb14.tr1 c32 ne_b1_g
 replace hb19 := hb19.tr1 c32 (Ne.symm ne_g_b15)
 replace hb30 := hb30.tr1 c32 (Ne.symm ne_g_b26)
 refine en <| x_seq ?_
 replace hb33 : Blk w31 g (.int .i64 2 :: .int .i64 7 :: .int .i64 0 :: S [] :: .slice (some ⟨b15, 0, none⟩) 3 3 :: .int .i64 0 :: .int .i64 1 :: .int .i64 6 :: .int .i64 1 :: S [] :: .slice none 0 0 :: .int .i64 0 :: .int .i64 2 :: .int .i64 7 :: .int .i64 1 :: S [] :: .slice (some ⟨b26, 0, none⟩) 1 1 :: .int .i64 0 :: .int .i64 0 :: .int .i64 0 :: .int .i64 0 :: S [] :: .slice K3 0 c3 :: .int .i64 0 :: .int .i64 0 :: .int .i64 0 :: .int .i64 0 :: S [] :: .slice K4 0 c4 :: .int .i64 0 :: .int .i64 0 :: .int .i64 0 :: .int .i64 0 :: S [] :: .slice K5 0 c5 :: .int .i64 0 :: .int .i64 0 :: .int .i64 0 :: .int .i64 0 :: S [] :: .slice K6 0 c6 :: .int .i64 0 :: .int .i64 0 :: .int .i64 0 :: .int .i64 0 :: S [] :: .slice K7 0 c7 :: .int .i64 0 :: rest) 36 := hb33
 refine x_open [0, 1, 2, 3, 4, 5, 6, 7, 8, 9, 10, 11, 12] (.bar 13 [2, 3] [14] (.bar 15 [] [] (.stop))) T.mixed rfl rfl (fun W => W.heap[bn]? = w31.heap[bn]? ∧ W.heap[b1]? = w31.heap[b1]? ∧ W.heap[b15]? = w31.heap[b15]? ∧ W.heap[b26]? = w31.heap[b26]? ∧ W.heap[g]? = w31.heap[g]? ∧ True) ⟨rfl, rfl, rfl, rfl, rfl, trivial⟩ ?_
 have o36 := hbn
 have o37 := hb14
 have o38 := hb19
 have o39 := hb30
 have o40 := hb33
 have c35 := Chg.drew w31
 generalize World.drew w31 = w34 at c35 ⊢
 replace HC := HC.then c35
 replace hmx := hmx.tr0 c35
 replace hbn := hbn.tr0 c35
 replace hb14 := hb14.tr0 c35
 replace hb19 := hb19.tr0 c35
 replace hb30 := hb30.tr0 c35
 replace hb33 := hb33.tr0 c35
 refine sq_q rfl (fun W hT => r_fieldAddr T.fld24_0 rfl) <| sq_q rfl (fun W hT => r_load1 (v := .slice _ _ _) T.one22 rfl (Blk.cell (show Blk W b1 _ _ from hT.2.1.trans o37) rfl)) <| sq_q rfl (fun W hT => r_fieldAddr T.fld24_0 rfl) <| sq_q rfl (fun W hT => r_load1 (v := .slice _ _ _) T.one22 rfl (Blk.cell (show Blk W b1 _ _ from hT.2.1.trans o37) rfl)) <| sq_q rfl (fun W hT => r_fieldAddr T.fld24_0 rfl) <| sq_q rfl (fun W hT => r_load1 (v := .slice _ _ _) T.one22 rfl (Blk.cell (show Blk W b1 _ _ from hT.2.1.trans o37) rfl)) <| sq_q rfl (fun W hT => r_indexAddr T.u22 T.size36 rfl rfl (by decide) (by decide)) <| sq_q rfl (fun W hT => r_loadA (vs := [.int .i64 1, .int .i64 6, .int .i64 1, S [], .slice none 0 0, .int .i64 0]) T.agg36 rfl (Blk.cells (n := 6) (vs := [.int .i64 1, .int .i64 6, .int .i64 1, S [], .slice none 0 0, .int .i64 0]) (show Blk W g _ _ from hT.2.2.2.2.1.trans o40) rfl) rfl) <| sq_q rfl (fun W hT => r_fieldAddr T.fld24_0 rfl) <| sq_q rfl (fun W hT => r_load1 (v := .slice _ _ _) T.one22 rfl (Blk.cell (show Blk W b1 _ _ from hT.2.1.trans o37) rfl)) <| sq_q rfl (fun W hT => r_indexAddr T.u22 T.size36 rfl rfl (by decide) (by decide)) <| sq_q rfl (fun W hT => r_loadA (vs := [.int .i64 1, .int .i64 6, .int .i64 1, S [], .slice none 0 0, .int .i64 0]) T.agg36 rfl (Blk.cells (n := 6) (vs := [.int .i64 1, .int .i64 6, .int .i64 1, S [], .slice none 0 0, .int .i64 0]) (show Blk W g _ _ from hT.2.2.2.2.1.trans o40) rfl) rfl) <| sq_q (v := .pointer (some ⟨g, 18, none⟩)) rfl (fun W hT => r_indexAddr (i := 3) (m := 8) T.u22 T.size36 rfl rfl (by decide) (by decide)) <| sq_nil ?_
 have o41 := hbn
 have o42 := hb14
 have o43 := hb19
 have o44 := hb30
 refine tr_bar (fun W => W.heap[bn]? = w34.heap[bn]? ∧ W.heap[b1]? = w34.heap[b1]? ∧ W.heap[b15]? = w34.heap[b15]? ∧ W.heap[b26]? = w34.heap[b26]? ∧ True) ⟨rfl, rfl, rfl, rfl, trivial⟩ ?_ ?_
 · exact xq_yes rfl rfl (fun W hT => r_fieldAddr T.fld24_0 rfl) (fun k hk => by cases hk; rfl) <| xq_yes rfl rfl (fun W hT => r_load1 (v := .slice _ _ _) T.one22 rfl (Blk.cell (show Blk W b1 _ _ from hT.2.1.trans o42) rfl)) (fun k hk => by cases hk; rfl) <| xq_nil
 refine sq_store1 rfl T.size36 (v := .agg ⟨[.int .i64 1, .int .i64 6, .int .i64 1, S [], .slice none 0 0, .int .i64 0]⟩) rfl rfl rfl hb33 rfl (Nat.le_of_ble_eq_true rfl) q5 rfl ?_
 intro w45 c46 hb47; simp only [setVs, setV] at hb47
 clear hb33
 replace HC := HC.then1 c46 ge_g
 replace hmx := hmx.tr c46 q1
 replace hbn := hbn.tr1 c46 ne_bn_g
 replace hb14 := hb14.tr1 c46 ne_b1_g
 replace hb19 := hb19.tr1 c46 (Ne.symm ne_g_b15)
 replace hb30 := hb30.tr1 c46 (Ne.symm ne_g_b26)
 refine ext_T (b := g) ⟨(Eq.trans hbn o41.symm), (Eq.trans hb14 o42.symm), (Eq.trans hb19 o43.symm), (Eq.trans hb30 o44.symm), trivial⟩ ?_
 have o48 := hb47
 replace hb47 : Blk w45 g (.int .i64 2 :: .int .i64 7 :: .int .i64 0 :: S [] :: .slice (some ⟨b15, 0, none⟩) 3 3 :: .int .i64 0 :: .int .i64 1 :: .int .i64 6 :: .int .i64 1 :: S [] :: .slice none 0 0 :: .int .i64 0 :: .int .i64 2 :: .int .i64 7 :: .int .i64 1 :: S [] :: .slice (some ⟨b26, 0, none⟩) 1 1 :: .int .i64 0 :: .int .i64 1 :: .int .i64 6 :: .int .i64 1 :: S [] :: .slice none 0 0 :: .int .i64 0 :: .int .i64 0 :: .int .i64 0 :: .int .i64 0 :: S [] :: .slice K4 0 c4 :: .int .i64 0 :: .int .i64 0 :: .int .i64 0 :: .int .i64 0 :: S [] :: .slice K5 0 c5 :: .int .i64 0 :: .int .i64 0 :: .int .i64 0 :: .int .i64 0 :: S [] :: .slice K6 0 c6 :: .int .i64 0 :: .int .i64 0 :: .int .i64 0 :: .int .i64 0 :: S [] :: .slice K7 0 c7 :: .int .i64 0 :: rest) 36 := hb47
 refine sq_q (v := .pointer (some ⟨g, 24, none⟩)) rfl (fun W hT => r_indexAddr (i := 4) (m := 8) T.u22 T.size36 rfl rfl (by decide) (by decide)) <| sq_nil ?_
 have o49 := hbn
 have o50 := hb14
 have o51 := hb19
 have o52 := hb30
 refine tr_bar (fun W => W.heap[bn]? = w45.heap[bn]? ∧ W.heap[b1]? = w45.heap[b1]? ∧ W.heap[b15]? = w45.heap[b15]? ∧ W.heap[b26]? = w45.heap[b26]? ∧ True) ⟨rfl, rfl, rfl, rfl, trivial⟩ ?_ ?_
 · exact xq_nil
 refine sq_store1 rfl T.size36 (v := .agg ⟨[.int .i64 1, .int .i64 6, .int .i64 1, S [], .slice none 0 0, .int .i64 0]⟩) rfl rfl rfl hb47 rfl (Nat.le_of_ble_eq_true rfl) q5 rfl ?_
 intro w53 c54 hb55; simp only [setVs, setV] at hb55
 clear hb47
 replace HC := HC.then1 c54 ge_g
 replace hmx := hmx.tr c54 q1
 replace hbn := hbn.tr1 c54 ne_bn_g
 replace hb14 := hb14.tr1 c54 ne_b1_g
 replace hb19 := hb19.tr1 c54 (Ne.symm ne_g_b15)
 replace hb30 := hb30.tr1 c54 (Ne.symm ne_g_b26)
 refine ext_T (b := g) ⟨(Eq.trans hbn o49.symm), (Eq.trans hb14 o50.symm), (Eq.trans hb19 o51.symm), (Eq.trans hb30 o52.symm), trivial⟩ ?_
 have o56 := hb55
 refine sq_nil ?_
 clear o49
 clear o50
 clear o51
 clear o52
 clear o56
 refine tr_stop <| then_n <| x_seq ?_
 replace hb55 : Blk w53 g (.int .i64 2 :: .int .i64 7 :: .int .i64 0 :: S [] :: .slice (some ⟨b15, 0, none⟩) 3 3 :: .int .i64 0 :: .int .i64 1 :: .int .i64 6 :: .int .i64 1 :: S [] :: .slice none 0 0 :: .int .i64 0 :: .int .i64 2 :: .int .i64 7 :: .int .i64 1 :: S [] :: .slice (some ⟨b26, 0, none⟩) 1 1 :: .int .i64 0 :: .int .i64 1 :: .int .i64 6 :: .int .i64 1 :: S [] :: .slice none 0 0 :: .int .i64 0 :: .int .i64 1 :: .int .i64 6 :: .int .i64 1 :: S [] :: .slice none 0 0 :: .int .i64 0 :: .int .i64 0 :: .int .i64 0 :: .int .i64 0 :: S [] :: .slice K5 0 c5 :: .int .i64 0 :: .int .i64 0 :: .int .i64 0 :: .int .i64 0 :: S [] :: .slice K6 0 c6 :: .int .i64 0 :: .int .i64 0 :: .int .i64 0 :: .int .i64 0 :: S [] :: .slice K7 0 c7 :: .int .i64 0 :: rest) 36 := hb55
 have hTa := (aw_sl hz5 hz6 hz7 hb55 hb19 hb30).mono (D' := fun _ => True) (fun _ _ _ => trivial)
 refine x_region rfl <| Wp rfl <| st_loadA (vs := [_, _, _]) T.agg24 rfl (hb14.cells (n := 3) (vs := [_, _, _]) rfl) rfl <| Wp rfl <| st_call (ags := [_, _, _, _]) rfl rfl T.ent10 rfl (aw_exp hTa [42] hmx (by decide)) ?_
 rintro _ w57 ⟨⟨Ea, cea, rfl, hlea, hsa⟩, c58⟩
 replace HC := HC.then c58
 replace hmx := hmx.tr0 c58
 replace hbn := hbn.tr0 c58
 replace hb14 := hb14.tr0 c58
 replace hb19 := hb19.tr0 c58
 replace hb30 := hb30.tr0 c58
 replace hb55 := hb55.tr0 c58
 replace hTa := hTa.tr0 c58
 refine Wp rfl <| st_lit (ps := [(0, .const (S [97])), (1, .const (S [98]))]) (vs := [S _, S _]) T.lit29 (by decide) rfl (by simp only [List.forall_mem_cons, List.not_mem_nil, false_imp_iff, implies_true, and_true]; exact ⟨rfl, rfl⟩) rfl ?_
 intro b59 w60 e61 c62 hb63
 have ge_b59 := gB e61 HC.size
 have ne_bn_b59 := nF e61 hbn.ne_size
 have ne_b1_b59 := nF e61 hb14.ne_size
 have ne_b15_b59 := nF e61 hb19.ne_size
 have ne_b26_b59 := nF e61 hb30.ne_size
 have ne_g_b59 := nF e61 hb55.ne_size
 replace HC := HC.then c62
 replace hmx := hmx.tr0 c62
 replace hbn := hbn.tr0 c62
 replace hb14 := hb14.tr0 c62
 replace hb19 := hb19.tr0 c62
 replace hb30 := hb30.tr0 c62
 replace hb55 := hb55.tr0 c62
 replace hTa := hTa.tr0 c62
 replace hsa := hsa.tr0 c62
 clear e61
 have hla := sl_lit (sz := 1) (f := fun s : Bytes => [S s]) (h1 := by omega) (h2 := fun _ => rfl) (h3 := fun _ u hu => by simp at hu; subst hu; rfl) [[97], [98]] (by decide) hb63
 refine Wp rfl <| st_call (ags := [_, _]) rfl rfl T.ent9 rfl (rsame_spec (b := [[97], [98]]) hsa hla (by rw [aw_a]; decide) (by decide)) ?_
 rintro _ w64 ⟨rfl, c65⟩
 replace HC := HC.then c65
 replace hmx := hmx.tr0 c65
 replace hbn := hbn.tr0 c65
 replace hb14 := hb14.tr0 c65
 replace hb19 := hb19.tr0 c65
 replace hb30 := hb30.tr0 c65
 replace hb55 := hb55.tr0 c65
 replace hTa := hTa.tr0 c65
 replace hb63 := hb63.tr0 c65
 refine mB rfl <| w_split (d := 45) rfl (fun g66 => ?_) (fun g66 => ?_)
 ·try simp only [nm, ne_eq] at g66
  refine w_yes 4 45 true <| st_loadA (vs := [_, _, _]) T.agg24 rfl (hb14.cells (n := 3) (vs := [_, _, _]) rfl) rfl <| w_yes 4 45 true <| st_call (ags := [_, _, _, _]) rfl rfl T.ent10 rfl (aw_exp hTa [46, 42] hmx (by decide)) ?_
  rintro _ w67 ⟨⟨Eb, ceb, rfl, hleb, hsb⟩, c68⟩
  replace HC := HC.then c68
  replace hmx := hmx.tr0 c68
  replace hbn := hbn.tr0 c68
  replace hb14 := hb14.tr0 c68
  replace hb19 := hb19.tr0 c68
  replace hb30 := hb30.tr0 c68
  replace hb55 := hb55.tr0 c68
  replace hTa := hTa.tr0 c68
  replace hb63 := hb63.tr0 c68
  refine w_yes 4 45 true <| st_lit (ps := [(0, .const (S [46, 100]))]) (vs := [S _]) T.lit29 (by decide) rfl q6 rfl ?_
  intro b69 w70 e71 c72 hb73
  have ge_b69 := gB e71 HC.size
  have ne_bn_b69 := nF e71 hbn.ne_size
  have ne_b1_b69 := nF e71 hb14.ne_size
  have ne_b15_b69 := nF e71 hb19.ne_size
  have ne_b26_b69 := nF e71 hb30.ne_size
  have ne_g_b69 := nF e71 hb55.ne_size
  have ne_b59_b69 := nF e71 hb63.ne_size
  replace HC := HC.then c72
  replace hmx := hmx.tr0 c72
  replace hbn := hbn.tr0 c72
  replace hb14 := hb14.tr0 c72
  replace hb19 := hb19.tr0 c72
  replace hb30 := hb30.tr0 c72
  replace hb55 := hb55.tr0 c72
  replace hTa := hTa.tr0 c72
  replace hb63 := hb63.tr0 c72
  replace hsb := hsb.tr0 c72
  clear e71
  have hlb := sl_lit (sz := 1) (f := fun s : Bytes => [S s]) (h1 := by omega) (h2 := fun _ => rfl) (h3 := fun _ u hu => by simp at hu; subst hu; rfl) [[46, 100]] (by decide) hb73
  refine w_yes 4 45 true <| st_call (ags := [_, _]) rfl rfl T.ent9 rfl (rsame_spec (b := [[46, 100]]) hsb hlb (by rw [aw_b]; decide) (by decide)) ?_
  rintro _ w74 ⟨rfl, c75⟩
  replace HC := HC.then c75
  replace hmx := hmx.tr0 c75
  replace hbn := hbn.tr0 c75
  replace hb14 := hb14.tr0 c75
  replace hb19 := hb19.tr0 c75
  replace hb30 := hb30.tr0 c75
  replace hb55 := hb55.tr0 c75
  replace hTa := hTa.tr0 c75
  replace hb63 := hb63.tr0 c75
  replace hb73 := hb73.tr0 c75
  refine pT rfl rfl <| mB rfl <| w_split (d := 51) rfl (fun g76 => ?_) (fun g76 => ?_)
  ·try simp only [nm, ne_eq] at g76
   refine w_yes 10 51 true <| st_loadA (vs := [_, _, _]) T.agg24 rfl (hb14.cells (n := 3) (vs := [_, _, _]) rfl) rfl <| w_yes 10 51 true <| st_call (ags := [_, _, _, _]) rfl rfl T.ent10 rfl (aw_exp hTa [42, 47, 99] hmx (by decide)) ?_
   rintro _ w77 ⟨⟨Ec, cec, rfl, hlec, hsc⟩, c78⟩
   replace HC := HC.then c78
   replace hmx := hmx.tr0 c78
   replace hbn := hbn.tr0 c78
   replace hb14 := hb14.tr0 c78
   replace hb19 := hb19.tr0 c78
   replace hb30 := hb30.tr0 c78
   replace hb55 := hb55.tr0 c78
   replace hTa := hTa.tr0 c78
   replace hb63 := hb63.tr0 c78
   replace hb73 := hb73.tr0 c78
   refine w_yes 10 51 true <| st_lit (ps := [(0, .const (S [98, 47, 99]))]) (vs := [S _]) T.lit29 (by decide) rfl q6 rfl ?_
   intro b79 w80 e81 c82 hb83
   have ge_b79 := gB e81 HC.size
   have ne_bn_b79 := nF e81 hbn.ne_size
   have ne_b1_b79 := nF e81 hb14.ne_size
   have ne_b15_b79 := nF e81 hb19.ne_size
   have ne_b26_b79 := nF e81 hb30.ne_size
   have ne_g_b79 := nF e81 hb55.ne_size
   have ne_b59_b79 := nF e81 hb63.ne_size
   have ne_b69_b79 := nF e81 hb73.ne_size
   replace HC := HC.then c82
   replace hmx := hmx.tr0 c82
   replace hb14 := hb14.tr0 c82
   replace hTa := hTa.tr0 c82
   replace hsc := hsc.tr0 c82
   clear e81
   have hlc := sl_lit (sz := 1) (f := fun s : Bytes => [S s]) (h1 := by omega) (h2 := fun _ => rfl) (h3 := fun _ u hu => by simp at hu; subst hu; rfl) [[98, 47, 99]] (by decide) hb83
   refine w_yes 10 51 true <| st_call (ags := [_, _]) rfl rfl T.ent9 rfl (rsame_spec (b := [[98, 47, 99]]) hsc hlc (by rw [aw_c]; decide) (by decide)) ?_
   rintro _ w84 ⟨rfl, c85⟩
   replace HC := HC.then c85
   replace hmx := hmx.tr0 c85
   replace hb14 := hb14.tr0 c85
   replace hTa := hTa.tr0 c85
   refine pT rfl rfl <| mB rfl <| w_split (d := 57) rfl (fun g86 => ?_) (fun g86 => ?_)
   ·try simp only [nm, ne_eq] at g86
    refine w_yes 16 57 true <| st_loadA (vs := [_, _, _]) T.agg24 rfl (hb14.cells (n := 3) (vs := [_, _, _]) rfl) rfl <| w_yes 16 57 true <| st_call (ags := [_, _, _, _]) rfl rfl T.ent10 rfl (aw_exp hTa [120, 42] hmx (by decide)) ?_
    rintro _ w87 ⟨⟨Ed, ced, rfl, hled, hsd⟩, c88⟩
    replace HC := HC.then c88
    refine w_yes 16 57 true <| st_len (ct := #[29]) (by rw [show ((#[29] : Array TypeId)[0]?).bind Tryz.prog.underlying = some (.slice 9) from T.u29]; rfl) rfl <| w_yes 16 57 true <| st_eql rfl rfl <| pT rfl rfl <| aB rfl <| en <| x_ret <| ret_tmp (v := .bool _) rfl rfl ?_
    rw [aw_d]
    exact ⟨rfl, HC⟩
   ·try simp only [nm, ne_eq] at g86
    exact absurd aw_c (by simpa using g86)
  ·try simp only [nm, ne_eq] at g76
   exact absurd aw_b (by simpa using g76)
 ·try simp only [nm, ne_eq] at g66
  exact absurd aw_a (by simpa using g66)
open Go Go.Proofs Go.RowKit
theorem expG_len {Z : Tre} {cwd : Int} {fin : Bytes} : ∀ (l : List Gp) (paths r : List Bytes), paths.length ≤ 1024 → expG Z cwd fin l paths = some r → r.length ≤ 1024
  | [], paths, r, h, h2 => by rw [expG] at h2; cases h2; exact h
  | x :: l, paths, r, h, h2 => by
    rw [expG] at h2
    split at h2
    · cases h2
    · rename_i h3; exact expG_len l _ r (by omega) h2
theorem exp_len (Z : Tre) (cwd : Int) (p q : Bytes) : (expandV Z cwd p q).length ≤ 1024 := by
  unfold expandV
  split
  · simp
  · split
    · simp
    · rename_i l h
      unfold sortB; rw [List.length_mergeSort]
      exact expG_len _ _ _ (by simp) h
theorem atB_all {p : Bytes} {n i c : Nat} (hn : p.length ≤ n) : atB p (List.replicate n 49) i c = false := by
  unfold atB
  by_cases h : i < p.length
  · have : plB (List.replicate n 49) i = false := by
      unfold plB byte
      rw [decide_eq_false (by simp; omega), List.getD_eq_getElem?_getD, List.getElem?_replicate, if_pos (by omega)]; rfl
    rw [this, Bool.and_false]
  · rw [decide_eq_false h]; rfl
theorem mag_all {p : Bytes} : magicV p (List.replicate p.length 49) = false := by
  have : ∀ n i, magF p (List.replicate p.length 49) n i = false := by
    intro n
    induction n with
    | zero => intro i; rfl
    | succ n ih => intro i; rw [magF, ih]; unfold mgB; rw [atB_all (Nat.le_refl _), atB_all (Nat.le_refl _), atB_all (Nat.le_refl _)]; rfl
  exact this _ _
theorem exp_all {Z : Tre} {cwd : Int} {p : Bytes} : expandV Z cwd p (List.replicate p.length 49) = [] := by unfold expandV; rw [if_pos mag_all]
open Go Go.Proofs Go.RowKit
end Go.Proofs.YtncnalboiljgiaaGreat.K
