import Derived.Test.YtlpndcpbnbeohaaDoorNd
set_option linter.unusedVariables false
set_option linter.unusedSimpArgs false
set_option autoImplicit false
set_option maxRecDepth 20000
namespace Go.Proofs.YtlpndcpbnbeohaaDoor.K
open Go Go.Proofs Go.RowKit

theorem take_one {f : Bytes} (h : 0 < f.length) : f.take 1 = [byte f 0] := by
  cases f with
  | nil => simp at h
  | cons c f => rfl
theorem pp_yes {f : Bytes} (h : 1 < f.length) (h0 : ((byte f 0).toNat : Int) = 37) (h1 : ((byte f 1).toNat : Int) = 37) : Lib.hasPrefix f [37, 37] = true := by
  match f, h with
  | a :: b :: f, _ =>
    have ea : a = 37 := UInt8.toNat_inj.1 (by have : ((a.toNat : Nat) : Int) = 37 := h0; show _ = 37; omega)
    have eb : b = 37 := UInt8.toNat_inj.1 (by have : ((b.toNat : Nat) : Int) = 37 := h1; show _ = 37; omega)
    rw [ea, eb]; rfl
theorem pp_no {f : Bytes} (h : ¬ (1 < f.length ∧ ((byte f 0).toNat : Int) = 37 ∧ ((byte f 1).toNat : Int) = 37)) : ¬ Lib.hasPrefix f [37, 37] = true := by
  intro h2
  have h3 := hp2 h2
  match f, h3 with
  | a :: b :: f, _ =>
    have h4 : (((37 : UInt8) == a) && (((37 : UInt8) == b) && true)) = true := h2
    simp only [Bool.and_eq_true, beq_iff_eq] at h4
    refine h ⟨by simp, ?_, ?_⟩
    · show ((a.toNat : Nat) : Int) = 37; rw [← h4.1]; rfl
    · show ((b.toNat : Nat) : Int) = 37; rw [← h4.2.1]; rfl
theorem rdO_cv {s : Bytes} (h : rdO s = true) : 0 ≤ idx [100, 105, 117, 111, 120, 88, 99, 115, 98] (rdX s).conv := by
  have h2 := h
  unfold rdO at h2
  simp only [Bool.and_eq_true, decide_eq_true_eq] at h2
  show 0 ≤ idx _ (if rdO s = true then _ else _)
  rw [if_pos h]; exact h2.2

set_option maxHeartbeats 1000000 in
theorem ronce_spec {b m ca : Nat} {Aa : Option Addr} {q0 : Wr} {w : World} (f0 : Bytes) (hb : Blk w b [.slice Aa q0.args.length ca, .bool q0.took, S q0.out, .int .i64 q0.st, .bool q0.done] 48) (ha : Sl sE w (fun k => k < m) Aa q0.args) (hca : q0.args.length ≤ ca) (hbm : m ≤ b) (hm : m ≤ w.heap.size) (hag : ∀ s, s ∈ q0.args → s.length ≤ 10000000000000) (hf : f0.length ≤ 10000000000000) : CallR Tryd.prog 19 #[.pointer (some ⟨b, 0, none⟩), S f0] w fun v w' => v = .tuple ⟨[]⟩ ∧ ∃ Aa' ca', Blk w' b [.slice Aa' (onceF (f0.length + 1) f0 q0).args.length ca', .bool (onceF (f0.length + 1) f0 q0).took, S (onceF (f0.length + 1) f0 q0).out, .int .i64 (onceF (f0.length + 1) f0 q0).st, .bool (onceF (f0.length + 1) f0 q0).done] 48 ∧ Sl sE w' (fun k => k < m) Aa' (onceF (f0.length + 1) f0 q0).args ∧ (onceF (f0.length + 1) f0 q0).args.length ≤ ca' ∧ (∀ s, s ∈ (onceF (f0.length + 1) f0 q0).args → s.length ≤ 10000000000000) ∧ Chg [b] w w' := by
 have hbl9 := hb.lt
 refine callR_of_wp (args := [_, _]) Tryd.func19 rfl (Nat.le_of_ble_eq_true rfl) ?_
 have HC : Chg [b] w w := .refl _
 refine x_block <| x_loop (ι := Bytes × Nat × Wr × Option Addr × Nat) [1, 4, 5, 6, 7, 8, 9, 10, 11, 12, 13, 14, 15, 16, 17, 18, 19, 20, 21, 22, 23, 24, 25, 26, 27, 28, 29, 30, 31, 32, 33, 34, 35, 36, 37, 38, 39, 40, 41, 42, 43, 44, 45, 46, 47, 48, 49, 50, 51, 52, 53, 54, 55, 56, 57, 58, 59, 60, 61, 62, 63, 64, 65, 66, 67, 68, 69, 70, 71, 72, 73, 74, 75, 76, 77, 78, 79, 80, 81, 82, 83, 84, 85, 86, 87, 88, 89, 90, 91, 92, 93, 94, 95, 96, 97, 98, 99, 100, 101, 102, 103, 104, 105] (fun ⟨f, k, q, Aa, ca⟩ => [(1, S f)]) (fun ⟨f, k, q, Aa, ca⟩ W => (onceF k f q = onceF (f0.length + 1) f0 q0 ∧ f.length < k ∧ f.length ≤ f0.length ∧ q.args.length ≤ ca ∧ (∀ s, s ∈ q.args → s.length ≤ 10000000000000)) ∧ (Chg [b] w W) ∧ (Blk W b [.slice Aa q.args.length ca, .bool q.took, S q.out, .int .i64 q.st, .bool q.done] 48) ∧ (Sl sE W (fun k => k < m) Aa q.args)) (fun ⟨f, k, q, Aa, ca⟩ => k) (f0, f0.length + 1, q0, Aa, ca) ?_ ?_ ?_
 · exact ⟨rfl, trivial⟩
 ·refine ⟨?_, HC, hb, ha⟩
  exact ⟨rfl, Nat.lt_succ_self _, Nat.le_refl _, hca, hag⟩
 clear hag hca
 intro ⟨f, k, q, Aa, ca⟩ G2 w1 ⟨⟨hto, hfk, hfl, hca, hag⟩, HC, hb, ha⟩
 change wp _ _ _ _ _ (upds (over _ _ G2) [(1, S f)]) _ _
 refine x_seq <| sr rfl <| mS rfl <| Wp rfl <| st_sneq rfl rfl <| mB rfl <| w_split (d := 11) rfl (fun g3 => ?_) (fun g3 => ?_)
 ·try simp only [nm, ne_eq] at g3
  have hfne : f ≠ [] := by assumption
  have hfp := List.length_pos_iff.2 hfne
  refine w_yes 2 11 true <| st_move (v := .pointer _) rfl <| w_yes 2 11 true <| st_nilCheck rfl <| w_yes 2 11 true <| st_fieldAddr T.fld48_4 rfl <| w_yes 2 11 true <| st_load1 (v := .bool _) T.one4 rfl (hb.cell rfl) <| w_yes 2 11 true <| st_not rfl <| pT rfl rfl <| mB rfl <| w_split (d := 18) rfl (fun g4 => ?_) (fun g4 => ?_)
  ·try simp only [nm, ne_eq] at g4
   have hnd : q.done = false := by first | assumption | simp_all
   refine w_yes 9 18 true <| st_move (v := .pointer _) rfl <| w_yes 9 18 true <| st_nilCheck rfl <| w_yes 9 18 true <| st_fieldAddr T.fld48_2 rfl <| w_yes 9 18 true <| st_load1 (v := S _) T.one9 rfl (hb.cell rfl) <| w_yes 9 18 true <| st_slen (ct := #[9]) T.u9 rfl <| w_yes 9 18 true <| st_leq rfl rfl <| pT rfl rfl <| en <| x_cond rfl (fun h0 => ?_) (fun h0 => ?_)
   ·try simp only [nm, ne_eq] at h0
    have hlo : q.out.length ≤ 65536 := by omega
    have hgo : f ≠ [] ∧ q.done = false ∧ q.out.length ≤ 65536 := ⟨hfne, hnd, hlo⟩
    obtain ⟨k, rfl⟩ : ∃ j, k = j + 1 := ⟨k - 1, by omega⟩
    refine x_skip <| then_n <| x_block <| x_block <| sr rfl <| mS rfl <| Wp rfl <| st_sidx T.u9 rfl rfl (by omega) (by omega) <| Wp rfl <| st_eql rfl rfl <| aB rfl <| en <| x_cond rfl (fun h1 => ?_) (fun h1 => ?_)
    ·try simp only [nm, ne_eq] at h1
     refine sr rfl <| mS rfl <| Wp rfl <| st_call (ags := [_, _]) rfl rfl T.ent22 rfl (resc_spec f false _ (by omega)) ?_
     rintro _ w5 ⟨rfl, c6⟩
     replace HC := HC.then c6
     replace hb := hb.tr0 c6
     replace ha := ha.tr0 c6
     refine mv (v := .tuple ⟨[_, _, _]⟩) rfl <| Wp rfl <| st_extract (vs := [_, _, _]) (v := .int _ _) rfl rfl <| Wp rfl <| st_extract (vs := [_, _, _]) (v := .int _ _) rfl rfl <| Wp rfl <| st_extract (vs := [_, _, _]) (v := .bool _) rfl rfl <| aI rfl <| aI rfl <| aB rfl <| en <| x_seq ?_
     have hef := esc_f f hfp
     have hre : rescV f false = ((escV f false).1, (escV f false).2, false) := rescV_ok rfl (by omega)
     rw [hre]
     obtain ⟨n, hn⟩ : ∃ n : Nat, (escV f false).2 = (n : Int) := ⟨(escV f false).2.toNat, by omega⟩
     rw [hn] at hef ⊢
     refine x_draw [(0, 0), (1, 0), (2, 0), (3, 0), (4, 0), (5, 0), (6, 1), (7, 0), (8, 0), (9, 0), (10, 0), (11, 2)] T.mixed rfl rfl rfl (fun W => W.heap[b]? = w5.heap[b]? ∧ True) ⟨rfl, trivial⟩ ?_
     have o9 := hb
     have c8 := Chg.drew w5
     generalize World.drew w5 = w7 at c8 ⊢
     replace HC := HC.then c8
     replace hb := hb.tr0 c8
     replace ha := ha.tr0 c8
     refine sq_q rfl (fun W hT => r_move (v := .pointer _) rfl) <| sq_q rfl (fun W hT => r_move (v := .pointer _) rfl) <| sq_q rfl (fun W hT => r_nilCheck rfl) <| sq_q rfl (fun W hT => r_fieldAddr T.fld48_2 rfl) <| sq_q rfl (fun W hT => r_load1 (v := S _) T.one9 rfl (Blk.cell (show Blk W b _ _ from hT.1.trans o9) rfl)) <| sq_q rfl (fun W hT => r_move (v := .int _ _) rfl) <| sq_lit1 (ps := [(0, .tmp 62)]) (vs := [.int _ _]) rfl T.lit38 (by decide) rfl (by simp only [List.forall_mem_cons, List.not_mem_nil, false_imp_iff, implies_true, and_true]; exact rfl) rfl ?_
     intro b10 w11 e12 c13 hb14
     have ge_b10 : w.heap.size ≤ b10 := by rw [e12]; exact HC.size
     have ne_b_b10 : b ≠ b10 := by rw [e12]; exact hb.ne_size
     replace HC := HC.then c13
     replace hb := hb.tr0 c13
     replace ha := ha.tr0 c13
     clear e12
     refine ext_T (b := b10) ⟨(Eq.trans hb o9.symm), trivial⟩ ?_
     have o15 := hb14
     refine sq_q rfl (fun W hT => r_bytesStr T.u38 T.u5 T.u9 rfl (Sl.of_one (c := uE) (x := (escV f false).1) (D := fun _ => True) (show Blk W b10 _ _ from hT.1.trans o15) rfl trivial)) <| sq_q rfl (fun W hT => r_sadd rfl rfl (by (simp only [List.length_cons, List.length_nil]; omega))) <| sq_q rfl (fun W hT => r_nilCheck rfl) <| sq_q rfl (fun W hT => r_fieldAddr T.fld48_2 rfl) <| sq_store2 rfl T.size9 (v := S _) rfl rfl rfl hb rfl (Nat.le_of_ble_eq_true rfl) (by simp [Value.oneCell', S]) rfl ?_
     intro w16 c17 hb18; simp only [setVs, setV] at hb18
     clear hb
     replace HC := HC.trans c17 (by intro x hx; simp only [List.mem_singleton] at hx; subst hx; exact .inl (by simp))
     replace ha := ha.tr c17 (by intro k hk hD; have hD2 : k < m := hD; simp only [List.mem_cons, List.mem_nil_iff, or_false] at hk; omega)
     replace hb14 := hb14.tr1 c17 (Ne.symm ne_b_b10)
     clear o9
     clear o15
     refine sq_nil <| then_n <| x_region rfl <| mS rfl <| mI rfl <| Wp rfl <| st_sslo (i := n) T.u9 rfl ⟨_, rfl⟩ (by omega) <| aS rfl <| wops_nil <| block_n <| block_n <| then_n <| ⟨((f.drop n), k, ⟨q.args, q.took, q.done, q.st, q.out ++ [(escV f false).1]⟩, Aa, ca), ?_, ?_, rfl, ⟨rfl, trivial⟩, ?_⟩
     ·refine ⟨?_, HC, hb18, ha⟩
      exact ⟨by rw [← hto, once_yes hgo, if_pos h1, hn, Int.toNat_natCast], by rw [List.length_drop]; omega, by rw [List.length_drop]; omega, hca, hag⟩
     ·show k < k + 1; omega
     repeat (first | exact agree_upds agree_over rfl | refine agree_upd ?_ rfl | refine agree_upds ?_ rfl | refine agree_over_sub ?_ rfl)
    ·try simp only [nm, ne_eq] at h1
     refine sr rfl <| mS rfl <| Wp rfl <| st_sidx T.u9 rfl rfl (by omega) (by omega) <| Wp rfl <| st_neq rfl rfl <| aB rfl <| en <| x_cond rfl (fun h2 => ?_) (fun h2 => ?_)
     ·try simp only [nm, ne_eq] at h2
      have hpn := pp_no (f := f) (fun h9 => absurd h9.2.1 (by first | assumption | omega))
      have hnp : ¬ ((byte f 0).toNat : Int) = 37 := by first | assumption | omega
      refine x_seq <| x_draw [(0, 0), (1, 0), (2, 0), (3, 0), (4, 0), (5, 0), (6, 0), (7, 0), (8, 0), (9, 0), (10, 2)] T.mixed rfl rfl rfl (fun W => W.heap[b]? = w1.heap[b]? ∧ True) ⟨rfl, trivial⟩ ?_
      have o21 := hb
      have c20 := Chg.drew w1
      generalize World.drew w1 = w19 at c20 ⊢
      replace HC := HC.then c20
      replace hb := hb.tr0 c20
      replace ha := ha.tr0 c20
      refine sq_q rfl (fun W hT => r_move (v := .pointer _) rfl) <| sq_q rfl (fun W hT => r_move (v := .pointer _) rfl) <| sq_q rfl (fun W hT => r_nilCheck rfl) <| sq_q rfl (fun W hT => r_fieldAddr T.fld48_2 rfl) <| sq_q rfl (fun W hT => r_load1 (v := S _) T.one9 rfl (Blk.cell (show Blk W b _ _ from hT.1.trans o21) rfl)) <| sq_q rfl (fun W hT => r_move (v := S _) rfl) <| sq_q rfl (fun W hT => r_sshi (j := 1) T.u9 rfl ⟨_, rfl⟩ (by omega)) <| sq_q rfl (fun W hT => r_sadd rfl rfl (by (rw [List.length_take]; omega))) <| sq_q rfl (fun W hT => r_nilCheck rfl) <| sq_q rfl (fun W hT => r_fieldAddr T.fld48_2 rfl) <| sq_store2 rfl T.size9 (v := S _) rfl rfl rfl hb rfl (Nat.le_of_ble_eq_true rfl) (by simp [Value.oneCell', S]) rfl ?_
      intro w22 c23 hb24; simp only [setVs, setV] at hb24
      clear hb
      replace HC := HC.trans c23 (by intro x hx; simp only [List.mem_singleton] at hx; subst hx; exact .inl (by simp))
      replace ha := ha.tr c23 (by intro k hk hD; have hD2 : k < m := hD; simp only [List.mem_cons, List.mem_nil_iff, or_false] at hk; omega)
      clear o21
      refine sq_nil <| then_n ?_
      rw [take_one hfp] at hb24
      refine x_region rfl <| mS rfl <| Wp rfl <| st_sslo (i := 1) T.u9 rfl ⟨_, rfl⟩ (by omega) <| aS rfl <| wops_nil <| block_n <| block_n <| then_n <| ⟨((f.drop 1), k, ⟨q.args, q.took, q.done, q.st, q.out ++ [(byte f 0)]⟩, Aa, ca), ?_, ?_, rfl, ⟨rfl, trivial⟩, ?_⟩
      ·refine ⟨?_, HC, hb24, ha⟩
       exact ⟨by rw [← hto, once_yes hgo, if_neg h1, if_neg hpn, if_neg hnp], by rw [List.length_drop]; omega, by rw [List.length_drop]; omega, hca, hag⟩
      ·show k < k + 1; omega
      repeat (first | exact agree_upds agree_over rfl | refine agree_upd ?_ rfl | refine agree_upds ?_ rfl | refine agree_over_sub ?_ rfl)
     ·try simp only [nm, ne_eq] at h2
      have hip : ((byte f 0).toNat : Int) = 37 := by first | assumption | omega
      refine sr rfl <| mS rfl <| Wp rfl <| st_slen (ct := #[9]) T.u9 rfl <| Wp rfl <| st_gtr rfl rfl <| mB rfl <| w_split (d := 91) rfl (fun g25 => ?_) (fun g25 => ?_)
      ·try simp only [nm, ne_eq] at g25
       refine w_yes 3 91 true <| st_move (v := S _) rfl <| w_yes 3 91 true <| st_sidx T.u9 rfl rfl (by omega) (by omega) <| w_yes 3 91 true <| st_eql rfl rfl <| pT rfl rfl <| aB rfl <| en <| x_cond rfl (fun h3 => ?_) (fun h3 => ?_)
       ·try simp only [nm, ne_eq] at h3
        have hpp : Lib.hasPrefix f [37, 37] = true := pp_yes (by omega) hip (by first | assumption | omega)
        refine sr rfl <| mP rfl <| mP rfl <| nc rfl <| fa T.fld48_2 rfl <| lS T.one9 rfl (hb.cell rfl) <| Wp rfl <| st_sadd rfl rfl (by (simp only [List.length_cons, List.length_nil]; omega)) <| nc rfl <| fa T.fld48_2 rfl <| Wp rfl <| st_store (v := S _) T.size9 rfl rfl rfl hb rfl (Nat.le_of_ble_eq_true rfl) (by simp [Value.oneCell', S]) rfl ?_
        intro w26 c27 hb28; simp only [setVs, setV] at hb28
        clear hb
        replace HC := HC.trans c27 (by intro x hx; simp only [List.mem_singleton] at hx; subst hx; exact .inl (by simp))
        replace ha := ha.tr c27 (by intro k hk hD; have hD2 : k < m := hD; simp only [List.mem_cons, List.mem_nil_iff, or_false] at hk; omega)
        refine en <| x_region rfl <| mS rfl <| Wp rfl <| st_sslo (i := 2) T.u9 rfl ⟨_, rfl⟩ (by (have := hp2 hpp; omega)) <| aS rfl <| wops_nil <| block_n <| block_n <| then_n <| ⟨((f.drop 2), k, ⟨q.args, q.took, q.done, q.st, q.out ++ [37]⟩, Aa, ca), ?_, ?_, rfl, ⟨rfl, trivial⟩, ?_⟩
        ·refine ⟨?_, HC, hb28, ha⟩
         exact ⟨by rw [← hto, once_yes hgo, if_neg h1, if_pos hpp], by rw [List.length_drop]; omega, by rw [List.length_drop]; omega, hca, hag⟩
        ·show k < k + 1; omega
        repeat (first | exact agree_upds agree_over rfl | refine agree_upd ?_ rfl | refine agree_upds ?_ rfl | refine agree_over_sub ?_ rfl)
       ·try simp only [nm, ne_eq] at h3
        have hpn := pp_no (f := f) (fun h9 => by first | omega | (have h8 := h9.2.2; have h7 := h9.1; simp_all; done) | (have h8 := h9.2.2; have h7 := h9.1; omega))
        refine x_seq ?_
        have hfdl : (f.drop 1).length = f.length - 1 := List.length_drop
        refine x_region rfl <| mS rfl <| Wp rfl <| st_sslo (i := 1) T.u9 rfl ⟨_, rfl⟩ (by omega) <| Wp rfl <| st_call (ags := [_]) rfl rfl T.ent29 rfl (rread_spec (f.drop 1) _ (by rw [List.length_drop]; omega)) ?_
        rintro _ w29 ⟨l9, z9, wd9, pr9, hh9, cv9, n9, rfl, hy0, hy1, c30⟩
        replace HC := HC.then c30
        replace hb := hb.tr0 c30
        replace ha := ha.tr0 c30
        refine mv (v := .tuple ⟨[_, _]⟩) rfl <| Wp rfl <| st_extract (vs := [_, _]) (v := .agg ⟨[.bool _, .bool _, .int _ _, .int _ _, .bool _, .int _ _]⟩) rfl rfl <| Wp rfl <| st_extract (vs := [_, _]) (v := .int _ _) rfl rfl <| Wp rfl <| st_alloc T.zero68 ?_
        intro b7 w31 e32 c33 hb34
        have ge_b7 : w.heap.size ≤ b7 := by rw [e32]; exact HC.size
        have ne_b_b7 : b ≠ b7 := by rw [e32]; exact hb.ne_size
        replace HC := HC.then c33
        replace hb := hb.tr0 c33
        replace ha := ha.tr0 c33
        clear e32
        refine Wp rfl <| st_store (v := .agg ⟨[.bool _, .bool _, .int _ _, .int _ _, .bool _, .int _ _]⟩) T.size68 rfl rfl rfl hb34 rfl (Nat.le_of_ble_eq_true rfl) (by simp [Value.oneCell', S]) rfl ?_
        intro w35 c36 hb37; simp only [setVs, setV] at hb37
        clear hb34
        replace HC := HC.then1 c36 ge_b7
        replace hb := hb.tr1 c36 ne_b_b7
        replace ha := ha.tr c36 (by intro k hk hD; have hD2 : k < m := hD; simp only [List.mem_cons, List.mem_nil_iff, or_false] at hk; omega)
        refine aI rfl <| en <| x_seq <| sr rfl <| mI rfl <| Wp rfl <| st_eql rfl rfl <| en <| x_cond rfl (fun h4 => ?_) (fun h4 => ?_)
        ·try simp only [nm, ne_eq] at h4
         have hno : rdO (f.drop 1) = false := by cases h9 : rdO (f.drop 1) with | false => rfl | true => (obtain ⟨i9, h8, _⟩ := hy1 h9; omega)
         refine sr rfl <| mP rfl <| nc rfl <| fa T.fld48_3 rfl <| Wp rfl <| st_store (v := .int _ _) T.size3 rfl rfl rfl hb rfl (Nat.le_of_ble_eq_true rfl) (by simp [Value.oneCell', S]) rfl ?_
         intro w38 c39 hb40; simp only [setVs, setV] at hb40
         clear hb
         replace HC := HC.trans c39 (by intro x hx; simp only [List.mem_singleton] at hx; subst hx; exact .inl (by simp))
         replace ha := ha.tr c39 (by intro k hk hD; have hD2 : k < m := hD; simp only [List.mem_cons, List.mem_nil_iff, or_false] at hk; omega)
         replace hb37 := hb37.tr1 c39 (Ne.symm ne_b_b7)
         refine en <| sr rfl <| mP rfl <| nc rfl <| fa T.fld48_4 rfl <| Wp rfl <| st_store (v := .bool _) T.size4 rfl rfl rfl hb40 rfl (Nat.le_of_ble_eq_true rfl) (by simp [Value.oneCell', S]) rfl ?_
         intro w41 c42 hb43; simp only [setVs, setV] at hb43
         clear hb40
         replace HC := HC.trans c42 (by intro x hx; simp only [List.mem_singleton] at hx; subst hx; exact .inl (by simp))
         replace ha := ha.tr c42 (by intro k hk hD; have hD2 : k < m := hD; simp only [List.mem_cons, List.mem_nil_iff, or_false] at hk; omega)
         replace hb37 := hb37.tr1 c42 (Ne.symm ne_b_b7)
         refine en <| x_ret <| then_r <| block_r <| block_r <| then_r <| block_r <| ret_none rfl ?_
         have hend : onceF (f0.length + 1) f0 q0 = ⟨q.args, q.took, true, 1, q.out⟩ := by rw [← hto, once_yes hgo, if_neg h1, if_neg hpn, if_pos hip, if_pos hno]
         rw [hend]
         exact ⟨rfl, Aa, ca, hb43, ha, hca, hag, HC⟩
        ·try simp only [nm, ne_eq] at h4
         have hyo : rdO (f.drop 1) = true := by cases h9 : rdO (f.drop 1) with | true => rfl | false => exact absurd (hy0 h9) (by first | assumption | omega)
         obtain ⟨i9, rfl, hi9, hd9, hag9⟩ := hy1 hyo
         simp only [rag, List.cons.injEq, Value.bool.injEq, Value.int.injEq, true_and, and_true] at hag9
         obtain ⟨rfl, rfl, rfl, rfl, rfl, rfl⟩ := hag9
         have hxo := rdX_ok hyo
         have hdl := hd_len hag
         have hcl := cnv_len hxo (hdS q.args)
         have hdd : f.drop (i9 + 2) = (rd3 (f.drop 1)).drop 1 := by rw [← hd9, List.drop_drop]; congr 1; omega
         rw [hfdl] at hi9
         refine x_skip <| then_n <| sr rfl <| mP rfl <| Wp rfl <| st_loadA (vs := [_, _, _, _, _, _]) T.agg68 rfl (hb37.cells (n := 6) (vs := [_, _, _, _, _, _]) rfl) rfl <| Wp rfl <| st_call (ags := [_, _]) rfl rfl T.ent30 rfl (rconv_spec hb ha hca (fun h => by have h7 : b < m := h; omega) (rdX (f.drop 1)) hxo (rdO_cv hyo) (by omega) (by omega)) ?_
         rintro _ w44 ⟨rfl, Aa2, ca2, hb2, ha2, hca2, c45⟩
         replace HC := HC.trans c45 (by intro x hx; simp only [List.mem_singleton] at hx; subst hx; exact .inl (by simp))
         replace hb37 := hb37.tr1 c45 (Ne.symm ne_b_b7)
         refine en <| x_region rfl <| mS rfl <| mI rfl <| Wp rfl <| st_addk rfl rfl (by exact (show _ = ((i9 + 2 : Nat) : Int) by rw [wrap64_id (by omega) (by omega)]; omega)) <| Wp rfl <| st_sslo (i := (i9 + 2)) T.u9 rfl ⟨_, rfl⟩ (by omega) <| aS rfl <| wops_nil <| block_n <| block_n <| then_n <| ⟨((f.drop (i9 + 2)), k, (cnvQ q (rdX (f.drop 1))), Aa2, ca2), ?_, ?_, rfl, ⟨rfl, trivial⟩, ?_⟩
         ·refine ⟨?_, HC, hb2, ha2⟩
          exact ⟨by rw [hdd]; rw [← hto, once_yes hgo, if_neg h1, if_neg hpn, if_pos hip, if_neg (by rw [hyo]; decide)], by rw [List.length_drop]; omega, by rw [List.length_drop]; omega, hca2, (fun s hs => hag s (tail_mem hs))⟩
         ·show k < k + 1; omega
         repeat (first | exact agree_upds agree_over rfl | refine agree_upd ?_ rfl | refine agree_upds ?_ rfl | refine agree_over_sub ?_ rfl)
      ·try simp only [nm, ne_eq] at g25
       iterate 3 refine w_no 3 91 true ?_
       refine pF rfl rfl <| aB rfl <| en <| x_cond (t := false) rfl (fun h3 => ?_) (fun h3 => ?_)
       · exact absurd h3 (by decide)
       have hpn := pp_no (f := f) (fun h9 => by first | omega | (have h8 := h9.2.2; have h7 := h9.1; simp_all; done) | (have h8 := h9.2.2; have h7 := h9.1; omega))
       refine x_seq ?_
       have hfdl : (f.drop 1).length = f.length - 1 := List.length_drop
       refine x_region rfl <| mS rfl <| Wp rfl <| st_sslo (i := 1) T.u9 rfl ⟨_, rfl⟩ (by omega) <| Wp rfl <| st_call (ags := [_]) rfl rfl T.ent29 rfl (rread_spec (f.drop 1) _ (by rw [List.length_drop]; omega)) ?_
       rintro _ w46 ⟨l9, z9, wd9, pr9, hh9, cv9, n9, rfl, hy0, hy1, c47⟩
       replace HC := HC.then c47
       replace hb := hb.tr0 c47
       replace ha := ha.tr0 c47
       refine mv (v := .tuple ⟨[_, _]⟩) rfl <| Wp rfl <| st_extract (vs := [_, _]) (v := .agg ⟨[.bool _, .bool _, .int _ _, .int _ _, .bool _, .int _ _]⟩) rfl rfl <| Wp rfl <| st_extract (vs := [_, _]) (v := .int _ _) rfl rfl <| Wp rfl <| st_alloc T.zero68 ?_
       intro b7 w48 e49 c50 hb51
       have ge_b7 : w.heap.size ≤ b7 := by rw [e49]; exact HC.size
       have ne_b_b7 : b ≠ b7 := by rw [e49]; exact hb.ne_size
       replace HC := HC.then c50
       replace hb := hb.tr0 c50
       replace ha := ha.tr0 c50
       clear e49
       refine Wp rfl <| st_store (v := .agg ⟨[.bool _, .bool _, .int _ _, .int _ _, .bool _, .int _ _]⟩) T.size68 rfl rfl rfl hb51 rfl (Nat.le_of_ble_eq_true rfl) (by simp [Value.oneCell', S]) rfl ?_
       intro w52 c53 hb54; simp only [setVs, setV] at hb54
       clear hb51
       replace HC := HC.then1 c53 ge_b7
       replace hb := hb.tr1 c53 ne_b_b7
       replace ha := ha.tr c53 (by intro k hk hD; have hD2 : k < m := hD; simp only [List.mem_cons, List.mem_nil_iff, or_false] at hk; omega)
       refine aI rfl <| en <| x_seq <| sr rfl <| mI rfl <| Wp rfl <| st_eql rfl rfl <| en <| x_cond rfl (fun h4 => ?_) (fun h4 => ?_)
       ·try simp only [nm, ne_eq] at h4
        have hno : rdO (f.drop 1) = false := by cases h9 : rdO (f.drop 1) with | false => rfl | true => (obtain ⟨i9, h8, _⟩ := hy1 h9; omega)
        refine sr rfl <| mP rfl <| nc rfl <| fa T.fld48_3 rfl <| Wp rfl <| st_store (v := .int _ _) T.size3 rfl rfl rfl hb rfl (Nat.le_of_ble_eq_true rfl) (by simp [Value.oneCell', S]) rfl ?_
        intro w55 c56 hb57; simp only [setVs, setV] at hb57
        clear hb
        replace HC := HC.trans c56 (by intro x hx; simp only [List.mem_singleton] at hx; subst hx; exact .inl (by simp))
        replace ha := ha.tr c56 (by intro k hk hD; have hD2 : k < m := hD; simp only [List.mem_cons, List.mem_nil_iff, or_false] at hk; omega)
        replace hb54 := hb54.tr1 c56 (Ne.symm ne_b_b7)
        refine en <| sr rfl <| mP rfl <| nc rfl <| fa T.fld48_4 rfl <| Wp rfl <| st_store (v := .bool _) T.size4 rfl rfl rfl hb57 rfl (Nat.le_of_ble_eq_true rfl) (by simp [Value.oneCell', S]) rfl ?_
        intro w58 c59 hb60; simp only [setVs, setV] at hb60
        clear hb57
        replace HC := HC.trans c59 (by intro x hx; simp only [List.mem_singleton] at hx; subst hx; exact .inl (by simp))
        replace ha := ha.tr c59 (by intro k hk hD; have hD2 : k < m := hD; simp only [List.mem_cons, List.mem_nil_iff, or_false] at hk; omega)
        replace hb54 := hb54.tr1 c59 (Ne.symm ne_b_b7)
        refine en <| x_ret <| then_r <| block_r <| block_r <| then_r <| block_r <| ret_none rfl ?_
        have hend : onceF (f0.length + 1) f0 q0 = ⟨q.args, q.took, true, 1, q.out⟩ := by rw [← hto, once_yes hgo, if_neg h1, if_neg hpn, if_pos hip, if_pos hno]
        rw [hend]
        exact ⟨rfl, Aa, ca, hb60, ha, hca, hag, HC⟩
       ·try simp only [nm, ne_eq] at h4
        have hyo : rdO (f.drop 1) = true := by cases h9 : rdO (f.drop 1) with | true => rfl | false => exact absurd (hy0 h9) (by first | assumption | omega)
        obtain ⟨i9, rfl, hi9, hd9, hag9⟩ := hy1 hyo
        simp only [rag, List.cons.injEq, Value.bool.injEq, Value.int.injEq, true_and, and_true] at hag9
        obtain ⟨rfl, rfl, rfl, rfl, rfl, rfl⟩ := hag9
        have hxo := rdX_ok hyo
        have hdl := hd_len hag
        have hcl := cnv_len hxo (hdS q.args)
        have hdd : f.drop (i9 + 2) = (rd3 (f.drop 1)).drop 1 := by rw [← hd9, List.drop_drop]; congr 1; omega
        rw [hfdl] at hi9
        refine x_skip <| then_n <| sr rfl <| mP rfl <| Wp rfl <| st_loadA (vs := [_, _, _, _, _, _]) T.agg68 rfl (hb54.cells (n := 6) (vs := [_, _, _, _, _, _]) rfl) rfl <| Wp rfl <| st_call (ags := [_, _]) rfl rfl T.ent30 rfl (rconv_spec hb ha hca (fun h => by have h7 : b < m := h; omega) (rdX (f.drop 1)) hxo (rdO_cv hyo) (by omega) (by omega)) ?_
        rintro _ w61 ⟨rfl, Aa2, ca2, hb2, ha2, hca2, c62⟩
        replace HC := HC.trans c62 (by intro x hx; simp only [List.mem_singleton] at hx; subst hx; exact .inl (by simp))
        replace hb54 := hb54.tr1 c62 (Ne.symm ne_b_b7)
        refine en <| x_region rfl <| mS rfl <| mI rfl <| Wp rfl <| st_addk rfl rfl (by exact (show _ = ((i9 + 2 : Nat) : Int) by rw [wrap64_id (by omega) (by omega)]; omega)) <| Wp rfl <| st_sslo (i := (i9 + 2)) T.u9 rfl ⟨_, rfl⟩ (by omega) <| aS rfl <| wops_nil <| block_n <| block_n <| then_n <| ⟨((f.drop (i9 + 2)), k, (cnvQ q (rdX (f.drop 1))), Aa2, ca2), ?_, ?_, rfl, ⟨rfl, trivial⟩, ?_⟩
        ·refine ⟨?_, HC, hb2, ha2⟩
         exact ⟨by rw [hdd]; rw [← hto, once_yes hgo, if_neg h1, if_neg hpn, if_pos hip, if_neg (by rw [hyo]; decide)], by rw [List.length_drop]; omega, by rw [List.length_drop]; omega, hca2, (fun s hs => hag s (tail_mem hs))⟩
        ·show k < k + 1; omega
        repeat (first | exact agree_upds agree_over rfl | refine agree_upd ?_ rfl | refine agree_upds ?_ rfl | refine agree_over_sub ?_ rfl)
   ·try simp only [nm, ne_eq] at h0
    have hend : onceF (f0.length + 1) f0 q0 = q := by rw [← hto]; exact once_no (fun h => by have := h.2.2; omega)
    refine x_exit <| then_x <| then_x <| block_x <| ret_none_n rfl ?_
    rw [hend]
    exact ⟨rfl, Aa, ca, hb, ha, hca, hag, HC⟩
  ·try simp only [nm, ne_eq] at g4
   iterate 6 refine w_no 9 18 true ?_
   refine pF rfl rfl <| en <| x_cond (t := false) rfl (fun h0 => ?_) (fun h0 => ?_)
   · exact absurd h0 (by decide)
   have hend : onceF (f0.length + 1) f0 q0 = q := by rw [← hto]; exact once_no (fun h => by have := h.2.1; simp_all)
   refine x_exit <| then_x <| then_x <| block_x <| ret_none_n rfl ?_
   rw [hend]
   exact ⟨rfl, Aa, ca, hb, ha, hca, hag, HC⟩
 ·try simp only [nm, ne_eq] at g3
  iterate 5 refine w_no 2 11 true ?_
  refine pF rfl rfl <| mB rfl ?_
  iterate 6 refine w_no 9 18 true ?_
  refine pF rfl rfl <| en <| x_cond (t := false) rfl (fun h0 => ?_) (fun h0 => ?_)
  · exact absurd h0 (by decide)
  have hend : onceF (f0.length + 1) f0 q0 = q := by rw [← hto]; exact once_no (fun h => h.1 (by first | assumption | simp_all))
  refine x_exit <| then_x <| then_x <| block_x <| ret_none_n rfl ?_
  rw [hend]
  exact ⟨rfl, Aa, ca, hb, ha, hca, hag, HC⟩

end Go.Proofs.YtlpndcpbnbeohaaDoor.K
set_option linter.unusedVariables false
set_option linter.unusedSimpArgs false
set_option autoImplicit false
set_option maxRecDepth 20000
namespace Go.Proofs.YtlpndcpbnbeohaaDoor.K
open Go Go.Proofs Go.RowKit

theorem prn_1 (f : Bytes) (l : List Bytes) : prnV f l = if more1 (one1 f ⟨l, false, false, 0, []⟩) then prnF l.length f (one1 f ⟨l, false, false, 0, []⟩) else one1 f ⟨l, false, false, 0, []⟩ := by
  unfold prnV; rw [prnF]

set_option maxHeartbeats 1000000 in
theorem RPrintf_spec {A : Option Addr} {c : Nat} {Dl : Nat → Prop} {args : List Bytes} {w : World} (hl : Sl sE w Dl A args) (hc : args.length ≤ c) (hb : ∀ s, s ∈ args → s.length ≤ 10000000000000) : CallR Tryd.prog 10 #[.slice A args.length c] w fun v w' => v = .tuple ⟨[S (printfV args).1, .int .i64 (printfV args).2]⟩ ∧ Chg [] w w' := by
 replace hl := hl.mono (D' := fun k => k < w.heap.size) (fun k hk _ => hk)
 refine callR_of_wp (args := [_]) Tryd.func10 rfl (Nat.le_of_ble_eq_true rfl) ?_
 have HC : Chg [] w w := .refl _
 refine sr rfl <| aS rfl <| aI rfl <| en <| x_seq <| sr rfl <| mL rfl <| Wp rfl <| st_len (ct := #[22]) (by rw [show ((#[22] : Array TypeId)[0]?).bind Tryd.prog.underlying = some (.slice 9) from T.u22]; rfl) rfl <| Wp rfl <| st_eql rfl rfl <| en <| x_cond rfl (fun h0 => ?_) (fun h0 => ?_)
 ·try simp only [nm, ne_eq] at h0
  obtain rfl : args = [] := List.length_eq_zero_iff.1 (by omega)
  refine sr rfl <| aS rfl <| aI rfl <| en <| x_ret <| then_r <| ret_tmp2 (v := S _) (v2 := .int _ _) rfl rfl rfl ?_
  first | exact ⟨rfl, HC⟩ | (rw [hev]; exact ⟨rfl, HC⟩)
 ·try simp only [nm, ne_eq] at h0
  obtain ⟨f, l, rfl⟩ : ∃ f l, args = f :: l := by cases args with | nil => simp at h0 | cons a l => exact ⟨a, l, rfl⟩
  have hfl := hb f (by simp)
  refine x_skip <| then_n <| sr rfl <| mL rfl <| Wp rfl <| st_slice (i := 1) (j := _) T.u22 T.size9 rfl ⟨_, rfl⟩ (by rfl) (by (simp only [List.length_cons]; omega)) (by exact hc) <| Wp rfl <| st_bld (ps := [(0, .tmp 9)]) (vs := [.slice _ _ _, .bool _, S _, .int _ _, .bool _]) T.bld48 rfl <| Wp rfl <| st_box (v := .agg ⟨[.slice _ _ _, .bool _, S _, .int _ _, .bool _]⟩) (vs := [_, _, _, _, _]) rfl rfl ?_
  intro b w1 e2 c3 hb4
  have ge_b : w.heap.size ≤ b := by rw [e2]; exact HC.size
  replace HC := HC.then c3
  replace hl := hl.tr0 c3
  clear e2
  refine aP rfl <| en <| x_seq ?_
  have ha0 := sl_tail hl rfl hc
  refine x_region rfl <| mP rfl <| mL rfl ?_
  obtain ⟨lb9, _, vs8, hA5, hR7, hC6⟩ := hl.at (i := 0) (x := f) (rfl)
  obtain rfl : vs8 = [S f] := hR7
  refine Wp rfl <| st_indexAddr T.u22 T.size9 (congrArg (fun z => Value.slice z _ _) hA5) rfl (by decide) (by (simp only [List.length_cons]; omega)) <| lS T.one9 rfl (hC6.at (j := 0) rfl) <| Wp rfl <| st_call (ags := [_, _]) rfl rfl T.ent19 rfl (ronce_spec (m := w.heap.size) (q0 := ⟨l, false, false, 0, []⟩) f hb4 ha0 (by show l.length ≤ c - 1; simp only [List.length_cons] at hc; omega) ge_b HC.size (fun s hs => hb s (List.mem_cons_of_mem _ hs)) hfl) ?_
  rintro _ w10 ⟨rfl, Aa3, ca3, hb3, ha3, hca3, hag3, c11⟩
  change Blk w10 b [.slice Aa3 (one1 f ⟨l, false, false, 0, []⟩).args.length ca3, .bool (one1 f ⟨l, false, false, 0, []⟩).took, S (one1 f ⟨l, false, false, 0, []⟩).out, .int .i64 (one1 f ⟨l, false, false, 0, []⟩).st, .bool (one1 f ⟨l, false, false, 0, []⟩).done] 48 at hb3
  change Sl sE w10 _ Aa3 (one1 f ⟨l, false, false, 0, []⟩).args at ha3
  replace HC := HC.then1 c11 ge_b
  replace hl := hl.tr c11 (by intro k hk hD; have hD2 : k < w.heap.size := hD; simp only [List.mem_cons, List.mem_nil_iff, or_false] at hk; omega)
  refine en <| x_seq <| x_block <| x_loop (ι := Nat × Wr × Option Addr × Nat) [17, 18, 19, 20, 21, 22, 23, 24, 25, 26, 27, 28, 29, 30, 31, 32, 33, 34, 35, 36, 37, 38, 39, 40, 41, 42, 43, 44, 45, 46, 47, 48, 49, 50, 51] (fun ⟨k, q, Aa, ca⟩ => []) (fun ⟨k, q, Aa, ca⟩ W => ((if more1 q then prnF k f q else q) = prnV f l ∧ (more1 q → q.args.length ≤ k) ∧ q.args.length ≤ ca ∧ (∀ s, s ∈ q.args → s.length ≤ 10000000000000)) ∧ (Chg [] w W) ∧ (Sl sE W (fun k => k < w.heap.size) A (f :: l)) ∧ (Blk W b [.slice Aa q.args.length ca, .bool q.took, S q.out, .int .i64 q.st, .bool q.done] 48) ∧ (Sl sE W (fun k => k < w.heap.size) Aa q.args)) (fun ⟨k, q, Aa, ca⟩ => k) (l.length, (one1 f ⟨l, false, false, 0, []⟩), Aa3, ca3) ?_ ?_ ?_
  · exact trivial
  ·refine ⟨?_, HC, hl, hb3, ha3⟩
   exact ⟨(prn_1 f l).symm, fun h9 => Nat.le_of_lt (more_less h9), hca3, hag3⟩
  intro ⟨k, q, Aa, ca⟩ G13 w12 ⟨⟨hpv, hkk, hca, hag⟩, HC, hl, hb, ha⟩
  change wp _ _ _ _ _ (upds (over _ _ G13) []) _ _
  refine x_seq <| sr rfl <| mP rfl <| nc rfl <| fa T.fld48_0 rfl <| lL T.one22 rfl (hb.cell rfl) <| Wp rfl <| st_len (ct := #[22]) (by rw [show ((#[22] : Array TypeId)[0]?).bind Tryd.prog.underlying = some (.slice 9) from T.u22]; rfl) rfl <| Wp rfl <| st_gtr rfl rfl <| mB rfl <| w_split (d := 23) rfl (fun g14 => ?_) (fun g14 => ?_)
  ·try simp only [nm, ne_eq] at g14
   have hq1 : q.args ≠ [] := fun h => by have h9 := congrArg List.length h; simp only [List.length_nil] at h9; omega
   refine w_yes 6 23 true <| st_move (v := .pointer _) rfl <| w_yes 6 23 true <| st_nilCheck rfl <| w_yes 6 23 true <| st_fieldAddr T.fld48_1 rfl <| w_yes 6 23 true <| st_load1 (v := .bool _) T.one4 rfl (hb.cell rfl) <| pT rfl rfl <| mB rfl <| w_split (d := 29) rfl (fun g15 => ?_) (fun g15 => ?_)
   ·try simp only [nm, ne_eq] at g15
    have hq2 : q.took = true := by first | assumption | simp_all
    refine w_yes 12 29 true <| st_move (v := .pointer _) rfl <| w_yes 12 29 true <| st_nilCheck rfl <| w_yes 12 29 true <| st_fieldAddr T.fld48_4 rfl <| w_yes 12 29 true <| st_load1 (v := .bool _) T.one4 rfl (hb.cell rfl) <| w_yes 12 29 true <| st_not rfl <| pT rfl rfl <| mB rfl <| w_split (d := 36) rfl (fun g16 => ?_) (fun g16 => ?_)
    ·try simp only [nm, ne_eq] at g16
     have hq3 : q.done = false := by first | assumption | simp_all
     refine w_yes 19 36 true <| st_move (v := .pointer _) rfl <| w_yes 19 36 true <| st_nilCheck rfl <| w_yes 19 36 true <| st_fieldAddr T.fld48_2 rfl <| w_yes 19 36 true <| st_load1 (v := S _) T.one9 rfl (hb.cell rfl) <| w_yes 19 36 true <| st_slen (ct := #[9]) T.u9 rfl <| w_yes 19 36 true <| st_leq rfl rfl <| pT rfl rfl <| en <| x_cond rfl (fun h1 => ?_) (fun h1 => ?_)
     ·try simp only [nm, ne_eq] at h1
      have hmo : more1 q := ⟨hq1, hq2, hq3, by omega⟩
      obtain ⟨k, rfl⟩ : ∃ j, k = j + 1 := ⟨k - 1, by have := hkk hmo; have := List.length_pos_iff.2 hq1; omega⟩
      refine x_skip <| then_n <| x_block <| sr rfl <| mP rfl <| nc rfl <| fa T.fld48_1 rfl <| Wp rfl <| st_store (v := .bool _) T.size4 rfl rfl rfl hb rfl (Nat.le_of_ble_eq_true rfl) (by simp [Value.oneCell', S]) rfl ?_
      intro w17 c18 hb19; simp only [setVs, setV] at hb19
      clear hb
      replace HC := HC.then1 c18 ge_b
      replace hl := hl.tr c18 (by intro k hk hD; have hD2 : k < w.heap.size := hD; simp only [List.mem_cons, List.mem_nil_iff, or_false] at hk; omega)
      replace ha := ha.tr c18 (by intro k hk hD; have hD2 : k < w.heap.size := hD; simp only [List.mem_cons, List.mem_nil_iff, or_false] at hk; omega)
      refine en <| x_region rfl <| mP rfl <| mL rfl ?_
      obtain ⟨lb24, _, vs23, hA20, hR22, hC21⟩ := hl.at (i := 0) (x := f) (rfl)
      obtain rfl : vs23 = [S f] := hR22
      refine Wp rfl <| st_indexAddr T.u22 T.size9 (congrArg (fun z => Value.slice z _ _) hA20) rfl (by decide) (by (simp only [List.length_cons]; omega)) <| lS T.one9 rfl (hC21.at (j := 0) rfl) <| Wp rfl <| st_call (ags := [_, _]) rfl rfl T.ent19 rfl (ronce_spec (m := w.heap.size) (q0 := ⟨q.args, false, q.done, q.st, q.out⟩) f hb19 ha hca ge_b HC.size hag hfl) ?_
      rintro _ w25 ⟨rfl, Aa4, ca4, hb4, ha4, hca4, hag4, c26⟩
      change Blk w25 b [.slice Aa4 (one1 f q).args.length ca4, .bool (one1 f q).took, S (one1 f q).out, .int .i64 (one1 f q).st, .bool (one1 f q).done] 48 at hb4
      change Sl sE w25 _ Aa4 (one1 f q).args at ha4
      replace HC := HC.then1 c26 ge_b
      replace hl := hl.tr c26 (by intro k hk hD; have hD2 : k < w.heap.size := hD; simp only [List.mem_cons, List.mem_nil_iff, or_false] at hk; omega)
      refine wops_nil <| block_n <| then_n <| ⟨(k, (one1 f q), Aa4, ca4), ?_, ?_, rfl, trivial, ?_⟩
      ·refine ⟨?_, HC, hl, hb4, ha4⟩
       exact ⟨by rw [← hpv, if_pos hmo, prnF], fun h9 => (by have := more_less h9; have := hkk hmo; omega), hca4, hag4⟩
      ·show k < k + 1; omega
      repeat (first | exact agree_upds agree_over rfl | refine agree_upd ?_ rfl | refine agree_upds ?_ rfl | refine agree_over_sub ?_ rfl)
     ·try simp only [nm, ne_eq] at h1
      have hfin : q = prnV f l := by rw [← hpv, if_neg (fun h => by have := h.2.2.2; omega)]
      refine x_exit <| then_x <| then_x <| block_x <| then_n <| x_seq <| sr rfl <| mP rfl <| nc rfl <| fa T.fld48_2 rfl <| lS T.one9 rfl (hb.cell rfl) <| Wp rfl <| st_slen (ct := #[9]) T.u9 rfl <| Wp rfl <| st_gtr rfl rfl <| en <| x_cond rfl (fun h2 => ?_) (fun h2 => ?_)
      ·try simp only [nm, ne_eq] at h2
       have hev : printfV (f :: l) = ([], 1) := by rw [printf_cons, ← hfin, if_pos (by omega)]
       refine sr rfl <| aS rfl <| aI rfl <| en <| x_ret <| then_r <| ret_tmp2 (v := S _) (v2 := .int _ _) rfl rfl rfl ?_
       first | exact ⟨rfl, HC⟩ | (rw [hev]; exact ⟨rfl, HC⟩)
      ·try simp only [nm, ne_eq] at h2
       have hev : printfV (f :: l) = (q.out, q.st) := by rw [printf_cons, ← hfin, if_neg (by omega)]
       refine x_skip <| then_n <| x_seq <| x_draw [(0, 0), (1, 0), (2, 0), (3, 0), (4, 0), (5, 0), (6, 0), (7, 0), (8, 0), (9, 0)] T.mixed rfl rfl rfl (fun W => W.heap[b]? = w12.heap[b]? ∧ True) ⟨rfl, trivial⟩ ?_
       have o29 := hb
       have c28 := Chg.drew w12
       generalize World.drew w12 = w27 at c28 ⊢
       replace HC := HC.then c28
       replace hl := hl.tr0 c28
       replace hb := hb.tr0 c28
       replace ha := ha.tr0 c28
       refine sq_q rfl (fun W hT => r_move (v := .pointer _) rfl) <| sq_q rfl (fun W hT => r_nilCheck rfl) <| sq_q rfl (fun W hT => r_fieldAddr T.fld48_2 rfl) <| sq_q rfl (fun W hT => r_load1 (v := S _) T.one9 rfl (Blk.cell (show Blk W b _ _ from hT.1.trans o29) rfl)) <| sq_q rfl (fun W hT => r_move (v := .pointer _) rfl) <| sq_q rfl (fun W hT => r_nilCheck rfl) <| sq_q rfl (fun W hT => r_fieldAddr T.fld48_3 rfl) <| sq_q rfl (fun W hT => r_load1 (v := .int _ _) T.one3 rfl (Blk.cell (show Blk W b _ _ from hT.1.trans o29) rfl)) <| sq_q rfl (fun W hT => r_assign (v := S _) rfl) <| sq_q rfl (fun W hT => r_assign (v := .int _ _) rfl) ?_
       clear o29
       refine sq_nil <| then_n <| x_ret <| ret_tmp2 (v := S _) (v2 := .int _ _) rfl rfl rfl ?_
       first | exact ⟨rfl, HC⟩ | (rw [hev]; exact ⟨rfl, HC⟩)
    ·try simp only [nm, ne_eq] at g16
     iterate 6 refine w_no 19 36 true ?_
     refine pF rfl rfl <| en <| x_cond (t := false) rfl (fun h1 => ?_) (fun h1 => ?_)
     · exact absurd h1 (by decide)
     have hfin : q = prnV f l := by rw [← hpv, if_neg (fun h => by have := h.2.2.1; simp_all)]
     refine x_exit <| then_x <| then_x <| block_x <| then_n <| x_seq <| sr rfl <| mP rfl <| nc rfl <| fa T.fld48_2 rfl <| lS T.one9 rfl (hb.cell rfl) <| Wp rfl <| st_slen (ct := #[9]) T.u9 rfl <| Wp rfl <| st_gtr rfl rfl <| en <| x_cond rfl (fun h2 => ?_) (fun h2 => ?_)
     ·try simp only [nm, ne_eq] at h2
      have hev : printfV (f :: l) = ([], 1) := by rw [printf_cons, ← hfin, if_pos (by omega)]
      refine sr rfl <| aS rfl <| aI rfl <| en <| x_ret <| then_r <| ret_tmp2 (v := S _) (v2 := .int _ _) rfl rfl rfl ?_
      first | exact ⟨rfl, HC⟩ | (rw [hev]; exact ⟨rfl, HC⟩)
     ·try simp only [nm, ne_eq] at h2
      have hev : printfV (f :: l) = (q.out, q.st) := by rw [printf_cons, ← hfin, if_neg (by omega)]
      refine x_skip <| then_n <| x_seq <| x_draw [(0, 0), (1, 0), (2, 0), (3, 0), (4, 0), (5, 0), (6, 0), (7, 0), (8, 0), (9, 0)] T.mixed rfl rfl rfl (fun W => W.heap[b]? = w12.heap[b]? ∧ True) ⟨rfl, trivial⟩ ?_
      have o32 := hb
      have c31 := Chg.drew w12
      generalize World.drew w12 = w30 at c31 ⊢
      replace HC := HC.then c31
      replace hl := hl.tr0 c31
      replace hb := hb.tr0 c31
      replace ha := ha.tr0 c31
      refine sq_q rfl (fun W hT => r_move (v := .pointer _) rfl) <| sq_q rfl (fun W hT => r_nilCheck rfl) <| sq_q rfl (fun W hT => r_fieldAddr T.fld48_2 rfl) <| sq_q rfl (fun W hT => r_load1 (v := S _) T.one9 rfl (Blk.cell (show Blk W b _ _ from hT.1.trans o32) rfl)) <| sq_q rfl (fun W hT => r_move (v := .pointer _) rfl) <| sq_q rfl (fun W hT => r_nilCheck rfl) <| sq_q rfl (fun W hT => r_fieldAddr T.fld48_3 rfl) <| sq_q rfl (fun W hT => r_load1 (v := .int _ _) T.one3 rfl (Blk.cell (show Blk W b _ _ from hT.1.trans o32) rfl)) <| sq_q rfl (fun W hT => r_assign (v := S _) rfl) <| sq_q rfl (fun W hT => r_assign (v := .int _ _) rfl) ?_
      clear o32
      refine sq_nil <| then_n <| x_ret <| ret_tmp2 (v := S _) (v2 := .int _ _) rfl rfl rfl ?_
      first | exact ⟨rfl, HC⟩ | (rw [hev]; exact ⟨rfl, HC⟩)
   ·try simp only [nm, ne_eq] at g15
    iterate 5 refine w_no 12 29 true ?_
    refine pF rfl rfl <| mB rfl ?_
    iterate 6 refine w_no 19 36 true ?_
    refine pF rfl rfl <| en <| x_cond (t := false) rfl (fun h1 => ?_) (fun h1 => ?_)
    · exact absurd h1 (by decide)
    have hfin : q = prnV f l := by rw [← hpv, if_neg (fun h => by have := h.2.1; simp_all)]
    refine x_exit <| then_x <| then_x <| block_x <| then_n <| x_seq <| sr rfl <| mP rfl <| nc rfl <| fa T.fld48_2 rfl <| lS T.one9 rfl (hb.cell rfl) <| Wp rfl <| st_slen (ct := #[9]) T.u9 rfl <| Wp rfl <| st_gtr rfl rfl <| en <| x_cond rfl (fun h2 => ?_) (fun h2 => ?_)
    ·try simp only [nm, ne_eq] at h2
     have hev : printfV (f :: l) = ([], 1) := by rw [printf_cons, ← hfin, if_pos (by omega)]
     refine sr rfl <| aS rfl <| aI rfl <| en <| x_ret <| then_r <| ret_tmp2 (v := S _) (v2 := .int _ _) rfl rfl rfl ?_
     first | exact ⟨rfl, HC⟩ | (rw [hev]; exact ⟨rfl, HC⟩)
    ·try simp only [nm, ne_eq] at h2
     have hev : printfV (f :: l) = (q.out, q.st) := by rw [printf_cons, ← hfin, if_neg (by omega)]
     refine x_skip <| then_n <| x_seq <| x_draw [(0, 0), (1, 0), (2, 0), (3, 0), (4, 0), (5, 0), (6, 0), (7, 0), (8, 0), (9, 0)] T.mixed rfl rfl rfl (fun W => W.heap[b]? = w12.heap[b]? ∧ True) ⟨rfl, trivial⟩ ?_
     have o35 := hb
     have c34 := Chg.drew w12
     generalize World.drew w12 = w33 at c34 ⊢
     replace HC := HC.then c34
     replace hl := hl.tr0 c34
     replace hb := hb.tr0 c34
     replace ha := ha.tr0 c34
     refine sq_q rfl (fun W hT => r_move (v := .pointer _) rfl) <| sq_q rfl (fun W hT => r_nilCheck rfl) <| sq_q rfl (fun W hT => r_fieldAddr T.fld48_2 rfl) <| sq_q rfl (fun W hT => r_load1 (v := S _) T.one9 rfl (Blk.cell (show Blk W b _ _ from hT.1.trans o35) rfl)) <| sq_q rfl (fun W hT => r_move (v := .pointer _) rfl) <| sq_q rfl (fun W hT => r_nilCheck rfl) <| sq_q rfl (fun W hT => r_fieldAddr T.fld48_3 rfl) <| sq_q rfl (fun W hT => r_load1 (v := .int _ _) T.one3 rfl (Blk.cell (show Blk W b _ _ from hT.1.trans o35) rfl)) <| sq_q rfl (fun W hT => r_assign (v := S _) rfl) <| sq_q rfl (fun W hT => r_assign (v := .int _ _) rfl) ?_
     clear o35
     refine sq_nil <| then_n <| x_ret <| ret_tmp2 (v := S _) (v2 := .int _ _) rfl rfl rfl ?_
     first | exact ⟨rfl, HC⟩ | (rw [hev]; exact ⟨rfl, HC⟩)
  ·try simp only [nm, ne_eq] at g14
   iterate 4 refine w_no 6 23 true ?_
   refine pF rfl rfl <| mB rfl ?_
   iterate 5 refine w_no 12 29 true ?_
   refine pF rfl rfl <| mB rfl ?_
   iterate 6 refine w_no 19 36 true ?_
   refine pF rfl rfl <| en <| x_cond (t := false) rfl (fun h1 => ?_) (fun h1 => ?_)
   · exact absurd h1 (by decide)
   have hfin : q = prnV f l := by rw [← hpv, if_neg (fun h => absurd (List.length_pos_iff.2 h.1) (by omega))]
   refine x_exit <| then_x <| then_x <| block_x <| then_n <| x_seq <| sr rfl <| mP rfl <| nc rfl <| fa T.fld48_2 rfl <| lS T.one9 rfl (hb.cell rfl) <| Wp rfl <| st_slen (ct := #[9]) T.u9 rfl <| Wp rfl <| st_gtr rfl rfl <| en <| x_cond rfl (fun h2 => ?_) (fun h2 => ?_)
   ·try simp only [nm, ne_eq] at h2
    have hev : printfV (f :: l) = ([], 1) := by rw [printf_cons, ← hfin, if_pos (by omega)]
    refine sr rfl <| aS rfl <| aI rfl <| en <| x_ret <| then_r <| ret_tmp2 (v := S _) (v2 := .int _ _) rfl rfl rfl ?_
    first | exact ⟨rfl, HC⟩ | (rw [hev]; exact ⟨rfl, HC⟩)
   ·try simp only [nm, ne_eq] at h2
    have hev : printfV (f :: l) = (q.out, q.st) := by rw [printf_cons, ← hfin, if_neg (by omega)]
    refine x_skip <| then_n <| x_seq <| x_draw [(0, 0), (1, 0), (2, 0), (3, 0), (4, 0), (5, 0), (6, 0), (7, 0), (8, 0), (9, 0)] T.mixed rfl rfl rfl (fun W => W.heap[b]? = w12.heap[b]? ∧ True) ⟨rfl, trivial⟩ ?_
    have o38 := hb
    have c37 := Chg.drew w12
    generalize World.drew w12 = w36 at c37 ⊢
    replace HC := HC.then c37
    replace hl := hl.tr0 c37
    replace hb := hb.tr0 c37
    replace ha := ha.tr0 c37
    refine sq_q rfl (fun W hT => r_move (v := .pointer _) rfl) <| sq_q rfl (fun W hT => r_nilCheck rfl) <| sq_q rfl (fun W hT => r_fieldAddr T.fld48_2 rfl) <| sq_q rfl (fun W hT => r_load1 (v := S _) T.one9 rfl (Blk.cell (show Blk W b _ _ from hT.1.trans o38) rfl)) <| sq_q rfl (fun W hT => r_move (v := .pointer _) rfl) <| sq_q rfl (fun W hT => r_nilCheck rfl) <| sq_q rfl (fun W hT => r_fieldAddr T.fld48_3 rfl) <| sq_q rfl (fun W hT => r_load1 (v := .int _ _) T.one3 rfl (Blk.cell (show Blk W b _ _ from hT.1.trans o38) rfl)) <| sq_q rfl (fun W hT => r_assign (v := S _) rfl) <| sq_q rfl (fun W hT => r_assign (v := .int _ _) rfl) ?_
    clear o38
    refine sq_nil <| then_n <| x_ret <| ret_tmp2 (v := S _) (v2 := .int _ _) rfl rfl rfl ?_
    first | exact ⟨rfl, HC⟩ | (rw [hev]; exact ⟨rfl, HC⟩)

theorem EchoWrites_spec {A : Option Addr} {c : Nat} {Dl : Nat → Prop} {args : List Bytes} {w : World} (s : Bytes) (hl : Sl sE w Dl A args) (hc : args.length ≤ c) (hb : ∀ s, s ∈ args → s.length ≤ 140737488351232) (hn : args.length ≤ 140737488351232) (hs : s.length ≤ 140737488351232) : CallR Tryd.prog 3 #[.slice A args.length c, S s] w fun v w' => v = .bool true ∧ Chg [] w w' := by
 replace hl := hl.mono (D' := fun k => k < w.heap.size) (fun k hk _ => hk)
 refine callR_of_wp (args := [_, _]) Tryd.func3 rfl (Nat.le_of_ble_eq_true rfl) ?_
 have HC : Chg [] w w := .refl _
 refine sr rfl <| aB rfl <| en <| x_seq <| sr rfl <| mL rfl <| Wp rfl <| st_call (ags := [_]) rfl rfl T.ent7 rfl (short_spec hl hc hb hn) ?_
 rintro _ w1 ⟨rfl, c2⟩
 replace HC := HC.then c2
 replace hl := hl.tr0 c2
 refine Wp rfl <| st_not rfl <| mB rfl <| w_split (d := 16) rfl (fun g3 => ?_) (fun g3 => ?_)
 ·try simp only [nm, ne_eq] at g3
  iterate 3 refine w_no 3 16 false ?_
  refine pT rfl rfl <| en <| x_cond (t := true) rfl (fun h0 => ?_) (fun h0 => ?_)
  rotate_left
  · exact absurd h0 (by decide)
  refine sr rfl <| Wp rfl <| st_call (ags := []) rfl rfl T.ent8 rfl (awake23_spec) ?_
  rintro _ w4 ⟨rfl, c5⟩
  replace HC := HC.then c5
  replace hl := hl.tr0 c5
  refine aB rfl <| en <| x_ret <| then_r <| ret_tmp (v := .bool _) rfl rfl ?_
  exact ⟨rfl, HC⟩
 ·try simp only [nm, ne_eq] at g3
  refine w_yes 3 16 false <| st_move (v := S _) rfl <| w_yes 3 16 false <| st_slen (ct := #[9]) T.u9 rfl <| w_yes 3 16 false <| st_gtr rfl rfl <| pF rfl rfl <| en <| x_cond rfl (fun h0 => ?_) (fun h0 => ?_)
  ·try simp only [nm, ne_eq] at h0
   refine sr rfl <| Wp rfl <| st_call (ags := []) rfl rfl T.ent8 rfl (awake23_spec) ?_
   rintro _ w6 ⟨rfl, c7⟩
   replace HC := HC.then c7
   replace hl := hl.tr0 c7
   refine aB rfl <| en <| x_ret <| then_r <| ret_tmp (v := .bool _) rfl rfl ?_
   exact ⟨rfl, HC⟩
  ·try simp only [nm, ne_eq] at h0
   have hsh : tot args ≤ 2000 ∧ args.length ≤ 30 := of_decide_eq_true (show shortB args = true by first | assumption | simp_all)
   have hbb : ∀ s, s ∈ args → s.length ≤ 10000000000000 := fun s hs => by have := tot_mem hs; omega
   have hj1 := join_len args
   have hj2 := join_len args.tail
   have htt := tot_tail args
   have htl := tl_len args
   refine x_skip <| then_n <| sr rfl <| mL rfl <| Wp rfl <| st_call (ags := [_]) rfl rfl T.ent9 rfl (Printf_spec hl hc hbb) ?_
   rintro _ w8 ⟨rfl, c9⟩
   replace HC := HC.then c9
   replace hl := hl.tr0 c9
   refine mv (v := .tuple ⟨[_, _]⟩) rfl <| Wp rfl <| st_extract (vs := [_, _]) (v := S _) rfl rfl <| Wp rfl <| st_extract (vs := [_, _]) (v := .int _ _) rfl rfl <| aS rfl <| aI rfl <| en <| sr rfl <| mL rfl <| Wp rfl <| st_call (ags := [_]) rfl rfl T.ent10 rfl (RPrintf_spec hl hc hbb) ?_
   rintro _ w10 ⟨rfl, c11⟩
   replace HC := HC.then c11
   replace hl := hl.tr0 c11
   refine mv (v := .tuple ⟨[_, _]⟩) rfl <| Wp rfl <| st_extract (vs := [_, _]) (v := S _) rfl rfl <| Wp rfl <| st_extract (vs := [_, _]) (v := .int _ _) rfl rfl <| aS rfl <| aI rfl <| en <| sr rfl <| mS rfl <| Wp rfl <| st_call (ags := [_]) rfl rfl T.ent11 rfl (Escapes_spec s _ (by omega)) ?_
   rintro _ w12 ⟨rfl, c13⟩
   replace HC := HC.then c13
   replace hl := hl.tr0 c13
   refine mv (v := .tuple ⟨[_, _]⟩) rfl <| Wp rfl <| st_extract (vs := [_, _]) (v := S _) rfl rfl <| Wp rfl <| st_extract (vs := [_, _]) (v := .bool _) rfl rfl <| aS rfl <| aB rfl <| en <| sr rfl <| mS rfl <| Wp rfl <| st_call (ags := [_]) rfl rfl T.ent12 rfl (REscapes_spec s _ (by omega)) ?_
   rintro _ w14 ⟨rfl, c15⟩
   replace HC := HC.then c15
   replace hl := hl.tr0 c15
   refine mv (v := .tuple ⟨[_, _]⟩) rfl <| Wp rfl <| st_extract (vs := [_, _]) (v := S _) rfl rfl <| Wp rfl <| st_extract (vs := [_, _]) (v := .bool _) rfl rfl <| aS rfl <| aB rfl <| en <| sr rfl <| mL rfl <| Wp rfl <| st_call (ags := [_]) rfl rfl T.ent13 rfl (Echo_spec hl hc hbb (by omega) (by omega) (by omega)) ?_
   rintro _ w16 ⟨rfl, c17⟩
   replace HC := HC.then c17
   replace hl := hl.tr0 c17
   refine mL rfl <| Wp rfl <| st_call (ags := [_]) rfl rfl T.ent14 rfl (REcho_spec hl hc hsh.1 hsh.2) ?_
   rintro _ w18 ⟨rfl, c19⟩
   replace HC := HC.then c19
   replace hl := hl.tr0 c19
   refine Wp rfl <| st_seql rfl rfl <| mB rfl <| w_split (d := 47) rfl (fun g20 => ?_) (fun g20 => ?_)
   ·try simp only [nm, ne_eq] at g20
    refine w_yes 5 47 true <| st_move (v := S _) rfl <| w_yes 5 47 true <| st_move (v := S _) rfl <| w_yes 5 47 true <| st_seql rfl rfl <| pT rfl rfl <| mB rfl <| w_split (d := 52) rfl (fun g21 => ?_) (fun g21 => ?_)
    ·try simp only [nm, ne_eq] at g21
     refine w_yes 10 52 true <| st_move (v := .int _ _) rfl <| w_yes 10 52 true <| st_move (v := .int _ _) rfl <| w_yes 10 52 true <| st_eql rfl rfl <| pT rfl rfl <| mB rfl <| w_split (d := 57) rfl (fun g22 => ?_) (fun g22 => ?_)
     ·try simp only [nm, ne_eq] at g22
      refine w_yes 15 57 true <| st_move (v := S _) rfl <| w_yes 15 57 true <| st_move (v := S _) rfl <| w_yes 15 57 true <| st_seql rfl rfl <| pT rfl rfl <| mB rfl <| w_split (d := 62) rfl (fun g23 => ?_) (fun g23 => ?_)
      ·try simp only [nm, ne_eq] at g23
       refine w_yes 20 62 true <| st_move (v := .bool _) rfl <| w_yes 20 62 true <| st_move (v := .bool _) rfl <| w_yes 20 62 true <| st_beql T.u4 rfl rfl <| pT rfl rfl <| mB rfl <| w_split (d := 67) rfl (fun g24 => ?_) (fun g24 => ?_)
       ·try simp only [nm, ne_eq] at g24
        refine w_yes 25 67 true <| st_call (ags := []) rfl rfl T.ent8 rfl (awake23_spec) ?_
        rintro _ w25 ⟨rfl, c26⟩
        replace HC := HC.then c26
        replace hl := hl.tr0 c26
        refine pT rfl rfl <| aB rfl <| en <| x_ret <| ret_tmp (v := .bool _) rfl rfl ?_
        exact ⟨rfl, HC⟩
       ·try simp only [nm, ne_eq] at g24
        first | exact absurd rfl g24 | exact absurd trivial g24 | (simp at g24; done)
      ·try simp only [nm, ne_eq] at g23
       first | exact absurd rfl g23 | exact absurd trivial g23 | (simp at g23; done)
     ·try simp only [nm, ne_eq] at g22
      first | exact absurd rfl g22 | exact absurd trivial g22 | (simp at g22; done)
    ·try simp only [nm, ne_eq] at g21
     first | exact absurd rfl g21 | exact absurd trivial g21 | (simp at g21; done)
   ·try simp only [nm, ne_eq] at g20
    first | exact absurd rfl g20 | exact absurd trivial g20 | (simp at g20; done)

end Go.Proofs.YtlpndcpbnbeohaaDoor.K
