/- Walks. -/
import Derived.Test.YtbnbkndeodankaaRf
import Derived.Test.YtbnbkndeodankaaFr
import Derived.Test.YtbnbkndeodankaaTy
set_option linter.unusedVariables false
set_option linter.unusedSimpArgs false
set_option autoImplicit false
set_option maxRecDepth 20000
namespace Go.Proofs.Ytbnbkndeodankaa.K
open Go Go.Proofs Go.RowKit

theorem Rresult_spec {N b : Nat} {A : Option Addr} {cap : Nat} {x : Sp} {w : World} (c : UInt8) (ifs : Bytes) (h : SpAtR N w b A cap x) (hN : N ≤ w.heap.size) (hl : x.out.length ≤ 1000000000) (hl1 : x.f.text.length ≤ 1000000000) (hl2 : x.f.quoted.length ≤ 1000000000) (hi : ifs.length ≤ 9223372036854775807) :
    CallR Try.prog 25 #[.pointer (some ⟨b, 0, none⟩), .int .u8 (c.toNat : Int), S ifs] w fun v w' => v = .tuple ⟨[]⟩ ∧ ∃ A' cap', SpAtR N w' b A' cap' (x.rbyte ifs c) ∧ Chg (b :: ob A) w w' ∧ ∀ g, g ∈ ob A' → g ∈ ob A ∨ w.heap.size ≤ g := by
  obtain ⟨hb, ho⟩ := h
  refine callR_of_wp (args := [_, _, _]) Try.func25 rfl (Nat.le_of_ble_eq_true rfl) ?_
  have HC : Chg (b :: ob A) w w := .refl _
  refine x_seq ?_
  refine x_seq ?_
  refine x_region rfl ?_
  refine w_plain rfl (st_move (v := S _) rfl ?_)
  refine w_plain rfl (st_move (v := .int _ _) rfl ?_)
  refine w_plain rfl (st_call (ags := [_, _]) rfl rfl T.ent35 rfl (Rhas_spec ifs c _ hi) ?_)
  rintro _ w1 ⟨rfl, c2⟩
  replace HC := HC.then c2
  replace hb := hb.tr0 c2
  replace ho := ho.tr0 c2
  refine w_plain rfl (st_not rfl ?_)
  refine wops_nil ?_
  refine then_n ?_
  refine x_cond rfl (fun h0 => ?_) (fun h0 => ?_)
  · skip
    try simp only [decide_eq_true_eq, decide_eq_false_iff_not, Bool.not_eq_true', Bool.not_eq_false', Bool.not_true, Bool.not_false, ne_eq, Int.toNat_natCast, Int.toNat_zero, Int.toNat_one, Bool.not_eq_true, Bool.not_eq_false] at h0
    refine x_seq ?_
    refine x_region rfl ?_
    refine w_plain rfl (st_move (v := .pointer _) rfl ?_)
    refine w_plain rfl (st_move (v := .int _ _) rfl ?_)
    refine w_plain rfl (st_call (ags := [_, _, _]) rfl rfl T.ent26 rfl (Rput_spec c 48 ⟨hb, ho⟩ hl1 hl2) ?_)
    rintro _ w3 ⟨rfl, ⟨hb, ho⟩, c4⟩
    replace HC := HC.trans c4 (by intro x hx; simp only [List.mem_singleton] at hx; subst hx; exact .inl (by simp))
    refine wops_nil ?_
    refine then_n ?_
    refine x_ret ?_
    refine then_r ?_
    refine ret_none rfl ?_
    refine ⟨rfl, A, cap, ?_, HC, fun g h => .inl h⟩
    unfold Sp.rbyte
    rw [if_pos h0]
    exact ⟨hb, ho⟩
  · skip
    try simp only [decide_eq_true_eq, decide_eq_false_iff_not, Bool.not_eq_true', Bool.not_eq_false', Bool.not_true, Bool.not_false, ne_eq, Int.toNat_natCast, Int.toNat_zero, Int.toNat_one, Bool.not_eq_true, Bool.not_eq_false] at h0
    refine x_skip ?_
    refine then_n ?_
    refine x_seq ?_
    refine x_seq ?_
    refine x_region rfl ?_
    refine w_plain rfl (st_move (v := .int _ _) rfl ?_)
    refine w_plain rfl (st_eql rfl rfl ?_)
    refine w_plain rfl (st_move (v := .bool _) rfl ?_)
    refine w_split (d := 15) rfl (fun g5 => ?_) (fun g5 => ?_)
    · skip
      try simp only [decide_eq_true_eq, decide_eq_false_iff_not, Bool.not_eq_true', Bool.not_eq_false', Bool.not_true, Bool.not_false, ne_eq, Int.toNat_natCast, Int.toNat_zero, Int.toNat_one, Bool.not_eq_true, Bool.not_eq_false] at g5
      refine w_no 2 15 false rfl rfl rfl (by first | exact .inl rfl | exact .inr rfl) ?_
      refine w_no 2 15 false rfl rfl rfl (by first | exact .inl rfl | exact .inr rfl) ?_
      refine w_plain rfl (st_pick (b := true) (v := .bool _) rfl rfl ?_)
      refine w_plain rfl (st_move (v := .bool _) rfl ?_)
      refine w_no 6 19 false rfl rfl rfl (by first | exact .inl rfl | exact .inr rfl) ?_
      refine w_no 6 19 false rfl rfl rfl (by first | exact .inl rfl | exact .inr rfl) ?_
      refine w_plain rfl (st_pick (b := true) (v := .bool _) rfl rfl ?_)
      refine wops_nil ?_
      refine then_n ?_
      refine x_cond (t := true) rfl (fun h1 => ?_) (fun h1 => ?_)
      rotate_left
      · exact absurd h1 (by decide)
      refine x_seq ?_
      refine x_seq ?_
      refine x_region rfl ?_
      refine w_plain rfl (st_move (v := .pointer _) rfl ?_)
      refine w_plain rfl (st_nilCheck rfl ?_)
      refine w_plain rfl (st_fieldAddr T.fld59_1 rfl ?_)
      refine w_plain rfl (st_load1 (v := .bool _) T.one4 rfl (hb.cell rfl) ?_)
      refine wops_nil ?_
      refine then_n ?_
      refine x_cond rfl (fun h2 => ?_) (fun h2 => ?_)
      · skip
        try simp only [decide_eq_true_eq, decide_eq_false_iff_not, Bool.not_eq_true', Bool.not_eq_false', Bool.not_true, Bool.not_false, ne_eq, Int.toNat_natCast, Int.toNat_zero, Int.toNat_one, Bool.not_eq_true, Bool.not_eq_false] at h2
        refine x_seq ?_
        refine x_region rfl ?_
        refine w_plain rfl (st_move (v := .pointer _) rfl ?_)
        have hsz := HC.size
        refine w_plain rfl (st_call (ags := [_]) rfl rfl T.ent24 rfl (Rtell_spec ⟨hb, ho⟩ (by omega) (by first | assumption | omega)) ?_)
        rintro _ w6 ⟨rfl, A8, cap9, ⟨hb, ho⟩, c7, hg⟩
        replace HC := HC.trans c7 (by intro x hx; exact .inl hx)
        refine wops_nil ?_
        refine then_n ?_
        refine x_region rfl ?_
        refine w_plain rfl (st_move (v := .pointer _) rfl ?_)
        refine w_plain rfl (st_nilCheck rfl ?_)
        refine w_plain rfl (st_fieldAddr T.fld59_2 rfl ?_)
        refine w_plain rfl (st_store (v := .bool _) T.size4 rfl rfl rfl hb rfl (Nat.le_of_ble_eq_true rfl) (by simp [Value.oneCell', S]) rfl ?_)
        intro w10 c11 hb12; simp only [setVs, setV] at hb12
        clear hb
        replace HC := HC.trans c11 (by intro x hx; simp only [List.mem_singleton] at hx; subst hx; exact .inl (by simp))
        replace ho := ho.tr c11 (by intro x hx; simp only [List.mem_cons, List.mem_nil_iff, or_false] at hx; subst hx; exact fun h => h.2 rfl)
        refine wops_nil ?_
        refine then_n ?_
        refine x_ret ?_
        refine then_r ?_
        refine ret_none rfl ?_
        refine ⟨rfl, A8, cap9, ?_, HC, fun g h => (hg g h).imp id (fun h => by omega)⟩
        unfold Sp.rbyte
        rw [if_neg (by simp [-List.contains_eq_mem, h0]), if_pos (blank_iff.1 (by first | (left; assumption) | (right; left; assumption) | (right; right; assumption))), if_pos h2]
        exact ⟨hb12, ho⟩
      · skip
        try simp only [decide_eq_true_eq, decide_eq_false_iff_not, Bool.not_eq_true', Bool.not_eq_false', Bool.not_true, Bool.not_false, ne_eq, Int.toNat_natCast, Int.toNat_zero, Int.toNat_one, Bool.not_eq_true, Bool.not_eq_false] at h2
        refine x_skip ?_
        refine then_n ?_
        refine x_ret ?_
        refine then_r ?_
        refine ret_none rfl ?_
        refine ⟨rfl, A, cap, ?_, HC, fun g h => .inl h⟩
        unfold Sp.rbyte
        rw [if_neg (by simp [-List.contains_eq_mem, h0]), if_pos (blank_iff.1 (by first | (left; assumption) | (right; left; assumption) | (right; right; assumption))), if_neg (by simp [h2])]
        exact ⟨hb, ho⟩
    · skip
      try simp only [decide_eq_true_eq, decide_eq_false_iff_not, Bool.not_eq_true', Bool.not_eq_false', Bool.not_true, Bool.not_false, ne_eq, Int.toNat_natCast, Int.toNat_zero, Int.toNat_one, Bool.not_eq_true, Bool.not_eq_false] at g5
      refine w_yes 2 15 false rfl rfl rfl rfl (st_move (v := .int _ _) rfl ?_)
      refine w_yes 2 15 false rfl rfl rfl rfl (st_eql rfl rfl ?_)
      refine w_plain rfl (st_pick (b := false) (v := .bool _) rfl rfl ?_)
      refine w_plain rfl (st_move (v := .bool _) rfl ?_)
      refine w_split (d := 19) rfl (fun g13 => ?_) (fun g13 => ?_)
      · skip
        try simp only [decide_eq_true_eq, decide_eq_false_iff_not, Bool.not_eq_true', Bool.not_eq_false', Bool.not_true, Bool.not_false, ne_eq, Int.toNat_natCast, Int.toNat_zero, Int.toNat_one, Bool.not_eq_true, Bool.not_eq_false] at g13
        refine w_no 6 19 false rfl rfl rfl (by first | exact .inl rfl | exact .inr rfl) ?_
        refine w_no 6 19 false rfl rfl rfl (by first | exact .inl rfl | exact .inr rfl) ?_
        refine w_plain rfl (st_pick (b := true) (v := .bool _) rfl rfl ?_)
        refine wops_nil ?_
        refine then_n ?_
        refine x_cond (t := true) rfl (fun h1 => ?_) (fun h1 => ?_)
        rotate_left
        · exact absurd h1 (by decide)
        refine x_seq ?_
        refine x_seq ?_
        refine x_region rfl ?_
        refine w_plain rfl (st_move (v := .pointer _) rfl ?_)
        refine w_plain rfl (st_nilCheck rfl ?_)
        refine w_plain rfl (st_fieldAddr T.fld59_1 rfl ?_)
        refine w_plain rfl (st_load1 (v := .bool _) T.one4 rfl (hb.cell rfl) ?_)
        refine wops_nil ?_
        refine then_n ?_
        refine x_cond rfl (fun h2 => ?_) (fun h2 => ?_)
        · skip
          try simp only [decide_eq_true_eq, decide_eq_false_iff_not, Bool.not_eq_true', Bool.not_eq_false', Bool.not_true, Bool.not_false, ne_eq, Int.toNat_natCast, Int.toNat_zero, Int.toNat_one, Bool.not_eq_true, Bool.not_eq_false] at h2
          refine x_seq ?_
          refine x_region rfl ?_
          refine w_plain rfl (st_move (v := .pointer _) rfl ?_)
          have hsz := HC.size
          refine w_plain rfl (st_call (ags := [_]) rfl rfl T.ent24 rfl (Rtell_spec ⟨hb, ho⟩ (by omega) (by first | assumption | omega)) ?_)
          rintro _ w14 ⟨rfl, A16, cap17, ⟨hb, ho⟩, c15, hg⟩
          replace HC := HC.trans c15 (by intro x hx; exact .inl hx)
          refine wops_nil ?_
          refine then_n ?_
          refine x_region rfl ?_
          refine w_plain rfl (st_move (v := .pointer _) rfl ?_)
          refine w_plain rfl (st_nilCheck rfl ?_)
          refine w_plain rfl (st_fieldAddr T.fld59_2 rfl ?_)
          refine w_plain rfl (st_store (v := .bool _) T.size4 rfl rfl rfl hb rfl (Nat.le_of_ble_eq_true rfl) (by simp [Value.oneCell', S]) rfl ?_)
          intro w18 c19 hb20; simp only [setVs, setV] at hb20
          clear hb
          replace HC := HC.trans c19 (by intro x hx; simp only [List.mem_singleton] at hx; subst hx; exact .inl (by simp))
          replace ho := ho.tr c19 (by intro x hx; simp only [List.mem_cons, List.mem_nil_iff, or_false] at hx; subst hx; exact fun h => h.2 rfl)
          refine wops_nil ?_
          refine then_n ?_
          refine x_ret ?_
          refine then_r ?_
          refine ret_none rfl ?_
          refine ⟨rfl, A16, cap17, ?_, HC, fun g h => (hg g h).imp id (fun h => by omega)⟩
          unfold Sp.rbyte
          rw [if_neg (by simp [-List.contains_eq_mem, h0]), if_pos (blank_iff.1 (by first | (left; assumption) | (right; left; assumption) | (right; right; assumption))), if_pos h2]
          exact ⟨hb20, ho⟩
        · skip
          try simp only [decide_eq_true_eq, decide_eq_false_iff_not, Bool.not_eq_true', Bool.not_eq_false', Bool.not_true, Bool.not_false, ne_eq, Int.toNat_natCast, Int.toNat_zero, Int.toNat_one, Bool.not_eq_true, Bool.not_eq_false] at h2
          refine x_skip ?_
          refine then_n ?_
          refine x_ret ?_
          refine then_r ?_
          refine ret_none rfl ?_
          refine ⟨rfl, A, cap, ?_, HC, fun g h => .inl h⟩
          unfold Sp.rbyte
          rw [if_neg (by simp [-List.contains_eq_mem, h0]), if_pos (blank_iff.1 (by first | (left; assumption) | (right; left; assumption) | (right; right; assumption))), if_neg (by simp [h2])]
          exact ⟨hb, ho⟩
      · skip
        try simp only [decide_eq_true_eq, decide_eq_false_iff_not, Bool.not_eq_true', Bool.not_eq_false', Bool.not_true, Bool.not_false, ne_eq, Int.toNat_natCast, Int.toNat_zero, Int.toNat_one, Bool.not_eq_true, Bool.not_eq_false] at g13
        refine w_yes 6 19 false rfl rfl rfl rfl (st_move (v := .int _ _) rfl ?_)
        refine w_yes 6 19 false rfl rfl rfl rfl (st_eql rfl rfl ?_)
        refine w_plain rfl (st_pick (b := false) (v := .bool _) rfl rfl ?_)
        refine wops_nil ?_
        refine then_n ?_
        refine x_cond rfl (fun h1 => ?_) (fun h1 => ?_)
        · skip
          try simp only [decide_eq_true_eq, decide_eq_false_iff_not, Bool.not_eq_true', Bool.not_eq_false', Bool.not_true, Bool.not_false, ne_eq, Int.toNat_natCast, Int.toNat_zero, Int.toNat_one, Bool.not_eq_true, Bool.not_eq_false] at h1
          refine x_seq ?_
          refine x_seq ?_
          refine x_region rfl ?_
          refine w_plain rfl (st_move (v := .pointer _) rfl ?_)
          refine w_plain rfl (st_nilCheck rfl ?_)
          refine w_plain rfl (st_fieldAddr T.fld59_1 rfl ?_)
          refine w_plain rfl (st_load1 (v := .bool _) T.one4 rfl (hb.cell rfl) ?_)
          refine wops_nil ?_
          refine then_n ?_
          refine x_cond rfl (fun h2 => ?_) (fun h2 => ?_)
          · skip
            try simp only [decide_eq_true_eq, decide_eq_false_iff_not, Bool.not_eq_true', Bool.not_eq_false', Bool.not_true, Bool.not_false, ne_eq, Int.toNat_natCast, Int.toNat_zero, Int.toNat_one, Bool.not_eq_true, Bool.not_eq_false] at h2
            refine x_seq ?_
            refine x_region rfl ?_
            refine w_plain rfl (st_move (v := .pointer _) rfl ?_)
            have hsz := HC.size
            refine w_plain rfl (st_call (ags := [_]) rfl rfl T.ent24 rfl (Rtell_spec ⟨hb, ho⟩ (by omega) (by first | assumption | omega)) ?_)
            rintro _ w21 ⟨rfl, A23, cap24, ⟨hb, ho⟩, c22, hg⟩
            replace HC := HC.trans c22 (by intro x hx; exact .inl hx)
            refine wops_nil ?_
            refine then_n ?_
            refine x_region rfl ?_
            refine w_plain rfl (st_move (v := .pointer _) rfl ?_)
            refine w_plain rfl (st_nilCheck rfl ?_)
            refine w_plain rfl (st_fieldAddr T.fld59_2 rfl ?_)
            refine w_plain rfl (st_store (v := .bool _) T.size4 rfl rfl rfl hb rfl (Nat.le_of_ble_eq_true rfl) (by simp [Value.oneCell', S]) rfl ?_)
            intro w25 c26 hb27; simp only [setVs, setV] at hb27
            clear hb
            replace HC := HC.trans c26 (by intro x hx; simp only [List.mem_singleton] at hx; subst hx; exact .inl (by simp))
            replace ho := ho.tr c26 (by intro x hx; simp only [List.mem_cons, List.mem_nil_iff, or_false] at hx; subst hx; exact fun h => h.2 rfl)
            refine wops_nil ?_
            refine then_n ?_
            refine x_ret ?_
            refine then_r ?_
            refine ret_none rfl ?_
            refine ⟨rfl, A23, cap24, ?_, HC, fun g h => (hg g h).imp id (fun h => by omega)⟩
            unfold Sp.rbyte
            rw [if_neg (by simp [-List.contains_eq_mem, h0]), if_pos (blank_iff.1 (by first | (left; assumption) | (right; left; assumption) | (right; right; assumption))), if_pos h2]
            exact ⟨hb27, ho⟩
          · skip
            try simp only [decide_eq_true_eq, decide_eq_false_iff_not, Bool.not_eq_true', Bool.not_eq_false', Bool.not_true, Bool.not_false, ne_eq, Int.toNat_natCast, Int.toNat_zero, Int.toNat_one, Bool.not_eq_true, Bool.not_eq_false] at h2
            refine x_skip ?_
            refine then_n ?_
            refine x_ret ?_
            refine then_r ?_
            refine ret_none rfl ?_
            refine ⟨rfl, A, cap, ?_, HC, fun g h => .inl h⟩
            unfold Sp.rbyte
            rw [if_neg (by simp [-List.contains_eq_mem, h0]), if_pos (blank_iff.1 (by first | (left; assumption) | (right; left; assumption) | (right; right; assumption))), if_neg (by simp [h2])]
            exact ⟨hb, ho⟩
        · skip
          try simp only [decide_eq_true_eq, decide_eq_false_iff_not, Bool.not_eq_true', Bool.not_eq_false', Bool.not_true, Bool.not_false, ne_eq, Int.toNat_natCast, Int.toNat_zero, Int.toNat_one, Bool.not_eq_true, Bool.not_eq_false] at h1
          refine x_skip ?_
          refine then_n ?_
          refine x_seq ?_
          refine x_seq ?_
          refine x_region rfl ?_
          refine w_plain rfl (st_move (v := .pointer _) rfl ?_)
          refine w_plain rfl (st_nilCheck rfl ?_)
          refine w_plain rfl (st_fieldAddr T.fld59_2 rfl ?_)
          refine w_plain rfl (st_load1 (v := .bool _) T.one4 rfl (hb.cell rfl) ?_)
          refine w_plain rfl (st_not rfl ?_)
          refine wops_nil ?_
          refine then_n ?_
          refine x_cond rfl (fun h3 => ?_) (fun h3 => ?_)
          · skip
            try simp only [decide_eq_true_eq, decide_eq_false_iff_not, Bool.not_eq_true', Bool.not_eq_false', Bool.not_true, Bool.not_false, ne_eq, Int.toNat_natCast, Int.toNat_zero, Int.toNat_one, Bool.not_eq_true, Bool.not_eq_false] at h3
            refine x_region rfl ?_
            refine w_plain rfl (st_move (v := .pointer _) rfl ?_)
            have hsz := HC.size
            refine w_plain rfl (st_call (ags := [_]) rfl rfl T.ent24 rfl (Rtell_spec ⟨hb, ho⟩ (by omega) (by first | assumption | omega)) ?_)
            rintro _ w28 ⟨rfl, A30, cap31, ⟨hb, ho⟩, c29, hg⟩
            replace HC := HC.trans c29 (by intro x hx; exact .inl hx)
            refine wops_nil ?_
            refine then_n ?_
            refine x_region rfl ?_
            refine w_plain rfl (st_move (v := .pointer _) rfl ?_)
            refine w_plain rfl (st_nilCheck rfl ?_)
            refine w_plain rfl (st_fieldAddr T.fld59_2 rfl ?_)
            refine w_plain rfl (st_store (v := .bool _) T.size4 rfl rfl rfl hb rfl (Nat.le_of_ble_eq_true rfl) (by simp [Value.oneCell', S]) rfl ?_)
            intro w32 c33 hb34; simp only [setVs, setV] at hb34
            clear hb
            replace HC := HC.trans c33 (by intro x hx; simp only [List.mem_singleton] at hx; subst hx; exact .inl (by simp))
            replace ho := ho.tr c33 (by intro x hx; simp only [List.mem_cons, List.mem_nil_iff, or_false] at hx; subst hx; exact fun h => h.2 rfl)
            refine wops_nil ?_
            refine ret_none_n rfl ?_
            refine ⟨rfl, A30, cap31, ?_, HC, fun g h => (hg g h).imp id (fun h => by omega)⟩
            unfold Sp.rbyte
            rw [if_neg (by simp [-List.contains_eq_mem, h0]), if_neg (fun h => by rcases blank_iff.2 h with h | h | h <;> contradiction), if_neg (by simp [h3])]
            exact ⟨hb34, ho⟩
          · skip
            try simp only [decide_eq_true_eq, decide_eq_false_iff_not, Bool.not_eq_true', Bool.not_eq_false', Bool.not_true, Bool.not_false, ne_eq, Int.toNat_natCast, Int.toNat_zero, Int.toNat_one, Bool.not_eq_true, Bool.not_eq_false] at h3
            refine x_skip ?_
            refine then_n ?_
            refine x_region rfl ?_
            refine w_plain rfl (st_move (v := .pointer _) rfl ?_)
            refine w_plain rfl (st_nilCheck rfl ?_)
            refine w_plain rfl (st_fieldAddr T.fld59_2 rfl ?_)
            refine w_plain rfl (st_store (v := .bool _) T.size4 rfl rfl rfl hb rfl (Nat.le_of_ble_eq_true rfl) (by simp [Value.oneCell', S]) rfl ?_)
            intro w35 c36 hb37; simp only [setVs, setV] at hb37
            clear hb
            replace HC := HC.trans c36 (by intro x hx; simp only [List.mem_singleton] at hx; subst hx; exact .inl (by simp))
            replace ho := ho.tr c36 (by intro x hx; simp only [List.mem_cons, List.mem_nil_iff, or_false] at hx; subst hx; exact fun h => h.2 rfl)
            refine wops_nil ?_
            refine ret_none_n rfl ?_
            refine ⟨rfl, A, cap, ?_, HC, fun g h => .inl h⟩
            unfold Sp.rbyte
            rw [if_neg (by simp [-List.contains_eq_mem, h0]), if_neg (fun h => by rcases blank_iff.2 h with h | h | h <;> contradiction), if_pos h3]
            exact ⟨hb37, ho⟩

theorem RSplit_spec {l : List Piece} {Al : Option Addr} {capl : Nat} {D : Nat → Prop} {w : World} (ifs : Bytes) (hl : Sl pE w D Al l) (hbulk : bulkP l ≤ 1000000000) (hifs : ifs.length ≤ 9223372036854775807) :
    CallR Try.prog 12 #[.slice Al l.length capl, S ifs] w fun v w' => ∃ A cap, v = .slice A (splitL l ifs).length cap ∧ (splitL l ifs).length ≤ cap ∧ cap ≤ 9223372036854775807 ∧ Sl fE w' (fun k => w.heap.size ≤ k) A (splitL l ifs) ∧ Chg [] w w' := by
  replace hl := hl.mono (D' := fun k => k < w.heap.size) (fun k hk _ => hk)
  refine callR_of_wp (args := [_, _]) Try.func12 rfl (Nat.le_of_ble_eq_true rfl) ?_
  have HC : Chg [] w w := .refl _
  refine x_seq ?_
  refine x_region rfl ?_
  refine w_plain rfl (st_assign (v := .slice _ _ _) rfl ?_)
  refine wops_nil ?_
  refine then_n ?_
  refine x_seq ?_
  refine x_region rfl ?_
  refine w_plain rfl (st_bld (ps := []) (vs := [S _, S _, .bool _, .bool _, .slice _ _ _]) T.bld59 rfl ?_)
  refine w_plain rfl (st_box (v := .agg ⟨[S _, S _, .bool _, .bool _, .slice _ _ _]⟩) (vs := [_, _, _, _, _]) rfl rfl ?_)
  intro bs w1 e2 c3 hb4
  have ge_bs : w.heap.size ≤ bs := by rw [e2]; exact HC.size
  replace HC := HC.then c3
  replace hl := hl.tr0 c3
  clear e2
  refine w_plain rfl (st_assign (v := .pointer _) rfl ?_)
  refine wops_nil ?_
  refine then_n ?_
  refine x_seq ?_
  refine x_seq ?_
  refine x_region rfl ?_
  refine w_plain rfl (st_assign (v := .int _ _) rfl ?_)
  refine wops_nil ?_
  refine then_n ?_
  refine x_block ?_
  have hb : Blk w1 bs [S (Sp.new).f.text, S (Sp.new).f.quoted, .bool (Sp.new).begun, .bool (Sp.new).white, .slice none (Sp.new).out.length 0] 59 := hb4
  have ho : Own fE 31 w1 (fun k => w.heap.size ≤ k ∧ k ≠ bs) none 0 Sp.new.out := Own.nil
  refine x_loop (ι := Nat × Sp × Option Addr × Nat) [6, 7, 8, 9, 12, 13, 14, 15, 16, 17, 18, 19, 20, 21, 22, 23, 24, 25, 26, 27, 28, 29, 30, 31, 32, 33, 34, 35, 36, 37, 38, 39, 40, 41, 42, 43, 44, 45, 46, 47, 48, 49, 50, 51, 52, 53, 54, 55, 56, 57, 58, 59, 60, 61, 62, 63, 64, 65, 66] (fun ⟨i, x, A, cap⟩ => [(6, .int .i64 (i : Int))]) (fun ⟨i, x, A, cap⟩ W => (i ≤ l.length ∧ x = spx ifs (l.take i)) ∧ (Chg [] w W) ∧ (Sl pE W (fun k => k < w.heap.size) Al l) ∧ (Blk W bs [S (x).f.text, S (x).f.quoted, .bool (x).begun, .bool (x).white, .slice A (x).out.length cap] 59) ∧ (Own fE 31 W (fun k => w.heap.size ≤ k ∧ k ≠ bs) A cap (x).out)) (fun ⟨i, x, A, cap⟩ => l.length - i) (0, .new, none, 0) ?_ ?_ ?_
  · exact ⟨rfl, trivial⟩
  · skip
    refine ⟨?_, HC, hl, hb, ho⟩
    exact ⟨Nat.zero_le _, rfl⟩
  intro ⟨i, x, A, cap⟩ G6 w5 ⟨⟨hi, hx⟩, HC, hl, hb, ho⟩
  change wp _ _ _ _ _ (upds (over _ _ G6) [(6, .int .i64 (i : Int))]) _ _
  have hok : x.ok (bulkP (l.take i)) := by rw [hx]; exact ok_spx ifs _
  have hbt1 := bulkP_take l i
  have hll := len_bulkP l
  refine x_seq ?_
  refine x_seq ?_
  refine x_region rfl ?_
  refine w_plain rfl (st_move (v := .int _ _) rfl ?_)
  refine w_plain rfl (st_move (v := .slice _ _ _) rfl ?_)
  refine w_plain rfl (st_len (ct := #[22]) (by rw [show ((#[22] : Array TypeId)[0]?).bind Try.prog.underlying = some (.slice 27) from T.u22]; rfl) rfl ?_)
  refine w_plain rfl (st_lss rfl rfl ?_)
  refine wops_nil ?_
  refine then_n ?_
  refine x_cond rfl (fun h0 => ?_) (fun h0 => ?_)
  · skip
    try simp only [decide_eq_true_eq, decide_eq_false_iff_not, Bool.not_eq_true', Bool.not_eq_false', Bool.not_true, Bool.not_false, ne_eq, Int.toNat_natCast, Int.toNat_zero, Int.toNat_one, Bool.not_eq_true, Bool.not_eq_false] at h0
    refine x_skip ?_
    refine then_n ?_
    refine x_seq ?_
    refine x_block ?_
    refine x_seq ?_
    refine x_region rfl ?_
    refine w_plain rfl (st_move (v := .slice _ _ _) rfl ?_)
    refine w_plain rfl (st_move (v := .int _ _) rfl ?_)
    obtain ⟨p, hx7⟩ : ∃ x, l[i]? = some x := ⟨_, List.getElem?_eq_getElem (by omega)⟩
    obtain ⟨lb12, _, vs11, hA8, hR10, hC9⟩ := hl.at hx7
    obtain rfl : vs11 = [.int .i64 p.kind, S p.text] := hR10
    refine w_plain rfl (st_indexAddr T.u22 T.size27 (congrArg (fun z => Value.slice z _ _) hA8) rfl (by omega) (by omega) ?_)
    refine w_plain rfl (st_loadA (vs := [_, _]) T.agg27 rfl hC9 rfl ?_)
    refine w_plain rfl (st_alloc T.zero27 ?_)
    intro b7 w13 e14 c15 hb16
    have ge_b7 : w.heap.size ≤ b7 := by rw [e14]; exact HC.size
    have ne_bs_b7 : bs ≠ b7 := by rw [e14]; exact hb.ne_size
    have na_b7 : b7 ∉ ob A := ho.fresh (by rw [e14]; exact Nat.le_refl _)
    replace HC := HC.then c15
    replace hl := hl.tr0 c15
    replace hb := hb.tr0 c15
    replace ho := ho.tr0 c15
    clear e14
    refine w_plain rfl (st_store (v := .agg ⟨[.int _ _, S _]⟩) T.size27 rfl rfl rfl hb16 rfl (Nat.le_of_ble_eq_true rfl) (by simp [Value.oneCell', S]) rfl ?_)
    intro w17 c18 hb19; simp only [setVs, setV] at hb19
    clear hb16
    replace HC := HC.then1 c18 ge_b7
    replace hl := hl.tr c18 (by intro k hx hD; simp only [List.mem_singleton] at hx; subst hx; omega)
    replace hb := hb.tr1 c18 ne_bs_b7
    replace ho := ho.trF flat_flat c18 (by intro k hk hx; simp only [List.mem_singleton] at hx; subst hx; exact na_b7 hk)
    refine wops_nil ?_
    refine then_n ?_
    refine x_seq ?_
    refine x_seq ?_
    refine x_region rfl ?_
    refine w_plain rfl (st_fieldAddr T.fld27_0 rfl ?_)
    refine w_plain rfl (st_load1 (v := .int _ _) T.one3 rfl (hb19.cell rfl) ?_)
    refine w_plain rfl (st_eql rfl rfl ?_)
    refine wops_nil ?_
    refine then_n ?_
    refine x_cond rfl (fun h1 => ?_) (fun h1 => ?_)
    · skip
      try simp only [decide_eq_true_eq, decide_eq_false_iff_not, Bool.not_eq_true', Bool.not_eq_false', Bool.not_true, Bool.not_false, ne_eq, Int.toNat_natCast, Int.toNat_zero, Int.toNat_one, Bool.not_eq_true, Bool.not_eq_false] at h1
      refine x_seq ?_
      refine x_seq ?_
      refine x_region rfl ?_
      refine w_plain rfl (st_move (v := .pointer _) rfl ?_)
      refine w_plain rfl (st_nilCheck rfl ?_)
      refine w_plain rfl (st_fieldAddr T.fld59_1 rfl ?_)
      refine w_plain rfl (st_load1 (v := .bool _) T.one4 rfl (hb.cell rfl) ?_)
      refine wops_nil ?_
      refine then_n ?_
      refine x_cond rfl (fun h2 => ?_) (fun h2 => ?_)
      · skip
        try simp only [decide_eq_true_eq, decide_eq_false_iff_not, Bool.not_eq_true', Bool.not_eq_false', Bool.not_true, Bool.not_false, ne_eq, Int.toNat_natCast, Int.toNat_zero, Int.toNat_one, Bool.not_eq_true, Bool.not_eq_false] at h2
        refine x_region rfl ?_
        refine w_plain rfl (st_move (v := .pointer _) rfl ?_)
        have hin := ho.inD
        have hsz := HC.size
        have hz_b7 : b7 ∉ ob A := ho.ne_blk hb19 (by decide)
        refine w_plain rfl (st_call (ags := [_]) rfl rfl T.ent24 rfl (Rtell_spec ⟨hb, ho⟩ (by omega) (by have := hok.1; omega)) ?_)
        rintro _ w20 ⟨rfl, A22, cap23, ⟨hb, ho⟩, c21, hg⟩
        replace HC := HC.trans c21 (fun k hk => (List.mem_cons.1 hk).elim (fun h => .inr (by omega)) (fun h => .inr (hin k h).1))
        replace hl := hl.tr c21 (fun k hk hD => (List.mem_cons.1 hk).elim (fun h => by omega) (fun h => by have := (hin k h).1; omega))
        replace hb19 := hb19.tr c21 (fun hx => (List.mem_cons.1 hx).elim (fun h => absurd h (by first | exact Ne.symm ne_bs_b7 | exact ne_b7_bs | omega)) (fun h => hz_b7 h))
        refine wops_nil ?_
        refine then_n ?_
        refine x_seq ?_
        refine x_region rfl ?_
        refine w_plain rfl (st_move (v := .pointer _) rfl ?_)
        refine w_plain rfl (st_nilCheck rfl ?_)
        refine w_plain rfl (st_fieldAddr T.fld59_2 rfl ?_)
        refine w_plain rfl (st_store (v := .bool _) T.size4 rfl rfl rfl hb rfl (Nat.le_of_ble_eq_true rfl) (by simp [Value.oneCell', S]) rfl ?_)
        intro w24 c25 hb26; simp only [setVs, setV] at hb26
        clear hb
        replace HC := HC.then1 c25 ge_bs
        replace hl := hl.tr c25 (by intro k hx hD; simp only [List.mem_singleton] at hx; subst hx; omega)
        replace ho := ho.trF flat_flat c25 (by intro k hk hx; simp only [List.mem_singleton] at hx; subst hx; exact (fun h => (ho.inD _ h).2 rfl) hk)
        replace hb19 := hb19.tr1 c25 (Ne.symm ne_bs_b7)
        refine wops_nil ?_
        refine then_n ?_
        refine x_exit ?_
        refine then_x ?_
        refine block_x ?_
        refine then_n ?_
        refine x_region rfl ?_
        refine w_plain rfl (st_move (v := .int _ _) rfl ?_)
        refine w_plain rfl (st_addn rfl rfl (by constructor <;> omega) ?_)
        refine w_plain rfl (st_assign (v := .int _ _) rfl ?_)
        refine wops_nil ?_
        refine then_n ?_
        refine ⟨(i + 1, { x.tell with white := false }, A22, cap23), ?_, ?_, rfl, ⟨rfl, trivial⟩, ?_⟩
        · skip
          refine ⟨?_, HC, hl, hb26, ho⟩
          exact ⟨by omega, by rw [spx_step hx7, ← hx]; unfold Sp.piece; rw [if_pos h1, if_pos h2]⟩
        · skip
          show l.length - (i + 1) < l.length - i; omega
        repeat (first | exact agree_upds agree_over rfl | refine agree_upd ?_ rfl | refine agree_upds ?_ rfl | refine agree_over_sub ?_ rfl)
      · skip
        try simp only [decide_eq_true_eq, decide_eq_false_iff_not, Bool.not_eq_true', Bool.not_eq_false', Bool.not_true, Bool.not_false, ne_eq, Int.toNat_natCast, Int.toNat_zero, Int.toNat_one, Bool.not_eq_true, Bool.not_eq_false] at h2
        refine x_skip ?_
        refine then_n ?_
        refine x_seq ?_
        refine x_region rfl ?_
        refine w_plain rfl (st_move (v := .pointer _) rfl ?_)
        refine w_plain rfl (st_nilCheck rfl ?_)
        refine w_plain rfl (st_fieldAddr T.fld59_2 rfl ?_)
        refine w_plain rfl (st_store (v := .bool _) T.size4 rfl rfl rfl hb rfl (Nat.le_of_ble_eq_true rfl) (by simp [Value.oneCell', S]) rfl ?_)
        intro w27 c28 hb29; simp only [setVs, setV] at hb29
        clear hb
        replace HC := HC.then1 c28 ge_bs
        replace hl := hl.tr c28 (by intro k hx hD; simp only [List.mem_singleton] at hx; subst hx; omega)
        replace ho := ho.trF flat_flat c28 (by intro k hk hx; simp only [List.mem_singleton] at hx; subst hx; exact (fun h => (ho.inD _ h).2 rfl) hk)
        replace hb19 := hb19.tr1 c28 (Ne.symm ne_bs_b7)
        refine wops_nil ?_
        refine then_n ?_
        refine x_exit ?_
        refine then_x ?_
        refine block_x ?_
        refine then_n ?_
        refine x_region rfl ?_
        refine w_plain rfl (st_move (v := .int _ _) rfl ?_)
        refine w_plain rfl (st_addn rfl rfl (by constructor <;> omega) ?_)
        refine w_plain rfl (st_assign (v := .int _ _) rfl ?_)
        refine wops_nil ?_
        refine then_n ?_
        refine ⟨(i + 1, { x with white := false }, A, cap), ?_, ?_, rfl, ⟨rfl, trivial⟩, ?_⟩
        · skip
          refine ⟨?_, HC, hl, hb29, ho⟩
          exact ⟨by omega, by rw [spx_step hx7, ← hx]; unfold Sp.piece; rw [if_pos h1, if_neg (by simp [h2])]⟩
        · skip
          show l.length - (i + 1) < l.length - i; omega
        repeat (first | exact agree_upds agree_over rfl | refine agree_upd ?_ rfl | refine agree_upds ?_ rfl | refine agree_over_sub ?_ rfl)
    · skip
      try simp only [decide_eq_true_eq, decide_eq_false_iff_not, Bool.not_eq_true', Bool.not_eq_false', Bool.not_true, Bool.not_false, ne_eq, Int.toNat_natCast, Int.toNat_zero, Int.toNat_one, Bool.not_eq_true, Bool.not_eq_false] at h1
      refine x_skip ?_
      refine then_n ?_
      refine x_seq ?_
      refine x_region rfl ?_
      refine w_plain rfl (st_assign (v := .int _ _) rfl ?_)
      refine wops_nil ?_
      refine then_n ?_
      refine x_seq ?_
      refine x_seq ?_
      refine x_region rfl ?_
      refine w_plain rfl (st_fieldAddr T.fld27_0 rfl ?_)
      refine w_plain rfl (st_load1 (v := .int _ _) T.one3 rfl (hb19.cell rfl) ?_)
      refine w_plain rfl (st_eql rfl rfl ?_)
      refine wops_nil ?_
      refine then_n ?_
      refine x_cond rfl (fun h3 => ?_) (fun h3 => ?_)
      · skip
        try simp only [decide_eq_true_eq, decide_eq_false_iff_not, Bool.not_eq_true', Bool.not_eq_false', Bool.not_true, Bool.not_false, ne_eq, Int.toNat_natCast, Int.toNat_zero, Int.toNat_one, Bool.not_eq_true, Bool.not_eq_false] at h3
        refine x_seq ?_
        refine x_region rfl ?_
        refine w_plain rfl (st_assign (v := .int _ _) rfl ?_)
        refine wops_nil ?_
        refine then_n ?_
        refine x_seq ?_
        refine x_region rfl ?_
        refine w_plain rfl (st_move (v := .pointer _) rfl ?_)
        refine w_plain rfl (st_nilCheck rfl ?_)
        refine w_plain rfl (st_fieldAddr T.fld59_1 rfl ?_)
        refine w_plain rfl (st_store (v := .bool _) T.size4 rfl rfl rfl hb rfl (Nat.le_of_ble_eq_true rfl) (by simp [Value.oneCell', S]) rfl ?_)
        intro w30 c31 hb32; simp only [setVs, setV] at hb32
        clear hb
        replace HC := HC.then1 c31 ge_bs
        replace hl := hl.tr c31 (by intro k hx hD; simp only [List.mem_singleton] at hx; subst hx; omega)
        replace ho := ho.trF flat_flat c31 (by intro k hk hx; simp only [List.mem_singleton] at hx; subst hx; exact (fun h => (ho.inD _ h).2 rfl) hk)
        replace hb19 := hb19.tr1 c31 (Ne.symm ne_bs_b7)
        refine wops_nil ?_
        refine then_n ?_
        refine x_region rfl ?_
        refine w_plain rfl (st_move (v := .pointer _) rfl ?_)
        refine w_plain rfl (st_nilCheck rfl ?_)
        refine w_plain rfl (st_fieldAddr T.fld59_2 rfl ?_)
        refine w_plain rfl (st_store (v := .bool _) T.size4 rfl rfl rfl hb32 rfl (Nat.le_of_ble_eq_true rfl) (by simp [Value.oneCell', S]) rfl ?_)
        intro w33 c34 hb35; simp only [setVs, setV] at hb35
        clear hb32
        replace HC := HC.then1 c34 ge_bs
        replace hl := hl.tr c34 (by intro k hx hD; simp only [List.mem_singleton] at hx; subst hx; omega)
        replace ho := ho.trF flat_flat c34 (by intro k hk hx; simp only [List.mem_singleton] at hx; subst hx; exact (fun h => (ho.inD _ h).2 rfl) hk)
        replace hb19 := hb19.tr1 c34 (Ne.symm ne_bs_b7)
        refine wops_nil ?_
        refine then_n ?_
        refine x_seq ?_
        refine x_region rfl ?_
        refine w_plain rfl (st_assign (v := .int _ _) rfl ?_)
        refine wops_nil ?_
        refine then_n ?_
        refine x_block ?_
        have hok0 : Sp.ok (bulkP (l.take i)) ({ x with begun := true, white := false } : Sp) := ⟨hok.1, hok.2⟩
        have hbk := bulkP_at hx7
        refine x_loop (ι := Nat × Sp × Option Addr × Nat) [9, 43, 44, 45, 46, 47, 48, 49, 50, 51, 52, 53, 54, 55, 56, 57, 58, 59, 60, 61, 62, 63, 64, 65, 66] (fun ⟨j, y, B, capB⟩ => [(9, .int .i64 (j : Int))]) (fun ⟨j, y, B, capB⟩ W => (j ≤ p.text.length ∧ y = (p.text.take j).foldl (Sp.rstep ifs p.kind 49) ({ x with begun := true, white := false } : Sp)) ∧ (Chg [] w W) ∧ (Sl pE W (fun k => k < w.heap.size) Al l) ∧ (Own fE 31 W (fun k => w.heap.size ≤ k ∧ k ≠ bs) B capB (y).out) ∧ (Blk W b7 [.int .i64 p.kind, S p.text] 27) ∧ (Blk W bs [S (y).f.text, S (y).f.quoted, .bool (y).begun, .bool (y).white, .slice B (y).out.length capB] 59)) (fun ⟨j, y, B, capB⟩ => p.text.length - j) (0, ({ x with begun := true, white := false } : Sp), A, cap) ?_ ?_ ?_
        · exact ⟨rfl, trivial⟩
        · skip
          refine ⟨?_, HC, hl, ho, hb19, hb35⟩
          exact ⟨Nat.zero_le _, rfl⟩
        intro ⟨j, y, B, capB⟩ G37 w36 ⟨⟨hj, hy⟩, HC, hl, ho, hb19, hb⟩
        change wp _ _ _ _ _ (upds (over _ _ G37) [(9, .int .i64 (j : Int))]) _ _
        have hok := ok_rsteps hok0 ifs p.kind 49 (p.text.take j)
        rw [← hy] at hok
        have hlt : (p.text.take j).length ≤ p.text.length := by simp; omega
        refine x_seq ?_
        refine x_seq ?_
        refine x_region rfl ?_
        refine w_plain rfl (st_move (v := .int _ _) rfl ?_)
        refine w_plain rfl (st_fieldAddr T.fld27_1 rfl ?_)
        refine w_plain rfl (st_load1 (v := S _) T.one9 rfl (hb19.cell rfl) ?_)
        refine w_plain rfl (st_slen (ct := #[9]) T.u9 rfl ?_)
        refine w_plain rfl (st_lss rfl rfl ?_)
        refine wops_nil ?_
        refine then_n ?_
        refine x_cond rfl (fun h4 => ?_) (fun h4 => ?_)
        · skip
          try simp only [decide_eq_true_eq, decide_eq_false_iff_not, Bool.not_eq_true', Bool.not_eq_false', Bool.not_true, Bool.not_false, ne_eq, Int.toNat_natCast, Int.toNat_zero, Int.toNat_one, Bool.not_eq_true, Bool.not_eq_false] at h4
          refine x_skip ?_
          refine then_n ?_
          refine x_seq ?_
          refine x_block ?_
          refine x_seq ?_
          refine x_region rfl ?_
          refine w_plain rfl (st_fieldAddr T.fld27_0 rfl ?_)
          refine w_plain rfl (st_load1 (v := .int _ _) T.one3 rfl (hb19.cell rfl) ?_)
          refine w_plain rfl (st_eql rfl rfl ?_)
          refine wops_nil ?_
          refine then_n ?_
          refine x_cond rfl (fun h5 => ?_) (fun h5 => ?_)
          · skip
            try simp only [decide_eq_true_eq, decide_eq_false_iff_not, Bool.not_eq_true', Bool.not_eq_false', Bool.not_true, Bool.not_false, ne_eq, Int.toNat_natCast, Int.toNat_zero, Int.toNat_one, Bool.not_eq_true, Bool.not_eq_false] at h5
            refine x_region rfl ?_
            refine w_plain rfl (st_move (v := .pointer _) rfl ?_)
            refine w_plain rfl (st_fieldAddr T.fld27_1 rfl ?_)
            refine w_plain rfl (st_load1 (v := S _) T.one9 rfl (hb19.cell rfl) ?_)
            refine w_plain rfl (st_move (v := .int _ _) rfl ?_)
            refine w_plain rfl (st_sidx T.u9 rfl rfl (by omega) (by omega) ?_)
            refine w_plain rfl (st_move (v := S _) rfl ?_)
            have hin := ho.inD
            have hsz := HC.size
            have hz_b7 : b7 ∉ ob B := ho.ne_blk hb19 (by decide)
            refine w_plain rfl (st_call (ags := [_, _, _]) rfl rfl T.ent25 rfl (Rresult_spec _ ifs ⟨hb, ho⟩ (by omega) (by have := hok.1; omega) (by have := hok.1; omega) (by have := hok.1; have := hok.2; omega) hifs) ?_)
            rintro _ w38 ⟨rfl, A40, cap41, ⟨hb, ho⟩, c39, hg⟩
            replace HC := HC.trans c39 (fun k hk => (List.mem_cons.1 hk).elim (fun h => .inr (by omega)) (fun h => .inr (hin k h).1))
            replace hl := hl.tr c39 (fun k hk hD => (List.mem_cons.1 hk).elim (fun h => by omega) (fun h => by have := (hin k h).1; omega))
            replace hb19 := hb19.tr c39 (fun hx => (List.mem_cons.1 hx).elim (fun h => absurd h (by first | exact Ne.symm ne_bs_b7 | exact ne_b7_bs | omega)) (fun h => hz_b7 h))
            refine wops_nil ?_
            refine block_n ?_
            refine then_n ?_
            refine x_region rfl ?_
            refine w_plain rfl (st_move (v := .int _ _) rfl ?_)
            refine w_plain rfl (st_addn rfl rfl (by constructor <;> omega) ?_)
            refine w_plain rfl (st_assign (v := .int _ _) rfl ?_)
            refine wops_nil ?_
            refine then_n ?_
            refine ⟨(j + 1, (y.rbyte ifs (byte p.text j)), A40, cap41), ?_, ?_, rfl, ⟨rfl, trivial⟩, ?_⟩
            · skip
              refine ⟨?_, HC, hl, ho, hb19, hb⟩
              exact ⟨by omega, by rw [rsteps_step (by omega), ← hy]; unfold Sp.rstep; rw [if_pos h5]⟩
            · skip
              show p.text.length - (j + 1) < p.text.length - j; omega
            repeat (first | exact agree_upds agree_over rfl | refine agree_upd ?_ rfl | refine agree_upds ?_ rfl | refine agree_over_sub ?_ rfl)
          · skip
            try simp only [decide_eq_true_eq, decide_eq_false_iff_not, Bool.not_eq_true', Bool.not_eq_false', Bool.not_true, Bool.not_false, ne_eq, Int.toNat_natCast, Int.toNat_zero, Int.toNat_one, Bool.not_eq_true, Bool.not_eq_false] at h5
            refine x_region rfl ?_
            refine w_plain rfl (st_move (v := .pointer _) rfl ?_)
            refine w_plain rfl (st_fieldAddr T.fld27_1 rfl ?_)
            refine w_plain rfl (st_load1 (v := S _) T.one9 rfl (hb19.cell rfl) ?_)
            refine w_plain rfl (st_move (v := .int _ _) rfl ?_)
            refine w_plain rfl (st_sidx T.u9 rfl rfl (by omega) (by omega) ?_)
            refine w_plain rfl (st_move (v := .int _ _) rfl ?_)
            refine w_plain rfl (st_call (ags := [_, _, _]) rfl rfl T.ent26 rfl (Rput_spec _ 49 ⟨hb, ho⟩ (by have := hok.1; omega) (by have := hok.1; have := hok.2; omega)) ?_)
            rintro _ w42 ⟨rfl, ⟨hb, ho⟩, c43⟩
            replace HC := HC.then1 c43 ge_bs
            replace hl := hl.tr c43 (by intro k hx hD; simp only [List.mem_singleton] at hx; subst hx; omega)
            replace hb19 := hb19.tr1 c43 (Ne.symm ne_bs_b7)
            refine wops_nil ?_
            refine block_n ?_
            refine then_n ?_
            refine x_region rfl ?_
            refine w_plain rfl (st_move (v := .int _ _) rfl ?_)
            refine w_plain rfl (st_addn rfl rfl (by constructor <;> omega) ?_)
            refine w_plain rfl (st_assign (v := .int _ _) rfl ?_)
            refine wops_nil ?_
            refine then_n ?_
            refine ⟨(j + 1, (y.put [byte p.text j] 49), B, capB), ?_, ?_, rfl, ⟨rfl, trivial⟩, ?_⟩
            · skip
              refine ⟨?_, HC, hl, ho, hb19, hb⟩
              exact ⟨by omega, by rw [rsteps_step (by omega), ← hy]; unfold Sp.rstep; rw [if_neg h5]⟩
            · skip
              show p.text.length - (j + 1) < p.text.length - j; omega
            repeat (first | exact agree_upds agree_over rfl | refine agree_upd ?_ rfl | refine agree_upds ?_ rfl | refine agree_over_sub ?_ rfl)
        · skip
          try simp only [decide_eq_true_eq, decide_eq_false_iff_not, Bool.not_eq_true', Bool.not_eq_false', Bool.not_true, Bool.not_false, ne_eq, Int.toNat_natCast, Int.toNat_zero, Int.toNat_one, Bool.not_eq_true, Bool.not_eq_false] at h4
          refine x_exit ?_
          refine then_x ?_
          refine then_x ?_
          refine block_x ?_
          refine block_n ?_
          refine then_n ?_
          refine x_region rfl ?_
          refine w_plain rfl (st_move (v := .int _ _) rfl ?_)
          refine w_plain rfl (st_addn rfl rfl (by constructor <;> omega) ?_)
          refine w_plain rfl (st_assign (v := .int _ _) rfl ?_)
          refine wops_nil ?_
          refine then_n ?_
          refine ⟨(i + 1, y, B, capB), ?_, ?_, rfl, ⟨rfl, trivial⟩, ?_⟩
          · skip
            refine ⟨?_, HC, hl, hb, ho⟩
            exact ⟨by omega, by rw [spx_step hx7, ← hx]; rw [rpiece_step _ _ _ h1, hy, List.take_of_length_le (by omega)]; simp only [if_pos h3, if_true, if_false]⟩
          · skip
            show l.length - (i + 1) < l.length - i; omega
          repeat (first | exact agree_upds agree_over rfl | refine agree_upd ?_ rfl | refine agree_upds ?_ rfl | refine agree_over_sub ?_ rfl)
      · skip
        try simp only [decide_eq_true_eq, decide_eq_false_iff_not, Bool.not_eq_true', Bool.not_eq_false', Bool.not_true, Bool.not_false, ne_eq, Int.toNat_natCast, Int.toNat_zero, Int.toNat_one, Bool.not_eq_true, Bool.not_eq_false] at h3
        refine x_skip ?_
        refine then_n ?_
        refine x_seq ?_
        refine x_region rfl ?_
        refine w_plain rfl (st_assign (v := .int _ _) rfl ?_)
        refine wops_nil ?_
        refine then_n ?_
        refine x_block ?_
        have hok0 : Sp.ok (bulkP (l.take i)) x := ⟨hok.1, hok.2⟩
        have hbk := bulkP_at hx7
        refine x_loop (ι := Nat × Sp × Option Addr × Nat) [9, 43, 44, 45, 46, 47, 48, 49, 50, 51, 52, 53, 54, 55, 56, 57, 58, 59, 60, 61, 62, 63, 64, 65, 66] (fun ⟨j, y, B, capB⟩ => [(9, .int .i64 (j : Int))]) (fun ⟨j, y, B, capB⟩ W => (j ≤ p.text.length ∧ y = (p.text.take j).foldl (Sp.rstep ifs p.kind 48) x) ∧ (Chg [] w W) ∧ (Sl pE W (fun k => k < w.heap.size) Al l) ∧ (Blk W bs [S (y).f.text, S (y).f.quoted, .bool (y).begun, .bool (y).white, .slice B (y).out.length capB] 59) ∧ (Own fE 31 W (fun k => w.heap.size ≤ k ∧ k ≠ bs) B capB (y).out) ∧ (Blk W b7 [.int .i64 p.kind, S p.text] 27)) (fun ⟨j, y, B, capB⟩ => p.text.length - j) (0, x, A, cap) ?_ ?_ ?_
        · exact ⟨rfl, trivial⟩
        · skip
          refine ⟨?_, HC, hl, hb, ho, hb19⟩
          exact ⟨Nat.zero_le _, rfl⟩
        intro ⟨j, y, B, capB⟩ G45 w44 ⟨⟨hj, hy⟩, HC, hl, hb, ho, hb19⟩
        change wp _ _ _ _ _ (upds (over _ _ G45) [(9, .int .i64 (j : Int))]) _ _
        have hok := ok_rsteps hok0 ifs p.kind 48 (p.text.take j)
        rw [← hy] at hok
        have hlt : (p.text.take j).length ≤ p.text.length := by simp; omega
        refine x_seq ?_
        refine x_seq ?_
        refine x_region rfl ?_
        refine w_plain rfl (st_move (v := .int _ _) rfl ?_)
        refine w_plain rfl (st_fieldAddr T.fld27_1 rfl ?_)
        refine w_plain rfl (st_load1 (v := S _) T.one9 rfl (hb19.cell rfl) ?_)
        refine w_plain rfl (st_slen (ct := #[9]) T.u9 rfl ?_)
        refine w_plain rfl (st_lss rfl rfl ?_)
        refine wops_nil ?_
        refine then_n ?_
        refine x_cond rfl (fun h4 => ?_) (fun h4 => ?_)
        · skip
          try simp only [decide_eq_true_eq, decide_eq_false_iff_not, Bool.not_eq_true', Bool.not_eq_false', Bool.not_true, Bool.not_false, ne_eq, Int.toNat_natCast, Int.toNat_zero, Int.toNat_one, Bool.not_eq_true, Bool.not_eq_false] at h4
          refine x_skip ?_
          refine then_n ?_
          refine x_seq ?_
          refine x_block ?_
          refine x_seq ?_
          refine x_region rfl ?_
          refine w_plain rfl (st_fieldAddr T.fld27_0 rfl ?_)
          refine w_plain rfl (st_load1 (v := .int _ _) T.one3 rfl (hb19.cell rfl) ?_)
          refine w_plain rfl (st_eql rfl rfl ?_)
          refine wops_nil ?_
          refine then_n ?_
          refine x_cond rfl (fun h5 => ?_) (fun h5 => ?_)
          · skip
            try simp only [decide_eq_true_eq, decide_eq_false_iff_not, Bool.not_eq_true', Bool.not_eq_false', Bool.not_true, Bool.not_false, ne_eq, Int.toNat_natCast, Int.toNat_zero, Int.toNat_one, Bool.not_eq_true, Bool.not_eq_false] at h5
            refine x_region rfl ?_
            refine w_plain rfl (st_move (v := .pointer _) rfl ?_)
            refine w_plain rfl (st_fieldAddr T.fld27_1 rfl ?_)
            refine w_plain rfl (st_load1 (v := S _) T.one9 rfl (hb19.cell rfl) ?_)
            refine w_plain rfl (st_move (v := .int _ _) rfl ?_)
            refine w_plain rfl (st_sidx T.u9 rfl rfl (by omega) (by omega) ?_)
            refine w_plain rfl (st_move (v := S _) rfl ?_)
            have hin := ho.inD
            have hsz := HC.size
            have hz_b7 : b7 ∉ ob B := ho.ne_blk hb19 (by decide)
            refine w_plain rfl (st_call (ags := [_, _, _]) rfl rfl T.ent25 rfl (Rresult_spec _ ifs ⟨hb, ho⟩ (by omega) (by have := hok.1; omega) (by have := hok.1; omega) (by have := hok.1; have := hok.2; omega) hifs) ?_)
            rintro _ w46 ⟨rfl, A48, cap49, ⟨hb, ho⟩, c47, hg⟩
            replace HC := HC.trans c47 (fun k hk => (List.mem_cons.1 hk).elim (fun h => .inr (by omega)) (fun h => .inr (hin k h).1))
            replace hl := hl.tr c47 (fun k hk hD => (List.mem_cons.1 hk).elim (fun h => by omega) (fun h => by have := (hin k h).1; omega))
            replace hb19 := hb19.tr c47 (fun hx => (List.mem_cons.1 hx).elim (fun h => absurd h (by first | exact Ne.symm ne_bs_b7 | exact ne_b7_bs | omega)) (fun h => hz_b7 h))
            refine wops_nil ?_
            refine block_n ?_
            refine then_n ?_
            refine x_region rfl ?_
            refine w_plain rfl (st_move (v := .int _ _) rfl ?_)
            refine w_plain rfl (st_addn rfl rfl (by constructor <;> omega) ?_)
            refine w_plain rfl (st_assign (v := .int _ _) rfl ?_)
            refine wops_nil ?_
            refine then_n ?_
            refine ⟨(j + 1, (y.rbyte ifs (byte p.text j)), A48, cap49), ?_, ?_, rfl, ⟨rfl, trivial⟩, ?_⟩
            · skip
              refine ⟨?_, HC, hl, hb, ho, hb19⟩
              exact ⟨by omega, by rw [rsteps_step (by omega), ← hy]; unfold Sp.rstep; rw [if_pos h5]⟩
            · skip
              show p.text.length - (j + 1) < p.text.length - j; omega
            repeat (first | exact agree_upds agree_over rfl | refine agree_upd ?_ rfl | refine agree_upds ?_ rfl | refine agree_over_sub ?_ rfl)
          · skip
            try simp only [decide_eq_true_eq, decide_eq_false_iff_not, Bool.not_eq_true', Bool.not_eq_false', Bool.not_true, Bool.not_false, ne_eq, Int.toNat_natCast, Int.toNat_zero, Int.toNat_one, Bool.not_eq_true, Bool.not_eq_false] at h5
            refine x_region rfl ?_
            refine w_plain rfl (st_move (v := .pointer _) rfl ?_)
            refine w_plain rfl (st_fieldAddr T.fld27_1 rfl ?_)
            refine w_plain rfl (st_load1 (v := S _) T.one9 rfl (hb19.cell rfl) ?_)
            refine w_plain rfl (st_move (v := .int _ _) rfl ?_)
            refine w_plain rfl (st_sidx T.u9 rfl rfl (by omega) (by omega) ?_)
            refine w_plain rfl (st_move (v := .int _ _) rfl ?_)
            refine w_plain rfl (st_call (ags := [_, _, _]) rfl rfl T.ent26 rfl (Rput_spec _ 48 ⟨hb, ho⟩ (by have := hok.1; omega) (by have := hok.1; have := hok.2; omega)) ?_)
            rintro _ w50 ⟨rfl, ⟨hb, ho⟩, c51⟩
            replace HC := HC.then1 c51 ge_bs
            replace hl := hl.tr c51 (by intro k hx hD; simp only [List.mem_singleton] at hx; subst hx; omega)
            replace hb19 := hb19.tr1 c51 (Ne.symm ne_bs_b7)
            refine wops_nil ?_
            refine block_n ?_
            refine then_n ?_
            refine x_region rfl ?_
            refine w_plain rfl (st_move (v := .int _ _) rfl ?_)
            refine w_plain rfl (st_addn rfl rfl (by constructor <;> omega) ?_)
            refine w_plain rfl (st_assign (v := .int _ _) rfl ?_)
            refine wops_nil ?_
            refine then_n ?_
            refine ⟨(j + 1, (y.put [byte p.text j] 48), B, capB), ?_, ?_, rfl, ⟨rfl, trivial⟩, ?_⟩
            · skip
              refine ⟨?_, HC, hl, hb, ho, hb19⟩
              exact ⟨by omega, by rw [rsteps_step (by omega), ← hy]; unfold Sp.rstep; rw [if_neg h5]⟩
            · skip
              show p.text.length - (j + 1) < p.text.length - j; omega
            repeat (first | exact agree_upds agree_over rfl | refine agree_upd ?_ rfl | refine agree_upds ?_ rfl | refine agree_over_sub ?_ rfl)
        · skip
          try simp only [decide_eq_true_eq, decide_eq_false_iff_not, Bool.not_eq_true', Bool.not_eq_false', Bool.not_true, Bool.not_false, ne_eq, Int.toNat_natCast, Int.toNat_zero, Int.toNat_one, Bool.not_eq_true, Bool.not_eq_false] at h4
          refine x_exit ?_
          refine then_x ?_
          refine then_x ?_
          refine block_x ?_
          refine block_n ?_
          refine then_n ?_
          refine x_region rfl ?_
          refine w_plain rfl (st_move (v := .int _ _) rfl ?_)
          refine w_plain rfl (st_addn rfl rfl (by constructor <;> omega) ?_)
          refine w_plain rfl (st_assign (v := .int _ _) rfl ?_)
          refine wops_nil ?_
          refine then_n ?_
          refine ⟨(i + 1, y, B, capB), ?_, ?_, rfl, ⟨rfl, trivial⟩, ?_⟩
          · skip
            refine ⟨?_, HC, hl, hb, ho⟩
            exact ⟨by omega, by rw [spx_step hx7, ← hx]; rw [rpiece_step _ _ _ h1, hy, List.take_of_length_le (by omega)]; simp only [if_neg h3, if_true, if_false]⟩
          · skip
            show l.length - (i + 1) < l.length - i; omega
          repeat (first | exact agree_upds agree_over rfl | refine agree_upd ?_ rfl | refine agree_upds ?_ rfl | refine agree_over_sub ?_ rfl)
  · skip
    try simp only [decide_eq_true_eq, decide_eq_false_iff_not, Bool.not_eq_true', Bool.not_eq_false', Bool.not_true, Bool.not_false, ne_eq, Int.toNat_natCast, Int.toNat_zero, Int.toNat_one, Bool.not_eq_true, Bool.not_eq_false] at h0
    refine x_exit ?_
    refine then_x ?_
    refine then_x ?_
    refine block_x ?_
    refine then_n ?_
    refine x_seq ?_
    refine x_seq ?_
    refine x_region rfl ?_
    refine w_plain rfl (st_move (v := .pointer _) rfl ?_)
    refine w_plain rfl (st_nilCheck rfl ?_)
    refine w_plain rfl (st_fieldAddr T.fld59_1 rfl ?_)
    refine w_plain rfl (st_load1 (v := .bool _) T.one4 rfl (hb.cell rfl) ?_)
    refine wops_nil ?_
    refine then_n ?_
    refine x_cond rfl (fun h6 => ?_) (fun h6 => ?_)
    · skip
      try simp only [decide_eq_true_eq, decide_eq_false_iff_not, Bool.not_eq_true', Bool.not_eq_false', Bool.not_true, Bool.not_false, ne_eq, Int.toNat_natCast, Int.toNat_zero, Int.toNat_one, Bool.not_eq_true, Bool.not_eq_false] at h6
      refine x_region rfl ?_
      refine w_plain rfl (st_move (v := .pointer _) rfl ?_)
      have hin := ho.inD
      have hsz := HC.size
      refine w_plain rfl (st_call (ags := [_]) rfl rfl T.ent24 rfl (Rtell_spec ⟨hb, ho⟩ (by omega) (by have := hok.1; omega)) ?_)
      rintro _ w52 ⟨rfl, A54, cap55, ⟨hb, ho⟩, c53, hg⟩
      replace HC := HC.trans c53 (fun k hk => (List.mem_cons.1 hk).elim (fun h => .inr (by omega)) (fun h => .inr (hin k h).1))
      replace hl := hl.tr c53 (fun k hk hD => (List.mem_cons.1 hk).elim (fun h => by omega) (fun h => by have := (hin k h).1; omega))
      refine wops_nil ?_
      refine then_n ?_
      refine x_seq ?_
      refine x_region rfl ?_
      refine w_plain rfl (st_move (v := .pointer _) rfl ?_)
      refine w_plain rfl (st_nilCheck rfl ?_)
      refine w_plain rfl (st_fieldAddr T.fld59_3 rfl ?_)
      refine w_plain rfl (st_load1 (v := .slice _ _ _) T.one28 rfl (hb.cell rfl) ?_)
      refine w_plain rfl (st_assign (v := .slice _ _ _) rfl ?_)
      refine wops_nil ?_
      refine then_n ?_
      refine x_ret ?_
      refine ret_tmp (v := .slice _ _ _) rfl rfl ?_
      have hxl : (spx ifs l).fin.out = (x.tell).out := by unfold Sp.fin; have hil : i = l.length := (by omega); rw [hil, List.take_length] at hx; rw [← hx]; rw [if_pos h6]
      refine ⟨A54, cap55, ?_, ?_, ?_, ?_, HC⟩
      · show _ = Value.slice _ (splitL l ifs).length _; rw [splitL, hxl] <;> rfl
      · rw [splitL, hxl]; exact ho.le.1
      · exact ho.le.2
      · rw [splitL, hxl]; exact ho.sl.mono (fun k _ h => h.1)
    · skip
      try simp only [decide_eq_true_eq, decide_eq_false_iff_not, Bool.not_eq_true', Bool.not_eq_false', Bool.not_true, Bool.not_false, ne_eq, Int.toNat_natCast, Int.toNat_zero, Int.toNat_one, Bool.not_eq_true, Bool.not_eq_false] at h6
      refine x_skip ?_
      refine then_n ?_
      refine x_seq ?_
      refine x_region rfl ?_
      refine w_plain rfl (st_move (v := .pointer _) rfl ?_)
      refine w_plain rfl (st_nilCheck rfl ?_)
      refine w_plain rfl (st_fieldAddr T.fld59_3 rfl ?_)
      refine w_plain rfl (st_load1 (v := .slice _ _ _) T.one28 rfl (hb.cell rfl) ?_)
      refine w_plain rfl (st_assign (v := .slice _ _ _) rfl ?_)
      refine wops_nil ?_
      refine then_n ?_
      refine x_ret ?_
      refine ret_tmp (v := .slice _ _ _) rfl rfl ?_
      have hxl : (spx ifs l).fin.out = (x).out := by unfold Sp.fin; have hil : i = l.length := (by omega); rw [hil, List.take_length] at hx; rw [← hx]; rw [if_neg (by simp [h6])]
      refine ⟨A, cap, ?_, ?_, ?_, ?_, HC⟩
      · show _ = Value.slice _ (splitL l ifs).length _; rw [splitL, hxl] <;> rfl
      · rw [splitL, hxl]; exact ho.le.1
      · exact ho.le.2
      · rw [splitL, hxl]; exact ho.sl.mono (fun k _ h => h.1)

end Go.Proofs.Ytbnbkndeodankaa.K
