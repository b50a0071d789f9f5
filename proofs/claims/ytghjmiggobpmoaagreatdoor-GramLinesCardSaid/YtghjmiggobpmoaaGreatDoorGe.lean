import Derived.Test.YtghjmiggobpmoaaGreatDoorGram
import Derived.Test.YtghjmiggobpmoaaGreatDoorKitV
import Derived.Test.YtghjmiggobpmoaaGreatDoorTok
import Derived.Test.YtghjmiggobpmoaaGreatDoorKitFl
set_option linter.unusedVariables false
set_option linter.unusedSimpArgs false
set_option autoImplicit false
set_option maxRecDepth 20000
namespace Go.Proofs.YtghjmiggobpmoaaGreatDoor.K
open Go Go.RowKit
abbrev Sk := Int × Bytes × Int
def GT : List Tok → Prop
  | [] => False
  | [t] => t.kind = 0
  | t :: u :: r => t.kind ≠ 0 ∧ (t.kind = 4 → t.text ≠ [] ∧ u.kind = 2) ∧ GT (u :: r)
theorem GT.ne {T : List Tok} (h : GT T) : T ≠ [] := fun e => by subst e; exact h
theorem GT.pos {T : List Tok} (h : GT T) : 0 < T.length := List.length_pos_iff.2 h.ne
theorem GT.cons {T : List Tok} (h : GT T) : T = hd T :: T.tail := by
  cases T with
  | nil => exact h.elim
  | cons t r => rfl
theorem GT.tail {T : List Tok} (h : GT T) (hk : (hd T).kind ≠ 0) : GT T.tail := by
  match T, h, hk with
  | [t], h, hk => exact absurd h hk
  | t :: u :: r, h, _ => exact h.2.2
theorem GT.io {T : List Tok} (h : GT T) (hk : (hd T).kind = 4) : (hd T).text ≠ [] ∧ (hd T.tail).kind = 2 := by
  match T, h, hk with
  | [t], h, hk => exact absurd (h.symm.trans hk) (by decide)
  | t :: u :: r, h, hk => exact h.2.1 hk
structure Suf (R T : List Tok) : Prop where
  good : GT R
  suf : R <:+ T
theorem Suf.len {R T : List Tok} (h : Suf R T) : R.length ≤ T.length := h.suf.length_le
theorem Suf.refl {T : List Tok} (h : GT T) : Suf T T := ⟨h, List.suffix_refl _⟩
theorem Suf.trans {Q R T : List Tok} (h : Suf Q R) (k : Suf R T) : Suf Q T := ⟨h.good, h.suf.trans k.suf⟩
theorem Suf.tail {T : List Tok} (h : GT T) (hk : (hd T).kind ≠ 0) : Suf T.tail T := ⟨h.tail hk, List.tail_suffix _⟩
theorem tail_len {T : List Tok} (h : GT T) : T.tail.length + 1 = T.length := by have := h.pos; rw [List.length_tail]; omega
theorem lines_suf : ∀ {T : List Tok}, GT T → Suf (linesG T) T
  | [t], h => by
    rw [linesG, if_neg (by rw [show t.kind = 0 from h]; decide)]; exact .refl h
  | t :: u :: r, h => by
    rw [linesG]; split
    · exact (lines_suf h.2.2).trans ⟨h.2.2, List.suffix_cons _ _⟩
    exact .refl h
def GTs : List Sk → Prop
  | [] => False
  | [t] => t.1 = 0
  | t :: u :: r => t.1 ≠ 0 ∧ (t.1 = 4 → t.2.1 ≠ [] ∧ u.1 = 2) ∧ GTs (u :: r)
theorem GT_of : ∀ {T : List Tok}, GTs (T.map skel) → GT T
  | [], h => h
  | [t], h => h
  | t :: u :: r, h => ⟨h.1, h.2.1, GT_of (T := u :: r) h.2.2⟩
def okS : List Sk → Prop
  | [] => True
  | x :: l => x.1 ≠ 0 ∧ (x.1 = 4 → x.2.1 ≠ [] ∧ ∀ y, l.head? = some y → y.1 = 2) ∧ okS l
def pend (l : List Sk) : Prop := ∃ x, l.getLast? = some x ∧ x.1 = 4
theorem pend_snoc {l : List Sk} {x : Sk} : pend (l ++ [x]) ↔ x.1 = 4 := by simp [pend]
theorem okS_snoc : ∀ {l : List Sk} {x : Sk}, okS l → x.1 ≠ 0 → (x.1 = 4 → x.2.1 ≠ []) → (pend l → x.1 = 2) → okS (l ++ [x])
  | [], x, _, h1, h2, _ => ⟨h1, fun h => ⟨h2 h, fun y hy => by cases hy⟩, trivial⟩
  | [a], x, h, h1, h2, h3 => ⟨h.1, fun h4 => ⟨(h.2.1 h4).1, fun y hy => by cases hy; exact h3 ⟨a, rfl, h4⟩⟩, h1, fun h => ⟨h2 h, fun y hy => by cases hy⟩, trivial⟩
  | a :: b :: l, x, h, h1, h2, h3 => ⟨h.1, fun h4 => ⟨(h.2.1 h4).1, fun y hy => (h.2.1 h4).2 y hy⟩, okS_snoc (l := b :: l) h.2.2 h1 h2 fun ⟨z, hz, hk⟩ => h3 ⟨z, by rw [List.getLast?_cons_cons]; exact hz, hk⟩⟩
theorem GTs_snoc : ∀ {l : List Sk} {x : Sk}, okS l → ¬ pend l → x.1 = 0 → GTs (l ++ [x])
  | [], x, _, _, h => h
  | [a], x, h, hp, hx => ⟨h.1, fun h4 => absurd ⟨a, rfl, h4⟩ hp, hx⟩
  | a :: b :: l, x, h, hp, hx => ⟨h.1, fun h4 => ⟨(h.2.1 h4).1, (h.2.1 h4).2 b rfl⟩, GTs_snoc (l := b :: l) h.2.2 (fun ⟨z, hz, hk⟩ => hp ⟨z, by rw [List.getLast?_cons_cons]; exact hz, hk⟩) hx⟩
theorem blank_lt {r : Bytes} (hr : r ≠ []) (h : byte r 0 = 60 ∨ byte r 0 = 62) : blankV r = 0 := by
  obtain ⟨c, t, rfl⟩ : ∃ c t, r = c :: t := by cases r with | nil => exact absurd rfl hr | cons c t => exact ⟨c, t, rfl⟩
  have hc : c = 60 ∨ c = 62 := h
  show blankL (t.length + 1) (c :: t) = 0
  rcases hc with rfl | rfl <;> simp [blankL, Lib.hasPrefix]
theorem next_lt {r : Bytes} (hr : r ≠ []) (h : byte r 0 = 60 ∨ byte r 0 = 62) (i : Int) : (nextT r i).1.kind = 2 ∧ (nextT r i).2.2 = 0 := by
  unfold nextT
  rw [if_neg hr, if_neg (by rcases h with h | h <;> rw [h] <;> decide), if_pos (by rcases h with h | h <;> rw [h] <;> decide)]
  exact ⟨rfl, rfl⟩
theorem next_io {r : Bytes} {i : Int} (h : (nextT r i).1.kind = 4) : (nextT r i).1.text ≠ [] ∧ r.drop (nextT r i).2.1 ≠ [] ∧ (byte (r.drop (nextT r i).2.1) 0 = 60 ∨ byte (r.drop (nextT r i).2.1) 0 = 62) := by
  unfold nextT at h ⊢
  split at h
  · exact absurd (show (0 : Int) = 4 from h) (by decide)
  rename_i hr
  rw [if_neg hr]
  split at h
  · exact absurd (show (3 : Int) = 4 from h) (by decide)
  rename_i h10
  rw [if_neg h10]
  split at h
  · exact absurd (show (2 : Int) = 4 from h) (by decide)
  rename_i hm
  rw [if_neg hm]
  split at h
  · exact absurd (show (0 : Int) = 4 from h) (by decide)
  rename_i he
  rw [if_neg he]
  simp only at h ⊢
  split at h
  · rename_i hc
    obtain ⟨h1, _, h3, h4⟩ := hc;rw [h1];have hl : (r.drop 1).length = r.length - 1 := by simp
    refine ⟨fun e => ?_, fun e => ?_, ?_⟩
    · have := congrArg List.length e; rw [List.length_take] at this; simp only [List.length_nil] at this; omega
    · rw [e] at hl; simp only [List.length_nil] at hl; omega
    have hb : byte (r.drop 1) 0 = byte r 1 := by simp [byte]
    rw [hb]; exact h3
  exact absurd h (by decide)
theorem scan_good : ∀ (k : Nat) (r : Bytes) (i : Int) (out : List Tok) (ws : List (Nat × Bool)), r.length < k → okS (out.map skel) → (pend (out.map skel) → r ≠ [] ∧ (byte r 0 = 60 ∨ byte r 0 = 62)) →
    (scanF k r i out ws).2.2 = 0 → GTs ((scanF k r i out ws).1.map skel)
  | 0, _, _, _, _, h, _, _, _ => absurd h (Nat.not_lt_zero _)
  | k + 1, r, i, out, ws, hk, ho, hp, he => by
    have hbl := blankL_le r.length r;simp only [scanF] at he ⊢
    have hpn : pend (out.map skel) → (nextT (r.drop (blankV r)) (i + blankV r)).1.kind = 2 := fun h => by
      obtain ⟨h1, h2⟩ := hp h;rw [blank_lt h1 h2]; exact (next_lt h1 h2 _).1
    have hbs := blankL_stop r.length r (Nat.le_refl _);rw [show blankL r.length r = blankV r from rfl] at hbl hbs;generalize hz : nextT (r.drop (blankV r)) (i + blankV r) = z at *
    split at he
    · exact absurd he (by assumption)
    rename_i h0
    rw [if_neg h0]
    split at he
    · rename_i hk0
      rw [if_pos hk0]
      rw [linesV_skel, List.map_append]
      exact GTs_snoc ho (fun h => by have := hpn h; rw [hk0] at this; exact absurd this (by decide)) hk0
    rename_i hk0
    rw [if_neg hk0]
    have hr : r.drop (blankV r) ≠ [] := fun e => by
      have h9 : (nextT (r.drop (blankV r)) (i + blankV r)).1.kind = 0 := by unfold nextT; rw [if_pos e]
      rw [hz] at h9; exact hk0 h9
    have hlt : (r.drop (blankV r)).length = r.length - blankV r := by simp
    have hrp := List.length_pos_iff.2 hr
    have hok : okS ((out ++ [z.1]).map skel) := by
      rw [List.map_append]
      refine okS_snoc ho hk0 (fun h => ?_) hpn
      have := next_io (r := r.drop (blankV r)) (i := i + blankV r) (by rw [hz]; exact h)
      rw [hz] at this; exact this.1
    have hn1 : 1 ≤ z.2.1 ∧ z.2.1 ≤ (r.drop (blankV r)).length := by
      rcases nextT_ok hr (hbs.resolve_left hr) (i + blankV r) with ⟨h, _⟩ | ⟨_, _, h1, h2, _⟩
      · rw [hz] at h; exact absurd (by simpa using h0) h
      rw [hz] at h1 h2; exact ⟨h1, h2⟩
    split at he
    · rename_i hk3
      rw [if_pos hk3]
      refine scan_good k _ _ _ [] ?_ ?_ ?_ he
      · simp only [List.length_drop] at hn1 ⊢; omega
      · rw [linesV_skel]; exact hok
      rw [linesV_skel, List.map_append]
      intro h;have h9 := pend_snoc.1 h;exact absurd (hk3.symm.trans h9) (by decide)
    rename_i hk3
    rw [if_neg hk3]
    refine scan_good k _ _ _ _ ?_ hok ?_ he
    · simp only [List.length_drop] at hn1 ⊢; omega
    intro h;rw [List.map_append] at h;have h9 := pend_snoc.1 h;have := next_io (r := r.drop (blankV r)) (i := i + blankV r) (by rw [hz]; exact h9)
    rw [hz] at this; exact this.2
theorem tokens_good {s : Bytes} (he : (tokensV s).2.2 = 0) : GT (tokensV s).1 := by
  unfold tokensV at he ⊢
  split at he
  · exact absurd he (by decide)
  rename_i h
  rw [if_neg h]
  exact GT_of (scan_good _ _ _ _ _ (Nat.lt_succ_self _) trivial (fun ⟨x, hx, _⟩ => by cases hx) he)
open Go Go.Proofs Go.RowKit
theorem fields_beg : Lib.fields [33, 32, 123, 32, 99, 97, 115, 101, 32, 102, 111, 114, 32, 105, 102, 32, 117, 110, 116, 105, 108, 32, 119, 104, 105, 108, 101] = begW := by kernel_rfl
theorem fields_end : Lib.fields [125, 32, 100, 111, 32, 100, 111, 110, 101, 32, 101, 108, 105, 102, 32, 101, 108, 115, 101, 32, 101, 115, 97, 99, 32, 102, 105, 32, 105, 110, 32, 116, 104, 101, 110] = endW := by kernel_rfl
theorem fields_red : Lib.fields [60, 32, 62, 32, 62, 62, 32, 60, 38, 32, 62, 38, 32, 60, 62, 32, 62, 124, 32, 60, 60, 32, 60, 60, 45] = redW := by kernel_rfl
theorem hd_at {T : List Tok} (h : GT T) : T[0]? = some (hd T) := by
  cases T with
  | nil => exact h.elim
  | cons t r => rfl
def RdAt (w : World) (rb tb : Nat) (d : Int) (T : List Tok) : Prop := ∃ A cap, Blk w rb [.slice A T.length cap, .int .i64 d] 49 ∧ (T.length ≤ cap ∧ True) ∧ Sl tok5E w (fun k => k = tb) A T
theorem RdAt.tr {w w' : World} {rb tb : Nat} {d : Int} {T : List Tok} {bs : List Nat} (h : RdAt w rb tb d T) (c : Chg bs w w') (hb : ∀ k, k ∈ bs → k ≠ rb ∧ k ≠ tb) : RdAt w' rb tb d T := by
  obtain ⟨A, cap, h1, h2, h3⟩ := h;exact ⟨A, cap, h1.tr c fun hx => (hb _ hx).1 rfl, h2, h3.tr c fun k hk hD => (hb k hk).2 hD⟩
theorem RdAt.tr0 {w w' : World} {rb tb : Nat} {d : Int} {T : List Tok} (h : RdAt w rb tb d T) (c : Chg [] w w') : RdAt w' rb tb d T := h.tr c (fun k hk => by cases hk)
theorem RdAt.lt {w : World} {rb tb : Nat} {d : Int} {T : List Tok} (h : RdAt w rb tb d T) (hg : GT T) : rb < w.heap.size ∧ tb < w.heap.size := by
  obtain ⟨A, cap, h1, h2, h3⟩ := h;refine ⟨h1.lt, ?_⟩
  rcases h3 with h | ⟨b, o, _, h4, h5, _⟩
  · exact absurd h hg.ne
  have : b = tb := h5
  omega
def QOk (rb tb : Nat) : Prop := tb ≠ rb ∧ 1 ≠ rb ∧ 0 ≠ rb
def wrongV (R : List Tok) (e : Int) : Value := .iface 45 (.agg ⟨[.int .i64 (hd R).at_, .int .i64 e]⟩)
def ErT {α : Type} (g : Rs α) (T : List Tok) (rb : Nat) (w w' : World) (v : Value) : Prop := ∃ R e, g = .er R e ∧ Suf R T ∧ v = wrongV R e ∧ Chg [rb] w w'
def OkC (g : Rs Cm) (T : List Tok) (rb tb : Nat) (d : Int) (w w' : World) (v : Value) : Prop := ∃ c R vs, g = .ok c R ∧ Suf R T ∧ R.length < T.length ∧ v = .agg ⟨vs⟩ ∧ cmE.R w' (fun k => w.heap.size ≤ k) c vs ∧ RdAt w' rb tb d R ∧ Chg [rb] w w'
theorem SIndex_spec {l : List Bytes} {A : Option Addr} {cap : Nat} {D : Nat → Prop} {w : World} (v : Bytes) (hl : Sl sE w D A l) (hll : l.length ≤ 9223372036854775807) : CallR Tryz.prog 65 #[.slice A l.length cap, S v] w fun v' w' => ∃ n : Int, v' = .int .i64 n ∧ (0 ≤ n ↔ v ∈ l) ∧ Chg [] w w' := by
 refine callR_of_wp (args := [_, _]) Tryz.func65 rfl (Nat.le_of_ble_eq_true rfl) ?_;have HC : Chg [] w w := .refl _;refine sr rfl <| aI rfl <| en <| x_seq <| sr rfl <| mL rfl <| Wp rfl <| st_len (ct := #[23]) (by rw [show ((#[23] : Array TypeId)[0]?).bind Tryz.prog.underlying = some (.slice 9) from T.u23]; rfl) rfl <| mI rfl <| en <| x_block <| x_loop (ι := Nat) [4, 5, 8, 9, 10, 11, 12, 13, 14, 15, 16, 17, 18] (fun i => [(8, .int .i64 (i : Int))]) (fun i W => (i ≤ l.length ∧ v ∉ l.take i) ∧ (Chg [] w W) ∧ (Sl sE W D A l)) (fun i => l.length - i) 0 ?_ ?_ ?_
 · exact ⟨rfl, trivial⟩
 ·refine ⟨?_, HC, hl⟩;exact ⟨Nat.zero_le _, by simp⟩
 intro i G2 w1 ⟨⟨hi, hno⟩, HC, hl⟩
 change wp _ _ _ _ _ (upds (over _ _ G2) [(8, .int .i64 (i : Int))]) _ _
 refine sr rfl <| Wp rfl <| st_lss rfl rfl <| en <| x_seq <| x_cond rfl (fun h0 => ?_) (fun h0 => ?_)
 ·try simp only [nm, ne_eq] at h0
  refine x_skip <| then_n <| x_seq <| x_block <| sr rfl <| mI rfl <| aI rfl <| en <| sr rfl <| mS rfl <| mL rfl <| mI rfl ?_;obtain ⟨x, hx3⟩ : ∃ zz, l[i]? = some zz := ⟨_, List.getElem?_eq_getElem q0⟩;obtain ⟨lb8, _, vs7, hA4, hR6, hC5⟩ := hl.at hx3;obtain rfl : vs7 = [S x] := hR6;refine Wp rfl <| st_indexAddr T.u23 T.size9 (congrArg (fun z => Value.slice z _ _) hA4) rfl q0 q0 <| lS T.one9 rfl (hC5.at (j := 0) rfl) <| Wp rfl <| st_seql rfl rfl <| en <| x_cond rfl (fun h1 => ?_) (fun h1 => ?_)
  ·try simp only [nm, ne_eq] at h1
   obtain ⟨hil, hxe⟩ := List.getElem?_eq_some_iff.1 hx3;have hvm : v ∈ l := by rw [h1, ← hxe]; exact List.getElem_mem _
   refine sr rfl <| mI rfl <| aI rfl <| en <| x_ret <| block_r <| then_r <| then_r <| block_r <| then_r <| ret_tmp (v := .int _ _) rfl rfl ?_;exact ⟨_, rfl, ⟨fun _ => hvm, fun _ => by omega⟩, HC⟩
  try simp only [nm, ne_eq] at h1
  refine x_skip <| block_n <| then_n <| x_region rfl <| Wp rfl <| st_addn rfl rfl (by constructor <;> omega) <| mI rfl <| en <| ⟨i + 1, ?_, ?_, rfl, ⟨rfl, trivial⟩, ?_⟩
  ·refine ⟨?_, HC, hl⟩;exact ⟨by omega, by rw [List.take_add_one, hx3]; simp only [Option.toList_some, List.mem_append, List.mem_singleton, not_or]; exact ⟨hno, h1⟩⟩
  ·show l.length - (i + 1) < l.length - i; omega
  exact q9
 try simp only [nm, ne_eq] at h0
 have hvn : v ∉ l := by rw [List.take_of_length_le q0] at hno; exact hno
 refine x_exit <| then_x <| then_x <| block_x <| then_n <| sr rfl <| aI rfl <| en <| x_ret <| ret_tmp (v := .int _ _) rfl rfl ?_;exact ⟨_, rfl, ⟨fun h => absurd h (by decide), fun h => absurd h hvn⟩, HC⟩
theorem Contains_spec {l : List Bytes} {A : Option Addr} {cap : Nat} {D : Nat → Prop} {w : World} (v : Bytes) (hl : Sl sE w D A l) (hll : l.length ≤ 9223372036854775807) : CallR Tryz.prog 44 #[.slice A l.length cap, S v] w fun v' w' => v' = .bool (l.contains v) ∧ Chg [] w w' := by
 refine callR_of_wp (args := [_, _]) Tryz.func44 rfl (Nat.le_of_ble_eq_true rfl) ?_;have HC : Chg [] w w := .refl _;refine sr rfl <| aB rfl <| en <| sr rfl <| mL rfl <| mS rfl <| Wp rfl <| st_call (ags := [_, _]) rfl rfl T.ent65 rfl (SIndex_spec v hl hll) ?_;rintro _ w1 ⟨nx, rfl, hnx, c2⟩;replace HC := HC.then c2;refine Wp rfl <| st_geq rfl rfl <| aB rfl <| en <| x_ret <| ret_tmp (v := .bool _) rfl rfl <| ⟨congrArg Value.bool ?_, HC⟩;rw [Bool.eq_iff_iff, decide_eq_true_eq, List.contains_iff_mem];exact hnx
theorem begins_spec (x : Bytes) (w : World) (ht : Tab w) : CallR Tryz.prog 41 #[S x] w fun v w' => v = .bool (begsB x) ∧ Chg [] w w' := by
 refine callR_of_wp (args := [_]) Tryz.func41 rfl (Nat.le_of_ble_eq_true rfl) ?_;have HC : Chg [] w w := .refl _;have ht1 := ht.lt;refine sr rfl <| aB rfl <| en <| sr rfl <| Wp rfl <| st_call (ags := [_]) rfl rfl T.ent62 rfl (Fields_spec [33, 32, 123, 32, 99, 97, 115, 101, 32, 102, 111, 114, 32, 105, 102, 32, 117, 110, 116, 105, 108, 32, 119, 104, 105, 108, 101] _ (by decide) (all128 _ rfl) ht) ?_
 rintro _ w1 ⟨bf, rfl, hgf, hsf, c2⟩;rw [fields_beg] at hsf ⊢;replace HC := HC.then c2;refine mS rfl <| Wp rfl <| st_call (ags := [_, _]) rfl rfl T.ent44 rfl (Contains_spec x hsf (by decide)) ?_
 rintro _ w3 ⟨rfl, c4⟩;replace HC := HC.then c4;refine aB rfl <| en <| x_ret <| ret_tmp (v := .bool _) rfl rfl ?_;exact ⟨rfl, HC⟩
theorem redirection_spec (x : Bytes) (w : World) (ht : Tab w) : CallR Tryz.prog 42 #[S x] w fun v w' => v = .bool (redB x) ∧ Chg [] w w' := by
 refine callR_of_wp (args := [_]) Tryz.func42 rfl (Nat.le_of_ble_eq_true rfl) ?_;have HC : Chg [] w w := .refl _;have ht1 := ht.lt;refine sr rfl <| aB rfl <| en <| sr rfl <| Wp rfl <| st_call (ags := [_]) rfl rfl T.ent62 rfl (Fields_spec [60, 32, 62, 32, 62, 62, 32, 60, 38, 32, 62, 38, 32, 60, 62, 32, 62, 124, 32, 60, 60, 32, 60, 60, 45] _ (by decide) (all128 _ rfl) ht) ?_
 rintro _ w1 ⟨bf, rfl, hgf, hsf, c2⟩;rw [fields_red] at hsf ⊢;replace HC := HC.then c2;refine mS rfl <| Wp rfl <| st_call (ags := [_, _]) rfl rfl T.ent44 rfl (Contains_spec x hsf (by decide)) ?_
 rintro _ w3 ⟨rfl, c4⟩;replace HC := HC.then c4;refine aB rfl <| en <| x_ret <| ret_tmp (v := .bool _) rfl rfl ?_;exact ⟨rfl, HC⟩
theorem Reserved_spec (x : Bytes) (w : World) (ht : Tab w) : CallR Tryz.prog 40 #[S x] w fun v w' => v = .bool (resB x) ∧ Chg [] w w' := by
 refine callR_of_wp (args := [_]) Tryz.func40 rfl (Nat.le_of_ble_eq_true rfl) ?_;have HC : Chg [] w w := .refl _;have ht1 := ht.lt;refine sr rfl <| aB rfl <| en <| sr rfl <| mS rfl <| Wp rfl <| st_call (ags := [_]) rfl rfl T.ent41 rfl (begins_spec x _ ht) ?_;rintro _ w1 ⟨rfl, c2⟩;replace HC := HC.then c2;replace ht := ht.tr0 c2;refine mB rfl <| w_split (d := 5) rfl (fun g3 => ?_) (fun g3 => ?_)
 ·try simp only [nm, ne_eq] at g3
  iterate 3 refine w_no 2 5 false ?_
  refine pT rfl rfl <| aB rfl <| en <| x_ret <| ret_tmp (v := .bool _) rfl rfl ?_;exact ⟨congrArg Value.bool (by unfold resB; first | (rw [show begsB x = true by assumption]; rfl) | (rw [show begsB x = false by first | assumption | simp_all]; rfl)), HC⟩
 try simp only [nm, ne_eq] at g3
 refine w_yes 2 5 false <| st_call (ags := [_]) rfl rfl T.ent62 rfl (Fields_spec [125, 32, 100, 111, 32, 100, 111, 110, 101, 32, 101, 108, 105, 102, 32, 101, 108, 115, 101, 32, 101, 115, 97, 99, 32, 102, 105, 32, 105, 110, 32, 116, 104, 101, 110] _ (by decide) (all128 _ rfl) ht) ?_
 rintro _ w4 ⟨bf, rfl, hgf, hsf, c5⟩;rw [fields_end] at hsf ⊢;replace HC := HC.then c5;refine w_yes 2 5 false <| st_move (v := S _) rfl <| w_yes 2 5 false <| st_call (ags := [_, _]) rfl rfl T.ent44 rfl (Contains_spec x hsf (by decide)) ?_
 rintro _ w6 ⟨rfl, c7⟩;replace HC := HC.then c7;refine pF rfl rfl <| aB rfl <| en <| x_ret <| ret_tmp (v := .bool _) rfl rfl ?_;exact ⟨congrArg Value.bool (by unfold resB; first | (rw [show begsB x = true by assumption]; rfl) | (rw [show begsB x = false by first | assumption | simp_all]; rfl)), HC⟩
open Go Go.Proofs Go.RowKit
theorem rd_tail {w : World} {tb cap : Nat} {A : Option Addr} {Z : List Tok} (hcap : Z.length ≤ cap) (hS : Sl tok5E w (fun k => k = tb) A Z) : Sl tok5E w (fun k => k = tb) (if cap = 1 then A else A.map (·.add (1 * 5))) Z.tail := by
  by_cases h : cap = 1
  · have : Z.tail = [] := List.eq_nil_of_length_eq_zero (by rw [List.length_tail]; omega)
    rw [this]; exact .nil
  rw [if_neg h, ← List.drop_one]; exact hS.drop 1
theorem sl_str {w : World} {b : Nat} {Z : TypeId} (xs : List Bytes) (h : Blk w b (xs.map S) Z) : Sl sE w (fun k => k = b) (some ⟨b, 0, none⟩) xs :=
  .inr ⟨b, 0, rfl, h.lt, rfl, fun i x hx => ⟨[S x], rfl, fun j v hj => by
    cases j with
    | zero => cases hj; exact h.cell (by rw [nthV_eq]; simp [sE, Enc.flat, hx])
    | succ j => simp at hj⟩⟩
def rnone : Rdr := ⟨0, [], [], [], false⟩
theorem isT_tail {k : Int} {l : List Bytes} {Z : List Tok} (h : isT k l Z = true) : (hd Z).kind = k ∧ (hd Z).text ∈ l := by
  simpa [isT] using h
theorem lines_on {Y : List Tok} (h : GT Y) (hk : (hd Y).kind = 3) : linesG Y = linesG Y.tail := by
  cases Y with
  | nil => exact h.elim
  | cons t r => have hk : t.kind = 3 := hk; rw [linesG, if_pos hk]; rfl
theorem lines_off {Y : List Tok} (h : GT Y) (hk : (hd Y).kind ≠ 3) : linesG Y = Y := by
  cases Y with
  | nil => exact h.elim
  | cons t r => have hk : t.kind ≠ 3 := hk; rw [linesG, if_neg hk]
theorem gtok_spec {Z : List Tok} {rb tb : Nat} {d : Int} {w : World} (hg : GT Z) (hR : RdAt w rb tb d Z) : CallR Tryz.prog 15 #[.pointer (some ⟨rb, 0, none⟩)] w fun v w' => v = .agg ⟨tokC5 (hd Z)⟩ ∧ Chg [] w w' := by
 refine callR_of_wp (args := [_]) Tryz.func15 rfl (Nat.le_of_ble_eq_true rfl) ?_;have HC : Chg [] w w := .refl _;have hrl := hR.lt hg;obtain ⟨A, cap, hb, hcap, hS⟩ := hR;have hgp := hg.pos;refine sr rfl <| Wp rfl <| st_alloc T.zero51 ?_;intro b2 w1 e2 c3 hb4;have ge_b2 := gB e2 HC.size;have ne_rb_b2 := nF e2 hb.ne_size;replace HC := HC.then c3;replace hb := hb.tr0 c3;replace hS := hS.tr0 c3;clear e2;refine en <| sr rfl <| mP rfl <| nc rfl <| fa T.fld49_0 rfl <| lL T.one41 rfl (hb.cell rfl) ?_;obtain ⟨lb9, _, vs8, hA5, hR7, hC6⟩ := hS.at (i := 0) (x := (hd Z)) (hd_at hg);obtain rfl : vs8 = [.int .i64 (hd Z).kind, S (hd Z).text, .int .i64 (hd Z).at_, S (hd Z).here, .bool (hd Z).raw] := hR7;refine Wp rfl <| st_indexAddr T.u41 T.size51 (congrArg (fun z => Value.slice z _ _) hA5) rfl (by decide) q0 <| Wp rfl <| st_loadA (vs := [_, _, _, _, _]) T.agg51 rfl hC6 rfl <| Wp rfl <| st_st (v := .agg ⟨[_, _, _, _, _]⟩) T.size51 rfl rfl rfl hb4 ?_
 intro w10 c11 hb12; simp only [setVs, setV] at hb12;clear hb4;replace HC := HC.then1 c11 ge_b2;refine en <| x_ret <| ret_cellA (vs := [_, _, _, _, _]) rfl rfl T.agg51 (hb12.cells (n := 5) rfl) rfl ?_;exact ⟨rfl, HC⟩
theorem gnext_spec {Z : List Tok} {rb tb : Nat} {d : Int} {w : World} (hg : GT Z) (hR : RdAt w rb tb d Z) (hq : QOk rb tb) : CallR Tryz.prog 29 #[.pointer (some ⟨rb, 0, none⟩)] w fun v w' => v = .agg ⟨tokC5 (hd Z)⟩ ∧ RdAt w' rb tb d Z.tail ∧ Chg [rb] w w' := by
 refine callR_of_wp (args := [_]) Tryz.func29 rfl (Nat.le_of_ble_eq_true rfl) ?_;have HC : Chg [rb] w w := .refl _;have hrl := hR.lt hg;obtain ⟨hq1, _, _⟩ := hq;have hR9 := hR;obtain ⟨A, cap, hb, hcap, hS⟩ := hR;have hgp := hg.pos;refine sr rfl <| Wp rfl <| st_alloc T.zero51 ?_;intro b2 w1 e2 c3 hb4;have ge_b2 := gB e2 HC.size;have ne_rb_b2 := nF e2 hb.ne_size;replace HC := HC.then c3;replace hR9 := hR9.tr0 c3;replace hb := hb.tr0 c3;replace hS := hS.tr0 c3;clear e2;refine en <| sr rfl <| mP rfl <| Wp rfl <| st_call (ags := [_]) rfl rfl T.ent15 rfl (gtok_spec hg hR9) ?_;rintro _ w5 ⟨rfl, c6⟩;replace HC := HC.then c6;replace hb := hb.tr0 c6;replace hS := hS.tr0 c6;replace hb4 := hb4.tr0 c6;refine Wp rfl <| st_alloc T.zero51 ?_;intro b3 w7 e8 c9 hb10;have ge_b3 := gB e8 HC.size;have ne_rb_b3 := nF e8 hb.ne_size;have ne_b2_b3 := nF e8 hb4.ne_size;replace HC := HC.then c9;replace hb := hb.tr0 c9;replace hS := hS.tr0 c9;replace hb4 := hb4.tr0 c9;clear e8;refine Wp rfl <| st_st (v := .agg ⟨[_, _, _, _, _]⟩) T.size51 rfl rfl rfl hb10 ?_;intro w11 c12 hb13; simp only [setVs, setV] at hb13;clear hb10;replace HC := HC.then1 c12 ge_b3;replace hb := hb.tr1 c12 ne_rb_b3;replace hS := hS.tr c12 (by intro k hx hD; simp only [List.mem_singleton] at hx; subst hx; omega)
 replace hb4 := hb4.tr1 c12 ne_b2_b3;refine en <| sr rfl <| mP rfl <| mP rfl <| nc rfl <| fa T.fld49_0 rfl <| lL T.one41 rfl (hb.cell rfl) <| Wp rfl <| st_slice (i := 1) (j := Z.length) T.u41 T.size51 rfl ⟨_, rfl⟩ (by rfl) q0 q0 <| nc rfl <| fa T.fld49_0 rfl <| Wp rfl <| st_st (v := .slice _ _ _) T.size41 rfl rfl rfl hb ?_
 intro w14 c15 hb16; simp only [setVs, setV] at hb16;clear hb;replace HC := HC.trans c15 q4;replace hS := hS.tr c15 (by intro k hx hD; simp only [List.mem_singleton] at hx; subst hx; omega)
 replace hb4 := hb4.tr1 c15 (Ne.symm ne_rb_b2);replace hb13 := hb13.tr1 c15 (Ne.symm ne_rb_b3);refine en <| sr rfl <| Wp rfl <| st_loadA (vs := [_, _, _, _, _]) T.agg51 rfl (hb13.cells (n := 5) (vs := [_, _, _, _, _]) rfl) rfl <| Wp rfl <| st_st (v := .agg ⟨[_, _, _, _, _]⟩) T.size51 rfl rfl rfl hb4 ?_;intro w17 c18 hb19; simp only [setVs, setV] at hb19;clear hb4;replace HC := HC.then1 c18 ge_b2;replace hS := hS.tr c18 (by intro k hx hD; simp only [List.mem_singleton] at hx; subst hx; omega)
 replace hb16 := hb16.tr1 c18 ne_rb_b2;refine en <| x_ret <| ret_cellA (vs := [_, _, _, _, _]) rfl rfl T.agg51 (hb19.cells (n := 5) rfl) rfl ?_;have htl := tail_len hg;exact ⟨rfl, ⟨_, cap - 1, by rw [show Z.tail.length = Z.length - 1 by omega]; exact hb16, ⟨by omega, trivial⟩, rd_tail hcap.1 hS⟩, HC⟩
theorem gfail_spec {Z : List Tok} {rb tb : Nat} {d : Int} {w : World} (e : Int) (hg : GT Z) (hR : RdAt w rb tb d Z) : CallP Tryz.prog 17 #[.pointer (some ⟨rb, 0, none⟩), .int .i64 e] w (fun _ _ => False) (fun v w' => v = wrongV Z e ∧ Chg [] w w') := by
 refine callP_of_wp (args := [_, _]) Tryz.func17 rfl (Nat.le_of_ble_eq_true rfl) ?_;have HC : Chg [] w w := .refl _;have hrl := hR.lt hg;refine x_region rfl <| mP rfl <| Wp rfl <| st_call (ags := [_]) rfl rfl T.ent15 rfl (gtok_spec hg hR) ?_;rintro _ w1 ⟨rfl, c2⟩;replace HC := HC.then c2;refine Wp rfl <| st_field (v := .int _ _) T.fone51_2 rfl rfl <| mI rfl <| Wp rfl <| st_bld (ps := [(0, .tmp 6), (1, .tmp 7)]) (vs := [.int _ _, .int _ _]) T.bld45 rfl <| Wp rfl <| st_makeIface T.ux45 rfl rfl <| Wp rfl <| st_panic rfl <| pp_panic ?_;exact ⟨rfl, HC⟩
theorem gis_spec {Z : List Tok} {rb tb : Nat} {d : Int} {w : World} {l : List Bytes} {Al : Option Addr} {capl : Nat} {Dl : Nat → Prop} (k : Int) (hg : GT Z) (hR : RdAt w rb tb d Z) (hl : Sl sE w Dl Al l) (hll : l.length ≤ 9223372036854775807) : CallR Tryz.prog 32 #[.pointer (some ⟨rb, 0, none⟩), .int .i64 k, .slice Al l.length capl] w fun v w' => v = .bool (isT k l Z) ∧ Chg [] w w' := by
 refine callR_of_wp (args := [_, _, _]) Tryz.func32 rfl (Nat.le_of_ble_eq_true rfl) ?_;have HC : Chg [] w w := .refl _;have hrl := hR.lt hg;refine sr rfl <| aB rfl <| en <| sr rfl <| mP rfl <| Wp rfl <| st_call (ags := [_]) rfl rfl T.ent15 rfl (gtok_spec hg hR) ?_;rintro _ w1 ⟨rfl, c2⟩;replace HC := HC.then c2;replace hR := hR.tr0 c2;replace hl := hl.tr0 c2;refine Wp rfl <| st_field (v := .int _ _) T.fone51_0 rfl rfl <| mI rfl <| Wp rfl <| st_eql rfl rfl <| mB rfl <| w_split (d := 12) rfl (fun g3 => ?_) (fun g3 => ?_)
 ·try simp only [nm, ne_eq] at g3
  refine w_yes 5 12 true <| st_move (v := .slice _ _ _) rfl <| w_yes 5 12 true <| st_move (v := .pointer _) rfl <| w_yes 5 12 true <| st_call (ags := [_]) rfl rfl T.ent15 rfl (gtok_spec hg hR) ?_;rintro _ w4 ⟨rfl, c5⟩;replace HC := HC.then c5;replace hl := hl.tr0 c5;refine w_yes 5 12 true <| st_field (v := S _) T.fone51_1 rfl rfl <| w_yes 5 12 true <| st_call (ags := [_, _]) rfl rfl T.ent44 rfl (Contains_spec (hd Z).text hl hll) ?_;rintro _ w6 ⟨rfl, c7⟩;replace HC := HC.then c7;refine pT rfl rfl <| aB rfl <| en <| x_ret <| ret_tmp (v := .bool _) rfl rfl <| ⟨congrArg Value.bool ?_, HC⟩
  first | (simp_all [isT]; done) | (simp [isT, *]; done)
 try simp only [nm, ne_eq] at g3
 iterate 5 refine w_no 5 12 true ?_
 refine pF rfl rfl <| aB rfl <| en <| x_ret <| ret_tmp (v := .bool _) rfl rfl <| ⟨congrArg Value.bool ?_, HC⟩
 first | (simp_all [isT]; done) | (simp [isT, *]; done)
theorem gtake_spec {Z : List Tok} {rb tb : Nat} {d : Int} {w : World} {l : List Bytes} {Al : Option Addr} {capl : Nat} {Dl : Nat → Prop} (k : Int) (hg : GT Z) (hR : RdAt w rb tb d Z) (hq : QOk rb tb) (hl : Sl sE w Dl Al l) (hll : l.length ≤ 9223372036854775807) : CallR Tryz.prog 63 #[.pointer (some ⟨rb, 0, none⟩), .int .i64 k, .slice Al l.length capl] w fun v w' => v = .bool (isT k l Z) ∧ RdAt w' rb tb d (if isT k l Z = true then Z.tail else Z) ∧ Chg [rb] w w' := by
 refine callR_of_wp (args := [_, _, _]) Tryz.func63 rfl (Nat.le_of_ble_eq_true rfl) ?_;have HC : Chg [rb] w w := .refl _;have hrl := hR.lt hg;refine sr rfl <| aB rfl <| en <| sr rfl <| mP rfl <| mI rfl <| mL rfl <| Wp rfl <| st_call (ags := [_, _, _]) rfl rfl T.ent32 rfl (gis_spec k hg hR hl hll) ?_;rintro _ w1 ⟨rfl, c2⟩;replace HC := HC.then c2;replace hR := hR.tr0 c2;refine aB rfl <| en <| x_seq <| sr rfl <| mB rfl <| en <| x_cond rfl (fun h0 => ?_) (fun h0 => ?_)
 ·try simp only [nm, ne_eq] at h0
  refine x_region rfl <| mP rfl <| Wp rfl <| st_call (ags := [_]) rfl rfl T.ent29 rfl (gnext_spec hg hR hq) ?_;rintro _ w3 ⟨rfl, hR2, c4⟩;replace HC := HC.trans c4 q4;refine en <| sr rfl <| mB rfl <| aB rfl <| en <| x_ret <| ret_tmp (v := .bool _) rfl rfl ?_;rw [if_pos (by assumption)]
  exact ⟨rfl, hR2, HC⟩
 try simp only [nm, ne_eq] at h0
 refine x_skip <| then_n <| sr rfl <| mB rfl <| aB rfl <| en <| x_ret <| ret_tmp (v := .bool _) rfl rfl ?_;rw [if_neg (by first | assumption | simp_all)]
 exact ⟨rfl, hR, HC⟩
theorem gwant_spec {Z : List Tok} {rb tb : Nat} {d : Int} {w : World} (k : Int) (s : Bytes) (hg : GT Z) (hR : RdAt w rb tb d Z) (hq : QOk rb tb) : CallP Tryz.prog 98 #[.pointer (some ⟨rb, 0, none⟩), .int .i64 k, S s] w (fun v w' => isT k [s] Z = true ∧ RdAt w' rb tb d Z.tail ∧ Chg [rb] w w') (fun v w' => isT k [s] Z = false ∧ v = wrongV Z 101 ∧ Chg [rb] w w') := by
 refine callP_of_wp (args := [_, _, _]) Tryz.func98 rfl (Nat.le_of_ble_eq_true rfl) ?_;have HC : Chg [rb] w w := .refl _;have hrl := hR.lt hg;refine sr rfl <| mP rfl <| mI rfl <| mS rfl <| Wp rfl <| st_lit (ps := [(0, .tmp 8)]) (vs := [S _]) T.lit23 (by decide) rfl q6 rfl ?_
 intro b1 w2 e3 c4 hb5;have ge_b1 := gB e3 HC.size;replace HC := HC.then c4;replace hR := hR.tr0 c4;clear e3;refine Wp rfl <| st_call (ags := [_, _, _]) rfl rfl T.ent63 rfl (gtake_spec (l := [s]) k hg hR hq (sl_str [s] hb5) (by simp)) ?_
 rintro _ w6 ⟨rfl, hR2, c7⟩;replace HC := HC.trans c7 q4;refine Wp rfl <| st_not rfl <| en <| x_cond rfl (fun h0 => ?_) (fun h0 => ?_)
 ·try simp only [nm, ne_eq] at h0
  have hf : isT k [s] Z = false := by first | assumption | simp_all
  refine x_region rfl <| mP rfl <| w_plain rfl (st_callP (ags := [_, _]) rfl rfl T.ent17 rfl (gfail_spec 101 hg (show RdAt _ rb tb d Z by have h9 := hR2; rw [if_neg (by rw [hf]; simp)] at h9; exact h9)) ?_ ?_)
  ·rintro _ w8 ⟨rfl, c9⟩;replace HC := HC.then c9;refine pp_panic ?_;exact ⟨hf, rfl, HC⟩
  exact fun _ _ h9 => h9.elim
 try simp only [nm, ne_eq] at h0
 have hf : isT k [s] Z = true := by first | assumption | simp_all
 refine x_skip <| pp_n <| ret_none_n rfl ?_;exact ⟨hf, by have h9 := hR2; rw [if_pos hf] at h9; exact h9, HC⟩
theorem gany_spec {Z : List Tok} {rb tb : Nat} {d : Int} {w : World} (hg : GT Z) (hR : RdAt w rb tb d Z) (hq : QOk rb tb) : CallP Tryz.prog 114 #[.pointer (some ⟨rb, 0, none⟩)] w (fun v w' => (hd Z).kind = 1 ∧ v = .agg ⟨tokC5 (hd Z)⟩ ∧ RdAt w' rb tb d Z.tail ∧ Chg [rb] w w') (fun v w' => (hd Z).kind ≠ 1 ∧ v = wrongV Z 101 ∧ Chg [rb] w w') := by
 refine callP_of_wp (args := [_]) Tryz.func114 rfl (Nat.le_of_ble_eq_true rfl) ?_;have HC : Chg [rb] w w := .refl _;have hrl := hR.lt hg;refine sr rfl <| Wp rfl <| st_alloc T.zero51 ?_;intro b2 w1 e2 c3 hb4;have ge_b2 := gB e2 HC.size;replace HC := HC.then c3;replace hR := hR.tr0 c3;clear e2;refine en <| x_seq <| sr rfl <| mP rfl <| Wp rfl <| st_call (ags := [_]) rfl rfl T.ent15 rfl (gtok_spec hg hR) ?_;rintro _ w5 ⟨rfl, c6⟩;replace HC := HC.then c6;replace hR := hR.tr0 c6;replace hb4 := hb4.tr0 c6;refine Wp rfl <| st_field (v := .int _ _) T.fone51_0 rfl rfl <| Wp rfl <| st_neq rfl rfl <| en <| x_cond rfl (fun h0 => ?_) (fun h0 => ?_)
 ·try simp only [nm, ne_eq] at h0
  have hk1 : (hd Z).kind ≠ 1 := by first | assumption | simp_all
  refine x_region rfl <| mP rfl <| w_plain rfl (st_callP (ags := [_, _]) rfl rfl T.ent17 rfl (gfail_spec 101 hg hR) ?_ ?_)
  ·rintro _ w7 ⟨rfl, c8⟩;replace HC := HC.then c8;refine then_p <| pp_panic ?_;exact ⟨hk1, rfl, HC⟩
  exact fun _ _ h9 => h9.elim
 try simp only [nm, ne_eq] at h0
 have hk1 : (hd Z).kind = 1 := by first | assumption | simp_all
 refine x_skip <| then_n <| sr rfl <| mP rfl <| Wp rfl <| st_call (ags := [_]) rfl rfl T.ent29 rfl (gnext_spec hg hR hq) ?_;rintro _ w9 ⟨rfl, hR2, c10⟩;replace HC := HC.trans c10 q4;replace hb4 := hb4.tr1 c10 q0;refine Wp rfl <| st_st (v := .agg ⟨[_, _, _, _, _]⟩) T.size51 rfl rfl rfl hb4 ?_;intro w11 c12 hb13; simp only [setVs, setV] at hb13;clear hb4;replace HC := HC.then1 c12 ge_b2;replace hR2 := hR2.tr c12 q2;refine en <| x_ret <| pp_ret <| ret_cellA (vs := [_, _, _, _, _]) rfl rfl T.agg51 (hb13.cells (n := 5) rfl) rfl ?_;exact ⟨hk1, rfl, hR2, HC⟩
theorem glines_spec {Z : List Tok} {rb tb : Nat} {d : Int} {w : World} (hg : GT Z) (hR : RdAt w rb tb d Z) (hq : QOk rb tb) : CallR Tryz.prog 14 #[.pointer (some ⟨rb, 0, none⟩)] w fun v w' => RdAt w' rb tb d (linesG Z) ∧ Chg [rb] w w' := by
 refine callR_of_wp (args := [_]) Tryz.func14 rfl (Nat.le_of_ble_eq_true rfl) ?_;have HC : Chg [rb] w w := .refl _;have hrl := hR.lt hg;refine x_block <| x_loop (ι := List Tok) [2, 3, 4, 5, 6, 7] (fun Y => []) (fun Y W => (GT Y ∧ linesG Z = linesG Y) ∧ (Chg [rb] w W) ∧ (RdAt W rb tb d Y)) (fun Y => Y.length) Z ?_ ?_ ?_
 · exact trivial
 ·refine ⟨?_, HC, hR⟩;exact ⟨hg, rfl⟩
 intro Y G2 w1 ⟨⟨hgY, hle⟩, HC, hR⟩
 change wp _ _ _ _ _ (upds (over _ _ G2) []) _ _
 refine x_seq <| sr rfl <| mP rfl <| Wp rfl <| st_call (ags := [_]) rfl rfl T.ent15 rfl (gtok_spec (Z := Y) hgY hR) ?_;rintro _ w3 ⟨rfl, c4⟩;replace HC := HC.then c4;replace hR := hR.tr0 c4;refine Wp rfl <| st_field (v := .int _ _) T.fone51_0 rfl rfl <| Wp rfl <| st_eql rfl rfl <| en <| x_cond rfl (fun h0 => ?_) (fun h0 => ?_)
 ·try simp only [nm, ne_eq] at h0
  have hk3 : (hd Y).kind = 3 := by first | assumption | simp_all
  refine x_skip <| then_n <| x_block <| x_region rfl <| mP rfl <| Wp rfl <| st_call (ags := [_]) rfl rfl T.ent29 rfl (gnext_spec hgY hR hq) ?_;rintro _ w5 ⟨rfl, hR2, c6⟩;replace HC := HC.trans c6 q4;refine wops_nil <| block_n <| then_n <| ⟨Y.tail, ?_, ?_, rfl, trivial, ?_⟩
  ·refine ⟨?_, HC, hR2⟩;exact ⟨hgY.tail (by rw [hk3]; decide), by rw [hle]; exact lines_on hgY hk3⟩
  ·show Y.tail.length < Y.length; have := tail_len hgY; omega
  exact q9
 try simp only [nm, ne_eq] at h0
 have hk3 : (hd Y).kind ≠ 3 := by first | assumption | simp_all
 refine x_exit <| then_x <| then_x <| block_x <| ret_none_n rfl ?_;rw [hle, lines_off hgY hk3];exact ⟨hR, HC⟩
theorem gstarts_spec {Z : List Tok} {rb tb : Nat} {d : Int} {w : World} (hg : GT Z) (hR : RdAt w rb tb d Z) (ht : Tab w) : CallR Tryz.prog 30 #[.pointer (some ⟨rb, 0, none⟩)] w fun v w' => v = .bool (startsB Z) ∧ Chg [] w w' := by
 refine callR_of_wp (args := [_]) Tryz.func30 rfl (Nat.le_of_ble_eq_true rfl) ?_;have HC : Chg [] w w := .refl _;have hrl := hR.lt hg;have ht1 := ht.lt;refine sr rfl <| aB rfl <| en <| sr rfl <| mP rfl <| Wp rfl <| st_call (ags := [_]) rfl rfl T.ent15 rfl (gtok_spec hg hR) ?_;rintro _ w1 ⟨rfl, c2⟩;replace HC := HC.then c2;replace ht := ht.tr0 c2;refine Wp rfl <| st_alloc T.zero51 ?_;intro b3 w3 e4 c5 hb6;have ge_b3 := gB e4 HC.size;replace HC := HC.then c5;replace ht := ht.tr0 c5;clear e4;refine Wp rfl <| st_st (v := .agg ⟨[_, _, _, _, _]⟩) T.size51 rfl rfl rfl hb6 ?_;intro w7 c8 hb9; simp only [setVs, setV] at hb9;clear hb6;replace HC := HC.then1 c8 ge_b3;replace ht := ht.tr c8 q1;refine en <| x_seq <| sr rfl <| fa T.fld51_0 rfl <| lI T.one3 rfl (hb9.cell rfl) <| en <| x_block <| sr rfl <| Wp rfl <| st_eql rfl rfl <| aB rfl <| en <| x_cond rfl (fun h0 => ?_) (fun h0 => ?_)
 ·try simp only [nm, ne_eq] at h0
  refine sr rfl <| fa T.fld51_1 rfl <| lS T.one9 rfl (hb9.cell rfl) <| Wp rfl <| st_call (ags := [_]) rfl rfl T.ent40 rfl (Reserved_spec (hd Z).text _ ht) ?_;rintro _ w10 ⟨rfl, c11⟩;replace HC := HC.then c11;replace ht := ht.tr0 c11;replace hb9 := hb9.tr0 c11;refine Wp rfl <| st_not rfl <| mB rfl <| w_split (d := 14) rfl (fun g12 => ?_) (fun g12 => ?_)
  ·try simp only [nm, ne_eq] at g12
   iterate 3 refine w_no 4 14 false ?_
   refine pT rfl rfl <| aB rfl <| en <| x_ret <| block_r <| then_r <| ret_tmp (v := .bool _) rfl rfl <| ⟨congrArg Value.bool ?_, HC⟩
   unfold startsB
   first | (simp_all; done) | (simp [*]; done)
  try simp only [nm, ne_eq] at g12
  refine w_yes 4 14 false <| st_fieldAddr T.fld51_1 rfl <| w_yes 4 14 false <| st_load1 (v := S _) T.one9 rfl (hb9.cell rfl) <| w_yes 4 14 false <| st_call (ags := [_]) rfl rfl T.ent41 rfl (begins_spec (hd Z).text _ ht) ?_;rintro _ w13 ⟨rfl, c14⟩;replace HC := HC.then c14;refine pF rfl rfl <| aB rfl <| en <| x_ret <| block_r <| then_r <| ret_tmp (v := .bool _) rfl rfl <| ⟨congrArg Value.bool ?_, HC⟩
  unfold startsB
  first | (simp_all; done) | (simp [*]; done)
 try simp only [nm, ne_eq] at h0
 refine sr rfl <| Wp rfl <| st_eql rfl rfl <| aB rfl <| en <| x_cond rfl (fun h1 => ?_) (fun h1 => ?_)
 ·try simp only [nm, ne_eq] at h1
  refine sr rfl <| fa T.fld51_1 rfl <| lS T.one9 rfl (hb9.cell rfl) <| Wp rfl <| st_seql rfl rfl <| mB rfl <| w_split (d := 24) rfl (fun g15 => ?_) (fun g15 => ?_)
  ·try simp only [nm, ne_eq] at g15
   iterate 3 refine w_no 3 24 false ?_
   refine pT rfl rfl <| aB rfl <| en <| x_ret <| block_r <| then_r <| ret_tmp (v := .bool _) rfl rfl <| ⟨congrArg Value.bool ?_, HC⟩
   unfold startsB
   first | (simp_all; done) | (simp [*]; done)
  try simp only [nm, ne_eq] at g15
  refine w_yes 3 24 false <| st_fieldAddr T.fld51_1 rfl <| w_yes 3 24 false <| st_load1 (v := S _) T.one9 rfl (hb9.cell rfl) <| w_yes 3 24 false <| st_call (ags := [_]) rfl rfl T.ent42 rfl (redirection_spec (hd Z).text _ ht) ?_;rintro _ w16 ⟨rfl, c17⟩;replace HC := HC.then c17;refine pF rfl rfl <| aB rfl <| en <| x_ret <| block_r <| then_r <| ret_tmp (v := .bool _) rfl rfl <| ⟨congrArg Value.bool ?_, HC⟩
  unfold startsB
  first | (simp_all; done) | (simp [*]; done)
 try simp only [nm, ne_eq] at h1
 refine x_skip <| block_n <| then_n <| sr rfl <| fa T.fld51_0 rfl <| lI T.one3 rfl (hb9.cell rfl) <| Wp rfl <| st_eql rfl rfl <| aB rfl <| en <| x_ret <| ret_tmp (v := .bool _) rfl rfl <| ⟨congrArg Value.bool ?_, HC⟩
 unfold startsB
 first | (simp_all; done) | (simp [*]; done)
theorem gopens_spec {Z : List Tok} {rb tb : Nat} {d : Int} {w : World} (hg : GT Z) (hR : RdAt w rb tb d Z) (ht : Tab w) : CallR Tryz.prog 77 #[.pointer (some ⟨rb, 0, none⟩)] w fun v w' => v = .bool (opensB Z) ∧ Chg [] w w' := by
 refine callR_of_wp (args := [_]) Tryz.func77 rfl (Nat.le_of_ble_eq_true rfl) ?_;have HC : Chg [] w w := .refl _;have hrl := hR.lt hg;have ht1 := ht.lt;refine sr rfl <| aB rfl <| en <| sr rfl <| mP rfl <| Wp rfl <| st_lit (ps := [(0, .const (S [40]))]) (vs := [S _]) T.lit23 (by decide) rfl q6 rfl ?_
 intro b1 w2 e3 c4 hb5;have ge_b1 := gB e3 HC.size;replace HC := HC.then c4;replace hR := hR.tr0 c4;replace ht := ht.tr0 c4;clear e3;refine Wp rfl <| st_call (ags := [_, _, _]) rfl rfl T.ent32 rfl (gis_spec (l := [[40]]) 2 hg hR (sl_str [[40]] hb5) (by simp)) ?_
 rintro _ w6 ⟨rfl, c7⟩;replace HC := HC.then c7;replace hR := hR.tr0 c7;replace ht := ht.tr0 c7;refine mB rfl <| w_split (d := 6) rfl (fun g8 => ?_) (fun g8 => ?_)
 ·try simp only [nm, ne_eq] at g8
  iterate 5 refine w_no 3 6 false ?_
  iterate 4 refine w_no 8 11 true ?_
  refine w_no 3 6 false <| w_no 3 6 false ?_;iterate 4 refine w_no 14 17 true ?_
  refine w_no 3 6 false <| pT rfl rfl <| aB rfl <| en <| x_ret <| ret_tmp (v := .bool _) rfl rfl <| ⟨congrArg Value.bool ?_, HC⟩
  unfold opensB
  first | (simp_all; done) | (simp [*]; done)
 try simp only [nm, ne_eq] at g8
 refine w_yes 3 6 false <| st_move (v := .pointer _) rfl <| w_yes 3 6 false <| st_call (ags := [_]) rfl rfl T.ent15 rfl (gtok_spec hg hR) ?_;rintro _ w9 ⟨rfl, c10⟩;replace HC := HC.then c10;replace hR := hR.tr0 c10;replace ht := ht.tr0 c10;refine w_yes 3 6 false <| st_field (v := .int _ _) T.fone51_0 rfl rfl <| w_yes 3 6 false <| st_eql rfl rfl <| w_yes 3 6 false <| st_move (v := .bool _) rfl <| w_split (d := 11) rfl (fun g11 => ?_) (fun g11 => ?_)
 ·try simp only [nm, ne_eq] at g11
  refine w_yes 8 11 true <| st_move (v := .pointer _) rfl <| w_yes 8 11 true <| st_call (ags := [_]) rfl rfl T.ent15 rfl (gtok_spec hg hR) ?_;rintro _ w12 ⟨rfl, c13⟩;replace HC := HC.then c13;replace hR := hR.tr0 c13;replace ht := ht.tr0 c13;refine w_yes 8 11 true <| st_field (v := S _) T.fone51_1 rfl rfl <| w_yes 8 11 true <| st_call (ags := [_]) rfl rfl T.ent41 rfl (begins_spec (hd Z).text _ ht) ?_;rintro _ w14 ⟨rfl, c15⟩;replace HC := HC.then c15;replace hR := hR.tr0 c15;refine w_yes 3 6 false <| st_pick (b := true) (v := .bool _) rfl rfl <| w_yes 3 6 false <| st_move (v := .bool _) rfl <| w_split (d := 17) rfl (fun g16 => ?_) (fun g16 => ?_)
  ·try simp only [nm, ne_eq] at g16
   refine w_yes 14 17 true <| st_move (v := .pointer _) rfl <| w_yes 14 17 true <| st_call (ags := [_]) rfl rfl T.ent15 rfl (gtok_spec hg hR) ?_;rintro _ w17 ⟨rfl, c18⟩;replace HC := HC.then c18;refine w_yes 14 17 true <| st_field (v := S _) T.fone51_1 rfl rfl <| w_yes 14 17 true <| st_sneq rfl rfl <| w_yes 3 6 false <| st_pick (b := true) (v := .bool _) rfl rfl <| pF rfl rfl <| aB rfl <| en <| x_ret <| ret_tmp (v := .bool _) rfl rfl <| ⟨congrArg Value.bool ?_, HC⟩
   unfold opensB
   first | (simp_all; done) | (simp [*]; done)
  try simp only [nm, ne_eq] at g16
  iterate 4 refine w_no 14 17 true ?_
  refine w_yes 3 6 false <| st_pick (b := false) (v := .bool _) rfl rfl <| pF rfl rfl <| aB rfl <| en <| x_ret <| ret_tmp (v := .bool _) rfl rfl <| ⟨congrArg Value.bool ?_, HC⟩
  unfold opensB
  first | (simp_all; done) | (simp [*]; done)
 try simp only [nm, ne_eq] at g11
 iterate 4 refine w_no 8 11 true ?_
 refine w_yes 3 6 false <| st_pick (b := false) (v := .bool _) rfl rfl <| w_yes 3 6 false <| st_move (v := .bool _) rfl ?_;iterate 4 refine w_no 14 17 true ?_
 refine w_yes 3 6 false <| st_pick (b := false) (v := .bool _) rfl rfl <| pF rfl rfl <| aB rfl <| en <| x_ret <| ret_tmp (v := .bool _) rfl rfl <| ⟨congrArg Value.bool ?_, HC⟩
 unfold opensB
 first | (simp_all; done) | (simp [*]; done)
open Go Go.Proofs Go.RowKit
def GB (Z : List Tok) : Prop := Z.length ≤ 20000 ∧ ∀ t, t ∈ Z → t.text.length ≤ 20000
theorem Suf.gb {R Z : List Tok} (h : Suf R Z) (hz : GB Z) : GB R := ⟨Nat.le_trans h.len hz.1, fun t ht => hz.2 t (h.suf.subset ht)⟩
theorem hd_mem {Z : List Tok} (h : GT Z) : hd Z ∈ Z := by
  cases Z with
  | nil => exact h.elim
  | cons t r => simp [hd]
theorem u8_sub48 (c : UInt8) : IntKind.u8.wrap ((c.toNat : Int) - 48) = ((c - 48).toNat : Int) := by
  rw [wrap_u8, UInt8.toNat_sub]
  have := c.toNat_lt
  show _ = (((2 ^ 8 - (48 : UInt8).toNat + c.toNat) % 2 ^ 8 : Nat) : Int)
  rw [show (48 : UInt8).toNat = 48 from rfl]; omega
theorem redB_ne {s : Bytes} (h : redB s = true) : s ≠ [] := by
  intro e; subst e; exact absurd h (by decide)
theorem redir_none {Z : List Tok} (h : (hd Z).kind ≠ 4 ∧ ((hd Z).kind ≠ 2 ∨ redB (hd Z).text = false)) : redirG Z = .ok none Z := by unfold redirG; rw [if_pos h]
theorem redir_io {Z : List Tok} (h : (hd Z).kind = 4) : redirG Z = (anyG Z.tail.tail).bind fun w r => .ok (some ⟨((byte (hd Z).text 0 - 48).toNat : Int), (hd Z.tail).text, w.text, w.here, w.raw⟩) r := by
  unfold redirG; rw [if_neg (fun e => e.1 h), if_pos h]
theorem redir_op {Z : List Tok} (h : (hd Z).kind = 2) (hb : redB (hd Z).text = true) : redirG Z = (anyG Z.tail).bind fun w r => .ok (some ⟨if byte (hd Z).text 0 = 62 then 1 else 0, (hd Z).text, w.text, w.here, w.raw⟩) r := by
  unfold redirG; rw [if_neg (fun e => e.2.elim (fun e => e h) (fun e => by rw [hb] at e; cases e)), if_neg (by rw [h]; decide)]
theorem any_ok {Z : List Tok} (h : (hd Z).kind = 1) : anyG Z = .ok (hd Z) Z.tail := by unfold anyG; rw [if_pos h]
theorem any_er {Z : List Tok} (h : (hd Z).kind ≠ 1) : anyG Z = .er Z 101 := by unfold anyG; rw [if_neg h]
def OkR (Z : List Tok) (rb tb : Nat) (d : Int) (w w' : World) (v : Value) : Prop := ∃ x R, redirG Z = .ok x R ∧ Suf R Z ∧ (x = none → R = Z) ∧ (x ≠ none → R.length < Z.length) ∧ v = .tuple ⟨[.agg ⟨rdrC (x.getD rnone)⟩, .bool x.isSome]⟩ ∧ RdAt w' rb tb d R ∧ Chg [rb] w w'
theorem gredir_spec {Z : List Tok} {rb tb : Nat} {d : Int} {w : World} (hg : GT Z) (hR : RdAt w rb tb d Z) (hq : QOk rb tb) (ht : Tab w) : CallP Tryz.prog 103 #[.pointer (some ⟨rb, 0, none⟩)] w (fun v w' => OkR Z rb tb d w w' v) (fun v w' => ErT (redirG Z) Z rb w w' v) := by
 refine callP_of_wp (args := [_]) Tryz.func103 rfl (Nat.le_of_ble_eq_true rfl) ?_;have HC : Chg [rb] w w := .refl _;have hrl := hR.lt hg;have hq9 := hq;obtain ⟨hq1, hq2, hq3⟩ := hq9;have ht1 := ht.lt;refine sr rfl <| Wp rfl <| st_alloc T.zero40 ?_;intro b2 w1 e2 c3 hb4;have ge_b2 := gB e2 HC.size;replace HC := HC.then c3;replace hR := hR.tr0 c3;replace ht := ht.tr0 c3;clear e2;refine aB rfl <| en <| sr rfl <| mP rfl <| Wp rfl <| st_call (ags := [_]) rfl rfl T.ent15 rfl (gtok_spec hg hR) ?_;rintro _ w5 ⟨rfl, c6⟩;replace HC := HC.then c6;replace hR := hR.tr0 c6;replace ht := ht.tr0 c6;replace hb4 := hb4.tr0 c6;refine Wp rfl <| st_alloc T.zero51 ?_;intro b4 w7 e8 c9 hb10;have ge_b4 := gB e8 HC.size;have ne_b2_b4 := nF e8 hb4.ne_size;replace HC := HC.then c9;replace hR := hR.tr0 c9;replace ht := ht.tr0 c9;replace hb4 := hb4.tr0 c9;clear e8;refine Wp rfl <| st_st (v := .agg ⟨[_, _, _, _, _]⟩) T.size51 rfl rfl rfl hb10 ?_;intro w11 c12 hb13; simp only [setVs, setV] at hb13;clear hb10;replace HC := HC.then1 c12 ge_b4;replace hR := hR.tr c12 q2;replace ht := ht.tr c12 q1;replace hb4 := hb4.tr1 c12 ne_b2_b4;refine en <| x_seq <| sr rfl <| fa T.fld51_0 rfl <| lI T.one3 rfl (hb13.cell rfl) <| Wp rfl <| st_neq rfl rfl <| mB rfl <| w_split (d := 12) rfl (fun g14 => ?_) (fun g14 => ?_)
 ·try simp only [nm, ne_eq] at g14
  refine w_yes 3 12 true <| st_fieldAddr T.fld51_0 rfl <| w_yes 3 12 true <| st_load1 (v := .int _ _) T.one3 rfl (hb13.cell rfl) <| w_yes 3 12 true <| st_neq rfl rfl <| w_yes 3 12 true <| st_move (v := .bool _) rfl <| w_split (d := 16) rfl (fun g15 => ?_) (fun g15 => ?_)
  ·try simp only [nm, ne_eq] at g15
   iterate 4 refine w_no 7 16 false ?_
   refine w_yes 3 12 true <| st_pick (b := true) (v := .bool _) rfl rfl <| pT rfl rfl <| en <| x_cond (t := true) rfl (fun h0 => ?_) (fun h0 => ?_)
   rotate_left
   · exact absurd h0 (by decide)
   have hno : (hd Z).kind ≠ 4 ∧ ((hd Z).kind ≠ 2 ∨ redB (hd Z).text = false) := by refine ⟨by first | assumption | simp_all, ?_⟩; first | (left; assumption) | (right; assumption) | (left; simp_all; done) | (right; simp_all; done)
   refine sr rfl <| Wp rfl <| st_bld (ps := []) (vs := [.int _ _, S _, S _, S _, .bool _]) T.bld40 rfl <| Wp rfl <| st_st (v := .agg ⟨[_, _, _, _, _]⟩) T.size40 rfl rfl rfl hb4 ?_;intro w16 c17 hb18; simp only [setVs, setV] at hb18;clear hb4;replace HC := HC.then1 c17 ge_b2;replace hR := hR.tr c17 q2;refine aB rfl <| en <| x_ret <| then_r <| pp_ret <| ret_many (vs := [.agg ⟨[_, _, _, _, _]⟩, .bool _]) rfl ⟨⟨_, _, rfl, run_loadVarA T.agg40 (hb18.cells (n := 5) rfl) rfl⟩, ⟨rfl, trivial⟩⟩ (Nat.le_of_ble_eq_true rfl) ?_;exact ⟨none, Z, redir_none hno, .refl hg, fun _ => rfl, fun h => absurd rfl h, rfl, hR, HC⟩
  try simp only [nm, ne_eq] at g15
  refine w_yes 7 16 false <| st_fieldAddr T.fld51_1 rfl <| w_yes 7 16 false <| st_load1 (v := S _) T.one9 rfl (hb13.cell rfl) <| w_yes 7 16 false <| st_call (ags := [_]) rfl rfl T.ent42 rfl (redirection_spec (hd Z).text _ ht) ?_;rintro _ w19 ⟨rfl, c20⟩;replace HC := HC.then c20;replace hR := hR.tr0 c20;replace hb4 := hb4.tr0 c20;replace hb13 := hb13.tr0 c20;refine w_yes 7 16 false <| st_not rfl <| w_yes 3 12 true <| st_pick (b := false) (v := .bool _) rfl rfl <| pT rfl rfl <| en <| x_cond rfl (fun h0 => ?_) (fun h0 => ?_)
  ·try simp only [nm, ne_eq] at h0
   have hno : (hd Z).kind ≠ 4 ∧ ((hd Z).kind ≠ 2 ∨ redB (hd Z).text = false) := by refine ⟨by first | assumption | simp_all, ?_⟩; first | (left; assumption) | (right; assumption) | (left; simp_all; done) | (right; simp_all; done)
   refine sr rfl <| Wp rfl <| st_bld (ps := []) (vs := [.int _ _, S _, S _, S _, .bool _]) T.bld40 rfl <| Wp rfl <| st_st (v := .agg ⟨[_, _, _, _, _]⟩) T.size40 rfl rfl rfl hb4 ?_;intro w21 c22 hb23; simp only [setVs, setV] at hb23;clear hb4;replace HC := HC.then1 c22 ge_b2;replace hR := hR.tr c22 q2;refine aB rfl <| en <| x_ret <| then_r <| pp_ret <| ret_many (vs := [.agg ⟨[_, _, _, _, _]⟩, .bool _]) rfl ⟨⟨_, _, rfl, run_loadVarA T.agg40 (hb23.cells (n := 5) rfl) rfl⟩, ⟨rfl, trivial⟩⟩ (Nat.le_of_ble_eq_true rfl) ?_;exact ⟨none, Z, redir_none hno, .refl hg, fun _ => rfl, fun h => absurd rfl h, rfl, hR, HC⟩
  try simp only [nm, ne_eq] at h0
  refine x_skip <| then_n <| sr rfl <| Wp rfl <| st_bld (ps := []) (vs := [.int _ _, S _, S _, S _, .bool _]) T.bld40 rfl <| Wp rfl <| st_alloc T.zero40 ?_;intro b5 w24 e25 c26 hb27;have ge_b5 := gB e25 HC.size;have ne_b2_b5 := nF e25 hb4.ne_size;have ne_b4_b5 := nF e25 hb13.ne_size;replace HC := HC.then c26;replace hR := hR.tr0 c26;replace hb4 := hb4.tr0 c26;replace hb13 := hb13.tr0 c26;clear e25;refine Wp rfl <| st_st (v := .agg ⟨[_, _, _, _, _]⟩) T.size40 rfl rfl rfl hb27 ?_;intro w28 c29 hb30; simp only [setVs, setV] at hb30;clear hb27;replace HC := HC.then1 c29 ge_b5;replace hR := hR.tr c29 q2;replace hb4 := hb4.tr1 c29 ne_b2_b5;replace hb13 := hb13.tr1 c29 ne_b4_b5;refine en <| x_seq <| sr rfl <| fa T.fld51_0 rfl <| lI T.one3 rfl (hb13.cell rfl) <| Wp rfl <| st_eql rfl rfl <| en <| x_cond rfl (fun h1 => ?_) (fun h1 => ?_)
  ·try simp only [nm, ne_eq] at h1
   have hk4 : (hd Z).kind = 4 := by first | assumption | simp_all
   have hio := hg.io hk4;have hgY := hg.tail (by rw [hk4]; decide)
   have hgY2 := hgY.tail (by rw [hio.2]; decide)
   have hlp := List.length_pos_iff.2 hio.1;have h48 := (byte (hd Z).text 0 - 48).toNat_lt;refine x_region rfl <| mP rfl <| Wp rfl <| st_call (ags := [_]) rfl rfl T.ent29 rfl (gnext_spec hg hR hq) ?_;rintro _ w31 ⟨rfl, hR, c32⟩;replace HC := HC.trans c32 q4;replace hb4 := hb4.tr1 c32 q0;replace hb13 := hb13.tr1 c32 q0;replace hb30 := hb30.tr1 c32 q0;refine Wp rfl <| st_field (v := S _) T.fone51_1 rfl rfl <| Wp rfl <| st_sidx T.u9 rfl rfl (by decide) q0 <| Wp rfl <| st_subk rfl rfl (by exact u8_sub48 (byte (hd Z).text 0)) <| Wp rfl <| st_convk T.u5 T.u3 rfl (by exact wrap64_id q0 q0) <| fa T.fld40_0 rfl <| Wp rfl <| st_st (v := .int _ _) T.size3 rfl rfl rfl hb30 ?_
   intro w33 c34 hb35; simp only [setVs, setV] at hb35;clear hb30;replace HC := HC.then1 c34 ge_b5;replace hb4 := hb4.tr1 c34 ne_b2_b5;replace hb13 := hb13.tr1 c34 ne_b4_b5;replace hR := hR.tr c34 q2;refine en <| sr rfl <| mP rfl <| Wp rfl <| st_call (ags := [_]) rfl rfl T.ent29 rfl (gnext_spec (Z := Z.tail) hgY hR hq) ?_;rintro _ w36 ⟨rfl, hR, c37⟩;replace HC := HC.trans c37 q4;replace hb4 := hb4.tr1 c37 q0;replace hb13 := hb13.tr1 c37 q0;replace hb35 := hb35.tr1 c37 q0;refine Wp rfl <| st_field (v := S _) T.fone51_1 rfl rfl <| fa T.fld40_1 rfl <| Wp rfl <| st_st (v := S _) T.size9 rfl rfl rfl hb35 ?_;intro w38 c39 hb40; simp only [setVs, setV] at hb40;clear hb35;replace HC := HC.then1 c39 ge_b5;replace hb4 := hb4.tr1 c39 ne_b2_b5;replace hb13 := hb13.tr1 c39 ne_b4_b5;replace hR := hR.tr c39 q2;refine en <| x_seq <| sr rfl <| fa T.fld51_0 rfl <| lI T.one3 rfl (hb13.cell rfl) <| Wp rfl <| st_eql rfl rfl <| mB rfl <| w_split (d := 42) rfl (fun g41 => ?_) (fun g41 => ?_)
   ·try simp only [nm, ne_eq] at g41
    exfalso; rw [hk4] at *; simp_all
   try simp only [nm, ne_eq] at g41
   iterate 4 refine w_no 3 42 true ?_
   refine pF rfl rfl <| en <| x_cond (t := false) rfl (fun h2 => ?_) (fun h2 => ?_)
   · exact absurd h2 (by decide)
   refine x_skip <| then_n <| x_seq ?_;have hs2 : Suf Z.tail.tail Z := (Suf.tail hgY (by rw [hio.2]; decide)).trans (.tail hg (by rw [hk4]; decide))
   refine x_region rfl <| mP rfl <| w_plain rfl (st_callP (ags := [_]) rfl rfl T.ent114 rfl (gany_spec (Z := Z.tail.tail) hgY2 hR hq) ?_ ?_)
   ·rintro _ w42 ⟨hk1, rfl, c43⟩;replace HC := HC.trans c43 q4;refine then_p <| pp_panic ?_;exact ⟨_, _, by rw [redir_io hk4, any_er hk1]; rfl, hs2, rfl, HC⟩
   rintro _ w44 ⟨hk1, rfl, hR, c45⟩;replace HC := HC.trans c45 q4;replace hb4 := hb4.tr1 c45 q0;replace hb13 := hb13.tr1 c45 q0;replace hb40 := hb40.tr1 c45 q0;refine Wp rfl <| st_alloc T.zero51 ?_;intro b6 w46 e47 c48 hb49;have ge_b6 := gB e47 HC.size;have ne_b2_b6 := nF e47 hb4.ne_size;have ne_b4_b6 := nF e47 hb13.ne_size;have ne_b5_b6 := nF e47 hb40.ne_size;replace HC := HC.then c48;replace hb4 := hb4.tr0 c48;replace hb13 := hb13.tr0 c48;replace hb40 := hb40.tr0 c48;replace hR := hR.tr0 c48;clear e47;refine Wp rfl <| st_st (v := .agg ⟨[_, _, _, _, _]⟩) T.size51 rfl rfl rfl hb49 ?_;intro w50 c51 hb52; simp only [setVs, setV] at hb52;clear hb49;replace HC := HC.then1 c51 ge_b6;replace hb4 := hb4.tr1 c51 ne_b2_b6;replace hb13 := hb13.tr1 c51 ne_b4_b6;replace hb40 := hb40.tr1 c51 ne_b5_b6;replace hR := hR.tr c51 q2;refine en <| x_seq ?_;have hs3 : Suf Z.tail.tail.tail Z := (Suf.tail hgY2 (by rw [hk1]; decide)).trans hs2
   refine x_draw [(0, 0), (1, 0), (2, 0), (3, 0), (4, 0), (5, 0), (6, 0), (7, 1), (8, 0), (9, 1), (10, 0), (11, 2)] T.mixed rfl rfl rfl (fun W => W.heap[b2]? = w50.heap[b2]? ∧ W.heap[b4]? = w50.heap[b4]? ∧ W.heap[b6]? = w50.heap[b6]? ∧ True) ⟨rfl, rfl, rfl, trivial⟩ ?_
   have o55 := hb4;have o56 := hb13;have o57 := hb52;have c54 := Chg.drew w50;generalize World.drew w50 = w53 at c54 ⊢;replace HC := HC.then c54;replace hb4 := hb4.tr0 c54;replace hb13 := hb13.tr0 c54;replace hb40 := hb40.tr0 c54;replace hR := hR.tr0 c54;replace hb52 := hb52.tr0 c54;refine sq_q rfl (fun W hT => r_fieldAddr T.fld51_1 rfl) <| sq_q rfl (fun W hT => r_load1 (v := S _) T.one9 rfl (Blk.cell (show Blk W b6 _ _ from hT.2.2.1.trans o57) rfl)) <| sq_q rfl (fun W hT => r_fieldAddr T.fld51_3 rfl) <| sq_q rfl (fun W hT => r_load1 (v := S _) T.one9 rfl (Blk.cell (show Blk W b6 _ _ from hT.2.2.1.trans o57) rfl)) <| sq_q rfl (fun W hT => r_fieldAddr T.fld51_4 rfl) <| sq_q rfl (fun W hT => r_load1 (v := .bool _) T.one4 rfl (Blk.cell (show Blk W b6 _ _ from hT.2.2.1.trans o57) rfl)) <| sq_q rfl (fun W hT => r_fieldAddr T.fld40_2 rfl) <| sq_store1 rfl T.size9 (v := S _) rfl rfl rfl hb40 rfl (Nat.le_of_ble_eq_true rfl) q5 rfl ?_
   intro w58 c59 hb60; simp only [setVs, setV] at hb60;clear hb40;replace HC := HC.then1 c59 ge_b5;replace hb4 := hb4.tr1 c59 ne_b2_b5;replace hb13 := hb13.tr1 c59 ne_b4_b5;replace hR := hR.tr c59 q2;replace hb52 := hb52.tr1 c59 (Ne.symm ne_b5_b6);refine ⟨_, fun _ h => h, ⟨(Eq.trans hb4 o55.symm), (Eq.trans hb13 o56.symm), (Eq.trans hb52 o57.symm), trivial⟩, ?_⟩
   refine sq_q rfl (fun W hT => r_fieldAddr T.fld40_3 rfl) <| sq_store1 rfl T.size9 (v := S _) rfl rfl rfl hb60 rfl (Nat.le_of_ble_eq_true rfl) q5 rfl ?_
   intro w61 c62 hb63; simp only [setVs, setV] at hb63;clear hb60;replace HC := HC.then1 c62 ge_b5;replace hb4 := hb4.tr1 c62 ne_b2_b5;replace hb13 := hb13.tr1 c62 ne_b4_b5;replace hR := hR.tr c62 q2;replace hb52 := hb52.tr1 c62 (Ne.symm ne_b5_b6);refine ⟨_, fun _ h => h, ⟨(Eq.trans hb4 o55.symm), (Eq.trans hb13 o56.symm), (Eq.trans hb52 o57.symm), trivial⟩, ?_⟩
   refine sq_q rfl (fun W hT => r_fieldAddr T.fld40_4 rfl) <| sq_store2 rfl T.size4 (v := .bool _) rfl rfl rfl hb63 rfl (Nat.le_of_ble_eq_true rfl) q5 rfl ?_
   intro w64 c65 hb66; simp only [setVs, setV] at hb66;clear hb63;replace HC := HC.then1 c65 ge_b5;replace hb4 := hb4.tr1 c65 ne_b2_b5;replace hR := hR.tr c65 q2;clear o55;clear o56;clear o57;refine sq_nil <| then_n <| sr rfl <| Wp rfl <| st_loadA (vs := [_, _, _, _, _]) T.agg40 rfl (hb66.cells (n := 5) (vs := [_, _, _, _, _]) rfl) rfl <| Wp rfl <| st_st (v := .agg ⟨[_, _, _, _, _]⟩) T.size40 rfl rfl rfl hb4 ?_;intro w67 c68 hb69; simp only [setVs, setV] at hb69;clear hb4;replace HC := HC.then1 c68 ge_b2;replace hR := hR.tr c68 q2;refine aB rfl <| en <| x_ret <| pp_ret <| ret_many (vs := [.agg ⟨[_, _, _, _, _]⟩, .bool _]) rfl ⟨⟨_, _, rfl, run_loadVarA T.agg40 (hb69.cells (n := 5) rfl) rfl⟩, ⟨rfl, trivial⟩⟩ (Nat.le_of_ble_eq_true rfl) ?_;exact ⟨some ⟨((byte (hd Z).text 0 - 48).toNat : Int), (hd Z.tail).text, (hd Z.tail.tail).text, (hd Z.tail.tail).here, (hd Z.tail.tail).raw⟩, Z.tail.tail.tail, by rw [redir_io hk4, any_ok hk1]; rfl, hs3, (fun h => nomatch h), fun _ => by have := tail_len hg; have := tail_len hgY; have := tail_len hgY2; omega, rfl, hR, HC⟩
  try simp only [nm, ne_eq] at h1
  have hk2 : (hd Z).kind = 2 := by first | assumption | simp_all
  have hrd : redB (hd Z).text = true := by first | assumption | simp_all
  have hgY2 := hg.tail (by rw [hk2]; decide)
  have hlp := List.length_pos_iff.2 (redB_ne hrd);refine x_skip <| then_n <| sr rfl <| mP rfl <| Wp rfl <| st_call (ags := [_]) rfl rfl T.ent29 rfl (gnext_spec (Z := Z) hg hR hq) ?_;rintro _ w70 ⟨rfl, hR, c71⟩;replace HC := HC.trans c71 q4;replace hb4 := hb4.tr1 c71 q0;replace hb13 := hb13.tr1 c71 q0;replace hb30 := hb30.tr1 c71 q0;refine Wp rfl <| st_field (v := S _) T.fone51_1 rfl rfl <| fa T.fld40_1 rfl <| Wp rfl <| st_st (v := S _) T.size9 rfl rfl rfl hb30 ?_;intro w72 c73 hb74; simp only [setVs, setV] at hb74;clear hb30;replace HC := HC.then1 c73 ge_b5;replace hb4 := hb4.tr1 c73 ne_b2_b5;replace hb13 := hb13.tr1 c73 ne_b4_b5;replace hR := hR.tr c73 q2;refine en <| x_seq <| sr rfl <| fa T.fld51_0 rfl <| lI T.one3 rfl (hb13.cell rfl) <| Wp rfl <| st_eql rfl rfl <| mB rfl <| w_split (d := 42) rfl (fun g75 => ?_) (fun g75 => ?_)
  ·try simp only [nm, ne_eq] at g75
   refine w_yes 3 42 true <| st_fieldAddr T.fld40_1 rfl <| w_yes 3 42 true <| st_load1 (v := S _) T.one9 rfl (hb74.cell rfl) <| w_yes 3 42 true <| st_sidx T.u9 rfl rfl (by decide) q0 <| w_yes 3 42 true <| st_eql rfl rfl <| pT rfl rfl <| en <| x_cond rfl (fun h2 => ?_) (fun h2 => ?_)
   ·try simp only [nm, ne_eq] at h2
    have hgt : byte (hd Z).text 0 = 62 := u8_eq (by first | assumption | simp_all) rfl
    refine x_region rfl <| fa T.fld40_0 rfl <| Wp rfl <| st_st (v := .int _ _) T.size3 rfl rfl rfl hb74 ?_;intro w76 c77 hb78; simp only [setVs, setV] at hb78;clear hb74;replace HC := HC.then1 c77 ge_b5;replace hb4 := hb4.tr1 c77 ne_b2_b5;replace hb13 := hb13.tr1 c77 ne_b4_b5;replace hR := hR.tr c77 q2;refine en <| x_seq ?_;have hs2 : Suf Z.tail Z := .tail hg (by rw [hk2]; decide)
    refine x_region rfl <| mP rfl <| w_plain rfl (st_callP (ags := [_]) rfl rfl T.ent114 rfl (gany_spec (Z := Z.tail) hgY2 hR hq) ?_ ?_)
    ·rintro _ w79 ⟨hk1, rfl, c80⟩;replace HC := HC.trans c80 q4;refine then_p <| pp_panic ?_;exact ⟨_, _, by rw [redir_op hk2 hrd, any_er hk1]; rfl, hs2, rfl, HC⟩
    rintro _ w81 ⟨hk1, rfl, hR, c82⟩;replace HC := HC.trans c82 q4;replace hb4 := hb4.tr1 c82 q0;replace hb13 := hb13.tr1 c82 q0;replace hb78 := hb78.tr1 c82 q0;refine Wp rfl <| st_alloc T.zero51 ?_;intro b6 w83 e84 c85 hb86;have ge_b6 := gB e84 HC.size;have ne_b2_b6 := nF e84 hb4.ne_size;have ne_b4_b6 := nF e84 hb13.ne_size;have ne_b5_b6 := nF e84 hb78.ne_size;replace HC := HC.then c85;replace hb4 := hb4.tr0 c85;replace hb13 := hb13.tr0 c85;replace hb78 := hb78.tr0 c85;replace hR := hR.tr0 c85;clear e84;refine Wp rfl <| st_st (v := .agg ⟨[_, _, _, _, _]⟩) T.size51 rfl rfl rfl hb86 ?_;intro w87 c88 hb89; simp only [setVs, setV] at hb89;clear hb86;replace HC := HC.then1 c88 ge_b6;replace hb4 := hb4.tr1 c88 ne_b2_b6;replace hb13 := hb13.tr1 c88 ne_b4_b6;replace hb78 := hb78.tr1 c88 ne_b5_b6;replace hR := hR.tr c88 q2;refine en <| x_seq ?_;have hs3 : Suf Z.tail.tail Z := (Suf.tail hgY2 (by rw [hk1]; decide)).trans hs2
    refine x_draw [(0, 0), (1, 0), (2, 0), (3, 0), (4, 0), (5, 0), (6, 0), (7, 1), (8, 0), (9, 1), (10, 0), (11, 2)] T.mixed rfl rfl rfl (fun W => W.heap[b2]? = w87.heap[b2]? ∧ W.heap[b4]? = w87.heap[b4]? ∧ W.heap[b6]? = w87.heap[b6]? ∧ True) ⟨rfl, rfl, rfl, trivial⟩ ?_
    have o92 := hb4;have o93 := hb13;have o94 := hb89;have c91 := Chg.drew w87;generalize World.drew w87 = w90 at c91 ⊢;replace HC := HC.then c91;replace hb4 := hb4.tr0 c91;replace hb13 := hb13.tr0 c91;replace hb78 := hb78.tr0 c91;replace hR := hR.tr0 c91;replace hb89 := hb89.tr0 c91;refine sq_q rfl (fun W hT => r_fieldAddr T.fld51_1 rfl) <| sq_q rfl (fun W hT => r_load1 (v := S _) T.one9 rfl (Blk.cell (show Blk W b6 _ _ from hT.2.2.1.trans o94) rfl)) <| sq_q rfl (fun W hT => r_fieldAddr T.fld51_3 rfl) <| sq_q rfl (fun W hT => r_load1 (v := S _) T.one9 rfl (Blk.cell (show Blk W b6 _ _ from hT.2.2.1.trans o94) rfl)) <| sq_q rfl (fun W hT => r_fieldAddr T.fld51_4 rfl) <| sq_q rfl (fun W hT => r_load1 (v := .bool _) T.one4 rfl (Blk.cell (show Blk W b6 _ _ from hT.2.2.1.trans o94) rfl)) <| sq_q rfl (fun W hT => r_fieldAddr T.fld40_2 rfl) <| sq_store1 rfl T.size9 (v := S _) rfl rfl rfl hb78 rfl (Nat.le_of_ble_eq_true rfl) q5 rfl ?_
    intro w95 c96 hb97; simp only [setVs, setV] at hb97;clear hb78;replace HC := HC.then1 c96 ge_b5;replace hb4 := hb4.tr1 c96 ne_b2_b5;replace hb13 := hb13.tr1 c96 ne_b4_b5;replace hR := hR.tr c96 q2;replace hb89 := hb89.tr1 c96 (Ne.symm ne_b5_b6);refine ⟨_, fun _ h => h, ⟨(Eq.trans hb4 o92.symm), (Eq.trans hb13 o93.symm), (Eq.trans hb89 o94.symm), trivial⟩, ?_⟩
    refine sq_q rfl (fun W hT => r_fieldAddr T.fld40_3 rfl) <| sq_store1 rfl T.size9 (v := S _) rfl rfl rfl hb97 rfl (Nat.le_of_ble_eq_true rfl) q5 rfl ?_
    intro w98 c99 hb100; simp only [setVs, setV] at hb100;clear hb97;replace HC := HC.then1 c99 ge_b5;replace hb4 := hb4.tr1 c99 ne_b2_b5;replace hb13 := hb13.tr1 c99 ne_b4_b5;replace hR := hR.tr c99 q2;replace hb89 := hb89.tr1 c99 (Ne.symm ne_b5_b6);refine ⟨_, fun _ h => h, ⟨(Eq.trans hb4 o92.symm), (Eq.trans hb13 o93.symm), (Eq.trans hb89 o94.symm), trivial⟩, ?_⟩
    refine sq_q rfl (fun W hT => r_fieldAddr T.fld40_4 rfl) <| sq_store2 rfl T.size4 (v := .bool _) rfl rfl rfl hb100 rfl (Nat.le_of_ble_eq_true rfl) q5 rfl ?_
    intro w101 c102 hb103; simp only [setVs, setV] at hb103;clear hb100;replace HC := HC.then1 c102 ge_b5;replace hb4 := hb4.tr1 c102 ne_b2_b5;replace hR := hR.tr c102 q2;clear o92;clear o93;clear o94;refine sq_nil <| then_n <| sr rfl <| Wp rfl <| st_loadA (vs := [_, _, _, _, _]) T.agg40 rfl (hb103.cells (n := 5) (vs := [_, _, _, _, _]) rfl) rfl <| Wp rfl <| st_st (v := .agg ⟨[_, _, _, _, _]⟩) T.size40 rfl rfl rfl hb4 ?_;intro w104 c105 hb106; simp only [setVs, setV] at hb106;clear hb4;replace HC := HC.then1 c105 ge_b2;replace hR := hR.tr c105 q2;refine aB rfl <| en <| x_ret <| pp_ret <| ret_many (vs := [.agg ⟨[_, _, _, _, _]⟩, .bool _]) rfl ⟨⟨_, _, rfl, run_loadVarA T.agg40 (hb106.cells (n := 5) rfl) rfl⟩, ⟨rfl, trivial⟩⟩ (Nat.le_of_ble_eq_true rfl) ?_;exact ⟨some ⟨if byte (hd Z).text 0 = 62 then 1 else 0, (hd Z).text, (hd Z.tail).text, (hd Z.tail).here, (hd Z.tail).raw⟩, Z.tail.tail, by rw [redir_op hk2 hrd, any_ok hk1]; rfl, hs3, (fun h => nomatch h), fun _ => by have := tail_len hg; have := tail_len hgY2; omega, by rw [if_pos hgt]; rfl, hR, HC⟩
   try simp only [nm, ne_eq] at h2
   have hgt : ¬ byte (hd Z).text 0 = 62 := fun e => by have h8 : ((byte (hd Z).text 0).toNat : Int) = 62 := (by rw [e]; rfl); first | omega | simp_all
   refine x_skip <| then_n <| x_seq ?_;have hs2 : Suf Z.tail Z := .tail hg (by rw [hk2]; decide)
   refine x_region rfl <| mP rfl <| w_plain rfl (st_callP (ags := [_]) rfl rfl T.ent114 rfl (gany_spec (Z := Z.tail) hgY2 hR hq) ?_ ?_)
   ·rintro _ w107 ⟨hk1, rfl, c108⟩;replace HC := HC.trans c108 q4;refine then_p <| pp_panic ?_;exact ⟨_, _, by rw [redir_op hk2 hrd, any_er hk1]; rfl, hs2, rfl, HC⟩
   rintro _ w109 ⟨hk1, rfl, hR, c110⟩;replace HC := HC.trans c110 q4;replace hb4 := hb4.tr1 c110 q0;replace hb13 := hb13.tr1 c110 q0;replace hb74 := hb74.tr1 c110 q0;refine Wp rfl <| st_alloc T.zero51 ?_;intro b6 w111 e112 c113 hb114;have ge_b6 := gB e112 HC.size;have ne_b2_b6 := nF e112 hb4.ne_size;have ne_b4_b6 := nF e112 hb13.ne_size;have ne_b5_b6 := nF e112 hb74.ne_size;replace HC := HC.then c113;replace hb4 := hb4.tr0 c113;replace hb13 := hb13.tr0 c113;replace hb74 := hb74.tr0 c113;replace hR := hR.tr0 c113;clear e112;refine Wp rfl <| st_st (v := .agg ⟨[_, _, _, _, _]⟩) T.size51 rfl rfl rfl hb114 ?_;intro w115 c116 hb117; simp only [setVs, setV] at hb117;clear hb114;replace HC := HC.then1 c116 ge_b6;replace hb4 := hb4.tr1 c116 ne_b2_b6;replace hb13 := hb13.tr1 c116 ne_b4_b6;replace hb74 := hb74.tr1 c116 ne_b5_b6;replace hR := hR.tr c116 q2;refine en <| x_seq ?_;have hs3 : Suf Z.tail.tail Z := (Suf.tail hgY2 (by rw [hk1]; decide)).trans hs2
   refine x_draw [(0, 0), (1, 0), (2, 0), (3, 0), (4, 0), (5, 0), (6, 0), (7, 1), (8, 0), (9, 1), (10, 0), (11, 2)] T.mixed rfl rfl rfl (fun W => W.heap[b2]? = w115.heap[b2]? ∧ W.heap[b4]? = w115.heap[b4]? ∧ W.heap[b6]? = w115.heap[b6]? ∧ True) ⟨rfl, rfl, rfl, trivial⟩ ?_
   have o120 := hb4;have o121 := hb13;have o122 := hb117;have c119 := Chg.drew w115;generalize World.drew w115 = w118 at c119 ⊢;replace HC := HC.then c119;replace hb4 := hb4.tr0 c119;replace hb13 := hb13.tr0 c119;replace hb74 := hb74.tr0 c119;replace hR := hR.tr0 c119;replace hb117 := hb117.tr0 c119;refine sq_q rfl (fun W hT => r_fieldAddr T.fld51_1 rfl) <| sq_q rfl (fun W hT => r_load1 (v := S _) T.one9 rfl (Blk.cell (show Blk W b6 _ _ from hT.2.2.1.trans o122) rfl)) <| sq_q rfl (fun W hT => r_fieldAddr T.fld51_3 rfl) <| sq_q rfl (fun W hT => r_load1 (v := S _) T.one9 rfl (Blk.cell (show Blk W b6 _ _ from hT.2.2.1.trans o122) rfl)) <| sq_q rfl (fun W hT => r_fieldAddr T.fld51_4 rfl) <| sq_q rfl (fun W hT => r_load1 (v := .bool _) T.one4 rfl (Blk.cell (show Blk W b6 _ _ from hT.2.2.1.trans o122) rfl)) <| sq_q rfl (fun W hT => r_fieldAddr T.fld40_2 rfl) <| sq_store1 rfl T.size9 (v := S _) rfl rfl rfl hb74 rfl (Nat.le_of_ble_eq_true rfl) q5 rfl ?_
   intro w123 c124 hb125; simp only [setVs, setV] at hb125;clear hb74;replace HC := HC.then1 c124 ge_b5;replace hb4 := hb4.tr1 c124 ne_b2_b5;replace hb13 := hb13.tr1 c124 ne_b4_b5;replace hR := hR.tr c124 q2;replace hb117 := hb117.tr1 c124 (Ne.symm ne_b5_b6);refine ⟨_, fun _ h => h, ⟨(Eq.trans hb4 o120.symm), (Eq.trans hb13 o121.symm), (Eq.trans hb117 o122.symm), trivial⟩, ?_⟩
   refine sq_q rfl (fun W hT => r_fieldAddr T.fld40_3 rfl) <| sq_store1 rfl T.size9 (v := S _) rfl rfl rfl hb125 rfl (Nat.le_of_ble_eq_true rfl) q5 rfl ?_
   intro w126 c127 hb128; simp only [setVs, setV] at hb128;clear hb125;replace HC := HC.then1 c127 ge_b5;replace hb4 := hb4.tr1 c127 ne_b2_b5;replace hb13 := hb13.tr1 c127 ne_b4_b5;replace hR := hR.tr c127 q2;replace hb117 := hb117.tr1 c127 (Ne.symm ne_b5_b6);refine ⟨_, fun _ h => h, ⟨(Eq.trans hb4 o120.symm), (Eq.trans hb13 o121.symm), (Eq.trans hb117 o122.symm), trivial⟩, ?_⟩
   refine sq_q rfl (fun W hT => r_fieldAddr T.fld40_4 rfl) <| sq_store2 rfl T.size4 (v := .bool _) rfl rfl rfl hb128 rfl (Nat.le_of_ble_eq_true rfl) q5 rfl ?_
   intro w129 c130 hb131; simp only [setVs, setV] at hb131;clear hb128;replace HC := HC.then1 c130 ge_b5;replace hb4 := hb4.tr1 c130 ne_b2_b5;replace hR := hR.tr c130 q2;clear o120;clear o121;clear o122;refine sq_nil <| then_n <| sr rfl <| Wp rfl <| st_loadA (vs := [_, _, _, _, _]) T.agg40 rfl (hb131.cells (n := 5) (vs := [_, _, _, _, _]) rfl) rfl <| Wp rfl <| st_st (v := .agg ⟨[_, _, _, _, _]⟩) T.size40 rfl rfl rfl hb4 ?_;intro w132 c133 hb134; simp only [setVs, setV] at hb134;clear hb4;replace HC := HC.then1 c133 ge_b2;replace hR := hR.tr c133 q2;refine aB rfl <| en <| x_ret <| pp_ret <| ret_many (vs := [.agg ⟨[_, _, _, _, _]⟩, .bool _]) rfl ⟨⟨_, _, rfl, run_loadVarA T.agg40 (hb134.cells (n := 5) rfl) rfl⟩, ⟨rfl, trivial⟩⟩ (Nat.le_of_ble_eq_true rfl) ?_;exact ⟨some ⟨if byte (hd Z).text 0 = 62 then 1 else 0, (hd Z).text, (hd Z.tail).text, (hd Z.tail).here, (hd Z.tail).raw⟩, Z.tail.tail, by rw [redir_op hk2 hrd, any_ok hk1]; rfl, hs3, (fun h => nomatch h), fun _ => by have := tail_len hg; have := tail_len hgY2; omega, by rw [if_neg hgt]; rfl, hR, HC⟩
  try simp only [nm, ne_eq] at g75
  exfalso; simp_all
 try simp only [nm, ne_eq] at g14
 iterate 4 refine w_no 3 12 true ?_
 iterate 4 refine w_no 7 16 false ?_
 refine w_no 3 12 true <| pF rfl rfl <| en <| x_cond (t := false) rfl (fun h0 => ?_) (fun h0 => ?_)
 · exact absurd h0 (by decide)
 refine x_skip <| then_n <| sr rfl <| Wp rfl <| st_bld (ps := []) (vs := [.int _ _, S _, S _, S _, .bool _]) T.bld40 rfl <| Wp rfl <| st_alloc T.zero40 ?_;intro b5 w135 e136 c137 hb138;have ge_b5 := gB e136 HC.size;have ne_b2_b5 := nF e136 hb4.ne_size;have ne_b4_b5 := nF e136 hb13.ne_size;replace HC := HC.then c137;replace hR := hR.tr0 c137;replace hb4 := hb4.tr0 c137;replace hb13 := hb13.tr0 c137;clear e136;refine Wp rfl <| st_st (v := .agg ⟨[_, _, _, _, _]⟩) T.size40 rfl rfl rfl hb138 ?_;intro w139 c140 hb141; simp only [setVs, setV] at hb141;clear hb138;replace HC := HC.then1 c140 ge_b5;replace hR := hR.tr c140 q2;replace hb4 := hb4.tr1 c140 ne_b2_b5;replace hb13 := hb13.tr1 c140 ne_b4_b5;refine en <| x_seq <| sr rfl <| fa T.fld51_0 rfl <| lI T.one3 rfl (hb13.cell rfl) <| Wp rfl <| st_eql rfl rfl <| en <| x_cond rfl (fun h1 => ?_) (fun h1 => ?_)
 ·try simp only [nm, ne_eq] at h1
  have hk4 : (hd Z).kind = 4 := by first | assumption | simp_all
  have hio := hg.io hk4;have hgY := hg.tail (by rw [hk4]; decide)
  have hgY2 := hgY.tail (by rw [hio.2]; decide)
  have hlp := List.length_pos_iff.2 hio.1;have h48 := (byte (hd Z).text 0 - 48).toNat_lt;refine x_region rfl <| mP rfl <| Wp rfl <| st_call (ags := [_]) rfl rfl T.ent29 rfl (gnext_spec hg hR hq) ?_;rintro _ w142 ⟨rfl, hR, c143⟩;replace HC := HC.trans c143 q4;replace hb4 := hb4.tr1 c143 q0;replace hb13 := hb13.tr1 c143 q0;replace hb141 := hb141.tr1 c143 q0;refine Wp rfl <| st_field (v := S _) T.fone51_1 rfl rfl <| Wp rfl <| st_sidx T.u9 rfl rfl (by decide) q0 <| Wp rfl <| st_subk rfl rfl (by exact u8_sub48 (byte (hd Z).text 0)) <| Wp rfl <| st_convk T.u5 T.u3 rfl (by exact wrap64_id q0 q0) <| fa T.fld40_0 rfl <| Wp rfl <| st_st (v := .int _ _) T.size3 rfl rfl rfl hb141 ?_
  intro w144 c145 hb146; simp only [setVs, setV] at hb146;clear hb141;replace HC := HC.then1 c145 ge_b5;replace hb4 := hb4.tr1 c145 ne_b2_b5;replace hb13 := hb13.tr1 c145 ne_b4_b5;replace hR := hR.tr c145 q2;refine en <| sr rfl <| mP rfl <| Wp rfl <| st_call (ags := [_]) rfl rfl T.ent29 rfl (gnext_spec (Z := Z.tail) hgY hR hq) ?_;rintro _ w147 ⟨rfl, hR, c148⟩;replace HC := HC.trans c148 q4;replace hb4 := hb4.tr1 c148 q0;replace hb13 := hb13.tr1 c148 q0;replace hb146 := hb146.tr1 c148 q0;refine Wp rfl <| st_field (v := S _) T.fone51_1 rfl rfl <| fa T.fld40_1 rfl <| Wp rfl <| st_st (v := S _) T.size9 rfl rfl rfl hb146 ?_;intro w149 c150 hb151; simp only [setVs, setV] at hb151;clear hb146;replace HC := HC.then1 c150 ge_b5;replace hb4 := hb4.tr1 c150 ne_b2_b5;replace hb13 := hb13.tr1 c150 ne_b4_b5;replace hR := hR.tr c150 q2;refine en <| x_seq <| sr rfl <| fa T.fld51_0 rfl <| lI T.one3 rfl (hb13.cell rfl) <| Wp rfl <| st_eql rfl rfl <| mB rfl <| w_split (d := 42) rfl (fun g152 => ?_) (fun g152 => ?_)
  ·try simp only [nm, ne_eq] at g152
   exfalso; rw [hk4] at *; simp_all
  try simp only [nm, ne_eq] at g152
  iterate 4 refine w_no 3 42 true ?_
  refine pF rfl rfl <| en <| x_cond (t := false) rfl (fun h2 => ?_) (fun h2 => ?_)
  · exact absurd h2 (by decide)
  refine x_skip <| then_n <| x_seq ?_;have hs2 : Suf Z.tail.tail Z := (Suf.tail hgY (by rw [hio.2]; decide)).trans (.tail hg (by rw [hk4]; decide))
  refine x_region rfl <| mP rfl <| w_plain rfl (st_callP (ags := [_]) rfl rfl T.ent114 rfl (gany_spec (Z := Z.tail.tail) hgY2 hR hq) ?_ ?_)
  ·rintro _ w153 ⟨hk1, rfl, c154⟩;replace HC := HC.trans c154 q4;refine then_p <| pp_panic ?_;exact ⟨_, _, by rw [redir_io hk4, any_er hk1]; rfl, hs2, rfl, HC⟩
  rintro _ w155 ⟨hk1, rfl, hR, c156⟩;replace HC := HC.trans c156 q4;replace hb4 := hb4.tr1 c156 q0;replace hb13 := hb13.tr1 c156 q0;replace hb151 := hb151.tr1 c156 q0;refine Wp rfl <| st_alloc T.zero51 ?_;intro b6 w157 e158 c159 hb160;have ge_b6 := gB e158 HC.size;have ne_b2_b6 := nF e158 hb4.ne_size;have ne_b4_b6 := nF e158 hb13.ne_size;have ne_b5_b6 := nF e158 hb151.ne_size;replace HC := HC.then c159;replace hb4 := hb4.tr0 c159;replace hb13 := hb13.tr0 c159;replace hb151 := hb151.tr0 c159;replace hR := hR.tr0 c159;clear e158;refine Wp rfl <| st_st (v := .agg ⟨[_, _, _, _, _]⟩) T.size51 rfl rfl rfl hb160 ?_;intro w161 c162 hb163; simp only [setVs, setV] at hb163;clear hb160;replace HC := HC.then1 c162 ge_b6;replace hb4 := hb4.tr1 c162 ne_b2_b6;replace hb13 := hb13.tr1 c162 ne_b4_b6;replace hb151 := hb151.tr1 c162 ne_b5_b6;replace hR := hR.tr c162 q2;refine en <| x_seq ?_;have hs3 : Suf Z.tail.tail.tail Z := (Suf.tail hgY2 (by rw [hk1]; decide)).trans hs2
  refine x_draw [(0, 0), (1, 0), (2, 0), (3, 0), (4, 0), (5, 0), (6, 0), (7, 1), (8, 0), (9, 1), (10, 0), (11, 2)] T.mixed rfl rfl rfl (fun W => W.heap[b2]? = w161.heap[b2]? ∧ W.heap[b4]? = w161.heap[b4]? ∧ W.heap[b6]? = w161.heap[b6]? ∧ True) ⟨rfl, rfl, rfl, trivial⟩ ?_
  have o166 := hb4;have o167 := hb13;have o168 := hb163;have c165 := Chg.drew w161;generalize World.drew w161 = w164 at c165 ⊢;replace HC := HC.then c165;replace hb4 := hb4.tr0 c165;replace hb13 := hb13.tr0 c165;replace hb151 := hb151.tr0 c165;replace hR := hR.tr0 c165;replace hb163 := hb163.tr0 c165;refine sq_q rfl (fun W hT => r_fieldAddr T.fld51_1 rfl) <| sq_q rfl (fun W hT => r_load1 (v := S _) T.one9 rfl (Blk.cell (show Blk W b6 _ _ from hT.2.2.1.trans o168) rfl)) <| sq_q rfl (fun W hT => r_fieldAddr T.fld51_3 rfl) <| sq_q rfl (fun W hT => r_load1 (v := S _) T.one9 rfl (Blk.cell (show Blk W b6 _ _ from hT.2.2.1.trans o168) rfl)) <| sq_q rfl (fun W hT => r_fieldAddr T.fld51_4 rfl) <| sq_q rfl (fun W hT => r_load1 (v := .bool _) T.one4 rfl (Blk.cell (show Blk W b6 _ _ from hT.2.2.1.trans o168) rfl)) <| sq_q rfl (fun W hT => r_fieldAddr T.fld40_2 rfl) <| sq_store1 rfl T.size9 (v := S _) rfl rfl rfl hb151 rfl (Nat.le_of_ble_eq_true rfl) q5 rfl ?_
  intro w169 c170 hb171; simp only [setVs, setV] at hb171;clear hb151;replace HC := HC.then1 c170 ge_b5;replace hb4 := hb4.tr1 c170 ne_b2_b5;replace hb13 := hb13.tr1 c170 ne_b4_b5;replace hR := hR.tr c170 q2;replace hb163 := hb163.tr1 c170 (Ne.symm ne_b5_b6);refine ⟨_, fun _ h => h, ⟨(Eq.trans hb4 o166.symm), (Eq.trans hb13 o167.symm), (Eq.trans hb163 o168.symm), trivial⟩, ?_⟩
  refine sq_q rfl (fun W hT => r_fieldAddr T.fld40_3 rfl) <| sq_store1 rfl T.size9 (v := S _) rfl rfl rfl hb171 rfl (Nat.le_of_ble_eq_true rfl) q5 rfl ?_
  intro w172 c173 hb174; simp only [setVs, setV] at hb174;clear hb171;replace HC := HC.then1 c173 ge_b5;replace hb4 := hb4.tr1 c173 ne_b2_b5;replace hb13 := hb13.tr1 c173 ne_b4_b5;replace hR := hR.tr c173 q2;replace hb163 := hb163.tr1 c173 (Ne.symm ne_b5_b6);refine ⟨_, fun _ h => h, ⟨(Eq.trans hb4 o166.symm), (Eq.trans hb13 o167.symm), (Eq.trans hb163 o168.symm), trivial⟩, ?_⟩
  refine sq_q rfl (fun W hT => r_fieldAddr T.fld40_4 rfl) <| sq_store2 rfl T.size4 (v := .bool _) rfl rfl rfl hb174 rfl (Nat.le_of_ble_eq_true rfl) q5 rfl ?_
  intro w175 c176 hb177; simp only [setVs, setV] at hb177;clear hb174;replace HC := HC.then1 c176 ge_b5;replace hb4 := hb4.tr1 c176 ne_b2_b5;replace hR := hR.tr c176 q2;clear o166;clear o167;clear o168;refine sq_nil <| then_n <| sr rfl <| Wp rfl <| st_loadA (vs := [_, _, _, _, _]) T.agg40 rfl (hb177.cells (n := 5) (vs := [_, _, _, _, _]) rfl) rfl <| Wp rfl <| st_st (v := .agg ⟨[_, _, _, _, _]⟩) T.size40 rfl rfl rfl hb4 ?_;intro w178 c179 hb180; simp only [setVs, setV] at hb180;clear hb4;replace HC := HC.then1 c179 ge_b2;replace hR := hR.tr c179 q2;refine aB rfl <| en <| x_ret <| pp_ret <| ret_many (vs := [.agg ⟨[_, _, _, _, _]⟩, .bool _]) rfl ⟨⟨_, _, rfl, run_loadVarA T.agg40 (hb180.cells (n := 5) rfl) rfl⟩, ⟨rfl, trivial⟩⟩ (Nat.le_of_ble_eq_true rfl) ?_;exact ⟨some ⟨((byte (hd Z).text 0 - 48).toNat : Int), (hd Z.tail).text, (hd Z.tail.tail).text, (hd Z.tail.tail).here, (hd Z.tail.tail).raw⟩, Z.tail.tail.tail, by rw [redir_io hk4, any_ok hk1]; rfl, hs3, (fun h => nomatch h), fun _ => by have := tail_len hg; have := tail_len hgY; have := tail_len hgY2; omega, rfl, hR, HC⟩
 try simp only [nm, ne_eq] at h1
 have hk2 : (hd Z).kind = 2 := by first | assumption | simp_all
 have hrd : redB (hd Z).text = true := by first | assumption | simp_all
 have hgY2 := hg.tail (by rw [hk2]; decide)
 have hlp := List.length_pos_iff.2 (redB_ne hrd);refine x_skip <| then_n <| sr rfl <| mP rfl <| Wp rfl <| st_call (ags := [_]) rfl rfl T.ent29 rfl (gnext_spec (Z := Z) hg hR hq) ?_;rintro _ w181 ⟨rfl, hR, c182⟩;replace HC := HC.trans c182 q4;replace hb4 := hb4.tr1 c182 q0;replace hb13 := hb13.tr1 c182 q0;replace hb141 := hb141.tr1 c182 q0;refine Wp rfl <| st_field (v := S _) T.fone51_1 rfl rfl <| fa T.fld40_1 rfl <| Wp rfl <| st_st (v := S _) T.size9 rfl rfl rfl hb141 ?_;intro w183 c184 hb185; simp only [setVs, setV] at hb185;clear hb141;replace HC := HC.then1 c184 ge_b5;replace hb4 := hb4.tr1 c184 ne_b2_b5;replace hb13 := hb13.tr1 c184 ne_b4_b5;replace hR := hR.tr c184 q2;refine en <| x_seq <| sr rfl <| fa T.fld51_0 rfl <| lI T.one3 rfl (hb13.cell rfl) <| Wp rfl <| st_eql rfl rfl <| mB rfl <| w_split (d := 42) rfl (fun g186 => ?_) (fun g186 => ?_)
 ·try simp only [nm, ne_eq] at g186
  refine w_yes 3 42 true <| st_fieldAddr T.fld40_1 rfl <| w_yes 3 42 true <| st_load1 (v := S _) T.one9 rfl (hb185.cell rfl) <| w_yes 3 42 true <| st_sidx T.u9 rfl rfl (by decide) q0 <| w_yes 3 42 true <| st_eql rfl rfl <| pT rfl rfl <| en <| x_cond rfl (fun h2 => ?_) (fun h2 => ?_)
  ·try simp only [nm, ne_eq] at h2
   have hgt : byte (hd Z).text 0 = 62 := u8_eq (by first | assumption | simp_all) rfl
   refine x_region rfl <| fa T.fld40_0 rfl <| Wp rfl <| st_st (v := .int _ _) T.size3 rfl rfl rfl hb185 ?_;intro w187 c188 hb189; simp only [setVs, setV] at hb189;clear hb185;replace HC := HC.then1 c188 ge_b5;replace hb4 := hb4.tr1 c188 ne_b2_b5;replace hb13 := hb13.tr1 c188 ne_b4_b5;replace hR := hR.tr c188 q2;refine en <| x_seq ?_;have hs2 : Suf Z.tail Z := .tail hg (by rw [hk2]; decide)
   refine x_region rfl <| mP rfl <| w_plain rfl (st_callP (ags := [_]) rfl rfl T.ent114 rfl (gany_spec (Z := Z.tail) hgY2 hR hq) ?_ ?_)
   ·rintro _ w190 ⟨hk1, rfl, c191⟩;replace HC := HC.trans c191 q4;refine then_p <| pp_panic ?_;exact ⟨_, _, by rw [redir_op hk2 hrd, any_er hk1]; rfl, hs2, rfl, HC⟩
   rintro _ w192 ⟨hk1, rfl, hR, c193⟩;replace HC := HC.trans c193 q4;replace hb4 := hb4.tr1 c193 q0;replace hb13 := hb13.tr1 c193 q0;replace hb189 := hb189.tr1 c193 q0;refine Wp rfl <| st_alloc T.zero51 ?_;intro b6 w194 e195 c196 hb197;have ge_b6 := gB e195 HC.size;have ne_b2_b6 := nF e195 hb4.ne_size;have ne_b4_b6 := nF e195 hb13.ne_size;have ne_b5_b6 := nF e195 hb189.ne_size;replace HC := HC.then c196;replace hb4 := hb4.tr0 c196;replace hb13 := hb13.tr0 c196;replace hb189 := hb189.tr0 c196;replace hR := hR.tr0 c196;clear e195;refine Wp rfl <| st_st (v := .agg ⟨[_, _, _, _, _]⟩) T.size51 rfl rfl rfl hb197 ?_;intro w198 c199 hb200; simp only [setVs, setV] at hb200;clear hb197;replace HC := HC.then1 c199 ge_b6;replace hb4 := hb4.tr1 c199 ne_b2_b6;replace hb13 := hb13.tr1 c199 ne_b4_b6;replace hb189 := hb189.tr1 c199 ne_b5_b6;replace hR := hR.tr c199 q2;refine en <| x_seq ?_;have hs3 : Suf Z.tail.tail Z := (Suf.tail hgY2 (by rw [hk1]; decide)).trans hs2
   refine x_draw [(0, 0), (1, 0), (2, 0), (3, 0), (4, 0), (5, 0), (6, 0), (7, 1), (8, 0), (9, 1), (10, 0), (11, 2)] T.mixed rfl rfl rfl (fun W => W.heap[b2]? = w198.heap[b2]? ∧ W.heap[b4]? = w198.heap[b4]? ∧ W.heap[b6]? = w198.heap[b6]? ∧ True) ⟨rfl, rfl, rfl, trivial⟩ ?_
   have o203 := hb4;have o204 := hb13;have o205 := hb200;have c202 := Chg.drew w198;generalize World.drew w198 = w201 at c202 ⊢;replace HC := HC.then c202;replace hb4 := hb4.tr0 c202;replace hb13 := hb13.tr0 c202;replace hb189 := hb189.tr0 c202;replace hR := hR.tr0 c202;replace hb200 := hb200.tr0 c202;refine sq_q rfl (fun W hT => r_fieldAddr T.fld51_1 rfl) <| sq_q rfl (fun W hT => r_load1 (v := S _) T.one9 rfl (Blk.cell (show Blk W b6 _ _ from hT.2.2.1.trans o205) rfl)) <| sq_q rfl (fun W hT => r_fieldAddr T.fld51_3 rfl) <| sq_q rfl (fun W hT => r_load1 (v := S _) T.one9 rfl (Blk.cell (show Blk W b6 _ _ from hT.2.2.1.trans o205) rfl)) <| sq_q rfl (fun W hT => r_fieldAddr T.fld51_4 rfl) <| sq_q rfl (fun W hT => r_load1 (v := .bool _) T.one4 rfl (Blk.cell (show Blk W b6 _ _ from hT.2.2.1.trans o205) rfl)) <| sq_q rfl (fun W hT => r_fieldAddr T.fld40_2 rfl) <| sq_store1 rfl T.size9 (v := S _) rfl rfl rfl hb189 rfl (Nat.le_of_ble_eq_true rfl) q5 rfl ?_
   intro w206 c207 hb208; simp only [setVs, setV] at hb208;clear hb189;replace HC := HC.then1 c207 ge_b5;replace hb4 := hb4.tr1 c207 ne_b2_b5;replace hb13 := hb13.tr1 c207 ne_b4_b5;replace hR := hR.tr c207 q2;replace hb200 := hb200.tr1 c207 (Ne.symm ne_b5_b6);refine ⟨_, fun _ h => h, ⟨(Eq.trans hb4 o203.symm), (Eq.trans hb13 o204.symm), (Eq.trans hb200 o205.symm), trivial⟩, ?_⟩
   refine sq_q rfl (fun W hT => r_fieldAddr T.fld40_3 rfl) <| sq_store1 rfl T.size9 (v := S _) rfl rfl rfl hb208 rfl (Nat.le_of_ble_eq_true rfl) q5 rfl ?_
   intro w209 c210 hb211; simp only [setVs, setV] at hb211;clear hb208;replace HC := HC.then1 c210 ge_b5;replace hb4 := hb4.tr1 c210 ne_b2_b5;replace hb13 := hb13.tr1 c210 ne_b4_b5;replace hR := hR.tr c210 q2;replace hb200 := hb200.tr1 c210 (Ne.symm ne_b5_b6);refine ⟨_, fun _ h => h, ⟨(Eq.trans hb4 o203.symm), (Eq.trans hb13 o204.symm), (Eq.trans hb200 o205.symm), trivial⟩, ?_⟩
   refine sq_q rfl (fun W hT => r_fieldAddr T.fld40_4 rfl) <| sq_store2 rfl T.size4 (v := .bool _) rfl rfl rfl hb211 rfl (Nat.le_of_ble_eq_true rfl) q5 rfl ?_
   intro w212 c213 hb214; simp only [setVs, setV] at hb214;clear hb211;replace HC := HC.then1 c213 ge_b5;replace hb4 := hb4.tr1 c213 ne_b2_b5;replace hR := hR.tr c213 q2;clear o203;clear o204;clear o205;refine sq_nil <| then_n <| sr rfl <| Wp rfl <| st_loadA (vs := [_, _, _, _, _]) T.agg40 rfl (hb214.cells (n := 5) (vs := [_, _, _, _, _]) rfl) rfl <| Wp rfl <| st_st (v := .agg ⟨[_, _, _, _, _]⟩) T.size40 rfl rfl rfl hb4 ?_;intro w215 c216 hb217; simp only [setVs, setV] at hb217;clear hb4;replace HC := HC.then1 c216 ge_b2;replace hR := hR.tr c216 q2;refine aB rfl <| en <| x_ret <| pp_ret <| ret_many (vs := [.agg ⟨[_, _, _, _, _]⟩, .bool _]) rfl ⟨⟨_, _, rfl, run_loadVarA T.agg40 (hb217.cells (n := 5) rfl) rfl⟩, ⟨rfl, trivial⟩⟩ (Nat.le_of_ble_eq_true rfl) ?_;exact ⟨some ⟨if byte (hd Z).text 0 = 62 then 1 else 0, (hd Z).text, (hd Z.tail).text, (hd Z.tail).here, (hd Z.tail).raw⟩, Z.tail.tail, by rw [redir_op hk2 hrd, any_ok hk1]; rfl, hs3, (fun h => nomatch h), fun _ => by have := tail_len hg; have := tail_len hgY2; omega, by rw [if_pos hgt]; rfl, hR, HC⟩
  try simp only [nm, ne_eq] at h2
  have hgt : ¬ byte (hd Z).text 0 = 62 := fun e => by have h8 : ((byte (hd Z).text 0).toNat : Int) = 62 := (by rw [e]; rfl); first | omega | simp_all
  refine x_skip <| then_n <| x_seq ?_;have hs2 : Suf Z.tail Z := .tail hg (by rw [hk2]; decide)
  refine x_region rfl <| mP rfl <| w_plain rfl (st_callP (ags := [_]) rfl rfl T.ent114 rfl (gany_spec (Z := Z.tail) hgY2 hR hq) ?_ ?_)
  ·rintro _ w218 ⟨hk1, rfl, c219⟩;replace HC := HC.trans c219 q4;refine then_p <| pp_panic ?_;exact ⟨_, _, by rw [redir_op hk2 hrd, any_er hk1]; rfl, hs2, rfl, HC⟩
  rintro _ w220 ⟨hk1, rfl, hR, c221⟩;replace HC := HC.trans c221 q4;replace hb4 := hb4.tr1 c221 q0;replace hb13 := hb13.tr1 c221 q0;replace hb185 := hb185.tr1 c221 q0;refine Wp rfl <| st_alloc T.zero51 ?_;intro b6 w222 e223 c224 hb225;have ge_b6 := gB e223 HC.size;have ne_b2_b6 := nF e223 hb4.ne_size;have ne_b4_b6 := nF e223 hb13.ne_size;have ne_b5_b6 := nF e223 hb185.ne_size;replace HC := HC.then c224;replace hb4 := hb4.tr0 c224;replace hb13 := hb13.tr0 c224;replace hb185 := hb185.tr0 c224;replace hR := hR.tr0 c224;clear e223;refine Wp rfl <| st_st (v := .agg ⟨[_, _, _, _, _]⟩) T.size51 rfl rfl rfl hb225 ?_;intro w226 c227 hb228; simp only [setVs, setV] at hb228;clear hb225;replace HC := HC.then1 c227 ge_b6;replace hb4 := hb4.tr1 c227 ne_b2_b6;replace hb13 := hb13.tr1 c227 ne_b4_b6;replace hb185 := hb185.tr1 c227 ne_b5_b6;replace hR := hR.tr c227 q2;refine en <| x_seq ?_;have hs3 : Suf Z.tail.tail Z := (Suf.tail hgY2 (by rw [hk1]; decide)).trans hs2
  refine x_draw [(0, 0), (1, 0), (2, 0), (3, 0), (4, 0), (5, 0), (6, 0), (7, 1), (8, 0), (9, 1), (10, 0), (11, 2)] T.mixed rfl rfl rfl (fun W => W.heap[b2]? = w226.heap[b2]? ∧ W.heap[b4]? = w226.heap[b4]? ∧ W.heap[b6]? = w226.heap[b6]? ∧ True) ⟨rfl, rfl, rfl, trivial⟩ ?_
  have o231 := hb4;have o232 := hb13;have o233 := hb228;have c230 := Chg.drew w226;generalize World.drew w226 = w229 at c230 ⊢;replace HC := HC.then c230;replace hb4 := hb4.tr0 c230;replace hb13 := hb13.tr0 c230;replace hb185 := hb185.tr0 c230;replace hR := hR.tr0 c230;replace hb228 := hb228.tr0 c230;refine sq_q rfl (fun W hT => r_fieldAddr T.fld51_1 rfl) <| sq_q rfl (fun W hT => r_load1 (v := S _) T.one9 rfl (Blk.cell (show Blk W b6 _ _ from hT.2.2.1.trans o233) rfl)) <| sq_q rfl (fun W hT => r_fieldAddr T.fld51_3 rfl) <| sq_q rfl (fun W hT => r_load1 (v := S _) T.one9 rfl (Blk.cell (show Blk W b6 _ _ from hT.2.2.1.trans o233) rfl)) <| sq_q rfl (fun W hT => r_fieldAddr T.fld51_4 rfl) <| sq_q rfl (fun W hT => r_load1 (v := .bool _) T.one4 rfl (Blk.cell (show Blk W b6 _ _ from hT.2.2.1.trans o233) rfl)) <| sq_q rfl (fun W hT => r_fieldAddr T.fld40_2 rfl) <| sq_store1 rfl T.size9 (v := S _) rfl rfl rfl hb185 rfl (Nat.le_of_ble_eq_true rfl) q5 rfl ?_
  intro w234 c235 hb236; simp only [setVs, setV] at hb236;clear hb185;replace HC := HC.then1 c235 ge_b5;replace hb4 := hb4.tr1 c235 ne_b2_b5;replace hb13 := hb13.tr1 c235 ne_b4_b5;replace hR := hR.tr c235 q2;replace hb228 := hb228.tr1 c235 (Ne.symm ne_b5_b6);refine ⟨_, fun _ h => h, ⟨(Eq.trans hb4 o231.symm), (Eq.trans hb13 o232.symm), (Eq.trans hb228 o233.symm), trivial⟩, ?_⟩
  refine sq_q rfl (fun W hT => r_fieldAddr T.fld40_3 rfl) <| sq_store1 rfl T.size9 (v := S _) rfl rfl rfl hb236 rfl (Nat.le_of_ble_eq_true rfl) q5 rfl ?_
  intro w237 c238 hb239; simp only [setVs, setV] at hb239;clear hb236;replace HC := HC.then1 c238 ge_b5;replace hb4 := hb4.tr1 c238 ne_b2_b5;replace hb13 := hb13.tr1 c238 ne_b4_b5;replace hR := hR.tr c238 q2;replace hb228 := hb228.tr1 c238 (Ne.symm ne_b5_b6);refine ⟨_, fun _ h => h, ⟨(Eq.trans hb4 o231.symm), (Eq.trans hb13 o232.symm), (Eq.trans hb228 o233.symm), trivial⟩, ?_⟩
  refine sq_q rfl (fun W hT => r_fieldAddr T.fld40_4 rfl) <| sq_store2 rfl T.size4 (v := .bool _) rfl rfl rfl hb239 rfl (Nat.le_of_ble_eq_true rfl) q5 rfl ?_
  intro w240 c241 hb242; simp only [setVs, setV] at hb242;clear hb239;replace HC := HC.then1 c241 ge_b5;replace hb4 := hb4.tr1 c241 ne_b2_b5;replace hR := hR.tr c241 q2;clear o231;clear o232;clear o233;refine sq_nil <| then_n <| sr rfl <| Wp rfl <| st_loadA (vs := [_, _, _, _, _]) T.agg40 rfl (hb242.cells (n := 5) (vs := [_, _, _, _, _]) rfl) rfl <| Wp rfl <| st_st (v := .agg ⟨[_, _, _, _, _]⟩) T.size40 rfl rfl rfl hb4 ?_;intro w243 c244 hb245; simp only [setVs, setV] at hb245;clear hb4;replace HC := HC.then1 c244 ge_b2;replace hR := hR.tr c244 q2;refine aB rfl <| en <| x_ret <| pp_ret <| ret_many (vs := [.agg ⟨[_, _, _, _, _]⟩, .bool _]) rfl ⟨⟨_, _, rfl, run_loadVarA T.agg40 (hb245.cells (n := 5) rfl) rfl⟩, ⟨rfl, trivial⟩⟩ (Nat.le_of_ble_eq_true rfl) ?_;exact ⟨some ⟨if byte (hd Z).text 0 = 62 then 1 else 0, (hd Z).text, (hd Z.tail).text, (hd Z.tail).here, (hd Z.tail).raw⟩, Z.tail.tail, by rw [redir_op hk2 hrd, any_ok hk1]; rfl, hs3, (fun h => nomatch h), fun _ => by have := tail_len hg; have := tail_len hgY2; omega, by rw [if_neg hgt]; rfl, hR, HC⟩
 try simp only [nm, ne_eq] at g186
 exfalso; simp_all
theorem gassign_spec (x : Bytes) (w : World) (hx : x.length < 4294967281) (hmx : MaxT w) : CallR Tryz.prog 107 #[S x] w fun v w' => v = .tuple ⟨[.agg ⟨pairC (assignG x).1⟩, .bool (assignG x).2]⟩ ∧ Chg [] w w' := by
 refine callR_of_wp (args := [_]) Tryz.func107 rfl (Nat.le_of_ble_eq_true rfl) ?_;have HC : Chg [] w w := .refl _;have hm1 := hmx.lt;refine sr rfl <| Wp rfl <| st_alloc T.zero56 ?_;intro b2 w1 e2 c3 hb4;have ge_b2 := gB e2 HC.size;replace HC := HC.then c3;replace hmx := hmx.tr0 c3;clear e2;refine aB rfl <| en <| sr rfl <| mS rfl <| Wp rfl <| st_call (ags := [_, _]) rfl rfl T.ent38 rfl (Cut_spec x [61] _ hx hmx) ?_;rintro _ w5 ⟨rfl, c6⟩;replace HC := HC.then c6;replace hb4 := hb4.tr0 c6;refine mv (v := .tuple ⟨[_, _, _]⟩) rfl <| Wp rfl <| st_extract (vs := [_, _, _]) (v := S _) rfl rfl <| Wp rfl <| st_extract (vs := [_, _, _]) (v := S _) rfl rfl <| Wp rfl <| st_extract (vs := [_, _, _]) (v := .bool _) rfl rfl <| aS rfl <| aS rfl <| aB rfl <| en <| sr rfl <| mS rfl <| mS rfl <| Wp rfl <| st_bld (ps := [(0, .tmp 13), (1, .tmp 14)]) (vs := [S _, S _]) T.bld56 rfl <| mB rfl <| mB rfl <| w_split (d := 17) rfl (fun g7 => ?_) (fun g7 => ?_)
 ·try simp only [nm, ne_eq] at g7
  refine w_yes 4 17 true <| st_move (v := S _) rfl <| w_yes 4 17 true <| st_call (ags := [_]) rfl rfl T.ent80 rfl (CName_spec (Lib.cut x [61]).1 _) ?_;rintro _ w8 ⟨rfl, c9⟩;replace HC := HC.then c9;replace hb4 := hb4.tr0 c9;refine pT rfl rfl <| Wp rfl <| st_st (v := .agg ⟨[_, _]⟩) T.size56 rfl rfl rfl hb4 ?_;intro w10 c11 hb12; simp only [setVs, setV] at hb12;clear hb4;replace HC := HC.then1 c11 ge_b2;refine aB rfl <| en <| x_ret <| ret_many (vs := [.agg ⟨[_, _]⟩, .bool _]) rfl ⟨⟨_, _, rfl, run_loadVarA T.agg56 (hb12.cells (n := 2) rfl) rfl⟩, ⟨rfl, trivial⟩⟩ (Nat.le_of_ble_eq_true rfl) <| ⟨?_, HC⟩
  unfold assignG pairC
  first | (rw [show (Lib.cut x [61]).2.2 = true by assumption]; rfl) | (rw [show (Lib.cut x [61]).2.2 = false by first | assumption | simp_all]; rfl)
 try simp only [nm, ne_eq] at g7
 refine w_no 4 17 true <| w_no 4 17 true <| pF rfl rfl <| Wp rfl <| st_st (v := .agg ⟨[_, _]⟩) T.size56 rfl rfl rfl hb4 ?_;intro w13 c14 hb15; simp only [setVs, setV] at hb15;clear hb4;replace HC := HC.then1 c14 ge_b2;refine aB rfl <| en <| x_ret <| ret_many (vs := [.agg ⟨[_, _]⟩, .bool _]) rfl ⟨⟨_, _, rfl, run_loadVarA T.agg56 (hb15.cells (n := 2) rfl) rfl⟩, ⟨rfl, trivial⟩⟩ (Nat.le_of_ble_eq_true rfl) <| ⟨?_, HC⟩
 unfold assignG pairC
 first | (rw [show (Lib.cut x [61]).2.2 = true by assumption]; rfl) | (rw [show (Lib.cut x [61]).2.2 = false by first | assumption | simp_all]; rfl)
open Go Go.Proofs Go.RowKit
theorem own_ne {α β : Type} {s1 s2 : Nat} {f1 : α → List Value} {f2 : β → List Value} {p1 l1 o1 p2 l2 o2} {e1 e2 : TypeId} {w : World} {D D' : Nat → Prop} {A B : Option Addr} {cap capw : Nat} {xs : List α} {ys : List β}
    (ho : Own (Enc.flat s1 f1 p1 l1 o1) e1 w D A cap xs) (hw : Own (Enc.flat s2 f2 p2 l2 o2) e2 w D' B capw ys) (hne : e1 ≠ e2) : ∀ k, k ∈ ob A → k ∉ ob B := by
  intro k hk
  cases A with
  | none => cases hk
  | some a =>
    obtain ⟨g, rest, rfl, hb, _⟩ := Own.raw (h := ho);simp only [ob, List.mem_singleton] at hk; subst hk;exact hw.ne_blk hb hne
theorem simple_some {n : Nat} {a : List (Bytes × Bytes)} {ws : List Bytes} {rs : List Rdr} {Y R : List Tok} {x : Rdr} (h : redirG Y = .ok (some x) R) : simpleG (n + 1) a ws rs Y = simpleG n a ws (rs ++ [x]) R := by
  rw [simpleG, h]; rfl
theorem simple_end {n : Nat} {a : List (Bytes × Bytes)} {ws : List Bytes} {rs : List Rdr} {Y R : List Tok} (h : redirG Y = .ok none R) (hk : (hd Y).kind ≠ 1) : simpleG (n + 1) a ws rs Y = if rs.length + a.length + ws.length = 0 then .er Y 101 else .ok (.mk 1 [] false false a ws rs [] []) Y := by
  rw [simpleG, h]; simp only [Rs.bind, if_pos hk]
theorem simple_asg {n : Nat} {a : List (Bytes × Bytes)} {ws : List Bytes} {rs : List Rdr} {Y R : List Tok} (h : redirG Y = .ok none R) (hk : (hd Y).kind = 1) (ha : (assignG (hd Y).text).2 = true ∧ ws = []) : simpleG (n + 1) a ws rs Y = simpleG n (a ++ [(assignG (hd Y).text).1]) ws rs Y.tail := by
  rw [simpleG, h]; simp only [Rs.bind, if_neg (fun e : (hd Y).kind ≠ 1 => e hk), if_pos ha]
theorem simple_word {n : Nat} {a : List (Bytes × Bytes)} {ws : List Bytes} {rs : List Rdr} {Y R : List Tok} (h : redirG Y = .ok none R) (hk : (hd Y).kind = 1) (ha : ¬ ((assignG (hd Y).text).2 = true ∧ ws = [])) : simpleG (n + 1) a ws rs Y = simpleG n a (ws ++ [(hd Y).text]) rs Y.tail := by
  rw [simpleG, h]; simp only [Rs.bind, if_neg (fun e : (hd Y).kind ≠ 1 => e hk), if_neg ha]
theorem simple_er {n : Nat} {a : List (Bytes × Bytes)} {ws : List Bytes} {rs : List Rdr} {Y R : List Tok} {e : Int} (h : redirG Y = .er R e) : simpleG (n + 1) a ws rs Y = .er R e := by
  rw [simpleG, h]; rfl
theorem gsimple_spec {Z : List Tok} {rb tb : Nat} {d : Int} {w : World} (hg : GT Z) (hz : GB Z) (hR : RdAt w rb tb d Z) (hq : QOk rb tb) (hmx : MaxT w) (ht : Tab w) : CallP Tryz.prog 82 #[.pointer (some ⟨rb, 0, none⟩)] w (fun v w' => OkC (simpleG Z.length [] [] [] Z) Z rb tb d w w' v) (fun v w' => ErT (simpleG Z.length [] [] [] Z) Z rb w w' v) := by
 refine callP_of_wp (args := [_]) Tryz.func82 rfl (Nat.le_of_ble_eq_true rfl) ?_;have HC : Chg [rb] w w := .refl _;have hrl := hR.lt hg;have hq9 := hq;obtain ⟨hq1, hq2, hq3⟩ := hq9;have ht1 := ht.lt;have hm1 := hmx.lt;have hzl := hz.1;refine sr rfl <| Wp rfl <| st_alloc T.zero30 ?_;intro b2 w1 e2 c3 hb4;have ge_b2 := gB e2 HC.size;replace HC := HC.then c3;replace hR := hR.tr0 c3;replace ht := ht.tr0 c3;replace hmx := hmx.tr0 c3;clear e2;refine en <| sr rfl <| Wp rfl <| st_bld (ps := [(0, .const (.int .i64 1))]) (vs := [.int _ _, S _, .bool _, .bool _, .slice _ _ _, .slice _ _ _, .slice _ _ _, .slice _ _ _, .slice _ _ _]) T.bld30 rfl <| Wp rfl <| st_alloc T.zero30 ?_;intro b3 w5 e6 c7 hb8;have ge_b3 := gB e6 HC.size;have ne_b2_b3 := nE e6 hb4.ne_size;replace HC := HC.then c7;replace hR := hR.tr0 c7;replace ht := ht.tr0 c7;replace hmx := hmx.tr0 c7;replace hb4 := hb4.tr0 c7;clear e6;refine Wp rfl <| st_st (v := .agg ⟨[_, _, _, _, _, _, _, _, _]⟩) T.size30 rfl rfl rfl hb8 ?_;intro w9 c10 hb11; simp only [setVs, setV] at hb11;clear hb8;replace HC := HC.then1 c10 ge_b3;replace hR := hR.tr c10 q2;replace ht := ht.tr c10 q1;replace hmx := hmx.tr c10 q1;replace hb4 := hb4.tr1 c10 ne_b2_b3;refine en <| x_seq <| x_block ?_;have oA : Own pairE2 56 w9 (fun k => w.heap.size ≤ k ∧ k ≠ b2 ∧ k ≠ b3) none 0 [] := Own.nil
 have oW : Own sE 9 w9 (fun k => w.heap.size ≤ k ∧ k ≠ b2 ∧ k ≠ b3) none 0 [] := Own.nil
 have oR : Own rdrE 40 w9 (fun k => w.heap.size ≤ k ∧ k ≠ b2 ∧ k ≠ b3) none 0 [] := Own.nil
 refine x_loop (ι := Nat × List (Bytes × Bytes) × List Bytes × List Rdr × List Tok × Option Addr × Nat × Option Addr × Nat × Option Addr × Nat) [4, 5, 6, 7, 8, 10, 11, 12, 13, 14, 15, 16, 17, 18, 19, 20, 21, 22, 23, 24, 25, 26, 27, 28, 29, 30, 31, 32, 33, 34, 35, 36, 37, 38, 39, 40, 41, 42, 43, 44, 45, 46, 47, 48, 49, 50, 51, 52] (fun ⟨n, a, ws, rs, Y, A4, c4, A5, c5, A6, c6⟩ => []) (fun ⟨n, a, ws, rs, Y, A4, c4, A5, c5, A6, c6⟩ W => (simpleG Z.length [] [] [] Z = simpleG n a ws rs Y ∧ Suf Y Z ∧ Y.length ≤ n ∧ a.length + ws.length + rs.length + Y.length ≤ Z.length) ∧ (Chg [rb] w W) ∧ (RdAt W rb tb d Y) ∧ (Tab W) ∧ (MaxT W) ∧ (Blk W b2 [.int .i64 0, S [], .bool false, .bool false, .slice none 0 0, .slice none 0 0, .slice none 0 0, .slice none 0 0, .slice none 0 0] 30) ∧ (Own pairE2 56 W (fun k => w.heap.size ≤ k ∧ k ≠ b2 ∧ k ≠ b3) A4 c4 a) ∧ (Own sE 9 W (fun k => w.heap.size ≤ k ∧ k ≠ b2 ∧ k ≠ b3) A5 c5 ws) ∧ (Own rdrE 40 W (fun k => w.heap.size ≤ k ∧ k ≠ b2 ∧ k ≠ b3) A6 c6 rs) ∧ (Blk W b3 [.int .i64 1, S [], .bool false, .bool false, .slice A4 a.length c4, .slice A5 ws.length c5, .slice A6 rs.length c6, .slice none 0 0, .slice none 0 0] 30)) (fun ⟨n, a, ws, rs, Y, A4, c4, A5, c5, A6, c6⟩ => Y.length) (Z.length, [], [], [], Z, none, 0, none, 0, none, 0) ?_ ?_ ?_
 · exact trivial
 ·refine ⟨?_, HC, hR, ht, hmx, hb4, oA, oW, oR, hb11⟩;exact ⟨rfl, .refl hg, Nat.le_refl _, by simp⟩
 intro ⟨n, a, ws, rs, Y, A4, c4, A5, c5, A6, c6⟩ G13 w12 ⟨⟨hse, hsY, hn, hll⟩, HC, hR, ht, hmx, hb4, oA, oW, oR, hb3⟩
 change wp _ _ _ _ _ (upds (over _ _ G13) []) _ _
 have hgY := hsY.good;have hzY := hsY.gb hz;have hpY := hgY.pos;obtain ⟨n, rfl⟩ : ∃ m, n = m + 1 := ⟨n - 1, by omega⟩
 refine x_block <| x_seq <| sr rfl <| mP rfl <| w_plain rfl (st_callP (ags := [_]) rfl rfl T.ent103 rfl (gredir_spec hgY hR hq ht) ?_ ?_)
 ·rintro _ w14 ⟨R9, e9, he9, hs9, rfl, c15⟩;replace HC := HC.trans c15 q4;refine then_p <| then_p <| block_p <| then_p <| block_p <| then_p <| pp_panic ?_;exact ⟨R9, e9, by rw [hse]; exact simple_er he9, hs9.trans hsY, rfl, HC⟩
 rintro _ w16 ⟨x, R, hre, hsR, hxn, hxl, rfl, hR, c17⟩;replace HC := HC.trans c17 q4;replace ht := ht.tr c17 q1;replace hmx := hmx.tr c17 q1;replace hb4 := hb4.tr1 c17 q0;replace oA := oA.trF flat_flat c17 (by intro k hk hx; have hD := oA.inD k hk; simp only [List.mem_cons, List.mem_nil_iff, or_false] at hx; first | omega)
 replace oW := oW.trF flat_flat c17 (by intro k hk hx; have hD := oW.inD k hk; simp only [List.mem_cons, List.mem_nil_iff, or_false] at hx; first | omega)
 replace oR := oR.trF flat_flat c17 (by intro k hk hx; have hD := oR.inD k hk; simp only [List.mem_cons, List.mem_nil_iff, or_false] at hx; first | omega)
 replace hb3 := hb3.tr1 c17 q0;refine mv (v := .tuple ⟨[_, _]⟩) rfl <| Wp rfl <| st_extract (vs := [_, _]) (v := .agg ⟨[.int _ _, S _, S _, S _, .bool _]⟩) rfl rfl <| Wp rfl <| st_extract (vs := [_, _]) (v := .bool _) rfl rfl <| Wp rfl <| st_alloc T.zero40 ?_;intro b4 w18 e19 c20 hb21;have ge_b4 := gB e19 HC.size;have ne_b2_b4 := nE e19 hb4.ne_size;have ne_b3_b4 := nE e19 hb3.ne_size;have na_Ab4 : b4 ∉ ob A4 := oA.fresh (by rw [e19]; exact Nat.le_refl _)
 have na_Wb4 : b4 ∉ ob A5 := oW.fresh (by rw [e19]; exact Nat.le_refl _)
 have na_Rb4 : b4 ∉ ob A6 := oR.fresh (by rw [e19]; exact Nat.le_refl _)
 replace HC := HC.then c20;replace ht := ht.tr0 c20;replace hmx := hmx.tr0 c20;replace hb4 := hb4.tr0 c20;replace oA := oA.tr0 c20;replace oW := oW.tr0 c20;replace oR := oR.tr0 c20;replace hb3 := hb3.tr0 c20;replace hR := hR.tr0 c20;clear e19;refine Wp rfl <| st_st (v := .agg ⟨[_, _, _, _, _]⟩) T.size40 rfl rfl rfl hb21 ?_;intro w22 c23 hb24; simp only [setVs, setV] at hb24;clear hb21;replace HC := HC.then1 c23 ge_b4;replace ht := ht.tr c23 q1;replace hmx := hmx.tr c23 q1;replace hb4 := hb4.tr1 c23 ne_b2_b4;replace oA := oA.trF flat_flat c23 (by intro k hk hx; have hD := oA.inD k hk; simp only [List.mem_cons, List.mem_nil_iff, or_false] at hx; first | omega | (obtain rfl := hx; exact na_Ab4 hk))
 replace oW := oW.trF flat_flat c23 (by intro k hk hx; have hD := oW.inD k hk; simp only [List.mem_cons, List.mem_nil_iff, or_false] at hx; first | omega | (obtain rfl := hx; exact na_Wb4 hk))
 replace oR := oR.trF flat_flat c23 (by intro k hk hx; have hD := oR.inD k hk; simp only [List.mem_cons, List.mem_nil_iff, or_false] at hx; first | omega | (obtain rfl := hx; exact na_Rb4 hk))
 replace hb3 := hb3.tr1 c23 ne_b3_b4;replace hR := hR.tr c23 q2;refine aB rfl <| en <| sr rfl <| mB rfl <| en <| x_cond rfl (fun h0 => ?_) (fun h0 => ?_)
 ·try simp only [nm, ne_eq] at h0
  obtain ⟨r, rfl⟩ := Option.isSome_iff_exists.1 (show x.isSome = true by first | assumption | simp_all)
  have hxl2 := hxl (by simp)
  have hlR := hsR.len;refine sr rfl <| fa T.fld30_6 rfl <| lL T.one26 rfl (hb3.cell rfl) <| Wp rfl <| st_loadA (vs := [_, _, _, _, _]) T.agg40 rfl (hb24.cells (n := 5) (vs := [_, _, _, _, _]) rfl) rfl <| Wp rfl <| st_lit (ps := [(0, .tmp 18)]) (vs := [.int _ _, S _, S _, S _, .bool _]) T.lit26 (by decide) rfl q6 rfl ?_
  intro b25 w26 e27 c28 hb29;have ge_b25 := gB e27 HC.size;have na_Ab25 : b25 ∉ ob A4 := oA.fresh (by rw [e27]; exact Nat.le_refl _)
  have na_Wb25 : b25 ∉ ob A5 := oW.fresh (by rw [e27]; exact Nat.le_refl _)
  have na_Rb25 : b25 ∉ ob A6 := oR.fresh (by rw [e27]; exact Nat.le_refl _)
  replace HC := HC.then c28;replace ht := ht.tr0 c28;replace hmx := hmx.tr0 c28;replace hb4 := hb4.tr0 c28;replace oA := oA.tr0 c28;replace oW := oW.tr0 c28;replace oR := oR.tr0 c28;replace hb3 := hb3.tr0 c28;replace hR := hR.tr0 c28;clear e27;have hszA := HC.size;refine Wp rfl <| st_append2 (c := rdrE) (D2 := fun _ => False) (xs := rs) (ys := [r]) T.slice26 rfl rfl oR rfl rfl (one_elem rfl (hb29.cells (n := 5) rfl)) (fun _ _ h => h.elim) (fun k hk => (by have h7 := HC.size; have h8 := hb4.lt; have h9 := hb3.lt; exact ⟨by omega, by omega, by omega⟩)) q7 q7 ?_
  intro A30 cap31 w32 ho33 c34 hg35;replace HC := HC.trans c34 (fun k hk => .inr ((oR.inD k hk).1))
  replace ht := ht.tr c34 (fun hx => by first | (have h1 := (oR.inD _ hx).1; omega) | (have h1 : w.heap.size ≤ 0 := oR.inD _ hx; omega))
  replace hmx := hmx.tr c34 (by intro hx; have hD := oR.inD _ hx; omega)
  replace hb4 := hb4.tr c34 (fun hx => by first | (have h1 := oR.inD _ hx; omega) | exact na_Rb2 hx | exact hav _ hx (by simp))
  replace oA := oA.trF flat_flat c34 (fun k hk hx => own_ne oA oR (by decide) k hk hx)
  replace oW := oW.trF flat_flat c34 (fun k hk hx => own_ne oW oR (by decide) k hk hx)
  replace hb3 := hb3.tr c34 (fun hx => by first | (have h1 := oR.inD _ hx; omega) | exact na_Rb3 hx | exact hav _ hx (by simp))
  replace hR := hR.tr c34 (by intro k hk; have hD := oR.inD k hk; omega)
  refine fa T.fld30_6 rfl <| Wp rfl <| st_st (v := .slice _ _ _) T.size26 rfl rfl rfl hb3 ?_;intro w36 c37 hb38; simp only [setVs, setV] at hb38;clear hb3;replace HC := HC.then1 c37 ge_b3;replace ht := ht.tr c37 q1;replace hmx := hmx.tr c37 q1;replace hb4 := hb4.tr1 c37 ne_b2_b3;replace oA := oA.trF flat_flat c37 (by intro k hk hx; have hD := oA.inD k hk; simp only [List.mem_cons, List.mem_nil_iff, or_false] at hx; first | omega | (obtain rfl := hx; exact na_Ab3 hk))
  replace oW := oW.trF flat_flat c37 (by intro k hk hx; have hD := oW.inD k hk; simp only [List.mem_cons, List.mem_nil_iff, or_false] at hx; first | omega | (obtain rfl := hx; exact na_Wb3 hk))
  replace ho33 := ho33.trF flat_flat c37 (by intro k hk hx; have hD := ho33.inD k hk; simp only [List.mem_cons, List.mem_nil_iff, or_false] at hx; first | omega | (obtain rfl := hx; exact na_Rb3 hk))
  replace hR := hR.tr c37 q2;refine en <| x_exit <| then_x <| block_x <| then_n <| ⟨(n, a, ws, rs ++ [r], R, A4, c4, A5, c5, A30, cap31), ?_, ?_, rfl, trivial, ?_⟩
  ·refine ⟨?_, HC, hR, ht, hmx, hb4, oA, oW, ho33, hb38⟩;exact ⟨by rw [hse]; exact simple_some hre, hsR.trans hsY, by omega, by simp only [List.length_append, List.length_cons, List.length_nil]; omega⟩
  ·show R.length < Y.length; omega
  exact q9
 try simp only [nm, ne_eq] at h0
 obtain rfl : x = none := by cases x with | none => rfl | some _ => simp_all
 obtain rfl : Y = R := (hxn rfl).symm;refine x_skip <| then_n <| x_seq <| sr rfl <| mP rfl <| Wp rfl <| st_call (ags := [_]) rfl rfl T.ent15 rfl (gtok_spec (Z := Y) hgY hR) ?_;rintro _ w39 ⟨rfl, c40⟩;replace HC := HC.then c40;replace ht := ht.tr0 c40;replace hmx := hmx.tr0 c40;replace hb4 := hb4.tr0 c40;replace oA := oA.tr0 c40;replace oW := oW.tr0 c40;replace oR := oR.tr0 c40;replace hb3 := hb3.tr0 c40;replace hR := hR.tr0 c40;refine Wp rfl <| st_field (v := .int _ _) T.fone51_0 rfl rfl <| Wp rfl <| st_neq rfl rfl <| en <| x_cond rfl (fun h1 => ?_) (fun h1 => ?_)
 ·try simp only [nm, ne_eq] at h1
  have hk1 : (hd Y).kind ≠ 1 := by first | assumption | simp_all
  have hfin := hse.trans (simple_end hre hk1);refine x_exit <| then_x <| block_o rfl <| then_x <| block_x <| then_n <| x_seq <| sr rfl <| fa T.fld30_6 rfl <| lL T.one26 rfl (hb3.cell rfl) <| Wp rfl <| st_len (ct := #[26]) (by rw [show ((#[26] : Array TypeId)[0]?).bind Tryz.prog.underlying = some (.slice 40) from T.u26]; rfl) rfl <| fa T.fld30_4 rfl <| lL T.one25 rfl (hb3.cell rfl) <| Wp rfl <| st_len (ct := #[25]) (by rw [show ((#[25] : Array TypeId)[0]?).bind Tryz.prog.underlying = some (.slice 56) from T.u25]; rfl) rfl <| Wp rfl <| st_addn rfl rfl (by constructor <;> omega) <| fa T.fld30_5 rfl <| lL T.one23 rfl (hb3.cell rfl) <| Wp rfl <| st_len (ct := #[23]) (by rw [show ((#[23] : Array TypeId)[0]?).bind Tryz.prog.underlying = some (.slice 9) from T.u23]; rfl) rfl <| Wp rfl <| st_addn rfl rfl (by constructor <;> omega) <| Wp rfl <| st_eql rfl rfl <| en <| x_cond rfl (fun h3 => ?_) (fun h3 => ?_)
  ·try simp only [nm, ne_eq] at h3
   rw [if_pos q0] at hfin
   refine x_region rfl <| mP rfl <| w_plain rfl (st_callP (ags := [_, _]) rfl rfl T.ent17 rfl (gfail_spec 101 hgY hR) ?_ ?_)
   ·rintro _ w41 ⟨rfl, c42⟩;replace HC := HC.then c42;refine then_p <| pp_panic ?_;exact ⟨Y, 101, hfin, hsY, rfl, HC⟩
   exact fun _ _ h9 => h9.elim
  try simp only [nm, ne_eq] at h3
  rw [if_neg q0] at hfin
  refine x_skip <| then_n <| sr rfl <| Wp rfl <| st_loadA (vs := [_, _, _, _, _, _, _, _, _]) T.agg30 rfl (hb3.cells (n := 9) (vs := [_, _, _, _, _, _, _, _, _]) rfl) rfl <| Wp rfl <| st_st (v := .agg ⟨[_, _, _, _, _, _, _, _, _]⟩) T.size30 rfl rfl rfl hb4 ?_;intro w43 c44 hb45; simp only [setVs, setV] at hb45;clear hb4;replace HC := HC.then1 c44 ge_b2;replace oA := oA.trF flat_flat c44 (by intro k hk hx; have hD := oA.inD k hk; simp only [List.mem_cons, List.mem_nil_iff, or_false] at hx; first | omega | (obtain rfl := hx; exact na_Ab2 hk))
  replace oW := oW.trF flat_flat c44 (by intro k hk hx; have hD := oW.inD k hk; simp only [List.mem_cons, List.mem_nil_iff, or_false] at hx; first | omega | (obtain rfl := hx; exact na_Wb2 hk))
  replace oR := oR.trF flat_flat c44 (by intro k hk hx; have hD := oR.inD k hk; simp only [List.mem_cons, List.mem_nil_iff, or_false] at hx; first | omega | (obtain rfl := hx; exact na_Rb2 hk))
  replace hR := hR.tr c44 q2;refine en <| x_ret <| pp_ret <| ret_cellA (vs := [_, _, _, _, _, _, _, _, _]) rfl rfl T.agg30 (hb45.cells (n := 9) rfl) rfl ?_;exact ⟨_, Y, _, hfin, hsY, by omega, rfl, cm_shut (c := .mk 1 [] false false a ws rs [] []) ⟨oA.sl.mono (fun k _ h => h.1), oW.sl.mono (fun k _ h => h.1), oR.sl.mono (fun k _ h => h.1), .nil, .nil⟩ oA.le oW.le oR.le ⟨Nat.le_refl _, by decide⟩ ⟨Nat.le_refl _, by decide⟩, hR, HC⟩
 try simp only [nm, ne_eq] at h1
 have hk1 : (hd Y).kind = 1 := by first | assumption | simp_all
 have hsT := Suf.tail hgY (by rw [hk1]; decide)
 refine x_skip <| then_n <| sr rfl <| mP rfl <| Wp rfl <| st_call (ags := [_]) rfl rfl T.ent29 rfl (gnext_spec hgY hR hq) ?_;rintro _ w46 ⟨rfl, hR, c47⟩;replace HC := HC.trans c47 q4;replace ht := ht.tr c47 q1;replace hmx := hmx.tr c47 q1;replace hb4 := hb4.tr1 c47 q0;replace oA := oA.trF flat_flat c47 (by intro k hk hx; have hD := oA.inD k hk; simp only [List.mem_cons, List.mem_nil_iff, or_false] at hx; first | omega)
 replace oW := oW.trF flat_flat c47 (by intro k hk hx; have hD := oW.inD k hk; simp only [List.mem_cons, List.mem_nil_iff, or_false] at hx; first | omega)
 replace oR := oR.trF flat_flat c47 (by intro k hk hx; have hD := oR.inD k hk; simp only [List.mem_cons, List.mem_nil_iff, or_false] at hx; first | omega)
 replace hb3 := hb3.tr1 c47 q0;refine Wp rfl <| st_field (v := S _) T.fone51_1 rfl rfl <| aS rfl <| en <| sr rfl <| mS rfl <| Wp rfl <| st_call (ags := [_]) rfl rfl T.ent107 rfl (gassign_spec (hd Y).text _ (by have := hzY.2 _ (hd_mem hgY); omega) hmx) ?_
 rintro _ w48 ⟨rfl, c49⟩;replace HC := HC.then c49;replace ht := ht.tr0 c49;replace hmx := hmx.tr0 c49;replace hb4 := hb4.tr0 c49;replace oA := oA.tr0 c49;replace oW := oW.tr0 c49;replace oR := oR.tr0 c49;replace hb3 := hb3.tr0 c49;replace hR := hR.tr0 c49;refine mv (v := .tuple ⟨[_, _]⟩) rfl <| Wp rfl <| st_extract (vs := [_, _]) (v := .agg ⟨[S _, S _]⟩) rfl rfl <| Wp rfl <| st_extract (vs := [_, _]) (v := .bool _) rfl rfl <| Wp rfl <| st_alloc T.zero56 ?_;intro b7 w50 e51 c52 hb53;have ge_b7 := gB e51 HC.size;have ne_b2_b7 := nE e51 hb4.ne_size;have ne_b3_b7 := nE e51 hb3.ne_size;have na_Ab7 : b7 ∉ ob A4 := oA.fresh (by rw [e51]; exact Nat.le_refl _)
 have na_Wb7 : b7 ∉ ob A5 := oW.fresh (by rw [e51]; exact Nat.le_refl _)
 have na_Rb7 : b7 ∉ ob A6 := oR.fresh (by rw [e51]; exact Nat.le_refl _)
 replace HC := HC.then c52;replace ht := ht.tr0 c52;replace hmx := hmx.tr0 c52;replace hb4 := hb4.tr0 c52;replace oA := oA.tr0 c52;replace oW := oW.tr0 c52;replace oR := oR.tr0 c52;replace hb3 := hb3.tr0 c52;replace hR := hR.tr0 c52;clear e51;refine Wp rfl <| st_st (v := .agg ⟨[_, _]⟩) T.size56 rfl rfl rfl hb53 ?_;intro w54 c55 hb56; simp only [setVs, setV] at hb56;clear hb53;replace HC := HC.then1 c55 ge_b7;replace ht := ht.tr c55 q1;replace hmx := hmx.tr c55 q1;replace hb4 := hb4.tr1 c55 ne_b2_b7;replace oA := oA.trF flat_flat c55 (by intro k hk hx; have hD := oA.inD k hk; simp only [List.mem_cons, List.mem_nil_iff, or_false] at hx; first | omega | (obtain rfl := hx; exact na_Ab7 hk))
 replace oW := oW.trF flat_flat c55 (by intro k hk hx; have hD := oW.inD k hk; simp only [List.mem_cons, List.mem_nil_iff, or_false] at hx; first | omega | (obtain rfl := hx; exact na_Wb7 hk))
 replace oR := oR.trF flat_flat c55 (by intro k hk hx; have hD := oR.inD k hk; simp only [List.mem_cons, List.mem_nil_iff, or_false] at hx; first | omega | (obtain rfl := hx; exact na_Rb7 hk))
 replace hb3 := hb3.tr1 c55 ne_b3_b7;replace hR := hR.tr c55 q2;refine aB rfl <| en <| sr rfl <| mB rfl <| mB rfl <| w_split (d := 35) rfl (fun g57 => ?_) (fun g57 => ?_)
 ·try simp only [nm, ne_eq] at g57
  refine w_yes 1 35 true <| st_fieldAddr T.fld30_5 rfl <| w_yes 1 35 true <| st_load1 (v := .slice _ _ _) T.one23 rfl (hb3.cell rfl) <| w_yes 1 35 true <| st_len (ct := #[23]) (by rw [show ((#[23] : Array TypeId)[0]?).bind Tryz.prog.underlying = some (.slice 9) from T.u23]; rfl) rfl <| w_yes 1 35 true <| st_eql rfl rfl <| pT rfl rfl <| en <| x_cond rfl (fun h2 => ?_) (fun h2 => ?_)
  ·try simp only [nm, ne_eq] at h2
   have has : (assignG (hd Y).text).2 = true ∧ ws = [] := ⟨by first | assumption | simp_all, List.eq_nil_of_length_eq_zero (by first | omega | simp_all)⟩
   refine x_region rfl <| fa T.fld30_4 rfl <| lL T.one25 rfl (hb3.cell rfl) <| Wp rfl <| st_loadA (vs := [_, _]) T.agg56 rfl (hb56.cells (n := 2) (vs := [_, _]) rfl) rfl <| Wp rfl <| st_lit (ps := [(0, .tmp 43)]) (vs := [S _, S _]) T.lit25 (by decide) rfl q6 rfl ?_
   intro b58 w59 e60 c61 hb62;have ge_b58 := gB e60 HC.size;have na_Ab58 : b58 ∉ ob A4 := oA.fresh (by rw [e60]; exact Nat.le_refl _)
   have na_Wb58 : b58 ∉ ob A5 := oW.fresh (by rw [e60]; exact Nat.le_refl _)
   have na_Rb58 : b58 ∉ ob A6 := oR.fresh (by rw [e60]; exact Nat.le_refl _)
   replace HC := HC.then c61;replace ht := ht.tr0 c61;replace hmx := hmx.tr0 c61;replace hb4 := hb4.tr0 c61;replace oA := oA.tr0 c61;replace oW := oW.tr0 c61;replace oR := oR.tr0 c61;replace hb3 := hb3.tr0 c61;replace hR := hR.tr0 c61;clear e60;have hszA := HC.size;refine Wp rfl <| st_append2 (c := pairE2) (D2 := fun _ => False) (xs := a) (ys := [(assignG (hd Y).text).1]) T.slice25 rfl rfl oA rfl rfl (one_elem rfl (hb62.cells (n := 2) rfl)) (fun _ _ h => h.elim) (fun k hk => (by have h7 := HC.size; have h8 := hb4.lt; have h9 := hb3.lt; exact ⟨by omega, by omega, by omega⟩)) q7 q7 ?_
   intro A63 cap64 w65 ho66 c67 hg68;replace HC := HC.trans c67 (fun k hk => .inr ((oA.inD k hk).1))
   replace ht := ht.tr c67 (fun hx => by first | (have h1 := (oA.inD _ hx).1; omega) | (have h1 : w.heap.size ≤ 0 := oA.inD _ hx; omega))
   replace hmx := hmx.tr c67 (by intro hx; have hD := oA.inD _ hx; omega)
   replace hb4 := hb4.tr c67 (fun hx => by first | (have h1 := oA.inD _ hx; omega) | exact na_Ab2 hx | exact hav _ hx (by simp))
   replace oW := oW.trF flat_flat c67 (fun k hk hx => own_ne oW oA (by decide) k hk hx)
   replace oR := oR.trF flat_flat c67 (fun k hk hx => own_ne oR oA (by decide) k hk hx)
   replace hb3 := hb3.tr c67 (fun hx => by first | (have h1 := oA.inD _ hx; omega) | exact na_Ab3 hx | exact hav _ hx (by simp))
   replace hR := hR.tr c67 (by intro k hk; have hD := oA.inD k hk; omega)
   refine fa T.fld30_4 rfl <| Wp rfl <| st_st (v := .slice _ _ _) T.size25 rfl rfl rfl hb3 ?_;intro w69 c70 hb71; simp only [setVs, setV] at hb71;clear hb3;replace HC := HC.then1 c70 ge_b3;replace ht := ht.tr c70 q1;replace hmx := hmx.tr c70 q1;replace hb4 := hb4.tr1 c70 ne_b2_b3;replace ho66 := ho66.trF flat_flat c70 (by intro k hk hx; have hD := ho66.inD k hk; simp only [List.mem_cons, List.mem_nil_iff, or_false] at hx; first | omega | (obtain rfl := hx; exact na_Ab3 hk))
   replace oW := oW.trF flat_flat c70 (by intro k hk hx; have hD := oW.inD k hk; simp only [List.mem_cons, List.mem_nil_iff, or_false] at hx; first | omega | (obtain rfl := hx; exact na_Wb3 hk))
   replace oR := oR.trF flat_flat c70 (by intro k hk hx; have hD := oR.inD k hk; simp only [List.mem_cons, List.mem_nil_iff, or_false] at hx; first | omega | (obtain rfl := hx; exact na_Rb3 hk))
   replace hR := hR.tr c70 q2;refine wops_nil <| block_n <| then_n <| ⟨(n, a ++ [(assignG (hd Y).text).1], ws, rs, Y.tail, A63, cap64, A5, c5, A6, c6), ?_, ?_, rfl, trivial, ?_⟩
   ·refine ⟨?_, HC, hR, ht, hmx, hb4, ho66, oW, oR, hb71⟩;exact ⟨by rw [hse]; exact simple_asg hre hk1 has, hsT.trans hsY, by have := tail_len hgY; omega, by have := tail_len hgY; simp only [List.length_append, List.length_cons, List.length_nil]; omega⟩
   ·show Y.tail.length < Y.length; have := tail_len hgY; omega
   exact q9
  try simp only [nm, ne_eq] at h2
  have has : ¬ ((assignG (hd Y).text).2 = true ∧ ws = []) := by rintro ⟨h7, h8⟩; subst h8; simp_all
  refine x_region rfl <| fa T.fld30_5 rfl <| lL T.one23 rfl (hb3.cell rfl) <| mS rfl <| Wp rfl <| st_lit (ps := [(0, .tmp 49)]) (vs := [S _]) T.lit23 (by decide) rfl q6 rfl ?_
  intro b72 w73 e74 c75 hb76;have ge_b72 := gB e74 HC.size;have na_Ab72 : b72 ∉ ob A4 := oA.fresh (by rw [e74]; exact Nat.le_refl _)
  have na_Wb72 : b72 ∉ ob A5 := oW.fresh (by rw [e74]; exact Nat.le_refl _)
  have na_Rb72 : b72 ∉ ob A6 := oR.fresh (by rw [e74]; exact Nat.le_refl _)
  replace HC := HC.then c75;replace ht := ht.tr0 c75;replace hmx := hmx.tr0 c75;replace hb4 := hb4.tr0 c75;replace oA := oA.tr0 c75;replace oW := oW.tr0 c75;replace oR := oR.tr0 c75;replace hb3 := hb3.tr0 c75;replace hR := hR.tr0 c75;clear e74;have hszA := HC.size;refine Wp rfl <| st_append2 (c := sE) (D2 := fun _ => False) (xs := ws) (ys := [(hd Y).text]) T.slice23 rfl rfl oW rfl rfl (one_elem rfl (hb76.cells (n := 1) rfl)) (fun _ _ h => h.elim) (fun k hk => (by have h7 := HC.size; have h8 := hb4.lt; have h9 := hb3.lt; exact ⟨by omega, by omega, by omega⟩)) q7 q7 ?_
  intro A77 cap78 w79 ho80 c81 hg82;replace HC := HC.trans c81 (fun k hk => .inr ((oW.inD k hk).1))
  replace ht := ht.tr c81 (fun hx => by first | (have h1 := (oW.inD _ hx).1; omega) | (have h1 : w.heap.size ≤ 0 := oW.inD _ hx; omega))
  replace hmx := hmx.tr c81 (by intro hx; have hD := oW.inD _ hx; omega)
  replace hb4 := hb4.tr c81 (fun hx => by first | (have h1 := oW.inD _ hx; omega) | exact na_Wb2 hx | exact hav _ hx (by simp))
  replace oA := oA.trF flat_flat c81 (fun k hk hx => own_ne oA oW (by decide) k hk hx)
  replace oR := oR.trF flat_flat c81 (fun k hk hx => own_ne oR oW (by decide) k hk hx)
  replace hb3 := hb3.tr c81 (fun hx => by first | (have h1 := oW.inD _ hx; omega) | exact na_Wb3 hx | exact hav _ hx (by simp))
  replace hR := hR.tr c81 (by intro k hk; have hD := oW.inD k hk; omega)
  refine fa T.fld30_5 rfl <| Wp rfl <| st_st (v := .slice _ _ _) T.size23 rfl rfl rfl hb3 ?_;intro w83 c84 hb85; simp only [setVs, setV] at hb85;clear hb3;replace HC := HC.then1 c84 ge_b3;replace ht := ht.tr c84 q1;replace hmx := hmx.tr c84 q1;replace hb4 := hb4.tr1 c84 ne_b2_b3;replace oA := oA.trF flat_flat c84 (by intro k hk hx; have hD := oA.inD k hk; simp only [List.mem_cons, List.mem_nil_iff, or_false] at hx; first | omega | (obtain rfl := hx; exact na_Ab3 hk))
  replace ho80 := ho80.trF flat_flat c84 (by intro k hk hx; have hD := ho80.inD k hk; simp only [List.mem_cons, List.mem_nil_iff, or_false] at hx; first | omega | (obtain rfl := hx; exact na_Wb3 hk))
  replace oR := oR.trF flat_flat c84 (by intro k hk hx; have hD := oR.inD k hk; simp only [List.mem_cons, List.mem_nil_iff, or_false] at hx; first | omega | (obtain rfl := hx; exact na_Rb3 hk))
  replace hR := hR.tr c84 q2;refine wops_nil <| block_n <| then_n <| ⟨(n, a, ws ++ [(hd Y).text], rs, Y.tail, A4, c4, A77, cap78, A6, c6), ?_, ?_, rfl, trivial, ?_⟩
  ·refine ⟨?_, HC, hR, ht, hmx, hb4, oA, ho80, oR, hb85⟩;exact ⟨by rw [hse]; exact simple_word hre hk1 has, hsT.trans hsY, by have := tail_len hgY; omega, by have := tail_len hgY; simp only [List.length_append, List.length_cons, List.length_nil]; omega⟩
  ·show Y.tail.length < Y.length; have := tail_len hgY; omega
  exact q9
 try simp only [nm, ne_eq] at g57
 iterate 4 refine w_no 1 35 true ?_
 refine pF rfl rfl <| en <| x_cond (t := false) rfl (fun h2 => ?_) (fun h2 => ?_)
 · exact absurd h2 (by decide)
 have has : ¬ ((assignG (hd Y).text).2 = true ∧ ws = []) := by rintro ⟨h7, h8⟩; subst h8; simp_all
 refine x_region rfl <| fa T.fld30_5 rfl <| lL T.one23 rfl (hb3.cell rfl) <| mS rfl <| Wp rfl <| st_lit (ps := [(0, .tmp 49)]) (vs := [S _]) T.lit23 (by decide) rfl q6 rfl ?_
 intro b86 w87 e88 c89 hb90;have ge_b86 := gB e88 HC.size;have na_Ab86 : b86 ∉ ob A4 := oA.fresh (by rw [e88]; exact Nat.le_refl _)
 have na_Wb86 : b86 ∉ ob A5 := oW.fresh (by rw [e88]; exact Nat.le_refl _)
 have na_Rb86 : b86 ∉ ob A6 := oR.fresh (by rw [e88]; exact Nat.le_refl _)
 replace HC := HC.then c89;replace ht := ht.tr0 c89;replace hmx := hmx.tr0 c89;replace hb4 := hb4.tr0 c89;replace oA := oA.tr0 c89;replace oW := oW.tr0 c89;replace oR := oR.tr0 c89;replace hb3 := hb3.tr0 c89;replace hR := hR.tr0 c89;clear e88;have hszA := HC.size;refine Wp rfl <| st_append2 (c := sE) (D2 := fun _ => False) (xs := ws) (ys := [(hd Y).text]) T.slice23 rfl rfl oW rfl rfl (one_elem rfl (hb90.cells (n := 1) rfl)) (fun _ _ h => h.elim) (fun k hk => (by have h7 := HC.size; have h8 := hb4.lt; have h9 := hb3.lt; exact ⟨by omega, by omega, by omega⟩)) q7 q7 ?_
 intro A91 cap92 w93 ho94 c95 hg96;replace HC := HC.trans c95 (fun k hk => .inr ((oW.inD k hk).1))
 replace ht := ht.tr c95 (fun hx => by first | (have h1 := (oW.inD _ hx).1; omega) | (have h1 : w.heap.size ≤ 0 := oW.inD _ hx; omega))
 replace hmx := hmx.tr c95 (by intro hx; have hD := oW.inD _ hx; omega)
 replace hb4 := hb4.tr c95 (fun hx => by first | (have h1 := oW.inD _ hx; omega) | exact na_Wb2 hx | exact hav _ hx (by simp))
 replace oA := oA.trF flat_flat c95 (fun k hk hx => own_ne oA oW (by decide) k hk hx)
 replace oR := oR.trF flat_flat c95 (fun k hk hx => own_ne oR oW (by decide) k hk hx)
 replace hb3 := hb3.tr c95 (fun hx => by first | (have h1 := oW.inD _ hx; omega) | exact na_Wb3 hx | exact hav _ hx (by simp))
 replace hR := hR.tr c95 (by intro k hk; have hD := oW.inD k hk; omega)
 refine fa T.fld30_5 rfl <| Wp rfl <| st_st (v := .slice _ _ _) T.size23 rfl rfl rfl hb3 ?_;intro w97 c98 hb99; simp only [setVs, setV] at hb99;clear hb3;replace HC := HC.then1 c98 ge_b3;replace ht := ht.tr c98 q1;replace hmx := hmx.tr c98 q1;replace hb4 := hb4.tr1 c98 ne_b2_b3;replace oA := oA.trF flat_flat c98 (by intro k hk hx; have hD := oA.inD k hk; simp only [List.mem_cons, List.mem_nil_iff, or_false] at hx; first | omega | (obtain rfl := hx; exact na_Ab3 hk))
 replace ho94 := ho94.trF flat_flat c98 (by intro k hk hx; have hD := ho94.inD k hk; simp only [List.mem_cons, List.mem_nil_iff, or_false] at hx; first | omega | (obtain rfl := hx; exact na_Wb3 hk))
 replace oR := oR.trF flat_flat c98 (by intro k hk hx; have hD := oR.inD k hk; simp only [List.mem_cons, List.mem_nil_iff, or_false] at hx; first | omega | (obtain rfl := hx; exact na_Rb3 hk))
 replace hR := hR.tr c98 q2;refine wops_nil <| block_n <| then_n <| ⟨(n, a, ws ++ [(hd Y).text], rs, Y.tail, A4, c4, A91, cap92, A6, c6), ?_, ?_, rfl, trivial, ?_⟩
 ·refine ⟨?_, HC, hR, ht, hmx, hb4, oA, ho94, oR, hb99⟩;exact ⟨by rw [hse]; exact simple_word hre hk1 has, hsT.trans hsY, by have := tail_len hgY; omega, by have := tail_len hgY; simp only [List.length_append, List.length_cons, List.length_nil]; omega⟩
 ·show Y.tail.length < Y.length; have := tail_len hgY; omega
 exact q9
open Go Go.Proofs Go.RowKit
def ReadsC (fn : FuncId) (g : List Tok → Rs Cm) (rb tb : Nat) (d : Int) : Prop := ∀ (Z : List Tok) (w : World), GT Z → GB Z → RdAt w rb tb d Z → QOk rb tb → MaxT w → Tab w →
  CallP Tryz.prog fn #[.pointer (some ⟨rb, 0, none⟩)] w (fun v w' => OkC (g Z) Z rb tb d w w' v) (fun v w' => ErT (g Z) Z rb w w' v)
theorem Enc.chg {α : Type} {c : Enc α} {w w' : World} {D : Nat → Prop} {x : α} {vs : List Value} {bs : List Nat} (h : c.R w D x vs) (k : Chg bs w w') (hb : ∀ b, b ∈ bs → ¬ D b) : c.R w' D x vs := c.tr h (fun i hi hD => k.block i hi fun hx => hb i hx hD) k.size
theorem suf_take {k : Int} {l : List Bytes} {Z : List Tok} (hg : GT Z) (hk : k ≠ 0) : Suf (if isT k l Z = true then Z.tail else Z) Z := by
  split
  · rename_i h; exact .tail hg (by rw [(isT_tail h).1]; exact hk)
  exact .refl hg
theorem own_one {w : World} {D D' : Nat → Prop} {b : Nat} {x : Cm} {vs : List Value} (hb : Blk w b vs 30) (hD : D b) (h : cmE.R w D' x vs) (hi : ∀ k, k < w.heap.size → D' k → D k ∧ k ≠ b) : Own cmE 30 w D (some ⟨b, 0, none⟩) 1 [x] :=
  Own.of_blk (xs := [x]) hb hD (by simp) (Chunks.one (cmE.mono h hi))
theorem own_two {w : World} {D D1 D2 : Nat → Prop} {b : Nat} {x y : Cm} {vs us : List Value} (hb : Blk w b (vs ++ us) 30) (hD : D b) (h : cmE.R w D1 x vs) (h2 : cmE.R w D2 y us) (hi : ∀ k, k < w.heap.size → D1 k → D k ∧ k ≠ b) (hi2 : ∀ k, k < w.heap.size → D2 k → D k ∧ k ≠ b) : Own cmE 30 w D (some ⟨b, 0, none⟩) 2 [x, y] :=
  Own.of_blk (xs := [x, y]) hb hD (by simp) (Chunks.cons (cmE.mono h hi) (Chunks.one (cmE.mono h2 hi2)))
theorem pipeL_on {com : List Tok → Rs Cm} {n : Nat} {l : List Cm} {Y R : List Tok} {c : Cm} (h : isT 2 [[124]] Y = true) (hc : com (linesG Y.tail) = .ok c R) : pipeL com (n + 1) l Y = pipeL com n (l ++ [c]) R := by rw [pipeL, if_pos h, hc]; rfl
theorem pipeL_er {com : List Tok → Rs Cm} {n : Nat} {l : List Cm} {Y R : List Tok} {e : Int} (h : isT 2 [[124]] Y = true) (hc : com (linesG Y.tail) = .er R e) : pipeL com (n + 1) l Y = .er R e := by rw [pipeL, if_pos h, hc]; rfl
theorem pipeL_end {com : List Tok → Rs Cm} {n : Nat} {l : List Cm} {Y : List Tok} (h : isT 2 [[124]] Y = false) : pipeL com (n + 1) l Y = .ok l Y := by rw [pipeL, if_neg (by rw [h]; simp)]
theorem gpipe_spec {Z : List Tok} {rb tb : Nat} {d : Int} {w : World} (hg : GT Z) (hz : GB Z) (hR : RdAt w rb tb d Z) (hq : QOk rb tb) (hmx : MaxT w) (ht : Tab w) {com : List Tok → Rs Cm} (hcom : ReadsC 64 com rb tb d) : CallP Tryz.prog 43 #[.pointer (some ⟨rb, 0, none⟩)] w (fun v w' => OkC (pipeG com Z) Z rb tb d w w' v) (fun v w' => ErT (pipeG com Z) Z rb w w' v) := by
 refine callP_of_wp (args := [_]) Tryz.func43 rfl (Nat.le_of_ble_eq_true rfl) ?_;have HC : Chg [rb] w w := .refl _;have hrl := hR.lt hg;have hq9 := hq;obtain ⟨hq1, hq2, hq3⟩ := hq9;have ht1 := ht.lt;have hm1 := hmx.lt;have hzl := hz.1;refine sr rfl <| Wp rfl <| st_alloc T.zero30 ?_;intro b2 w1 e2 c3 hb4;have ge_b2 := gB e2 HC.size;replace HC := HC.then c3;replace hR := hR.tr0 c3;replace ht := ht.tr0 c3;replace hmx := hmx.tr0 c3;clear e2;refine en <| sr rfl <| mP rfl <| Wp rfl <| st_lit (ps := [(0, .const (S [33]))]) (vs := [S _]) T.lit23 (by decide) rfl q6 rfl ?_
 intro b5 w6 e7 c8 hb9;have ge_b5 := gB e7 HC.size;replace HC := HC.then c8;replace hR := hR.tr0 c8;replace ht := ht.tr0 c8;replace hmx := hmx.tr0 c8;replace hb4 := hb4.tr0 c8;clear e7;refine Wp rfl <| st_call (ags := [_, _, _]) rfl rfl T.ent63 rfl (gtake_spec (Z := Z) (l := [[33]]) 1 hg hR hq (sl_str [[33]] hb9) (by simp)) ?_
 rintro _ w10 ⟨rfl, hR, c11⟩;replace HC := HC.trans c11 q4;replace ht := ht.tr c11 q1;replace hmx := hmx.tr c11 q1;replace hb4 := hb4.tr1 c11 q0;replace hb9 := hb9.tr1 c11 q0;refine Wp rfl <| st_bld (ps := [(0, .const (.int .i64 2)), (2, .tmp 6)]) (vs := [.int _ _, S _, .bool _, .bool _, .slice _ _ _, .slice _ _ _, .slice _ _ _, .slice _ _ _, .slice _ _ _]) T.bld30 rfl <| Wp rfl <| st_alloc T.zero30 ?_;intro b3 w12 e13 c14 hb15;have ge_b3 := gB e13 HC.size;have ne_b2_b3 := nE e13 hb4.ne_size;have ne_b5_b3 := nE e13 hb9.ne_size;replace HC := HC.then c14;replace ht := ht.tr0 c14;replace hmx := hmx.tr0 c14;replace hb4 := hb4.tr0 c14;replace hb9 := hb9.tr0 c14;replace hR := hR.tr0 c14;clear e13;refine Wp rfl <| st_st (v := .agg ⟨[_, _, _, _, _, _, _, _, _]⟩) T.size30 rfl rfl rfl hb15 ?_;intro w16 c17 hb18; simp only [setVs, setV] at hb18;clear hb15;replace HC := HC.then1 c17 ge_b3;replace ht := ht.tr c17 q1;replace hmx := hmx.tr c17 q1;replace hb4 := hb4.tr1 c17 ne_b2_b3;replace hb9 := hb9.tr1 c17 ne_b5_b3;replace hR := hR.tr c17 q2;refine en <| x_seq ?_;have hsY0 := suf_take (k := 1) (l := [[33]]) hg (by decide)
 have hgY0 := hsY0.good;have hzY0 := hsY0.gb hz;refine x_region rfl <| mP rfl ?_;have ltP_b2 := hb4.lt;have ltP_b5 := hb9.lt;have ltP_b3 := hb18.lt;have szlP := HC.size;refine w_plain rfl (st_callP (ags := [_]) rfl rfl T.ent64 rfl (hcom _ _ hgY0 hzY0 hR hq hmx ht) ?_ ?_)
 ·rintro _ w19 ⟨R9, e9, he9, hs9, rfl, c20⟩;replace HC := HC.trans c20 q4;refine then_p <| pp_panic ?_;exact ⟨R9, e9, by rw [pipeG, he9]; rfl, hs9.trans hsY0, rfl, HC⟩
 rintro _ w21 ⟨cP, RP, vsP, heP, hsP, hlP, rfl, hvP, hR, c22⟩;obtain ⟨A1P, n1P, A2P, n2P, A3P, n3P, A4P, n4P, A5P, n5P, rfl, hAP, k1P, k2P, k3P, k4P, k5P⟩ := cm_open hvP;replace hvP := cmE.mono hvP (D' := (fun k => w16.heap.size ≤ k ∧ k < w21.heap.size)) (fun k hk h => ⟨h, hk⟩)
 have szP : w21.heap.size ≤ w21.heap.size := Nat.le_refl _;have szmP := c22.size;replace HC := HC.trans c22 q4;replace ht := ht.tr c22 q1;replace hmx := hmx.tr c22 q1;replace hb4 := hb4.tr1 c22 q0;replace hb18 := hb18.tr1 c22 q0;refine Wp rfl <| st_lit (ps := [(0, .tmp 9)]) (vs := [.int _ _, S _, .bool _, .bool _, .slice _ _ _, .slice _ _ _, .slice _ _ _, .slice _ _ _, .slice _ _ _]) T.lit27 (by decide) rfl q6 rfl ?_
 intro b23 w24 e25 c26 hb27;have ge_b23 := gB e25 HC.size;have ne_b3_b23 := nE e25 hb18.ne_size;have gq_szP_b23 : w21.heap.size ≤ b23 := by rw [e25]; exact szP
 replace HC := HC.then c26;replace ht := ht.tr0 c26;replace hmx := hmx.tr0 c26;replace hb4 := hb4.tr0 c26;replace hb18 := hb18.tr0 c26;replace hR := hR.tr0 c26;replace hvP := Enc.chg hvP c26 q8;replace szP := Nat.le_trans szP c26.size;clear e25;refine fa T.fld30_7 rfl <| Wp rfl <| st_st (v := .slice _ _ _) T.size27 rfl rfl rfl hb18 ?_;intro w28 c29 hb30; simp only [setVs, setV] at hb30;clear hb18;replace HC := HC.then1 c29 ge_b3;replace ht := ht.tr c29 q1;replace hmx := hmx.tr c29 q1;replace hb4 := hb4.tr1 c29 ne_b2_b3;replace hR := hR.tr c29 q2;replace hvP := Enc.chg hvP c29 q3;replace szP := Nat.le_trans szP c29.size;replace hb27 := hb27.tr1 c29 (Ne.symm ne_b3_b23);refine en <| x_seq <| x_block ?_;have oK : Own cmE 30 w28 (fun k => w.heap.size ≤ k ∧ k ≠ b2 ∧ k ≠ b3) (some ⟨b23, 0, none⟩) 1 [cP] := own_one hb27 ⟨by omega, by omega, by omega⟩ hvP (fun k _ h => ⟨⟨by omega, by omega, by omega⟩, by omega⟩)
 refine x_loop (ι := Nat × List Cm × List Tok × Option Addr × Nat) [12, 13, 14, 15, 16, 17, 18, 19, 20, 21, 22, 23] (fun ⟨n, l, Y, A, cap⟩ => []) (fun ⟨n, l, Y, A, cap⟩ W => (pipeL com RP.length [cP] RP = pipeL com n l Y ∧ Suf Y Z ∧ Y.length ≤ n ∧ l.length + Y.length ≤ Z.length ∧ 1 ≤ l.length) ∧ (Chg [rb] w W) ∧ (Tab W) ∧ (MaxT W) ∧ (Blk W b2 [.int .i64 0, S [], .bool false, .bool false, .slice none 0 0, .slice none 0 0, .slice none 0 0, .slice none 0 0, .slice none 0 0] 30) ∧ (RdAt W rb tb d Y) ∧ (Own cmE 30 W (fun k => w.heap.size ≤ k ∧ k ≠ b2 ∧ k ≠ b3) A cap l) ∧ (Blk W b3 [.int .i64 2, S [], .bool (isT 1 [[33]] Z), .bool false, .slice none 0 0, .slice none 0 0, .slice none 0 0, .slice A l.length cap, .slice none 0 0] 30)) (fun ⟨n, l, Y, A, cap⟩ => Y.length) (RP.length, [cP], RP, (some ⟨b23, 0, none⟩), 1) ?_ ?_ ?_
 · exact trivial
 ·refine ⟨?_, HC, ht, hmx, hb4, hR, oK, hb30⟩;exact ⟨rfl, hsP.trans hsY0, Nat.le_refl _, by have := hsY0.len; simp only [List.length_cons, List.length_nil]; omega, by simp⟩
 intro ⟨n, l, Y, A, cap⟩ G32 w31 ⟨⟨hpe, hsY, hn, hll, hl1⟩, HC, ht, hmx, hb4, hR, oK, hb3⟩
 change wp _ _ _ _ _ (upds (over _ _ G32) []) _ _
 have hgY := hsY.good;have hzY := hsY.gb hz;have hpY := hgY.pos;obtain ⟨n, rfl⟩ : ∃ m, n = m + 1 := ⟨n - 1, by omega⟩
 refine x_seq <| sr rfl <| mP rfl <| Wp rfl <| st_lit (ps := [(0, .const (S [124]))]) (vs := [S _]) T.lit23 (by decide) rfl q6 rfl ?_
 intro b33 w34 e35 c36 hb37;have ge_b33 := gB e35 HC.size;have na_Kb33 : b33 ∉ ob (A) := oK.fresh (by rw [e35]; exact Nat.le_refl _)
 replace HC := HC.then c36;replace ht := ht.tr0 c36;replace hmx := hmx.tr0 c36;replace hb4 := hb4.tr0 c36;replace hR := hR.tr0 c36;replace oK := oK.tr0 c36;replace hb3 := hb3.tr0 c36;clear e35;refine Wp rfl <| st_call (ags := [_, _, _]) rfl rfl T.ent63 rfl (gtake_spec (Z := Y) (l := [[124]]) 2 hgY hR hq (sl_str [[124]] hb37) (by simp)) ?_
 rintro _ w38 ⟨rfl, hR, c39⟩;replace HC := HC.trans c39 q4;replace ht := ht.tr c39 q1;replace hmx := hmx.tr c39 q1;replace hb4 := hb4.tr1 c39 q0;replace oK := oK.tr c39 q3;replace hb3 := hb3.tr1 c39 q0;replace hb37 := hb37.tr1 c39 q0;refine en <| x_cond rfl (fun h0 => ?_) (fun h0 => ?_)
 ·try simp only [nm, ne_eq] at h0
  have hbar : isT 2 [[124]] Y = true := by first | assumption | simp_all
  rw [if_pos hbar] at hR
  have hgT := hgY.tail (by rw [(isT_tail hbar).1]; decide)
  refine x_skip <| then_n <| x_block <| sr rfl <| mP rfl <| Wp rfl <| st_call (ags := [_]) rfl rfl T.ent14 rfl (glines_spec (Z := Y.tail) hgT hR hq) ?_;rintro _ w40 ⟨hR, c41⟩;replace HC := HC.trans c41 q4;replace ht := ht.tr c41 q1;replace hmx := hmx.tr c41 q1;replace hb4 := hb4.tr1 c41 q0;replace oK := oK.tr c41 q3;replace hb3 := hb3.tr1 c41 q0;replace hb37 := hb37.tr1 c41 q0;refine en ?_;have hsL := lines_suf hgT;have hsT := hsL.trans (Suf.tail hgY (by rw [(isT_tail hbar).1]; decide))
  have hgL := hsL.good;have hzL := hsT.gb hzY;refine x_draw [(0, 0), (1, 0), (2, 0), (3, 1), (4, 1), (5, 1), (6, 0), (7, 2)] T.mixed rfl rfl rfl (fun W => W.heap[b2]? = w40.heap[b2]? ∧ W.heap[b3]? = w40.heap[b3]? ∧ W.heap[b33]? = w40.heap[b33]? ∧ True) ⟨rfl, rfl, rfl, trivial⟩ ?_
  have o44 := hb4;have o45 := hb3;have o46 := hb37;have c43 := Chg.drew w40;generalize World.drew w40 = w42 at c43 ⊢;replace HC := HC.then c43;replace ht := ht.tr0 c43;replace hmx := hmx.tr0 c43;replace hb4 := hb4.tr0 c43;replace oK := oK.tr0 c43;replace hb3 := hb3.tr0 c43;replace hb37 := hb37.tr0 c43;replace hR := hR.tr0 c43;refine sq_q rfl (fun W hT => r_fieldAddr T.fld30_7 rfl) <| sq_q rfl (fun W hT => r_load1 (v := .slice _ _ _) T.one27 rfl (Blk.cell (show Blk W b3 _ _ from hT.2.1.trans o45) rfl)) <| sq_q rfl (fun W hT => r_move (v := .pointer _) rfl) ?_
  have ltC_b2 := hb4.lt;have ltC_b3 := hb3.lt;have ltC_b33 := hb37.lt;have olC_oK := oK.lt;have szlC := HC.size;refine sq_callP1 rfl (r_call (ags := [_]) rfl rfl T.ent64 rfl) (hcom _ _ hgL hzL hR hq hmx ht) ?_ ?_
  ·rintro _ w47 ⟨R9, e9, he9, hs9, rfl, c48⟩;replace HC := HC.trans c48 q4;intro E9;refine block_p <| then_p <| block_p <| then_p <| pp_panic ?_;exact ⟨R9, e9, by rw [pipeG, heP]; show Rs.bind (pipeL com RP.length [cP] RP) _ = _; rw [hpe, pipeL_er hbar he9]; rfl, (hs9.trans hsT).trans hsY, rfl, HC⟩
  rintro _ w49 ⟨cC, RC, vsC, heC, hsC, hlC, rfl, hvC, hR, c50⟩;obtain ⟨A1C, n1C, A2C, n2C, A3C, n3C, A4C, n4C, A5C, n5C, rfl, hAC, k1C, k2C, k3C, k4C, k5C⟩ := cm_open hvC;replace hvC := cmE.mono hvC (D' := (fun k => w42.heap.size ≤ k ∧ k < w49.heap.size)) (fun k hk h => ⟨h, hk⟩)
  have szC : w49.heap.size ≤ w49.heap.size := Nat.le_refl _;have szmC := c50.size;replace HC := HC.trans c50 q4;replace ht := ht.tr c50 q1;replace hmx := hmx.tr c50 q1;replace hb4 := hb4.tr1 c50 q0;replace oK := oK.tr c50 q3;replace hb3 := hb3.tr1 c50 q0;replace hb37 := hb37.tr1 c50 q0;refine ⟨_, fun _ h => h, ⟨(Eq.trans hb4 o44.symm), (Eq.trans hb3 o45.symm), (Eq.trans hb37 o46.symm), trivial⟩, ?_⟩
  refine sq_lit1 (ps := [(0, .tmp 20)]) (vs := [.int _ _, S _, .bool _, .bool _, .slice _ _ _, .slice _ _ _, .slice _ _ _, .slice _ _ _, .slice _ _ _]) rfl T.lit27 (by decide) rfl q6 rfl ?_
  intro b51 w52 e53 c54 hb55;have ge_b51 := gB e53 HC.size;have na_Kb51 : b51 ∉ ob (A) := oK.fresh (by rw [e53]; exact Nat.le_refl _)
  have gq_szC_b51 : w49.heap.size ≤ b51 := by rw [e53]; exact szC
  replace HC := HC.then c54;replace ht := ht.tr0 c54;replace hmx := hmx.tr0 c54;replace hb4 := hb4.tr0 c54;replace oK := oK.tr0 c54;replace hb3 := hb3.tr0 c54;replace hb37 := hb37.tr0 c54;replace hR := hR.tr0 c54;replace hvC := Enc.chg hvC c54 q8;replace szC := Nat.le_trans szC c54.size;clear e53;refine ext_T (b := b51) ⟨(Eq.trans hb4 o44.symm), (Eq.trans hb3 o45.symm), (Eq.trans hb37 o46.symm), trivial⟩ ?_;have o56 := hb55;have hszA := HC.size;refine sq_append1 (c := cmE) (D2 := (fun k => w42.heap.size ≤ k ∧ k < w49.heap.size)) (xs := l) (ys := [cC]) rfl T.slice27 rfl rfl oK rfl rfl (one_elem hvC (hb55.cells (n := 9) rfl)) (fun k _ h => ⟨⟨by omega, by omega, by omega⟩, fun hk => by have h8 := olC_oK k hk; omega⟩) (fun k hk => (by have h7 := HC.size; have h8 := hb4.lt; have h9 := hb3.lt; exact ⟨by omega, by omega, by omega⟩)) q7 q7 ?_
  intro A57 cap58 w59 ho60 c61 hg62;replace HC := HC.trans c61 (fun k hk => .inr ((oK.inD k hk).1))
  replace ht := ht.tr c61 (fun hx => by first | (have h1 := (oK.inD _ hx).1; omega) | (have h1 : w.heap.size ≤ 0 := oK.inD _ hx; omega))
  replace hmx := hmx.tr c61 (by intro hx; have hD := oK.inD _ hx; omega)
  replace hb4 := hb4.tr c61 (fun hx => by first | (have h1 := oK.inD _ hx; omega) | exact na_Kb2 hx | exact hav _ hx (by simp))
  replace hb3 := hb3.tr c61 (fun hx => by first | (have h1 := oK.inD _ hx; omega) | exact na_Kb3 hx | exact hav _ hx (by simp))
  replace hb37 := hb37.tr c61 (fun hx => by first | (have h1 := oK.inD _ hx; omega) | exact na_Kb33 hx | exact hav _ hx (by simp))
  replace hR := hR.tr c61 (by intro k hk; have hD := oK.inD k hk; omega)
  replace szC := Nat.le_trans szC c61.size;replace hb55 := hb55.tr c61 (fun hx => by first | (have h1 := oK.inD _ hx; omega) | exact na_Kb51 hx | exact hav _ hx (by simp))
  refine ⟨_, fun _ h => h, ⟨(Eq.trans hb55 o56.symm), ⟨(Eq.trans hb4 o44.symm), (Eq.trans hb3 o45.symm), (Eq.trans hb37 o46.symm), trivial⟩⟩, ?_⟩
  refine sq_q rfl (fun W hT => r_fieldAddr T.fld30_7 rfl) <| sq_store2 rfl T.size27 (v := .slice _ _ _) rfl rfl rfl hb3 rfl (Nat.le_of_ble_eq_true rfl) q5 rfl ?_
  intro w63 c64 hb65; simp only [setVs, setV] at hb65;clear hb3;replace HC := HC.then1 c64 ge_b3;replace ht := ht.tr c64 q1;replace hmx := hmx.tr c64 q1;replace hb4 := hb4.tr1 c64 ne_b2_b3;replace ho60 := ho60.tr c64 q3;replace hR := hR.tr c64 q2;replace szC := Nat.le_trans szC c64.size;clear o44;clear o45;clear o46;clear o56;refine sq_nil <| block_n <| then_n <| ⟨(n, l ++ [cC], RC, A57, cap58), ?_, ?_, rfl, trivial, ?_⟩
  ·refine ⟨?_, HC, ht, hmx, hb4, hR, ho60, (by rw [List.length_append]; exact hb65)⟩
   exact ⟨by rw [hpe]; exact pipeL_on hbar heC, (hsC.trans hsT).trans hsY, by have := hsT.len; have := tail_len hgY; omega, by have := hsT.len; have := tail_len hgY; simp only [List.length_append, List.length_cons, List.length_nil]; omega, by simp⟩
  ·show RC.length < Y.length; have := hsT.len; omega
  exact q9
 try simp only [nm, ne_eq] at h0
 have hbar : isT 2 [[124]] Y = false := by first | assumption | simp_all
 rw [if_neg (by rw [hbar]; simp)] at hR
 have hfin := hpe.trans (pipeL_end hbar);refine x_exit <| then_x <| then_x <| block_x <| then_n <| x_seq <| sr rfl <| fa T.fld30_7 rfl <| lL T.one27 rfl (hb3.cell rfl) <| Wp rfl <| st_len (ct := #[27]) (by rw [show ((#[27] : Array TypeId)[0]?).bind Tryz.prog.underlying = some (.slice 30) from T.u27]; rfl) rfl <| Wp rfl <| st_eql rfl rfl <| mB rfl <| w_split (d := 28) rfl (fun g66 => ?_) (fun g66 => ?_)
 ·try simp only [nm, ne_eq] at g66
  refine w_yes 4 28 true <| st_fieldAddr T.fld30_2 rfl <| w_yes 4 28 true <| st_load1 (v := .bool _) T.one4 rfl (hb3.cell rfl) <| w_yes 4 28 true <| st_not rfl <| pT rfl rfl <| en <| x_cond rfl (fun h1 => ?_) (fun h1 => ?_)
  ·try simp only [nm, ne_eq] at h1
   obtain ⟨c0, rfl⟩ := List.length_eq_one_iff.1 (show l.length = 1 by omega)
   have hslo := oK.sl;refine sr rfl <| fa T.fld30_7 rfl <| lL T.one27 rfl (hb3.cell rfl) ?_;obtain ⟨lb71, _, vs70, hA67, hR69, hC68⟩ := hslo.at (i := 0) (x := c0) (rfl);have hvE := hR69;obtain ⟨A1E, n1E, A2E, n2E, A3E, n3E, A4E, n4E, A5E, n5E, rfl, hAE, k1E, k2E, k3E, k4E, k5E⟩ := cm_open hR69;refine Wp rfl <| st_indexAddr T.u27 T.size30 (congrArg (fun z => Value.slice z _ _) hA67) rfl (by decide) (by simp) <| Wp rfl <| st_loadA (vs := [_, _, _, _, _, _, _, _, _]) T.agg30 rfl hC68 rfl <| Wp rfl <| st_st (v := .agg ⟨[_, _, _, _, _, _, _, _, _]⟩) T.size30 rfl rfl rfl hb4 ?_
   intro w72 c73 hb74; simp only [setVs, setV] at hb74;clear hb4;replace HC := HC.then1 c73 ge_b2;replace hR := hR.tr c73 q2;replace hvE := Enc.chg hvE c73 q3;refine en <| x_ret <| then_r <| pp_ret <| ret_cellA (vs := [_, _, _, _, _, _, _, _, _]) rfl rfl T.agg30 (hb74.cells (n := 9) rfl) rfl <| ⟨_, Y, _, by rw [pipeG, heP]; show Rs.bind (pipeL com RP.length [cP] RP) _ = _; rw [hfin]; rfl, hsY, by omega, rfl, ?_, hR, HC⟩
   rw [show pipeC (isT 1 [[33]] Z) [c0] = c0 by unfold pipeC; rw [if_pos ⟨rfl, by first | assumption | simp_all⟩]; rfl]
   exact cmE.mono hvE (fun k _ h => h.1)
  try simp only [nm, ne_eq] at h1
  refine x_skip <| then_n <| sr rfl <| Wp rfl <| st_loadA (vs := [_, _, _, _, _, _, _, _, _]) T.agg30 rfl (hb3.cells (n := 9) (vs := [_, _, _, _, _, _, _, _, _]) rfl) rfl <| Wp rfl <| st_st (v := .agg ⟨[_, _, _, _, _, _, _, _, _]⟩) T.size30 rfl rfl rfl hb4 ?_;intro w75 c76 hb77; simp only [setVs, setV] at hb77;clear hb4;replace HC := HC.then1 c76 ge_b2;replace oK := oK.tr c76 q3;replace hR := hR.tr c76 q2;refine en <| x_ret <| pp_ret <| ret_cellA (vs := [_, _, _, _, _, _, _, _, _]) rfl rfl T.agg30 (hb77.cells (n := 9) rfl) rfl <| ⟨_, Y, _, by rw [pipeG, heP]; show Rs.bind (pipeL com RP.length [cP] RP) _ = _; rw [hfin]; rfl, hsY, by omega, rfl, ?_, hR, HC⟩
  rw [show pipeC (isT 1 [[33]] Z) l = .mk 2 [] (isT 1 [[33]] Z) false [] [] [] l [] by unfold pipeC; rw [if_neg (by rintro ⟨h7, h8⟩; first | omega | simp_all)]]
  exact cm_shut (c := .mk 2 [] (isT 1 [[33]] Z) false [] [] [] l []) ⟨.nil, .nil, .nil, oK.sl.mono (fun k _ h => h.1), .nil⟩ ⟨Nat.le_refl _, by decide⟩ ⟨Nat.le_refl _, by decide⟩ ⟨Nat.le_refl _, by decide⟩ oK.le ⟨Nat.le_refl _, by decide⟩
 try simp only [nm, ne_eq] at g66
 iterate 3 refine w_no 4 28 true ?_
 refine pF rfl rfl <| en <| x_cond (t := false) rfl (fun h1 => ?_) (fun h1 => ?_)
 · exact absurd h1 (by decide)
 refine x_skip <| then_n <| sr rfl <| Wp rfl <| st_loadA (vs := [_, _, _, _, _, _, _, _, _]) T.agg30 rfl (hb3.cells (n := 9) (vs := [_, _, _, _, _, _, _, _, _]) rfl) rfl <| Wp rfl <| st_st (v := .agg ⟨[_, _, _, _, _, _, _, _, _]⟩) T.size30 rfl rfl rfl hb4 ?_;intro w78 c79 hb80; simp only [setVs, setV] at hb80;clear hb4;replace HC := HC.then1 c79 ge_b2;replace oK := oK.tr c79 q3;replace hR := hR.tr c79 q2;refine en <| x_ret <| pp_ret <| ret_cellA (vs := [_, _, _, _, _, _, _, _, _]) rfl rfl T.agg30 (hb80.cells (n := 9) rfl) rfl <| ⟨_, Y, _, by rw [pipeG, heP]; show Rs.bind (pipeL com RP.length [cP] RP) _ = _; rw [hfin]; rfl, hsY, by omega, rfl, ?_, hR, HC⟩
 rw [show pipeC (isT 1 [[33]] Z) l = .mk 2 [] (isT 1 [[33]] Z) false [] [] [] l [] by unfold pipeC; rw [if_neg (by rintro ⟨h7, h8⟩; first | omega | simp_all)]]
 exact cm_shut (c := .mk 2 [] (isT 1 [[33]] Z) false [] [] [] l []) ⟨.nil, .nil, .nil, oK.sl.mono (fun k _ h => h.1), .nil⟩ ⟨Nat.le_refl _, by decide⟩ ⟨Nat.le_refl _, by decide⟩ ⟨Nat.le_refl _, by decide⟩ oK.le ⟨Nat.le_refl _, by decide⟩
end Go.Proofs.YtghjmiggobpmoaaGreatDoor.K
