import Derived.Test.YtghjmiggobpmoaaGreatDoorGe
import Derived.Test.YtghjmiggobpmoaaGreatDoorGu
import Derived.Test.YtghjmiggobpmoaaGreatDoorKitV
import Derived.Lib.IndexBytes
import Derived.Test.YtghjmiggobpmoaaGreatDoorTok
set_option linter.unusedVariables false
set_option linter.unusedSimpArgs false
set_option autoImplicit false
set_option maxRecDepth 20000
namespace Go.Proofs.YtghjmiggobpmoaaGreatDoor.K
open Go Go.RowKit
def hereO (o : Bytes) : Bool := Lib.hasPrefix o [60, 60]
def hereX (o : Bytes) : Bool := decide (o = [60, 60]) || decide (o = [60, 60, 45])
def HopEx (t : Tok) : Prop := t.kind = 2 → t.text ∈ opsT
def hopB (t : Tok) : Bool := decide (t.kind = 2) && hereO t.text
inductive Here : Cm → Prop
  | rd {c : Cm} {r : Rdr} (h : r ∈ c.rds) (q : hereX r.op = true) : Here c
  | kid {c k : Cm} (h : k ∈ c.kids) (q : Here k) : Here c
  | item {c k : Cm} {x : List Bytes × List Cm} (h : x ∈ c.items) (h2 : k ∈ x.2) (q : Here k) : Here c
inductive Ti (F : Prop) (d : Int) : Bool → List Tok → List Tok → Prop
  | nil {b : Bool} : Ti F d b [] []
  | cons {b : Bool} {t t' : Tok} {r r' : List Tok} (k : t'.kind = t.kind) (x : t'.text = t.text) (w : t'.raw = t.raw) (h : F ∨ b = false → t'.here = t.here) (p : F → t'.at_ = t.at_ + d) (s : Ti F d (hopB t) r r') : Ti F d b (t :: r) (t' :: r')
  | ins {b : Bool} {e n e' : Tok} (f : ¬ F) (k : e.kind = 0) (k2 : n.kind = 3) (k3 : e'.kind = 0) (x : e'.text = e.text) (w : e'.raw = e.raw) (h : e'.here = e.here) : Ti F d b [e] [n, e']
section
variable {F : Prop} {d : Int}
theorem Ti.up {b b' : Bool} {T T' : List Tok} (h : Ti F d b T T') (hb : F ∨ b = false → F ∨ b' = false) (hr : b = true → b' = true ∨ F) : Ti F d b' T T' := by
  cases h with
  | nil => exact .nil
  | cons k x w h p s => exact .cons k x w (fun q => h (by
      rcases q with q | q
      · exact .inl q
      cases hbb : b with
      | false => exact .inr rfl
      | true => rcases hr hbb with h1 | h1
                · rw [h1] at q; cases q
                exact .inl h1)) p s
  | ins f k k2 k3 x w h => exact .ins f k k2 k3 x w h
theorem Ti.any {b b' : Bool} {T T' : List Tok} (h : Ti F d b T T') (hF : F) : Ti F d b' T T' := h.up (fun _ => .inl hF) (fun _ => .inr hF)
structure Tr (F : Prop) (d : Int) (T T' : List Tok) : Prop where
  g : GT T
  g' : GT T'
  t : Ti F d false T T'
  q : ∀ t, t ∈ T → HopEx t
theorem Ti.hk {b : Bool} {T T' : List Tok} (h : Ti F d b T T') (hk : (hd T).kind ≠ 0) : (hd T').kind = (hd T).kind ∧ (hd T').text = (hd T).text ∧ (hd T').raw = (hd T).raw := by
  cases h with
  | nil => exact ⟨rfl, rfl, rfl⟩
  | cons k x w h p s => exact ⟨k, x, w⟩
  | ins f k k2 k3 x w h => exact absurd k hk
theorem Ti.hF {b : Bool} {T T' : List Tok} (h : Ti F d b T T') (hF : F) : (hd T').kind = (hd T).kind ∧ (hd T').text = (hd T).text := by
  cases h with
  | nil => exact ⟨rfl, rfl⟩
  | cons k x w h p s => exact ⟨k, x⟩
  | ins f k k2 k3 x w h => exact absurd hF f
theorem Ti.kd {b : Bool} {T T' : List Tok} (h : Ti F d b T T') {k : Int} (h0 : k ≠ 0) (h3 : k ≠ 3) : (hd T').kind = k ↔ (hd T).kind = k := by
  cases h with
  | nil => exact Iff.rfl
  | cons q x w h p s => show _ = k ↔ _ = k; rw [show (hd (_ :: _)).kind = _ from q]; rfl
  | ins f q k2 k3 x w h => show _ = k ↔ _ = k; rw [show (hd [_, _]).kind = 3 from k2, show (hd [_]).kind = 0 from q]; exact ⟨fun h => absurd h.symm h3, fun h => absurd h.symm h0⟩
theorem Ti.is {b : Bool} {T T' : List Tok} (h : Ti F d b T T') {k : Int} (h0 : k ≠ 0) (h3 : k ≠ 3) (l : List Bytes) : isT k l T' = isT k l T := by
  unfold isT
  by_cases hk : (hd T).kind = k
  · obtain ⟨q1, q2, _⟩ := h.hk (by rw [hk]; exact h0)
    rw [q1, q2]
  have hk' : ¬ (hd T').kind = k := fun e => hk ((h.kd h0 h3).1 e)
  rw [decide_eq_false hk, decide_eq_false hk']; rfl
theorem Ti.tl {b : Bool} {T T' : List Tok} (h : Ti F d b T T') (hk : (hd T).kind ≠ 0) : Ti F d (hopB (hd T)) T.tail T'.tail := by
  cases h with
  | nil => exact .nil
  | cons k x w h p s => exact s
  | ins f k k2 k3 x w h => exact absurd k hk
theorem Tr.tl {T T' : List Tok} (h : Tr F d T T') (hk : (hd T).kind ≠ 0) (hb : hopB (hd T) = false) : Tr F d T.tail T'.tail :=
  ⟨h.g.tail hk, h.g'.tail (by rw [(h.t.hk hk).1]; exact hk), by have := h.t.tl hk; rwa [hb] at this, fun t ht => h.q t (List.mem_of_mem_tail ht)⟩
theorem Tr.len {T T' : List Tok} (h : Tr F d T T') : 0 < T.length ∧ 0 < T'.length ∧ T.tail.length + 1 = T.length ∧ T'.tail.length + 1 = T'.length := ⟨h.g.pos, h.g'.pos, tail_len h.g, tail_len h.g'⟩
theorem hop_k {t : Tok} (h : t.kind ≠ 2) : hopB t = false := by unfold hopB; rw [decide_eq_false h]; rfl
theorem hop_x {t : Tok} (h : hereO t.text = false) : hopB t = false := by unfold hopB; rw [h, Bool.and_false]
theorem isT_text {k : Int} {l : List Bytes} {T : List Tok} (h : isT k l T = true) : (hd T).kind = k ∧ (hd T).text ∈ l := by
  unfold isT at h
  rw [Bool.and_eq_true] at h
  exact ⟨of_decide_eq_true h.1, List.contains_iff_mem.1 h.2⟩
theorem isT_hop {k : Int} {l : List Bytes} {T : List Tok} (h : isT k l T = true) (hl : l.all (fun o => !hereO o) = true) : hopB (hd T) = false :=
  hop_x (by have := List.all_eq_true.1 hl _ (isT_text h).2; simpa using this)
theorem Ti.lines : ∀ {b : Bool} {T T' : List Tok}, Ti F d b T T' → b = false → GT T → GT T' → Ti F d false (linesG T) (linesG T') := by
  intro b T T' h
  induction h with
  | nil => exact fun _ _ _ => .nil
  | @cons b t t' r r' k x w h p s ih =>
    intro hb hg hg';subst hb
    by_cases hk : t.kind = 3
    · rw [linesG, if_pos hk, linesG, if_pos (k.trans hk)]
      have hh : hopB t = false := hop_k (by rw [hk]; decide)
      exact ih hh (hg.tail (by rw [show (hd (t :: r)).kind = t.kind from rfl, hk]; decide)) (hg'.tail (by rw [show (hd (t' :: r')).kind = t'.kind from rfl, k, hk]; decide))
    rw [linesG, if_neg hk, linesG, if_neg (by rw [k]; exact hk)]
    exact .cons k x w h p s
  | ins f k k2 k3 x w h =>
    intro hb _ _;rw [linesG, if_neg (by rw [k]; decide), linesG, if_pos k2, linesG, if_neg (by rw [k3]; decide)]
    exact .cons (k3.trans k.symm) x w (fun _ => h) (fun hF => absurd hF f) .nil
theorem Tr.lines {T T' : List Tok} (h : Tr F d T T') : Tr F d (linesG T) (linesG T') := ⟨(lines_suf h.g).good, (lines_suf h.g').good, h.t.lines rfl h.g h.g', fun t ht => h.q t ((lines_suf h.g).suf.subset ht)⟩
inductive RR (F : Prop) (d : Int) {α : Type} (X : α → α → Prop) (N N' : Nat) : Rs α → Rs α → Prop
  | ok {x x' : α} {r r' : List Tok} (hx : X x x') (ht : Tr F d r r') (hn : r.length ≤ N) (hn' : r'.length ≤ N') : RR F d X N N' (.ok x r) (.ok x' r')
  | er {r r' : List Tok} {e : Int} (ht : Tr F d r r') : RR F d X N N' (.er r e) (.er r' e)
  | any {r : List Tok} {e : Int} {y : Rs α} (f : ¬ F) : RR F d X N N' (.er r e) y
theorem RR.bind {α β : Type} {X : α → α → Prop} {Y : β → β → Prop} {N N' M M' : Nat} {a a' : Rs α} {f f' : α → List Tok → Rs β} (h : RR F d X N N' a a') (k : ∀ x x' r r', X x x' → Tr F d r r' → r.length ≤ N → r'.length ≤ N' → RR F d Y M M' (f x r) (f' x' r')) : RR F d Y M M' (a.bind f) (a'.bind f') := by
  cases h with
  | ok hx ht hn hn' => exact k _ _ _ _ hx ht hn hn'
  | er ht => exact .er ht
  | any hf => exact .any hf
theorem RR.up {α : Type} {X : α → α → Prop} {N N' M M' : Nat} {a a' : Rs α} (h : RR F d X N N' a a') (h1 : N ≤ M) (h2 : N' ≤ M') : RR F d X M M' a a' := by
  cases h with
  | ok hx ht hn hn' => exact .ok hx ht (Nat.le_trans hn h1) (Nat.le_trans hn' h2)
  | er ht => exact .er ht
  | any hf => exact .any hf
theorem want_r {T T' : List Tok} (h : Tr F d T T') {k : Int} (h0 : k ≠ 0) (h3 : k ≠ 3) {s : Bytes} (hs : hereO s = false) : RR F d (fun _ _ => True) T.tail.length T'.tail.length (wantG k s T) (wantG k s T') := by
  unfold wantG
  rw [h.t.is h0 h3]
  by_cases hi : isT k [s] T = true
  · rw [if_pos hi, if_pos hi]
    exact .ok trivial (h.tl (by rw [(isT_text hi).1]; exact h0) (isT_hop hi (by simp [hs]))) (Nat.le_refl _) (Nat.le_refl _)
  rw [if_neg hi, if_neg hi]; exact .er h
def XT (F : Prop) (b : Bool) (t t' : Tok) : Prop := t'.text = t.text ∧ t'.raw = t.raw ∧ (F ∨ b = false → t'.here = t.here)
theorem any_b {b : Bool} {T T' : List Tok} (hg : GT T) (hg' : GT T') (hq : ∀ t, t ∈ T → HopEx t) (h : Ti F d b T T') : RR F d (XT F b) T.tail.length T'.tail.length (anyG T) (anyG T') := by
  unfold anyG
  by_cases hk : (hd T).kind = 1
  · rw [if_pos hk, if_pos ((h.kd (by decide) (by decide)).2 hk)]
    refine .ok ?_ ⟨hg.tail (by rw [hk]; decide), hg'.tail (by rw [(h.kd (k := 1) (by decide) (by decide)).2 hk]; decide), ?_, fun t ht => hq t (List.mem_of_mem_tail ht)⟩ (Nat.le_refl _) (Nat.le_refl _)
    · cases h with
      | nil => exact ⟨rfl, rfl, fun _ => rfl⟩
      | cons k x w h p s => exact ⟨x, w, h⟩
      | ins f k k2 k3 x w h => exact absurd (show (0 : Int) = 1 from k.symm.trans hk) (by decide)
    have := h.tl (by rw [hk]; decide)
    rwa [hop_k (by rw [hk]; decide)] at this
  rw [if_neg hk, if_neg (fun e => hk ((h.kd (by decide) (by decide)).1 e))]
  by_cases hF : F
  · exact .er ⟨hg, hg', h.any hF, hq⟩
  exact .any hF
theorem any_r {T T' : List Tok} (h : Tr F d T T') : RR F d (XT F false) T.tail.length T'.tail.length (anyG T) (anyG T') := any_b h.g h.g' h.q h.t
def XRd (F : Prop) (x x' : Rdr) : Prop := x'.op = x.op ∧ (F ∨ hereX x.op = false → x = x')
def XO (F : Prop) : Option Rdr → Option Rdr → Prop
  | none, none => True
  | some x, some x' => XRd F x x'
  | _, _ => False
theorem xrd_mk {fd fd' : Int} {o o' : Bytes} {t t' : Tok} {b : Bool} (hf : fd' = fd) (ho : o' = o) (hb : F ∨ hereX o = false → F ∨ b = false) (h : XT F b t t') : XRd F ⟨fd, o, t.text, t.here, t.raw⟩ ⟨fd', o', t'.text, t'.here, t'.raw⟩ := by
  subst hf ho
  refine ⟨rfl, fun q => ?_⟩
  obtain ⟨h1, h2, h3⟩ := h;rw [h1, h2, h3 (hb q)]
theorem hop_b {t : Tok} (hx : HopEx t) (q : F ∨ hereX t.text = false) : F ∨ hopB t = false := q.imp id fun q => by
  by_cases hk : t.kind = 2
  · have hall : ∀ o, o ∈ opsT → hereX o = false → hereO o = false := by decide
    exact hop_x (hall _ (hx hk) q)
  exact hop_k hk
theorem hd_in {T : List Tok} (h : GT T) : hd T ∈ T := by rw [h.cons]; exact List.mem_cons_self
def XRe (F : Prop) (d : Int) (N N' : Nat) (x x' : Option Rdr) (r r' : List Tok) : Prop := XO F x x' ∧ Tr F d r r' ∧ r.length ≤ N ∧ r'.length ≤ N' ∧ (x ≠ none → r.length < N ∧ r'.length < N')
theorem redir_r {β : Type} {Y : β → β → Prop} {M M' : Nat} {T T' : List Tok} {f f' : Option Rdr → List Tok → Rs β} (h : Tr F d T T') (k : ∀ x x' r r', XRe F d T.length T'.length x x' r r' → (x = none → r = T ∧ r' = T') → RR F d Y M M' (f x r) (f' x' r')) : RR F d Y M M' ((redirG T).bind f) ((redirG T').bind f') := by
  obtain ⟨l1, l2, l3, l4⟩ := h.len;have h4 := h.t.kd (k := 4) (by decide) (by decide)
  have h2 := h.t.kd (k := 2) (by decide) (by decide)
  unfold redirG
  by_cases hc : (hd T).kind ≠ 4 ∧ ((hd T).kind ≠ 2 ∨ redB (hd T).text = false)
  · have hc' : (hd T').kind ≠ 4 ∧ ((hd T').kind ≠ 2 ∨ redB (hd T').text = false) := by
      refine ⟨fun e => hc.1 (h4.1 e), ?_⟩
      by_cases q : (hd T).kind = 2
      · rw [(h.t.hk (by rw [q]; decide)).2.1]
        exact .inr (hc.2.resolve_left (fun n => n q))
      exact .inl fun e => q (h2.1 e)
    rw [if_pos hc, if_pos hc']
    exact k _ _ _ _ ⟨trivial, h, Nat.le_refl _, Nat.le_refl _, fun e => absurd rfl e⟩ fun _ => ⟨rfl, rfl⟩
  have hk0 : (hd T).kind ≠ 0 := fun e => hc ⟨by rw [e]; decide, .inl (by rw [e]; decide)⟩
  obtain ⟨q1, q2, q3⟩ := h.t.hk hk0;have hc' : ¬ ((hd T').kind ≠ 4 ∧ ((hd T').kind ≠ 2 ∨ redB (hd T').text = false)) := by rw [q1, q2]; exact hc
  rw [if_neg hc, if_neg hc', q1, q2]
  by_cases hi : (hd T).kind = 4
  · rw [if_pos hi, if_pos hi]
    have hio := h.g.io hi;have hT := h.tl hk0 (hop_k (by rw [hi]; decide))
    have hk1 : (hd T.tail).kind ≠ 0 := by rw [hio.2]; decide
    obtain ⟨p1, p2, p3⟩ := hT.t.hk hk1;obtain ⟨m1, m2, m3, m4⟩ := hT.len;have ha := any_b (hT.g.tail hk1) (hT.g'.tail (by rw [p1]; exact hk1)) (fun t ht => hT.q t (List.mem_of_mem_tail ht)) (hT.t.tl hk1)
    generalize hA : anyG T.tail.tail = A at ha
    generalize hA' : anyG T'.tail.tail = A' at ha
    cases ha with
    | ok hx ht hn hn' =>
      rw [List.length_tail] at hn hn'
      exact k _ _ _ _ ⟨xrd_mk rfl p2 (fun q => hop_b (hT.q _ (hd_in hT.g)) q) hx, ht, by omega, by omega, fun _ => ⟨by omega, by omega⟩⟩ fun e => by cases e
    | er ht => exact .er ht
    | any hf => exact .any hf
  rw [if_neg hi, if_neg hi]
  have ha := any_b (h.g.tail hk0) (h.g'.tail (by rw [q1]; exact hk0)) (fun t ht => h.q t (List.mem_of_mem_tail ht)) (h.t.tl hk0)
  generalize hA : anyG T.tail = A at ha
  generalize hA' : anyG T'.tail = A' at ha
  cases ha with
  | ok hx ht hn hn' =>
    rw [List.length_tail] at hn hn'
    exact k _ _ _ _ ⟨xrd_mk rfl rfl (fun q => hop_b (h.q _ (hd_in h.g)) q) hx, ht, by omega, by omega, fun _ => ⟨by omega, by omega⟩⟩ fun e => by cases e
  | er ht => exact .er ht
  | any hf => exact .any hf
def XRs (F : Prop) (l l' : List Rdr) : Prop := l'.length = l.length ∧ (F ∨ (∀ r, r ∈ l → hereX r.op = false) → l = l')
theorem XRs.snoc {l l' : List Rdr} {x x' : Rdr} (h : XRs F l l') (hx : XRd F x x') : XRs F (l ++ [x]) (l' ++ [x']) :=
  ⟨by simp [h.1], fun q => by rw [h.2 (q.imp id fun q r hr => q r (by simp [hr])), hx.2 (q.imp id fun q => q x (by simp))]⟩
theorem redirs_r : ∀ (n n' : Nat) {l l' : List Rdr} {T T' : List Tok}, Tr F d T T' → T.length ≤ n → T'.length ≤ n' → XRs F l l' → RR F d (XRs F) T.length T'.length (redirsG n l T) (redirsG n' l' T')
  | 0, _, l, l', T, T', h, hn, hn', hl => by have := h.len; omega
  | _, 0, l, l', T, T', h, hn, hn', hl => by have := h.len; omega
  | n + 1, n' + 1, l, l', T, T', h, hn, hn', hl => by
    rw [redirsG, redirsG]
    refine redir_r h fun x x' r r' ⟨h1, h2, h3, h4, h5⟩ _ => ?_
    match x, x', h1 with
    | none, none, _ => exact .ok hl h2 h3 h4
    | some x, some x', h1 =>
      have h6 := h5 (by simp)
      exact (redirs_r n n' h2 (by omega) (by omega) (hl.snoc h1)).up h3 h4
def XC (F : Prop) (c c' : Cm) : Prop := F ∨ ¬ Here c → c = c'
def XCs (F : Prop) (l l' : List Cm) : Prop := l'.length = l.length ∧ (F ∨ (∀ c, c ∈ l → ¬ Here c) → l = l')
def XIs (F : Prop) (l l' : List (List Bytes × List Cm)) : Prop := F ∨ (∀ x, x ∈ l → ∀ k, k ∈ x.2 → ¬ Here k) → l = l'
theorem XCs.nil : XCs F [] [] := ⟨rfl, fun _ => rfl⟩
theorem XCs.snoc {l l' : List Cm} {x x' : Cm} (h : XCs F l l') (hx : XC F x x') : XCs F (l ++ [x]) (l' ++ [x']) :=
  ⟨by simp [h.1], fun q => by rw [h.2 (q.imp id fun q r hr => q r (by simp [hr])), hx (q.imp id fun q => q x (by simp))]⟩
theorem XCs.one {x x' : Cm} (hx : XC F x x') : XCs F [x] [x'] := XCs.nil.snoc hx
theorem XC.kids {k : Int} {l l' : List Cm} (h : XCs F l l') : XC F (kidsC k l) (kidsC k l') := fun q => by
  rw [h.2 (q.imp id fun q c hc hh => q (.kid hc hh))]
theorem XC.mk {k k' : Int} {n n' : Bytes} {b b' i i' : Bool} {a a' : List (Bytes × Bytes)} {w w' : List Bytes} {r r' : List Rdr} {l l' : List Cm} {I I' : List (List Bytes × List Cm)} (h1 : k' = k) (h2 : n' = n) (h3 : b' = b) (h4 : i' = i) (h5 : a' = a) (h6 : w' = w) (h7 : XRs F r r') (h8 : XCs F l l') (h9 : XIs F I I') : XC F (.mk k n b i a w r l I) (.mk k' n' b' i' a' w' r' l' I') := fun q => by
  subst h1 h2 h3 h4 h5 h6
  rw [h7.2 (q.imp id fun q x hx => by
      cases hh : hereX x.op with
      | false => rfl
      | true => exact absurd (Here.rd (c := .mk k' n' b' i' a' w' r l I) hx hh) q), h8.2 (q.imp id fun q c hc hh => q (.kid hc hh)), h9 (q.imp id fun q x hx c hc hh => q (.item hx hc hh))]
theorem XRs.nil : XRs F [] [] := ⟨rfl, fun _ => rfl⟩
theorem XIs.nil : XIs F [] [] := fun _ => rfl
theorem XC.head {l l' : List Cm} (h : XCs F l l') (h1 : l.length = 1) : XC F (l.headD zCm) (l'.headD zCm) := fun q => by
  match l, l', h1, h.1 with
  | [c], [c'], _, _ =>
    have := h.2 (q.imp id fun q x hx => by rw [List.mem_singleton.1 hx]; exact q)
    rw [this]
theorem XC.pipe {b : Bool} {l l' : List Cm} (h : XCs F l l') : XC F (pipeC b l) (pipeC b l') := by
  unfold pipeC; rw [h.1]
  by_cases hc : l.length = 1 ∧ b = false
  · rw [if_pos hc, if_pos hc]; exact XC.head h hc.1
  rw [if_neg hc, if_neg hc]; exact .mk rfl rfl rfl rfl rfl rfl .nil h .nil
theorem XC.list {l l' : List Cm} (h : XCs F l l') : XC F (listC l) (listC l') := by
  unfold listC; rw [h.1]
  by_cases hc : l.length = 1
  · rw [if_pos hc, if_pos hc]; exact XC.head h hc
  rw [if_neg hc, if_neg hc]; exact .kids h
theorem XC.if_ {c c' d0 d0' : Cm} {p : Prop} [Decidable p] (h : XC F c c') (k : XC F d0 d0') : XC F (if p then c else d0) (if p then c' else d0') := by split <;> assumption
theorem simple_r : ∀ (n n' : Nat) (a : List (Bytes × Bytes)) (ws : List Bytes) {l l' : List Rdr} {T T' : List Tok}, Tr F d T T' → T.length ≤ n → T'.length ≤ n' → XRs F l l' → RR F d (XC F) T.length T'.length (simpleG n a ws l T) (simpleG n' a ws l' T')
  | 0, _, a, ws, l, l', T, T', h, hn, hn', hl => by have := h.len; omega
  | _, 0, a, ws, l, l', T, T', h, hn, hn', hl => by have := h.len; omega
  | n + 1, n' + 1, a, ws, l, l', T, T', h, hn, hn', hl => by
    obtain ⟨l1, l2, l3, l4⟩ := h.len;rw [simpleG, simpleG];refine redir_r h fun x x' r r' ⟨h1, h2, h3, h4, h5⟩ h6 => ?_
    match x, x', h1 with
    | some x, some x', h1 =>
      have h6 := h5 (by simp)
      exact (simple_r n n' a ws h2 (by omega) (by omega) (hl.snoc h1)).up h3 h4
    | none, none, _ =>
      dsimp only
      have k1 := h.t.kd (k := 1) (by decide) (by decide)
      by_cases hk : (hd T).kind = 1
      · rw [if_neg (show ¬ ((hd T).kind ≠ 1) from fun e => e hk), if_neg (show ¬ ((hd T').kind ≠ 1) from fun e => e (k1.2 hk))]
        rw [(h.t.hk (by rw [hk]; decide)).2.1]
        have ht := h.tl (by rw [hk]; decide) (hop_k (by rw [hk]; decide))
        split
        · exact (simple_r n n' _ ws ht (by omega) (by omega) hl).up (by omega) (by omega)
        exact (simple_r n n' a _ ht (by omega) (by omega) hl).up (by omega) (by omega)
      rw [if_pos (show (hd T).kind ≠ 1 from hk), if_pos (show (hd T').kind ≠ 1 from fun e => hk (k1.1 e)), hl.1]
      split
      · exact .er h
      exact .ok (.mk rfl rfl rfl rfl rfl rfl hl .nil .nil) h (Nat.le_refl _) (Nat.le_refl _)
theorem starts_r {T T' : List Tok} (h : Tr F d T T') : startsB T' = startsB T := by
  have k1 := h.t.kd (k := 1) (by decide) (by decide)
  have k2 := h.t.kd (k := 2) (by decide) (by decide)
  have k4 := h.t.kd (k := 4) (by decide) (by decide)
  unfold startsB
  by_cases q1 : (hd T).kind = 1
  · rw [if_pos q1, if_pos (k1.2 q1), (h.t.hk (by rw [q1]; decide)).2.1]
  rw [if_neg q1, if_neg (fun e => q1 (k1.1 e))]
  by_cases q2 : (hd T).kind = 2
  · rw [if_pos q2, if_pos (k2.2 q2), (h.t.hk (by rw [q2]; decide)).2.1]
  rw [if_neg q2, if_neg (fun e => q2 (k2.1 e))]
  exact decide_eq_decide.2 k4
theorem opens_r {T T' : List Tok} (h : Tr F d T T') : opensB T' = opensB T := by
  have k1 := h.t.kd (k := 1) (by decide) (by decide)
  unfold opensB
  rw [h.t.is (by decide) (by decide)]
  by_cases q1 : (hd T).kind = 1
  · rw [(h.t.hk (by rw [q1]; decide)).2.1, (h.t.hk (by rw [q1]; decide)).1]
  rw [decide_eq_false q1, decide_eq_false (fun e => q1 (k1.1 e))]; rfl
theorem lines_hd' : ∀ (T : List Tok), (hd (linesG T)).kind ≠ 3
  | [] => by rw [linesG]; decide
  | t :: r => by
    rw [linesG]; split
    · exact lines_hd' r
    assumption
theorem Tr.k0 {T T' : List Tok} (h : Tr F d T T') (h3 : (hd T').kind ≠ 3) : (hd T').kind = (hd T).kind := by
  by_cases hk : (hd T).kind = 0
  · cases hh : h.t with
    | nil => rfl
    | cons k x w h p s => exact k
    | ins f k k2 k3 x w h => exact absurd k2 h3
  exact (h.t.hk hk).1
theorem Tr.more {T T' : List Tok} (h : Tr F d T T') : (moreB T' = moreB T ∧ (moreB T = true → (hd T).kind ≠ 0 ∧ hopB (hd T) = false)) ∨ (¬ F ∧ moreB T = false ∧ moreB T' = true ∧ startsB (linesG T'.tail) = false ∧ Tr F d T (linesG T'.tail) ∧ (linesG T'.tail).length ≤ T'.length) := by
  have hm : ∀ {T : List Tok}, moreB T = true → (hd T).kind ≠ 0 ∧ hopB (hd T) = false := fun {T} hm => by
    unfold moreB at hm
    rcases Bool.or_eq_true_iff.1 hm with q | q
    · exact ⟨by rw [(isT_text q).1]; decide, isT_hop q (by decide)⟩
    have q := of_decide_eq_true q;exact ⟨by rw [q]; decide, hop_k (by rw [q]; decide)⟩
  obtain ⟨g, g', t, hq⟩ := h
  cases t with
  | nil => exact g.elim
  | cons k x w hh p s =>
    refine .inl ⟨?_, hm⟩
    unfold moreB isT
    rw [show (hd (_ :: _)).kind = _ from k, show (hd (_ :: _)).text = _ from x]; rfl
  | @ins _ e n e' f k k2 k3 x w hh =>
    have hl : linesG [e'] = [e'] := by rw [linesG, if_neg (by rw [k3]; decide)]
    refine .inr ⟨f, ?_, ?_, ?_, ?_, ?_⟩
    · unfold moreB isT; rw [show (hd [e]).kind = 0 from k]; rfl
    · unfold moreB; rw [show (hd [n, e']).kind = 3 from k2]; simp
    · show startsB (linesG [e']) = false
      rw [hl]; unfold startsB; rw [show (hd [e']).kind = 0 from k3]; rfl
    · show Tr F d [e] (linesG [e'])
      rw [hl]; exact ⟨g, k3, .cons (k3.trans k.symm) x w (fun _ => hh) (fun hF => absurd hF f) .nil, hq⟩
    show (linesG [e']).length ≤ 2
    rw [hl]; simp
section
variable {com : List Tok → Rs Cm} (hc : ∀ T T', Tr F d T T' → RR F d (XC F) T.length T'.length (com T) (com T'))
include hc
theorem pipeL_r : ∀ (n n' : Nat) {l l' : List Cm} {T T' : List Tok}, Tr F d T T' → T.length ≤ n → T'.length ≤ n' → XCs F l l' → RR F d (XCs F) T.length T'.length (pipeL com n l T) (pipeL com n' l' T')
  | 0, _, l, l', T, T', h, hn, hn', hl => by have := h.len; omega
  | _, 0, l, l', T, T', h, hn, hn', hl => by have := h.len; omega
  | n + 1, n' + 1, l, l', T, T', h, hn, hn', hl => by
    obtain ⟨l1, l2, l3, l4⟩ := h.len;rw [pipeL, pipeL, h.t.is (by decide) (by decide)]
    by_cases hi : isT 2 [[124]] T = true
    · rw [if_pos hi, if_pos hi]
      have ht := h.tl (by rw [(isT_text hi).1]; decide) (isT_hop hi (by decide))
      have q1 := (lines_suf ht.g).len; have q2 := (lines_suf ht.g').len;refine (hc _ _ ht.lines).bind fun c c' r r' x1 x2 x3 x4 => ?_
      exact (pipeL_r n n' x2 (by omega) (by omega) (hl.snoc x1)).up (by omega) (by omega)
    rw [if_neg hi, if_neg hi]; exact .ok hl h (Nat.le_refl _) (Nat.le_refl _)
theorem pipe_r {T T' : List Tok} (h : Tr F d T T') : RR F d (XC F) T.length T'.length (pipeG com T) (pipeG com T') := by
  obtain ⟨l1, l2, l3, l4⟩ := h.len
  unfold pipeG
  rw [h.t.is (by decide) (by decide)]
  have hx : ∃ U U', (if isT 1 [[33]] T = true then T.tail else T) = U ∧ (if isT 1 [[33]] T = true then T'.tail else T') = U' ∧ Tr F d U U' ∧ U.length ≤ T.length ∧ U'.length ≤ T'.length := by
    by_cases hi : isT 1 [[33]] T = true
    · rw [if_pos hi, if_pos hi]; exact ⟨_, _, rfl, rfl, h.tl (by rw [(isT_text hi).1]; decide) (isT_hop hi (by decide)), by omega, by omega⟩
    rw [if_neg hi, if_neg hi]; exact ⟨_, _, rfl, rfl, h, Nat.le_refl _, Nat.le_refl _⟩
  obtain ⟨U, U', e1, e2, hU, u1, u2⟩ := hx;rw [e1, e2];refine (hc _ _ hU).bind fun c c' r r' x1 x2 x3 x4 => ?_
  refine (pipeL_r hc _ _ x2 (Nat.le_refl _) (Nat.le_refl _) (.one x1)).bind fun l l' r r' y1 y2 y3 y4 => ?_
  exact .ok (.pipe y1) y2 (by omega) (by omega)
theorem andL_r : ∀ (n n' : Nat) {c c' : Cm} {T T' : List Tok}, Tr F d T T' → T.length ≤ n → T'.length ≤ n' → XC F c c' → RR F d (XC F) T.length T'.length (andL com n c T) (andL com n' c' T')
  | 0, _, c, c', T, T', h, hn, hn', hl => by have := h.len; omega
  | _, 0, c, c', T, T', h, hn, hn', hl => by have := h.len; omega
  | n + 1, n' + 1, c, c', T, T', h, hn, hn', hl => by
    obtain ⟨l1, l2, l3, l4⟩ := h.len;rw [andL, andL, h.t.is (by decide) (by decide)]
    by_cases hi : isT 2 [[38, 38], [124, 124]] T = true
    · rw [if_pos hi, if_pos hi]
      have hk : (hd T).kind ≠ 0 := by rw [(isT_text hi).1]; decide
      have ht := h.tl hk (isT_hop hi (by decide))
      have q1 := (lines_suf ht.g).len; have q2 := (lines_suf ht.g').len;rw [(h.t.hk hk).2.1];refine (pipe_r hc ht.lines).bind fun c c' r r' x1 x2 x3 x4 => ?_
      exact (andL_r n n' x2 (by omega) (by omega) (.kids ((XCs.one hl).snoc x1))).up (by omega) (by omega)
    rw [if_neg hi, if_neg hi]; exact .ok hl h (Nat.le_refl _) (Nat.le_refl _)
theorem and_r {T T' : List Tok} (h : Tr F d T T') : RR F d (XC F) T.length T'.length (andG com T) (andG com T') :=
  (pipe_r hc h).bind fun c c' r r' x1 x2 x3 x4 => (andL_r hc _ _ x2 (Nat.le_refl _) (Nat.le_refl _) x1).up x3 x4
theorem listL_r : ∀ (n n' : Nat) {l l' : List Cm} {T T' : List Tok}, Tr F d T T' → T.length ≤ n → T'.length ≤ n' → XCs F l l' → RR F d (XCs F) T.length T'.length (listL com n l T) (listL com n' l' T')
  | 0, _, l, l', T, T', h, hn, hn', hl => by have := h.len; omega
  | _, 0, l, l', T, T', h, hn, hn', hl => by have := h.len; omega
  | n + 1, n' + 1, l, l', T, T', h, hn, hn', hl => by
    obtain ⟨l1, l2, l3, l4⟩ := h.len;rw [listL, listL];refine (and_r hc h).bind fun c c' r r' x1 x2 x3 x4 => ?_
    obtain ⟨m1, m2, m3, m4⟩ := x2.len
    have hl2 : XCs F (l ++ [if isT 2 [[38]] r = true then kidsC 6 [c] else c]) (l' ++ [if isT 2 [[38]] r' = true then kidsC 6 [c'] else c']) := by
      rw [x2.t.is (by decide) (by decide)]
      exact hl.snoc (.if_ (.kids (.one x1)) x1)
    dsimp only
    rcases x2.more with ⟨q1, q2⟩ | ⟨q1, q2, q3, q4, q5, q6⟩
    · rw [q1]
      by_cases hm : moreB r = true
      · rw [if_pos hm, if_pos hm]
        have ht := x2.tl (q2 hm).1 (q2 hm).2;have p1 := (lines_suf ht.g).len; have p2 := (lines_suf ht.g').len;rw [starts_r ht.lines]
        by_cases hs : startsB (linesG r.tail) = true
        · rw [if_pos hs, if_pos hs]
          exact (listL_r n n' ht.lines (by omega) (by omega) hl2).up (by omega) (by omega)
        rw [if_neg hs, if_neg hs]; exact .ok hl2 ht.lines (by omega) (by omega)
      rw [if_neg hm, if_neg hm]; exact .ok hl2 x2 (by omega) (by omega)
    rw [if_neg (show ¬ (moreB r = true) by rw [q2]; decide), if_pos q3, if_neg (show ¬ (startsB (linesG r'.tail) = true) by rw [q4]; decide)]
    exact .ok hl2 q5 (by omega) (by omega)
theorem list_r {T T' : List Tok} (h : Tr F d T T') : RR F d (XC F) T.length T'.length (listG com T) (listG com T') :=
  (listL_r hc _ _ h (Nat.le_refl _) (Nat.le_refl _) .nil).bind fun l l' r r' x1 x2 x3 x4 => .ok (.list x1) x2 x3 x4
theorem body_r {T T' : List Tok} (h : Tr F d T T') : RR F d (XC F) T.length T'.length (bodyG com T) (bodyG com T') :=
  (list_r hc h.lines).up (lines_suf h.g).len (lines_suf h.g').len
theorem branch_r : ∀ (n n' : Nat) {T T' : List Tok}, Tr F d T T' → T.length ≤ n → T'.length ≤ n' → RR F d (XC F) T.length T'.length (branchG com n T) (branchG com n' T')
  | 0, _, T, T', h, hn, hn' => by have := h.len; omega
  | _, 0, T, T', h, hn, hn' => by have := h.len; omega
  | n + 1, n' + 1, T, T', h, hn, hn' => by
    obtain ⟨l1, l2, l3, l4⟩ := h.len;rw [branchG, branchG];refine (body_r hc h).bind fun a a' r r' x1 x2 x3 x4 => ?_
    obtain ⟨m1, m2, m3, m4⟩ := x2.len;refine (want_r x2 (by decide) (by decide) (by decide)).bind fun _ _ r r' _ y2 y3 y4 => ?_
    obtain ⟨m5, m6, m7, m8⟩ := y2.len;refine (body_r hc y2).bind fun b b' r r' z1 z2 z3 z4 => ?_
    obtain ⟨m9, m10, m11, m12⟩ := z2.len;rw [z2.t.is (by decide) (by decide), z2.t.is (by decide) (by decide)]
    by_cases h1 : isT 1 [[101, 108, 105, 102]] r = true
    · rw [if_pos h1, if_pos h1]
      have ht := z2.tl (by rw [(isT_text h1).1]; decide) (isT_hop h1 (by decide))
      refine (branch_r n n' ht (by omega) (by omega)).bind fun c c' r r' u1 u2 u3 u4 => ?_
      exact .ok (.kids (((XCs.one x1).snoc z1).snoc u1)) u2 (by omega) (by omega)
    rw [if_neg h1, if_neg h1]
    by_cases h2 : isT 1 [[101, 108, 115, 101]] r = true
    · rw [if_pos h2, if_pos h2]
      have ht := z2.tl (by rw [(isT_text h2).1]; decide) (isT_hop h2 (by decide))
      refine (body_r hc ht).bind fun c c' r r' u1 u2 u3 u4 => ?_
      obtain ⟨v1, v2, v3, v4⟩ := u2.len;refine (want_r u2 (by decide) (by decide) (by decide)).bind fun _ _ r r' _ w2 w3 w4 => ?_
      exact .ok (.kids (((XCs.one x1).snoc z1).snoc u1)) w2 (by omega) (by omega)
    rw [if_neg h2, if_neg h2]
    refine (want_r z2 (by decide) (by decide) (by decide)).bind fun _ _ r r' _ w2 w3 w4 => ?_
    exact .ok (.kids ((XCs.one x1).snoc z1)) w2 (by omega) (by omega)
theorem do_r {T T' : List Tok} (h : Tr F d T T') : RR F d (XC F) T.length T'.length (doG com T) (doG com T') := by
  obtain ⟨l1, l2, l3, l4⟩ := h.len
  unfold doG
  refine (want_r h (by decide) (by decide) (by decide)).bind fun _ _ r r' _ y2 y3 y4 => ?_
  refine (body_r hc y2).bind fun b b' r r' z1 z2 z3 z4 => ?_
  obtain ⟨m1, m2, m3, m4⟩ := z2.len;refine (want_r z2 (by decide) (by decide) (by decide)).bind fun _ _ r r' _ w2 w3 w4 => ?_
  exact .ok z1 w2 (by omega) (by omega)
end
theorem words_r : ∀ {b : Bool} {T T' : List Tok}, Ti F d b T T' → b = false → GT T → GT T' → (∀ t, t ∈ T → HopEx t) → ∀ l, (wordsG l T').1 = (wordsG l T).1 ∧ Tr F d (wordsG l T).2 (wordsG l T').2 ∧ (wordsG l T).2.length ≤ T.length ∧ (wordsG l T').2.length ≤ T'.length := by
  intro b T T' h
  induction h with
  | nil => exact fun _ h => h.elim
  | @cons b t t' r r' k x w h p s ih =>
    intro hb hg hg' hq l;subst hb
    by_cases hk : t.kind = 1
    · have e1 : wordsG l (t :: r) = wordsG (l ++ [t.text]) r := by rw [wordsG, if_pos hk]
      have e2 : wordsG l (t' :: r') = wordsG (l ++ [t.text]) r' := by rw [wordsG, if_pos (k.trans hk), x]
      rw [e1, e2]
      have := ih (hop_k (by rw [hk]; decide)) (hg.tail (by rw [show (hd (t :: r)).kind = t.kind from rfl, hk]; decide)) (hg'.tail (by rw [show (hd (t' :: r')).kind = t'.kind from rfl, k, hk]; decide)) (fun t ht => hq t (List.mem_cons_of_mem _ ht)) (l ++ [t.text])
      obtain ⟨q1, q2, q3, q4⟩ := this;exact ⟨q1, q2, by rw [List.length_cons]; exact Nat.le_succ_of_le q3, by rw [List.length_cons]; exact Nat.le_succ_of_le q4⟩
    have e1 : wordsG l (t :: r) = (l, t :: r) := by rw [wordsG, if_neg hk]
    have e2 : wordsG l (t' :: r') = (l, t' :: r') := by rw [wordsG, if_neg (by rw [k]; exact hk)]
    rw [e1, e2]
    exact ⟨rfl, ⟨hg, hg', .cons k x w h p s, hq⟩, Nat.le_refl _, Nat.le_refl _⟩
  | ins f k k2 k3 x w h =>
    intro hb hg hg' hq l
    rename_i e n e'
    have e1 : wordsG l [e] = (l, [e]) := by rw [wordsG, if_neg (by rw [k]; decide)]
    have e2 : wordsG l [n, e'] = (l, [n, e']) := by rw [wordsG, if_neg (by rw [k2]; decide)]
    rw [e1, e2]
    exact ⟨rfl, ⟨hg, hg', .ins f k k2 k3 x w h, hq⟩, Nat.le_refl _, Nat.le_refl _⟩
def R0 (g : Rs Cm) : Prop := ∀ c r, g = .ok c r → c.rds = []
theorem R0.er (T : List Tok) (e : Int) : R0 (.er T e) := fun _ _ h => by cases h
theorem R0.ok {c : Cm} (h : c.rds = []) (T : List Tok) : R0 (.ok c T) := fun _ _ q => by cases q; exact h
theorem R0.bind {α : Type} {g : Rs α} {f : α → List Tok → Rs Cm} (k : ∀ x r, R0 (f x r)) : R0 (g.bind f) := by
  cases g with
  | ok x r => exact k x r
  | er r e => exact .er _ _
theorem branch_0 (com : List Tok → Rs Cm) : ∀ (n : Nat) (T : List Tok), R0 (branchG com n T)
  | 0, T => .er _ _
  | n + 1, T => by
    rw [branchG]
    refine .bind fun a r => .bind fun _ r => .bind fun b r => ?_
    split
    · exact .bind fun c r => .ok rfl _
    split
    · exact .bind fun c r => .bind fun _ r => .ok rfl _
    exact .bind fun _ r => .ok rfl _
theorem each_0 (com : List Tok → Rs Cm) (T : List Tok) : R0 (eachG com T) := by
  unfold eachG
  split
  · exact .er _ _
  refine .bind fun x r => ?_
  split
  · dsimp only
    split
    · exact .er _ _
    exact .bind fun d r => .ok rfl _
  exact .bind fun d r => .ok rfl _
theorem choose_0 (com : List Tok → Rs Cm) (T : List Tok) : R0 (chooseG com T) := by
  unfold chooseG
  exact .bind fun x r => .bind fun _ r => .bind fun l r => .bind fun _ r => .ok rfl _
theorem inner_0 (com : List Tok → Rs Cm) (T : List Tok) : R0 (innerG com T) := by
  unfold innerG
  split
  · exact .bind fun x r => .bind fun _ r => .ok rfl _
  split
  · exact .bind fun x r => .bind fun _ r => .ok rfl _
  split
  · exact branch_0 _ _ _
  split
  · exact .bind fun x r => .bind fun _ r => .ok rfl _
  split
  · exact each_0 _ _
  exact choose_0 _ _
def XI (F : Prop) (x x' : List Bytes × List Cm) : Prop := F ∨ (∀ k, k ∈ x.2 → ¬ Here k) → x = x'
theorem XIs.snoc {l l' : List (List Bytes × List Cm)} {x x' : List Bytes × List Cm} (h : XIs F l l') (hx : XI F x x') : XIs F (l ++ [x]) (l' ++ [x']) := fun q => by
  rw [h (q.imp id fun q r hr => q r (by simp [hr])), hx (q.imp id fun q => q x (by simp))]
theorem pats_r : ∀ (n n' : Nat) (l : List Bytes) {T T' : List Tok}, Tr F d T T' → T.length ≤ n → T'.length ≤ n' → RR F d (fun a b => b = a) T.length T'.length (patsG n l T) (patsG n' l T')
  | 0, _, l, T, T', h, hn, hn' => by have := h.len; omega
  | _, 0, l, T, T', h, hn, hn' => by have := h.len; omega
  | n + 1, n' + 1, l, T, T', h, hn, hn' => by
    obtain ⟨l1, l2, l3, l4⟩ := h.len;rw [patsG, patsG, h.t.is (by decide) (by decide)]
    by_cases hi : isT 2 [[124]] T = true
    · rw [if_pos hi, if_pos hi]
      have ht := h.tl (by rw [(isT_text hi).1]; decide) (isT_hop hi (by decide))
      obtain ⟨m1, m2, m3, m4⟩ := ht.len;refine (any_r ht).bind fun x x' r r' x1 x2 x3 x4 => ?_
      rw [x1.1]
      exact (pats_r n n' _ x2 (by omega) (by omega)).up (by omega) (by omega)
    rw [if_neg hi, if_neg hi]; exact .ok rfl h (Nat.le_refl _) (Nat.le_refl _)
section
variable {com : List Tok → Rs Cm} (hc : ∀ T T', Tr F d T T' → RR F d (XC F) T.length T'.length (com T) (com T'))
include hc
theorem each_r {T T' : List Tok} (h : Tr F d T T') : RR F d (XC F) T.length T'.length (eachG com T) (eachG com T') := by
  obtain ⟨l1, l2, l3, l4⟩ := h.len;have k1 := h.t.kd (k := 1) (by decide) (by decide)
  unfold eachG
  by_cases hk : (hd T).kind = 1
  · rw [(h.t.hk (by rw [hk]; decide)).2.1]
    by_cases hn : nameV (hd T).text = false
    · rw [if_pos hn, if_pos hn]; exact .er h
    rw [if_neg hn, if_neg hn]
    refine (any_r h).bind fun x x' r r' x1 x2 x3 x4 => ?_
    obtain ⟨m1, m2, m3, m4⟩ := x2.len;have hL := x2.lines;have q1 := (lines_suf x2.g).len; have q2 := (lines_suf x2.g').len;obtain ⟨m5, m6, m7, m8⟩ := hL.len;rw [x1.1, hL.t.is (by decide) (by decide), hL.t.is (k := 2) (by decide) (by decide)]
    by_cases hi : isT 1 [[105, 110]] (linesG r) = true
    · rw [if_pos hi, if_pos hi]
      have ht := hL.tl (by rw [(isT_text hi).1]; decide) (isT_hop hi (by decide))
      obtain ⟨w1, w2, w3, w4⟩ := words_r ht.t rfl ht.g ht.g' ht.q []
      dsimp only
      rw [w1]
      generalize hq : wordsG [] (linesG r).tail = q at w1 w2 w3 ⊢
      generalize hq' : wordsG [] (linesG r').tail = q' at w1 w2 w4 ⊢
      obtain ⟨m9, m10, m11, m12⟩ := w2.len
      by_cases hcond : isT 2 [[59]] q.2 = false ∧ (hd q.2).kind ≠ 3
      · rw [if_pos hcond]
        by_cases hF : F
        · have hF2 : isT 2 [[59]] q'.2 = false ∧ (hd q'.2).kind ≠ 3 := by
            rw [w2.t.is (by decide) (by decide), (w2.t.hF hF).1]; exact hcond
          rw [if_pos hF2]; exact .er w2
        exact .any hF
      rw [if_neg hcond]
      have hk0 : (hd q.2).kind ≠ 0 ∧ hopB (hd q.2) = false := by
        by_cases h59 : isT 2 [[59]] q.2 = true
        · exact ⟨by rw [(isT_text h59).1]; decide, isT_hop h59 (by decide)⟩
        have h3 : (hd q.2).kind = 3 := Decidable.byContradiction fun n3 => hcond ⟨by simpa using h59, n3⟩
        exact ⟨by rw [h3]; decide, hop_k (by rw [h3]; decide)⟩
      have hF2 : ¬ (isT 2 [[59]] q'.2 = false ∧ (hd q'.2).kind ≠ 3) := by
        rw [w2.t.is (by decide) (by decide), (w2.t.hk hk0.1).1]; exact hcond
      rw [if_neg hF2]
      have ht2 := w2.tl hk0.1 hk0.2;have p1 := (lines_suf ht2.g).len; have p2 := (lines_suf ht2.g').len;refine (do_r hc ht2.lines).bind fun c c' r r' y1 y2 y3 y4 => ?_
      exact .ok (.mk rfl rfl rfl rfl rfl rfl .nil (.one y1) .nil) y2 (by omega) (by omega)
    rw [if_neg hi, if_neg hi]
    have hx : ∃ U U', (if isT 2 [[59]] (linesG r) = true then (linesG r).tail else linesG r) = U ∧ (if isT 2 [[59]] (linesG r) = true then (linesG r').tail else linesG r') = U' ∧ Tr F d U U' ∧ U.length ≤ (linesG r).length ∧ U'.length ≤ (linesG r').length := by
      by_cases hj : isT 2 [[59]] (linesG r) = true
      · rw [if_pos hj, if_pos hj]; exact ⟨_, _, rfl, rfl, hL.tl (by rw [(isT_text hj).1]; decide) (isT_hop hj (by decide)), by omega, by omega⟩
      rw [if_neg hj, if_neg hj]; exact ⟨_, _, rfl, rfl, hL, Nat.le_refl _, Nat.le_refl _⟩
    obtain ⟨U, U', e1, e2, hU, u1, u2⟩ := hx;rw [e1, e2];have p1 := (lines_suf hU.g).len; have p2 := (lines_suf hU.g').len;refine (do_r hc hU.lines).bind fun c c' r r' y1 y2 y3 y4 => ?_
    exact .ok (.mk rfl rfl rfl rfl rfl rfl .nil (.one y1) .nil) y2 (by omega) (by omega)
  have e1 : ∀ f : Tok → List Tok → Rs Cm, (if nameV (hd T).text = false then (Rs.er T 101 : Rs Cm) else (anyG T).bind f) = .er T 101 := fun f => by
    unfold anyG; rw [if_neg hk]; split <;> rfl
  have e2 : ∀ f : Tok → List Tok → Rs Cm, (if nameV (hd T').text = false then (Rs.er T' 101 : Rs Cm) else (anyG T').bind f) = .er T' 101 := fun f => by
    unfold anyG; rw [if_neg (fun e => hk (k1.1 e))]; split <;> rfl
  rw [e1, e2]; exact .er h
theorem item_r {T T' : List Tok} (h : Tr F d T T') : RR F d (XI F) T.length T'.length (itemG com T) (itemG com T') := by
  obtain ⟨l1, l2, l3, l4⟩ := h.len
  unfold itemG
  rw [h.t.is (by decide) (by decide)]
  have hx : ∃ U U', (if isT 2 [[40]] T = true then T.tail else T) = U ∧ (if isT 2 [[40]] T = true then T'.tail else T') = U' ∧ Tr F d U U' ∧ U.length ≤ T.length ∧ U'.length ≤ T'.length := by
    by_cases hi : isT 2 [[40]] T = true
    · rw [if_pos hi, if_pos hi]; exact ⟨_, _, rfl, rfl, h.tl (by rw [(isT_text hi).1]; decide) (isT_hop hi (by decide)), by omega, by omega⟩
    rw [if_neg hi, if_neg hi]; exact ⟨_, _, rfl, rfl, h, Nat.le_refl _, Nat.le_refl _⟩
  obtain ⟨U, U', e1, e2, hU, u1, u2⟩ := hx;rw [e1, e2];obtain ⟨m1, m2, m3, m4⟩ := hU.len;refine (any_r hU).bind fun x x' r r' x1 x2 x3 x4 => ?_
  rw [x1.1]
  refine (pats_r _ _ _ x2 (Nat.le_refl _) (Nat.le_refl _)).bind fun p p' r r' y1 y2 y3 y4 => ?_
  obtain ⟨m5, m6, m7, m8⟩ := y2.len;refine (want_r y2 (by decide) (by decide) (by decide)).bind fun _ _ r r' _ z2 z3 z4 => ?_
  have q1 := (lines_suf z2.g).len; have q2 := (lines_suf z2.g').len;rw [starts_r z2.lines, y1]
  by_cases hs : startsB (linesG r) = true
  · rw [if_pos hs, if_pos hs]
    refine (list_r hc z2.lines).bind fun c c' r r' v1 v2 v3 v4 => ?_
    exact .ok (fun q => by rw [v1 (q.imp id fun q => q c (by simp))]) v2 (by omega) (by omega)
  rw [if_neg hs, if_neg hs]; exact .ok (fun _ => rfl) z2.lines (by omega) (by omega)
theorem items_r : ∀ (n n' : Nat) {l l' : List (List Bytes × List Cm)} {T T' : List Tok}, Tr F d T T' → T.length ≤ n → T'.length ≤ n' → XIs F l l' → RR F d (XIs F) T.length T'.length (itemsG com n l T) (itemsG com n' l' T')
  | 0, _, l, l', T, T', h, hn, hn', hl => by have := h.len; omega
  | _, 0, l, l', T, T', h, hn, hn', hl => by have := h.len; omega
  | n + 1, n' + 1, l, l', T, T', h, hn, hn', hl => by
    obtain ⟨l1, l2, l3, l4⟩ := h.len;rw [itemsG, itemsG, h.t.is (by decide) (by decide)]
    by_cases hi : isT 1 [[101, 115, 97, 99]] T = true
    · rw [if_pos hi, if_pos hi]; exact .ok hl h (Nat.le_refl _) (Nat.le_refl _)
    rw [if_neg hi, if_neg hi]
    refine (item_r hc h).bind fun x x' r r' x1 x2 x3 x4 => ?_
    obtain ⟨m1, m2, m3, m4⟩ := x2.len;rw [x2.t.is (by decide) (by decide)]
    by_cases hj : isT 2 [[59, 59]] r = true
    · rw [if_pos hj, if_pos hj]
      have ht := x2.tl (by rw [(isT_text hj).1]; decide) (isT_hop hj (by decide))
      have p1 := (lines_suf ht.g).len; have p2 := (lines_suf ht.g').len;exact (items_r n n' ht.lines (by omega) (by omega) (XIs.snoc hl x1)).up (by omega) (by omega)
    rw [if_neg hj, if_neg hj]; exact .ok (XIs.snoc hl x1) x2 (by omega) (by omega)
theorem choose_r {T T' : List Tok} (h : Tr F d T T') : RR F d (XC F) T.length T'.length (chooseG com T) (chooseG com T') := by
  obtain ⟨l1, l2, l3, l4⟩ := h.len
  unfold chooseG
  refine (any_r h).bind fun x x' r r' x1 x2 x3 x4 => ?_
  have q1 := (lines_suf x2.g).len; have q2 := (lines_suf x2.g').len;obtain ⟨m1, m2, m3, m4⟩ := x2.lines.len;rw [x1.1];refine (want_r x2.lines (by decide) (by decide) (by decide)).bind fun _ _ r r' _ y2 y3 y4 => ?_
  have q3 := (lines_suf y2.g).len; have q4 := (lines_suf y2.g').len;refine (items_r hc _ _ y2.lines (Nat.le_refl _) (Nat.le_refl _) .nil).bind fun l l' r r' z1 z2 z3 z4 => ?_
  obtain ⟨m5, m6, m7, m8⟩ := z2.len;refine (want_r z2 (by decide) (by decide) (by decide)).bind fun _ _ r r' _ w2 w3 w4 => ?_
  exact .ok (.mk rfl rfl rfl rfl rfl rfl .nil .nil z1) w2 (by omega) (by omega)
theorem inner_r {T T' : List Tok} (h : Tr F d T T') (hk : (hd T).kind ≠ 0) (hb : hopB (hd T) = false) : RR F d (XC F) T.length T'.length (innerG com T) (innerG com T') := by
  obtain ⟨l1, l2, l3, l4⟩ := h.len;have ht := h.tl hk hb;obtain ⟨m1, m2, m3, m4⟩ := ht.len
  unfold innerG
  rw [(h.t.hk hk).2.1]
  split
  · refine (body_r hc ht).bind fun c c' r r' x1 x2 x3 x4 => ?_
    obtain ⟨m5, m6, m7, m8⟩ := x2.len;refine (want_r x2 (by decide) (by decide) (by decide)).bind fun _ _ r r' _ w2 w3 w4 => ?_
    exact .ok (.kids (.one x1)) w2 (by omega) (by omega)
  split
  · refine (body_r hc ht).bind fun c c' r r' x1 x2 x3 x4 => ?_
    obtain ⟨m5, m6, m7, m8⟩ := x2.len;refine (want_r x2 (by decide) (by decide) (by decide)).bind fun _ _ r r' _ w2 w3 w4 => ?_
    exact .ok (.kids (.one x1)) w2 (by omega) (by omega)
  split
  · exact (branch_r hc _ _ ht (by omega) (by omega)).up (by omega) (by omega)
  split
  · refine (body_r hc ht).bind fun c c' r r' x1 x2 x3 x4 => ?_
    refine (do_r hc x2).bind fun e e' r r' w1 w2 w3 w4 => ?_
    exact .ok (.kids ((XCs.one x1).snoc w1)) w2 (by omega) (by omega)
  split
  · exact (each_r hc ht).up (by omega) (by omega)
  exact (choose_r hc ht).up (by omega) (by omega)
theorem comp_r {T T' : List Tok} (h : Tr F d T T') (hk : (hd T).kind ≠ 0) (hb : hopB (hd T) = false) : RR F d (XC F) T.length T'.length (compG com T) (compG com T') := by
  unfold compG
  have h0 := inner_0 com T; have h0' := inner_0 com T';have hr := inner_r hc h hk hb;generalize hA : innerG com T = A at hr h0;generalize hA' : innerG com T' = A' at hr h0'
  cases hr with
  | er ht => exact .er ht
  | any hf => exact .any hf
  | @ok c c' r r' x1 x2 x3 x4 =>
    have e0 := h0 _ _ rfl; have e0' := h0' _ _ rfl
    show RR F d _ _ _ ((redirsG r.length c.rds r).bind _) ((redirsG r'.length c'.rds r').bind _)
    rw [e0, e0']
    refine (redirs_r _ _ x2 (Nat.le_refl _) (Nat.le_refl _) .nil).bind fun l l' r r' y1 y2 y3 y4 => ?_
    refine .ok (fun q => ?_) y2 (by omega) (by omega)
    have hl := y1.2 (q.imp id fun q x hx => by
      cases hh : hereX x.op with
      | false => rfl
      | true => exact absurd (Here.rd (c := addR c l) hx hh) q)
    have hcc := x1 (q.imp id fun q hh => q (by
      cases hh with
      | rd a b => rw [e0] at a; cases a
      | kid a b => exact .kid (c := addR c l) a b
      | item a a2 b => exact .item (c := addR c l) a a2 b))
    rw [hl, hcc]
end
theorem opens_k {T : List Tok} (h : opensB T = true) : (hd T).kind ≠ 0 ∧ hopB (hd T) = false := by
  unfold opensB at h
  rcases Bool.or_eq_true_iff.1 h with q | q
  · exact ⟨by rw [(isT_text q).1]; decide, isT_hop q (by decide)⟩
  rw [Bool.and_eq_true] at q
  have q := of_decide_eq_true q.1;exact ⟨by rw [q]; decide, hop_k (by rw [q]; decide)⟩
theorem func_r {cw : List Tok → Rs Cm} (hc : ∀ T T', Tr F d T T' → opensB T = true → RR F d (XC F) T.length T'.length (cw T) (cw T')) {T T' : List Tok} (h : Tr F d T T') (hk : (hd T).kind = 1) (hk2 : (hd T.tail).kind = 2) (hx : (hd T.tail).text = [40]) : RR F d (XC F) T.length T'.length (funcG cw T) (funcG cw T') := by
  obtain ⟨l1, l2, l3, l4⟩ := h.len;have ht := h.tl (by rw [hk]; decide) (hop_k (by rw [hk]; decide))
  obtain ⟨m1, m2, m3, m4⟩ := ht.len;have ht2 := ht.tl (by rw [hk2]; decide) (hop_x (by rw [hx]; decide))
  obtain ⟨m5, m6, m7, m8⟩ := ht2.len
  unfold funcG
  rw [(h.t.hk (by rw [hk]; decide)).2.1]
  refine (want_r ht2 (by decide) (by decide) (by decide)).bind fun _ _ r r' _ w2 w3 w4 => ?_
  have q1 := (lines_suf w2.g).len; have q2 := (lines_suf w2.g').len;rw [opens_r w2.lines]
  by_cases ho : opensB (linesG r) = false
  · rw [if_pos ho, if_pos ho]; exact .er w2.lines
  rw [if_neg ho, if_neg ho]
  refine (hc _ _ w2.lines (by simpa using ho)).bind fun c c' r r' x1 x2 x3 x4 => ?_
  exact .ok (.mk rfl rfl rfl rfl rfl rfl .nil (.one x1) .nil) x2 (by omega) (by omega)
theorem command_r {cw fw : List Tok → Rs Cm} (hc : ∀ T T', Tr F d T T' → opensB T = true → RR F d (XC F) T.length T'.length (cw T) (cw T'))
    (hf : ∀ T T', Tr F d T T' → (hd T).kind = 1 → (hd T.tail).kind = 2 → (hd T.tail).text = [40] → RR F d (XC F) T.length T'.length (fw T) (fw T')) {T T' : List Tok} (h : Tr F d T T') : RR F d (XC F) T.length T'.length (commandG cw fw T) (commandG cw fw T') := by
  have k1 := h.t.kd (k := 1) (by decide) (by decide)
  unfold commandG
  rw [opens_r h]
  by_cases ho : opensB T = true
  · rw [if_pos ho, if_pos ho]; exact hc _ _ h ho
  rw [if_neg ho, if_neg ho]
  by_cases hk : (hd T).kind = 1
  · have hk' := k1.2 hk;have e2 := (h.t.hk (by rw [hk]; decide)).2.1
    have ht := h.tl (by rw [hk]; decide) (hop_k (by rw [hk]; decide))
    have k2 := ht.t.kd (k := 2) (by decide) (by decide)
    rw [e2]
    by_cases hr : resB (hd T).text = true
    · rw [if_pos ⟨hk, hr⟩, if_pos ⟨hk', hr⟩]; exact .er h
    rw [if_neg (fun q => hr q.2), if_neg (show ¬ ((hd T').kind = 1 ∧ resB (hd T).text = true) from fun q => hr q.2)]
    by_cases hn : nameV (hd T).text = true ∧ (hd T.tail).kind = 2 ∧ (hd T.tail).text = [40]
    · have hx' : (hd T'.tail).text = [40] := by rw [(ht.t.hk (by rw [hn.2.1]; decide)).2.1]; exact hn.2.2
      rw [if_pos ⟨hk, hn⟩, if_pos ⟨hk', hn.1, k2.2 hn.2.1, hx'⟩]
      exact hf _ _ h hk hn.2.1 hn.2.2
    have hn' : ¬ (nameV (hd T).text = true ∧ (hd T'.tail).kind = 2 ∧ (hd T'.tail).text = [40]) := fun q => hn ⟨q.1, k2.1 q.2.1, by rw [← (ht.t.hk (by rw [k2.1 q.2.1]; decide)).2.1]; exact q.2.2⟩
    rw [if_neg (fun q => hn q.2), if_neg (show ¬ ((hd T').kind = 1 ∧ nameV (hd T).text = true ∧ (hd T'.tail).kind = 2 ∧ (hd T'.tail).text = [40]) from fun q => hn' q.2)]
    exact simple_r _ _ [] [] h (Nat.le_refl _) (Nat.le_refl _) .nil
  have hk' : ¬ (hd T').kind = 1 := fun e => hk (k1.1 e)
  rw [if_neg (fun q => hk q.1), if_neg (show ¬ ((hd T').kind = 1 ∧ resB (hd T').text = true) from fun q => hk' q.1), if_neg (fun q => hk q.1), if_neg (show ¬ ((hd T').kind = 1 ∧ nameV (hd T').text = true ∧ (hd T'.tail).kind = 2 ∧ (hd T'.tail).text = [40]) from fun q => hk' q.1)]
  exact simple_r _ _ [] [] h (Nat.le_refl _) (Nat.le_refl _) .nil
theorem gramF_r : ∀ (m : Nat), (∀ T T', Tr F d T T' → opensB T = true → RR F d (XC F) T.length T'.length ((gramF m).1 T) ((gramF m).1 T')) ∧ ∀ T T', Tr F d T T' → (hd T).kind = 1 → (hd T.tail).kind = 2 → (hd T.tail).text = [40] → RR F d (XC F) T.length T'.length ((gramF m).2 T) ((gramF m).2 T')
  | 0 => ⟨fun T T' h _ => .er h, fun T T' h _ _ _ => .er h⟩
  | m + 1 => ⟨fun T T' h ho => comp_r (fun T T' h => command_r (gramF_r m).1 (gramF_r m).2 h) h (opens_k ho).1 (opens_k ho).2, fun T T' h h1 h2 h3 => func_r (gramF_r m).1 h h1 h2 h3⟩
theorem listL_hd {com : List Tok → Rs Cm} : ∀ (n : Nat) (l : List Cm) (T : List Tok) {l' : List Cm} {r : List Tok}, (n = 0 → (hd T).kind ≠ 3) → listL com n l T = .ok l' r → (hd r).kind ≠ 3
  | 0, l, T, l', r, h, e => by cases e; exact h rfl
  | n + 1, l, T, l', r, h, e => by
    rw [listL] at e
    cases ha : andG com T with
    | er q x => rw [ha] at e; cases e
    | ok c q =>
      rw [ha] at e
      change (if moreB q = true then _ else _) = _ at e
      split at e
      · split at e
        · exact listL_hd n _ _ (fun _ => lines_hd' _) e
        cases e; exact lines_hd' _
      rename_i hm
      cases e
      intro h3;exact hm (by unfold moreB; rw [h3]; simp)
theorem gram_r {T T' : List Tok} (h : Tr F d T T') : RR F d (XC F) T.length T'.length (gramG T) (gramG T') := by
  have hL := h.lines;have q1 := (lines_suf h.g).len; have q2 := (lines_suf h.g').len;have h0 := hL.k0 (lines_hd' T')
  unfold gramG
  rw [h0]
  by_cases hz : (hd (linesG T)).kind = 0
  · rw [if_pos hz, if_pos hz]
    show RR F d _ _ _ (if _ then _ else _) (if _ then _ else _)
    rw [if_pos hz, if_pos (h0.trans hz)]
    exact .ok (fun _ => rfl) hL q1 q2
  rw [if_neg hz, if_neg hz]
  have hr := list_r (F := F) (d := d) (com := comG 64) (fun T T' h => command_r (gramF_r 64).1 (gramF_r 64).2 h) hL
  have hh : ∀ c r, listG (comG 64) (linesG T') = .ok c r → (hd r).kind ≠ 3 := fun c r e => by
    unfold listG at e
    cases hb : listL (comG 64) (linesG T').length [] (linesG T') with
    | er q x => rw [hb] at e; cases e
    | ok l q => rw [hb] at e; cases e; exact listL_hd _ _ _ (fun _ => lines_hd' _) hb
  generalize hA : listG (comG 64) (linesG T) = A at hr
  generalize hA' : listG (comG 64) (linesG T') = A' at hr hh
  cases hr with
  | ok hx ht hn hn' =>
    have h3 := ht.k0 (hh _ _ rfl)
    show RR F d _ _ _ (if _ then _ else _) (if _ then _ else _)
    rw [h3]
    split
    · exact .ok hx ht (by omega) (by omega)
    exact .er ht
  | er ht => exact .er ht
  | any hf => exact .any hf
end
end Go.Proofs.YtghjmiggobpmoaaGreatDoor.K
namespace Go.Proofs.YtghjmiggobpmoaaGreatDoor.K
open Go Go.RowKit
theorem idx_pos {c d : UInt8} {t : Bytes} (h : 0 ≤ idx (c :: t) d) (hc : c ≠ d) : 1 ≤ (idx (c :: t) d).toNat := by
  simp only [idx, Lib.indexByte] at h ⊢
  have hb : (c == d) = false := by simpa using hc
  rw [hb] at h ⊢
  by_cases h1 : Lib.indexByte t d = -1
  · rw [h1] at h; simp at h
  have h2 := idx_neg (s := t) (c := d);have hb2 : (Lib.indexByte t d == -1) = false := by simpa using h1
  rw [hb2] at h ⊢
  simp only [Bool.false_eq_true, if_false] at h ⊢
  have h3 : ¬ Lib.indexByte t d < 0 := fun q => h1 (h2 q)
  omega
theorem blankL_fuel : ∀ (k k' : Nat) (r : Bytes), r.length ≤ k → r.length ≤ k' → blankL k r = blankL k' r
  | 0, 0, _, _, _ => rfl
  | 0, k' + 1, r, h, _ => by rw [List.length_eq_zero_iff.1 (by omega : r.length = 0)]; simp [blankL]
  | k + 1, 0, r, _, h => by rw [List.length_eq_zero_iff.1 (by omega : r.length = 0)]; simp [blankL]
  | k + 1, k' + 1, [], _, _ => by simp [blankL]
  | k + 1, k' + 1, c :: t, h, h' => by
    simp only [List.length_cons] at h h'
    simp only [blankL]
    split
    · rw [blankL_fuel k k' t (by omega) (by omega)]
    split
    · rw [blankL_fuel k k' (t.drop 1) (by rw [List.length_drop]; omega) (by rw [List.length_drop]; omega)]
    split
    · rename_i hc
      split
      · rfl
      rename_i hi
      have h1 := idx_pos (c := c) (d := 10) (t := t) (by omega) (by rw [hc]; decide)
      rw [blankL_fuel k k' _ (by rw [List.length_drop, List.length_cons]; omega) (by rw [List.length_drop, List.length_cons]; omega)]
    rfl
theorem next_line (s : Bytes) (i : Int) : nextT (10 :: s) i = (⟨3, [10], i, [], false⟩, 1, 0) := by
  unfold nextT; rw [if_neg (by simp), if_pos (by rfl)]
def lineT (i : Int) : Tok := ⟨3, [10], i, [], false⟩
theorem pad_line {p s : Bytes} {b : Nat} (hs : (p ++ s).length ≤ 16384) (hb : blankV (p ++ s) = b) (hd : (p ++ s).drop b = 10 :: s) (hl : p.length = b + 1) :
    tokensV (p ++ s) = if (tokensV s).2.2 ≠ 0 then ([], (tokensV s).2.1 + (p.length : Int), (tokensV s).2.2) else ([lineT b] ++ (tokensV s).1.map (shT p.length), (tokensV s).2.1, 0) := by
  have hls : s.length ≤ 16384 := by rw [List.length_append] at hs; omega
  have e1 : tokensV (p ++ s) = scanF ((p ++ s).length + 1) (p ++ s) 0 [] [] := by rw [tokensV, if_neg (by omega)]
  have e2 : tokensV s = scanF (s.length + 1) s 0 [] [] := by rw [tokensV, if_neg (by omega)]
  have hq : Quiet [lineT b] := fun z hz => by
    simp only [List.getLast?_singleton, Option.some.injEq] at hz
    subst hz; exact fun q => absurd (show (3 : Int) = 2 from q.1) (by decide)
  have h1 := scan_shift hq (p.length : Int) (s.length + 1) s 0 [] [] (fun w hw => by cases hw) (Nat.lt_succ_self _)
  rw [e1, scanF]
  simp only [hb, hd, next_line]
  rw [if_neg (by decide), if_neg (by decide), if_pos trivial]
  show scanF (p ++ s).length s (0 + (b : Int) + ((1 : Nat) : Int) + ((0 : Nat) : Int)) [lineT (0 + b)] [] = _
  rw [scan_fuel (p ++ s).length (s.length + 1) s _ _ _ (by rw [List.length_append]; omega) (by omega), e2, ← h1]
  congr 1
  · rw [hl]; push_cast; omega
  show [lineT (0 + b)] = [lineT b] ++ []
  rw [Int.zero_add]; rfl
theorem pad_cont {s : Bytes} (hs : s.length + 2 ≤ 16384) :
    tokensV ([92, 10] ++ s) = if (tokensV s).2.2 ≠ 0 then ([], (tokensV s).2.1 + 2, (tokensV s).2.2) else ((tokensV s).1.map (shT 2), (tokensV s).2.1, 0) := by
  have e1 : tokensV ([92, 10] ++ s) = scanF (s.length + 2 + 1) ([92, 10] ++ s) 0 [] [] := by rw [tokensV, if_neg (by simp; omega)]; simp
  have e2 : tokensV s = scanF (s.length + 1) s 0 [] [] := by rw [tokensV, if_neg (by omega)]
  have hq : Quiet [] := fun z hz => by cases hz
  have h1 := scan_shift hq 2 (s.length + 1) s 0 [] [] (fun w hw => by cases hw) (Nat.lt_succ_self _)
  have hb : blankV ([92, 10] ++ s) = blankV s + 2 := by
    unfold blankV
    have hlen : ([92, 10] ++ s : Bytes).length = s.length + 1 + 1 := by simp
    rw [hlen]
    show blankL (s.length + 1 + 1) (92 :: 10 :: s) = _
    rw [blankL, if_neg (by decide), if_pos (by simp [Lib.hasPrefix])]
    rw [List.drop_one, List.tail_cons, blankL_fuel (s.length + 1) s.length s (by omega) (by omega)]
  have hd : ([92, 10] ++ s).drop (blankV s + 2) = s.drop (blankV s) := by
    show List.drop (blankV s + 1 + 1) (92 :: 10 :: s) = _
    rw [List.drop_succ_cons, List.drop_succ_cons]
  have e3 : ∀ n, scanF (n + 1) ([92, 10] ++ s) 0 [] [] = scanF (n + 1) s (0 + 2) [] [] := by
    intro n;rw [scanF, scanF, hb, hd];have : (0 : Int) + ((blankV s + 2 : Nat) : Int) = 0 + 2 + (blankV s : Int) := by push_cast; omega
    rw [this]
  rw [e1, e3, scan_fuel (s.length + 2 + 1) (s.length + 1) s _ _ _ (by omega) (by omega), e2]
  exact h1
theorem GT_sh {d : Int} : ∀ {T : List Tok}, GT T → GT (T.map (shT d))
  | [t], h => h
  | t :: u :: r, h => ⟨h.1, h.2.1, GT_sh h.2.2⟩
theorem Ti_sh {d : Int} : ∀ (T : List Tok) (b : Bool), Ti True d b T (T.map (shT d))
  | [], b => .nil
  | t :: r, b => .cons rfl rfl rfl (fun _ => rfl) (fun _ => rfl) (Ti_sh r _)
theorem gramG_line (i : Int) (T : List Tok) : gramG (lineT i :: T) = gramG T := by
  have : linesG (lineT i :: T) = linesG T := by rw [linesG, if_pos (show (lineT i).kind = 3 from rfl)]
  unfold gramG; rw [this]
theorem tokens_hop {s : Bytes} (he : (tokensV s).2.2 = 0) : ∀ t, t ∈ (tokensV s).1 → HopEx t := fun t ht => by
  have hts : tokensV s = scanF (s.length + 1) s 0 [] [] := by
    unfold tokensV at he ⊢
    split at he
    · exact absurd he (by decide)
    rename_i h; rw [if_neg h]
  have hsk := (scan_pre (s.length + 1) s 0 [] [] (fun x h => by cases h) (by rw [← hts]; exact he)).2
  rw [← hts] at hsk
  exact (hsk (skel t) (List.mem_map.2 ⟨t, ht, rfl⟩)).1
theorem gram_sh {d : Int} {s s' : Bytes} {pre : List Tok} (hpre : pre = [] ∨ ∃ i, pre = [lineT i]) (ht : tokensV s' = if (tokensV s).2.2 ≠ 0 then ([], (tokensV s).2.1 + d, (tokensV s).2.2) else (pre ++ (tokensV s).1.map (shT d), (tokensV s).2.1, 0)) :
    (gramV s').1 = (gramV s).1 ∧ (gramV s').2.2 = (gramV s).2.2 ∧ ((gramV s).2.2 ≠ 0 → (gramV s').2.1 = (gramV s).2.1 + d) := by
  by_cases he : (tokensV s).2.2 = 0
  · rw [if_neg (fun q => q he)] at ht
    have he' : (tokensV s').2.2 = 0 := by rw [ht]
    have hg := tokens_good he;have hT : Tr True d (tokensV s).1 ((tokensV s).1.map (shT d)) := ⟨hg, GT_sh hg, Ti_sh _ _, tokens_hop he⟩;have hr := gram_r hT
    have hG : gramG (tokensV s').1 = gramG ((tokensV s).1.map (shT d)) := by
      rw [ht]
      rcases hpre with rfl | ⟨i, rfl⟩
      · rfl
      exact gramG_line i _
    generalize hA : gramG (tokensV s).1 = A at hr
    generalize hA' : gramG ((tokensV s).1.map (shT d)) = A' at hr hG
    cases hr with
    | ok hx h2 hn hn' =>
      rw [gramV_ok he hA, gramV_ok he' hG]
      exact ⟨(hx (.inl trivial)).symm, rfl, fun q => absurd rfl q⟩
    | @er r r' e h2 =>
      rw [gramV_er he hA, gramV_er he' hG]
      refine ⟨rfl, rfl, fun _ => ?_⟩
      obtain ⟨g, g', t, _⟩ := h2
      cases t with
      | nil => exact g.elim
      | cons k x w h p s => exact p trivial
      | ins f => exact absurd trivial f
    | any hf => exact absurd trivial hf
  rw [if_pos he] at ht
  have he' : (tokensV s').2.2 ≠ 0 := by rw [ht]; exact he
  rw [gramV_tok he, gramV_tok he', ht]
  exact ⟨rfl, rfl, fun _ => rfl⟩
def padsV : List Bytes := [[10], [35, 32, 110, 111, 116, 101, 10], [32, 9, 10], [92, 10]]
theorem gram_pad {p s : Bytes} (hp : p ∈ padsV) (hs : s.length ≤ 3000) : (gramV (p ++ s)).1 = (gramV s).1 ∧ (gramV (p ++ s)).2.2 = (gramV s).2.2 ∧ ((gramV s).2.2 ≠ 0 → (gramV (p ++ s)).2.1 = (gramV s).2.1 + p.length) := by
  simp only [padsV, List.mem_cons, List.mem_nil_iff, or_false] at hp
  have hl0 : ∀ k, blankL k (10 :: s) = 0 := fun k => by
    cases k with
    | zero => rfl
    | succ k => rw [blankL, if_neg (by decide), if_neg (by simp [Lib.hasPrefix]), if_neg (by decide)]
  rcases hp with rfl | rfl | rfl | rfl
  · exact gram_sh (pre := [lineT ((0 : Nat) : Int)]) (.inr ⟨_, rfl⟩) (pad_line (b := 0) (by simp; omega) (hl0 _) rfl rfl)
  · refine gram_sh (pre := [lineT ((6 : Nat) : Int)]) (.inr ⟨_, rfl⟩) (pad_line (b := 6) (by simp; omega) ?_ rfl rfl)
    have hi : idx (35 :: 32 :: 110 :: 111 :: 116 :: 101 :: 10 :: s) 10 = 6 := by simp [idx, Lib.indexByte]
    show blankL (s.length + 7) (35 :: 32 :: 110 :: 111 :: 116 :: 101 :: 10 :: s) = 6
    rw [blankL, if_neg (by decide), if_neg (by simp [Lib.hasPrefix]), if_pos rfl, if_neg (by rw [hi]; decide), hi]
    show blankL (s.length + 6) (10 :: s) + 6 = 6
    rw [hl0]
  · refine gram_sh (pre := [lineT ((2 : Nat) : Int)]) (.inr ⟨_, rfl⟩) (pad_line (b := 2) (by simp; omega) ?_ rfl rfl)
    show blankL (s.length + 3) (32 :: 9 :: 10 :: s) = 2
    rw [blankL, if_pos (by decide), blankL, if_pos (by decide), hl0]
  exact gram_sh (pre := []) (.inl rfl) (pad_cont (by omega))
open Go Go.RowKit
def L0 (r : Bytes) : Prop := r = [] ∨ L10 r
theorem L0.drop {r : Bytes} (h : L0 r) (j : Nat) : L0 (r.drop j) := by
  by_cases hj : r.drop j = []
  · exact .inl hj
  rcases h with rfl | h
  · simp at hj
  exact .inr (h.drop hj)
theorem L0.tail {c : UInt8} {u : Bytes} (h : L0 (c :: u)) : L0 u := by have := h.drop 1; rwa [List.drop_one] at this
theorem word_10 (k : Nat) : wordL k [10] = (0, 0) := by
  cases k with
  | zero => rfl
  | succ k => rw [wordL, if_pos (by decide)]
theorem wordL_10 : ∀ (k k' : Nat) (r : Bytes), r.length ≤ k → r.length ≤ k' → L0 r → (wordL k r).2 = 0 → wordL k' (r ++ [10]) = wordL k r
  | k, k', [], _, _, _, _ => by rw [List.nil_append, word_10]; cases k <;> rfl
  | 0, _, c :: u, hk, _, _, _ => by simp at hk
  | k + 1, 0, c :: u, _, hk', _, _ => by simp at hk'
  | k + 1, k' + 1, c :: u, hk, hk', hL, he => by
    have hL1 : L10 (c :: u) := hL.resolve_left (by simp)
    rw [List.cons_append]
    simp only [wordL] at he ⊢
    split at he
    · rename_i hm; rw [if_pos hm, if_pos hm]
    rename_i hm
    rw [if_neg hm, if_neg hm]
    cases hs : skipL 64 (c :: u) with
    | error e => rw [hs] at he; exact absurd he (skipL_err _ _ _ hs)
    | ok n =>
      rw [hs] at he
      have h2 := skipL_ext [10] _ _ _ hL1 hs;rw [List.cons_append] at h2;rw [h2];simp only [] at he ⊢;have h1 := skipL_le _ _ _ (by simp) hs
      simp only [List.length_cons] at hk hk' h1
      have h6 := wordL_10 k k' ((c :: u).drop n) (by simp only [List.length_drop, List.length_cons]; omega) (by simp only [List.length_drop, List.length_cons]; omega) (hL.drop n) he
      rw [← List.drop_append_of_le_length (by simp only [List.length_cons]; omega), List.cons_append] at h6
      rw [h6]
theorem blank_10 (k : Nat) : blankL k [10] = 0 := by
  cases k with
  | zero => rfl
  | succ k => rw [blankL, if_neg (by decide), if_neg (by decide), if_neg (by decide)]
theorem blankL_10 : ∀ (k k' : Nat) (r : Bytes), r.length ≤ k → r.length ≤ k' → L0 r → blankL k' (r ++ [10]) = blankL k r
  | k, k', [], _, _, _ => by rw [List.nil_append, blank_10]; cases k <;> rfl
  | 0, _, c :: u, hk, _, _ => by simp at hk
  | k + 1, 0, c :: u, _, hk', _ => by simp at hk'
  | k + 1, k' + 1, c :: u, hk, hk', hL => by
    have hL1 : L10 (c :: u) := hL.resolve_left (by simp)
    simp only [List.length_cons] at hk hk'
    rw [List.cons_append]
    simp only [blankL]
    by_cases hb : c = 32 ∨ c = 9
    · rw [if_pos hb, if_pos hb, blankL_10 k k' u (by omega) (by omega) hL.tail]
    rw [if_neg hb, if_neg hb]
    by_cases hp : Lib.hasPrefix (c :: u) [92, 10] = true
    · have h2 := pre_len hp;simp only [List.length_cons, List.length_nil] at h2
      have hp2 : Lib.hasPrefix (c :: (u ++ [10])) [92, 10] = true := by
        rw [show c :: (u ++ [10]) = (c :: u) ++ [10] from rfl, hasP_app (by simp only [List.length_cons, List.length_nil]; omega)]; exact hp
      rw [if_pos hp, if_pos hp2, List.drop_append_of_le_length (by omega), blankL_10 k k' (u.drop 1) (by simp only [List.length_drop]; omega) (by simp only [List.length_drop]; omega) (hL.tail.drop 1)]
    have hp2 : ¬ Lib.hasPrefix (c :: (u ++ [10])) [92, 10] = true := by
      intro h9
      by_cases hu : u = []
      · subst hu
        have := hL1.one;subst this;rw [hasP_cons] at h9; simp at h9
      have := List.length_pos_iff.2 hu;rw [show c :: (u ++ [10]) = (c :: u) ++ [10] from rfl, hasP_app (by simp only [List.length_cons, List.length_nil]; omega)] at h9
      exact hp h9
    rw [if_neg hp, if_neg hp2]
    by_cases h35 : c = 35
    · rw [if_pos h35, if_pos h35]
      have hi : 0 ≤ idx (c :: u) 10 := idx_mem.2 (List.mem_of_getLast? hL1)
      have hi2 : idx (c :: (u ++ [10])) 10 = idx (c :: u) 10 := by
        rw [show c :: (u ++ [10]) = (c :: u) ++ [10] from rfl]; exact idx_app hi
      rw [if_neg (by rw [hi2]; omega), if_neg (by omega), hi2]
      have hil : (idx (c :: u) 10).toNat ≤ (c :: u).length := by have := idx_le (c :: u) 10; omega
      have hi0 := idx_pos hi (by rw [h35]; decide)
      have h7 := blankL_10 k k' ((c :: u).drop (idx (c :: u) 10).toNat) (by simp only [List.length_drop, List.length_cons]; omega) (by simp only [List.length_drop, List.length_cons]; omega) (hL.drop _)
      rw [← List.drop_append_of_le_length hil, List.cons_append] at h7
      rw [h7]
    rw [if_neg h35, if_neg h35]
theorem nextT_10 {r : Bytes} (i : Int) (hL : L10 r) (he : (nextT r i).2.2 = 0) : nextT (r ++ [10]) i = nextT r i := by
  have hr := hL.ne;have h0 := List.length_pos_iff.2 hr;have hb : byte (r ++ [10]) 0 = byte r 0 := byte_app h0
  unfold nextT at he ⊢
  rw [if_neg hr] at he
  rw [if_neg hr, if_neg (by simp [hr]), hb]
  by_cases h10 : byte r 0 = 10
  · rw [if_pos h10, if_pos h10]
  rw [if_neg h10] at he
  rw [if_neg h10, if_neg h10]
  by_cases hm : metaB (byte r 0) = true
  · rw [if_pos hm, if_pos hm]
    have ho : opT (r ++ [10]) = opT r := by
      unfold opT
      rw [findN_congr (p := preO (r ++ [10])) (q := preO r) opsT 0 fun x hx => hasP_no hL (by
        have : ∀ x, x ∈ opsT → (10 : UInt8) ∉ x := by decide
        exact this x hx)]
    rw [ho]
  rw [if_neg hm] at he
  rw [if_neg hm, if_neg hm]
  by_cases hw : (wordV r).2 = 0
  · have hx : wordV (r ++ [10]) = wordV r := wordL_10 _ _ _ (Nat.le_refl _) (by rw [List.length_append]; omega) (.inr hL) hw
    have hw2 : ¬ (wordV r).2 ≠ 0 := by rw [hw]; simp
    rw [hx, if_neg hw2, if_neg hw2]
    have hl : (wordV r).1 ≤ r.length := wordL_le _ _;rw [List.take_append_of_le_length hl]
    congr 2
    by_cases h1 : (wordV r).1 = 1
    · have h2 : 1 < r.length := by
        rcases Nat.lt_or_ge 1 r.length with h | h
        · exact h
        have e1 : r.length = 1 := by omega
        obtain ⟨c, rfl⟩ := List.length_eq_one_iff.1 e1;exact absurd (by rw [hL.one]; rfl) h10
      have hb1 : byte (r ++ [10]) 1 = byte r 1 := byte_app h2;have h3 : 1 < (r ++ [10]).length := by rw [List.length_append]; omega
      rw [hb1]
      simp only [h2, h3]
    rw [if_neg (fun h => h1 h.1), if_neg (fun h => h1 h.1)]
  rw [if_pos hw] at he; exact absurd he (by simpa using hw)
theorem cut_10 {r : Bytes} (h : L10 r) : Lib.cut r [10] = (r.take (idx r 10).toNat, r.drop ((idx r 10).toNat + 1), true) ∧ (idx r 10).toNat < r.length := by
  have hi : 0 ≤ idx r 10 := idx_mem.2 (List.mem_of_getLast? h);have hl := idx_le r 10
  unfold Lib.cut
  rw [Lib.index_one]
  refine ⟨?_, by omega⟩
  rw [if_pos (show 0 ≤ Lib.indexByte r 10 from hi)]; rfl
theorem L10.snoc {r : Bytes} : L10 (r ++ [10]) := by unfold L10; simp
def Rest (r r' : Bytes) : Prop := r' = r ∨ (L0 r ∧ r' = r ++ [10])
theorem body_nil (fin : Bytes) (st : Bool) (k : Nat) : bodyL fin st k [] = ([], 0) := by
  cases k with
  | zero => rfl
  | succ k => rw [bodyL, if_pos rfl]
theorem body_10 (fin : Bytes) (st : Bool) (k : Nat) : (bodyL fin st (k + 1) [10]).2 = 1 := by
  have hc : Lib.cut [10] [10] = (([] : Bytes), ([] : Bytes), true) := by decide
  have ht : (if st = true then trimT [] else ([] : Bytes)) = [] := by split <;> rfl
  rw [bodyL, if_neg (by decide)]
  simp only [hc, ht, List.length_nil]
  split
  · rfl
  simp only [if_true, List.drop_one, List.tail_cons, Nat.zero_add, List.drop_succ_cons, List.drop_zero, body_nil]
theorem body_end (fin : Bytes) (st : Bool) : ∀ (k k' : Nat) (r : Bytes), r.length ≤ k → r.length < k' → L0 r → (bodyL fin st k' (r ++ [10]) = bodyL fin st k r ∧ (bodyL fin st k r).2 ≤ r.length) ∨ ((bodyL fin st k r).2 = r.length ∧ (bodyL fin st k' (r ++ [10])).2 = r.length + 1)
  | _, 0, _, _, h, _ => absurd h (Nat.not_lt_zero _)
  | k, k' + 1, [], _, _, _ => .inr ⟨by rw [body_nil]; rfl, by rw [List.nil_append, body_10]; rfl⟩
  | 0, _, c :: u, h, _, _ => by simp at h
  | k + 1, k' + 1, c :: u, hk, hk', hL => by
    have hL1 : L10 (c :: u) := hL.resolve_left (by simp)
    generalize hr : c :: u = r at *
    have hrn : r ≠ [] := by rw [← hr]; simp
    obtain ⟨e1, l1⟩ := cut_10 hL1;obtain ⟨e2, l2⟩ := cut_10 (L10.snoc (r := r));have hi : 0 ≤ idx r 10 := idx_mem.2 (List.mem_of_getLast? hL1);rw [idx_app hi] at e2;have hln : (r.take (idx r 10).toNat).length = (idx r 10).toNat := by rw [List.length_take]; omega
    rw [List.take_append_of_le_length (by omega)] at e2
    simp only [bodyL]
    rw [if_neg hrn, if_neg (by simp)]
    simp only [e1, e2, hln, if_true]
    generalize (if st = true then trimT (List.take (idx r 10).toNat r) else List.take (idx r 10).toNat r) = l2'
    by_cases hf : l2' = fin
    · rw [if_pos hf, if_pos hf]; exact .inl ⟨rfl, by show (idx r 10).toNat + 1 ≤ _; omega⟩
    rw [if_neg hf, if_neg hf]
    have hd : (r ++ [10]).drop ((idx r 10).toNat + 1) = r.drop ((idx r 10).toNat + 1) ++ [10] := List.drop_append_of_le_length (by omega)
    rw [hd]
    have hl : (r.drop ((idx r 10).toNat + 1)).length = r.length - ((idx r 10).toNat + 1) := List.length_drop
    rcases body_end fin st k k' (r.drop ((idx r 10).toNat + 1)) (by omega) (by omega) (hL.drop _) with ⟨h1, h2⟩ | ⟨h1, h2⟩
    · rw [h1]; exact .inl ⟨rfl, by show _ + ((idx r 10).toNat + 1) ≤ _; omega⟩
    exact .inr ⟨by show _ + ((idx r 10).toNat + 1) = _; omega, by show _ + ((idx r 10).toNat + 1) = _; omega⟩
inductive Tw : Bool → List Tok → List Tok → Prop
  | nil {b : Bool} : Tw b [] []
  | cons {b : Bool} {t t' : Tok} {r r' : List Tok} (k : t'.kind = t.kind) (x : t'.text = t.text) (w : t'.raw = t.raw) (h : b = false → t'.here = t.here) (s : Tw (hopB t) r r') : Tw b (t :: r) (t' :: r')
theorem Tw.len {b : Bool} {l l' : List Tok} (h : Tw b l l') : l'.length = l.length := by
  induction h with
  | nil => rfl
  | cons k x w h s ih => simp [ih]
theorem Tw.app {d : Int} {b : Bool} {l l' T T' : List Tok} (h : Tw b l l') (ht : ∀ b, Ti False d b T T') : Ti False d b (l ++ T) (l' ++ T') := by
  induction h with
  | nil => exact ht _
  | cons k x w h s ih => exact .cons k x w (fun q => h (q.resolve_left id)) (fun q => q.elim) ih
theorem Tw.snoc {b : Bool} {l l' : List Tok} {t t' : Tok} (h : Tw b l l') (k : t'.kind = t.kind) (x : t'.text = t.text) (w : t'.raw = t.raw) (hh : t'.here = t.here) : Tw b (l ++ [t]) (l' ++ [t']) := by
  induction h with
  | nil => exact .cons k x w (fun _ => hh) .nil
  | cons k2 x2 w2 h2 s ih => exact .cons k2 x2 w2 h2 ih
theorem hopB_eq {t t' : Tok} (k : t'.kind = t.kind) (x : t'.text = t.text) : hopB t' = hopB t := by unfold hopB; rw [k, x]
theorem Tw.get {b : Bool} {l l' : List Tok} (h : Tw b l l') : ∀ (j : Nat) (t : Tok), l[j]? = some t → ∃ t', l'[j]? = some t' ∧ t'.kind = t.kind ∧ t'.text = t.text := by
  induction h with
  | nil => intro j t h; simp at h
  | cons k x w h s ih =>
    intro j t hj
    cases j with
    | zero => simp at hj; subst hj; exact ⟨_, rfl, k, x⟩
    | succ j => exact ih j t (by simpa using hj)
theorem Tw.set {b : Bool} {l l' : List Tok} (h : Tw b l l') : ∀ (j : Nat) (t y y' : Tok), l[j]? = some t → y.kind = t.kind → y.text = t.text → y'.kind = t.kind → y'.text = t.text → y'.raw = y.raw → (j = 0 → b = true) → (0 < j → ∃ z, l[j - 1]? = some z ∧ hopB z = true) → Tw b (l.set j y) (l'.set j y') := by
  induction h with
  | nil => intro j t y y' h; simp at h
  | @cons b u u' r r' k x w h s ih =>
    intro j t y y' hj e1 e2 e3 e4 e5 e6 e7
    cases j with
    | zero =>
      simp at hj; subst hj
      rw [List.set_cons_zero, List.set_cons_zero]
      refine .cons (e3.trans e1.symm) (e4.trans e2.symm) e5 (fun q => by rw [e6 rfl] at q; cases q) ?_
      rw [hopB_eq e1 e2]; exact s
    | succ j =>
      rw [List.set_cons_succ, List.set_cons_succ]
      refine .cons k x w h (ih j t y y' (by simpa using hj) e1 e2 e3 e4 e5 (fun q => ?_) (fun q => ?_))
      · subst q
        obtain ⟨z, hz, hz2⟩ := e7 (Nat.succ_pos _);simp at hz; subst hz; exact hz2
      obtain ⟨z, hz, hz2⟩ := e7 (Nat.succ_pos _);refine ⟨z, ?_, hz2⟩;obtain ⟨m, rfl⟩ : ∃ m, j = m + 1 := ⟨j - 1, by omega⟩
      simpa using hz
def WsOk (out : List Tok) (ws : List (Nat × Bool)) : Prop := ∀ w, w ∈ ws → 0 < w.1 ∧ w.1 < out.length ∧ ∃ z, out[w.1 - 1]? = some z ∧ hopB z = true
theorem WsOk.set {out : List Tok} {ws : List (Nat × Bool)} (h : WsOk out ws) {j : Nat} {t y : Tok} (hj : out[j]? = some t) (e1 : y.kind = t.kind) (e2 : y.text = t.text) : WsOk (out.set j y) ws := fun w hw => by
  obtain ⟨h1, h2, z, h3, h4⟩ := h w hw;refine ⟨h1, by rw [List.length_set]; exact h2, ?_⟩
  by_cases hq : w.1 - 1 = j
  · subst hq
    have hz : t = z := Option.some.inj (hj.symm.trans h3);exact ⟨y, by rw [List.getElem?_set_self (List.getElem?_eq_some_iff.1 hj).1], by rw [hopB_eq e1 e2, hz]; exact h4⟩
  exact ⟨z, by rw [List.getElem?_set_ne (fun e => hq e.symm)]; exact h3, h4⟩
theorem lines_tw : ∀ (ws : List (Nat × Bool)) (out out' : List Tok) (r r' : Bytes), Rest r r' → Tw false out out' → WsOk out ws →
    Tw false (linesV out ws r).1 (linesV out' ws r').1 ∧ Rest (r.drop (linesV out ws r).2) (r'.drop (linesV out' ws r').2)
  | [], out, out', r, r', hr, h, hw => ⟨h, hr⟩
  | (j, st) :: ws, out, out', r, r', hr, h, hw => by
    obtain ⟨hj0, hjl, z, hz, hz2⟩ := hw (j, st) (by simp)
    simp only [] at hj0 hjl hz
    have hoj : out[j]? = some out[j] := List.getElem?_eq_getElem hjl;obtain ⟨t', ht', k', x'⟩ := h.get j _ hoj;have hg : out.getD j ⟨0, [], 0, [], false⟩ = out[j] := by rw [List.getD_eq_getElem?_getD, hoj]; rfl
    have hg' : out'.getD j ⟨0, [], 0, [], false⟩ = t' := by rw [List.getD_eq_getElem?_getD, ht']; rfl
    simp only [linesV]
    have hpv : plainV t'.text = plainV out[j].text := by rw [x']
    rw [hg, hg', hpv]
    generalize (plainV out[j].text) = pv
    have hb : Rest (r.drop (bodyV pv.1 st r).2) (r'.drop (bodyV pv.1 st r').2) := by
      rcases hr with rfl | ⟨hL, rfl⟩
      · exact .inl rfl
      unfold bodyV
      rcases body_end pv.1 st r.length (r ++ [10]).length r (Nat.le_refl _) (by simp) hL with ⟨h1, h2⟩ | ⟨h1, h2⟩
      · rw [h1]; exact .inr ⟨hL.drop _, List.drop_append_of_le_length h2⟩
      rw [h1, h2]
      exact .inl (by rw [List.drop_length, List.drop_eq_nil_of_le (by simp)])
    have hs := h.set j out[j] { out[j] with here := out[j].here ++ (bodyV pv.1 st r).1, raw := pv.2 } { t' with here := t'.here ++ (bodyV pv.1 st r').1, raw := pv.2 } hoj rfl rfl k' x' rfl (fun e => by omega) (fun _ => ⟨z, hz, hz2⟩)
    have hw2 : WsOk (out.set j { out[j] with here := out[j].here ++ (bodyV pv.1 st r).1, raw := pv.2 }) ws := WsOk.set (fun w hw' => hw w (by simp [hw'])) hoj rfl rfl
    have ih := lines_tw ws _ _ _ _ hb hs hw2;refine ⟨ih.1, ?_⟩;have := ih.2
    rwa [List.drop_drop, List.drop_drop, Nat.add_comm (bodyV pv.1 st r).2, Nat.add_comm (bodyV pv.1 st r').2] at this
theorem linesE_app : ∀ (ws : List (Nat × Bool)) (out p : List Tok) (r : Bytes), (∀ w, w ∈ ws → w.1 < out.length) → linesV (out ++ p) ws r = ((linesV out ws r).1 ++ p, (linesV out ws r).2)
  | [], out, p, r, _ => rfl
  | (j, st) :: ws, out, p, r, h => by
    have hj : j < out.length := h (j, st) (by simp)
    simp only [linesV]
    have hg : (out ++ p).getD j ⟨0, [], 0, [], false⟩ = out.getD j ⟨0, [], 0, [], false⟩ := by
      rw [List.getD_eq_getElem?_getD, List.getD_eq_getElem?_getD, List.getElem?_append_left hj]
    rw [hg, List.set_append_left _ _ hj, linesE_app ws _ p _ (fun w hw => by rw [List.length_set]; exact h w (by simp [hw]))]
theorem hereV_tw {out out' : List Tok} {b : Bool} (h : Tw b out out') {t t' : Tok} (k : t'.kind = t.kind) : hereV out' t' = hereV out t := by
  unfold hereV
  have hl := h.len
  cases ho : out.getLast? with
  | none =>
    have : out = [] := List.getLast?_eq_none_iff.1 ho;subst this;have : out' = [] := List.length_eq_zero_iff.1 (by simpa using hl)
    subst this; rfl
  | some z =>
    have hz : out[out.length - 1]? = some z := by rw [← List.getLast?_eq_getElem?]; exact ho
    obtain ⟨z', hz', k2, x2⟩ := h.get _ _ hz;have ho' : out'.getLast? = some z' := by rw [List.getLast?_eq_getElem?, hl]; exact hz'
    rw [ho', k]; simp only [k2, x2]
theorem push_tw {out out' : List Tok} {b : Bool} (h : Tw b out out') {t t' : Tok} (k : t'.kind = t.kind) (ws : List (Nat × Bool)) : pushW out' ws t' = pushW out ws t := by
  unfold pushW; rw [hereV_tw h k, h.len]
theorem pushE_ok {out : List Tok} {ws : List (Nat × Bool)} (h : WsOk out ws) (t : Tok) : WsOk (out ++ [t]) (pushW out ws t) := by
  have hup : WsOk (out ++ [t]) ws := fun w hw => by
    obtain ⟨h1, h2, z, h3, h4⟩ := h w hw;exact ⟨h1, by simp; omega, z, by rw [List.getElem?_append_left (by omega)]; exact h3, h4⟩
  unfold pushW hereV
  cases ho : out.getLast? with
  | none => exact hup
  | some z =>
    have hz : out[out.length - 1]? = some z := by rw [← List.getLast?_eq_getElem?]; exact ho
    have hp : 0 < out.length := by have := (List.getElem?_eq_some_iff.1 hz).1; omega
    by_cases hc : t.kind = 1 ∧ z.kind = 2 ∧ Lib.hasPrefix z.text [60, 60] = true
    · simp only [if_pos hc]
      intro w hw
      rcases List.mem_append.1 hw with hw | hw
      · exact hup w hw
      rw [List.mem_singleton.1 hw]
      exact ⟨hp, by simp, z, by rw [List.getElem?_append_left (by simp only []; omega)]; exact hz, by unfold hopB hereO; rw [hc.2.2, decide_eq_true hc.2.1]; rfl⟩
    simp only [if_neg hc]; exact hup
theorem pushE_no {out : List Tok} {ws : List (Nat × Bool)} {t : Tok} (h : t.kind ≠ 1) : pushW out ws t = ws := by
  unfold pushW hereV
  cases out.getLast? with
  | none => rfl
  | some z => simp only [if_neg (fun q : t.kind = 1 ∧ z.kind = 2 ∧ Lib.hasPrefix z.text [60, 60] = true => h q.1)]
theorem scan_10 : ∀ (k k' : Nat) (r r' : Bytes) (i i' : Int) (out out' : List Tok) (ws : List (Nat × Bool)), Rest r r' → Tw false out out' → WsOk out ws → r.length < k → r'.length < k' → (scanF k r i out ws).2.2 = 0 →
    (scanF k' r' i' out' ws).2.2 = 0 ∧ Ti False 0 false (scanF k r i out ws).1 (scanF k' r' i' out' ws).1
  | 0, _, r, _, _, _, _, _, _, _, _, _, h, _, _ => absurd h (Nat.not_lt_zero _)
  | _, 0, _, r', _, _, _, _, _, _, _, _, _, h, _ => absurd h (Nat.not_lt_zero _)
  | k + 1, k' + 1, r, r', i, i', out, out', ws, hr, ho, hw, hk, hk', he => by
    have hwl : ∀ {out : List Tok} {ws : List (Nat × Bool)}, WsOk out ws → ∀ w, w ∈ ws → w.1 < out.length := fun h w hw => (h w hw).2.1
    have hbf := blank_facts r;have hbf' := blank_facts r'
    have hR1 : Rest (r.drop (blankV r)) (r'.drop (blankV r')) := by
      rcases hr with rfl | ⟨hL, rfl⟩
      · exact .inl rfl
      have hb : blankV (r ++ [10]) = blankV r := blankL_10 _ _ _ (Nat.le_refl _) (by simp) hL
      rw [hb]; exact .inr ⟨hL.drop _, List.drop_append_of_le_length hbf.1⟩
    by_cases hr1 : r.drop (blankV r) = []
    · -- the end of r
      have hN : ∀ i, nextT (r.drop (blankV r)) i = (⟨0, [], i, [], false⟩, 0, 0) := fun i => by rw [hr1]; rfl
      have hA : scanF (k + 1) r i out ws = ((linesV out ws []).1 ++ [⟨0, [], i + blankV r, [], false⟩], 0, 0) := by
        rw [scanF]
        simp only [hN]
        rw [if_neg (by decide), if_pos trivial, pushE_no (show (0 : Int) ≠ 1 by decide), linesE_app _ _ _ _ (hwl hw)]
      rw [hA]
      have hT := (lines_tw ws out out' [] [] (.inl rfl) ho hw).1
      rcases hR1 with h1 | ⟨_, h1⟩
      · have hN' : ∀ i, nextT (r'.drop (blankV r')) i = (⟨0, [], i, [], false⟩, 0, 0) := fun i => by rw [h1, hr1]; rfl
        have hA' : scanF (k' + 1) r' i' out' ws = ((linesV out' ws []).1 ++ [⟨0, [], i' + blankV r', [], false⟩], 0, 0) := by
          rw [scanF]
          simp only [hN']
          rw [if_neg (by decide), if_pos trivial, pushE_no (show (0 : Int) ≠ 1 by decide), linesE_app _ _ _ _ (fun w h => by rw [ho.len]; exact hwl hw w h)]
        rw [hA']
        exact ⟨rfl, hT.app fun b => .cons rfl rfl rfl (fun _ => rfl) (fun q => q.elim) .nil⟩
      rw [hr1, List.nil_append] at h1
      have hN' : ∀ i, nextT [10] i = (⟨3, [10], i, [], false⟩, 1, 0) := fun i => next_line [] i
      have hk1 : 0 < k' := by
        have : (r'.drop (blankV r')).length = 1 := by rw [h1]; rfl
        rw [List.length_drop] at this; omega
      obtain ⟨k2, rfl⟩ : ∃ m, k' = m + 1 := ⟨k' - 1, by omega⟩
      have hA' : ∃ j, scanF (k2 + 1 + 1) r' i' out' ws = ((linesV out' ws []).1 ++ [⟨3, [10], i' + blankV r', [], false⟩] ++ [⟨0, [], j, [], false⟩], 0, 0) := by
        have hl := linesE_app ws out' [⟨3, [10], i' + blankV r', [], false⟩] [] (fun w h => by rw [ho.len]; exact hwl hw w h)
        refine ⟨i' + (blankV r' : Int) + ((1 : Nat) : Int) + (((linesV out' ws []).2 : Nat) : Int), ?_⟩;rw [scanF];simp only [h1, hN'];rw [if_neg (by decide), if_neg (by decide), if_pos trivial, pushE_no (show (3 : Int) ≠ 1 by decide)]
        rw [show List.drop 1 [(10 : UInt8)] = [] from rfl, hl]
        rw [List.drop_nil]
        exact scan_end (Nat.succ_pos _)
      obtain ⟨j, hA'⟩ := hA';rw [hA'];refine ⟨rfl, ?_⟩
      show Ti False 0 false _ ((linesV out' ws []).1 ++ [_] ++ [_])
      rw [List.append_assoc]
      exact hT.app fun b => .ins id rfl rfl rfl rfl rfl rfl
    have hb := hbf.2.resolve_left hr1;have hst := step_len (i := i + blankV r) hr1;have hok := nextT_ok hr1 hb (i + blankV r);have hshift := nextT_shift (r.drop (blankV r)) (i + blankV r) (i' + blankV r' - (i + blankV r));rw [show i + blankV r + (i' + blankV r' - (i + blankV r)) = i' + blankV r' by omega] at hshift
    simp only [scanF] at he ⊢
    generalize hZ : nextT (r.drop (blankV r)) (i + blankV r) = z at *
    rcases hok with ⟨h9, _⟩ | ⟨hz0, hzk, hn1, hn2, htx, hat, hhe, hra⟩
    · rw [if_pos h9] at he; exact absurd he h9
    have hz0' : ¬ z.2.2 ≠ 0 := by simpa using hz0
    have hZ' : nextT (r'.drop (blankV r')) (i' + blankV r') = (shT (i' + blankV r' - (i + blankV r)) z.1, z.2.1, z.2.2) := by
      rcases hR1 with h1 | ⟨h0, h1⟩
      · rw [h1]; exact hshift
      have hL1 : L10 (r.drop (blankV r)) := h0.resolve_left hr1;rw [h1, nextT_10 _ hL1 (by rw [hshift]; exact hz0)]; exact hshift
    rw [hZ', if_neg hz0', if_neg hzk]
    rw [if_neg hz0', if_neg hzk] at he
    generalize hd : i' + (blankV r' : Int) - (i + blankV r) = d at *
    have hR2 : Rest ((r.drop (blankV r)).drop z.2.1) ((r'.drop (blankV r')).drop z.2.1) := by
      rcases hR1 with h1 | ⟨h0, h1⟩
      · rw [h1]; exact .inl rfl
      rw [h1]; exact .inr ⟨h0.drop _, List.drop_append_of_le_length hn2⟩
    have ho2 : Tw false (out ++ [z.1]) (out' ++ [shT d z.1]) := ho.snoc rfl rfl rfl rfl;have hp : pushW out' ws (shT d z.1) = pushW out ws z.1 := push_tw ho rfl ws;have hw2 := pushE_ok hw z.1;have hl1 := hst hz0
    have hl2 : ((r'.drop (blankV r')).drop z.2.1).length < r'.length := by
      have hr1' : r'.drop (blankV r') ≠ [] := by
        rcases hR1 with h1 | ⟨h0, h1⟩
        · rw [h1]; exact hr1
        rw [h1]; simp
      have h3 := List.length_pos_iff.2 hr1';simp only [List.length_drop] at h3 ⊢; omega
    rw [if_neg hz0', if_neg (show ¬ (shT d z.1).kind = 0 from hzk), hp]
    by_cases h3 : z.1.kind = 3
    · rw [if_pos h3] at he ⊢
      rw [if_pos (show (shT d z.1).kind = 3 from h3)]
      obtain ⟨q1, q2⟩ := lines_tw (pushW out ws z.1) _ _ _ _ hR2 ho2 hw2;refine scan_10 k k' _ _ _ _ _ _ [] q2 q1 (fun w h => by cases h) ?_ ?_ he
      · exact Nat.lt_of_le_of_lt (by rw [List.length_drop]; exact Nat.sub_le _ _) (Nat.lt_of_lt_of_le hl1 (Nat.le_of_lt_succ hk))
      exact Nat.lt_of_le_of_lt (by rw [List.length_drop]; exact Nat.sub_le _ _) (Nat.lt_of_lt_of_le hl2 (Nat.le_of_lt_succ hk'))
    rw [if_neg h3] at he ⊢
    rw [if_neg (show ¬ (shT d z.1).kind = 3 from h3)]
    exact scan_10 k k' _ _ _ _ _ _ _ hR2 ho2 hw2 (Nat.lt_of_lt_of_le hl1 (Nat.le_of_lt_succ hk)) (Nat.lt_of_lt_of_le hl2 (Nat.le_of_lt_succ hk')) he
theorem tokens_10 {s : Bytes} (hs : s.length ≤ 3000) (hL : L10 s) (he : (tokensV s).2.2 = 0) : (tokensV (s ++ [10])).2.2 = 0 ∧ Ti False 0 false (tokensV s).1 (tokensV (s ++ [10])).1 := by
  have e1 : tokensV s = scanF (s.length + 1) s 0 [] [] := by rw [tokensV, if_neg (by omega)]
  have e2 : tokensV (s ++ [10]) = scanF ((s ++ [10]).length + 1) (s ++ [10]) 0 [] [] := by rw [tokensV, if_neg (by simp; omega)]
  rw [e1] at he
  rw [e1, e2]
  exact scan_10 _ _ s (s ++ [10]) 0 0 [] [] [] (.inr ⟨.inr hL, rfl⟩) .nil (fun w h => by cases h) (Nat.lt_succ_self _) (Nat.lt_succ_self _) he
theorem gram_10 {s : Bytes} (hs : s.length ≤ 3000) (hL : L10 s) (he : (gramV s).2.2 = 0) : (gramV (s ++ [10])).2.2 = 0 ∧ (¬ Here (gramV s).1 → (gramV s).1 = (gramV (s ++ [10])).1) := by
  by_cases ht : (tokensV s).2.2 = 0
  · obtain ⟨h1, h2⟩ := tokens_10 hs hL ht;have hr := gram_r (F := False) (d := 0) ⟨tokens_good ht, tokens_good h1, h2, tokens_hop ht⟩;generalize hA : gramG (tokensV s).1 = A at hr;generalize hA' : gramG (tokensV (s ++ [10])).1 = A' at hr
    cases A with
    | er r e => rw [gramV_er ht hA] at he; exact absurd he (gram_ne hA)
    | ok c r =>
      cases hr with
      | ok hx _ _ _ =>
        rw [gramV_ok ht hA, gramV_ok h1 hA']
        exact ⟨rfl, fun q => hx (.inr q)⟩
  rw [gramV_tok ht] at he; exact absurd he ht
open Go Go.Proofs Go.RowKit
theorem all_snoc {α : Type} {P : α → Prop} {l : List α} {i : Nat} {x : α} (h : ∀ y, y ∈ l.take i → P y) (hx : l[i]? = some x) (hp : P x) : ∀ y, y ∈ l.take (i + 1) → P y := fun y hy => by
  obtain ⟨j, hj, rfl⟩ := List.mem_take_iff_getElem.1 hy
  by_cases hji : j = i
  · subst hji
    have : l[j]? = some l[j] := List.getElem?_eq_getElem q0;rw [hx] at this; rw [← Option.some.inj this]; exact hp
  exact h _ (List.mem_take_iff_getElem.2 ⟨j, by omega, rfl⟩)
theorem all_end {α : Type} {P : α → Prop} {l : List α} {i : Nat} (h : ∀ y, y ∈ l.take i → P y) (hi : l.length ≤ i) : ∀ y, y ∈ l → P y := fun y hy => h y (by rw [List.take_of_length_le hi]; exact hy)
theorem take_zero {α : Type} {P : α → Prop} {l : List α} : ∀ y, y ∈ l.take 0 → P y := fun y hy => by simp at hy
def HrT (c : Cm) (w w' : World) (v : Value) : Prop := ∃ b : Bool, v = .bool b ∧ (b = true ↔ Here c) ∧ Chg [] w w'
set_option maxHeartbeats 1600000 in
theorem here_step {a : Cm} {va : List Value} {D1 : Nat → Prop} (w : World) (ha : cmE.R w D1 a va) (hrec : ∀ x : Cm, SizeOf.sizeOf x < SizeOf.sizeOf a → ∀ (vx : List Value) (W : World) {D1 : Nat → Prop}, cmE.R W D1 x vx → CallR Tryz.prog 9 #[.agg ⟨vx⟩] W fun v w' => HrT x W w' v) : CallR Tryz.prog 9 #[.agg ⟨va⟩] w fun v w' => HrT a w w' v := by
 obtain ⟨A1A, n1A, A2A, n2A, A3A, n3A, A4A, n4A, A5A, n5A, rfl, hAA, k1A, k2A, k3A, k4A, k5A⟩ := cm_open ha;have hk := hAA.kids.mono (D' := (fun k => k < w.heap.size)) (fun k hk _ => hk)
 have hi := hAA.items.mono (D' := (fun k => k < w.heap.size)) (fun k hk _ => hk)
 have hr := hAA.rds.mono (D' := (fun k => k < w.heap.size)) (fun k hk _ => hk)
 have lk3 := Nat.le_trans k3A.1 k3A.2;have lk4 := Nat.le_trans k4A.1 k4A.2;have lk5 := Nat.le_trans k5A.1 k5A.2;refine callR_of_wp (args := [_]) Tryz.func9 rfl (Nat.le_of_ble_eq_true rfl) ?_;have HC : Chg [] w w := .refl _;refine sr rfl <| Wp rfl <| st_box (v := .agg ⟨[.int _ _, S _, .bool _, .bool _, .slice _ _ _, .slice _ _ _, .slice _ _ _, .slice _ _ _, .slice _ _ _]⟩) (vs := [_, _, _, _, _, _, _, _, _]) rfl rfl ?_;intro b1 w1 e2 c3 hb4;have ge_b1 := gB e2 HC.size;replace HC := HC.then c3;replace hk := hk.tr0 c3;replace hi := hi.tr0 c3;replace hr := hr.tr0 c3;clear e2;refine aB rfl <| en <| x_seq <| sr rfl <| fa T.fld30_6 rfl <| lL T.one26 rfl (hb4.cell rfl) <| Wp rfl <| st_len (ct := #[26]) (by rw [show ((#[26] : Array TypeId)[0]?).bind Tryz.prog.underlying = some (.slice 40) from T.u26]; rfl) rfl <| mI rfl <| en <| x_block <| x_loop (ι := Nat) [2, 4, 14, 15, 16, 17, 18, 19, 20, 21, 22, 23, 24, 25, 26] (fun i => [(14, .int .i64 (i : Int))]) (fun i W => (i ≤ a.rds.length ∧ (∀ y, y ∈ a.rds.take i → hereX y.op = false)) ∧ (Chg [] w W) ∧ (Sl cmE W (fun k => k < w.heap.size) A4A a.kids) ∧ (Sl itE W (fun k => k < w.heap.size) A5A a.items) ∧ (Sl rdrE W (fun k => k < w.heap.size) A3A a.rds) ∧ (Blk W b1 (cmC a A1A n1A A2A n2A A3A n3A A4A n4A A5A n5A) 30)) (fun i => a.rds.length - i) 0 ?_ ?_ ?_
 · exact ⟨rfl, trivial⟩
 ·refine ⟨?_, HC, hk, hi, hr, hb4⟩;exact ⟨Nat.zero_le _, take_zero⟩
 intro i G6 w5 ⟨⟨hil, hn⟩, HC, hk, hi, hr, hb4⟩
 change wp _ _ _ _ _ (upds (over _ _ G6) [(14, .int .i64 (i : Int))]) _ _
 refine sr rfl <| Wp rfl <| st_lss rfl rfl <| en <| x_seq <| x_cond rfl (fun h0 => ?_) (fun h0 => ?_)
 ·try simp only [nm, ne_eq] at h0
  refine x_skip <| then_n <| x_seq <| x_block <| sr rfl ?_;obtain ⟨x7, hx8⟩ : ∃ zz, a.rds[i]? = some zz := ⟨_, List.getElem?_eq_getElem q0⟩;obtain ⟨lb13, _, vs12, hA9, hR11, hC10⟩ := hr.at hx8;obtain rfl : vs12 = [.int .i64 x7.fd, S x7.op, S x7.word, S x7.here, .bool x7.raw] := hR11;refine Wp rfl <| st_indexAddr T.u26 T.size40 (congrArg (fun z => Value.slice z _ _) hA9) rfl q0 q0 <| Wp rfl <| st_loadA (vs := [_, _, _, _, _]) T.agg40 rfl hC10 rfl <| Wp rfl <| st_alloc T.zero40 ?_
  intro b14 w15 e16 c17 hb18;have ge_b14 := gB e16 HC.size;have ne_b1_b14 := nF e16 hb4.ne_size;replace HC := HC.then c17;replace hk := hk.tr0 c17;replace hi := hi.tr0 c17;replace hr := hr.tr0 c17;replace hb4 := hb4.tr0 c17;clear e16;refine Wp rfl <| st_st (v := .agg ⟨[_, _, _, _, _]⟩) T.size40 rfl rfl rfl hb18 ?_;intro w19 c20 hb21; simp only [setVs, setV] at hb21;clear hb18;replace HC := HC.then1 c20 ge_b14;replace hk := hk.tr c20 (by intro k hx hD; have hD : k < _ := hD; simp only [List.mem_cons, List.mem_nil_iff, or_false] at hx; omega)
  replace hi := hi.tr c20 (by intro k hx hD; have hD : k < _ := hD; simp only [List.mem_cons, List.mem_nil_iff, or_false] at hx; omega)
  replace hr := hr.tr c20 (by intro k hx hD; have hD : k < _ := hD; simp only [List.mem_cons, List.mem_nil_iff, or_false] at hx; omega)
  replace hb4 := hb4.tr1 c20 ne_b1_b14;refine en <| sr rfl <| fa T.fld40_1 rfl <| lS T.one9 rfl (hb21.cell rfl) <| Wp rfl <| st_seql rfl rfl <| mB rfl <| w_split (d := 21) rfl (fun g22 => ?_) (fun g22 => ?_)
  ·try simp only [nm, ne_eq] at g22
   iterate 3 refine w_no 3 21 false ?_
   refine pT rfl rfl <| en <| x_cond (t := true) rfl (fun h1 => ?_) (fun h1 => ?_)
   rotate_left
   · exact absurd h1 (by decide)
   have hxt : hereX x7.op = true := by unfold hereX; simp_all
   refine sr rfl <| aB rfl <| en <| x_ret <| block_r <| then_r <| then_r <| block_r <| then_r <| ret_tmp (v := .bool _) rfl rfl ?_;exact ⟨true, rfl, ⟨fun _ => Here.rd (List.mem_of_getElem? hx8) hxt, fun _ => rfl⟩, HC⟩
  try simp only [nm, ne_eq] at g22
  refine w_yes 3 21 false <| st_fieldAddr T.fld40_1 rfl <| w_yes 3 21 false <| st_load1 (v := S _) T.one9 rfl (hb21.cell rfl) <| w_yes 3 21 false <| st_seql rfl rfl <| pF rfl rfl <| en <| x_cond rfl (fun h1 => ?_) (fun h1 => ?_)
  ·try simp only [nm, ne_eq] at h1
   have hxt : hereX x7.op = true := by unfold hereX; simp_all
   refine sr rfl <| aB rfl <| en <| x_ret <| block_r <| then_r <| then_r <| block_r <| then_r <| ret_tmp (v := .bool _) rfl rfl ?_;exact ⟨true, rfl, ⟨fun _ => Here.rd (List.mem_of_getElem? hx8) hxt, fun _ => rfl⟩, HC⟩
  try simp only [nm, ne_eq] at h1
  have hxf : hereX x7.op = false := by unfold hereX; simp_all
  refine x_skip <| block_n <| then_n <| x_region rfl <| Wp rfl <| st_addn rfl rfl (by constructor <;> omega) <| mI rfl <| en <| ⟨i + 1, ?_, ?_, rfl, ⟨rfl, trivial⟩, ?_⟩
  ·refine ⟨?_, HC, hk, hi, hr, hb4⟩;exact ⟨by omega, all_snoc hn hx8 hxf⟩
  ·show a.rds.length - (i + 1) < a.rds.length - i; omega
  exact q9
 try simp only [nm, ne_eq] at h0
 have hn0 := all_end hn q0;refine x_exit <| then_x <| then_x <| block_x <| then_n <| x_seq <| sr rfl <| fa T.fld30_7 rfl <| lL T.one27 rfl (hb4.cell rfl) <| Wp rfl <| st_len (ct := #[27]) (by rw [show ((#[27] : Array TypeId)[0]?).bind Tryz.prog.underlying = some (.slice 30) from T.u27]; rfl) rfl <| mI rfl <| en <| x_block <| x_loop (ι := Nat) [2, 6, 30, 31, 32, 33, 34, 35, 36] (fun i => [(30, .int .i64 (i : Int))]) (fun i W => (i ≤ a.kids.length ∧ (∀ y, y ∈ a.kids.take i → ¬ Here y)) ∧ (Chg [] w W) ∧ (Sl cmE W (fun k => k < w.heap.size) A4A a.kids) ∧ (Sl itE W (fun k => k < w.heap.size) A5A a.items) ∧ (Sl rdrE W (fun k => k < w.heap.size) A3A a.rds) ∧ (Blk W b1 (cmC a A1A n1A A2A n2A A3A n3A A4A n4A A5A n5A) 30)) (fun i => a.kids.length - i) 0 ?_ ?_ ?_
 · exact ⟨rfl, trivial⟩
 ·refine ⟨?_, HC, hk, hi, hr, hb4⟩;exact ⟨Nat.zero_le _, take_zero⟩
 intro i G24 w23 ⟨⟨hil, hn1⟩, HC, hk, hi, hr, hb4⟩
 change wp _ _ _ _ _ (upds (over _ _ G24) [(30, .int .i64 (i : Int))]) _ _
 refine sr rfl <| Wp rfl <| st_lss rfl rfl <| en <| x_seq <| x_cond rfl (fun h2 => ?_) (fun h2 => ?_)
 ·try simp only [nm, ne_eq] at h2
  refine x_skip <| then_n <| x_seq <| x_block <| sr rfl ?_;obtain ⟨x25, hx26⟩ : ∃ zz, a.kids[i]? = some zz := ⟨_, List.getElem?_eq_getElem q0⟩;obtain ⟨lb31, _, vs30, hA27, hR29, hC28⟩ := hk.at hx26;have hvU := hR29;obtain ⟨A1U, n1U, A2U, n2U, A3U, n3U, A4U, n4U, A5U, n5U, rfl, hAU, k1U, k2U, k3U, k4U, k5U⟩ := cm_open hR29;refine Wp rfl <| st_indexAddr T.u27 T.size30 (congrArg (fun z => Value.slice z _ _) hA27) rfl q0 q0 <| Wp rfl <| st_loadA (vs := [_, _, _, _, _, _, _, _, _]) T.agg30 rfl hC28 rfl <| Wp rfl <| st_alloc T.zero30 ?_
  intro b32 w33 e34 c35 hb36;have ge_b32 := gB e34 HC.size;have ne_b1_b32 := nF e34 hb4.ne_size;replace HC := HC.then c35;replace hk := hk.tr0 c35;replace hi := hi.tr0 c35;replace hr := hr.tr0 c35;replace hb4 := hb4.tr0 c35;replace hvU := Enc.chg hvU c35 q8;clear e34;refine Wp rfl <| st_st (v := .agg ⟨[_, _, _, _, _, _, _, _, _]⟩) T.size30 rfl rfl rfl hb36 ?_;intro w37 c38 hb39; simp only [setVs, setV] at hb39;clear hb36;replace HC := HC.then1 c38 ge_b32;replace hk := hk.tr c38 (by intro k hx hD; have hD : k < _ := hD; simp only [List.mem_cons, List.mem_nil_iff, or_false] at hx; omega)
  replace hi := hi.tr c38 (by intro k hx hD; have hD : k < _ := hD; simp only [List.mem_cons, List.mem_nil_iff, or_false] at hx; omega)
  replace hr := hr.tr c38 (by intro k hx hD; have hD : k < _ := hD; simp only [List.mem_cons, List.mem_nil_iff, or_false] at hx; omega)
  replace hb4 := hb4.tr1 c38 ne_b1_b32;replace hvU := Enc.chg hvU c38 (by intro k hx hD; have hD : k < _ := hD; simp only [List.mem_cons, List.mem_nil_iff, or_false] at hx; omega)
  refine en <| sr rfl <| Wp rfl <| st_loadA (vs := [_, _, _, _, _, _, _, _, _]) T.agg30 rfl (hb39.cells (n := 9) (vs := [_, _, _, _, _, _, _, _, _]) rfl) rfl <| Wp rfl <| st_call (ags := [_]) rfl rfl T.ent9 rfl (hrec _ (kid_size (List.mem_of_getElem? hx26)) _ _ hvU) ?_;rintro _ w40 ⟨b, rfl, hb, c41⟩;replace HC := HC.then c41;replace hk := hk.tr0 c41;replace hi := hi.tr0 c41;replace hr := hr.tr0 c41;replace hb4 := hb4.tr0 c41;refine en <| x_cond rfl (fun h3 => ?_) (fun h3 => ?_)
  ·try simp only [nm, ne_eq] at h3
   have hxt : Here x25 := hb.1 (by first | assumption | simp_all)
   refine sr rfl <| aB rfl <| en <| x_ret <| block_r <| then_r <| then_r <| block_r <| then_r <| ret_tmp (v := .bool _) rfl rfl ?_;exact ⟨true, rfl, ⟨fun _ => Here.kid (List.mem_of_getElem? hx26) hxt, fun _ => rfl⟩, HC⟩
  try simp only [nm, ne_eq] at h3
  have hxf : ¬ Here x25 := fun q => by have := hb.2 q; simp_all
  refine x_skip <| block_n <| then_n <| x_region rfl <| Wp rfl <| st_addn rfl rfl (by constructor <;> omega) <| mI rfl <| en <| ⟨i + 1, ?_, ?_, rfl, ⟨rfl, trivial⟩, ?_⟩
  ·refine ⟨?_, HC, hk, hi, hr, hb4⟩;exact ⟨by omega, all_snoc hn1 hx26 hxf⟩
  ·show a.kids.length - (i + 1) < a.kids.length - i; omega
  exact q9
 try simp only [nm, ne_eq] at h2
 have hn10 := all_end hn1 q0;refine x_exit <| then_x <| then_x <| block_x <| then_n <| x_seq <| sr rfl <| fa T.fld30_8 rfl <| lL T.one28 rfl (hb4.cell rfl) <| Wp rfl <| st_len (ct := #[28]) (by rw [show ((#[28] : Array TypeId)[0]?).bind Tryz.prog.underlying = some (.slice 59) from T.u28]; rfl) rfl <| mI rfl <| en <| x_block <| x_loop (ι := Nat) [2, 8, 10, 40, 41, 42, 43, 44, 45, 46, 47, 48, 49, 50, 51, 52, 53, 54] (fun i => [(40, .int .i64 (i : Int))]) (fun i W => (i ≤ a.items.length ∧ (∀ y, y ∈ a.items.take i → ∀ k, k ∈ y.2 → ¬ Here k)) ∧ (Chg [] w W) ∧ (Sl cmE W (fun k => k < w.heap.size) A4A a.kids) ∧ (Sl itE W (fun k => k < w.heap.size) A5A a.items) ∧ (Sl rdrE W (fun k => k < w.heap.size) A3A a.rds) ∧ (Blk W b1 (cmC a A1A n1A A2A n2A A3A n3A A4A n4A A5A n5A) 30)) (fun i => a.items.length - i) 0 ?_ ?_ ?_
 · exact ⟨rfl, trivial⟩
 ·refine ⟨?_, HC, hk, hi, hr, hb4⟩;exact ⟨Nat.zero_le _, take_zero⟩
 intro i G43 w42 ⟨⟨hil, hn2⟩, HC, hk, hi, hr, hb4⟩
 change wp _ _ _ _ _ (upds (over _ _ G43) [(40, .int .i64 (i : Int))]) _ _
 refine sr rfl <| Wp rfl <| st_lss rfl rfl <| en <| x_seq <| x_cond rfl (fun h4 => ?_) (fun h4 => ?_)
 ·try simp only [nm, ne_eq] at h4
  refine x_skip <| then_n <| x_seq <| x_block <| sr rfl ?_;obtain ⟨x44, hx45⟩ : ∃ zz, a.items[i]? = some zz := ⟨_, List.getElem?_eq_getElem q0⟩;obtain ⟨lb50, _, vs49, hA46, hR48, hC47⟩ := hi.at hx45;obtain ⟨_, _, rfl, ⟨I1U, m1U, rfl, k1U, k2U, hI1U⟩, ⟨I2U, m2U, rfl, k3U, k4U, hI2U⟩⟩ := hR48;refine Wp rfl <| st_indexAddr T.u28 T.size59 (congrArg (fun z => Value.slice z _ _) hA46) rfl q0 q0 <| Wp rfl <| st_loadA (vs := [_, _]) T.agg59 rfl hC47 rfl <| Wp rfl <| st_alloc T.zero59 ?_
  intro b51 w52 e53 c54 hb55;have ge_b51 := gB e53 HC.size;have ne_b1_b51 := nF e53 hb4.ne_size;replace HC := HC.then c54;replace hk := hk.tr0 c54;replace hi := hi.tr0 c54;replace hr := hr.tr0 c54;replace hb4 := hb4.tr0 c54;replace hI2U := hI2U.tr0 c54;clear e53;refine Wp rfl <| st_st (v := .agg ⟨[_, _]⟩) T.size59 rfl rfl rfl hb55 ?_;intro w56 c57 hb58; simp only [setVs, setV] at hb58;clear hb55;replace HC := HC.then1 c57 ge_b51;replace hk := hk.tr c57 (by intro k hx hD; have hD : k < _ := hD; simp only [List.mem_cons, List.mem_nil_iff, or_false] at hx; omega)
  replace hi := hi.tr c57 (by intro k hx hD; have hD : k < _ := hD; simp only [List.mem_cons, List.mem_nil_iff, or_false] at hx; omega)
  replace hr := hr.tr c57 (by intro k hx hD; have hD : k < _ := hD; simp only [List.mem_cons, List.mem_nil_iff, or_false] at hx; omega)
  replace hb4 := hb4.tr1 c57 ne_b1_b51;replace hI2U := hI2U.tr c57 (by intro k hx hD; have hD : k < _ := hD; simp only [List.mem_cons, List.mem_nil_iff, or_false] at hx; omega)
  refine en <| sr rfl <| fa T.fld59_1 rfl <| lL T.one27 rfl (hb58.cell rfl) <| Wp rfl <| st_len (ct := #[27]) (by rw [show ((#[27] : Array TypeId)[0]?).bind Tryz.prog.underlying = some (.slice 30) from T.u27]; rfl) rfl <| mI rfl <| en <| x_block <| x_loop (ι := Nat) [2, 10, 47, 48, 49, 50, 51, 52, 53] (fun m => [(47, .int .i64 (m : Int))]) (fun m W => (m ≤ x44.2.length ∧ (∀ y, y ∈ x44.2.take m → ¬ Here y)) ∧ (Chg [] w W) ∧ (Sl cmE W (fun k => k < w.heap.size) A4A a.kids) ∧ (Sl itE W (fun k => k < w.heap.size) A5A a.items) ∧ (Sl rdrE W (fun k => k < w.heap.size) A3A a.rds) ∧ (Blk W b1 (cmC a A1A n1A A2A n2A A3A n3A A4A n4A A5A n5A) 30) ∧ (Sl cmE W (fun k => k < w.heap.size) I2U x44.2)) (fun m => x44.2.length - m) 0 ?_ ?_ ?_
  · exact ⟨rfl, trivial⟩
  ·refine ⟨?_, HC, hk, hi, hr, hb4, hI2U⟩;exact ⟨Nat.zero_le _, take_zero⟩
  intro m G60 w59 ⟨⟨hml, hn3⟩, HC, hk, hi, hr, hb4, hI2U⟩
  change wp _ _ _ _ _ (upds (over _ _ G60) [(47, .int .i64 (m : Int))]) _ _
  refine sr rfl <| Wp rfl <| st_lss rfl rfl <| en <| x_seq <| x_cond rfl (fun h5 => ?_) (fun h5 => ?_)
  ·try simp only [nm, ne_eq] at h5
   refine x_skip <| then_n <| x_seq <| x_block <| sr rfl ?_;obtain ⟨x61, hx62⟩ : ∃ zz, x44.2[m]? = some zz := ⟨_, List.getElem?_eq_getElem q0⟩;obtain ⟨lb67, _, vs66, hA63, hR65, hC64⟩ := hI2U.at hx62;have hvV := hR65;obtain ⟨A1V, n1V, A2V, n2V, A3V, n3V, A4V, n4V, A5V, n5V, rfl, hAV, k1V, k2V, k3V, k4V, k5V⟩ := cm_open hR65;refine Wp rfl <| st_indexAddr T.u27 T.size30 (congrArg (fun z => Value.slice z _ _) hA63) rfl q0 q0 <| Wp rfl <| st_loadA (vs := [_, _, _, _, _, _, _, _, _]) T.agg30 rfl hC64 rfl <| Wp rfl <| st_alloc T.zero30 ?_
   intro b68 w69 e70 c71 hb72;have ge_b68 := gB e70 HC.size;have ne_b1_b68 := nF e70 hb4.ne_size;replace HC := HC.then c71;replace hk := hk.tr0 c71;replace hi := hi.tr0 c71;replace hr := hr.tr0 c71;replace hb4 := hb4.tr0 c71;replace hI2U := hI2U.tr0 c71;replace hvV := Enc.chg hvV c71 q8;clear e70;refine Wp rfl <| st_st (v := .agg ⟨[_, _, _, _, _, _, _, _, _]⟩) T.size30 rfl rfl rfl hb72 ?_;intro w73 c74 hb75; simp only [setVs, setV] at hb75;clear hb72;replace HC := HC.then1 c74 ge_b68;replace hk := hk.tr c74 (by intro k hx hD; have hD : k < _ := hD; simp only [List.mem_cons, List.mem_nil_iff, or_false] at hx; omega)
   replace hi := hi.tr c74 (by intro k hx hD; have hD : k < _ := hD; simp only [List.mem_cons, List.mem_nil_iff, or_false] at hx; omega)
   replace hr := hr.tr c74 (by intro k hx hD; have hD : k < _ := hD; simp only [List.mem_cons, List.mem_nil_iff, or_false] at hx; omega)
   replace hb4 := hb4.tr1 c74 ne_b1_b68;replace hI2U := hI2U.tr c74 (by intro k hx hD; have hD : k < _ := hD; simp only [List.mem_cons, List.mem_nil_iff, or_false] at hx; omega)
   replace hvV := Enc.chg hvV c74 (by intro k hx hD; have hD : k < _ := hD; simp only [List.mem_cons, List.mem_nil_iff, or_false] at hx; omega)
   refine en <| sr rfl <| Wp rfl <| st_loadA (vs := [_, _, _, _, _, _, _, _, _]) T.agg30 rfl (hb75.cells (n := 9) (vs := [_, _, _, _, _, _, _, _, _]) rfl) rfl <| Wp rfl <| st_call (ags := [_]) rfl rfl T.ent9 rfl (hrec _ (item_size (List.mem_of_getElem? hx45) (List.mem_of_getElem? hx62)) _ _ hvV) ?_;rintro _ w76 ⟨b, rfl, hb, c77⟩;replace HC := HC.then c77;replace hk := hk.tr0 c77;replace hi := hi.tr0 c77;replace hr := hr.tr0 c77;replace hb4 := hb4.tr0 c77;replace hI2U := hI2U.tr0 c77;refine en <| x_cond rfl (fun h6 => ?_) (fun h6 => ?_)
   ·try simp only [nm, ne_eq] at h6
    have hxt : Here x61 := hb.1 (by first | assumption | simp_all)
    refine sr rfl <| aB rfl <| en <| x_ret <| block_r <| then_r <| then_r <| block_r <| block_r <| then_r <| then_r <| block_r <| then_r <| ret_tmp (v := .bool _) rfl rfl ?_;exact ⟨true, rfl, ⟨fun _ => Here.item (List.mem_of_getElem? hx45) (List.mem_of_getElem? hx62) hxt, fun _ => rfl⟩, HC⟩
   try simp only [nm, ne_eq] at h6
   have hxf : ¬ Here x61 := fun q => by have := hb.2 q; simp_all
   refine x_skip <| block_n <| then_n <| x_region rfl <| Wp rfl <| st_addn rfl rfl (by constructor <;> omega) <| mI rfl <| en <| ⟨m + 1, ?_, ?_, rfl, ⟨rfl, trivial⟩, ?_⟩
   ·refine ⟨?_, HC, hk, hi, hr, hb4, hI2U⟩;exact ⟨by omega, all_snoc hn3 hx62 hxf⟩
   ·show x44.2.length - (m + 1) < x44.2.length - m; omega
   exact q9
  try simp only [nm, ne_eq] at h5
  have hn30 := all_end hn3 q0;refine x_exit <| then_x <| then_x <| block_x <| block_n <| then_n <| x_region rfl <| Wp rfl <| st_addn rfl rfl (by constructor <;> omega) <| mI rfl <| en <| ⟨i + 1, ?_, ?_, rfl, ⟨rfl, trivial⟩, ?_⟩
  ·refine ⟨?_, HC, hk, hi, hr, hb4⟩;exact ⟨by omega, all_snoc hn2 hx45 hn30⟩
  ·show a.items.length - (i + 1) < a.items.length - i; omega
  exact q9
 try simp only [nm, ne_eq] at h4
 have hn20 := all_end hn2 q0;refine x_exit <| then_x <| then_x <| block_x <| then_n <| sr rfl <| aB rfl <| en <| x_ret <| ret_tmp (v := .bool _) rfl rfl ?_;exact ⟨false, rfl, ⟨fun q => (by cases q), fun q => (by cases q with | rd u v => (rw [hn0 _ u] at v; cases v) | kid u v => exact absurd v (hn10 _ u) | item u u2 v => exact absurd v (hn20 _ u _ u2))⟩, HC⟩
theorem here_le : ∀ (n : Nat) (a : Cm), SizeOf.sizeOf a ≤ n → ∀ (va : List Value) (w : World) {D1 : Nat → Prop}, cmE.R w D1 a va → CallR Tryz.prog 9 #[.agg ⟨va⟩] w fun v w' => HrT a w w' v
  | 0, a, hn, va, w, _, ha => here_step w ha fun x hx => absurd hx q0
  | n + 1, a, hn, va, w, _, ha => here_step w ha fun x hx vx W {_} q => here_le n x q0 vx W q
theorem here_spec {a : Cm} {va : List Value} {D1 : Nat → Prop} (w : World) (ha : cmE.R w D1 a va) : CallR Tryz.prog 9 #[.agg ⟨va⟩] w fun v w' => HrT a w w' v := here_le _ a (Nat.le_refl _) va w ha
open Go Go.Proofs Go.RowKit
theorem pad_idx (k : Int) : 0 ≤ IntKind.i64.wrap ((IntKind.u64.wrap k).tmod 4) ∧ IntKind.i64.wrap ((IntKind.u64.wrap k).tmod 4) < 4 := by
  have h1 : 0 ≤ IntKind.u64.wrap k := by
    simp only [IntKind.wrap, IntKind.signed, IntKind.bits, Bool.false_eq_true, false_and, if_false]
    exact Int.emod_nonneg _ (by decide)
  have h2 : (IntKind.u64.wrap k).tmod 4 = (IntKind.u64.wrap k) % 4 := Int.tmod_eq_emod_of_nonneg h1;rw [h2];have h3 := Int.emod_nonneg (IntKind.u64.wrap k) (show (4 : Int) ≠ 0 by decide)
  have h4 := Int.emod_lt_of_pos (IntKind.u64.wrap k) (show (0 : Int) < 4 by decide)
  have h5 : ∀ x : Int, 0 ≤ x → x < 4 → IntKind.i64.wrap x = x := fun x a b => by
    rw [wrap_i64_eq, Int.bmod]; split <;> omega
  rw [h5 _ h3 h4]
  exact ⟨h3, h4⟩
def padK (k : Int) : Bytes := padsV.getD (IntKind.i64.wrap ((IntKind.u64.wrap k).tmod 4)).toNat []
theorem pad_mem (k : Int) : padK k ∈ padsV := by
  unfold padK
  obtain ⟨h1, h2⟩ := pad_idx k;have h3 : (IntKind.i64.wrap ((IntKind.u64.wrap k).tmod 4)).toNat < padsV.length := by show _ < 4; omega
  rw [List.getD_eq_getElem?_getD, List.getElem?_eq_getElem h3]; exact List.getElem_mem _
theorem pad_len (k : Int) : (padK k).length ≤ 7 := by
  have : ∀ p, p ∈ padsV → p.length ≤ 7 := by decide
  exact this _ (pad_mem k)
theorem pad_cell {w : World} {b : Nat} {k : Int} {T : TypeId} (h : Blk w b [S [10], S [35, 32, 110, 111, 116, 101, 10], S [32, 9, 10], S [92, 10]] T) : w.cell? ⟨b, 0 + (IntKind.i64.wrap ((IntKind.u64.wrap k).tmod 4)).toNat * 1, none⟩ = some (S (padK k)) := by
  refine h.cell ?_
  unfold padK
  obtain ⟨h1, h2⟩ := pad_idx k;generalize IntKind.i64.wrap ((IntKind.u64.wrap k).tmod 4) = x at h1 h2 ⊢;obtain ⟨j, rfl⟩ : ∃ j : Nat, x = j := ⟨x.toNat, by omega⟩
  have h3 : j < 4 := by omega
  rw [Int.toNat_natCast, Nat.zero_add, Nat.mul_one]
  match j, h3 with
  | 0, _ => rfl
  | 1, _ => rfl
  | 2, _ => rfl
  | 3, _ => rfl
theorem l10_of {s : Bytes} (hs : s ≠ []) (h : ((byte s ((s.length : Int) - 1).toNat).toNat : Int) = 10) : L10 s := by
  have hp := List.length_pos_iff.2 hs;have e : ((s.length : Int) - 1).toNat = s.length - 1 := by omega
  rw [e] at h
  unfold L10
  rw [List.getLast?_eq_getElem?, List.getElem?_eq_getElem q0]
  have h2 : byte s (s.length - 1) = s[s.length - 1] := by simp [byte, List.getD_eq_getElem?_getD, List.getElem?_eq_getElem (show s.length - 1 < s.length by omega)]
  rw [h2] at h
  congr 1
  apply UInt8.toNat_inj.1
  show _ = 10
  omega
theorem GramLines_spec (s : Bytes) (k : Int) (w : World) (hs : s.length ≤ 140737488351232) (hk0 : -9223372036854775808 ≤ k) (hk1 : k ≤ 9223372036854775807) (hmx : MaxT w) (ht : Tab w) : CallR Tryz.prog 3 #[S s, .int .i64 k] w fun v w' => v = .bool true ∧ Chg [] w w' := by
 refine callR_of_wp (args := [_, _]) Tryz.func3 rfl (Nat.le_of_ble_eq_true rfl) ?_;have HC : Chg [] w w := .refl _;have ht1 := ht.lt;have hm1 := hmx.lt;refine sr rfl <| aB rfl <| en <| x_seq <| sr rfl <| mS rfl <| Wp rfl <| st_slen (ct := #[9]) T.u9 rfl <| Wp rfl <| st_gtr rfl rfl <| mB rfl <| w_split (d := 18) rfl (fun g1 => ?_) (fun g1 => ?_)
 ·try simp only [nm, ne_eq] at g1
  refine w_no 3 18 false <| w_no 3 18 false <| pT rfl rfl <| mB rfl ?_;iterate 6 refine w_no 7 22 false ?_
  refine pT rfl rfl <| en <| x_cond (t := true) rfl (fun h0 => ?_) (fun h0 => ?_)
  rotate_left
  · exact absurd h0 (by decide)
  refine sr rfl <| Wp rfl <| st_call (ags := []) rfl rfl T.ent6 rfl (awake17_spec _ hmx ht) ?_;rintro _ w2 ⟨rfl, c3⟩;replace HC := HC.then c3;refine aB rfl <| en <| x_ret <| then_r <| ret_tmp (v := .bool _) rfl rfl ?_;exact ⟨rfl, HC⟩
 ·try simp only [nm, ne_eq] at g1
  refine w_yes 3 18 false <| st_move (v := S _) rfl <| w_yes 3 18 false <| st_seql rfl rfl <| pF rfl rfl <| mB rfl <| w_split (d := 22) rfl (fun g4 => ?_) (fun g4 => ?_)
  ·try simp only [nm, ne_eq] at g4
   iterate 6 refine w_no 7 22 false ?_
   refine pT rfl rfl <| en <| x_cond (t := true) rfl (fun h0 => ?_) (fun h0 => ?_)
   rotate_left
   · exact absurd h0 (by decide)
   refine sr rfl <| Wp rfl <| st_call (ags := []) rfl rfl T.ent6 rfl (awake17_spec _ hmx ht) ?_;rintro _ w5 ⟨rfl, c6⟩;replace HC := HC.then c6;refine aB rfl <| en <| x_ret <| then_r <| ret_tmp (v := .bool _) rfl rfl ?_;exact ⟨rfl, HC⟩
  ·try simp only [nm, ne_eq] at g4
   have hsp := List.length_pos_iff.2 (show s ≠ [] by assumption)
   refine w_yes 7 22 false <| st_move (v := S _) rfl <| w_yes 7 22 false <| st_move (v := S _) rfl <| w_yes 7 22 false <| st_slen (ct := #[9]) T.u9 rfl <| w_yes 7 22 false <| st_subn rfl rfl (by constructor <;> omega) <| w_yes 7 22 false <| st_sidx T.u9 rfl rfl q0 q0 <| w_yes 7 22 false <| st_neq rfl rfl <| pF rfl rfl <| en <| x_cond rfl (fun h0 => ?_) (fun h0 => ?_)
   ·try simp only [nm, ne_eq] at h0
    refine sr rfl <| Wp rfl <| st_call (ags := []) rfl rfl T.ent6 rfl (awake17_spec _ hmx ht) ?_;rintro _ w7 ⟨rfl, c8⟩;replace HC := HC.then c8;refine aB rfl <| en <| x_ret <| then_r <| ret_tmp (v := .bool _) rfl rfl ?_;exact ⟨rfl, HC⟩
   ·try simp only [nm, ne_eq] at h0
    have hl3 : s.length ≤ 3000 := by omega
    have hL : L10 s := l10_of (by assumption) (by first | assumption | omega)
    have hgp := gram_pad (s := s) (pad_mem k) hl3;have hg10 := gram_10 hl3 hL;have hpl7 := pad_len k;refine x_skip <| then_n <| sr rfl <| Wp rfl <| st_lit (ps := [(0, .const (S [10])), (1, .const (S [35, 32, 110, 111, 116, 101, 10])), (2, .const (S [32, 9, 10])), (3, .const (S [92, 10]))]) (vs := [S _, S _, S _, S _]) T.lit23 (by decide) rfl (by simp only [List.forall_mem_cons, List.not_mem_nil, false_imp_iff, implies_true, and_true]; exact ⟨rfl, rfl, rfl, rfl⟩) rfl ?_
    intro b9 w10 e11 c12 hb13;have ge_b9 := gB e11 HC.size;replace HC := HC.then c12;replace ht := ht.tr0 c12;replace hmx := hmx.tr0 c12;clear e11;refine mI rfl <| Wp rfl <| st_convInt T.u3 T.u24 rfl <| Wp rfl <| st_rem rfl rfl (by decide) <| Wp rfl <| st_convInt T.u24 T.u3 rfl <| Wp rfl <| st_indexAddr T.u23 T.size9 rfl rfl (by have := (pad_idx k).1; omega) (by have := (pad_idx k).2; omega) <| lS T.one9 rfl (pad_cell hb13) <| aS rfl <| en <| sr rfl <| mS rfl <| Wp rfl <| st_call (ags := [_]) rfl rfl T.ent7 rfl (gParse_spec s _ q0 hmx ht) ?_
    rintro _ w14 ⟨⟨vsA, rfl, hvA, c15⟩, hplA⟩;obtain ⟨A1A, n1A, A2A, n2A, A3A, n3A, A4A, n4A, A5A, n5A, rfl, hAA, k1A, k2A, k3A, k4A, k5A⟩ := cm_open hvA;replace hvA := cmE.mono hvA (D' := (fun k => k < w14.heap.size)) (fun k hk _ => hk)
    have szA : w14.heap.size ≤ w14.heap.size := Nat.le_refl _;replace HC := HC.then c15;replace ht := ht.tr0 c15;replace hmx := hmx.tr0 c15;replace hb13 := hb13.tr0 c15;refine mv (v := .tuple ⟨[_, _, _]⟩) rfl <| Wp rfl <| st_extract (vs := [_, _, _]) (v := .agg ⟨[.int _ _, S _, .bool _, .bool _, .slice _ _ _, .slice _ _ _, .slice _ _ _, .slice _ _ _, .slice _ _ _]⟩) rfl rfl <| Wp rfl <| st_extract (vs := [_, _, _]) (v := .int _ _) rfl rfl <| Wp rfl <| st_extract (vs := [_, _, _]) (v := .int _ _) rfl rfl <| Wp rfl <| st_alloc T.zero30 ?_;intro b6 w16 e17 c18 hb19;have ge_b6 := gB e17 HC.size;have ne_b9_b6 := nF e17 hb13.ne_size;have gq_szA_b6 : w14.heap.size ≤ b6 := by rw [e17]; exact szA
    replace HC := HC.then c18;replace ht := ht.tr0 c18;replace hmx := hmx.tr0 c18;replace hb13 := hb13.tr0 c18;replace hvA := Enc.chg hvA c18 q8;replace szA := Nat.le_trans szA c18.size;clear e17;refine Wp rfl <| st_st (v := .agg ⟨[_, _, _, _, _, _, _, _, _]⟩) T.size30 rfl rfl rfl hb19 ?_;intro w20 c21 hb22; simp only [setVs, setV] at hb22;clear hb19;replace HC := HC.then1 c21 ge_b6;replace ht := ht.tr c21 q1;replace hmx := hmx.tr c21 q1;replace hb13 := hb13.tr1 c21 ne_b9_b6;replace hvA := Enc.chg hvA c21 q3;replace szA := Nat.le_trans szA c21.size;refine aI rfl <| aI rfl <| en <| sr rfl <| mS rfl <| mS rfl <| Wp rfl <| st_sadd rfl rfl (by (try simp only [List.length_append, List.length_cons, List.length_nil] at *); omega) <| Wp rfl <| st_call (ags := [_]) rfl rfl T.ent7 rfl (gParse_spec (padK k ++ s) _ (by simp only [List.length_append]; omega) hmx ht) ?_
    rintro _ w23 ⟨⟨vsB, rfl, hvB, c24⟩, hplB⟩;obtain ⟨A1B, n1B, A2B, n2B, A3B, n3B, A4B, n4B, A5B, n5B, rfl, hAB, k1B, k2B, k3B, k4B, k5B⟩ := cm_open hvB;replace hvB := cmE.mono hvB (D' := (fun k => k < w23.heap.size)) (fun k hk _ => hk)
    have szB : w23.heap.size ≤ w23.heap.size := Nat.le_refl _;replace HC := HC.then c24;replace ht := ht.tr0 c24;replace hmx := hmx.tr0 c24;replace hb13 := hb13.tr0 c24;replace hvA := Enc.chg hvA c24 q8;replace szA := Nat.le_trans szA c24.size;replace hb22 := hb22.tr0 c24;refine mv (v := .tuple ⟨[_, _, _]⟩) rfl <| Wp rfl <| st_extract (vs := [_, _, _]) (v := .agg ⟨[.int _ _, S _, .bool _, .bool _, .slice _ _ _, .slice _ _ _, .slice _ _ _, .slice _ _ _, .slice _ _ _]⟩) rfl rfl <| Wp rfl <| st_extract (vs := [_, _, _]) (v := .int _ _) rfl rfl <| Wp rfl <| st_extract (vs := [_, _, _]) (v := .int _ _) rfl rfl <| Wp rfl <| st_alloc T.zero30 ?_;intro b9 w25 e26 c27 hb28;have ge_b9 := gB e26 HC.size;have ne_b9_b9 := nF e26 hb13.ne_size;have ne_b6_b9 := nF e26 hb22.ne_size;have gq_szA_b9 : w14.heap.size ≤ b9 := by rw [e26]; exact szA
    have gq_szB_b9 : w23.heap.size ≤ b9 := by rw [e26]; exact szB
    replace HC := HC.then c27;replace ht := ht.tr0 c27;replace hmx := hmx.tr0 c27;replace hvA := Enc.chg hvA c27 q8;replace szA := Nat.le_trans szA c27.size;replace hb22 := hb22.tr0 c27;replace hvB := Enc.chg hvB c27 q8;replace szB := Nat.le_trans szB c27.size;clear e26;refine Wp rfl <| st_st (v := .agg ⟨[_, _, _, _, _, _, _, _, _]⟩) T.size30 rfl rfl rfl hb28 ?_;intro w29 c30 hb31; simp only [setVs, setV] at hb31;clear hb28;replace HC := HC.then1 c30 ge_b9;replace ht := ht.tr c30 q1;replace hmx := hmx.tr c30 q1;replace hvA := Enc.chg hvA c30 q3;replace szA := Nat.le_trans szA c30.size;replace hb22 := hb22.tr1 c30 ne_b6_b9;replace hvB := Enc.chg hvB c30 q3;replace szB := Nat.le_trans szB c30.size;refine aI rfl <| aI rfl <| en <| x_seq <| sr rfl <| Wp rfl <| st_loadA (vs := [_, _, _, _, _, _, _, _, _]) T.agg30 rfl (hb22.cells (n := 9) (vs := [_, _, _, _, _, _, _, _, _]) rfl) rfl <| Wp rfl <| st_loadA (vs := [_, _, _, _, _, _, _, _, _]) T.agg30 rfl (hb31.cells (n := 9) (vs := [_, _, _, _, _, _, _, _, _]) rfl) rfl <| Wp rfl <| st_call (ags := [_, _]) rfl rfl T.ent8 rfl (rsame_spec _ hvA hvB) ?_;rintro _ w32 ⟨r, rfl, hr, c33⟩;obtain rfl : r = true := hr.2 hgp.1.symm;replace HC := HC.then c33;replace ht := ht.tr0 c33;replace hmx := hmx.tr0 c33;replace hvA := Enc.chg hvA c33 q8;replace szA := Nat.le_trans szA c33.size;replace hb22 := hb22.tr0 c33;replace szB := Nat.le_trans szB c33.size;replace hb31 := hb31.tr0 c33;refine Wp rfl <| st_not rfl <| mB rfl <| w_split (d := 56) rfl (fun g34 => ?_) (fun g34 => ?_)
    ·try simp only [nm, ne_eq] at g34
     first | exact absurd rfl g34 | exact absurd trivial g34 | (simp at g34; done) | exact absurd g34 (by decide)
    ·try simp only [nm, ne_eq] at g34
     refine w_yes 4 56 false <| st_move (v := .int _ _) rfl <| w_yes 4 56 false <| st_move (v := .int _ _) rfl <| w_yes 4 56 false <| st_neq rfl rfl <| pF rfl rfl <| mB rfl <| w_split (d := 61) rfl (fun g35 => ?_) (fun g35 => ?_)
     ·try simp only [nm, ne_eq] at g35
      exact absurd hgp.2.1.symm (by first | assumption | simp_all)
     ·try simp only [nm, ne_eq] at g35
      refine w_yes 9 61 false <| st_move (v := .int _ _) rfl <| w_yes 9 61 false <| st_neq rfl rfl <| w_yes 9 61 false <| st_move (v := .bool _) rfl <| w_split (d := 64) rfl (fun g36 => ?_) (fun g36 => ?_)
      ·try simp only [nm, ne_eq] at g36
       obtain ⟨hq1, hq2, _⟩ := places17 hl3 hplA (by first | assumption | simp_all)
       have hq3 := hgp.2.2 (by first | assumption | simp_all)
       refine w_yes 12 64 true <| st_move (v := .int _ _) rfl <| w_yes 12 64 true <| st_move (v := .int _ _) rfl <| w_yes 12 64 true <| st_move (v := S _) rfl <| w_yes 12 64 true <| st_slen (ct := #[9]) T.u9 rfl <| w_yes 12 64 true <| st_addn rfl rfl (by constructor <;> omega) <| w_yes 12 64 true <| st_neq rfl rfl <| w_yes 9 61 false <| st_pick (b := true) (v := .bool _) rfl rfl <| pF rfl rfl <| en <| x_cond rfl (fun h1 => ?_) (fun h1 => ?_)
       ·try simp only [nm, ne_eq] at h1
        exfalso; omega
       ·try simp only [nm, ne_eq] at h1
        refine x_skip <| then_n <| sr rfl <| mS rfl <| Wp rfl <| st_sadd rfl rfl (by (try simp only [List.length_append, List.length_cons, List.length_nil] at *); omega) <| Wp rfl <| st_call (ags := [_]) rfl rfl T.ent7 rfl (gParse_spec (s ++ [10]) _ q7 hmx ht) ?_
        rintro _ w37 ⟨⟨vsC, rfl, hvC, c38⟩, hplC⟩;obtain ⟨A1C, n1C, A2C, n2C, A3C, n3C, A4C, n4C, A5C, n5C, rfl, hAC, k1C, k2C, k3C, k4C, k5C⟩ := cm_open hvC;replace hvC := cmE.mono hvC (D' := (fun k => k < w37.heap.size)) (fun k hk _ => hk)
        have szC : w37.heap.size ≤ w37.heap.size := Nat.le_refl _;replace HC := HC.then c38;replace ht := ht.tr0 c38;replace hmx := hmx.tr0 c38;replace hvA := Enc.chg hvA c38 q8;replace szA := Nat.le_trans szA c38.size;replace hb22 := hb22.tr0 c38;replace szB := Nat.le_trans szB c38.size;replace hb31 := hb31.tr0 c38;refine mv (v := .tuple ⟨[_, _, _]⟩) rfl <| Wp rfl <| st_extract (vs := [_, _, _]) (v := .agg ⟨[.int _ _, S _, .bool _, .bool _, .slice _ _ _, .slice _ _ _, .slice _ _ _, .slice _ _ _, .slice _ _ _]⟩) rfl rfl <| Wp rfl <| st_extract (vs := [_, _, _]) (v := .int _ _) rfl rfl <| Wp rfl <| st_extract (vs := [_, _, _]) (v := .int _ _) rfl rfl <| Wp rfl <| st_alloc T.zero30 ?_;intro b12 w39 e40 c41 hb42;have ge_b12 := gB e40 HC.size;have ne_b6_b12 := nF e40 hb22.ne_size;have ne_b9_b12 := nF e40 hb31.ne_size;have gq_szA_b12 : w14.heap.size ≤ b12 := by rw [e40]; exact szA
        have gq_szB_b12 : w23.heap.size ≤ b12 := by rw [e40]; exact szB
        have gq_szC_b12 : w37.heap.size ≤ b12 := by rw [e40]; exact szC
        replace HC := HC.then c41;replace ht := ht.tr0 c41;replace hmx := hmx.tr0 c41;replace hvA := Enc.chg hvA c41 q8;replace szA := Nat.le_trans szA c41.size;replace hb22 := hb22.tr0 c41;replace szB := Nat.le_trans szB c41.size;replace hvC := Enc.chg hvC c41 q8;replace szC := Nat.le_trans szC c41.size;clear e40;refine Wp rfl <| st_st (v := .agg ⟨[_, _, _, _, _, _, _, _, _]⟩) T.size30 rfl rfl rfl hb42 ?_;intro w43 c44 hb45; simp only [setVs, setV] at hb45;clear hb42;replace HC := HC.then1 c44 ge_b12;replace ht := ht.tr c44 q1;replace hmx := hmx.tr c44 q1;replace hvA := Enc.chg hvA c44 q3;replace szA := Nat.le_trans szA c44.size;replace hb22 := hb22.tr1 c44 ne_b6_b12;replace szB := Nat.le_trans szB c44.size;replace hvC := Enc.chg hvC c44 q3;replace szC := Nat.le_trans szC c44.size;refine aI rfl <| aI rfl <| en <| sr rfl <| mI rfl <| Wp rfl <| st_neq rfl rfl <| mB rfl <| w_split (d := 82) rfl (fun g46 => ?_) (fun g46 => ?_)
        ·try simp only [nm, ne_eq] at g46
         refine w_no 2 82 false <| w_no 2 82 false <| pT rfl rfl <| mB rfl <| w_yes 6 86 true <| st_move (v := .int _ _) rfl <| w_yes 6 86 true <| st_neq rfl rfl <| w_yes 6 86 true <| st_move (v := .bool _) rfl <| w_split (d := 89) rfl (fun g47 => ?_) (fun g47 => ?_)
         ·try simp only [nm, ne_eq] at g47
          refine w_no 9 89 false <| w_no 9 89 false <| w_yes 6 86 true <| st_pick (b := true) (v := .bool _) rfl rfl <| w_yes 6 86 true <| st_move (v := .bool _) rfl ?_;iterate 3 refine w_no 13 93 false ?_
          refine w_yes 6 86 true <| st_pick (b := true) (v := .bool _) rfl rfl <| pT rfl rfl <| mB rfl <| w_yes 19 99 true <| st_call (ags := []) rfl rfl T.ent6 rfl (awake17_spec _ hmx ht) ?_;rintro _ w48 ⟨rfl, c49⟩;replace HC := HC.then c49;replace szA := Nat.le_trans szA c49.size;replace szB := Nat.le_trans szB c49.size;replace szC := Nat.le_trans szC c49.size;refine pT rfl rfl <| aB rfl <| en <| x_ret <| ret_tmp (v := .bool _) rfl rfl ?_;exact ⟨rfl, HC⟩
         ·try simp only [nm, ne_eq] at g47
          refine w_yes 9 89 false <| st_loadA (vs := [_, _, _, _, _, _, _, _, _]) T.agg30 rfl (hb22.cells (n := 9) (vs := [_, _, _, _, _, _, _, _, _]) rfl) rfl <| w_yes 9 89 false <| st_call (ags := [_]) rfl rfl T.ent9 rfl (here_spec _ hvA) ?_;rintro _ w50 ⟨hh, rfl, hhr, c51⟩;replace HC := HC.then c51;replace ht := ht.tr0 c51;replace hmx := hmx.tr0 c51;replace hvA := Enc.chg hvA c51 q8;replace szA := Nat.le_trans szA c51.size;replace hb22 := hb22.tr0 c51;replace szB := Nat.le_trans szB c51.size;replace hvC := Enc.chg hvC c51 q8;replace szC := Nat.le_trans szC c51.size;replace hb45 := hb45.tr0 c51;refine w_yes 6 86 true <| st_pick (b := false) (v := .bool _) rfl rfl <| w_yes 6 86 true <| st_move (v := .bool _) rfl <| w_split (d := 93) rfl (fun g52 => ?_) (fun g52 => ?_)
          ·try simp only [nm, ne_eq] at g52
           iterate 3 refine w_no 13 93 false ?_
           refine w_yes 6 86 true <| st_pick (b := true) (v := .bool _) rfl rfl <| pT rfl rfl <| mB rfl <| w_yes 19 99 true <| st_call (ags := []) rfl rfl T.ent6 rfl (awake17_spec _ hmx ht) ?_;rintro _ w53 ⟨rfl, c54⟩;replace HC := HC.then c54;replace szA := Nat.le_trans szA c54.size;replace szB := Nat.le_trans szB c54.size;replace szC := Nat.le_trans szC c54.size;refine pT rfl rfl <| aB rfl <| en <| x_ret <| ret_tmp (v := .bool _) rfl rfl ?_;exact ⟨rfl, HC⟩
          ·try simp only [nm, ne_eq] at g52
           refine w_yes 13 93 false <| st_loadA (vs := [_, _, _, _, _, _, _, _, _]) T.agg30 rfl (hb22.cells (n := 9) (vs := [_, _, _, _, _, _, _, _, _]) rfl) rfl <| w_yes 13 93 false <| st_loadA (vs := [_, _, _, _, _, _, _, _, _]) T.agg30 rfl (hb45.cells (n := 9) (vs := [_, _, _, _, _, _, _, _, _]) rfl) rfl <| w_yes 13 93 false <| st_call (ags := [_, _]) rfl rfl T.ent8 rfl (rsame_spec _ hvA hvC) ?_;rintro _ w55 ⟨r, rfl, hr, c56⟩
           replace HC := HC.then c56;replace ht := ht.tr0 c56;replace hmx := hmx.tr0 c56;replace szA := Nat.le_trans szA c56.size;replace szB := Nat.le_trans szB c56.size;replace szC := Nat.le_trans szC c56.size;refine w_yes 6 86 true <| st_pick (b := false) (v := .bool _) rfl rfl <| pT rfl rfl <| mB rfl <| w_split (d := 99) rfl (fun g57 => ?_) (fun g57 => ?_)
           ·try simp only [nm, ne_eq] at g57
            refine w_yes 19 99 true <| st_call (ags := []) rfl rfl T.ent6 rfl (awake17_spec _ hmx ht) ?_;rintro _ w58 ⟨rfl, c59⟩;replace HC := HC.then c59;replace szA := Nat.le_trans szA c59.size;replace szB := Nat.le_trans szB c59.size;replace szC := Nat.le_trans szC c59.size;refine pT rfl rfl <| aB rfl <| en <| x_ret <| ret_tmp (v := .bool _) rfl rfl ?_;exact ⟨rfl, HC⟩
           try simp only [nm, ne_eq] at g57
           exfalso; have he0 : (gramV s).2.2 = 0 := (by first | assumption | simp_all); have hnh : ¬ Here (gramV s).1 := (fun q => by have h7 := hhr.2 q; simp_all); have h8 := hr.2 ((hg10 he0).2 hnh); simp_all
        ·try simp only [nm, ne_eq] at g46
         refine w_yes 2 82 false <| st_move (v := .int _ _) rfl <| w_yes 2 82 false <| st_eql rfl rfl <| pF rfl rfl <| mB rfl <| w_split (d := 86) rfl (fun g60 => ?_) (fun g60 => ?_)
         ·try simp only [nm, ne_eq] at g60
          refine w_yes 6 86 true <| st_move (v := .int _ _) rfl <| w_yes 6 86 true <| st_neq rfl rfl <| w_yes 6 86 true <| st_move (v := .bool _) rfl <| w_split (d := 89) rfl (fun g61 => ?_) (fun g61 => ?_)
          ·try simp only [nm, ne_eq] at g61
           refine w_no 9 89 false <| w_no 9 89 false <| w_yes 6 86 true <| st_pick (b := true) (v := .bool _) rfl rfl <| w_yes 6 86 true <| st_move (v := .bool _) rfl ?_;iterate 3 refine w_no 13 93 false ?_
           refine w_yes 6 86 true <| st_pick (b := true) (v := .bool _) rfl rfl <| pT rfl rfl <| mB rfl <| w_yes 19 99 true <| st_call (ags := []) rfl rfl T.ent6 rfl (awake17_spec _ hmx ht) ?_;rintro _ w62 ⟨rfl, c63⟩;replace HC := HC.then c63;replace szA := Nat.le_trans szA c63.size;replace szB := Nat.le_trans szB c63.size;replace szC := Nat.le_trans szC c63.size;refine pT rfl rfl <| aB rfl <| en <| x_ret <| ret_tmp (v := .bool _) rfl rfl ?_;exact ⟨rfl, HC⟩
          ·try simp only [nm, ne_eq] at g61
           refine w_yes 9 89 false <| st_loadA (vs := [_, _, _, _, _, _, _, _, _]) T.agg30 rfl (hb22.cells (n := 9) (vs := [_, _, _, _, _, _, _, _, _]) rfl) rfl <| w_yes 9 89 false <| st_call (ags := [_]) rfl rfl T.ent9 rfl (here_spec _ hvA) ?_;rintro _ w64 ⟨hh, rfl, hhr, c65⟩;replace HC := HC.then c65;replace ht := ht.tr0 c65;replace hmx := hmx.tr0 c65;replace hvA := Enc.chg hvA c65 q8;replace szA := Nat.le_trans szA c65.size;replace hb22 := hb22.tr0 c65;replace szB := Nat.le_trans szB c65.size;replace hvC := Enc.chg hvC c65 q8;replace szC := Nat.le_trans szC c65.size;replace hb45 := hb45.tr0 c65;refine w_yes 6 86 true <| st_pick (b := false) (v := .bool _) rfl rfl <| w_yes 6 86 true <| st_move (v := .bool _) rfl <| w_split (d := 93) rfl (fun g66 => ?_) (fun g66 => ?_)
           ·try simp only [nm, ne_eq] at g66
            iterate 3 refine w_no 13 93 false ?_
            refine w_yes 6 86 true <| st_pick (b := true) (v := .bool _) rfl rfl <| pT rfl rfl <| mB rfl <| w_yes 19 99 true <| st_call (ags := []) rfl rfl T.ent6 rfl (awake17_spec _ hmx ht) ?_;rintro _ w67 ⟨rfl, c68⟩;replace HC := HC.then c68;replace szA := Nat.le_trans szA c68.size;replace szB := Nat.le_trans szB c68.size;replace szC := Nat.le_trans szC c68.size;refine pT rfl rfl <| aB rfl <| en <| x_ret <| ret_tmp (v := .bool _) rfl rfl ?_;exact ⟨rfl, HC⟩
           ·try simp only [nm, ne_eq] at g66
            refine w_yes 13 93 false <| st_loadA (vs := [_, _, _, _, _, _, _, _, _]) T.agg30 rfl (hb22.cells (n := 9) (vs := [_, _, _, _, _, _, _, _, _]) rfl) rfl <| w_yes 13 93 false <| st_loadA (vs := [_, _, _, _, _, _, _, _, _]) T.agg30 rfl (hb45.cells (n := 9) (vs := [_, _, _, _, _, _, _, _, _]) rfl) rfl <| w_yes 13 93 false <| st_call (ags := [_, _]) rfl rfl T.ent8 rfl (rsame_spec _ hvA hvC) ?_;rintro _ w69 ⟨r, rfl, hr, c70⟩
            replace HC := HC.then c70;replace ht := ht.tr0 c70;replace hmx := hmx.tr0 c70;replace szA := Nat.le_trans szA c70.size;replace szB := Nat.le_trans szB c70.size;replace szC := Nat.le_trans szC c70.size;refine w_yes 6 86 true <| st_pick (b := false) (v := .bool _) rfl rfl <| pT rfl rfl <| mB rfl <| w_split (d := 99) rfl (fun g71 => ?_) (fun g71 => ?_)
            ·try simp only [nm, ne_eq] at g71
             refine w_yes 19 99 true <| st_call (ags := []) rfl rfl T.ent6 rfl (awake17_spec _ hmx ht) ?_;rintro _ w72 ⟨rfl, c73⟩;replace HC := HC.then c73;replace szA := Nat.le_trans szA c73.size;replace szB := Nat.le_trans szB c73.size;replace szC := Nat.le_trans szC c73.size;refine pT rfl rfl <| aB rfl <| en <| x_ret <| ret_tmp (v := .bool _) rfl rfl ?_;exact ⟨rfl, HC⟩
            try simp only [nm, ne_eq] at g71
            exfalso; have he0 : (gramV s).2.2 = 0 := (by first | assumption | simp_all); have hnh : ¬ Here (gramV s).1 := (fun q => by have h7 := hhr.2 q; simp_all); have h8 := hr.2 ((hg10 he0).2 hnh); simp_all
         try simp only [nm, ne_eq] at g60
         exact absurd (hg10 (by first | assumption | simp_all)).1 (by assumption)
      ·try simp only [nm, ne_eq] at g36
       iterate 6 refine w_no 12 64 true ?_
       refine w_yes 9 61 false <| st_pick (b := false) (v := .bool _) rfl rfl <| pF rfl rfl <| en <| x_cond (t := false) rfl (fun h1 => ?_) (fun h1 => ?_)
       · exact absurd h1 (by decide)
       refine x_skip <| then_n <| sr rfl <| mS rfl <| Wp rfl <| st_sadd rfl rfl (by (try simp only [List.length_append, List.length_cons, List.length_nil] at *); omega) <| Wp rfl <| st_call (ags := [_]) rfl rfl T.ent7 rfl (gParse_spec (s ++ [10]) _ q7 hmx ht) ?_
       rintro _ w74 ⟨⟨vsC, rfl, hvC, c75⟩, hplC⟩;obtain ⟨A1C, n1C, A2C, n2C, A3C, n3C, A4C, n4C, A5C, n5C, rfl, hAC, k1C, k2C, k3C, k4C, k5C⟩ := cm_open hvC;replace hvC := cmE.mono hvC (D' := (fun k => k < w74.heap.size)) (fun k hk _ => hk)
       have szC : w74.heap.size ≤ w74.heap.size := Nat.le_refl _;replace HC := HC.then c75;replace ht := ht.tr0 c75;replace hmx := hmx.tr0 c75;replace hvA := Enc.chg hvA c75 q8;replace szA := Nat.le_trans szA c75.size;replace hb22 := hb22.tr0 c75;replace szB := Nat.le_trans szB c75.size;replace hb31 := hb31.tr0 c75;refine mv (v := .tuple ⟨[_, _, _]⟩) rfl <| Wp rfl <| st_extract (vs := [_, _, _]) (v := .agg ⟨[.int _ _, S _, .bool _, .bool _, .slice _ _ _, .slice _ _ _, .slice _ _ _, .slice _ _ _, .slice _ _ _]⟩) rfl rfl <| Wp rfl <| st_extract (vs := [_, _, _]) (v := .int _ _) rfl rfl <| Wp rfl <| st_extract (vs := [_, _, _]) (v := .int _ _) rfl rfl <| Wp rfl <| st_alloc T.zero30 ?_;intro b12 w76 e77 c78 hb79;have ge_b12 := gB e77 HC.size;have ne_b6_b12 := nF e77 hb22.ne_size;have ne_b9_b12 := nF e77 hb31.ne_size;have gq_szA_b12 : w14.heap.size ≤ b12 := by rw [e77]; exact szA
       have gq_szB_b12 : w23.heap.size ≤ b12 := by rw [e77]; exact szB
       have gq_szC_b12 : w74.heap.size ≤ b12 := by rw [e77]; exact szC
       replace HC := HC.then c78;replace ht := ht.tr0 c78;replace hmx := hmx.tr0 c78;replace hvA := Enc.chg hvA c78 q8;replace szA := Nat.le_trans szA c78.size;replace hb22 := hb22.tr0 c78;replace szB := Nat.le_trans szB c78.size;replace hvC := Enc.chg hvC c78 q8;replace szC := Nat.le_trans szC c78.size;clear e77;refine Wp rfl <| st_st (v := .agg ⟨[_, _, _, _, _, _, _, _, _]⟩) T.size30 rfl rfl rfl hb79 ?_;intro w80 c81 hb82; simp only [setVs, setV] at hb82;clear hb79;replace HC := HC.then1 c81 ge_b12;replace ht := ht.tr c81 q1;replace hmx := hmx.tr c81 q1;replace hvA := Enc.chg hvA c81 q3;replace szA := Nat.le_trans szA c81.size;replace hb22 := hb22.tr1 c81 ne_b6_b12;replace szB := Nat.le_trans szB c81.size;replace hvC := Enc.chg hvC c81 q3;replace szC := Nat.le_trans szC c81.size;refine aI rfl <| aI rfl <| en <| sr rfl <| mI rfl <| Wp rfl <| st_neq rfl rfl <| mB rfl <| w_split (d := 82) rfl (fun g83 => ?_) (fun g83 => ?_)
       ·try simp only [nm, ne_eq] at g83
        refine w_no 2 82 false <| w_no 2 82 false <| pT rfl rfl <| mB rfl <| w_yes 6 86 true <| st_move (v := .int _ _) rfl <| w_yes 6 86 true <| st_neq rfl rfl <| w_yes 6 86 true <| st_move (v := .bool _) rfl <| w_split (d := 89) rfl (fun g84 => ?_) (fun g84 => ?_)
        ·try simp only [nm, ne_eq] at g84
         refine w_no 9 89 false <| w_no 9 89 false <| w_yes 6 86 true <| st_pick (b := true) (v := .bool _) rfl rfl <| w_yes 6 86 true <| st_move (v := .bool _) rfl ?_;iterate 3 refine w_no 13 93 false ?_
         refine w_yes 6 86 true <| st_pick (b := true) (v := .bool _) rfl rfl <| pT rfl rfl <| mB rfl <| w_yes 19 99 true <| st_call (ags := []) rfl rfl T.ent6 rfl (awake17_spec _ hmx ht) ?_;rintro _ w85 ⟨rfl, c86⟩;replace HC := HC.then c86;replace szA := Nat.le_trans szA c86.size;replace szB := Nat.le_trans szB c86.size;replace szC := Nat.le_trans szC c86.size;refine pT rfl rfl <| aB rfl <| en <| x_ret <| ret_tmp (v := .bool _) rfl rfl ?_;exact ⟨rfl, HC⟩
        ·try simp only [nm, ne_eq] at g84
         refine w_yes 9 89 false <| st_loadA (vs := [_, _, _, _, _, _, _, _, _]) T.agg30 rfl (hb22.cells (n := 9) (vs := [_, _, _, _, _, _, _, _, _]) rfl) rfl <| w_yes 9 89 false <| st_call (ags := [_]) rfl rfl T.ent9 rfl (here_spec _ hvA) ?_;rintro _ w87 ⟨hh, rfl, hhr, c88⟩;replace HC := HC.then c88;replace ht := ht.tr0 c88;replace hmx := hmx.tr0 c88;replace hvA := Enc.chg hvA c88 q8;replace szA := Nat.le_trans szA c88.size;replace hb22 := hb22.tr0 c88;replace szB := Nat.le_trans szB c88.size;replace hvC := Enc.chg hvC c88 q8;replace szC := Nat.le_trans szC c88.size;replace hb82 := hb82.tr0 c88;refine w_yes 6 86 true <| st_pick (b := false) (v := .bool _) rfl rfl <| w_yes 6 86 true <| st_move (v := .bool _) rfl <| w_split (d := 93) rfl (fun g89 => ?_) (fun g89 => ?_)
         ·try simp only [nm, ne_eq] at g89
          iterate 3 refine w_no 13 93 false ?_
          refine w_yes 6 86 true <| st_pick (b := true) (v := .bool _) rfl rfl <| pT rfl rfl <| mB rfl <| w_yes 19 99 true <| st_call (ags := []) rfl rfl T.ent6 rfl (awake17_spec _ hmx ht) ?_;rintro _ w90 ⟨rfl, c91⟩;replace HC := HC.then c91;replace szA := Nat.le_trans szA c91.size;replace szB := Nat.le_trans szB c91.size;replace szC := Nat.le_trans szC c91.size;refine pT rfl rfl <| aB rfl <| en <| x_ret <| ret_tmp (v := .bool _) rfl rfl ?_;exact ⟨rfl, HC⟩
         ·try simp only [nm, ne_eq] at g89
          refine w_yes 13 93 false <| st_loadA (vs := [_, _, _, _, _, _, _, _, _]) T.agg30 rfl (hb22.cells (n := 9) (vs := [_, _, _, _, _, _, _, _, _]) rfl) rfl <| w_yes 13 93 false <| st_loadA (vs := [_, _, _, _, _, _, _, _, _]) T.agg30 rfl (hb82.cells (n := 9) (vs := [_, _, _, _, _, _, _, _, _]) rfl) rfl <| w_yes 13 93 false <| st_call (ags := [_, _]) rfl rfl T.ent8 rfl (rsame_spec _ hvA hvC) ?_;rintro _ w92 ⟨r, rfl, hr, c93⟩
          replace HC := HC.then c93;replace ht := ht.tr0 c93;replace hmx := hmx.tr0 c93;replace szA := Nat.le_trans szA c93.size;replace szB := Nat.le_trans szB c93.size;replace szC := Nat.le_trans szC c93.size;refine w_yes 6 86 true <| st_pick (b := false) (v := .bool _) rfl rfl <| pT rfl rfl <| mB rfl <| w_split (d := 99) rfl (fun g94 => ?_) (fun g94 => ?_)
          ·try simp only [nm, ne_eq] at g94
           refine w_yes 19 99 true <| st_call (ags := []) rfl rfl T.ent6 rfl (awake17_spec _ hmx ht) ?_;rintro _ w95 ⟨rfl, c96⟩;replace HC := HC.then c96;replace szA := Nat.le_trans szA c96.size;replace szB := Nat.le_trans szB c96.size;replace szC := Nat.le_trans szC c96.size;refine pT rfl rfl <| aB rfl <| en <| x_ret <| ret_tmp (v := .bool _) rfl rfl ?_;exact ⟨rfl, HC⟩
          try simp only [nm, ne_eq] at g94
          exfalso; have he0 : (gramV s).2.2 = 0 := (by first | assumption | simp_all); have hnh : ¬ Here (gramV s).1 := (fun q => by have h7 := hhr.2 q; simp_all); have h8 := hr.2 ((hg10 he0).2 hnh); simp_all
       ·try simp only [nm, ne_eq] at g83
        refine w_yes 2 82 false <| st_move (v := .int _ _) rfl <| w_yes 2 82 false <| st_eql rfl rfl <| pF rfl rfl <| mB rfl <| w_split (d := 86) rfl (fun g97 => ?_) (fun g97 => ?_)
        ·try simp only [nm, ne_eq] at g97
         refine w_yes 6 86 true <| st_move (v := .int _ _) rfl <| w_yes 6 86 true <| st_neq rfl rfl <| w_yes 6 86 true <| st_move (v := .bool _) rfl <| w_split (d := 89) rfl (fun g98 => ?_) (fun g98 => ?_)
         ·try simp only [nm, ne_eq] at g98
          refine w_no 9 89 false <| w_no 9 89 false <| w_yes 6 86 true <| st_pick (b := true) (v := .bool _) rfl rfl <| w_yes 6 86 true <| st_move (v := .bool _) rfl ?_;iterate 3 refine w_no 13 93 false ?_
          refine w_yes 6 86 true <| st_pick (b := true) (v := .bool _) rfl rfl <| pT rfl rfl <| mB rfl <| w_yes 19 99 true <| st_call (ags := []) rfl rfl T.ent6 rfl (awake17_spec _ hmx ht) ?_;rintro _ w99 ⟨rfl, c100⟩;replace HC := HC.then c100;replace szA := Nat.le_trans szA c100.size;replace szB := Nat.le_trans szB c100.size;replace szC := Nat.le_trans szC c100.size;refine pT rfl rfl <| aB rfl <| en <| x_ret <| ret_tmp (v := .bool _) rfl rfl ?_;exact ⟨rfl, HC⟩
         ·try simp only [nm, ne_eq] at g98
          refine w_yes 9 89 false <| st_loadA (vs := [_, _, _, _, _, _, _, _, _]) T.agg30 rfl (hb22.cells (n := 9) (vs := [_, _, _, _, _, _, _, _, _]) rfl) rfl <| w_yes 9 89 false <| st_call (ags := [_]) rfl rfl T.ent9 rfl (here_spec _ hvA) ?_;rintro _ w101 ⟨hh, rfl, hhr, c102⟩;replace HC := HC.then c102;replace ht := ht.tr0 c102;replace hmx := hmx.tr0 c102;replace hvA := Enc.chg hvA c102 q8;replace szA := Nat.le_trans szA c102.size;replace hb22 := hb22.tr0 c102;replace szB := Nat.le_trans szB c102.size;replace hvC := Enc.chg hvC c102 q8;replace szC := Nat.le_trans szC c102.size;replace hb82 := hb82.tr0 c102;refine w_yes 6 86 true <| st_pick (b := false) (v := .bool _) rfl rfl <| w_yes 6 86 true <| st_move (v := .bool _) rfl <| w_split (d := 93) rfl (fun g103 => ?_) (fun g103 => ?_)
          ·try simp only [nm, ne_eq] at g103
           iterate 3 refine w_no 13 93 false ?_
           refine w_yes 6 86 true <| st_pick (b := true) (v := .bool _) rfl rfl <| pT rfl rfl <| mB rfl <| w_yes 19 99 true <| st_call (ags := []) rfl rfl T.ent6 rfl (awake17_spec _ hmx ht) ?_;rintro _ w104 ⟨rfl, c105⟩;replace HC := HC.then c105;replace szA := Nat.le_trans szA c105.size;replace szB := Nat.le_trans szB c105.size;replace szC := Nat.le_trans szC c105.size;refine pT rfl rfl <| aB rfl <| en <| x_ret <| ret_tmp (v := .bool _) rfl rfl ?_;exact ⟨rfl, HC⟩
          ·try simp only [nm, ne_eq] at g103
           refine w_yes 13 93 false <| st_loadA (vs := [_, _, _, _, _, _, _, _, _]) T.agg30 rfl (hb22.cells (n := 9) (vs := [_, _, _, _, _, _, _, _, _]) rfl) rfl <| w_yes 13 93 false <| st_loadA (vs := [_, _, _, _, _, _, _, _, _]) T.agg30 rfl (hb82.cells (n := 9) (vs := [_, _, _, _, _, _, _, _, _]) rfl) rfl <| w_yes 13 93 false <| st_call (ags := [_, _]) rfl rfl T.ent8 rfl (rsame_spec _ hvA hvC) ?_;rintro _ w106 ⟨r, rfl, hr, c107⟩
           replace HC := HC.then c107;replace ht := ht.tr0 c107;replace hmx := hmx.tr0 c107;replace szA := Nat.le_trans szA c107.size;replace szB := Nat.le_trans szB c107.size;replace szC := Nat.le_trans szC c107.size;refine w_yes 6 86 true <| st_pick (b := false) (v := .bool _) rfl rfl <| pT rfl rfl <| mB rfl <| w_split (d := 99) rfl (fun g108 => ?_) (fun g108 => ?_)
           ·try simp only [nm, ne_eq] at g108
            refine w_yes 19 99 true <| st_call (ags := []) rfl rfl T.ent6 rfl (awake17_spec _ hmx ht) ?_;rintro _ w109 ⟨rfl, c110⟩;replace HC := HC.then c110;replace szA := Nat.le_trans szA c110.size;replace szB := Nat.le_trans szB c110.size;replace szC := Nat.le_trans szC c110.size;refine pT rfl rfl <| aB rfl <| en <| x_ret <| ret_tmp (v := .bool _) rfl rfl ?_;exact ⟨rfl, HC⟩
           try simp only [nm, ne_eq] at g108
           exfalso; have he0 : (gramV s).2.2 = 0 := (by first | assumption | simp_all); have hnh : ¬ Here (gramV s).1 := (fun q => by have h7 := hhr.2 q; simp_all); have h8 := hr.2 ((hg10 he0).2 hnh); simp_all
        try simp only [nm, ne_eq] at g97
        exact absurd (hg10 (by first | assumption | simp_all)).1 (by assumption)
end Go.Proofs.YtghjmiggobpmoaaGreatDoor.K
