import Derived.Test.YtncnalboiljgiaaGreatKitD
import Derived.OrdersIn
set_option linter.unusedVariables false
set_option linter.unusedSimpArgs false
set_option autoImplicit false
namespace Go.Proofs.YtncnalboiljgiaaGreat.K
open Go Go.RowKit
def dps (o : Oper) : List Nat := (o.after.toList.filter (Region.binds .any)).map (·.on)
def otmps (o : Oper) : List Nat := o.op.operands.toList.filterMap fun | .tmp t => some t | _ => none
def gtmp (l : List Oper) (o : Oper) : List Nat := match o.guard with | some (k, _) => ((l[k]?).bind (·.dst)).toList | none => []
def atmps (l : List Oper) (o : Oper) : List Nat := otmps o ++ gtmp l o
def wantE (l : List Oper) (o : Oper) (E : Env) : Bool := match o.guard with
  | none => true
  | some (k, b) => match (l[k]?).bind (·.dst) with
    | some d => (match E d with | .bool c => c == b | _ => false)
    | none => false
def plainOp (o : Oper) : Bool := match o.op with | .select .. | .defer .. => false | _ => true
def clo (l : List Oper) : List Nat → List Nat → List Nat
  | [], cl => cl
  | j :: s, cl => clo l s (bif cl.contains j then (match l[j]? with | some p => dps p ++ cl | none => cl) else cl)
def chainOK (l : List Oper) : List (Nat × Nat) → List Nat → Option (List Nat) → Bool
  | [], _, _ => true
  | (i, f) :: r, seen, lay =>
    (match l[i]? with
     | none => false
     | some o => (dps o).all (fun j => seen.contains j) &&
        (atmps l o).all (fun t => (List.range l.length).all fun j => (match l[j]? with | some p => (p.dst != some t) || (dps o).contains j | none => true)) &&
        (match lay with | none => true | some s => (dps o).any fun j => s.contains j) &&
        (bif Nat.beq f 2 then r.isEmpty && seen.all (fun j => (clo l seen (dps o)).contains j) else Nat.blt f 2)) &&
    !seen.contains i && Nat.blt i l.length &&
    chainOK l r (i :: seen) (bif Nat.beq f 0 then lay.map (i :: ·) else some [i])
def dstsOK (l : List Oper) : Bool := (List.range l.length).all fun i => (List.range l.length).all fun j => Nat.beq i j || (match l[i]?, l[j]? with | some o, some p => (match o.dst with | some d => p.dst != some d | none => true) | _, _ => true)
def drawOK (l : List Oper) (seq : List (Nat × Nat)) : Bool :=
  l.all plainOp && dstsOK l && chainOK l seq [] none && Nat.beq seq.length l.length
variable {P : Program} {X : Value → World → Prop} {r : Option Nat} {n : Nat} {l : List Oper} {Q : Post} {ds : List Deferred}
def opR (P : Program) (l : List Oper) (o : Oper) (E : Env) (w : World) (v : Value) : Prop :=
  (wantE l o E = true ∧ (execOp (ev E) o).run P w = .ok (.value v) w) ∨ (wantE l o E = false ∧ v = undef)
def effP (P : Program) (X : Value → World → Prop) (o : Oper) (E : Env) (w : World) (K : Value → World → Prop) : Prop :=
  (∃ v w', (execOp (ev E) o).run P w = .ok (.value v) w' ∧ K v w') ∨ (∃ w', (execOp (ev E) o).run P w = .ok .skip w' ∧ K undef w') ∨
  (∃ f args w1 Φ, (execOp (ev E) o).run P w = .ok (.enter f args) w1 ∧ CallR P f args w1 Φ ∧ ∀ v w', Φ v w' → K v w') ∨
  (∃ f args w1, ∃ Φ Ψ : Value → World → Prop, (execOp (ev E) o).run P w = .ok (.enter f args) w1 ∧ Calls P f args w1 (fun e w' => (∃ v, e = .returned v ∧ Φ v w') ∨ ∃ v, e = .panicked [{ v := v, recovered := false }] ∧ Ψ v w') ∧ (∀ v w', Ψ v w' → X v w') ∧ ∀ v w', Φ v w' → K v w')
def seqP (P : Program) (X : Value → World → Prop) (l : List Oper) (K : (World → Prop) → Env → World → Prop) : List (Nat × Nat) → (World → Prop) → Env → World → Prop
  | [], T, E, w => K T E w
  | (i, f) :: rest, T, E, w => ∀ o, l[i]? = some o →
    match f with
    | 0 => ∃ v, (∀ w', T w' → opR P l o E w' v) ∧ seqP P X l K rest T (updo E o.dst v) w
    | 1 => (wantE l o E = true ∧ effP P X o E w fun v w' => ∃ T' : World → Prop, (∀ x, T' x → T x) ∧ T' w' ∧ seqP P X l K rest T' (updo E o.dst v) w') ∨ (wantE l o E = false ∧ seqP P X l K rest T (updo E o.dst undef) w)
    | _ => (wantE l o E = true ∧ effP P X o E w fun v w' => seqP P X l K rest T (updo E o.dst v) w') ∨ (wantE l o E = false ∧ seqP P X l K rest T (updo E o.dst undef) w)
theorem effP_mono {o : Oper} {E : Env} {w : World} {K K' : Value → World → Prop} (h : effP P X o E w K) (hk : ∀ v w', K v w' → K' v w') : effP P X o E w K' := by
  rcases h with ⟨v, w', h1, h2⟩ | ⟨w', h1, h2⟩ | ⟨f, as, w1, Φ, h1, h2, h3⟩ | ⟨f, as, w1, Φ, Ψ, h1, h2, h4, h3⟩
  · exact .inl ⟨v, w', h1, hk _ _ h2⟩
  · exact .inr (.inl ⟨w', h1, hk _ _ h2⟩)
  · exact .inr (.inr (.inl ⟨f, as, w1, Φ, h1, h2, fun v w' hv => hk _ _ (h3 v w' hv)⟩))
  · exact .inr (.inr (.inr ⟨f, as, w1, Φ, Ψ, h1, h2, h4, fun v w' hv => hk _ _ (h3 v w' hv)⟩))
theorem otmps_congr {o : Oper} (hp : plainOp o = true) {E G : Env} (h : ∀ t, t ∈ otmps o → E t = G t) : execOp (ev E) o = execOp (ev G) o := by
  refine execOp_congr o (fun cs b hs => ?_) fun x hx => ?_
  · simp only [plainOp, hs] at hp; cases hp
  · cases x with
    | tmp t => exact h t (List.mem_filterMap.2 ⟨.tmp t, by simpa using hx, rfl⟩)
    | _ => rfl
theorem plain_defer {o : Oper} (hp : plainOp o = true) : ∀ c, o.op ≠ .defer c := fun c hs => by simp only [plainOp, hs] at hp; cases hp
theorem want_congr {o : Oper} {E G : Env} (h : ∀ t, t ∈ atmps l o → E t = G t) : wantE l o E = wantE l o G := by
  unfold wantE
  cases hg : o.guard with
  | none => rfl
  | some x =>
    obtain ⟨k, b⟩ := x
    simp only
    cases hd : (l[k]?).bind (·.dst) with
    | none => rfl
    | some d =>
      simp only
      rw [h d (by simp [atmps, gtmp, hg, hd])]
theorem opR_congr {o : Oper} (hp : plainOp o = true) {E G : Env} {w : World} {v : Value} (h : ∀ t, t ∈ atmps l o → E t = G t) (hr : opR P l o E w v) : opR P l o G w v := by
  have h1 : execOp (ev E) o = execOp (ev G) o := otmps_congr hp fun t ht => h t (by simp [atmps, ht])
  unfold opR at *
  rw [← want_congr h, ← h1]; exact hr
theorem wanted_env (o : Oper) (a : Act) : Region.wanted o (yielded l.toArray a.tmps) = wantE l o (env a) := by
  unfold Region.wanted wantE
  cases hg : o.guard with
  | none => rfl
  | some x =>
    obtain ⟨k, b⟩ := x
    simp only [yielded, List.getElem?_toArray]
    cases hd : (l[k]?).bind (·.dst) with
    | none => rfl
    | some d =>
      simp only [Option.bind_some, env, Array.getD_eq_getD_getElem?]
      cases a.tmps[d]? with
      | none => rfl
      | some v => cases v <;> first | rfl | (simp; rfl) | simp
theorem wpOpIn_eff {i : Nat} {o : Oper} (hi : l.toArray[i]? = some o) (hp : plainOp o = true) {E : Env} {a : Act} {w : World} (he : ∀ t, t ∈ atmps l o → env a t = E t) {K : Act → World → Prop} {Qa : Exit → Act → World → Prop}
    (hX : ∀ v w', X v w' → Qa (.panic [{ v := v, recovered := false }]) a w')
    (h : (wantE l o E = true ∧ effP P X o E w fun v w' => K (a.put o.dst v) w') ∨ (wantE l o E = false ∧ K (a.put o.dst undef) w)) : wpOpIn (WF r) 0 P l.toArray Qa i K a w := by
  have he1 : execOp (ev (env a)) o = execOp (ev E) o := otmps_congr hp fun t ht => he t (by simp [atmps, ht])
  unfold wpOpIn
  simp only [hi]
  rw [wanted_env, want_congr he]
  rcases h with ⟨hw, h⟩ | ⟨hw, h⟩
  · rw [if_pos hw]
    refine ⟨fun _ _ => trivial, ?_⟩
    rw [ev_env, Oper.semAt_eq _ _ _ (plain_defer hp), he1]
    rcases h with ⟨v, w', h1, h2⟩ | ⟨w', h1, h2⟩ | ⟨f, as, w1, Φ, h1, h2, h3⟩ | ⟨f, as, w1, Φ, Ψ, h1, h2, h4, h3⟩
    · rw [h1]; exact h2
    · rw [h1]; exact h2
    · rw [h1]
      refine ⟨fun hh => by simp [WF, Fence.wide] at hh, CallsIn.mono (callsIn_of_calls h2) ?_⟩
      rintro e w' ⟨v, rfl, hv⟩
      exact h3 v w' hv
    · rw [h1]
      refine ⟨fun hh => by simp [WF, Fence.wide] at hh, CallsIn.mono (callsIn_of_calls h2) ?_⟩
      rintro e w' (⟨v, rfl, hv⟩ | ⟨v, rfl, hv⟩)
      · exact h3 v w' hv
      · exact hX v w' (h4 v w' hv)
  · rw [if_neg (by rw [hw]; simp)]
    exact ⟨fun _ _ => trivial, h⟩
section main
variable (E0 : Env) (hpl : l.all plainOp = true) (hds : dstsOK l = true)
include hds in
theorem dst_ne {i j : Nat} {o p : Oper} {d : Nat} (hi : l[i]? = some o) (hj : l[j]? = some p) (hne : i ≠ j) (hd : o.dst = some d) : p.dst ≠ some d := by
  have h1 := (List.all_eq_true.1 hds i (List.mem_range.2 (List.getElem?_eq_some_iff.1 hi).1))
  have h2 := (List.all_eq_true.1 h1 j (List.mem_range.2 (List.getElem?_eq_some_iff.1 hj).1))
  simp only [hi, hj, hd, Bool.or_eq_true] at h2
  rcases h2 with h2 | h2
  · exact absurd (Nat.eq_of_beq_eq_true h2) hne
  · simpa using h2
structure Inv (P : Program) (l : List Oper) (E0 : Env) (seen : List Nat) (eff : List Nat) (T : World → Prop) (V G : Env) (L : Nat → Prop) (w : World) : Prop where
  sub : ∀ i, L i → i ∈ seen
  done : ∀ i, i ∈ eff → L i
  quiet : ∀ i, i ∈ seen → i ∉ eff → ∀ o, l[i]? = some o → ∃ v, (∀ w', T w' → opR P l o V w' v) ∧ updo V o.dst v = V
  at_ : ∀ i o d, L i → l[i]? = some o → o.dst = some d → G d = V d
  rest : ∀ t, (∀ i o, L i → l[i]? = some o → o.dst ≠ some t) → G t = E0 t
  virt : ∀ t, (∀ i o, i ∈ seen → l[i]? = some o → o.dst ≠ some t) → V t = E0 t
  here : T w
  down : ∀ i o, L i → l[i]? = some o → ∀ j, j ∈ dps o → L j
theorem Inv.operands {seen eff : List Nat} {T : World → Prop} {V G : Env} {L : Nat → Prop} {w : World} (h : Inv P l E0 seen eff T V G L w) {i : Nat} {o : Oper} (hi : l[i]? = some o)
    (hw : (atmps l o).all (fun t => (List.range l.length).all fun j => (match l[j]? with | some (p : Oper) => (p.dst != some t) || (dps o).contains j | none => true)) = true) (hr : ∀ j, j ∈ dps o → L j) :
    ∀ t, t ∈ atmps l o → G t = V t := by
  intro t ht
  have h1 := List.all_eq_true.1 hw t ht
  by_cases hx : ∃ (j : Nat) (p : Oper), l[j]? = some p ∧ p.dst = some t
  · obtain ⟨j, p, hj, hp⟩ := hx
    have h2 := List.all_eq_true.1 h1 j (List.mem_range.2 (List.getElem?_eq_some_iff.1 hj).1)
    simp only [hj, hp, bne_self_eq_false, Bool.false_or, List.contains_iff_mem] at h2
    exact h.at_ j p t (hr j h2) hj hp
  · have hx' : ∀ (j : Nat) (p : Oper), l[j]? = some p → p.dst ≠ some t := fun j p hj hp => hx ⟨j, p, hj, hp⟩
    rw [h.rest t (fun i o _ hi => hx' i o hi), h.virt t (fun i o _ hi => hx' i o hi)]
theorem updo_same {E : Env} {d : Option Nat} {v : Value} (h : ∀ k, d = some k → E k = v) : updo E d v = E := by
  cases d with
  | none => rfl
  | some k =>
    funext i
    by_cases e : i = k
    · subst e; show upd E i v i = E i; rw [upd_same, h i rfl]
    · exact upd_other _ _ _ _ e
theorem updo_get {E : Env} {d : Option Nat} {v : Value} (k : Nat) (h : d = some k) : updo E d v k = v := by subst h; exact upd_same _ _ _
theorem updo_ne {E : Env} {d : Option Nat} {v : Value} (k : Nat) (h : d ≠ some k) : updo E d v k = E k := by
  cases d with
  | none => rfl
  | some j => exact upd_other _ _ _ _ (fun e => h (by rw [e]))
structure Elem (l : List Oper) (i f : Nat) (seen : List Nat) (lay : Option (List Nat)) (o : Oper) : Prop where
  at_ : l[i]? = some o
  back : ∀ j, j ∈ dps o → j ∈ seen
  writers : (atmps l o).all (fun t => (List.range l.length).all fun j => (match l[j]? with | some (p : Oper) => (p.dst != some t) || (dps o).contains j | none => true)) = true
  hangs : ∀ s, lay = some s → ∃ j, j ∈ dps o ∧ j ∈ s
  new : i ∉ seen
theorem Elem.seenW {i f : Nat} {seen : List Nat} {lay : Option (List Nat)} {o : Oper} (h : Elem l i f seen lay o) : ∀ t, t ∈ atmps l o → ∀ (j : Nat) (p : Oper), l[j]? = some p → p.dst = some t → j ∈ dps o := fun t ht j p hj hp => by
  have h1 := List.all_eq_true.1 (List.all_eq_true.1 h.writers t ht) j (List.mem_range.2 (List.getElem?_eq_some_iff.1 hj).1)
  simp only [hj, hp, bne_self_eq_false, Bool.false_or, List.contains_iff_mem] at h1
  exact h1
theorem clo_listed {L : Nat → Prop} (down : ∀ i o, L i → l[i]? = some o → ∀ j, j ∈ dps o → L j) : ∀ (seen cl : List Nat), (∀ k, k ∈ cl → L k) → ∀ k, k ∈ clo l seen cl → L k
  | [], cl, h, k, hk => h k hk
  | j :: s, cl, h, k, hk => by
    simp only [clo] at hk
    refine clo_listed down s _ ?_ k hk
    intro x hx
    cases hc : cl.contains j with
    | false => rw [hc] at hx; exact h x hx
    | true =>
      rw [hc] at hx
      simp only [cond_true] at hx
      cases hj : l[j]? with
      | none => rw [hj] at hx; exact h x hx
      | some p =>
        rw [hj] at hx
        rcases List.mem_append.1 hx with h1 | h1
        · exact down j p (h j (by simpa using hc)) hj x h1
        · exact h x h1
theorem chain_elem {i f : Nat} {rest : List (Nat × Nat)} {seen : List Nat} {lay : Option (List Nat)} (h : chainOK l ((i, f) :: rest) seen lay = true) :
    ∃ o, Elem l i f seen lay o ∧ chainOK l rest (i :: seen) (bif Nat.beq f 0 then lay.map (i :: ·) else some [i]) = true ∧ (f = 2 → rest = [] ∧ ∀ j, j ∈ seen → j ∈ clo l seen (dps o)) := by
  simp only [chainOK, Bool.and_eq_true, Bool.not_eq_true'] at h
  obtain ⟨⟨⟨h1, h2⟩, h3⟩, h4⟩ := h
  cases ho : l[i]? with
  | none => simp [ho] at h1
  | some o =>
    simp only [ho, Bool.and_eq_true] at h1
    obtain ⟨⟨⟨k1, k2⟩, k3⟩, k4⟩ := h1
    refine ⟨o, ⟨ho, fun j hj => by simpa using List.all_eq_true.1 k1 j hj, k2, fun s hs => ?_, by simpa using h2⟩, h4, fun hf => ?_⟩
    · subst hs
      obtain ⟨j, q1, q2⟩ := List.any_eq_true.1 k3
      exact ⟨j, q1, by simpa using q2⟩
    · subst hf
      have k4 : (rest.isEmpty && seen.all (fun j => (clo l seen (dps o)).contains j)) = true := k4
      simp only [Bool.and_eq_true, List.isEmpty_iff] at k4
      exact ⟨k4.1, fun j hj => by simpa using List.all_eq_true.1 k4.2 j hj⟩
def SeenOK (l : List Oper) : List Nat → Prop
  | [] => True
  | i :: b => (∃ o, l[i]? = some o ∧ (∀ j, j ∈ dps o → j ∈ b) ∧ ∀ t, t ∈ atmps l o → ∀ (j : Nat) (p : Oper), l[j]? = some p → p.dst = some t → j ∈ dps o) ∧ SeenOK l b
theorem seen_ready (listed : Array Bool) : ∀ (seen : List Nat), SeenOK l seen → (∃ i, i ∈ seen ∧ listed.getD i true = false) → (∀ i, i ∈ seen → listed.getD i true = true → listed.getD i false = true) → ∃ i, i ∈ Region.ready .any l.toArray listed
  | [], _, ⟨i, h, _⟩, _ => by simp at h
  | x :: b, hs, hex, hl => by
    by_cases hb : ∃ i, i ∈ b ∧ listed.getD i true = false
    · exact seen_ready listed b hs.2 hb (fun i hi => hl i (by simp [hi]))
    · obtain ⟨i, hi, hf⟩ := hex
      have hix : i = x := by
        rcases List.mem_cons.1 hi with h | h
        · exact h
        · exact absurd ⟨i, h, hf⟩ hb
      subst hix
      obtain ⟨o, ho, hd, _⟩ := hs.1
      refine ⟨i, mem_ready.2 ⟨hf, o, by simpa using ho, fun e he hbd => ?_⟩⟩
      have hj : e.on ∈ b := hd _ (List.mem_map.2 ⟨e, List.mem_filter.2 ⟨by simpa using he, hbd⟩, rfl⟩)
      cases hv : listed.getD e.on true with
      | false => exact absurd ⟨_, hj, hv⟩ hb
      | true => exact hl _ (by simp [hj]) hv
theorem ready_dps {listed : Array Bool} {i : Nat} {o : Oper} (h : i ∈ Region.ready .any l.toArray listed) (hi : l[i]? = some o) : ∀ j, j ∈ dps o → listed.getD j false = true := by
  obtain ⟨_, o', ho', h2⟩ := mem_ready.1 h
  have : o' = o := by have := ho'; rw [List.getElem?_toArray, hi] at this; exact (Option.some.inj this).symm
  subst this
  intro j hj
  obtain ⟨e, he, rfl⟩ := List.mem_map.1 hj
  obtain ⟨h3, h4⟩ := List.mem_filter.1 he
  exact h2 e (by simpa using h3) h4
theorem post_not_seen : ∀ (post : List (Nat × Nat)) (seen : List Nat) (lay : Option (List Nat)), chainOK l post seen lay = true → ∀ j, j ∈ post.map (·.1) → j ∉ seen
  | [], seen, lay, _, j, hj => by simp at hj
  | (i, f) :: rest, seen, lay, hc, j, hj => by
    obtain ⟨o, he, hc', _⟩ := chain_elem hc
    rcases List.mem_cons.1 (show j ∈ i :: rest.map (·.1) from hj) with rfl | h
    · exact he.new
    · exact fun hs => post_not_seen rest (i :: seen) _ hc' j (by simpa using h) (by simp [hs])
theorem flag_le (rest : List (Nat × Nat)) (i f : Nat) (seen : List Nat) (lay : Option (List Nat)) (hc : chainOK l ((i, f) :: rest) seen lay = true) : f ≤ 2 := by
  simp only [chainOK, Bool.and_eq_true] at hc
  obtain ⟨⟨⟨h1, h2⟩, h3⟩, h4⟩ := hc
  cases ho : l[i]? with
  | none => simp [ho] at h1
  | some o =>
    simp only [ho, Bool.and_eq_true] at h1
    cases hb : Nat.beq f 2 with
    | true => exact Nat.le_of_eq (Nat.eq_of_beq_eq_true hb)
    | false => rw [hb] at h1; have := h1.2; simp only [cond_false, Nat.blt_eq] at this; omega
theorem chain_none : ∀ (post : List (Nat × Nat)) (seen : List Nat) (lay : Option (List Nat)), chainOK l post seen lay = true → chainOK l post seen none = true
  | [], seen, lay, _ => rfl
  | (i, f) :: rest, seen, lay, hc => by
    have h0 := hc
    simp only [chainOK, Bool.and_eq_true] at h0 ⊢
    obtain ⟨⟨⟨h1, h2⟩, h3⟩, h4⟩ := h0
    refine ⟨⟨⟨?_, h2⟩, h3⟩, ?_⟩
    · cases ho : l[i]? with
      | none => simp [ho] at h1
      | some o => simp only [ho, Bool.and_eq_true] at h1 ⊢; exact ⟨⟨h1.1.1, trivial⟩, h1.2⟩
    · cases hb : Nat.beq f 0 with
      | true => rw [hb] at h4; exact chain_none rest (i :: seen) _ h4
      | false => rw [hb] at h4; exact h4
theorem hangs_in : ∀ (post : List (Nat × Nat)) (seen s : List Nat), chainOK l post seen (some s) = true → ∀ i, i ∈ post.map (·.1) → ∀ o, l[i]? = some o → ∃ j, j ∈ dps o ∧ (j ∈ s ∨ j ∈ post.map (·.1))
  | [], seen, s, _, i, hi, o, ho => by simp at hi
  | (x, f) :: rest, seen, s, hc, i, hi, o, ho => by
    obtain ⟨o', he, hc', _⟩ := chain_elem hc
    rcases List.mem_cons.1 (show i ∈ x :: rest.map (·.1) from hi) with rfl | h
    · rw [he.at_] at ho; cases ho
      obtain ⟨j, h1, h2⟩ := he.hangs s rfl
      exact ⟨j, h1, .inl h2⟩
    · cases hb : Nat.beq f 0 with
      | true =>
        rw [hb] at hc'
        obtain ⟨j, h1, h2⟩ := hangs_in rest (x :: seen) (x :: s) hc' i (by simpa using h) o ho
        refine ⟨j, h1, ?_⟩
        rcases h2 with h2 | h2
        · rcases List.mem_cons.1 h2 with rfl | h2
          · exact .inr (by simp)
          · exact .inl h2
        · exact .inr (by simp at h2 ⊢; exact .inr h2)
      | false =>
        rw [hb] at hc'
        obtain ⟨j, h1, h2⟩ := hangs_in rest (x :: seen) [x] hc' i (by simpa using h) o ho
        refine ⟨j, h1, .inr ?_⟩
        rcases h2 with h2 | h2
        · simp at h2; subst h2; simp
        · simp at h2 ⊢; exact .inr h2
variable {K : (World → Prop) → Env → World → Prop}
include hpl hds in
theorem advance : ∀ (post : List (Nat × Nat)) (seen eff : List Nat) (lay : Option (List Nat)) (T : World → Prop) (V G : Env) (L : Nat → Prop) (w : World),
    chainOK l post seen lay = true → seqP P X l K post T V w → Inv P l E0 seen eff T V G L w → SeenOK l seen → (∀ i, i ∈ post.map (·.1) → ¬ L i ∧ i ∉ eff) →
    ∃ post' seen' lay' V', chainOK l post' seen' lay' = true ∧ seqP P X l K post' T V' w ∧ Inv P l E0 seen' eff T V' G L w ∧ SeenOK l seen' ∧ (post' = [] ∨ ∃ c f r, post' = (c, f) :: r ∧ f ≠ 0) ∧
      (∀ i, i ∈ post'.map (·.1) → ¬ L i ∧ i ∉ eff) ∧ (∀ i, (i ∈ seen ∨ i ∈ post.map (·.1)) → (i ∈ seen' ∨ i ∈ post'.map (·.1)))
  | [], seen, eff, lay, T, V, G, L, w, hc, hs, hI, hS, hN => ⟨[], seen, lay, V, hc, hs, hI, hS, .inl rfl, hN, fun i h => h⟩
  | (i, f) :: rest, seen, eff, lay, T, V, G, L, w, hc, hs, hI, hS, hN => by
    by_cases hf : f = 0
    · subst hf
      obtain ⟨o, he, hc', _⟩ := chain_elem hc
      obtain ⟨v, hrun, hs'⟩ := hs o he.at_
      have hop : ∀ t, t ∈ atmps l o → ∀ d, o.dst = some d → t ≠ d := by
        intro t ht d hd htd
        subst htd
        have h1 := List.all_eq_true.1 (List.all_eq_true.1 he.writers t ht) i (List.mem_range.2 (List.getElem?_eq_some_iff.1 he.at_).1)
        simp only [he.at_, hd, bne_self_eq_false, Bool.false_or, List.contains_iff_mem] at h1
        exact he.new (he.back i h1)
      have hpo : plainOp o = true := List.all_eq_true.1 hpl o (List.mem_of_getElem? he.at_)
      have hnL := (hN i (by simp)).1
      have hne := (hN i (by simp)).2
      have hrun' : ∀ w', T w' → opR P l o (updo V o.dst v) w' v := fun w' hT => by
        refine opR_congr hpo (E := V) (fun t ht => ?_) (hrun w' hT)
        cases hd : o.dst with
        | none => rfl
        | some d => exact (upd_other _ _ _ _ (hop t ht d hd)).symm
      have hI' : Inv P l E0 (i :: seen) eff T (updo V o.dst v) G L w := by
        refine ⟨fun j hj => by simp [hI.sub j hj], hI.done, fun j hj hjn p hp => ?_, fun j p d hj hp hd => ?_, hI.rest, fun t ht => ?_, hI.here, hI.down⟩
        · rcases List.mem_cons.1 hj with rfl | hj'
          · rw [he.at_] at hp; cases hp
            exact ⟨v, hrun', updo_same fun k hk => updo_get k hk⟩
          · obtain ⟨u, h1, h2⟩ := hI.quiet j hj' hjn p hp
            have hji : i ≠ j := fun e => he.new (by rw [e]; exact hj')
            have hpp : plainOp p = true := List.all_eq_true.1 hpl p (List.mem_of_getElem? hp)
            -- p's operands are not written by o
            have hnw : ∀ t, t ∈ atmps l p → o.dst ≠ some t := by
              intro t ht hd
              have : ∀ (sn : List Nat), SeenOK l sn → j ∈ sn → i ∈ sn := by
                intro sn
                induction sn with
                | nil => intro _ h; simp at h
                | cons x b ih =>
                  intro hs hjm
                  rcases List.mem_cons.1 hjm with rfl | hjm'
                  · obtain ⟨p', hp', hb0, hb⟩ := hs.1
                    rw [hp] at hp'; cases hp'
                    exact List.mem_cons_of_mem _ (hb0 _ (hb t ht i o he.at_ hd))
                  · exact List.mem_cons_of_mem _ (ih hs.2 hjm')
              exact he.new (this seen hS hj')
            refine ⟨u, fun w' hT => ?_, ?_⟩
            · exact opR_congr hpp (E := V) (fun t ht => (updo_ne t (hnw t ht)).symm) (h1 w' hT)
            · refine updo_same fun k hk => ?_
              rw [updo_ne k (fun hd => dst_ne (l := l) hds he.at_ hp hji hd hk)]
              rw [← h2]; exact updo_get k hk
        · have := hI.at_ j p d hj hp hd
          rw [this, updo_ne d (fun hd' => dst_ne (l := l) hds he.at_ hp (fun e => hnL (by rw [e]; exact hj)) hd' hd)]
        · rw [updo_ne t (fun hd => ht i o (by simp) he.at_ hd)]
          exact hI.virt t fun j p hj hp => ht j p (by simp [hj]) hp
      obtain ⟨post', seen', lay', V', q1, q2, q3, q4, q5, q6, q7⟩ := advance rest (i :: seen) eff _ T _ G L w hc' hs' hI' ⟨⟨o, he.at_, he.back, he.seenW⟩, hS⟩ (fun j hj => hN j (by simp at hj ⊢; exact .inr hj))
      refine ⟨post', seen', lay', V', q1, q2, q3, q4, q5, q6, fun j hj => q7 j ?_⟩
      rcases hj with h | h
      · exact .inl (by simp [h])
      · simp only [List.map_cons, List.mem_cons] at h
        rcases h with rfl | h
        · exact .inl (by simp)
        · exact .inr h
    · exact ⟨_, seen, lay, V, hc, hs, hI, hS, .inr ⟨i, f, rest, rfl, hf⟩, hN, fun j h => h⟩
def cnt (N : Nat) (listed : Array Bool) : Nat := ((List.range N).filter fun i => !listed.getD i true).length
theorem cnt_set {N : Nat} {listed : Array Bool} {i : Nat} (hN : listed.size = N) (hi : listed.getD i true = false) : cnt N (listed.setIfInBounds i true) < cnt N listed := by
  have hlt : i < listed.size := by
    rcases Nat.lt_or_ge i listed.size with h | h
    · exact h
    · simp [Array.getD_eq_getD_getElem?, Array.getElem?_eq_none h] at hi
  unfold cnt
  have key : ∀ l : List Nat, i ∈ l → (l.filter fun j => !(listed.setIfInBounds i true).getD j true).length < (l.filter fun j => !listed.getD j true).length := by
    have le : ∀ l : List Nat, (l.filter fun j => !(listed.setIfInBounds i true).getD j true).length ≤ (l.filter fun j => !listed.getD j true).length := by
      intro l
      induction l with
      | nil => simp
      | cons x b ih =>
        by_cases e : x = i
        · subst e; simp only [List.filter_cons, hi]; simp [Array.getD_eq_getD_getElem?, hlt]; simp [Array.getD_eq_getD_getElem?] at ih; omega
        · simp only [List.filter_cons]; rw [getD_set_ne true (Ne.symm e)]; split <;> (try simp only [List.length_cons]) <;> omega
    intro l
    induction l with
    | nil => intro h; simp at h
    | cons x b ih =>
      intro h
      by_cases e : x = i
      · subst e
        have := le b
        have h1 : (listed.setIfInBounds x true).getD x true = true := by simp [Array.getD_eq_getD_getElem?, hlt]
        simp only [List.filter_cons, hi, h1]
        simp only [Bool.not_true, Bool.not_false, if_true, List.length_cons]
        simp only [Bool.false_eq_true, if_false]
        omega
      · have := ih (by simpa [Ne.symm e] using h)
        simp only [List.filter_cons]; rw [getD_set_ne true (Ne.symm e)]; split <;> (try simp only [List.length_cons]) <;> omega
  exact key _ (List.mem_range.2 (by omega))
theorem cnt_zero {N : Nat} {listed : Array Bool} (h : cnt N listed = 0) : ∀ i, i < N → listed.getD i true = true := fun i hi => by
  have := List.eq_nil_of_length_eq_zero h
  have h2 := List.filter_eq_nil_iff.1 this i (List.mem_range.2 hi)
  simpa using h2
theorem any_done {fuel : Nat} {listed : Array Bool} {a : Act} {w : World} {Qa : Exit → Act → World → Prop} (hz : ∀ i, i < l.length → listed.getD i true = true) (h : Qa .normal a w) : wpAnyIn (WF r) 0 P .any l.toArray Qa fuel listed a w := by
  have hrd : Region.ready .any l.toArray listed = [] := by
    cases hr : Region.ready .any l.toArray listed with
    | nil => rfl
    | cons x xs =>
      have hx : x ∈ Region.ready .any l.toArray listed := by rw [hr]; simp
      obtain ⟨h1, o, ho, _⟩ := mem_ready.1 hx
      have hlt : x < l.length := by have := (Array.getElem?_eq_some_iff.1 ho).1; simpa using this
      rw [hz x hlt] at h1; cases h1
  cases fuel with
  | zero => exact ⟨hrd, h⟩
  | succ fuel => exact ⟨fun _ => h, fun i hi => by rw [hrd] at hi; simp at hi⟩
include hpl hds in
theorem any_of_seq (hK : ∀ T E w, K T E w → Q .normal E ds w) (hXQ : ∀ v w', X v w' → ∀ E', Q (.panic [{ v := v, recovered := false }]) E' ds w') : ∀ (fuel : Nat) (post : List (Nat × Nat)) (seen eff : List Nat) (lay : Option (List Nat)) (T : World → Prop) (V : Env) (listed : Array Bool) (w : World) (a : Act),
    cnt l.length listed ≤ fuel → listed.size = l.length → a.tmps.size = n → a.defers = ds → l.all (okd n) = true →
    chainOK l post seen lay = true → seqP P X l K post T V w → Inv P l E0 seen eff T V (env a) (fun i => i < l.length ∧ listed.getD i true = true) w → SeenOK l seen → (post = [] ∨ ∃ c f r, post = (c, f) :: r ∧ f ≠ 0) →
    (∀ i, i ∈ post.map (·.1) → i < l.length → listed.getD i true = false) → (∀ i, i < l.length → i ∈ seen ∨ i ∈ post.map (·.1)) → (∀ s, lay = some s → ∀ j, j ∈ s → j ∈ eff ∨ j ∈ seen) →
    wpAnyIn (WF r) 0 P .any l.toArray (toQ n Q) fuel listed a w := by
  intro fuel
  induction fuel with
  | zero =>
    intro post seen eff lay T V listed w a hcnt hsz hn hd hok hc hs hI hS hp hN hall hlay
    have hz := cnt_zero (Nat.le_zero.1 hcnt)
    have hrd : Region.ready .any l.toArray listed = [] := by
      cases hr : Region.ready .any l.toArray listed with
      | nil => rfl
      | cons x xs =>
        have hx : x ∈ Region.ready .any l.toArray listed := by rw [hr]; simp
        obtain ⟨h1, o, ho, _⟩ := mem_ready.1 hx
        have hlt : x < l.length := by have := (Array.getElem?_eq_some_iff.1 ho).1; simpa using this
        rw [hz x hlt] at h1; cases h1
    have hpost : post = [] := by
      rcases hp with h | ⟨c, f, rr, rfl, _⟩
      · exact h
      · obtain ⟨o, he, _⟩ := chain_elem hc
        have hlt : c < l.length := (List.getElem?_eq_some_iff.1 he.at_).1
        have := hN c (by simp) hlt
        rw [hz c hlt] at this; cases this
    subst hpost
    refine ⟨hrd, hn, ?_⟩
    have hGV : env a = V := by
      funext t
      by_cases hx : ∃ (i : Nat) (o : Oper), l[i]? = some o ∧ o.dst = some t
      · obtain ⟨i, o, hi, ho⟩ := hx
        have hlt : i < l.length := (List.getElem?_eq_some_iff.1 hi).1
        exact hI.at_ i o t ⟨hlt, hz i hlt⟩ hi ho
      · have hx' : ∀ (i : Nat) (o : Oper), l[i]? = some o → o.dst ≠ some t := fun i o hi ho => hx ⟨i, o, hi, ho⟩
        rw [hI.rest t (fun i o _ hi => hx' i o hi), hI.virt t (fun i o _ hi => hx' i o hi)]
    rw [hGV, hd]
    exact hK _ _ _ hs
  | succ fuel ih =>
    intro post seen eff lay T V listed w a hcnt hsz hn hd hok hc hs hI hS hp hN hall hlay
    have hlf : ∀ i, listed.getD i true = true → i < l.length → listed.getD i false = true := fun i h hlt => by
      rw [Array.getD_eq_getD_getElem?, Array.getElem?_eq_getElem (by omega)] at h ⊢; simpa using h
    have hft : ∀ i, listed.getD i false = true → i < l.length ∧ listed.getD i true = true := fun i h => by
      rcases Nat.lt_or_ge i listed.size with hl | hl
      · refine ⟨by omega, ?_⟩
        rw [Array.getD_eq_getD_getElem?, Array.getElem?_eq_getElem hl] at h ⊢; simpa using h
      · simp [Array.getD_eq_getD_getElem?, Array.getElem?_eq_none hl] at h
    have hset : ∀ i, i < l.length → (listed.setIfInBounds i true).getD i true = true := fun i hi => by simp [Array.getD_eq_getD_getElem?, show i < listed.size by omega]
    have hseenlt : ∀ (sn : List Nat), SeenOK l sn → ∀ i, i ∈ sn → i < l.length := by
      intro sn
      induction sn with
      | nil => intro _ i h; simp at h
      | cons x b ihb =>
        intro hs i hi
        rcases List.mem_cons.1 hi with rfl | hi'
        · obtain ⟨o, ho, _⟩ := hs.1
          exact (List.getElem?_eq_some_iff.1 ho).1
        · exact ihb hs.2 i hi'
    refine ⟨fun hrd => ?_, fun i hi => ?_⟩
    · -- nothing is ready: all have been carried out
      have hseen : ∀ i, i ∈ seen → listed.getD i true = true := by
        intro i hi
        cases hv : listed.getD i true with
        | true => rfl
        | false =>
          obtain ⟨j, hj⟩ := seen_ready listed seen hS ⟨i, hi, hv⟩ (fun k hk h => hlf k h (hseenlt seen hS k hk))
          rw [hrd] at hj; simp at hj
      have hpost : post = [] := by
        rcases hp with h | ⟨c, f, rr, rfl, _⟩
        · exact h
        · obtain ⟨o, he, _⟩ := chain_elem hc
          have hlt : c < l.length := (List.getElem?_eq_some_iff.1 he.at_).1
          have hcr : c ∈ Region.ready .any l.toArray listed := mem_ready.2 ⟨hN c (by simp) hlt, o, by simpa using he.at_, fun e hme hb => by
            have hj : e.on ∈ dps o := List.mem_map.2 ⟨e, List.mem_filter.2 ⟨by simpa using hme, hb⟩, rfl⟩
            have := he.back _ hj
            exact hlf _ (hseen _ this) (hseenlt seen hS _ this)⟩
          rw [hrd] at hcr; simp at hcr
      subst hpost
      refine ⟨hn, ?_⟩
      have hz : ∀ i, i < l.length → listed.getD i true = true := fun i hi => by
        rcases hall i hi with h | h
        · exact hseen i h
        · simp at h
      have hGV : env a = V := by
        funext t
        by_cases hx : ∃ (i : Nat) (o : Oper), l[i]? = some o ∧ o.dst = some t
        · obtain ⟨i, o, hi, ho⟩ := hx
          have hlt : i < l.length := (List.getElem?_eq_some_iff.1 hi).1
          exact hI.at_ i o t ⟨hlt, hz i hlt⟩ hi ho
        · have hx' : ∀ (i : Nat) (o : Oper), l[i]? = some o → o.dst ≠ some t := fun i o hi ho => hx ⟨i, o, hi, ho⟩
          rw [hI.rest t (fun i o _ hi => hx' i o hi), hI.virt t (fun i o _ hi => hx' i o hi)]
      rw [hGV, hd]
      exact hK _ _ _ hs
    · obtain ⟨hun, o, ho, _⟩ := mem_ready.1 hi
      have ho : l[i]? = some o := by simpa using ho
      have hlt : i < l.length := (List.getElem?_eq_some_iff.1 ho).1
      have hdp := ready_dps hi ho
      have hpo : plainOp o = true := List.all_eq_true.1 hpl o (List.mem_of_getElem? ho)
      have hokd : ∀ k, o.dst = some k → k < a.tmps.size := fun k hk => by
        have := List.all_eq_true.1 hok o (List.mem_of_getElem? ho)
        simp only [okd, hk] at this; rw [hn]; simpa [Nat.blt_eq] using this
      have hcnt' : cnt l.length (listed.setIfInBounds i true) ≤ fuel := by have := cnt_set hsz hun; omega
      have hsz' : (listed.setIfInBounds i true).size = l.length := by simpa using hsz
      have hL' : ∀ j, (j < l.length ∧ (listed.setIfInBounds i true).getD j true = true) ↔ (j = i ∨ (j < l.length ∧ listed.getD j true = true)) := fun j => by
        by_cases e : j = i
        · subst e; simp [hlt, hset j hlt]
        · rw [getD_set_ne true (Ne.symm e)]; simp [e]
      rcases hall i hlt with hse | hpo'
      · -- a quiet operation
        have hie : i ∉ eff := fun h => by have := (hI.done i h).2; rw [hun] at this; cases this
        obtain ⟨v, hrun, hvv⟩ := hI.quiet i hse hie o ho
        have hopr : ∀ t, t ∈ atmps l o → env a t = V t := by
          -- the operands' writers are among what o hangs on
          intro t ht
          by_cases hx : ∃ (j : Nat) (p : Oper), l[j]? = some p ∧ p.dst = some t
          · obtain ⟨j, p, hj, hp2⟩ := hx
            have : ∀ (sn : List Nat), SeenOK l sn → i ∈ sn → j ∈ dps o := by
              intro sn
              induction sn with
              | nil => intro _ h; simp at h
              | cons x b ihb =>
                intro hs hjm
                rcases List.mem_cons.1 hjm with rfl | hjm'
                · obtain ⟨p', hp', _, hb⟩ := hs.1
                  rw [ho] at hp'; cases hp'
                  exact hb t ht j p hj hp2
                · exact ihb hs.2 hjm'
            exact hI.at_ j p t (hft j (hdp j (this seen hS hse))) hj hp2
          · have hx' : ∀ (j : Nat) (p : Oper), l[j]? = some p → p.dst ≠ some t := fun j p hj hp => hx ⟨j, p, hj, hp⟩
            rw [hI.rest t (fun i o _ hi => hx' i o hi), hI.virt t (fun i o _ hi => hx' i o hi)]
        have hgo : wpAnyIn (WF r) 0 P .any l.toArray (toQ n Q) fuel (listed.setIfInBounds i true) (a.put o.dst v) w → wpOpIn (WF r) 0 P l.toArray (toQ n Q) i (wpAnyIn (WF r) 0 P .any l.toArray (toQ n Q) fuel (listed.setIfInBounds i true)) a w := fun hk => by
          refine wpOpIn_eff (E := V) (by simpa using ho) hpo hopr (fun v w' hx => ⟨hn, by rw [hd]; exact hXQ v w' hx _⟩) ?_
          rcases hrun w hI.here with ⟨hw, hr⟩ | ⟨hw, rfl⟩
          · exact .inl ⟨hw, .inl ⟨v, w, hr, hk⟩⟩
          · exact .inr ⟨hw, hk⟩
        refine hgo ?_
        refine ih post seen eff lay T V _ w _ hcnt' hsz' (by rw [put_size]; exact hn) (by rw [put_defers]; exact hd) hok hc hs ?_ hS hp (fun j hj hjl => ?_) hall hlay
        · rw [env_puto _ _ _ hokd]
          refine ⟨fun j hj => ?_, fun j hj => (hL' j).2 (.inr (hI.done j hj)), hI.quiet, fun j p d hj hp' hd' => ?_, fun t ht => ?_, hI.virt, hI.here, fun j p hj hp' k hk => ?_⟩
          · rcases (hL' j).1 hj with rfl | h
            · exact hse
            · exact hI.sub j h
          · rcases (hL' j).1 hj with rfl | h
            · rw [ho] at hp'; cases hp'
              rw [updo_get d hd', ← hvv]; exact (updo_get d hd').symm
            · have hji : i ≠ j := fun e => by subst e; rw [hun] at h; cases h.2
              rw [updo_ne d (fun e => dst_ne (l := l) hds ho hp' hji e hd')]
              exact hI.at_ j p d h hp' hd'
          · rw [updo_ne t (ht i o ((hL' i).2 (.inl rfl)) ho)]
            exact hI.rest t fun j p hj hp' => ht j p ((hL' j).2 (.inr hj)) hp'
          · rcases (hL' j).1 hj with rfl | h
            · rw [ho] at hp'; cases hp'
              exact (hL' k).2 (.inr (hft k (hdp k hk)))
            · exact (hL' k).2 (.inr (hI.down j p h hp' k hk))
        · by_cases e : j = i
          · subst e
            rcases hp with h | ⟨c, f, rr, h, _⟩
            · subst h; simp at hj
            · exact absurd hse (post_not_seen (l := l) post seen lay hc j hj)
          · rw [getD_set_ne true (Ne.symm e)]; exact hN j hj hjl
      · -- it is the next effect
        rcases hp with h | ⟨c, f, rr, rfl, hf⟩
        · subst h; simp at hpo'
        obtain ⟨o', he, hc', hfin⟩ := chain_elem hc
        have hic : i = c := by
          rcases List.mem_cons.1 (show i ∈ c :: rr.map (·.1) from hpo') with h | h
          · exact h
          · exfalso
            have hff : Nat.beq f 0 = false := by
              cases hb : Nat.beq f 0 with
              | true => exact absurd (Nat.eq_of_beq_eq_true hb) hf
              | false => rfl
            rw [hff] at hc'
            obtain ⟨j, h1, h2⟩ := hangs_in (l := l) rr (c :: seen) [c] hc' i (by simpa using h) o ho
            have h3 := hft j (hdp j h1)
            have h4 : j = c ∨ j ∈ rr.map (·.1) := by simpa using h2
            rcases h4 with rfl | h4
            · have := hN j (by simp) h3.1; rw [h3.2] at this; cases this
            · have := hN j (by simp at h4 ⊢; exact .inr h4) h3.1; rw [h3.2] at this; cases this
        subst hic
        rw [he.at_] at ho; cases ho
        have hopr : ∀ t, t ∈ atmps l o → env a t = V t := hI.operands E0 he.at_ he.writers (fun j hj => hft j (hdp j hj))
        have hsq := hs o he.at_
        have hbase : ∀ (v : Value) (T' : World → Prop) (w' : World), (∀ x, T' x → T x) → T' w' →
            Inv P l E0 (i :: seen) (i :: eff) T' (updo V o.dst v) (env (a.put o.dst v)) (fun j => j < l.length ∧ (listed.setIfInBounds i true).getD j true = true) w' := by
          intro v T' w' hT hTw
          rw [env_puto _ _ _ hokd]
          refine ⟨fun j hj => ?_, fun j hj => ?_, fun j hj hjn p hp' => ?_, fun j p d hj hp' hd' => ?_, fun t ht => ?_, fun t ht => ?_, hTw, fun j p hj hp' k hk => ?_⟩
          · rcases (hL' j).1 hj with rfl | h
            · simp
            · simp [hI.sub j h]
          · rcases List.mem_cons.1 hj with rfl | h
            · exact (hL' j).2 (.inl rfl)
            · exact (hL' j).2 (.inr (hI.done j h))
          · have hji : j ≠ i := fun e => hjn (by simp [e])
            have hjs : j ∈ seen := by simpa [hji] using hj
            obtain ⟨u, h1, h2⟩ := hI.quiet j hjs (fun h => hjn (by simp [h])) p hp'
            have hpp : plainOp p = true := List.all_eq_true.1 hpl p (List.mem_of_getElem? hp')
            have hnw : ∀ t, t ∈ atmps l p → o.dst ≠ some t := by
              intro t ht hd'
              have : ∀ (sn : List Nat), SeenOK l sn → j ∈ sn → i ∈ sn := by
                intro sn
                induction sn with
                | nil => intro _ h; simp at h
                | cons x b ihb =>
                  intro hs hjm
                  rcases List.mem_cons.1 hjm with rfl | hjm'
                  · obtain ⟨p', hp'', hb0, hb⟩ := hs.1
                    rw [hp'] at hp''; cases hp''
                    exact List.mem_cons_of_mem _ (hb0 _ (hb t ht i o he.at_ hd'))
                  · exact List.mem_cons_of_mem _ (ihb hs.2 hjm')
              exact he.new (this seen hS hjs)
            refine ⟨u, fun x hx => ?_, ?_⟩
            · exact opR_congr hpp (E := V) (fun t ht => (updo_ne t (hnw t ht)).symm) (h1 x (hT x hx))
            · refine updo_same fun k hk => ?_
              rw [updo_ne k (fun hd' => dst_ne (l := l) hds he.at_ hp' (Ne.symm hji) hd' hk)]
              rw [← h2]; exact updo_get k hk
          · rcases (hL' j).1 hj with rfl | h
            · rw [he.at_] at hp'; cases hp'
              rw [updo_get d hd', updo_get d hd']
            · have hji : i ≠ j := fun e => by subst e; rw [hun] at h; cases h.2
              rw [updo_ne d (fun e => dst_ne (l := l) hds he.at_ hp' hji e hd'), updo_ne d (fun e => dst_ne (l := l) hds he.at_ hp' hji e hd')]
              exact hI.at_ j p d h hp' hd'
          · rw [updo_ne t (ht i o ((hL' i).2 (.inl rfl)) he.at_)]
            exact hI.rest t fun j p hj hp' => ht j p ((hL' j).2 (.inr hj)) hp'
          · rw [updo_ne t (ht i o (by simp) he.at_)]
            exact hI.virt t fun j p hj hp' => ht j p (by simp [hj]) hp'
          · rcases (hL' j).1 hj with rfl | h
            · rw [he.at_] at hp'; cases hp'
              exact (hL' k).2 (.inr (hft k (hdp k hk)))
            · exact (hL' k).2 (.inr (hI.down j p h hp' k hk))
        have hNr : ∀ j, j ∈ rr.map (·.1) → j < l.length → (listed.setIfInBounds i true).getD j true = false := fun j hj hjl => by
          have hji : j ≠ i := fun e => by
            subst e
            exact absurd (by simp : j ∈ j :: seen) (post_not_seen (l := l) rr (j :: seen) _ hc' j hj)
          rw [getD_set_ne true (Ne.symm hji)]; exact hN j (by simp at hj ⊢; exact .inr hj) hjl
        have go : ∀ (v : Value) (T' : World → Prop) (w' : World), (∀ x, T' x → T x) → T' w' → seqP P X l K rr T' (updo V o.dst v) w' →
            wpAnyIn (WF r) 0 P .any l.toArray (toQ n Q) fuel (listed.setIfInBounds i true) (a.put o.dst v) w' := by
          intro v T' w' hT hTw hsr
          obtain ⟨post', seen', lay', V', q1, q2, q3, q4, q5, q6, q7⟩ := advance E0 hpl hds rr (i :: seen) (i :: eff) _ T' _ _ _ w' hc' hsr (hbase v T' w' hT hTw) ⟨⟨o, he.at_, he.back, he.seenW⟩, hS⟩ (fun j hj => by
            have hjp := post_not_seen (l := l) rr (i :: seen) _ hc' j hj
            refine ⟨fun hx => ?_, fun hx => ?_⟩
            · have := hNr j hj hx.1; rw [hx.2] at this; cases this
            · rcases List.mem_cons.1 hx with rfl | hx'
              · exact hjp (by simp)
              · have hx2 := hI.done j hx'
                have := hN j (by simp at hj ⊢; exact .inr hj) hx2.1
                rw [hx2.2] at this; cases this)
          refine ih post' seen' (i :: eff) none T' V' _ w' _ hcnt' hsz' (by rw [put_size]; exact hn) (by rw [put_defers]; exact hd) hok (chain_none (l := l) post' seen' lay' q1) q2 q3 q4 q5 (fun j hj hjl => ?_) (fun j hj => ?_) (fun s hs => by cases hs)
          · cases hv : (listed.setIfInBounds i true).getD j true with
            | false => rfl
            | true => exact absurd ⟨hjl, hv⟩ (q6 j hj).1
          · refine q7 j ?_
            rcases hall j hj with h | h
            · exact .inl (by simp [h])
            · simp only [List.map_cons, List.mem_cons] at h
              rcases h with rfl | h
              · exact .inl (by simp)
              · exact .inr h
        refine wpOpIn_eff (E := V) (by simpa using he.at_) hpo hopr (fun v w' hx => ⟨hn, by rw [hd]; exact hXQ v w' hx _⟩) ?_
        rcases Nat.lt_or_ge f 2 with hf2 | hf2
        · have hf1 : f = 1 := by omega
          subst hf1
          rcases hsq with ⟨hw, hsq⟩ | ⟨hw, hsq⟩
          · refine .inl ⟨hw, effP_mono hsq ?_⟩
            rintro v w' ⟨T', h1, h2, h3⟩
            exact go v T' w' h1 h2 h3
          · exact .inr ⟨hw, go undef T w (fun _ h => h) hI.here hsq⟩
        · have hf2' : f = 2 ∨ 2 < f := by omega
          have hsq' : (wantE l o V = true ∧ effP P X o V w fun v w' => seqP P X l K rr T (updo V o.dst v) w') ∨ (wantE l o V = false ∧ seqP P X l K rr T (updo V o.dst undef) w) := by
            match f, hf2 with
            | f + 2, _ => exact hsq
          rcases hf2' with rfl | hgt
          · obtain ⟨rfl, hallp⟩ := hfin rfl
            have fin : ∀ (v : Value) (w' : World), K T (updo V o.dst v) w' → wpAnyIn (WF r) 0 P .any l.toArray (toQ n Q) fuel (listed.setIfInBounds i true) (a.put o.dst v) w' := ?_
            · rcases hsq' with ⟨hw, hsq'⟩ | ⟨hw, hsq'⟩
              · exact .inl ⟨hw, effP_mono hsq' fin⟩
              · exact .inr ⟨hw, fin undef w hsq'⟩
            intro v w' hk
            have hz : ∀ j, j < l.length → (listed.setIfInBounds i true).getD j true = true := fun j hj => by
              rcases hall j hj with h | h
              · exact ((hL' j).2 (.inr (clo_listed (l := l) hI.down seen _ (fun k hk => hft k (hdp k hk)) j (hallp j h)))).2
              · have : j = i := by simpa using h
                subst this; exact hset j hj
            refine any_done hz ⟨by rw [put_size]; exact hn, ?_⟩
            have hGV : env (a.put o.dst v) = updo V o.dst v := by
              rw [env_puto _ _ _ hokd]
              funext t
              by_cases ht : o.dst = some t
              · rw [updo_get t ht, updo_get t ht]
              · rw [updo_ne t ht, updo_ne t ht]
                by_cases hx : ∃ (j : Nat) (p : Oper), l[j]? = some p ∧ p.dst = some t
                · obtain ⟨j, p, hj, hp'⟩ := hx
                  have hlj : j < l.length := (List.getElem?_eq_some_iff.1 hj).1
                  have hji : j ≠ i := fun e => by subst e; rw [he.at_] at hj; cases hj; exact ht hp'
                  exact hI.at_ j p t ((hL' j).1 ⟨hlj, hz j hlj⟩ |>.resolve_left hji) hj hp'
                · have hx' : ∀ (i : Nat) (o : Oper), l[i]? = some o → o.dst ≠ some t := fun i o hi ho => hx ⟨i, o, hi, ho⟩
                  rw [hI.rest t (fun i o _ hi => hx' i o hi), hI.virt t (fun i o _ hi => hx' i o hi)]
            rw [hGV, put_defers, hd]
            exact hK _ _ _ hk
          · exact absurd (flag_le (l := l) rr i f seen lay hc) (by omega)
end main
theorem x_draw {id : Nat} {E : Env} {w : World} (seq : List (Nat × Nat)) (hm : P.follows .mixedOrders = true) (hc : drawOK l seq = true) (hok : l.all (okd n) = true) (hall : ((List.range l.length).all fun i => (seq.map (·.1)).contains i) = true) (T : World → Prop) (hT : T w.drew)
    (h : seqP P (fun v w' => ∀ E', Q (.panic [{ v := v, recovered := false }]) E' ds w') l (fun _ E w => Q .normal E ds w) seq T E w.drew) : wp P r n (.region id l.toArray true) Q E ds w := by
  intro a h1 h2 h3
  simp only [drawOK, Bool.and_eq_true] at hc
  obtain ⟨⟨⟨hpl, hds⟩, hch⟩, hlen⟩ := hc
  refine wpIn_region_any hm ?_
  have hL0 : ∀ j, ¬ (j < l.length ∧ (Array.replicate l.length false).getD j true = true) := fun j hj => by
    have := hj.2; simp [Array.getD_eq_getD_getElem?, hj.1] at this
  obtain ⟨post', seen', lay', V', q1, q2, q3, q4, q5, q6, q7⟩ := advance (P := P) (l := l) (K := fun _ E w => Q .normal E ds w) E hpl hds seq [] [] none T E E (fun j => j < l.length ∧ (Array.replicate l.length false).getD j true = true) w.drew hch h
    ⟨fun j hj => absurd hj (hL0 j), fun j hj => by simp at hj, fun j hj => by simp at hj, fun j o d hj => absurd hj (hL0 j), fun _ _ => rfl, fun _ _ => rfl, hT, fun j o hj => absurd hj (hL0 j)⟩ trivial (fun j _ => ⟨hL0 j, by simp⟩)
  have hq3 : Inv P l E seen' [] T V' (env a) (fun j => j < l.length ∧ (Array.replicate l.length false).getD j true = true) w.drew := by rw [h2]; exact q3
  show wpAnyIn (WF r) 0 P .any l.toArray (toQ n Q) l.toArray.size (Array.replicate l.toArray.size false) a w.drew
  rw [List.size_toArray]
  refine any_of_seq (P := P) (l := l) (Q := Q) (ds := ds) (K := fun _ E w => Q .normal E ds w) E hpl hds (fun _ E w h => h) (fun _ _ h => h) l.length post' seen' [] none T V' (Array.replicate l.length false) w.drew a ?_ (by simp) h1 h3 hok (chain_none (l := l) post' seen' lay' q1) q2 hq3 q4 q5 (fun j hj hjl => ?_) (fun j hj => ?_) (fun s hs => by cases hs)
  · unfold cnt; exact Nat.le_trans (List.length_filter_le _ _) (by simp)
  · simp [Array.getD_eq_getD_getElem?, hjl]
  · refine q7 j (.inr ?_)
    have := List.all_eq_true.1 hall j (List.mem_range.2 hj)
    simpa using this
section
variable {K : (World → Prop) → Env → World → Prop} {T : World → Prop} {E : Env} {w : World} {rest : List (Nat × Nat)} {i : Nat} {o : Oper} {v : Value}
theorem sq_nil (h : K T E w) : seqP P X l K [] T E w := h
theorem sq_q (ho : l[i]? = some o) (hr : ∀ W, T W → (execOp (ev E) o).run P W = .ok (.value v) W) (h : seqP P X l K rest T (updo E o.dst v) w) (hw : wantE l o E = true := by rfl) : seqP P X l K ((i, 0) :: rest) T E w := fun o' ho' => by
  rw [ho] at ho'; cases ho'; exact ⟨v, fun W hT => .inl ⟨hw, hr W hT⟩, h⟩
theorem sq_run1 {w' : World} (ho : l[i]? = some o) (hr : (execOp (ev E) o).run P w = .ok (.value v) w') (T' : World → Prop) (hT : ∀ x, T' x → T x) (hTw : T' w') (h : seqP P X l K rest T' (updo E o.dst v) w') (hw : wantE l o E = true := by rfl) : seqP P X l K ((i, 1) :: rest) T E w := fun o' ho' => by
  rw [ho] at ho'; cases ho'; exact .inl ⟨hw, .inl ⟨v, w', hr, T', hT, hTw, h⟩⟩
theorem sq_skip1 {w' : World} (ho : l[i]? = some o) (hr : (execOp (ev E) o).run P w = .ok .skip w') (T' : World → Prop) (hT : ∀ x, T' x → T x) (hTw : T' w') (h : seqP P X l K rest T' (updo E o.dst undef) w') (hw : wantE l o E = true := by rfl) : seqP P X l K ((i, 1) :: rest) T E w := fun o' ho' => by
  rw [ho] at ho'; cases ho'; exact .inl ⟨hw, .inr (.inl ⟨w', hr, T', hT, hTw, h⟩)⟩
theorem sq_skip2 {w' : World} (ho : l[i]? = some o) (hr : (execOp (ev E) o).run P w = .ok .skip w') (h : seqP P X l K rest T (updo E o.dst undef) w') (hw : wantE l o E = true := by rfl) : seqP P X l K ((i, 2) :: rest) T E w := fun o' ho' => by
  rw [ho] at ho'; cases ho'; exact .inl ⟨hw, .inr (.inl ⟨w', hr, h⟩)⟩
theorem sq_call1 {f : FuncId} {as : Array Value} {Φ : Value → World → Prop} (ho : l[i]? = some o) (hr : (execOp (ev E) o).run P w = .ok (.enter f as) w) (hc : CallR P f as w Φ) (h : ∀ v w', Φ v w' → ∃ T' : World → Prop, (∀ x, T' x → T x) ∧ T' w' ∧ seqP P X l K rest T' (updo E o.dst v) w') (hw : wantE l o E = true := by rfl) :
    seqP P X l K ((i, 1) :: rest) T E w := fun o' ho' => by
  rw [ho] at ho'; cases ho'; exact .inl ⟨hw, .inr (.inr (.inl ⟨f, as, w, Φ, hr, hc, h⟩))⟩
theorem sq_call2 {f : FuncId} {as : Array Value} {Φ : Value → World → Prop} (ho : l[i]? = some o) (hr : (execOp (ev E) o).run P w = .ok (.enter f as) w) (hc : CallR P f as w Φ) (h : ∀ v w', Φ v w' → seqP P X l K rest T (updo E o.dst v) w') (hw : wantE l o E = true := by rfl) :
    seqP P X l K ((i, 2) :: rest) T E w := fun o' ho' => by
  rw [ho] at ho'; cases ho'; exact .inl ⟨hw, .inr (.inr (.inl ⟨f, as, w, Φ, hr, hc, h⟩))⟩
theorem sq_no {f : Nat} (ho : l[i]? = some o) (hw : wantE l o E = false) (h : seqP P X l K rest T (updo E o.dst undef) w) : seqP P X l K ((i, f) :: rest) T E w := fun o' ho' => by
  rw [ho] at ho'; cases ho'
  match f with
  | 0 => exact ⟨undef, fun W _ => .inr ⟨hw, rfl⟩, h⟩
  | 1 => exact .inr ⟨hw, h⟩
  | _ + 2 => exact .inr ⟨hw, h⟩
theorem sq_split {seq : List (Nat × Nat)} {d : Nat} {t : Bool} (he : E d = .bool t) (h1 : t = true → seqP P X l K seq T (upd E d (.bool true)) w) (h0 : t = false → seqP P X l K seq T (upd E d (.bool false)) w) : seqP P X l K seq T E w := by
  have e : upd E d (.bool t) = E := by
    funext i
    by_cases hi : i = d
    · subst hi; rw [upd_same]; exact he.symm
    · exact upd_other _ _ _ _ hi
  rw [← e]
  cases t with
  | true => exact h1 rfl
  | false => exact h0 rfl
end
end Go.Proofs.YtncnalboiljgiaaGreat.K
