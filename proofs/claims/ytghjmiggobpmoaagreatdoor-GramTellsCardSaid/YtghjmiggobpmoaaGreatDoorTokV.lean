import Derived.Test.YtghjmiggobpmoaaGreatDoorKitF
import Derived.Test.YtghjmiggobpmoaaGreatDoorTok
import Derived.Test.YtghjmiggobpmoaaGreatDoorPa
import Derived.Test.YtghjmiggobpmoaaGreatDoorKitFl
set_option linter.unusedVariables false
set_option linter.unusedSimpArgs false
set_option autoImplicit false
namespace Go.Proofs.YtghjmiggobpmoaaGreatDoor.K
open Go Go.RowKit
variable {P : Program} {X : Value → World → Prop} {r : Option Nat} {n : Nat} {l : List Oper} {Q : Post} {ds : List Deferred}
inductive OT
  | stop
  | nil
  | br (i : Nat) (qs : List Nat) (sub next : OT)
  | bar (i : Nat) (xs qs : List Nat) (sub : OT)
def OT.heads : OT → List Nat
  | .br i _ _ next => i :: next.heads
  | .bar i _ _ _ => [i]
  | _ => []
def z0 (qs : List Nat) : List (Nat × Nat) := qs.map (·, 0)
def sameAll (P : Program) (l : List Oper) (E : Env) (T0 : World → Prop) : List Nat → Prop
  | [] => True
  | j :: xs => (∀ o, l[j]? = some o → ∃ v, (∀ w' : World, T0 w' → opR P l o E w' v) ∧ updo E o.dst v = E) ∧ sameAll P l E T0 xs
theorem same_of {E : Env} {T0 : World → Prop} {j : Nat} : ∀ {xs : List Nat}, sameAll P l E T0 xs → j ∈ xs → ∀ o, l[j]? = some o → ∃ v, (∀ w' : World, T0 w' → opR P l o E w' v) ∧ updo E o.dst v = E
  | [], _, h => by cases h
  | k :: xs, hs, h => by
    rcases List.mem_cons.1 h with rfl | h
    · exact hs.1
    · exact same_of hs.2 h
def treeQ (P : Program) (X : Value → World → Prop) (l : List Oper) (K : Env → World → Prop) : OT → (World → Prop) → Env → World → Prop
  | .stop, T, E, w => K E w
  | .nil, T, E, w => True
  | .br i qs sub next, T, E, w => seqP P X l (fun T' E' w2 => treeQ P X l K sub T' E' w2) ((i, 1) :: z0 qs) T E w ∧ treeQ P X l K next T E w
  | .bar i xs qs sub, T, E, w => ∃ T0 : World → Prop, T0 w ∧ sameAll P l E T0 xs ∧ seqP P X l (fun T' E' w2 => treeQ P X l K sub T' E' w2) ((i, 1) :: z0 qs) T0 E w
def barOK (l : List Oper) (i : Nat) (xs seen : List Nat) : Bool := match l[i]? with
  | some o => seen.all fun j => xs.contains j || (clo l seen (dps o)).contains j
  | none => false
def cover (l : List Oper) (t : OT) (seen : List Nat) : Bool := match t with
  | .stop => (List.range l.length).all fun j => seen.contains j
  | .nil => false
  | t => (List.range l.length).all fun j => seen.contains j || t.heads.contains j || (match l[j]? with | some o => (dps o).any fun d => !seen.contains d | none => true)
def treeOK (l : List Oper) : OT → List Nat → Bool
  | .br i qs sub next, seen => chainOK l ((i, 1) :: z0 qs) seen none && cover l sub (qs.reverse ++ i :: seen) && treeOK l sub (qs.reverse ++ i :: seen) && treeOK l next seen
  | .bar i xs qs sub, seen => chainOK l ((i, 1) :: z0 qs) seen none && cover l sub (qs.reverse ++ i :: seen) && treeOK l sub (qs.reverse ++ i :: seen) && barOK l i xs seen
  | _, _ => true
theorem z0_mem {qs : List Nat} {i : Nat} : i ∈ (z0 qs).map (·.1) ↔ i ∈ qs := by
  unfold z0; rw [List.map_map]; simp [Function.comp_def]
theorem br_of {K : Env → World → Prop} {T : World → Prop} {E : Env} {w : World} {i : Nat} {seen : List Nat} : ∀ {t : OT}, treeOK l t seen = true → treeQ P X l K t T E w → i ∈ t.heads → ∃ qs sub T0, chainOK l ((i, 1) :: z0 qs) seen none = true ∧ cover l sub (qs.reverse ++ i :: seen) = true ∧ treeOK l sub (qs.reverse ++ i :: seen) = true ∧
      seqP P X l (fun T' E' w2 => treeQ P X l K sub T' E' w2) ((i, 1) :: z0 qs) T0 E w ∧ (T0 = T ∨ ∃ xs, (barOK l i xs seen = true ∧ sameAll P l E T0 xs ∧ T0 w))
  | .stop, _, _, h => by simp [OT.heads] at h
  | .nil, _, _, h => by simp [OT.heads] at h
  | .br j qs sub next, hk, hq, h => by
    simp only [treeOK, Bool.and_eq_true] at hk
    obtain ⟨⟨⟨k1, k2⟩, k3⟩, k4⟩ := hk
    obtain ⟨q1, q2⟩ := hq
    rcases List.mem_cons.1 (show i ∈ j :: next.heads from h) with rfl | h
    · exact ⟨qs, sub, T, k1, k2, k3, q1, .inl rfl⟩
    · exact br_of k4 q2 h
  | .bar j xs qs sub, hk, hq, h => by
    simp only [treeOK, Bool.and_eq_true] at hk
    obtain ⟨⟨⟨k1, k2⟩, k3⟩, k4⟩ := hk
    obtain rfl : i = j := List.mem_singleton.1 (show i ∈ [j] from h)
    obtain ⟨T0, hq0, hq1, hq2⟩ := hq
    exact ⟨qs, sub, T0, k1, k2, k3, hq2, .inr ⟨xs, k4, hq1, hq0⟩⟩
section main
variable (E0 : Env) (hpl : l.all plainOp = true) (hds : dstsOK l = true)
include hpl hds in
theorem advance0 {K : (World → Prop) → Env → World → Prop} : ∀ (qs : List Nat) (seen eff : List Nat) (lay : Option (List Nat)) (T : World → Prop) (V G : Env) (L : Nat → Prop) (w : World),
    chainOK l (z0 qs) seen lay = true → seqP P X l K (z0 qs) T V w → Inv P l E0 seen eff T V G L w → SeenOK l seen → (∀ i, i ∈ qs → ¬ L i ∧ i ∉ eff) →
    ∃ V', K T V' w ∧ Inv P l E0 (qs.reverse ++ seen) eff T V' G L w ∧ SeenOK l (qs.reverse ++ seen)
  | [], seen, eff, lay, T, V, G, L, w, hc, hs, hI, hS, hN => ⟨V, hs, hI, hS⟩
  | i :: rest, seen, eff, lay, T, V, G, L, w, hc, hs, hI, hS, hN => by
      obtain ⟨o, he, hc', _⟩ := chain_elem (f := 0) (rest := z0 rest) hc
      obtain ⟨v, hrun, hs'⟩ := hs o he.at_
      have hop : ∀ t, t ∈ atmps l o → ∀ d, o.dst = some d → t ≠ d := by
        intro t ht d hd htd
        subst htd
        have h1 := List.all_eq_true.1 (List.all_eq_true.1 he.writers t ht) i (List.mem_range.2 (List.getElem?_eq_some_iff.1 he.at_).1)
        simp only [he.at_, hd, bne_self_eq_false, Bool.false_or, List.contains_iff_mem] at h1
        exact he.new (he.back i h1)
      have hpo : plainOp o = true := List.all_eq_true.1 hpl o (List.mem_of_getElem? he.at_)
      have hnL := (hN i (by simp)).1
      have hne := (hN i (by simp)).2
      have hrun' : ∀ w', T w' → opR P l o (updo V o.dst v) w' v := fun w' hT => by
        refine opR_congr hpo (E := V) (fun t ht => ?_) (hrun w' hT)
        cases hd : o.dst with
        | none => rfl
        | some d => exact (upd_other _ _ _ _ (hop t ht d hd)).symm
      have hI' : Inv P l E0 (i :: seen) eff T (updo V o.dst v) G L w := by
        refine ⟨fun j hj => by simp [hI.sub j hj], hI.done, fun j hj hjn p hp => ?_, fun j p d hj hp hd => ?_, hI.rest, fun t ht => ?_, hI.here, hI.down⟩
        · rcases List.mem_cons.1 hj with rfl | hj'
          · rw [he.at_] at hp; cases hp
            exact ⟨v, hrun', updo_same fun k hk => updo_get k hk⟩
          · obtain ⟨u, h1, h2⟩ := hI.quiet j hj' hjn p hp
            have hji : i ≠ j := fun e => he.new (by rw [e]; exact hj')
            have hpp : plainOp p = true := List.all_eq_true.1 hpl p (List.mem_of_getElem? hp)
            have hnw : ∀ t, t ∈ atmps l p → o.dst ≠ some t := by
              intro t ht hd
              have : ∀ (sn : List Nat), SeenOK l sn → j ∈ sn → i ∈ sn := by
                intro sn
                induction sn with
                | nil => intro _ h; simp at h
                | cons x b ih =>
                  intro hs hjm
                  rcases List.mem_cons.1 hjm with rfl | hjm'
                  · obtain ⟨p', hp', hb0, hb⟩ := hs.1
                    rw [hp] at hp'; cases hp'
                    exact List.mem_cons_of_mem _ (hb0 _ (hb t ht i o he.at_ hd))
                  · exact List.mem_cons_of_mem _ (ih hs.2 hjm')
              exact he.new (this seen hS hj')
            refine ⟨u, fun w' hT => ?_, ?_⟩
            · exact opR_congr hpp (E := V) (fun t ht => (updo_ne t (hnw t ht)).symm) (h1 w' hT)
            · refine updo_same fun k hk => ?_
              rw [updo_ne k (fun hd => dst_ne (l := l) hds he.at_ hp hji hd hk)]
              rw [← h2]; exact updo_get k hk
        · have := hI.at_ j p d hj hp hd
          rw [this, updo_ne d (fun hd' => dst_ne (l := l) hds he.at_ hp (fun e => hnL (by rw [e]; exact hj)) hd' hd)]
        · rw [updo_ne t (fun hd => ht i o (by simp) he.at_ hd)]
          exact hI.virt t fun j p hj hp => ht j p (by simp [hj]) hp
      obtain ⟨V', q1, q2, q3⟩ := advance0 rest (i :: seen) eff _ T _ G L w hc' hs' hI' ⟨⟨o, he.at_, he.back, he.seenW⟩, hS⟩ (fun j hj => hN j (List.mem_cons_of_mem _ hj))
      have e : (i :: rest).reverse ++ seen = rest.reverse ++ (i :: seen) := by simp
      rw [e]; exact ⟨V', q1, q2, q3⟩
include hpl hds in
theorem any_of_tree {K : Env → World → Prop} (hK : ∀ E w, K E w → Q .normal E ds w) (hXQ : ∀ v w', X v w' → ∀ E', Q (.panic [{ v := v, recovered := false }]) E' ds w') : ∀ (fuel : Nat) (t : OT) (seen eff : List Nat) (T : World → Prop) (V : Env) (listed : Array Bool) (w : World) (a : Act),
    cnt l.length listed ≤ fuel → listed.size = l.length → a.tmps.size = n → a.defers = ds → l.all (okd n) = true →
    treeOK l t seen = true → cover l t seen = true → treeQ P X l K t T V w → Inv P l E0 seen eff T V (env a) (fun i => i < l.length ∧ listed.getD i true = true) w → SeenOK l seen →
    wpAnyIn (WF r) 0 P .any l.toArray (toQ n Q) fuel listed a w := by
  intro fuel
  induction fuel with
  | zero =>
    intro t seen eff T V listed w a hcnt hsz hn hd hok hc hv hs hI hS
    have hz := cnt_zero (Nat.le_zero.1 hcnt)
    have hrd : Region.ready .any l.toArray listed = [] := by
      cases hr : Region.ready .any l.toArray listed with
      | nil => rfl
      | cons x xs =>
        have hx : x ∈ Region.ready .any l.toArray listed := by rw [hr]; simp
        obtain ⟨h1, o, ho, _⟩ := mem_ready.1 hx
        have hlt : x < l.length := by have := (Array.getElem?_eq_some_iff.1 ho).1; simpa using this
        rw [hz x hlt] at h1; cases h1
    have ht : t = .stop := by
      cases t with
      | stop => rfl
      | nil => simp [cover] at hv
      | br i qs sub next =>
        obtain ⟨qs', sub', T0, h1, _⟩ := br_of (i := i) hc hs (by simp [OT.heads])
        obtain ⟨o, he, _⟩ := chain_elem h1
        have hlt : i < l.length := (List.getElem?_eq_some_iff.1 he.at_).1
        exact absurd (hI.sub i ⟨hlt, hz i hlt⟩) he.new
      | bar i xs qs sub =>
        obtain ⟨qs', sub', T0, h1, _⟩ := br_of (i := i) hc hs (by simp [OT.heads])
        obtain ⟨o, he, _⟩ := chain_elem h1
        have hlt : i < l.length := (List.getElem?_eq_some_iff.1 he.at_).1
        exact absurd (hI.sub i ⟨hlt, hz i hlt⟩) he.new
    subst ht
    refine ⟨hrd, hn, ?_⟩
    have hGV : env a = V := by
      funext t
      by_cases hx : ∃ (i : Nat) (o : Oper), l[i]? = some o ∧ o.dst = some t
      · obtain ⟨i, o, hi, ho⟩ := hx
        have hlt : i < l.length := (List.getElem?_eq_some_iff.1 hi).1
        exact hI.at_ i o t ⟨hlt, hz i hlt⟩ hi ho
      · have hx' : ∀ (i : Nat) (o : Oper), l[i]? = some o → o.dst ≠ some t := fun i o hi ho => hx ⟨i, o, hi, ho⟩
        rw [hI.rest t (fun i o _ hi => hx' i o hi), hI.virt t (fun i o _ hi => hx' i o hi)]
    rw [hGV, hd]
    exact hK _ _ hs
  | succ fuel ih =>
    intro t seen eff T V listed w a hcnt hsz hn hd hok hc hv hs hI hS
    have hlf : ∀ i, listed.getD i true = true → i < l.length → listed.getD i false = true := fun i h hlt => by
      rw [Array.getD_eq_getD_getElem?, Array.getElem?_eq_getElem (by omega)] at h ⊢; simpa using h
    have hft : ∀ i, listed.getD i false = true → i < l.length ∧ listed.getD i true = true := fun i h => by
      rcases Nat.lt_or_ge i listed.size with hl | hl
      · refine ⟨by omega, ?_⟩
        rw [Array.getD_eq_getD_getElem?, Array.getElem?_eq_getElem hl] at h ⊢; simpa using h
      · simp [Array.getD_eq_getD_getElem?, Array.getElem?_eq_none hl] at h
    have hset : ∀ i, i < l.length → (listed.setIfInBounds i true).getD i true = true := fun i hi => by simp [Array.getD_eq_getD_getElem?, show i < listed.size by omega]
    have hseenlt : ∀ (sn : List Nat), SeenOK l sn → ∀ i, i ∈ sn → i < l.length := by
      intro sn
      induction sn with
      | nil => intro _ i h; simp at h
      | cons x b ihb =>
        intro hs i hi
        rcases List.mem_cons.1 hi with rfl | hi'
        · obtain ⟨o, ho, _⟩ := hs.1
          exact (List.getElem?_eq_some_iff.1 ho).1
        · exact ihb hs.2 i hi'
    have hun' : ∀ i, i < l.length → i ∉ seen → listed.getD i true = false := fun i hlt hns => by
      cases hvv : listed.getD i true with
      | false => rfl
      | true => exact absurd (hI.sub i ⟨hlt, hvv⟩) hns
    refine ⟨fun hrd => ?_, fun i hi => ?_⟩
    · have hseen : ∀ i, i ∈ seen → listed.getD i true = true := by
        intro i hi
        cases hv : listed.getD i true with
        | true => rfl
        | false =>
          obtain ⟨j, hj⟩ := seen_ready listed seen hS ⟨i, hi, hv⟩ (fun k hk h => hlf k h (hseenlt seen hS k hk))
          rw [hrd] at hj; simp at hj
      have hno : ∀ c, c ∈ t.heads → False := fun c hcm => by
          obtain ⟨qs', sub', T0, h1, _⟩ := br_of (i := c) hc hs hcm
          obtain ⟨o, he, _⟩ := chain_elem h1
          have hlt : c < l.length := (List.getElem?_eq_some_iff.1 he.at_).1
          have hcr : c ∈ Region.ready .any l.toArray listed := mem_ready.2 ⟨hun' c hlt he.new, o, by simpa using he.at_, fun e hme hb => by
            have hj : e.on ∈ dps o := List.mem_map.2 ⟨e, List.mem_filter.2 ⟨by simpa using hme, hb⟩, rfl⟩
            have := he.back _ hj
            exact hlf _ (hseen _ this) (hseenlt seen hS _ this)⟩
          rw [hrd] at hcr; simp at hcr
      have ht : t = .stop := by
        cases t with
        | stop => rfl
        | nil => simp [cover] at hv
        | br c qs sub next => exact (hno c (by simp [OT.heads])).elim
        | bar c xs qs sub => exact (hno c (by simp [OT.heads])).elim
      subst ht
      refine ⟨hn, ?_⟩
      have hz : ∀ i, i < l.length → listed.getD i true = true := fun i hi => by
        have := List.all_eq_true.1 hv i (List.mem_range.2 hi)
        exact hseen i (by simpa using this)
      have hGV : env a = V := by
        funext t
        by_cases hx : ∃ (i : Nat) (o : Oper), l[i]? = some o ∧ o.dst = some t
        · obtain ⟨i, o, hi, ho⟩ := hx
          have hlt : i < l.length := (List.getElem?_eq_some_iff.1 hi).1
          exact hI.at_ i o t ⟨hlt, hz i hlt⟩ hi ho
        · have hx' : ∀ (i : Nat) (o : Oper), l[i]? = some o → o.dst ≠ some t := fun i o hi ho => hx ⟨i, o, hi, ho⟩
          rw [hI.rest t (fun i o _ hi => hx' i o hi), hI.virt t (fun i o _ hi => hx' i o hi)]
      rw [hGV, hd]
      exact hK _ _ hs
    · obtain ⟨hun, o, ho, _⟩ := mem_ready.1 hi
      have ho : l[i]? = some o := by simpa using ho
      have hlt : i < l.length := (List.getElem?_eq_some_iff.1 ho).1
      have hdp := ready_dps hi ho
      have hpo : plainOp o = true := List.all_eq_true.1 hpl o (List.mem_of_getElem? ho)
      have hokd : ∀ k, o.dst = some k → k < a.tmps.size := fun k hk => by
        have := List.all_eq_true.1 hok o (List.mem_of_getElem? ho)
        simp only [okd, hk] at this; rw [hn]; simpa [Nat.blt_eq] using this
      have hcnt' : cnt l.length (listed.setIfInBounds i true) ≤ fuel := by have := cnt_set hsz hun; omega
      have hsz' : (listed.setIfInBounds i true).size = l.length := by simpa using hsz
      have hL' : ∀ j, (j < l.length ∧ (listed.setIfInBounds i true).getD j true = true) ↔ (j = i ∨ (j < l.length ∧ listed.getD j true = true)) := fun j => by
        by_cases e : j = i
        · subst e; simp [hlt, hset j hlt]
        · rw [getD_set_ne true (Ne.symm e)]; simp [e]
      by_cases hse : i ∈ seen
      · -- a quiet operation
        have hie : i ∉ eff := fun h => by have := (hI.done i h).2; rw [hun] at this; cases this
        obtain ⟨v, hrun, hvv⟩ := hI.quiet i hse hie o ho
        have hopr : ∀ t, t ∈ atmps l o → env a t = V t := by
          intro t ht
          by_cases hx : ∃ (j : Nat) (p : Oper), l[j]? = some p ∧ p.dst = some t
          · obtain ⟨j, p, hj, hp2⟩ := hx
            have : ∀ (sn : List Nat), SeenOK l sn → i ∈ sn → j ∈ dps o := by
              intro sn
              induction sn with
              | nil => intro _ h; simp at h
              | cons x b ihb =>
                intro hs hjm
                rcases List.mem_cons.1 hjm with rfl | hjm'
                · obtain ⟨p', hp', _, hb⟩ := hs.1
                  rw [ho] at hp'; cases hp'
                  exact hb t ht j p hj hp2
                · exact ihb hs.2 hjm'
            exact hI.at_ j p t (hft j (hdp j (this seen hS hse))) hj hp2
          · have hx' : ∀ (j : Nat) (p : Oper), l[j]? = some p → p.dst ≠ some t := fun j p hj hp => hx ⟨j, p, hj, hp⟩
            rw [hI.rest t (fun i o _ hi => hx' i o hi), hI.virt t (fun i o _ hi => hx' i o hi)]
        have hgo : wpAnyIn (WF r) 0 P .any l.toArray (toQ n Q) fuel (listed.setIfInBounds i true) (a.put o.dst v) w → wpOpIn (WF r) 0 P l.toArray (toQ n Q) i (wpAnyIn (WF r) 0 P .any l.toArray (toQ n Q) fuel (listed.setIfInBounds i true)) a w := fun hk => by
          refine wpOpIn_eff (E := V) (by simpa using ho) hpo hopr (fun v w' hx => ⟨hn, by rw [hd]; exact hXQ v w' hx _⟩) ?_
          rcases hrun w hI.here with ⟨hw, hr⟩ | ⟨hw, rfl⟩
          · exact .inl ⟨hw, .inl ⟨v, w, hr, hk⟩⟩
          · exact .inr ⟨hw, hk⟩
        refine hgo ?_
        refine ih t seen eff T V _ w _ hcnt' hsz' (by rw [put_size]; exact hn) (by rw [put_defers]; exact hd) hok hc hv hs ?_ hS
        rw [env_puto _ _ _ hokd]
        refine ⟨fun j hj => ?_, fun j hj => (hL' j).2 (.inr (hI.done j hj)), hI.quiet, fun j p d hj hp' hd' => ?_, fun t ht => ?_, hI.virt, hI.here, fun j p hj hp' k hk => ?_⟩
        · rcases (hL' j).1 hj with rfl | h
          · exact hse
          · exact hI.sub j h
        · rcases (hL' j).1 hj with rfl | h
          · rw [ho] at hp'; cases hp'
            rw [updo_get d hd', ← hvv]; exact (updo_get d hd').symm
          · have hji : i ≠ j := fun e => by subst e; rw [hun] at h; cases h.2
            rw [updo_ne d (fun e => dst_ne (l := l) hds ho hp' hji e hd')]
            exact hI.at_ j p d h hp' hd'
        · rw [updo_ne t (ht i o ((hL' i).2 (.inl rfl)) ho)]
          exact hI.rest t fun j p hj hp' => ht j p ((hL' j).2 (.inr hj)) hp'
        · rcases (hL' j).1 hj with rfl | h
          · rw [ho] at hp'; cases hp'
            exact (hL' k).2 (.inr (hft k (hdp k hk)))
          · exact (hL' k).2 (.inr (hI.down j p h hp' k hk))
      · -- one of the next effects
        have hds' : ∀ j, j ∈ dps o → j ∈ seen := fun j hj => hI.sub j (hft j (hdp j hj))
        have hhd : i ∈ t.heads := by
          cases t with
          | stop =>
            have := List.all_eq_true.1 hv i (List.mem_range.2 hlt)
            exact absurd (by simpa using this) hse
          | nil => simp [cover] at hv
          | br c qs sub next =>
            have h1 := List.all_eq_true.1 hv i (List.mem_range.2 hlt)
            simp only [ho, Bool.or_eq_true, List.contains_iff_mem] at h1
            rcases h1 with (h1 | h1) | h1
            · exact absurd h1 hse
            · exact h1
            · obtain ⟨d, hd1, hd2⟩ := List.any_eq_true.1 h1
              have := hds' d hd1
              simp [this] at hd2
          | bar c xs qs sub =>
            have h1 := List.all_eq_true.1 hv i (List.mem_range.2 hlt)
            simp only [ho, Bool.or_eq_true, List.contains_iff_mem] at h1
            rcases h1 with (h1 | h1) | h1
            · exact absurd h1 hse
            · exact h1
            · obtain ⟨d, hd1, hd2⟩ := List.any_eq_true.1 h1
              have := hds' d hd1
              simp [this] at hd2
        obtain ⟨rr, sub, T0, hch, hcv, hto, hsq, hT0⟩ := br_of hc hs hhd
        obtain ⟨o', he, hc', _⟩ := chain_elem hch
        rw [he.at_] at ho; cases ho
        have hopr : ∀ t, t ∈ atmps l o → env a t = V t := hI.operands E0 he.at_ he.writers (fun j hj => hft j (hdp j hj))
        obtain ⟨eff', hesub, hedone, hequiet⟩ : ∃ eff' : List Nat, (∀ j, j ∈ eff' → j ∈ i :: seen) ∧ (∀ j, j ∈ eff' → (j < l.length ∧ (listed.setIfInBounds i true).getD j true = true)) ∧
            (∀ (T' : World → Prop) (v : Value), (∀ x, T' x → T0 x) → ∀ j, j ∈ i :: seen → j ∉ eff' → ∀ p, l[j]? = some p → ∃ u, (∀ w', T' w' → opR P l p (updo V o.dst v) w' u) ∧ updo (updo V o.dst v) p.dst u = updo V o.dst v) := by
          rcases hT0 with rfl | ⟨xs, hbar, hsame, _⟩
          · refine ⟨i :: eff, fun j hj => ?_, fun j hj => ?_, fun T' v hT j hj hjn p hp' => ?_⟩
            · rcases List.mem_cons.1 hj with rfl | h
              · simp
              · simp [hI.sub j (hI.done j h)]
            · rcases List.mem_cons.1 hj with rfl | h
              · exact (hL' j).2 (.inl rfl)
              · exact (hL' j).2 (.inr (hI.done j h))
            · have hji : j ≠ i := fun e => hjn (by simp [e])
              have hjs : j ∈ seen := by simpa [hji] using hj
              obtain ⟨u, h1, h2⟩ := hI.quiet j hjs (fun h => hjn (by simp [h])) p hp'
              have hpp : plainOp p = true := List.all_eq_true.1 hpl p (List.mem_of_getElem? hp')
              have hnw : ∀ t, t ∈ atmps l p → o.dst ≠ some t := by
                intro t ht hd'
                have : ∀ (sn : List Nat), SeenOK l sn → j ∈ sn → i ∈ sn := by
                  intro sn
                  induction sn with
                  | nil => intro _ h; simp at h
                  | cons x b ihb =>
                    intro hs hjm
                    rcases List.mem_cons.1 hjm with rfl | hjm'
                    · obtain ⟨p', hp'', hb0, hb⟩ := hs.1
                      rw [hp'] at hp''; cases hp''
                      exact List.mem_cons_of_mem _ (hb0 _ (hb t ht i o he.at_ hd'))
                    · exact List.mem_cons_of_mem _ (ihb hs.2 hjm')
                exact he.new (this seen hS hjs)
              refine ⟨u, fun x hx => ?_, ?_⟩
              · exact opR_congr hpp (E := V) (fun t ht => (updo_ne t (hnw t ht)).symm) (h1 x (hT x hx))
              · refine updo_same fun k hk => ?_
                rw [updo_ne k (fun hd' => dst_ne (l := l) hds he.at_ hp' (Ne.symm hji) hd' hk)]
                rw [← h2]; exact updo_get k hk
          · refine ⟨i :: seen.filter (fun j => !xs.contains j), fun j hj => ?_, fun j hj => ?_, fun T' v hT j hj hjn p hp' => ?_⟩
            · rcases List.mem_cons.1 hj with rfl | h
              · simp
              · exact List.mem_cons_of_mem _ (List.mem_filter.1 h).1
            · rcases List.mem_cons.1 hj with rfl | h
              · exact (hL' j).2 (.inl rfl)
              · obtain ⟨h, hx⟩ := List.mem_filter.1 h
                unfold barOK at hbar; rw [he.at_] at hbar
                have hcl := List.all_eq_true.1 hbar j h
                rw [Bool.or_eq_true] at hcl
                have hcl : j ∈ clo l seen (dps o) := by
                  rcases hcl with hcl | hcl
                  · rw [hcl] at hx; cases hx
                  · simpa using hcl
                exact (hL' j).2 (.inr (clo_listed (l := l) hI.down seen _ (fun k hk => hft k (hdp k hk)) j hcl))
            · have hji : j ≠ i := fun e => hjn (by simp [e])
              have hjs : j ∈ seen := by simpa [hji] using hj
              have hjx : j ∈ xs := by
                cases hx : xs.contains j with
                | true => simpa using hx
                | false => exact absurd (List.mem_cons_of_mem _ (List.mem_filter.2 ⟨hjs, by rw [hx]; rfl⟩)) hjn
              obtain ⟨u, h1, h2⟩ := same_of hsame hjx p hp'
              have hpp : plainOp p = true := List.all_eq_true.1 hpl p (List.mem_of_getElem? hp')
              have hnw : ∀ t, t ∈ atmps l p → o.dst ≠ some t := by
                intro t ht hd'
                have : ∀ (sn : List Nat), SeenOK l sn → j ∈ sn → i ∈ sn := by
                  intro sn
                  induction sn with
                  | nil => intro _ h; simp at h
                  | cons x b ihb =>
                    intro hs hjm
                    rcases List.mem_cons.1 hjm with rfl | hjm'
                    · obtain ⟨p', hp'', hb0, hb⟩ := hs.1
                      rw [hp'] at hp''; cases hp''
                      exact List.mem_cons_of_mem _ (hb0 _ (hb t ht i o he.at_ hd'))
                    · exact List.mem_cons_of_mem _ (ihb hs.2 hjm')
                exact he.new (this seen hS hjs)
              refine ⟨u, fun x hx => ?_, ?_⟩
              · exact opR_congr hpp (E := V) (fun t ht => (updo_ne t (hnw t ht)).symm) (h1 x (hT x hx))
              · refine updo_same fun k hk => ?_
                rw [updo_ne k (fun hd' => dst_ne (l := l) hds he.at_ hp' (Ne.symm hji) hd' hk)]
                rw [← h2]; exact updo_get k hk
        have hbase : ∀ (v : Value) (T' : World → Prop) (w' : World), (∀ x, T' x → T0 x) → T' w' →
            Inv P l E0 (i :: seen) eff' T' (updo V o.dst v) (env (a.put o.dst v)) (fun j => j < l.length ∧ (listed.setIfInBounds i true).getD j true = true) w' := by
          intro v T' w' hT hTw
          rw [env_puto _ _ _ hokd]
          refine ⟨fun j hj => ?_, hedone, hequiet T' v hT, fun j p d hj hp' hd' => ?_, fun t ht => ?_, fun t ht => ?_, hTw, fun j p hj hp' k hk => ?_⟩
          · rcases (hL' j).1 hj with rfl | h
            · simp
            · simp [hI.sub j h]
          · rcases (hL' j).1 hj with rfl | h
            · rw [he.at_] at hp'; cases hp'
              rw [updo_get d hd', updo_get d hd']
            · have hji : i ≠ j := fun e => by subst e; rw [hun] at h; cases h.2
              rw [updo_ne d (fun e => dst_ne (l := l) hds he.at_ hp' hji e hd'), updo_ne d (fun e => dst_ne (l := l) hds he.at_ hp' hji e hd')]
              exact hI.at_ j p d h hp' hd'
          · rw [updo_ne t (ht i o ((hL' i).2 (.inl rfl)) he.at_)]
            exact hI.rest t fun j p hj hp' => ht j p ((hL' j).2 (.inr hj)) hp'
          · rw [updo_ne t (ht i o (by simp) he.at_)]
            exact hI.virt t fun j p hj hp' => ht j p (by simp [hj]) hp'
          · rcases (hL' j).1 hj with rfl | h
            · rw [he.at_] at hp'; cases hp'
              exact (hL' k).2 (.inr (hft k (hdp k hk)))
            · exact (hL' k).2 (.inr (hI.down j p h hp' k hk))
        have go : ∀ (v : Value) (T' : World → Prop) (w' : World), (∀ x, T' x → T0 x) → T' w' → seqP P X l (fun T' E' w2 => treeQ P X l K sub T' E' w2) (z0 rr) T' (updo V o.dst v) w' →
            wpAnyIn (WF r) 0 P .any l.toArray (toQ n Q) fuel (listed.setIfInBounds i true) (a.put o.dst v) w' := by
          intro v T' w' hT hTw hsr
          obtain ⟨V', q1, q2, q3⟩ := advance0 E0 hpl hds rr (i :: seen) eff' _ T' _ _ _ w' hc' hsr (hbase v T' w' hT hTw) ⟨⟨o, he.at_, he.back, he.seenW⟩, hS⟩ (fun j hj => by
            have hjp := post_not_seen (l := l) (z0 rr) (i :: seen) _ hc' j (z0_mem.2 hj)
            refine ⟨fun hx => ?_, fun hx => ?_⟩
            · rcases (hL' j).1 hx with rfl | h
              · exact hjp (by simp)
              · exact hjp (by simp [hI.sub j h])
            · exact hjp (hesub j hx))
          exact ih sub (rr.reverse ++ i :: seen) eff' T' V' _ w' _ hcnt' hsz' (by rw [put_size]; exact hn) (by rw [put_defers]; exact hd) hok hto hcv q1 q2 q3
        refine wpOpIn_eff (E := V) (by simpa using he.at_) hpo hopr (fun v w' hx => ⟨hn, by rw [hd]; exact hXQ v w' hx _⟩) ?_
        rcases hsq o he.at_ with ⟨hw, hsq⟩ | ⟨hw, hsq⟩
        · refine .inl ⟨hw, effP_mono hsq ?_⟩
          rintro v w' ⟨T', h1, h2, h3⟩
          exact go v T' w' h1 h2 h3
        · refine .inr ⟨hw, go undef T0 w (fun _ h => h) ?_ hsq⟩
          rcases hT0 with rfl | ⟨_, _, _, h9⟩
          · exact hI.here
          · exact h9
end main
def openOK (l : List Oper) (q0 : List Nat) (t : OT) : Bool := l.all plainOp && dstsOK l && chainOK l (z0 q0) [] none && treeOK l t q0.reverse && cover l t q0.reverse
theorem x_open {id : Nat} {E : Env} {w : World} (q0 : List Nat) (t : OT) (hm : P.follows .mixedOrders = true) (hc : openOK l q0 t = true) (hok : l.all (okd n) = true) (T : World → Prop) (hT : T w.drew)
    (h : seqP P (fun v w' => ∀ E', Q (.panic [{ v := v, recovered := false }]) E' ds w') l (fun T' E' w2 => treeQ P (fun v w' => ∀ E', Q (.panic [{ v := v, recovered := false }]) E' ds w') l (fun E w => Q .normal E ds w) t T' E' w2) (z0 q0) T E w.drew) : wp P r n (.region id l.toArray true) Q E ds w := by
  intro a h1 h2 h3
  simp only [openOK, Bool.and_eq_true] at hc
  obtain ⟨⟨⟨⟨hpl, hds⟩, hch⟩, hto⟩, hcv⟩ := hc
  refine wpIn_region_any hm ?_
  have hL0 : ∀ j, ¬ (j < l.length ∧ (Array.replicate l.length false).getD j true = true) := fun j hj => by
    have := hj.2; simp [Array.getD_eq_getD_getElem?, hj.1] at this
  obtain ⟨V', q1, q2, q3⟩ := advance0 (P := P) (l := l) E hpl hds q0 [] [] none T E E (fun j => j < l.length ∧ (Array.replicate l.length false).getD j true = true) w.drew hch h
    ⟨fun j hj => absurd hj (hL0 j), fun j hj => by simp at hj, fun j hj => by simp at hj, fun j o d hj => absurd hj (hL0 j), fun _ _ => rfl, fun _ _ => rfl, hT, fun j o hj => absurd hj (hL0 j)⟩ trivial (fun j _ => ⟨hL0 j, by simp⟩)
  rw [List.append_nil] at q2 q3
  have hq3 : Inv P l E q0.reverse [] T V' (env a) (fun j => j < l.length ∧ (Array.replicate l.length false).getD j true = true) w.drew := by rw [h2]; exact q2
  show wpAnyIn (WF r) 0 P .any l.toArray (toQ n Q) l.toArray.size (Array.replicate l.toArray.size false) a w.drew
  rw [List.size_toArray]
  refine any_of_tree (P := P) (l := l) (Q := Q) (ds := ds) E hpl hds (K := fun E w => Q .normal E ds w) (fun E w h => h) (fun _ _ h => h) l.length t q0.reverse [] T V' (Array.replicate l.length false) w.drew a ?_ (by simp) h1 h3 hok hto hcv q1 hq3 q3
  unfold cnt; exact Nat.le_trans (List.length_filter_le _ _) (by simp)
section
variable {K : Env → World → Prop} {T : World → Prop} {E : Env} {w : World}
theorem tr_stop (h : K E w) : treeQ P X l K .stop T E w := h
theorem tr_bar {i : Nat} {xs qs : List Nat} {sub : OT} (T0 : World → Prop) (h0 : T0 w) (hx : sameAll P l E T0 xs) (h : seqP P X l (fun T' E' w2 => treeQ P X l K sub T' E' w2) ((i, 1) :: z0 qs) T0 E w) : treeQ P X l K (.bar i xs qs sub) T E w := ⟨T0, h0, hx, h⟩
theorem xq_nil {T0 : World → Prop} : sameAll P l E T0 [] := trivial
theorem xq_yes {T0 : World → Prop} {j : Nat} {xs : List Nat} {o : Oper} {v : Value} (ho : l[j]? = some o) (hw : wantE l o E = true) (hr : ∀ W : World, T0 W → (execOp (ev E) o).run P W = .ok (.value v) W) (hd : ∀ k, o.dst = some k → E k = v) (h : sameAll P l E T0 xs) : sameAll P l E T0 (j :: xs) :=
  ⟨fun o' ho' => by rw [ho] at ho'; cases ho'; exact ⟨v, fun w' hT => .inl ⟨hw, hr w' hT⟩, updo_same hd⟩, h⟩
end
end Go.Proofs.YtghjmiggobpmoaaGreatDoor.K
set_option linter.unusedVariables false
set_option linter.unusedSimpArgs false
set_option autoImplicit false
set_option maxRecDepth 20000
namespace Go.Proofs.YtghjmiggobpmoaaGreatDoor.K
open Go Go.Proofs Go.RowKit

structure BldP (w : World) (b : Nat) (A : Option Addr) (cap : Nat) (s : Bytes) (rs : List Value) : Prop where
  blk : Blk w b (.pointer none :: .slice A s.length cap :: rs) 98 ∨ Blk w b (.pointer (some ⟨b, 0, none⟩) :: .slice A s.length cap :: rs) 98
  own : OwnB 5 w A cap s
  nil : s = [] → A = none
section
variable {w w' : World} {b : Nat} {A : Option Addr} {cap : Nat} {s : Bytes} {rs : List Value}
theorem BldP.ne (h : BldP w b A cap s rs) : b ∉ ob A := by
  rcases h.blk with hb | hb <;> exact h.own.ne hb (by decide)
theorem BldP.ltb (h : BldP w b A cap s rs) : b < w.heap.size := by
  rcases h.blk with hb | hb <;> exact hb.lt
theorem BldP.tr {bs : List Nat} (h : BldP w b A cap s rs) (hc : Chg bs w w') (h1 : b ∉ bs) (h2 : ∀ k, k ∈ ob A → k ∉ bs) : BldP w' b A cap s rs :=
  ⟨h.blk.imp (fun x => x.tr hc h1) (fun x => x.tr hc h1), h.own.tr hc h2, h.nil⟩
theorem BldP.tr0 (h : BldP w b A cap s rs) (hc : Chg [] w w') : BldP w' b A cap s rs := h.tr hc (by simp) (by simp)
theorem BldP.new (h : Blk w b (.pointer none :: .slice none 0 0 :: rs) 98) : BldP w b none 0 [] rs :=
  ⟨.inl h, ⟨by simp [Lib.byteCells], .inl ⟨rfl, rfl⟩⟩, fun _ => rfl⟩
theorem BldP.fresh (h : BldP w b A cap s rs) {k : Nat} (hk : w.heap.size ≤ k) : k ∉ ob A := fun hx => by have := h.own.lt k hx; omega
end

theorem copyP_fresh {b : Nat} {v : Value}  {w : World} (hb : Blk w b [.pointer none, v] 98) : CallR Tryz.prog 69 #[.pointer (some ⟨b, 0, none⟩)] w fun r w' => r = .tuple ⟨[]⟩ ∧ Blk w' b [.pointer (some ⟨b, 0, none⟩), v] 98 ∧ Chg [b] w w' := by
 refine callR_of_wp (args := [_]) Tryz.func69 rfl (Nat.le_of_ble_eq_true rfl) ?_
 have HC : Chg [b] w w := .refl _
 refine sr rfl <| mP rfl <| nc rfl <| fa T.fld98_0 rfl <| Wp rfl <| st_load1 (v := .pointer _) T.one95 rfl (hb.cell rfl) <| Wp rfl <| st_peqln T.u95 rfl rfl <| en <| x_cond rfl (fun h0 => ?_) (fun h0 => ?_)
 ·try simp only [nm, ne_eq] at h0
  refine x_region rfl <| mP rfl <| mP rfl <| Wp rfl <| st_toUnsafe T.u95 T.u131 T.nz98 hb (Nat.le_of_ble_eq_true rfl) rfl <| Wp rfl <| st_callV rfl rfl rfl (T.noesc _ _) <| Wp rfl <| st_fromUnsafe T.u131 T.u95 T.isSome98 hb T.lies98_98 rfl <| nc rfl <| fa T.fld98_0 rfl <| Wp rfl <| st_st (v := .pointer _) T.size95 rfl rfl rfl hb ?_
  intro w1 c2 hb3; simp only [setVs, setV] at hb3
  clear hb
  replace HC := HC.trans c2 q4
  refine wops_nil <| ret_none_n rfl ?_
  exact ⟨rfl, hb3, HC⟩
 ·try simp only [nm, ne_eq] at h0
  simp at h0

theorem copyP_used {b : Nat} {v : Value}  {w : World} (hb : Blk w b [.pointer (some ⟨b, 0, none⟩), v] 98) : CallR Tryz.prog 69 #[.pointer (some ⟨b, 0, none⟩)] w fun r w' => r = .tuple ⟨[]⟩ ∧ Blk w' b [.pointer (some ⟨b, 0, none⟩), v] 98 ∧ Chg [b] w w' := by
 refine callR_of_wp (args := [_]) Tryz.func69 rfl (Nat.le_of_ble_eq_true rfl) ?_
 have HC : Chg [b] w w := .refl _
 refine sr rfl <| mP rfl <| nc rfl <| fa T.fld98_0 rfl <| Wp rfl <| st_load1 (v := .pointer _) T.one95 rfl (hb.cell rfl) <| Wp rfl <| st_peqln T.u95 rfl rfl <| en <| x_cond rfl (fun h0 => ?_) (fun h0 => ?_)
 ·try simp only [nm, ne_eq] at h0
  simp at h0
 ·try simp only [nm, ne_eq] at h0
  refine sr rfl <| mP rfl <| nc rfl <| fa T.fld98_0 rfl <| Wp rfl <| st_load1 (v := .pointer _) T.one95 rfl (hb.cell rfl) <| mP rfl <| Wp rfl <| st_pneq_same T.u95 T.isSome98 rfl rfl <| en <| x_cond (t := false) rfl (fun h1 => ?_) (fun h1 => ?_)
  · exact absurd h1 (by decide)
  refine x_skip <| ret_none_n rfl ?_
  exact ⟨rfl, hb, HC⟩

theorem copyCheckP_spec {b : Nat} {A : Option Addr} {cap : Nat} {s : Bytes}  {w : World} (h : BldP w b A cap s []) : CallR Tryz.prog 69 #[.pointer (some ⟨b, 0, none⟩)] w fun r w' => r = .tuple ⟨[]⟩ ∧ Blk w' b [.pointer (some ⟨b, 0, none⟩), .slice A s.length cap] 98 ∧ Chg [b] w w' := by
  rcases h.blk with hb | hb
  · exact copyP_fresh hb
  · exact copyP_used hb

theorem WriteStringP_spec {b : Nat} {A : Option Addr} {cap : Nat} {s : Bytes}  {w : World} (s2 : Bytes) (h : BldP w b A cap s []) (hl : s.length + s2.length ≤ 140737488355328) : CallR Tryz.prog 53 #[.pointer (some ⟨b, 0, none⟩), S s2] w fun v w' => v = .tuple ⟨[.int .i64 s2.length, .nilIface]⟩ ∧ ∃ A' cap', BldP w' b A' cap' (s ++ s2) [] ∧ Chg (b :: ob A) w w' ∧ ∀ g, g ∈ ob A' → g ∈ ob A ∨ w.heap.size ≤ g := by
 have ho := h.own
 refine callR_of_wp (args := [_, _]) Tryz.func53 rfl (Nat.le_of_ble_eq_true rfl) ?_
 have HC : Chg (b :: ob A) w w := .refl _
 refine sr rfl <| aI rfl <| av (v := .nilIface) rfl <| en <| sr rfl <| mP rfl <| Wp rfl <| st_call (ags := [_]) rfl rfl T.ent69 rfl (copyCheckP_spec h) ?_
 rintro _ w1 ⟨rfl, hb, c2⟩
 have hsz0 := c2.size
 replace HC := HC.trans c2 q4
 replace ho := ho.tr c2 (fun k hk hx => by simp only [List.mem_singleton] at hx; subst hx; exact h.ne hk)
 refine en <| sr rfl <| mP rfl <| mP rfl <| nc rfl <| fa T.fld98_1 rfl <| lL T.one96 rfl (hb.cell rfl) <| mS rfl <| Wp rfl <| st_appendStr T.byte96 rfl rfl ho h.nil hl ?_
 intro A3 cap4 w5 ho6 c7 hg8 hn9
 replace hb := hb.tr c7 (fun hx => h.ne hx)
 replace HC := HC.trans c7 (fun k hk => .inl (by simp [hk]))
 have hne2 := ho6.ne hb (by decide)
 refine nc rfl <| fa T.fld98_1 rfl <| Wp rfl <| st_st (v := .slice _ _ _) T.size96 rfl rfl rfl hb ?_
 intro w10 c11 hb12; simp only [setVs, setV] at hb12
 clear hb
 replace HC := HC.trans c11 q4
 replace ho6 := ho6.tr c11 (fun k hk hx => by simp only [List.mem_singleton] at hx; subst hx; exact hne2 hk)
 refine en <| sr rfl <| mS rfl <| Wp rfl <| st_slen (ct := #[9]) T.u9 rfl <| aI rfl <| av (v := .nilIface) rfl <| en <| x_ret <| ret_tmp2 (v := .int _ _) (v2 := .nilIface) rfl rfl rfl ?_
 exact ⟨rfl, A3, cap4, ⟨.inr hb12, ho6, hn9⟩, HC, fun g hg => (hg8 g hg).imp id (fun h => by omega)⟩

theorem StringP00 {b gb cap : Nat} {s : Bytes}  {w : World} (hb : Blk w b [.pointer none, .slice none 0 0] 98) : CallR Tryz.prog 56 #[.pointer (some ⟨b, 0, none⟩)] w fun v w' => v = S [] ∧ Blk w' b [.pointer none, .slice none 0 0] 98 ∧ Chg [] w w' := by
 refine callR_of_wp (args := [_]) Tryz.func56 rfl (Nat.le_of_ble_eq_true rfl) ?_
 have HC : Chg [] w w := .refl _
 refine sr rfl <| aS rfl <| en <| x_seq <| x_draw [(0, 0), (1, 0), (2, 0), (3, 0), (4, 0), (5, 0), (6, 0), (7, 0), (8, 0), (9, 0), (10, 1), (11, 0)] T.mixed rfl rfl rfl (fun W => W.heap[b]? = w.heap[b]? ∧ True) ⟨rfl, trivial⟩ ?_
 have o3 := hb
 have c2 := Chg.drew w
 generalize World.drew w = w1 at c2 ⊢
 replace HC := HC.then c2
 replace hb := hb.tr0 c2
 refine sq_q rfl (fun W hT => r_move (v := .pointer _) rfl) <| sq_q rfl (fun W hT => r_nilCheck rfl) <| sq_q rfl (fun W hT => r_fieldAddr T.fld98_1 rfl) <| sq_q rfl (fun W hT => r_load1 (v := .slice _ _ _) T.one96 rfl (Blk.cell (show Blk W b _ _ from hT.1.trans o3) rfl)) <| sq_q rfl (fun W hT => r_sliceData_nil rfl) <| sq_q rfl (fun W hT => r_move (v := .pointer _) rfl) <| sq_q rfl (fun W hT => r_nilCheck rfl) <| sq_q rfl (fun W hT => r_fieldAddr T.fld98_1 rfl) <| sq_q rfl (fun W hT => r_load1 (v := .slice _ _ _) T.one96 rfl (Blk.cell (show Blk W b _ _ from hT.1.trans o3) rfl)) <| sq_q rfl (fun W hT => r_len (ct := #[96]) (by rw [show ((#[96] : Array TypeId)[0]?).bind Tryz.prog.underlying = some (.slice 5) from T.u96]; rfl) rfl) <| sq_run1 rfl (r_unsafeString_nil rfl rfl) _ (fun _ h => h) ?_ ?_
 · exact ⟨(Eq.trans hb o3.symm), trivial⟩
 refine sq_q rfl (fun W hT => r_assign (v := S _) rfl) ?_
 clear o3
 refine sq_nil <| then_n <| x_ret <| ret_tmp (v := S _) rfl rfl ?_
 exact ⟨rfl, hb, HC⟩

theorem StringP01 {b gb cap : Nat} {s : Bytes}  {w : World} (hb : Blk w b [.pointer none, .slice (some ⟨gb, 0, none⟩) s.length cap] 98) (ho : OwnB 5 w (some ⟨gb, 0, none⟩) cap s) (hs : s ≠ []) (hcap : cap ≠ 0) (hne : b ≠ gb) : CallR Tryz.prog 56 #[.pointer (some ⟨b, 0, none⟩)] w fun v w' => v = S s ∧ Blk w' b [.pointer none, .slice (some ⟨gb, 0, none⟩) s.length cap] 98 ∧ OwnB 5 w' (some ⟨gb, 0, none⟩) cap s ∧ Chg [gb] w w' := by
 refine callR_of_wp (args := [_]) Tryz.func56 rfl (Nat.le_of_ble_eq_true rfl) ?_
 have HC : Chg [gb] w w := .refl _
 refine sr rfl <| aS rfl <| en <| x_seq <| x_draw [(0, 0), (1, 0), (2, 0), (3, 0), (4, 0), (5, 0), (6, 0), (7, 0), (8, 0), (9, 0), (10, 1), (11, 0)] T.mixed rfl rfl rfl (fun W => W.heap[b]? = w.heap[b]? ∧ True) ⟨rfl, trivial⟩ ?_
 have o3 := hb
 have c2 := Chg.drew w
 generalize World.drew w = w1 at c2 ⊢
 replace HC := HC.then c2
 replace hb := hb.tr0 c2
 replace ho := ho.tr c2 (by simp)
 refine sq_q rfl (fun W hT => r_move (v := .pointer _) rfl) <| sq_q rfl (fun W hT => r_nilCheck rfl) <| sq_q rfl (fun W hT => r_fieldAddr T.fld98_1 rfl) <| sq_q rfl (fun W hT => r_load1 (v := .slice _ _ _) T.one96 rfl (Blk.cell (show Blk W b _ _ from hT.1.trans o3) rfl)) <| sq_q rfl (fun W hT => r_sliceData rfl hcap) <| sq_q rfl (fun W hT => r_move (v := .pointer _) rfl) <| sq_q rfl (fun W hT => r_nilCheck rfl) <| sq_q rfl (fun W hT => r_fieldAddr T.fld98_1 rfl) <| sq_q rfl (fun W hT => r_load1 (v := .slice _ _ _) T.one96 rfl (Blk.cell (show Blk W b _ _ from hT.1.trans o3) rfl)) <| sq_q rfl (fun W hT => r_len (ct := #[96]) (by rw [show ((#[96] : Array TypeId)[0]?).bind Tryz.prog.underlying = some (.slice 5) from T.u96]; rfl) rfl) <| sq_us rfl (r_unsafeString T.u118 T.cells5 ho hs rfl rfl) ?_
 rintro w4 ⟨ho6, c5⟩
 have hbx := hb.tr1 c5 hne
 refine ⟨_, fun _ h => h, ⟨(Eq.trans hbx o3.symm), trivial⟩, ?_⟩
 replace HC := HC.trans c5 (fun k hk => .inl hk)
 refine sq_q rfl (fun W hT => r_assign (v := S _) rfl) ?_
 clear o3
 refine sq_nil <| then_n <| x_ret <| ret_tmp (v := S _) rfl rfl ?_
 exact ⟨rfl, hbx, ho6, HC⟩

theorem StringP10 {b gb cap : Nat} {s : Bytes}  {w : World} (hb : Blk w b [.pointer (some ⟨b, 0, none⟩), .slice none 0 0] 98) : CallR Tryz.prog 56 #[.pointer (some ⟨b, 0, none⟩)] w fun v w' => v = S [] ∧ Blk w' b [.pointer (some ⟨b, 0, none⟩), .slice none 0 0] 98 ∧ Chg [] w w' := by
 refine callR_of_wp (args := [_]) Tryz.func56 rfl (Nat.le_of_ble_eq_true rfl) ?_
 have HC : Chg [] w w := .refl _
 refine sr rfl <| aS rfl <| en <| x_seq <| x_draw [(0, 0), (1, 0), (2, 0), (3, 0), (4, 0), (5, 0), (6, 0), (7, 0), (8, 0), (9, 0), (10, 1), (11, 0)] T.mixed rfl rfl rfl (fun W => W.heap[b]? = w.heap[b]? ∧ True) ⟨rfl, trivial⟩ ?_
 have o3 := hb
 have c2 := Chg.drew w
 generalize World.drew w = w1 at c2 ⊢
 replace HC := HC.then c2
 replace hb := hb.tr0 c2
 refine sq_q rfl (fun W hT => r_move (v := .pointer _) rfl) <| sq_q rfl (fun W hT => r_nilCheck rfl) <| sq_q rfl (fun W hT => r_fieldAddr T.fld98_1 rfl) <| sq_q rfl (fun W hT => r_load1 (v := .slice _ _ _) T.one96 rfl (Blk.cell (show Blk W b _ _ from hT.1.trans o3) rfl)) <| sq_q rfl (fun W hT => r_sliceData_nil rfl) <| sq_q rfl (fun W hT => r_move (v := .pointer _) rfl) <| sq_q rfl (fun W hT => r_nilCheck rfl) <| sq_q rfl (fun W hT => r_fieldAddr T.fld98_1 rfl) <| sq_q rfl (fun W hT => r_load1 (v := .slice _ _ _) T.one96 rfl (Blk.cell (show Blk W b _ _ from hT.1.trans o3) rfl)) <| sq_q rfl (fun W hT => r_len (ct := #[96]) (by rw [show ((#[96] : Array TypeId)[0]?).bind Tryz.prog.underlying = some (.slice 5) from T.u96]; rfl) rfl) <| sq_run1 rfl (r_unsafeString_nil rfl rfl) _ (fun _ h => h) ?_ ?_
 · exact ⟨(Eq.trans hb o3.symm), trivial⟩
 refine sq_q rfl (fun W hT => r_assign (v := S _) rfl) ?_
 clear o3
 refine sq_nil <| then_n <| x_ret <| ret_tmp (v := S _) rfl rfl ?_
 exact ⟨rfl, hb, HC⟩

theorem StringP11 {b gb cap : Nat} {s : Bytes}  {w : World} (hb : Blk w b [.pointer (some ⟨b, 0, none⟩), .slice (some ⟨gb, 0, none⟩) s.length cap] 98) (ho : OwnB 5 w (some ⟨gb, 0, none⟩) cap s) (hs : s ≠ []) (hcap : cap ≠ 0) (hne : b ≠ gb) : CallR Tryz.prog 56 #[.pointer (some ⟨b, 0, none⟩)] w fun v w' => v = S s ∧ Blk w' b [.pointer (some ⟨b, 0, none⟩), .slice (some ⟨gb, 0, none⟩) s.length cap] 98 ∧ OwnB 5 w' (some ⟨gb, 0, none⟩) cap s ∧ Chg [gb] w w' := by
 refine callR_of_wp (args := [_]) Tryz.func56 rfl (Nat.le_of_ble_eq_true rfl) ?_
 have HC : Chg [gb] w w := .refl _
 refine sr rfl <| aS rfl <| en <| x_seq <| x_draw [(0, 0), (1, 0), (2, 0), (3, 0), (4, 0), (5, 0), (6, 0), (7, 0), (8, 0), (9, 0), (10, 1), (11, 0)] T.mixed rfl rfl rfl (fun W => W.heap[b]? = w.heap[b]? ∧ True) ⟨rfl, trivial⟩ ?_
 have o3 := hb
 have c2 := Chg.drew w
 generalize World.drew w = w1 at c2 ⊢
 replace HC := HC.then c2
 replace hb := hb.tr0 c2
 replace ho := ho.tr c2 (by simp)
 refine sq_q rfl (fun W hT => r_move (v := .pointer _) rfl) <| sq_q rfl (fun W hT => r_nilCheck rfl) <| sq_q rfl (fun W hT => r_fieldAddr T.fld98_1 rfl) <| sq_q rfl (fun W hT => r_load1 (v := .slice _ _ _) T.one96 rfl (Blk.cell (show Blk W b _ _ from hT.1.trans o3) rfl)) <| sq_q rfl (fun W hT => r_sliceData rfl hcap) <| sq_q rfl (fun W hT => r_move (v := .pointer _) rfl) <| sq_q rfl (fun W hT => r_nilCheck rfl) <| sq_q rfl (fun W hT => r_fieldAddr T.fld98_1 rfl) <| sq_q rfl (fun W hT => r_load1 (v := .slice _ _ _) T.one96 rfl (Blk.cell (show Blk W b _ _ from hT.1.trans o3) rfl)) <| sq_q rfl (fun W hT => r_len (ct := #[96]) (by rw [show ((#[96] : Array TypeId)[0]?).bind Tryz.prog.underlying = some (.slice 5) from T.u96]; rfl) rfl) <| sq_us rfl (r_unsafeString T.u118 T.cells5 ho hs rfl rfl) ?_
 rintro w4 ⟨ho6, c5⟩
 have hbx := hb.tr1 c5 hne
 refine ⟨_, fun _ h => h, ⟨(Eq.trans hbx o3.symm), trivial⟩, ?_⟩
 replace HC := HC.trans c5 (fun k hk => .inl hk)
 refine sq_q rfl (fun W hT => r_assign (v := S _) rfl) ?_
 clear o3
 refine sq_nil <| then_n <| x_ret <| ret_tmp (v := S _) rfl rfl ?_
 exact ⟨rfl, hbx, ho6, HC⟩

theorem StringP_spec {b : Nat} {A : Option Addr} {cap : Nat} {s : Bytes}  {w : World} (h : BldP w b A cap s []) : CallR Tryz.prog 56 #[.pointer (some ⟨b, 0, none⟩)] w fun v w' => v = S s ∧ BldP w' b A cap s [] ∧ Chg (ob A) w w' := by
  by_cases hs : s = []
  · subst hs
    have hA := h.nil rfl
    subst hA
    have h0 : cap = 0 := by rcases h.own.form with ⟨_, h0, _⟩ | ⟨g, cur, fz, h0, _⟩; exact h0; cases h0
    subst h0
    rcases h.blk with hb | hb
    · exact CallR.imp (StringP00 (gb := 0) (cap := 0) (s := []) hb) fun v w' ⟨h1, h2, h3⟩ => ⟨h1, ⟨.inl h2, h.own.tr h3 (by simp [ob]), fun _ => rfl⟩, h3⟩
    · exact CallR.imp (StringP10 (gb := 0) (cap := 0) (s := []) hb) fun v w' ⟨h1, h2, h3⟩ => ⟨h1, ⟨.inr h2, h.own.tr h3 (by simp [ob]), fun _ => rfl⟩, h3⟩
  · rcases h.own.form with ⟨_, _, h0⟩ | ⟨g, cur, fz, rfl, hg, hle, _⟩
    · exact absurd h0 hs
    · have hpos := List.length_pos_iff.2 hs
      have hne : b ≠ g := fun e => h.ne (by simp [ob, e])
      rcases h.blk with hb | hb
      · exact CallR.imp (StringP01 hb h.own hs (by omega) hne) fun v w' ⟨h1, h2, h3, h4⟩ => ⟨h1, ⟨.inl h2, h3, fun hz => absurd hz hs⟩, h4⟩
      · exact CallR.imp (StringP11 hb h.own hs (by omega) hne) fun v w' ⟨h1, h2, h3, h4⟩ => ⟨h1, ⟨.inr h2, h3, fun hz => absurd hz hs⟩, h4⟩

theorem TrimPrefix_spec (s p : Bytes) (w : World) : CallR Tryz.prog 55 #[S s, S p] w fun v w' => v = S (Lib.trimPrefix s p) ∧ Chg [] w w' :=
  CallR.of (Tryz.strings_TrimPrefix ⟨⟨s⟩⟩ ⟨⟨p⟩⟩ w) fun e w' ⟨h1, h2⟩ => ⟨_, h1, rfl, .refl' h2⟩
theorem IndexFunc_spec {k : FuncId} {caps : Array Value} {q : Bytes → Bool} {w : World} {l : List Bytes} {Al : Option Addr} {capl : Nat} {D : Nat → Prop} (hl : Sl sE w D Al l) (hlen : l.length ≤ 9223372036854775807) (hent : ∀ args (w : World), (callFunc k args).run Tryz.prog w = .ok (.enter k args) w) (hp : ∀ c W, Chg [] w W → CallR Tryz.prog k ⟨S c :: caps.toList⟩ W fun v W' => v = .bool (q c) ∧ Chg [] W W') :
    CallR Tryz.prog 49 #[.slice Al l.length capl, .func (.func k) #[] caps] w fun v w' => v = .int .i64 (findN q 0 l) ∧ Chg [] w w' := by
 refine callR_of_wp (args := [_, _]) Tryz.func49 rfl (Nat.le_of_ble_eq_true rfl) ?_
 have HC : Chg [] w w := .refl _
 refine sr rfl <| aI rfl <| en <| x_seq <| sr rfl <| mL rfl <| Wp rfl <| st_len (ct := #[23]) (by rw [show ((#[23] : Array TypeId)[0]?).bind Tryz.prog.underlying = some (.slice 9) from T.u23]; rfl) rfl <| mI rfl <| en <| x_block <| x_loop (ι := Nat) [4, 5, 8, 9, 10, 11, 12, 13, 14, 15, 16, 17, 18] (fun i => [(8, .int .i64 (i : Int))]) (fun i W => (i ≤ l.length ∧ findN q 0 l = findN q i (l.drop i)) ∧ (Chg [] w W) ∧ (Sl sE W D Al l)) (fun i => l.length - i) 0 ?_ ?_ ?_
 · exact ⟨rfl, trivial⟩
 ·refine ⟨?_, HC, hl⟩
  exact ⟨Nat.zero_le _, by simp⟩
 intro i G2 w1 ⟨⟨hi, hr⟩, HC, hl⟩
 change wp _ _ _ _ _ (upds (over _ _ G2) [(8, .int .i64 (i : Int))]) _ _
 refine sr rfl <| Wp rfl <| st_lss rfl rfl <| en <| x_seq <| x_cond rfl (fun h0 => ?_) (fun h0 => ?_)
 ·try simp only [nm, ne_eq] at h0
  refine x_skip <| then_n <| x_seq <| x_block <| sr rfl <| mI rfl <| aI rfl <| en <| sr rfl <| mv (v := .func _ _ _) rfl <| mL rfl <| mI rfl ?_
  obtain ⟨x3, hx4⟩ : ∃ zz, l[i]? = some zz := ⟨_, List.getElem?_eq_getElem (by omega)⟩
  obtain ⟨lb9, _, vs8, hA5, hR7, hC6⟩ := hl.at hx4
  obtain rfl : vs8 = [S x3] := hR7
  refine Wp rfl <| st_indexAddr T.u23 T.size9 (congrArg (fun z => Value.slice z _ _) hA5) rfl (by omega) (by omega) <| lS T.one9 rfl (hC6.at (j := 0) rfl) <| Wp rfl <| st_call (f := k) (cap := caps) (ags := S _ :: caps.toList) rfl rfl hent rfl (hp _ _ HC) ?_
  rintro _ w10 ⟨rfl, c11⟩
  replace HC := HC.then c11
  replace hl := hl.tr0 c11
  refine en <| x_cond rfl (fun h1 => ?_) (fun h1 => ?_)
  ·try simp only [nm, ne_eq] at h1
   refine sr rfl <| mI rfl <| aI rfl <| en <| x_ret <| block_r <| then_r <| then_r <| block_r <| then_r <| ret_tmp (v := .int _ _) rfl rfl <| ⟨?_, HC⟩
   rw [hr, findN_off hx4 h1]
  ·try simp only [nm, ne_eq] at h1
   refine x_skip <| block_n <| then_n <| x_region rfl <| Wp rfl <| st_addn rfl rfl (by constructor <;> omega) <| mI rfl <| en <| ⟨i + 1, ?_, ?_, rfl, ⟨rfl, trivial⟩, ?_⟩
   ·refine ⟨?_, HC, hl⟩
    exact ⟨by omega, by rw [hr, findN_on hx4 h1]⟩
   ·show l.length - (i + 1) < l.length - i; omega
   exact q9
 ·try simp only [nm, ne_eq] at h0
  refine x_exit <| then_x <| then_x <| block_x <| then_n <| sr rfl <| aI rfl <| en <| x_ret <| ret_tmp (v := .int _ _) rfl rfl <| ⟨?_, HC⟩
  rw [hr, findN_end (by omega)]



end Go.Proofs.YtghjmiggobpmoaaGreatDoor.K
set_option linter.unusedVariables false
set_option linter.unusedSimpArgs false
set_option autoImplicit false
set_option maxRecDepth 20000
namespace Go.Proofs.YtghjmiggobpmoaaGreatDoor.K
open Go Go.Proofs Go.RowKit

end Go.Proofs.YtghjmiggobpmoaaGreatDoor.K
set_option linter.unusedVariables false
set_option linter.unusedSimpArgs false
set_option autoImplicit false
set_option maxRecDepth 20000
namespace Go.Proofs.YtghjmiggobpmoaaGreatDoor.K
open Go Go.Proofs Go.RowKit

theorem u8_eq {c : UInt8} {k : Int} {d : UInt8} (h : (c.toNat : Int) = k) (hk : (d.toNat : Int) = k) : c = d := UInt8.toNat_inj.1 (by omega)
theorem byte_dropk (s : Bytes) (j k : Nat) : byte (s.drop j) k = byte s (j + k) := by simp [byte, List.getD_eq_getElem?_getD]



end Go.Proofs.YtghjmiggobpmoaaGreatDoor.K
set_option linter.unusedVariables false
set_option linter.unusedSimpArgs false
set_option autoImplicit false
set_option maxRecDepth 20000
namespace Go.Proofs.YtghjmiggobpmoaaGreatDoor.K
open Go Go.Proofs Go.RowKit

theorem skip_cases (w : Bytes) (hw : w ≠ []) : (∃ n, skipL 64 w = .ok n ∧ 1 ≤ n ∧ n ≤ w.length) ∨ ∃ e, skipL 64 w = .error e ∧ e ≠ 0 := by
  cases h : skipL 64 w with
  | ok n => exact .inl ⟨n, rfl, skipL_le _ _ _ hw h⟩
  | error e => exact .inr ⟨e, rfl, skipL_err _ _ _ h⟩
theorem skipA_0 (w : Bytes) : skipA 64 w 0 = skipL 64 w := by
  rw [skipA, List.drop_zero]; cases skipL 64 w <;> rfl
theorem Skip_ok {n : Nat} (s : Bytes) (w : World) (hs : s.length < 4294967281) (h0 : s ≠ []) (h : skipL 64 s = .ok n) : CallR Tryz.prog 51 #[S s, .int .i64 0] w fun v w' => v = .tuple ⟨[.int .i64 (n : Int), .int .i64 0]⟩ ∧ Chg [] w w' :=
  CallR.imp (Skip_spec s 0 w hs) fun v w' ⟨h1, h2⟩ => ⟨by rw [h1, show skipV s 0 = ((n : Int), 0) from skipV_ok (j := 0) (List.length_pos_iff.2 h0) (by rw [skipA_0]; exact h)], h2⟩
theorem Skip_err {e : Nat} (s : Bytes) (w : World) (hs : s.length < 4294967281) (h0 : s ≠ []) (h : skipL 64 s = .error e) : CallR Tryz.prog 51 #[S s, .int .i64 0] w fun v w' => v = .tuple ⟨[.int .i64 0, .int .i64 (e : Int)]⟩ ∧ Chg [] w w' :=
  CallR.imp (Skip_spec s 0 w hs) fun v w' ⟨h1, h2⟩ => ⟨by rw [h1, show skipV s 0 = (0, (e : Int)) from skipV_err (j := 0) (List.length_pos_iff.2 h0) (by rw [skipA_0]; exact h)], h2⟩
theorem two_le {w : Bytes} {n : Nat} (hw : w ≠ []) (h : skipL 64 w = .ok n) (hc : byte w 0 = 39 ∨ byte w 0 = 34 ∨ byte w 0 = 96) : 2 ≤ n := by
  have h1 : skipA 64 w 0 = .ok n := by rw [skipA_0, h]
  have hl := List.length_pos_iff.2 hw
  rcases hc with h2 | h2 | h2
  · rw [skipA_quote (f := 63) hl h2] at h1
    cases h3 : runA 39 false w (0 + 1) with
    | none => rw [h3] at h1; cases h1
    | some k => rw [h3] at h1; cases h1; have := runA_le h3; omega
  · rw [skipA_double (f := 63) hl h2] at h1
    obtain ⟨i, h2, rfl⟩ := map_ok h1
    have := untilN_le (fun s k hs hk => skipL_le _ _ _ hs hk) _ _ _ _ h2
    omega
  · rw [skipA_tick (f := 63) hl h2] at h1
    cases h3 : runA 96 true w (0 + 1) with
    | none => rw [h3] at h1; cases h1
    | some k => rw [h3] at h1; cases h1; have := runA_le h3; omega
theorem in3a {c : UInt8} : 0 ≤ idx [39, 34, 92] c ↔ c = 39 ∨ c = 34 ∨ c = 92 := by rw [idx_mem]; simp


end Go.Proofs.YtghjmiggobpmoaaGreatDoor.K
set_option linter.unusedVariables false
set_option linter.unusedSimpArgs false
set_option autoImplicit false
set_option maxRecDepth 20000
namespace Go.Proofs.YtghjmiggobpmoaaGreatDoor.K
open Go Go.RowKit

structure Tok where
  kind : Int
  text : Bytes
  at_ : Int
  here : Bytes
  raw : Bool
deriving DecidableEq
def tokC5 (t : Tok) : List Value := [.int .i64 t.kind, S t.text, .int .i64 t.at_, S t.here, .bool t.raw]
def tok5E : Enc Tok := .flat 5 tokC5 (by omega) (fun _ => rfl) (fun _ u hu => by simp [tokC5] at hu; rcases hu with rfl | rfl | rfl | rfl | rfl <;> rfl)
def innerV : Bytes → Bytes
  | [] => []
  | [c] => [c]
  | c :: d :: t => if c = 92 then (if d = 10 then innerV t else if d = 36 ∨ d = 96 ∨ d = 34 ∨ d = 92 then d :: innerV t else c :: innerV (d :: t)) else c :: innerV (d :: t)
def quoB (c : UInt8) : Bool := c == 39 || c == 34 || c == 92
def trimP (s p : Bytes) : Bytes := if Lib.hasPrefix s p then s.drop p.length else s
def partW (w : Bytes) (n : Nat) : Bytes :=
  if byte w 0 = 39 then (w.take (n - 1)).drop 1
  else if byte w 0 = 34 then innerV ((w.take (n - 1)).drop 1)
  else if byte w 0 = 92 then trimP ((w.take n).drop 1) [10]
  else w.take n
def plainF : Nat → Bytes → Bytes × Bool
  | 0, _ => ([], false)
  | k + 1, w => if w = [] then ([], false) else
    match skipL 64 w with
    | .error _ => (w, quoB (byte w 0))
    | .ok n => (partW w n ++ (plainF k (w.drop n)).1, quoB (byte w 0) || (plainF k (w.drop n)).2)
def plainV (w : Bytes) : Bytes × Bool := plainF w.length w
def metas : Bytes := [32, 9, 10, 59, 38, 124, 60, 62, 40, 41]
def metaB (c : UInt8) : Bool := decide (0 ≤ idx metas c)
def opsT : List Bytes := [[60, 60, 45], [38, 38], [124, 124], [59, 59], [60, 60], [62, 62], [60, 38], [62, 38], [60, 62], [62, 124], [59], [38], [124], [60], [62], [40], [41]]
def wordL : Nat → Bytes → Nat × Nat
  | 0, _ => (0, 0)
  | _ + 1, [] => (0, 0)
  | k + 1, c :: t => if metaB c then (0, 0) else
    match skipL 64 (c :: t) with
    | .error e => (0, e)
    | .ok n => ((wordL k ((c :: t).drop n)).1 + n, (wordL k ((c :: t).drop n)).2)
def wordV (r : Bytes) : Nat × Nat := wordL r.length r
def preO (s : Bytes) (o : Bytes) : Bool := Lib.hasPrefix s o
def opT (r : Bytes) : Bytes := opsT.getD (findN (preO r) 0 opsT).toNat []
def nextT (r : Bytes) (i : Int) : Tok × Nat × Int :=
  if r = [] then (⟨0, [], i, [], false⟩, 0, 0)
  else if byte r 0 = 10 then (⟨3, [10], i, [], false⟩, 1, 0)
  else if metaB (byte r 0) then (⟨2, opT r, i, [], false⟩, (opT r).length, 0)
  else if (wordV r).2 ≠ 0 then (⟨0, [], i + (wordV r).1, [], false⟩, 0, (wordV r).2)
  else (⟨if (wordV r).1 = 1 ∧ digB (byte r 0) = true ∧ (byte r 1 = 60 ∨ byte r 1 = 62) ∧ 1 < r.length then 4 else 1, r.take (wordV r).1, i, [], false⟩, (wordV r).1, 0)
def blankL : Nat → Bytes → Nat
  | 0, _ => 0
  | _ + 1, [] => 0
  | k + 1, c :: t => if c = 32 ∨ c = 9 then blankL k t + 1
    else if Lib.hasPrefix (c :: t) [92, 10] then blankL k (t.drop 1) + 2
    else if c = 35 then
      (if idx (c :: t) 10 < 0 then t.length + 1 else blankL k ((c :: t).drop (idx (c :: t) 10).toNat) + (idx (c :: t) 10).toNat)
    else 0
def blankV (r : Bytes) : Nat := blankL r.length r
def trimT : Bytes → Bytes
  | [] => []
  | c :: t => if c = 9 then trimT t else c :: t
def bodyL (fin : Bytes) (strip : Bool) : Nat → Bytes → Bytes × Nat
  | 0, _ => ([], 0)
  | k + 1, r => if r = [] then ([], 0) else
    let line := (Lib.cut r [10]).1
    let more := (Lib.cut r [10]).2.2
    let l2 := if strip then trimT line else line
    let m := line.length + (if more then 1 else 0)
    if l2 = fin then ([], m)
    else ((if more then l2 ++ [10] else l2) ++ (bodyL fin strip k (r.drop m)).1, (bodyL fin strip k (r.drop m)).2 + m)
def bodyV (fin : Bytes) (strip : Bool) (r : Bytes) : Bytes × Nat := bodyL fin strip r.length r
def linesV : List Tok → List (Nat × Bool) → Bytes → List Tok × Nat
  | out, [], _ => (out, 0)
  | out, (j, st) :: ws, r =>
    let t := out.getD j ⟨0, [], 0, [], false⟩
    let b := bodyV (plainV t.text).1 st r
    let x := linesV (out.set j { t with here := t.here ++ b.1, raw := (plainV t.text).2 }) ws (r.drop b.2)
    (x.1, x.2 + b.2)
def hereV (out : List Tok) (t : Tok) : Option Bool :=
  match out.getLast? with
  | none => none
  | some z => if t.kind = 1 ∧ z.kind = 2 ∧ Lib.hasPrefix z.text [60, 60] = true then some (decide (z.text = [60, 60, 45])) else none
def pushW (out : List Tok) (ws : List (Nat × Bool)) (t : Tok) : List (Nat × Bool) := match hereV out t with
  | some b => ws ++ [(out.length, b)]
  | none => ws
end Go.Proofs.YtghjmiggobpmoaaGreatDoor.K
