import Derived.Test.YtncnalboiljgiaaGreatKitL
import Derived.Test.YtncnalboiljgiaaGreatKitSq
import Derived.RecoverIn
import Derived.WideLaws
import Derived.Test.YtncnalboiljgiaaGreatKitE
import Derived.Lib.AppendZerosOnto
import Derived.Lib.Overlaps
set_option linter.unusedVariables false
set_option linter.unusedSimpArgs false
set_option autoImplicit false
namespace Go.Proofs.YtncnalboiljgiaaGreat.K
open Go Go.RowKit
variable {P : Program} {r : Option Nat} {n : Nat} {O : Array Oper} {Q : Post} {E : Env} {ds : List Deferred} {w : World} {l : List Oper}
def pn (v : Value) : List PanicEntry := [{ v := v, recovered := false }]
def endP (Φ Ψ : Value → World → Prop) (e : Ending) (w : World) : Prop := (∃ v, e = .returned v ∧ Φ v w) ∨ ∃ v, e = .panicked (pn v) ∧ Ψ v w
def CallP (P : Program) (f : FuncId) (args : Array Value) (w : World) (Φ Ψ : Value → World → Prop) : Prop := Calls P f args w (endP Φ Ψ)
theorem CallP.mono {f : FuncId} {args : Array Value} {Φ Ψ Φ' Ψ' : Value → World → Prop} (h : CallP P f args w Φ Ψ) (h1 : ∀ v w', Φ v w' → Φ' v w') (h2 : ∀ v w', Ψ v w' → Ψ' v w') : CallP P f args w Φ' Ψ' :=
  Calls.mono h fun e w' he => he.elim (fun ⟨v, e1, q⟩ => .inl ⟨v, e1, h1 _ _ q⟩) (fun ⟨v, e1, q⟩ => .inr ⟨v, e1, h2 _ _ q⟩)
section
variable {dst : Option Nat} {ty : TypeId} {pos : String} {af : Array Edge} {g : Option (Nat × Bool)}
theorem r_makeIface {xt : TypeId} {x : Operand} {u : TypeDesc} {v : Value} (hu : P.underlying xt = some u) (hi : (match u with | .interface _ => false | _ => true) = true) (hx : ev E x = v) :
    (execOp (ev E) ⟨dst, .makeInterface xt x, ty, pos, af, g⟩).run P w = .ok (.value (.iface xt v)) w := by
  cases u <;> simp_all [execOp, Instr.makeInterface, underlying, go_sem]
theorem st_makeIface {xt : TypeId} {x : Operand} {u : TypeDesc} {v : Value} (hu : P.underlying xt = some u) (hi : (match u with | .interface _ => false | _ => true) = true) (hx : ev E x = v)
    (h : wops P r n O Q l (updo E dst (.iface xt v)) ds w) : wop P r n O Q ⟨dst, .makeInterface xt x, ty, pos, af, g⟩ l E ds w := wop_run (fun _ => by simp) (r_makeIface hu hi hx) h
theorem r_assert {x : Operand} {xt at_ t : TypeId} {v : Value} {u : TypeDesc} (hu : P.underlying at_ = some u) (hi : (match u with | .interface _ => false | _ => true) = true) (hx : ev E x = .iface t v) (ht : t = at_) :
    (execOp (ev E) ⟨dst, .typeAssert x xt at_ true, ty, pos, af, g⟩).run P w = .ok (.value (.tuple ⟨[v, .bool true]⟩)) w := by
  cases u <;> simp_all [execOp, Instr.typeAssert, underlying, go_sem]
theorem st_assert {x : Operand} {xt at_ t : TypeId} {v : Value} {u : TypeDesc} (hu : P.underlying at_ = some u) (hi : (match u with | .interface _ => false | _ => true) = true) (hx : ev E x = .iface t v) (ht : t = at_)
    (h : wops P r n O Q l (updo E dst (.tuple ⟨[v, .bool true]⟩)) ds w) : wop P r n O Q ⟨dst, .typeAssert x xt at_ true, ty, pos, af, g⟩ l E ds w := wop_run (fun _ => by simp) (r_assert hu hi hx ht) h
end
section
variable {dst : Option Nat} {ty : TypeId} {pos : String} {af : Array Edge} {g : Option (Nat × Bool)}
end
end Go.Proofs.YtncnalboiljgiaaGreat.K
namespace Go.Proofs.YtncnalboiljgiaaGreat.K
open Go Go.RowKit
variable {P : Program} {X : Value → World → Prop} {r : Option Nat} {n : Nat} {l : List Oper} {Q : Post} {ds : List Deferred}
inductive OT
  | stop
  | nil
  | br (i : Nat) (qs : List Nat) (sub next : OT)
  | bar (i : Nat) (xs qs : List Nat) (sub : OT)
def OT.heads : OT → List Nat
  | .br i _ _ next => i :: next.heads
  | .bar i _ _ _ => [i]
  | _ => []
def z0 (qs : List Nat) : List (Nat × Nat) := qs.map (·, 0)
def sameAll (P : Program) (l : List Oper) (E : Env) (T0 : World → Prop) : List Nat → Prop
  | [] => True
  | j :: xs => (∀ o, l[j]? = some o → ∃ v, (∀ w' : World, T0 w' → opR P l o E w' v) ∧ updo E o.dst v = E) ∧ sameAll P l E T0 xs
theorem same_of {E : Env} {T0 : World → Prop} {j : Nat} : ∀ {xs : List Nat}, sameAll P l E T0 xs → j ∈ xs → ∀ o, l[j]? = some o → ∃ v, (∀ w' : World, T0 w' → opR P l o E w' v) ∧ updo E o.dst v = E
  | [], _, h => by cases h
  | k :: xs, hs, h => by
    rcases List.mem_cons.1 h with rfl | h
    · exact hs.1
    · exact same_of hs.2 h
def treeQ (P : Program) (X : Value → World → Prop) (l : List Oper) (K : Env → World → Prop) : OT → (World → Prop) → Env → World → Prop
  | .stop, T, E, w => K E w
  | .nil, T, E, w => True
  | .br i qs sub next, T, E, w => seqP P X l (fun T' E' w2 => treeQ P X l K sub T' E' w2) ((i, 1) :: z0 qs) T E w ∧ treeQ P X l K next T E w
  | .bar i xs qs sub, T, E, w => ∃ T0 : World → Prop, T0 w ∧ sameAll P l E T0 xs ∧ seqP P X l (fun T' E' w2 => treeQ P X l K sub T' E' w2) ((i, 1) :: z0 qs) T0 E w
def barOK (l : List Oper) (i : Nat) (xs seen : List Nat) : Bool := match l[i]? with
  | some o => seen.all fun j => xs.contains j || (clo l seen (dps o)).contains j
  | none => false
def cover (l : List Oper) (t : OT) (seen : List Nat) : Bool := match t with
  | .stop => (List.range l.length).all fun j => seen.contains j
  | .nil => false
  | t => (List.range l.length).all fun j => seen.contains j || t.heads.contains j || (match l[j]? with | some o => (dps o).any fun d => !seen.contains d | none => true)
def treeOK (l : List Oper) : OT → List Nat → Bool
  | .br i qs sub next, seen => chainOK l ((i, 1) :: z0 qs) seen none && cover l sub (qs.reverse ++ i :: seen) && treeOK l sub (qs.reverse ++ i :: seen) && treeOK l next seen
  | .bar i xs qs sub, seen => chainOK l ((i, 1) :: z0 qs) seen none && cover l sub (qs.reverse ++ i :: seen) && treeOK l sub (qs.reverse ++ i :: seen) && barOK l i xs seen
  | _, _ => true
theorem z0_mem {qs : List Nat} {i : Nat} : i ∈ (z0 qs).map (·.1) ↔ i ∈ qs := by
  unfold z0; rw [List.map_map]; simp [Function.comp_def]
theorem br_of {K : Env → World → Prop} {T : World → Prop} {E : Env} {w : World} {i : Nat} {seen : List Nat} : ∀ {t : OT}, treeOK l t seen = true → treeQ P X l K t T E w → i ∈ t.heads → ∃ qs sub T0, chainOK l ((i, 1) :: z0 qs) seen none = true ∧ cover l sub (qs.reverse ++ i :: seen) = true ∧ treeOK l sub (qs.reverse ++ i :: seen) = true ∧
      seqP P X l (fun T' E' w2 => treeQ P X l K sub T' E' w2) ((i, 1) :: z0 qs) T0 E w ∧ (T0 = T ∨ ∃ xs, (barOK l i xs seen = true ∧ sameAll P l E T0 xs ∧ T0 w))
  | .stop, _, _, h => by simp [OT.heads] at h
  | .nil, _, _, h => by simp [OT.heads] at h
  | .br j qs sub next, hk, hq, h => by
    simp only [treeOK, Bool.and_eq_true] at hk
    obtain ⟨⟨⟨k1, k2⟩, k3⟩, k4⟩ := hk
    obtain ⟨q1, q2⟩ := hq
    rcases List.mem_cons.1 (show i ∈ j :: next.heads from h) with rfl | h
    · exact ⟨qs, sub, T, k1, k2, k3, q1, .inl rfl⟩
    · exact br_of k4 q2 h
  | .bar j xs qs sub, hk, hq, h => by
    simp only [treeOK, Bool.and_eq_true] at hk
    obtain ⟨⟨⟨k1, k2⟩, k3⟩, k4⟩ := hk
    obtain rfl : i = j := List.mem_singleton.1 (show i ∈ [j] from h)
    obtain ⟨T0, hq0, hq1, hq2⟩ := hq
    exact ⟨qs, sub, T0, k1, k2, k3, hq2, .inr ⟨xs, k4, hq1, hq0⟩⟩
section main
variable (E0 : Env) (hpl : l.all plainOp = true) (hds : dstsOK l = true)
include hpl hds in
theorem advance0 {K : (World → Prop) → Env → World → Prop} : ∀ (qs : List Nat) (seen eff : List Nat) (lay : Option (List Nat)) (T : World → Prop) (V G : Env) (L : Nat → Prop) (w : World),
    chainOK l (z0 qs) seen lay = true → seqP P X l K (z0 qs) T V w → Inv P l E0 seen eff T V G L w → SeenOK l seen → (∀ i, i ∈ qs → ¬ L i ∧ i ∉ eff) →
    ∃ V', K T V' w ∧ Inv P l E0 (qs.reverse ++ seen) eff T V' G L w ∧ SeenOK l (qs.reverse ++ seen)
  | [], seen, eff, lay, T, V, G, L, w, hc, hs, hI, hS, hN => ⟨V, hs, hI, hS⟩
  | i :: rest, seen, eff, lay, T, V, G, L, w, hc, hs, hI, hS, hN => by
      obtain ⟨o, he, hc', _⟩ := chain_elem (f := 0) (rest := z0 rest) hc
      obtain ⟨v, hrun, hs'⟩ := hs o he.at_
      have hop : ∀ t, t ∈ atmps l o → ∀ d, o.dst = some d → t ≠ d := by
        intro t ht d hd htd
        subst htd
        have h1 := List.all_eq_true.1 (List.all_eq_true.1 he.writers t ht) i (List.mem_range.2 (List.getElem?_eq_some_iff.1 he.at_).1)
        simp only [he.at_, hd, bne_self_eq_false, Bool.false_or, List.contains_iff_mem] at h1
        exact he.new (he.back i h1)
      have hpo : plainOp o = true := List.all_eq_true.1 hpl o (List.mem_of_getElem? he.at_)
      have hnL := (hN i (by simp)).1
      have hne := (hN i (by simp)).2
      have hrun' : ∀ w', T w' → opR P l o (updo V o.dst v) w' v := fun w' hT => by
        refine opR_congr hpo (E := V) (fun t ht => ?_) (hrun w' hT)
        cases hd : o.dst with
        | none => rfl
        | some d => exact (upd_other _ _ _ _ (hop t ht d hd)).symm
      have hI' : Inv P l E0 (i :: seen) eff T (updo V o.dst v) G L w := by
        refine ⟨fun j hj => by simp [hI.sub j hj], hI.done, fun j hj hjn p hp => ?_, fun j p d hj hp hd => ?_, hI.rest, fun t ht => ?_, hI.here, hI.down⟩
        · rcases List.mem_cons.1 hj with rfl | hj'
          · rw [he.at_] at hp; cases hp
            exact ⟨v, hrun', updo_same fun k hk => updo_get k hk⟩
          · obtain ⟨u, h1, h2⟩ := hI.quiet j hj' hjn p hp
            have hji : i ≠ j := fun e => he.new (by rw [e]; exact hj')
            have hpp : plainOp p = true := List.all_eq_true.1 hpl p (List.mem_of_getElem? hp)
            have hnw : ∀ t, t ∈ atmps l p → o.dst ≠ some t := by
              intro t ht hd
              have : ∀ (sn : List Nat), SeenOK l sn → j ∈ sn → i ∈ sn := by
                intro sn
                induction sn with
                | nil => intro _ h; simp at h
                | cons x b ih =>
                  intro hs hjm
                  rcases List.mem_cons.1 hjm with rfl | hjm'
                  · obtain ⟨p', hp', hb0, hb⟩ := hs.1
                    rw [hp] at hp'; cases hp'
                    exact List.mem_cons_of_mem _ (hb0 _ (hb t ht i o he.at_ hd))
                  · exact List.mem_cons_of_mem _ (ih hs.2 hjm')
              exact he.new (this seen hS hj')
            refine ⟨u, fun w' hT => ?_, ?_⟩
            · exact opR_congr hpp (E := V) (fun t ht => (updo_ne t (hnw t ht)).symm) (h1 w' hT)
            · refine updo_same fun k hk => ?_
              rw [updo_ne k (fun hd => dst_ne (l := l) hds he.at_ hp hji hd hk)]
              rw [← h2]; exact updo_get k hk
        · have := hI.at_ j p d hj hp hd
          rw [this, updo_ne d (fun hd' => dst_ne (l := l) hds he.at_ hp (fun e => hnL (by rw [e]; exact hj)) hd' hd)]
        · rw [updo_ne t (fun hd => ht i o (by simp) he.at_ hd)]
          exact hI.virt t fun j p hj hp => ht j p (by simp [hj]) hp
      obtain ⟨V', q1, q2, q3⟩ := advance0 rest (i :: seen) eff _ T _ G L w hc' hs' hI' ⟨⟨o, he.at_, he.back, he.seenW⟩, hS⟩ (fun j hj => hN j (List.mem_cons_of_mem _ hj))
      have e : (i :: rest).reverse ++ seen = rest.reverse ++ (i :: seen) := by simp
      rw [e]; exact ⟨V', q1, q2, q3⟩
include hpl hds in
theorem any_of_tree {K : Env → World → Prop} (hK : ∀ E w, K E w → Q .normal E ds w) (hXQ : ∀ v w', X v w' → ∀ E', Q (.panic [{ v := v, recovered := false }]) E' ds w') : ∀ (fuel : Nat) (t : OT) (seen eff : List Nat) (T : World → Prop) (V : Env) (listed : Array Bool) (w : World) (a : Act),
    cnt l.length listed ≤ fuel → listed.size = l.length → a.tmps.size = n → a.defers = ds → l.all (okd n) = true →
    treeOK l t seen = true → cover l t seen = true → treeQ P X l K t T V w → Inv P l E0 seen eff T V (env a) (fun i => i < l.length ∧ listed.getD i true = true) w → SeenOK l seen →
    wpAnyIn (WF r) 0 P .any l.toArray (toQ n Q) fuel listed a w := by
  intro fuel
  induction fuel with
  | zero =>
    intro t seen eff T V listed w a hcnt hsz hn hd hok hc hv hs hI hS
    have hz := cnt_zero (Nat.le_zero.1 hcnt)
    have hrd : Region.ready .any l.toArray listed = [] := by
      cases hr : Region.ready .any l.toArray listed with
      | nil => rfl
      | cons x xs =>
        have hx : x ∈ Region.ready .any l.toArray listed := by rw [hr]; simp
        obtain ⟨h1, o, ho, _⟩ := mem_ready.1 hx
        have hlt : x < l.length := by have := (Array.getElem?_eq_some_iff.1 ho).1; simpa using this
        rw [hz x hlt] at h1; cases h1
    have ht : t = .stop := by
      cases t with
      | stop => rfl
      | nil => simp [cover] at hv
      | br i qs sub next =>
        obtain ⟨qs', sub', T0, h1, _⟩ := br_of (i := i) hc hs (by simp [OT.heads])
        obtain ⟨o, he, _⟩ := chain_elem h1
        have hlt : i < l.length := (List.getElem?_eq_some_iff.1 he.at_).1
        exact absurd (hI.sub i ⟨hlt, hz i hlt⟩) he.new
      | bar i xs qs sub =>
        obtain ⟨qs', sub', T0, h1, _⟩ := br_of (i := i) hc hs (by simp [OT.heads])
        obtain ⟨o, he, _⟩ := chain_elem h1
        have hlt : i < l.length := (List.getElem?_eq_some_iff.1 he.at_).1
        exact absurd (hI.sub i ⟨hlt, hz i hlt⟩) he.new
    subst ht
    refine ⟨hrd, hn, ?_⟩
    have hGV : env a = V := by
      funext t
      by_cases hx : ∃ (i : Nat) (o : Oper), l[i]? = some o ∧ o.dst = some t
      · obtain ⟨i, o, hi, ho⟩ := hx
        have hlt : i < l.length := (List.getElem?_eq_some_iff.1 hi).1
        exact hI.at_ i o t ⟨hlt, hz i hlt⟩ hi ho
      · have hx' : ∀ (i : Nat) (o : Oper), l[i]? = some o → o.dst ≠ some t := fun i o hi ho => hx ⟨i, o, hi, ho⟩
        rw [hI.rest t (fun i o _ hi => hx' i o hi), hI.virt t (fun i o _ hi => hx' i o hi)]
    rw [hGV, hd]
    exact hK _ _ hs
  | succ fuel ih =>
    intro t seen eff T V listed w a hcnt hsz hn hd hok hc hv hs hI hS
    have hlf : ∀ i, listed.getD i true = true → i < l.length → listed.getD i false = true := fun i h hlt => by
      rw [Array.getD_eq_getD_getElem?, Array.getElem?_eq_getElem (by omega)] at h ⊢; simpa using h
    have hft : ∀ i, listed.getD i false = true → i < l.length ∧ listed.getD i true = true := fun i h => by
      rcases Nat.lt_or_ge i listed.size with hl | hl
      · refine ⟨by omega, ?_⟩
        rw [Array.getD_eq_getD_getElem?, Array.getElem?_eq_getElem hl] at h ⊢; simpa using h
      · simp [Array.getD_eq_getD_getElem?, Array.getElem?_eq_none hl] at h
    have hset : ∀ i, i < l.length → (listed.setIfInBounds i true).getD i true = true := fun i hi => by simp [Array.getD_eq_getD_getElem?, show i < listed.size by omega]
    have hseenlt : ∀ (sn : List Nat), SeenOK l sn → ∀ i, i ∈ sn → i < l.length := by
      intro sn
      induction sn with
      | nil => intro _ i h; simp at h
      | cons x b ihb =>
        intro hs i hi
        rcases List.mem_cons.1 hi with rfl | hi'
        · obtain ⟨o, ho, _⟩ := hs.1
          exact (List.getElem?_eq_some_iff.1 ho).1
        · exact ihb hs.2 i hi'
    have hun' : ∀ i, i < l.length → i ∉ seen → listed.getD i true = false := fun i hlt hns => by
      cases hvv : listed.getD i true with
      | false => rfl
      | true => exact absurd (hI.sub i ⟨hlt, hvv⟩) hns
    refine ⟨fun hrd => ?_, fun i hi => ?_⟩
    · have hseen : ∀ i, i ∈ seen → listed.getD i true = true := by
        intro i hi
        cases hv : listed.getD i true with
        | true => rfl
        | false =>
          obtain ⟨j, hj⟩ := seen_ready listed seen hS ⟨i, hi, hv⟩ (fun k hk h => hlf k h (hseenlt seen hS k hk))
          rw [hrd] at hj; simp at hj
      have hno : ∀ c, c ∈ t.heads → False := fun c hcm => by
          obtain ⟨qs', sub', T0, h1, _⟩ := br_of (i := c) hc hs hcm
          obtain ⟨o, he, _⟩ := chain_elem h1
          have hlt : c < l.length := (List.getElem?_eq_some_iff.1 he.at_).1
          have hcr : c ∈ Region.ready .any l.toArray listed := mem_ready.2 ⟨hun' c hlt he.new, o, by simpa using he.at_, fun e hme hb => by
            have hj : e.on ∈ dps o := List.mem_map.2 ⟨e, List.mem_filter.2 ⟨by simpa using hme, hb⟩, rfl⟩
            have := he.back _ hj
            exact hlf _ (hseen _ this) (hseenlt seen hS _ this)⟩
          rw [hrd] at hcr; simp at hcr
      have ht : t = .stop := by
        cases t with
        | stop => rfl
        | nil => simp [cover] at hv
        | br c qs sub next => exact (hno c (by simp [OT.heads])).elim
        | bar c xs qs sub => exact (hno c (by simp [OT.heads])).elim
      subst ht
      refine ⟨hn, ?_⟩
      have hz : ∀ i, i < l.length → listed.getD i true = true := fun i hi => by
        have := List.all_eq_true.1 hv i (List.mem_range.2 hi)
        exact hseen i (by simpa using this)
      have hGV : env a = V := by
        funext t
        by_cases hx : ∃ (i : Nat) (o : Oper), l[i]? = some o ∧ o.dst = some t
        · obtain ⟨i, o, hi, ho⟩ := hx
          have hlt : i < l.length := (List.getElem?_eq_some_iff.1 hi).1
          exact hI.at_ i o t ⟨hlt, hz i hlt⟩ hi ho
        · have hx' : ∀ (i : Nat) (o : Oper), l[i]? = some o → o.dst ≠ some t := fun i o hi ho => hx ⟨i, o, hi, ho⟩
          rw [hI.rest t (fun i o _ hi => hx' i o hi), hI.virt t (fun i o _ hi => hx' i o hi)]
      rw [hGV, hd]
      exact hK _ _ hs
    · obtain ⟨hun, o, ho, _⟩ := mem_ready.1 hi
      have ho : l[i]? = some o := by simpa using ho
      have hlt : i < l.length := (List.getElem?_eq_some_iff.1 ho).1
      have hdp := ready_dps hi ho
      have hpo : plainOp o = true := List.all_eq_true.1 hpl o (List.mem_of_getElem? ho)
      have hokd : ∀ k, o.dst = some k → k < a.tmps.size := fun k hk => by
        have := List.all_eq_true.1 hok o (List.mem_of_getElem? ho)
        simp only [okd, hk] at this; rw [hn]; simpa [Nat.blt_eq] using this
      have hcnt' : cnt l.length (listed.setIfInBounds i true) ≤ fuel := by have := cnt_set hsz hun; omega
      have hsz' : (listed.setIfInBounds i true).size = l.length := by simpa using hsz
      have hL' : ∀ j, (j < l.length ∧ (listed.setIfInBounds i true).getD j true = true) ↔ (j = i ∨ (j < l.length ∧ listed.getD j true = true)) := fun j => by
        by_cases e : j = i
        · subst e; simp [hlt, hset j hlt]
        · rw [getD_set_ne true (Ne.symm e)]; simp [e]
      by_cases hse : i ∈ seen
      · -- a quiet operation
        have hie : i ∉ eff := fun h => by have := (hI.done i h).2; rw [hun] at this; cases this
        obtain ⟨v, hrun, hvv⟩ := hI.quiet i hse hie o ho
        have hopr : ∀ t, t ∈ atmps l o → env a t = V t := by
          intro t ht
          by_cases hx : ∃ (j : Nat) (p : Oper), l[j]? = some p ∧ p.dst = some t
          · obtain ⟨j, p, hj, hp2⟩ := hx
            have : ∀ (sn : List Nat), SeenOK l sn → i ∈ sn → j ∈ dps o := by
              intro sn
              induction sn with
              | nil => intro _ h; simp at h
              | cons x b ihb =>
                intro hs hjm
                rcases List.mem_cons.1 hjm with rfl | hjm'
                · obtain ⟨p', hp', _, hb⟩ := hs.1
                  rw [ho] at hp'; cases hp'
                  exact hb t ht j p hj hp2
                · exact ihb hs.2 hjm'
            exact hI.at_ j p t (hft j (hdp j (this seen hS hse))) hj hp2
          · have hx' : ∀ (j : Nat) (p : Oper), l[j]? = some p → p.dst ≠ some t := fun j p hj hp => hx ⟨j, p, hj, hp⟩
            rw [hI.rest t (fun i o _ hi => hx' i o hi), hI.virt t (fun i o _ hi => hx' i o hi)]
        have hgo : wpAnyIn (WF r) 0 P .any l.toArray (toQ n Q) fuel (listed.setIfInBounds i true) (a.put o.dst v) w → wpOpIn (WF r) 0 P l.toArray (toQ n Q) i (wpAnyIn (WF r) 0 P .any l.toArray (toQ n Q) fuel (listed.setIfInBounds i true)) a w := fun hk => by
          refine wpOpIn_eff (E := V) (by simpa using ho) hpo hopr (fun v w' hx => ⟨hn, by rw [hd]; exact hXQ v w' hx _⟩) ?_
          rcases hrun w hI.here with ⟨hw, hr⟩ | ⟨hw, rfl⟩
          · exact .inl ⟨hw, .inl ⟨v, w, hr, hk⟩⟩
          · exact .inr ⟨hw, hk⟩
        refine hgo ?_
        refine ih t seen eff T V _ w _ hcnt' hsz' (by rw [put_size]; exact hn) (by rw [put_defers]; exact hd) hok hc hv hs ?_ hS
        rw [env_puto _ _ _ hokd]
        refine ⟨fun j hj => ?_, fun j hj => (hL' j).2 (.inr (hI.done j hj)), hI.quiet, fun j p d hj hp' hd' => ?_, fun t ht => ?_, hI.virt, hI.here, fun j p hj hp' k hk => ?_⟩
        · rcases (hL' j).1 hj with rfl | h
          · exact hse
          · exact hI.sub j h
        · rcases (hL' j).1 hj with rfl | h
          · rw [ho] at hp'; cases hp'
            rw [updo_get d hd', ← hvv]; exact (updo_get d hd').symm
          · have hji : i ≠ j := fun e => by subst e; rw [hun] at h; cases h.2
            rw [updo_ne d (fun e => dst_ne (l := l) hds ho hp' hji e hd')]
            exact hI.at_ j p d h hp' hd'
        · rw [updo_ne t (ht i o ((hL' i).2 (.inl rfl)) ho)]
          exact hI.rest t fun j p hj hp' => ht j p ((hL' j).2 (.inr hj)) hp'
        · rcases (hL' j).1 hj with rfl | h
          · rw [ho] at hp'; cases hp'
            exact (hL' k).2 (.inr (hft k (hdp k hk)))
          · exact (hL' k).2 (.inr (hI.down j p h hp' k hk))
      · -- one of the next effects
        have hds' : ∀ j, j ∈ dps o → j ∈ seen := fun j hj => hI.sub j (hft j (hdp j hj))
        have hhd : i ∈ t.heads := by
          cases t with
          | stop =>
            have := List.all_eq_true.1 hv i (List.mem_range.2 hlt)
            exact absurd (by simpa using this) hse
          | nil => simp [cover] at hv
          | br c qs sub next =>
            have h1 := List.all_eq_true.1 hv i (List.mem_range.2 hlt)
            simp only [ho, Bool.or_eq_true, List.contains_iff_mem] at h1
            rcases h1 with (h1 | h1) | h1
            · exact absurd h1 hse
            · exact h1
            · obtain ⟨d, hd1, hd2⟩ := List.any_eq_true.1 h1
              have := hds' d hd1
              simp [this] at hd2
          | bar c xs qs sub =>
            have h1 := List.all_eq_true.1 hv i (List.mem_range.2 hlt)
            simp only [ho, Bool.or_eq_true, List.contains_iff_mem] at h1
            rcases h1 with (h1 | h1) | h1
            · exact absurd h1 hse
            · exact h1
            · obtain ⟨d, hd1, hd2⟩ := List.any_eq_true.1 h1
              have := hds' d hd1
              simp [this] at hd2
        obtain ⟨rr, sub, T0, hch, hcv, hto, hsq, hT0⟩ := br_of hc hs hhd
        obtain ⟨o', he, hc', _⟩ := chain_elem hch
        rw [he.at_] at ho; cases ho
        have hopr : ∀ t, t ∈ atmps l o → env a t = V t := hI.operands E0 he.at_ he.writers (fun j hj => hft j (hdp j hj))
        obtain ⟨eff', hesub, hedone, hequiet⟩ : ∃ eff' : List Nat, (∀ j, j ∈ eff' → j ∈ i :: seen) ∧ (∀ j, j ∈ eff' → (j < l.length ∧ (listed.setIfInBounds i true).getD j true = true)) ∧
            (∀ (T' : World → Prop) (v : Value), (∀ x, T' x → T0 x) → ∀ j, j ∈ i :: seen → j ∉ eff' → ∀ p, l[j]? = some p → ∃ u, (∀ w', T' w' → opR P l p (updo V o.dst v) w' u) ∧ updo (updo V o.dst v) p.dst u = updo V o.dst v) := by
          rcases hT0 with rfl | ⟨xs, hbar, hsame, _⟩
          · refine ⟨i :: eff, fun j hj => ?_, fun j hj => ?_, fun T' v hT j hj hjn p hp' => ?_⟩
            · rcases List.mem_cons.1 hj with rfl | h
              · simp
              · simp [hI.sub j (hI.done j h)]
            · rcases List.mem_cons.1 hj with rfl | h
              · exact (hL' j).2 (.inl rfl)
              · exact (hL' j).2 (.inr (hI.done j h))
            · have hji : j ≠ i := fun e => hjn (by simp [e])
              have hjs : j ∈ seen := by simpa [hji] using hj
              obtain ⟨u, h1, h2⟩ := hI.quiet j hjs (fun h => hjn (by simp [h])) p hp'
              have hpp : plainOp p = true := List.all_eq_true.1 hpl p (List.mem_of_getElem? hp')
              have hnw : ∀ t, t ∈ atmps l p → o.dst ≠ some t := by
                intro t ht hd'
                have : ∀ (sn : List Nat), SeenOK l sn → j ∈ sn → i ∈ sn := by
                  intro sn
                  induction sn with
                  | nil => intro _ h; simp at h
                  | cons x b ihb =>
                    intro hs hjm
                    rcases List.mem_cons.1 hjm with rfl | hjm'
                    · obtain ⟨p', hp'', hb0, hb⟩ := hs.1
                      rw [hp'] at hp''; cases hp''
                      exact List.mem_cons_of_mem _ (hb0 _ (hb t ht i o he.at_ hd'))
                    · exact List.mem_cons_of_mem _ (ihb hs.2 hjm')
                exact he.new (this seen hS hjs)
              refine ⟨u, fun x hx => ?_, ?_⟩
              · exact opR_congr hpp (E := V) (fun t ht => (updo_ne t (hnw t ht)).symm) (h1 x (hT x hx))
              · refine updo_same fun k hk => ?_
                rw [updo_ne k (fun hd' => dst_ne (l := l) hds he.at_ hp' (Ne.symm hji) hd' hk)]
                rw [← h2]; exact updo_get k hk
          · refine ⟨i :: seen.filter (fun j => !xs.contains j), fun j hj => ?_, fun j hj => ?_, fun T' v hT j hj hjn p hp' => ?_⟩
            · rcases List.mem_cons.1 hj with rfl | h
              · simp
              · exact List.mem_cons_of_mem _ (List.mem_filter.1 h).1
            · rcases List.mem_cons.1 hj with rfl | h
              · exact (hL' j).2 (.inl rfl)
              · obtain ⟨h, hx⟩ := List.mem_filter.1 h
                unfold barOK at hbar; rw [he.at_] at hbar
                have hcl := List.all_eq_true.1 hbar j h
                rw [Bool.or_eq_true] at hcl
                have hcl : j ∈ clo l seen (dps o) := by
                  rcases hcl with hcl | hcl
                  · rw [hcl] at hx; cases hx
                  · simpa using hcl
                exact (hL' j).2 (.inr (clo_listed (l := l) hI.down seen _ (fun k hk => hft k (hdp k hk)) j hcl))
            · have hji : j ≠ i := fun e => hjn (by simp [e])
              have hjs : j ∈ seen := by simpa [hji] using hj
              have hjx : j ∈ xs := by
                cases hx : xs.contains j with
                | true => simpa using hx
                | false => exact absurd (List.mem_cons_of_mem _ (List.mem_filter.2 ⟨hjs, by rw [hx]; rfl⟩)) hjn
              obtain ⟨u, h1, h2⟩ := same_of hsame hjx p hp'
              have hpp : plainOp p = true := List.all_eq_true.1 hpl p (List.mem_of_getElem? hp')
              have hnw : ∀ t, t ∈ atmps l p → o.dst ≠ some t := by
                intro t ht hd'
                have : ∀ (sn : List Nat), SeenOK l sn → j ∈ sn → i ∈ sn := by
                  intro sn
                  induction sn with
                  | nil => intro _ h; simp at h
                  | cons x b ihb =>
                    intro hs hjm
                    rcases List.mem_cons.1 hjm with rfl | hjm'
                    · obtain ⟨p', hp'', hb0, hb⟩ := hs.1
                      rw [hp'] at hp''; cases hp''
                      exact List.mem_cons_of_mem _ (hb0 _ (hb t ht i o he.at_ hd'))
                    · exact List.mem_cons_of_mem _ (ihb hs.2 hjm')
                exact he.new (this seen hS hjs)
              refine ⟨u, fun x hx => ?_, ?_⟩
              · exact opR_congr hpp (E := V) (fun t ht => (updo_ne t (hnw t ht)).symm) (h1 x (hT x hx))
              · refine updo_same fun k hk => ?_
                rw [updo_ne k (fun hd' => dst_ne (l := l) hds he.at_ hp' (Ne.symm hji) hd' hk)]
                rw [← h2]; exact updo_get k hk
        have hbase : ∀ (v : Value) (T' : World → Prop) (w' : World), (∀ x, T' x → T0 x) → T' w' →
            Inv P l E0 (i :: seen) eff' T' (updo V o.dst v) (env (a.put o.dst v)) (fun j => j < l.length ∧ (listed.setIfInBounds i true).getD j true = true) w' := by
          intro v T' w' hT hTw
          rw [env_puto _ _ _ hokd]
          refine ⟨fun j hj => ?_, hedone, hequiet T' v hT, fun j p d hj hp' hd' => ?_, fun t ht => ?_, fun t ht => ?_, hTw, fun j p hj hp' k hk => ?_⟩
          · rcases (hL' j).1 hj with rfl | h
            · simp
            · simp [hI.sub j h]
          · rcases (hL' j).1 hj with rfl | h
            · rw [he.at_] at hp'; cases hp'
              rw [updo_get d hd', updo_get d hd']
            · have hji : i ≠ j := fun e => by subst e; rw [hun] at h; cases h.2
              rw [updo_ne d (fun e => dst_ne (l := l) hds he.at_ hp' hji e hd'), updo_ne d (fun e => dst_ne (l := l) hds he.at_ hp' hji e hd')]
              exact hI.at_ j p d h hp' hd'
          · rw [updo_ne t (ht i o ((hL' i).2 (.inl rfl)) he.at_)]
            exact hI.rest t fun j p hj hp' => ht j p ((hL' j).2 (.inr hj)) hp'
          · rw [updo_ne t (ht i o (by simp) he.at_)]
            exact hI.virt t fun j p hj hp' => ht j p (by simp [hj]) hp'
          · rcases (hL' j).1 hj with rfl | h
            · rw [he.at_] at hp'; cases hp'
              exact (hL' k).2 (.inr (hft k (hdp k hk)))
            · exact (hL' k).2 (.inr (hI.down j p h hp' k hk))
        have go : ∀ (v : Value) (T' : World → Prop) (w' : World), (∀ x, T' x → T0 x) → T' w' → seqP P X l (fun T' E' w2 => treeQ P X l K sub T' E' w2) (z0 rr) T' (updo V o.dst v) w' →
            wpAnyIn (WF r) 0 P .any l.toArray (toQ n Q) fuel (listed.setIfInBounds i true) (a.put o.dst v) w' := by
          intro v T' w' hT hTw hsr
          obtain ⟨V', q1, q2, q3⟩ := advance0 E0 hpl hds rr (i :: seen) eff' _ T' _ _ _ w' hc' hsr (hbase v T' w' hT hTw) ⟨⟨o, he.at_, he.back, he.seenW⟩, hS⟩ (fun j hj => by
            have hjp := post_not_seen (l := l) (z0 rr) (i :: seen) _ hc' j (z0_mem.2 hj)
            refine ⟨fun hx => ?_, fun hx => ?_⟩
            · rcases (hL' j).1 hx with rfl | h
              · exact hjp (by simp)
              · exact hjp (by simp [hI.sub j h])
            · exact hjp (hesub j hx))
          exact ih sub (rr.reverse ++ i :: seen) eff' T' V' _ w' _ hcnt' hsz' (by rw [put_size]; exact hn) (by rw [put_defers]; exact hd) hok hto hcv q1 q2 q3
        refine wpOpIn_eff (E := V) (by simpa using he.at_) hpo hopr (fun v w' hx => ⟨hn, by rw [hd]; exact hXQ v w' hx _⟩) ?_
        rcases hsq o he.at_ with ⟨hw, hsq⟩ | ⟨hw, hsq⟩
        · refine .inl ⟨hw, effP_mono hsq ?_⟩
          rintro v w' ⟨T', h1, h2, h3⟩
          exact go v T' w' h1 h2 h3
        · refine .inr ⟨hw, go undef T0 w (fun _ h => h) ?_ hsq⟩
          rcases hT0 with rfl | ⟨_, _, _, h9⟩
          · exact hI.here
          · exact h9
end main
def openOK (l : List Oper) (q0 : List Nat) (t : OT) : Bool := l.all plainOp && dstsOK l && chainOK l (z0 q0) [] none && treeOK l t q0.reverse && cover l t q0.reverse
theorem x_open {id : Nat} {E : Env} {w : World} (q0 : List Nat) (t : OT) (hm : P.follows .mixedOrders = true) (hc : openOK l q0 t = true) (hok : l.all (okd n) = true) (T : World → Prop) (hT : T w.drew)
    (h : seqP P (fun v w' => ∀ E', Q (.panic [{ v := v, recovered := false }]) E' ds w') l (fun T' E' w2 => treeQ P (fun v w' => ∀ E', Q (.panic [{ v := v, recovered := false }]) E' ds w') l (fun E w => Q .normal E ds w) t T' E' w2) (z0 q0) T E w.drew) : wp P r n (.region id l.toArray true) Q E ds w := by
  intro a h1 h2 h3
  simp only [openOK, Bool.and_eq_true] at hc
  obtain ⟨⟨⟨⟨hpl, hds⟩, hch⟩, hto⟩, hcv⟩ := hc
  refine wpIn_region_any hm ?_
  have hL0 : ∀ j, ¬ (j < l.length ∧ (Array.replicate l.length false).getD j true = true) := fun j hj => by
    have := hj.2; simp [Array.getD_eq_getD_getElem?, hj.1] at this
  obtain ⟨V', q1, q2, q3⟩ := advance0 (P := P) (l := l) E hpl hds q0 [] [] none T E E (fun j => j < l.length ∧ (Array.replicate l.length false).getD j true = true) w.drew hch h
    ⟨fun j hj => absurd hj (hL0 j), fun j hj => by simp at hj, fun j hj => by simp at hj, fun j o d hj => absurd hj (hL0 j), fun _ _ => rfl, fun _ _ => rfl, hT, fun j o hj => absurd hj (hL0 j)⟩ trivial (fun j _ => ⟨hL0 j, by simp⟩)
  rw [List.append_nil] at q2 q3
  have hq3 : Inv P l E q0.reverse [] T V' (env a) (fun j => j < l.length ∧ (Array.replicate l.length false).getD j true = true) w.drew := by rw [h2]; exact q2
  show wpAnyIn (WF r) 0 P .any l.toArray (toQ n Q) l.toArray.size (Array.replicate l.toArray.size false) a w.drew
  rw [List.size_toArray]
  refine any_of_tree (P := P) (l := l) (Q := Q) (ds := ds) E hpl hds (K := fun E w => Q .normal E ds w) (fun E w h => h) (fun _ _ h => h) l.length t q0.reverse [] T V' (Array.replicate l.length false) w.drew a ?_ (by simp) h1 h3 hok hto hcv q1 hq3 q3
  unfold cnt; exact Nat.le_trans (List.length_filter_le _ _) (by simp)
section
variable {K : Env → World → Prop} {T : World → Prop} {E : Env} {w : World}
theorem tr_stop (h : K E w) : treeQ P X l K .stop T E w := h
theorem tr_bar {i : Nat} {xs qs : List Nat} {sub : OT} (T0 : World → Prop) (h0 : T0 w) (hx : sameAll P l E T0 xs) (h : seqP P X l (fun T' E' w2 => treeQ P X l K sub T' E' w2) ((i, 1) :: z0 qs) T0 E w) : treeQ P X l K (.bar i xs qs sub) T E w := ⟨T0, h0, hx, h⟩
theorem xq_nil {T0 : World → Prop} : sameAll P l E T0 [] := trivial
theorem xq_yes {T0 : World → Prop} {j : Nat} {xs : List Nat} {o : Oper} {v : Value} (ho : l[j]? = some o) (hw : wantE l o E = true) (hr : ∀ W : World, T0 W → (execOp (ev E) o).run P W = .ok (.value v) W) (hd : ∀ k, o.dst = some k → E k = v) (h : sameAll P l E T0 xs) : sameAll P l E T0 (j :: xs) :=
  ⟨fun o' ho' => by rw [ho] at ho'; cases ho'; exact ⟨v, fun w' hT => .inl ⟨hw, hr w' hT⟩, updo_same hd⟩, h⟩
end
end Go.Proofs.YtncnalboiljgiaaGreat.K
namespace Go.Proofs.YtncnalboiljgiaaGreat.K
open Go Go.RowKit
section inv
variable {P : Program} {r : Option Nat} {n : Nat} {O : Array Oper} {Q : Post} {E : Env} {ds : List Deferred} {w : World} {l : List Oper}
variable {dst : Option Nat} {ty : TypeId} {pos : String} {af : Array Edge} {g : Option (Nat × Bool)}
def findsB (P : Program) (t : TypeId) (name : String) (f : Nat) : Prop := ∀ (rv : Value) (w : World), (method (P.types.size + Made.depth) t rv name).run P w = .ok (f, rv) w
theorem r_invoke {c : Call} {f : FuncId} {name : String} {ags : List Value} {x : Operand} {t : TypeId} {v : Value} (hcal : c.callee = .invoke x name) (hx : ev E x = .iface t v) (hm : findsB P t name f) (hent : ∀ args (w : World), (callFunc f args).run P w = .ok (.enter f args) w)
    (has : v :: c.args.toList.map (ev E) = ags) : (execOp (ev E) ⟨dst, .call c, ty, pos, af, g⟩).run P w = .ok (.enter f ⟨ags⟩) w := by
  have ha : (#[Value.iface t v] ++ c.args.map (ev E))[0]? = some (Value.iface t v) := by rw [Array.getElem?_append_left (by simp)]; rfl
  have hb : (#[Value.iface t v] ++ c.args.map (ev E)).extract 1 (#[Value.iface t v] ++ c.args.map (ev E)).size = c.args.map (ev E) := by
    apply Array.ext'; rw [Array.toList_extract, List.extract_eq_take_drop, Array.toList_append]; simp [List.take_of_length_le]
  have hcm : (callMethod (.iface t v) name (c.args.map (ev E))).run P w = .ok (.enter f ⟨ags⟩) w := by
    simp only [callMethod, Sem.run_bind, run_program, Result.andThen_ok, hm v w]
    rw [hent]
    congr 2
    apply Array.ext'
    rw [← has]; simp
  have hr : (resolve (ev E) c ty).run P w = .ok { target := .fn (.method name) #[], args := #[Value.iface t v] ++ c.args.map (ev E) } w := by
    simp [resolve, hcal, hx, go_sem]
  simp only [execOp, Sem.run_bind, hr, Result.andThen, invoke]
  simp only [ha, hb]
  exact hcm
theorem r_assertN {x : Operand} {xt at_ t : TypeId} {v z : Value} {u : TypeDesc} (hu : P.underlying at_ = some u) (hi : (match u with | .interface _ => false | _ => true) = true) (hz : zvB P at_ z) (hx : ev E x = .iface t v) (ht : t ≠ at_) :
    (execOp (ev E) ⟨dst, .typeAssert x xt at_ true, ty, pos, af, g⟩).run P w = .ok (.value (.tuple ⟨[z, .bool false]⟩)) w := by
  obtain ⟨i, h1, h2⟩ := hz
  cases u <;> simp_all [execOp, Instr.typeAssert, underlying, zeroValue, typeInfo, go_sem, Result.andThen]
theorem st_assertN {x : Operand} {xt at_ t : TypeId} {v z : Value} {u : TypeDesc} (hu : P.underlying at_ = some u) (hi : (match u with | .interface _ => false | _ => true) = true) (hz : zvB P at_ z) (hx : ev E x = .iface t v) (ht : t ≠ at_)
    (h : wops P r n O Q l (updo E dst (.tuple ⟨[z, .bool false]⟩)) ds w) : wop P r n O Q ⟨dst, .typeAssert x xt at_ true, ty, pos, af, g⟩ l E ds w := wop_run (fun _ => by simp) (r_assertN hu hi hz hx ht) h
theorem r_nilCheckI {x : Operand} {t : TypeId} {v : Value} (hx : ev E x = .iface t v) :
    (execOp (ev E) ⟨dst, .nilCheck x, ty, pos, af, g⟩).run P w = .ok (.value (.iface t v)) w := by simp [execOp, hx, go_sem]
end inv
theorem sq_eff1 {P : Program} {X : Value → World → Prop} {l : List Oper} {K : (World → Prop) → Env → World → Prop} {T : World → Prop} {E : Env} {w : World} {rest : List (Nat × Nat)} {i : Nat} {o : Oper} {K0 : Value → World → Prop} (ho : l[i]? = some o) (he : effP P X o E w K0) (h : ∀ v w', K0 v w' → ∃ T' : World → Prop, (∀ x, T' x → T x) ∧ T' w' ∧ seqP P X l K rest T' (updo E o.dst v) w') (hw : wantE l o E = true := by rfl) : seqP P X l K ((i, 1) :: rest) T E w := fun o' ho' => by
  rw [ho] at ho'; cases ho'; exact .inl ⟨hw, effP_mono he h⟩
section bag
variable {P : Program} {X : Value → World → Prop} {r : Option Nat} {n : Nat} {l : List Oper} {Q : Post} {ds : List Deferred}
def dn (d : Nat → Bool) (i : Nat) : Nat → Bool := fun j => if j = i then true else d j
def ordOK (l : List Oper) : List Nat → List Nat → Bool
  | [], seen => (List.range l.length).all fun j => seen.contains j
  | i :: rest, seen => (match l[i]? with | some o => (dps o).all (fun j => seen.contains j) | none => false) && ordOK l rest (i :: seen)
theorem ord_ready {listed : Array Bool} (hsz : listed.size = l.length) : ∀ (ord seen : List Nat), ordOK l ord seen = true → (∀ j, j ∈ seen → j < l.length ∧ listed.getD j true = true) → Region.ready .any l.toArray listed = [] → ∀ j, j < l.length → listed.getD j true = true
  | [], seen, h, hs, _, j, hj => by
    have := List.all_eq_true.1 h j (List.mem_range.2 hj)
    exact (hs j (by simpa using this)).2
  | i :: rest, seen, h, hs, hr, j, hj => by
    simp only [ordOK, Bool.and_eq_true] at h
    obtain ⟨h1, h2⟩ := h
    cases ho : l[i]? with
    | none => rw [ho] at h1; cases h1
    | some o =>
      rw [ho] at h1
      have hil : i < l.length := (List.getElem?_eq_some_iff.1 ho).1
      refine ord_ready hsz rest (i :: seen) h2 (fun k hk => ?_) hr j hj
      rcases List.mem_cons.1 hk with rfl | hk
      · refine ⟨hil, ?_⟩
        cases hv : listed.getD k true with
        | true => rfl
        | false =>
          have hx : k ∈ Region.ready .any l.toArray listed := mem_ready.2 ⟨hv, o, by simpa using ho, fun e he hb => by
            have hj2 : e.on ∈ dps o := List.mem_map.2 ⟨e, List.mem_filter.2 ⟨by simpa using he, hb⟩, rfl⟩
            have h3 := hs e.on (by simpa using List.all_eq_true.1 h1 _ hj2)
            have h4 := h3.2
            rw [Array.getD_eq_getD_getElem?, Array.getElem?_eq_getElem (by omega)] at h4 ⊢; simpa using h4⟩
          rw [hr] at hx; cases hx
      · exact hs k hk
theorem x_bag {id : Nat} {E : Env} {w : World} (S ord : List Nat) (I : (Nat → Bool) → Env → World → Prop) (hm : P.follows .mixedOrders = true) (hpl : l.all plainOp = true) (hor : ordOK l ord [] = true) (hdS : (l.all fun o => match o.dst with | some k => S.contains k | none => true) = true) (hok : l.all (okd n) = true) (h0 : ∀ d, (∀ i, i < l.length → d i = false) → I d E w.drew)
    (hI : ∀ d d' G W, (∀ i, i < l.length → d i = d' i) → I d G W → I d' G W)
    (hstep : ∀ i o d G W, l[i]? = some o → d i = false → (∀ j, j ∈ dps o → d j = true) → (∀ k p, l[k]? = some p → d k = true → ∀ j, j ∈ dps p → d j = true) → Agree S G E → I d G W →
      (wantE l o G = true ∧ effP P (fun _ _ => False) o G W fun v W' => I (dn d i) (updo G o.dst v) W') ∨ (wantE l o G = false ∧ I (dn d i) (updo G o.dst undef) W))
    (hend : ∀ d G W, (∀ i, i < l.length → d i = true) → Agree S G E → I d G W → Q .normal G ds W) : wp P r n (.region id l.toArray true) Q E ds w := by
  intro a h1 h2 h3
  refine wpIn_region_any hm ?_
  have main : ∀ (fuel : Nat) (listed : Array Bool) (W : World) (b : Act), cnt l.length listed ≤ fuel → listed.size = l.length → b.tmps.size = n → b.defers = ds →
      (∀ k p, l[k]? = some p → listed.getD k true = true → ∀ j, j ∈ dps p → listed.getD j true = true ∧ j < l.length) → Agree S (env b) E → I (fun i => listed.getD i true) (env b) W → wpAnyIn (WF r) 0 P .any l.toArray (toQ n Q) fuel listed b W := by
    intro fuel
    induction fuel with
    | zero =>
      intro listed W b hcnt hsz hn hd hdw hag hi
      have hz := cnt_zero (Nat.le_zero.1 hcnt)
      refine any_done (l := l) (fun i hi => hz i hi) ⟨hn, ?_⟩
      rw [hd]; exact hend _ _ _ (fun i hi => hz i hi) hag hi
    | succ fuel ih =>
      intro listed W b hcnt hsz hn hd hdw hag hi
      refine ⟨fun hrd => ⟨hn, ?_⟩, fun i hir => ?_⟩
      · rw [hd]; exact hend _ _ _ (ord_ready hsz ord [] hor (fun j hj => by cases hj) hrd) hag hi
      · obtain ⟨hun, o, ho, _⟩ := mem_ready.1 hir
        have ho : l[i]? = some o := by simpa using ho
        have hlt : i < l.length := (List.getElem?_eq_some_iff.1 ho).1
        have hdp := ready_dps hir ho
        have hdp' : ∀ j, j ∈ dps o → listed.getD j true = true ∧ j < l.length := fun j hj => by
          have h9 := hdp j hj
          rcases Nat.lt_or_ge j listed.size with hl | hl
          · refine ⟨?_, by omega⟩
            rw [Array.getD_eq_getD_getElem?, Array.getElem?_eq_getElem hl] at h9 ⊢; simpa using h9
          · simp [Array.getD_eq_getD_getElem?, Array.getElem?_eq_none hl] at h9
        have hokd : ∀ k, o.dst = some k → k < b.tmps.size := fun k hk => by
          have := List.all_eq_true.1 hok o (List.mem_of_getElem? ho)
          rw [hn]; exact okd_lt this hk
        have hcnt' : cnt l.length (listed.setIfInBounds i true) ≤ fuel := by have := cnt_set hsz hun; omega
        have hset : ∀ j, j < l.length → (listed.setIfInBounds i true).getD j true = dn (fun i => listed.getD i true) i j := fun j hj => by
          unfold dn
          by_cases e : j = i
          · subst e; rw [if_pos rfl]; simp [Array.getD_eq_getD_getElem?, show j < listed.size by omega]
          · rw [if_neg e, getD_set_ne true (Ne.symm e)]
        have hdw' : ∀ k p, l[k]? = some p → (listed.setIfInBounds i true).getD k true = true → ∀ j, j ∈ dps p → (listed.setIfInBounds i true).getD j true = true ∧ j < l.length := fun k p hk hkv j hj => by
          have hkl : k < l.length := (List.getElem?_eq_some_iff.1 hk).1
          have hjj : listed.getD j true = true ∧ j < l.length := by
            by_cases e : k = i
            · subst e; rw [ho] at hk; cases hk; exact hdp' j hj
            · rw [hset k hkl] at hkv; unfold dn at hkv; rw [if_neg e] at hkv
              exact hdw k p hk hkv j hj
          refine ⟨?_, hjj.2⟩
          rw [hset j hjj.2]; unfold dn; split
          · rfl
          · exact hjj.1
        have hagU : ∀ v : Value, Agree S (updo (env b) o.dst v) E := fun v => by
          have h9 := List.all_eq_true.1 hdS o (List.mem_of_getElem? ho)
          cases hdd : o.dst with
          | none => exact hag
          | some k => rw [hdd] at h9; exact agree_upd hag h9
        have go : ∀ (v : Value) (W' : World), I (dn (fun i => listed.getD i true) i) (updo (env b) o.dst v) W' → wpAnyIn (WF r) 0 P .any l.toArray (toQ n Q) fuel (listed.setIfInBounds i true) (b.put o.dst v) W' := fun v W' hv =>
          ih _ W' _ hcnt' (by simpa using hsz) (by rw [put_size]; exact hn) (by rw [put_defers]; exact hd) hdw' (by rw [env_puto _ _ _ hokd]; exact hagU v) (by rw [env_puto _ _ _ hokd]; exact hI _ _ _ _ (fun j hj => (hset j hj).symm) hv)
        refine wpOpIn_eff (X := fun _ _ => False) (E := env b) (by simpa using ho) (List.all_eq_true.1 hpl o (List.mem_of_getElem? ho)) (fun _ _ => rfl) (fun _ _ h => h.elim) ?_
        rcases hstep i o _ _ _ ho hun (fun j hj => (hdp' j hj).1) (fun k p hk hkv j hj => (hdw k p hk hkv j hj).1) hag hi with ⟨hw, he⟩ | ⟨hw, he⟩
        · exact .inl ⟨hw, effP_mono he go⟩
        · exact .inr ⟨hw, go _ _ he⟩
  have hL0 : ∀ j, j < l.length → (Array.replicate l.length false).getD j true = false := fun j hj => by simp [Array.getD_eq_getD_getElem?, hj]
  show wpAnyIn (WF r) 0 P .any l.toArray (toQ n Q) l.toArray.size (Array.replicate l.toArray.size false) a w.drew
  rw [List.size_toArray]
  refine main l.length _ w.drew a ?_ (by simp) h1 h3 (fun k p hk hkv => ?_) (by rw [h2]; exact agree_refl) (by rw [h2]; exact h0 _ hL0)
  · unfold cnt; exact Nat.le_trans (List.length_filter_le _ _) (by simp)
  · have := hL0 k (List.getElem?_eq_some_iff.1 hk).1; rw [this] at hkv; cases hkv
end bag
end Go.Proofs.YtncnalboiljgiaaGreat.K
namespace Go.Proofs.YtncnalboiljgiaaGreat.K
open Go
theorem setVs_eq : ∀ (vs cs : List Value) (o : Nat), o + vs.length ≤ cs.length → setVs cs o vs = cs.take o ++ vs ++ cs.drop (o + vs.length)
  | [], cs, o, _ => by simp [setVs]
  | v :: vs, cs, o, h => by
    simp only [List.length_cons] at h
    rw [setVs, setV_eq, setVs_eq vs _ (o + 1) (by rw [List.length_set]; omega)]
    have h1 : (cs.set o v).take (o + 1) = cs.take o ++ [v] := by
      rw [List.take_add_one, List.take_set_of_le (by omega)]; simp [show o < cs.length by omega]
    rw [h1, List.drop_set_of_lt (by omega), List.length_cons, show o + 1 + vs.length = o + (vs.length + 1) by omega]
    simp
section rules
variable {P : Program} {X : Value → World → Prop} {r : Option Nat} {n : Nat} {O : Array Oper} {Q : Post} {l : List Oper} {E : Env} {ds : List Deferred} {w : World} {dst : Option Nat} {ty : TypeId} {pos : String} {af : Array Edge} {g : Option (Nat × Bool)}
end rules
def flatC {α : Type} (f : α → List Value) (xs : List α) : List Value := xs.flatMap f
section flat
variable {α : Type} {sz : Nat} {f : α → List Value} {hp : 0 < sz} {hl : ∀ x, (f x).length = sz} {ho : ∀ x, ∀ u ∈ f x, u.oneCell' = true} {w : World} {D : Nat → Prop}
theorem flatC_len (hl : ∀ x, (f x).length = sz) (xs : List α) : (flatC f xs).length = xs.length * sz := by
  induction xs with
  | nil => simp [flatC]
  | cons x xs ih => simp only [flatC, List.flatMap_cons, List.length_append, List.length_cons, hl] at *; rw [ih, Nat.add_mul]; omega
theorem flatC_chunks (hl : ∀ x, (f x).length = sz) (xs : List α) : Chunks (Enc.flat sz f hp hl ho) w D xs (flatC f xs) := by
  induction xs with
  | nil => exact .nil
  | cons x xs ih => exact Chunks.cons (rfl : (Enc.flat sz f hp hl ho).R w D x (f x)) ih
theorem chunks_flatC {xs : List α} {cs : List Value} (h : Chunks (Enc.flat sz f hp hl ho) w D xs cs) : cs = flatC f xs := by
  have h2 := flatC_chunks (w := w) (D := D) (hp := hp) (ho := ho) hl xs
  apply List.ext_getElem?
  intro j
  by_cases hj : j < cs.length
  · have hjx : j / sz < xs.length := by rw [h.1] at hj; exact Nat.div_lt_of_lt_mul (by rw [Nat.mul_comm]; exact hj)
    obtain ⟨x, hx⟩ : ∃ x, xs[j / sz]? = some x := ⟨_, List.getElem?_eq_getElem hjx⟩
    obtain ⟨vs, rfl, h3⟩ := h.2 _ x hx
    obtain ⟨us, rfl, h4⟩ := h2.2 _ x hx
    have hm : j % sz < (f x).length := by rw [hl]; exact Nat.mod_lt _ hp
    have e : j / sz * sz + j % sz = j := Nat.div_add_mod' j sz
    have h5 := h3 (j % sz) _ (List.getElem?_eq_getElem hm)
    have h6 := h4 (j % sz) _ (List.getElem?_eq_getElem hm)
    rw [show j / sz * (Enc.flat sz f hp hl ho).sz + j % sz = j from e] at h5 h6
    rw [h5, h6]
  · rw [List.getElem?_eq_none (by omega), List.getElem?_eq_none (by rw [flatC_len hl]; have := h.1; show xs.length * sz ≤ j; rw [show cs.length = xs.length * sz from this] at hj; omega)]
theorem Own.raw {e : TypeId} {a : Addr} {cap : Nat} {xs : List α} (h : Own (Enc.flat sz f hp hl ho) e w D (some a) cap xs) : ∃ g rest, a = ⟨g, 0, none⟩ ∧ Blk w g (flatC f xs ++ rest) e ∧ (flatC f xs ++ rest).length = cap * sz ∧ xs.length ≤ cap ∧ cap ≤ 9223372036854775807 ∧ D g := by
  obtain ⟨cs, h1, h2, h3⟩ := h
  rcases h1.2 with ⟨h4, _⟩ | ⟨g, cp, cur, h4, h5, h6, h7, h8, h9, h10⟩
  · simp at h4
  · simp only [Value.slice.injEq, Option.some.injEq] at h4
    obtain ⟨rfl, _, rfl⟩ := h4
    have hcs := chunks_flatC h3
    subst hcs
    replace h10 : List.take (xs.length * sz) cur.toList = flatC f xs := h10
    replace h9 : cur.size = cap * sz := h9
    refine ⟨g, cur.toList.drop (xs.length * sz), rfl, ?_, ?_, h7, by simpa [maxLen] using h8, h2 g (by simp [ob])⟩
    · rw [← h10, List.take_append_drop]; exact h6
    · rw [← h10, List.take_append_drop]; simpa using h9
theorem Own.of_raw {e : TypeId} {g cap : Nat} {xs : List α} {rest : List Value} (hb : Blk w g (flatC f xs ++ rest) e) (hlen : (flatC f xs ++ rest).length = cap * sz) (hle : xs.length ≤ cap) (hcap : cap ≤ 9223372036854775807) (hD : D g) : Own (Enc.flat sz f hp hl ho) e w D (some ⟨g, 0, none⟩) cap xs := by
  refine ⟨flatC f xs, ⟨flatC_len hl xs, .inr ⟨g, cap, _, rfl, Nat.zero_le _, hb, hle, by simpa [maxLen] using hcap, (show Array.size ⟨flatC f xs ++ rest⟩ = cap * sz from by simpa using hlen), ?_⟩⟩, fun k hk => by simp [ob] at hk; subst hk; exact hD, flatC_chunks hl xs⟩
  show (flatC f xs ++ rest).take (xs.length * sz) = flatC f xs
  rw [← flatC_len hl xs, List.take_left]
end flat
end Go.Proofs.YtncnalboiljgiaaGreat.K
namespace Go.Proofs.YtncnalboiljgiaaGreat.K
open Go
section rules
variable {P : Program} {r : Option Nat} {n : Nat} {O : Array Oper} {Q : Post} {l : List Oper} {E : Env} {ds : List Deferred} {w : World} {dst : Option Nat} {ty : TypeId} {pos : String} {af : Array Edge} {g : Option (Nat × Bool)}
theorem st_append0 {t e : TypeId} {x y : Operand} {m cap c sz bytes : Nat} {A B : Option Addr} (hS : sliceB P t e sz bytes) (hx : ev E x = .slice B m cap) (hy : ev E y = .slice A 0 c) (hm : m ≤ cap)
    (h : wops P r n O Q l (updo E dst (.slice B m cap)) ds w) : wop P r n O Q ⟨dst, .call ⟨.builtin .append, #[x, y], #[t, t]⟩, ty, pos, af, g⟩ l E ds w := by
  refine wop_run (fun _ => by simp) ?_ h
  obtain ⟨ht, hi0, i0, z, hi, hzz, hzs⟩ := hS
  have ha : (Builtin.append_ #[t, t] ty #[.slice B m cap, .slice A 0 c]).run P w = .ok (.slice B m cap) w := by
    cases A <;> cases B <;> simp [Builtin.append_, run_underlying ht, sizeOf, typeInfo, hi, Builtin.lenOf, Builtin.firstCells, hm, storeCells, loadCells, loadCellsFrom, go_sem]
  simp only [execOp, resolve, invoke, builtin, List.map_toArray, List.map_cons, List.map_nil, hx, hy, Sem.run_bind, Sem.run_pure, ha, Result.andThen]
end rules
end Go.Proofs.YtncnalboiljgiaaGreat.K
