/- The walk's own rules: a function's code is walked over an environment (a function from slots to values), one lemma an operation; no program is named here. -/
import Derived.WalkKit
import Derived.RangeFuncNested
import Derived.RangeFuncBound
import Derived.RangeFuncCalls
import Derived.RangeFuncLeaves
import Derived.Deep.LoopGhost
import Derived.TacticsInMore
set_option linter.unusedVariables false
set_option linter.unusedSimpArgs false
set_option autoImplicit false
namespace Go.Proofs.YtmbbhgglllfelaaDoor.K
open Go

abbrev Env := Nat → Value
def upd (E : Env) (d : Nat) (v : Value) : Env := fun i => bif Nat.beq i d then v else E i
def upds (E : Env) : List (Nat × Value) → Env
  | [] => E
  | (d, v) :: r => upds (upd E d v) r
def over (E : Env) (S : List Nat) (G : Env) : Env := fun i => bif S.contains i then G i else E i
def ev (E : Env) : Operand → Value
  | .tmp t => E t
  | .const v => v
  | .global g => .pointer (some ⟨g, 0, none⟩)
  | .func f => .func (.func f) #[] #[]
def env (a : Act) : Env := fun i => a.tmps.getD i undef
def argEnv (vs : List Value) : Env := fun i => vs.getD i undef
theorem ev_env (a : Act) : a.eval = ev (env a) := by funext x; cases x <;> rfl
theorem upd_same (E : Env) (d : Nat) (v : Value) : upd E d v d = v := by simp [upd]
theorem upd_other (E : Env) (d i : Nat) (v : Value) (h : i ≠ d) : upd E d v i = E i := by
  have : Nat.beq i d = false := by
    cases hb : Nat.beq i d with
    | true => exact absurd (Nat.eq_of_beq_eq_true hb) h
    | false => rfl
  simp [upd, this]
theorem env_put (a : Act) (d : Nat) (v : Value) (h : d < a.tmps.size) : env (a.put (some d) v) = upd (env a) d v := by
  funext i
  by_cases e : i = d
  · subst e; rw [upd_same]; simp [env, Act.put, Array.getD_eq_getD_getElem?, h]
  · rw [upd_other _ _ _ _ e]
    simp only [env, Act.put, Array.getD_eq_getD_getElem?]
    rw [Array.getElem?_setIfInBounds_ne (by omega)]
theorem put_size (a : Act) (d : Option Nat) (v : Value) : (a.put d v).tmps.size = a.tmps.size := by cases d <;> simp [Act.put]
theorem put_defers (a : Act) (d : Option Nat) (v : Value) : (a.put d v).defers = a.defers := by cases d <;> rfl
def updo (E : Env) : Option Nat → Value → Env
  | some d, v => upd E d v
  | none, _ => E
theorem env_puto (a : Act) (d : Option Nat) (v : Value) (h : ∀ k, d = some k → k < a.tmps.size) : env (a.put d v) = updo (env a) d v := by
  cases d with
  | none => rfl
  | some k => exact env_put a k v (h k rfl)

/-- Every function may be called; the frame is a round's frame where r says so. -/
def WF (r : Option Nat) : Fence := { Fence.wide with round := r }
theorem WF_none : WF none = Fence.wide := rfl
abbrev Post := Exit → Env → List Deferred → World → Prop
def toQ (n : Nat) (Q : Post) : Exit → Act → World → Prop := fun e a w => a.tmps.size = n ∧ Q e (env a) a.defers w
def wp (P : Program) (r : Option Nat) (n : Nat) (c : Code) (Q : Post) (E : Env) (ds : List Deferred) (w : World) : Prop :=
  ∀ a : Act, a.tmps.size = n → env a = E → a.defers = ds → c.wpIn (WF r) 0 P (toQ n Q) a w
def thenP (K : Env → List Deferred → World → Prop) (Q : Post) : Post
  | .normal, E, ds, w => K E ds w
  | .exit id, E, ds, w => Q (.exit id) E ds w
  | .goto id, E, ds, w => Q (.goto id) E ds w
  | .ret, E, ds, w => Q .ret E ds w
  | .panic c, E, ds, w => Q (.panic c) E ds w
  | .outgrown, E, ds, w => Q .outgrown E ds w
def blockP (id : Nat) (Q : Post) : Post
  | .exit id', E, ds, w => if id' = id then Q .normal E ds w else Q (.exit id') E ds w
  | .normal, E, ds, w => Q .normal E ds w
  | .goto l, E, ds, w => Q (.goto l) E ds w
  | .ret, E, ds, w => Q .ret E ds w
  | .panic c, E, ds, w => Q (.panic c) E ds w
  | .outgrown, E, ds, w => Q .outgrown E ds w

theorem then_n {K : Env → List Deferred → World → Prop} {Q : Post} {E : Env} {ds : List Deferred} {w : World} (h : K E ds w) : thenP K Q .normal E ds w := h
theorem then_r {K : Env → List Deferred → World → Prop} {Q : Post} {E : Env} {ds : List Deferred} {w : World} (h : Q .ret E ds w) : thenP K Q .ret E ds w := h
theorem then_x {K : Env → List Deferred → World → Prop} {Q : Post} {i : Nat} {E : Env} {ds : List Deferred} {w : World} (h : Q (.exit i) E ds w) : thenP K Q (.exit i) E ds w := h
theorem block_n {i : Nat} {Q : Post} {E : Env} {ds : List Deferred} {w : World} (h : Q .normal E ds w) : blockP i Q .normal E ds w := h
theorem block_r {i : Nat} {Q : Post} {E : Env} {ds : List Deferred} {w : World} (h : Q .ret E ds w) : blockP i Q .ret E ds w := h
theorem block_x {i : Nat} {Q : Post} {E : Env} {ds : List Deferred} {w : World} (h : Q .normal E ds w) : blockP i Q (.exit i) E ds w := by simp only [blockP, if_true]; exact h
theorem block_o {i j : Nat} {Q : Post} {E : Env} {ds : List Deferred} {w : World} (hn : Nat.beq j i = false) (h : Q (.exit j) E ds w) : blockP i Q (.exit j) E ds w := by
  simp only [blockP]; rw [if_neg (fun e => by subst e; simp at hn)]; exact h
section rules
variable {P : Program} {r : Option Nat} {n : Nat} {Q : Post} {E : Env} {ds : List Deferred} {w : World}
theorem x_mono {c : Code} {Q' : Post} (h : wp P r n c Q E ds w) (hq : ∀ e E ds w, Q e E ds w → Q' e E ds w) : wp P r n c Q' E ds w :=
  fun a h1 h2 h3 => wpIn_mono (h a h1 h2 h3) fun e a w ⟨q1, q2⟩ => ⟨q1, hq _ _ _ _ q2⟩
theorem x_skip (h : Q .normal E ds w) : wp P r n .skip Q E ds w := fun a h1 h2 h3 => wpIn_skip ⟨h1, by rw [h2, h3]; exact h⟩
theorem x_label {l : Nat} (h : Q .normal E ds w) : wp P r n (.label l) Q E ds w := fun a h1 h2 h3 => wpIn_label ⟨h1, by rw [h2, h3]; exact h⟩
theorem x_exit {id : Nat} (h : Q (.exit id) E ds w) : wp P r n (.exit id) Q E ds w := fun a h1 h2 h3 => wpIn_exit ⟨h1, by rw [h2, h3]; exact h⟩
theorem x_ret (h : Q .ret E ds w) : wp P r n .ret Q E ds w := fun a h1 h2 h3 => wpIn_ret ⟨h1, by rw [h2, h3]; exact h⟩
theorem x_seq {x y : Code} (h : wp P r n x (thenP (wp P r n y Q) Q) E ds w) : wp P r n (.seq x y) Q E ds w := by
  intro a h1 h2 h3
  refine wpIn_seq (wpIn_mono (h a h1 h2 h3) ?_)
  rintro e a' w' ⟨q1, q2⟩
  cases e with
  | normal => exact q2 a' q1 rfl rfl
  | _ => exact ⟨q1, q2⟩
theorem x_cond {c : Operand} {x y : Code} {t : Bool} (hc : ev E c = .bool t) (ht : t = true → wp P r n x Q E ds w) (hf : t = false → wp P r n y Q E ds w) :
    wp P r n (.cond c x y) Q E ds w := by
  intro a h1 h2 h3
  refine wpIn_cond_split (t := t) (by rw [ev_env, h2]; exact hc) (fun h => ht h a h1 h2 h3) (fun h => hf h a h1 h2 h3)
theorem x_block {id : Nat} {c : Code} (h : wp P r n c (blockP id Q) E ds w) : wp P r n (.block id c) Q E ds w := by
  intro a h1 h2 h3
  refine wpIn_block (wpIn_mono (h a h1 h2 h3) ?_)
  rintro e a' w' ⟨q1, q2⟩
  cases e with
  | exit id' =>
    simp only [blockP] at q2
    simp only [Exit.inBlock]
    split
    · rename_i hh; rw [if_pos hh] at q2; exact ⟨q1, q2⟩
    · rename_i hh; rw [if_neg hh] at q2; exact ⟨q1, q2⟩
  | _ => exact ⟨q1, q2⟩

/-! ### loops -/
def Agree (S : List Nat) (E1 E : Env) : Prop := ∀ i, S.contains i = false → E1 i = E i
theorem agree_refl {S : List Nat} {E : Env} : Agree S E E := fun _ _ => rfl
theorem agree_over {S : List Nat} {E G : Env} : Agree S (over E S G) E := fun i h => by simp only [over, h]; rfl
theorem agree_upd {S : List Nat} {E1 E : Env} {d : Nat} {v : Value} (h : Agree S E1 E) (hd : S.contains d = true) : Agree S (upd E1 d v) E := fun i hi => by
  rw [upd_other _ _ _ _ (fun e => by subst e; rw [hd] at hi; cases hi)]; exact h i hi
theorem agree_upds {S : List Nat} {E : Env} : ∀ {L : List (Nat × Value)} {E1 : Env}, Agree S E1 E → (L.all fun p => S.contains p.1) = true → Agree S (upds E1 L) E
  | [], _, h, _ => h
  | (d, v) :: r, _, h, hs => by
    simp only [List.all_cons, Bool.and_eq_true] at hs
    exact agree_upds (L := r) (agree_upd h hs.1) hs.2
def Holds (E : Env) : List (Nat × Value) → Prop
  | [] => True
  | (d, v) :: r => E d = v ∧ Holds E r
theorem holds_upd {E : Env} : ∀ {L : List (Nat × Value)} {E1 : Env}, Holds E L → (∀ i, (L.any fun p => Nat.beq i p.1) = false → E1 i = E i) → upds E1 L = E
  | [], E1, _, h => funext fun i => h i rfl
  | (d, v) :: r, E1, hh, h => by
    simp only [upds]
    refine holds_upd (L := r) hh.2 fun i hi => ?_
    by_cases e : i = d
    · subst e; rw [upd_same]; exact hh.1.symm
    · rw [upd_other _ _ _ _ e]
      refine h i ?_
      simp only [List.any_cons, hi, Bool.or_false]
      cases hb : Nat.beq i d with
      | true => exact absurd (Nat.eq_of_beq_eq_true hb) e
      | false => rfl
theorem env_of_agree {S : List Nat} {E1 E : Env} {L : List (Nat × Value)} (ha : Agree S E1 E) (hh : Holds E1 L) : upds (over E S E1) L = E1 :=
  holds_upd hh fun i _ => by
    cases hc : S.contains i with
    | true => simp only [over, hc]; rfl
    | false => simp only [over, hc]; exact (ha i hc).symm

/-- A loop: x is the proof's own count of where the loop stands; L says what the live slots hold; S lists the slots that the body writes. -/
theorem x_loop {c : Code} {ι : Type} (S : List Nat) (L : ι → List (Nat × Value)) (I : ι → World → Prop) (μ : ι → Nat) (x0 : ι) (h0 : Holds E (L x0)) (hI : I x0 w)
    (round : ∀ x G w, I x w → wp P r n c (thenP (fun E' ds' w' => ∃ x', I x' w' ∧ μ x' < μ x ∧ ds' = ds ∧ Holds E' (L x') ∧ Agree S E' E) Q) (upds (over E S G) (L x)) ds w) :
    wp P r n (.loop c) Q E ds w := by
  intro a h1 h2 h3
  let J : Nat → Act → World → Prop := fun m a w => ∃ x, μ x = m ∧ I x w ∧ a.tmps.size = n ∧ a.defers = ds ∧ Holds (env a) (L x) ∧ Agree S (env a) E
  refine wpIn_loop (fun a w => ∃ m, J m a w) (fun a w => leastOf (fun m => J m a w)) ⟨μ x0, x0, rfl, hI, h1, h3, by rw [h2]; exact h0, by rw [h2]; exact agree_refl⟩ ?_
  intro a w hm
  obtain ⟨⟨x, hx, hi, h1, h3, hh, ha⟩, _⟩ := leastOf_spec hm
  refine wpIn_mono (round x (env a) w hi a h1 (env_of_agree ha hh).symm h3) ?_
  rintro e a' w' ⟨q1, q2⟩
  cases e with
  | normal =>
    obtain ⟨x', hi', hlt, hd, hh', ha'⟩ := q2
    have hJ : J (μ x') a' w' := ⟨x', rfl, hi', q1, hd, hh', ha'⟩
    refine ⟨⟨_, hJ⟩, ?_⟩
    show leastOf (fun m => J m a' w') < leastOf (fun m => J m a w)
    have := (leastOf_spec (p := fun m => J m a' w') ⟨_, hJ⟩).2 _ hJ
    omega
  | _ => exact ⟨q1, q2⟩

/-! ### regions -/
def okd (n : Nat) (o : Oper) : Bool := match o.dst with | some d => Nat.blt d n | none => true
def wops (P : Program) (r : Option Nat) (n : Nat) (O : Array Oper) (Q : Post) (l : List Oper) (E : Env) (ds : List Deferred) (w : World) : Prop :=
  l.all (okd n) = true → ∀ a : Act, a.tmps.size = n → env a = E → a.defers = ds → wpListIn (WF r) 0 P O (toQ n Q) l a w
def wop (P : Program) (r : Option Nat) (n : Nat) (O : Array Oper) (Q : Post) (o : Oper) (l : List Oper) (E : Env) (ds : List Deferred) (w : World) : Prop :=
  okd n o = true → l.all (okd n) = true → ∀ a : Act, a.tmps.size = n → env a = E → a.defers = ds → o.wpIn (WF r) 0 P a w (wpListIn (WF r) 0 P O (toQ n Q) l) (toQ n Q)
theorem x_region {id : Nat} {l : List Oper} (hok : l.all (okd n) = true) (h : wops P r n l.toArray Q l E ds w) : wp P r n (.region id l.toArray false) Q E ds w := by
  intro a h1 h2 h3
  refine wpIn_region ?_
  have := wpOpsIn_eq_wpListIn (F := WF r) (n := 0) (P := P) (ops := l.toArray) (Q := toQ n Q) l 0 (by simp)
  rw [List.size_toArray, List.range_eq_range', this]
  exact h hok a h1 h2 h3
theorem wops_nil {O : Array Oper} (h : Q .normal E ds w) : wops P r n O Q [] E ds w := fun _ a h1 h2 h3 => ⟨h1, by rw [h2, h3]; exact h⟩
/-- Does the guard let the operation be carried out? -/
def gd (O : Array Oper) (E : Env) : Option (Nat × Bool) → Option Bool
  | none => some true
  | some (j, b) => match (O[j]?).bind (·.dst) with
    | some d => match E d with
      | .bool c => some (c == b)
      | .tuple _ => some false
      | _ => none
    | none => none
theorem yielded_env {O : Array Oper} {a : Act} {j d : Nat} (hj : (O[j]?).bind (·.dst) = some d) (hd : d < a.tmps.size) : yielded O a.tmps j = match env a d with | .bool b => some b | _ => none := by
  simp only [yielded, hj, Option.bind_some, env]
  rw [Array.getD_eq_getD_getElem?, Array.getElem?_eq_getElem hd]
  simp only [Option.getD_some]
  cases a.tmps[d] <;> rfl
/-- An operation without a guard. -/
theorem w_plain {O : Array Oper} {o : Oper} {l : List Oper} (hg : o.guard = none) (h : wop P r n O Q o l E ds w) : wops P r n O Q (o :: l) E ds w := by
  intro hok a h1 h2 h3
  simp only [List.all_cons, Bool.and_eq_true] at hok
  simp only [wpListIn]
  rw [if_pos (by simp [Region.wanted, hg])]
  exact h hok.1 hok.2 a h1 h2 h3
/-- A guarded operation whose guard says yes: the guard's slot j is written by operation k. -/
theorem w_yes {O : Array Oper} {o : Oper} {l : List Oper} (k d : Nat) (b : Bool) (h : wop P r n O Q o l E ds w)
    (hg : o.guard = some (k, b) := by rfl) (hk : (O[k]?).bind (·.dst) = some d := by rfl) (hd : Nat.blt d n = true := by rfl) (he : E d = .bool b := by rfl) : wops P r n O Q (o :: l) E ds w := by
  intro hok a h1 h2 h3
  simp only [List.all_cons, Bool.and_eq_true] at hok
  simp only [wpListIn]
  have hd' : d < a.tmps.size := by rw [h1]; simpa [Nat.blt_eq] using hd
  rw [if_pos (by simp [Region.wanted, hg, yielded_env hk hd', h2, he])]
  exact h hok.1 hok.2 a h1 h2 h3
/-- A guarded operation that is passed over. -/
theorem w_no {O : Array Oper} {o : Oper} {l : List Oper} (k d : Nat) (b : Bool) (h : wops P r n O Q l (updo E o.dst undef) ds w)
    (hg : o.guard = some (k, b) := by rfl) (hk : (O[k]?).bind (·.dst) = some d := by rfl) (hd : Nat.blt d n = true := by rfl) (he : E d = .bool (!b) ∨ E d = undef := by first | exact .inl rfl | exact .inr rfl) : wops P r n O Q (o :: l) E ds w := by
  intro hok a h1 h2 h3
  simp only [List.all_cons, Bool.and_eq_true] at hok
  simp only [wpListIn]
  have hd' : d < a.tmps.size := by rw [h1]; simpa [Nat.blt_eq] using hd
  have hw : Region.wanted o (yielded O a.tmps) = false := by
    rcases he with he | he <;> simp [Region.wanted, hg, yielded_env hk hd', h2, he, undef]
  rw [if_neg (by rw [hw]; simp)]
  refine ⟨fun _ _ => trivial, h hok.2 _ (by rw [put_size]; exact h1) ?_ (by rw [put_defers]; exact h3)⟩
  rw [env_puto _ _ _ (fun k hk' => by
    have := hok.1; simp only [okd, hk'] at this; rw [h1]; simpa [Nat.blt_eq] using this), h2]
/-- What an operation that is run does: a value, and the world behind it. -/
theorem wop_run {O : Array Oper} {o : Oper} {l : List Oper} {v : Value} {w' : World} (hd : ∀ c, o.op ≠ .defer c) (hrun : (execOp (ev E) o).run P w = .ok (.value v) w')
    (h : wops P r n O Q l (updo E o.dst v) ds w') : wop P r n O Q o l E ds w := by
  intro hok hl a h1 h2 h3
  refine ⟨fun _ _ => trivial, ?_⟩
  rw [ev_env, h2, Oper.semAt_eq _ _ _ hd, hrun]
  refine h hl _ (by rw [put_size]; exact h1) ?_ (by rw [put_defers]; exact h3)
  rw [env_puto _ _ _ (fun k hk' => by simp only [okd, hk'] at hok; rw [h1]; simpa [Nat.blt_eq] using hok), h2]
theorem wop_skip {O : Array Oper} {o : Oper} {l : List Oper} {w' : World} (hd : ∀ c, o.op ≠ .defer c) (hrun : (execOp (ev E) o).run P w = .ok .skip w')
    (h : wops P r n O Q l (updo E o.dst undef) ds w') : wop P r n O Q o l E ds w := by
  intro hok hl a h1 h2 h3
  refine ⟨fun _ _ => trivial, ?_⟩
  rw [ev_env, h2, Oper.semAt_eq _ _ _ hd, hrun]
  refine h hl _ (by rw [put_size]; exact h1) ?_ (by rw [put_defers]; exact h3)
  rw [env_puto _ _ _ (fun k hk' => by simp only [okd, hk'] at hok; rw [h1]; simpa [Nat.blt_eq] using hok), h2]
/-- A function's contract: it returns a value of which Φ holds. -/
def CallR (P : Program) (f : FuncId) (args : Array Value) (w : World) (Φ : Value → World → Prop) : Prop := Calls P f args w fun e w' => ∃ v, e = .returned v ∧ Φ v w'
theorem CallR.mono {f : FuncId} {args : Array Value} {Φ Ψ : Value → World → Prop} (h : CallR P f args w Φ) (hm : ∀ v w', Φ v w' → Ψ v w') : CallR P f args w Ψ :=
  fun cs => let ⟨e, w', fr, ⟨v, e1, h1⟩, h2⟩ := h cs; ⟨e, w', fr, ⟨v, e1, hm _ _ h1⟩, h2⟩
theorem callsIn_of_calls {f : FuncId} {args : Array Value} {R : Ending → World → Prop} (h : Calls P f args w R) : CallsIn (WF r) 0 P f args w R := by
  have h1 : CallsIn Fence.wide 0 P f args w R := callsIn_wide.2 h
  cases r with
  | none => exact h1
  | some l => exact CallsIn.inRound l h1
theorem wop_enter {O : Array Oper} {o : Oper} {l : List Oper} {f : FuncId} {args : Array Value} {w1 : World} {Φ : Value → World → Prop} (hd : ∀ c, o.op ≠ .defer c) (hrun : (execOp (ev E) o).run P w = .ok (.enter f args) w1)
    (hc : CallR P f args w1 Φ) (h : ∀ v w', Φ v w' → wops P r n O Q l (updo E o.dst v) ds w') : wop P r n O Q o l E ds w := by
  intro hok hl a h1 h2 h3
  refine ⟨fun _ _ => trivial, ?_⟩
  rw [ev_env, h2, Oper.semAt_eq _ _ _ hd, hrun]
  refine ⟨fun hh => by simp [WF, Fence.wide] at hh, CallsIn.mono (callsIn_of_calls hc) ?_⟩
  rintro e w' ⟨v, rfl, hv⟩
  refine h v w' hv hl _ (by rw [put_size]; exact h1) ?_ (by rw [put_defers]; exact h3)
  rw [env_puto _ _ _ (fun k hk' => by simp only [okd, hk'] at hok; rw [h1]; simpa [Nat.blt_eq] using hok), h2]

/-! ### a function from its body -/
def retP (P : Program) (fn : Func) (Φ : Value → World → Prop) : Post
  | .normal, E, ds, w => ds = [] ∧ ∀ a : Act, env a = E → ∃ v, (results fn a.tmps).run P w = .ok v w ∧ Φ v w
  | .ret, E, ds, w => ds = [] ∧ ∀ a : Act, env a = E → ∃ v, (results fn a.tmps).run P w = .ok v w ∧ Φ v w
  | .exit _, _, _, _ => False
  | .goto _, _, _, _ => False
  | .panic _, _, _, _ => False
  | .outgrown, _, _, _ => False
theorem callR_of_wp {f : FuncId} {fn : Func} {c : Code} {args : List Value} {Φ : Value → World → Prop} (hf : P.funcs[f]? = some fn) (hb : fn.body = some c) (hn : args.length ≤ fn.ntmps)
    (h : wp P none fn.ntmps c (retP P fn Φ) (argEnv args) [] w) : CallR P f args.toArray w Φ := by
  refine callsIn_wide.1 (callsIn_of_wp (n := 0) hf hb trivial ?_)
  refine wpIn_mono (h _ ?_ ?_ rfl) ?_
  · simp; omega
  · funext i
    simp only [env, argEnv, Array.getD_eq_getD_getElem?, List.getD_eq_getElem?_getD, List.size_toArray]
    by_cases hi : i < args.length
    · rw [Array.getElem?_append_left (by simpa using hi)]; simp
    · rw [Array.getElem?_append_right (by simpa using hi)]
      rw [List.getElem?_eq_none (by omega)]
      simp only [Array.getElem?_replicate, List.size_toArray]
      split <;> rfl
  · rintro e a' w' ⟨q1, q2⟩
    cases e with
    | normal => obtain ⟨hd, q⟩ := q2; obtain ⟨v, hv, hΦ⟩ := q a' rfl; exact ⟨hd, v, hv, v, rfl, hΦ⟩
    | ret => obtain ⟨hd, q⟩ := q2; obtain ⟨v, hv, hΦ⟩ := q a' rfl; exact ⟨hd, v, hv, v, rfl, hΦ⟩
    | _ => exact q2.elim
end rules
end Go.Proofs.YtmbbhgglllfelaaDoor.K
