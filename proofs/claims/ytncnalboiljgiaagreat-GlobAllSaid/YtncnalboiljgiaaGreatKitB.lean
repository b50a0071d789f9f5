import Derived.WalkKit
import Derived.RangeFuncNested
import Derived.RangeFuncBound
import Derived.RangeFuncCalls
import Derived.RangeFuncLeaves
import Derived.Deep.LoopGhost
import Derived.TacticsInMore
import Derived.WalkLawsBesides
import Derived.WalkSpells
import Derived.Lib.Strings
set_option linter.unusedVariables false
set_option linter.unusedSimpArgs false
set_option autoImplicit false
namespace Go.Proofs.YtncnalboiljgiaaGreat.K
open Go
abbrev Env := Nat → Value
def upd (E : Env) (d : Nat) (v : Value) : Env := fun i => bif Nat.beq i d then v else E i
def upds (E : Env) : List (Nat × Value) → Env
  | [] => E
  | (d, v) :: r => upds (upd E d v) r
def over (E : Env) (S : List Nat) (G : Env) : Env := fun i => bif S.contains i then G i else E i
def ev (E : Env) : Operand → Value
  | .tmp t => E t
  | .const v => v
  | .global g => .pointer (some ⟨g, 0, none⟩)
  | .func f => .func (.func f) #[] #[]
def env (a : Act) : Env := fun i => a.tmps.getD i undef
def argEnv (vs : List Value) : Env := fun i => vs.getD i undef
theorem ev_env (a : Act) : a.eval = ev (env a) := by funext x; cases x <;> rfl
theorem upd_same (E : Env) (d : Nat) (v : Value) : upd E d v d = v := by simp [upd]
theorem upd_other (E : Env) (d i : Nat) (v : Value) (h : i ≠ d) : upd E d v i = E i := by
  have : Nat.beq i d = false := by
    cases hb : Nat.beq i d with
    | true => exact absurd (Nat.eq_of_beq_eq_true hb) h
    | false => rfl
  simp [upd, this]
theorem env_put (a : Act) (d : Nat) (v : Value) (h : d < a.tmps.size) : env (a.put (some d) v) = upd (env a) d v := by
  funext i
  by_cases e : i = d
  · subst e; rw [upd_same]; simp [env, Act.put, Array.getD_eq_getD_getElem?, h]
  · rw [upd_other _ _ _ _ e]
    simp only [env, Act.put, Array.getD_eq_getD_getElem?]
    rw [Array.getElem?_setIfInBounds_ne (by omega)]
theorem put_size (a : Act) (d : Option Nat) (v : Value) : (a.put d v).tmps.size = a.tmps.size := by cases d <;> simp [Act.put]
theorem put_defers (a : Act) (d : Option Nat) (v : Value) : (a.put d v).defers = a.defers := by cases d <;> rfl
def updo (E : Env) : Option Nat → Value → Env
  | some d, v => upd E d v
  | none, _ => E
theorem env_puto (a : Act) (d : Option Nat) (v : Value) (h : ∀ k, d = some k → k < a.tmps.size) : env (a.put d v) = updo (env a) d v := by
  cases d with
  | none => rfl
  | some k => exact env_put a k v (h k rfl)
def WF (r : Option Nat) : Fence := { Fence.wide with round := r }
abbrev Post := Exit → Env → List Deferred → World → Prop
def toQ (n : Nat) (Q : Post) : Exit → Act → World → Prop := fun e a w => a.tmps.size = n ∧ Q e (env a) a.defers w
def wp (P : Program) (r : Option Nat) (n : Nat) (c : Code) (Q : Post) (E : Env) (ds : List Deferred) (w : World) : Prop :=
  ∀ a : Act, a.tmps.size = n → env a = E → a.defers = ds → c.wpIn (WF r) 0 P (toQ n Q) a w
def thenP (K : Env → List Deferred → World → Prop) (Q : Post) : Post
  | .normal, E, ds, w => K E ds w
  | .exit id, E, ds, w => Q (.exit id) E ds w
  | .goto id, E, ds, w => Q (.goto id) E ds w
  | .ret, E, ds, w => Q .ret E ds w
  | .panic c, E, ds, w => Q (.panic c) E ds w
  | .outgrown, E, ds, w => Q .outgrown E ds w
def blockP (id : Nat) (Q : Post) : Post
  | .exit id', E, ds, w => if id' = id then Q .normal E ds w else Q (.exit id') E ds w
  | .normal, E, ds, w => Q .normal E ds w
  | .goto l, E, ds, w => Q (.goto l) E ds w
  | .ret, E, ds, w => Q .ret E ds w
  | .panic c, E, ds, w => Q (.panic c) E ds w
  | .outgrown, E, ds, w => Q .outgrown E ds w
theorem then_n {K : Env → List Deferred → World → Prop} {Q : Post} {E : Env} {ds : List Deferred} {w : World} (h : K E ds w) : thenP K Q .normal E ds w := h
theorem then_r {K : Env → List Deferred → World → Prop} {Q : Post} {E : Env} {ds : List Deferred} {w : World} (h : Q .ret E ds w) : thenP K Q .ret E ds w := h
theorem then_x {K : Env → List Deferred → World → Prop} {Q : Post} {i : Nat} {E : Env} {ds : List Deferred} {w : World} (h : Q (.exit i) E ds w) : thenP K Q (.exit i) E ds w := h
theorem block_n {i : Nat} {Q : Post} {E : Env} {ds : List Deferred} {w : World} (h : Q .normal E ds w) : blockP i Q .normal E ds w := h
theorem block_r {i : Nat} {Q : Post} {E : Env} {ds : List Deferred} {w : World} (h : Q .ret E ds w) : blockP i Q .ret E ds w := h
theorem block_x {i : Nat} {Q : Post} {E : Env} {ds : List Deferred} {w : World} (h : Q .normal E ds w) : blockP i Q (.exit i) E ds w := by simp only [blockP, if_true]; exact h
theorem block_o {i j : Nat} {Q : Post} {E : Env} {ds : List Deferred} {w : World} (hn : Nat.beq j i = false) (h : Q (.exit j) E ds w) : blockP i Q (.exit j) E ds w := by
  simp only [blockP]; rw [if_neg (fun e => by subst e; simp at hn)]; exact h
section rules
variable {P : Program} {r : Option Nat} {n : Nat} {Q : Post} {E : Env} {ds : List Deferred} {w : World}
theorem x_mono {c : Code} {Q' : Post} (h : wp P r n c Q E ds w) (hq : ∀ e E ds w, Q e E ds w → Q' e E ds w) : wp P r n c Q' E ds w :=
  fun a h1 h2 h3 => wpIn_mono (h a h1 h2 h3) fun e a w ⟨q1, q2⟩ => ⟨q1, hq _ _ _ _ q2⟩
theorem x_skip (h : Q .normal E ds w) : wp P r n .skip Q E ds w := fun a h1 h2 h3 => wpIn_skip ⟨h1, by rw [h2, h3]; exact h⟩
theorem x_label {l : Nat} (h : Q .normal E ds w) : wp P r n (.label l) Q E ds w := fun a h1 h2 h3 => wpIn_label ⟨h1, by rw [h2, h3]; exact h⟩
theorem x_exit {id : Nat} (h : Q (.exit id) E ds w) : wp P r n (.exit id) Q E ds w := fun a h1 h2 h3 => wpIn_exit ⟨h1, by rw [h2, h3]; exact h⟩
theorem x_ret (h : Q .ret E ds w) : wp P r n .ret Q E ds w := fun a h1 h2 h3 => wpIn_ret ⟨h1, by rw [h2, h3]; exact h⟩
theorem x_seq {x y : Code} (h : wp P r n x (thenP (wp P r n y Q) Q) E ds w) : wp P r n (.seq x y) Q E ds w := by
  intro a h1 h2 h3
  refine wpIn_seq (wpIn_mono (h a h1 h2 h3) ?_)
  rintro e a' w' ⟨q1, q2⟩
  cases e with
  | normal => exact q2 a' q1 rfl rfl
  | _ => exact ⟨q1, q2⟩
theorem x_cond {c : Operand} {x y : Code} {t : Bool} (hc : ev E c = .bool t) (ht : t = true → wp P r n x Q E ds w) (hf : t = false → wp P r n y Q E ds w) :
    wp P r n (.cond c x y) Q E ds w := by
  intro a h1 h2 h3
  refine wpIn_cond_split (t := t) (by rw [ev_env, h2]; exact hc) (fun h => ht h a h1 h2 h3) (fun h => hf h a h1 h2 h3)
theorem x_block {id : Nat} {c : Code} (h : wp P r n c (blockP id Q) E ds w) : wp P r n (.block id c) Q E ds w := by
  intro a h1 h2 h3
  refine wpIn_block (wpIn_mono (h a h1 h2 h3) ?_)
  rintro e a' w' ⟨q1, q2⟩
  cases e with
  | exit id' =>
    simp only [blockP] at q2
    simp only [Exit.inBlock]
    split
    · rename_i hh; rw [if_pos hh] at q2; exact ⟨q1, q2⟩
    · rename_i hh; rw [if_neg hh] at q2; exact ⟨q1, q2⟩
  | _ => exact ⟨q1, q2⟩
def Agree (S : List Nat) (E1 E : Env) : Prop := ∀ i, S.contains i = false → E1 i = E i
theorem agree_refl {S : List Nat} {E : Env} : Agree S E E := fun _ _ => rfl
theorem agree_over {S : List Nat} {E G : Env} : Agree S (over E S G) E := fun i h => by simp only [over, h]; rfl
theorem agree_upd {S : List Nat} {E1 E : Env} {d : Nat} {v : Value} (h : Agree S E1 E) (hd : S.contains d = true) : Agree S (upd E1 d v) E := fun i hi => by
  rw [upd_other _ _ _ _ (fun e => by subst e; rw [hd] at hi; cases hi)]; exact h i hi
theorem agree_upds {S : List Nat} {E : Env} : ∀ {L : List (Nat × Value)} {E1 : Env}, Agree S E1 E → (L.all fun p => S.contains p.1) = true → Agree S (upds E1 L) E
  | [], _, h, _ => h
  | (d, v) :: r, _, h, hs => by
    simp only [List.all_cons, Bool.and_eq_true] at hs
    exact agree_upds (L := r) (agree_upd h hs.1) hs.2
def Holds (E : Env) : List (Nat × Value) → Prop
  | [] => True
  | (d, v) :: r => E d = v ∧ Holds E r
theorem holds_upd {E : Env} : ∀ {L : List (Nat × Value)} {E1 : Env}, Holds E L → (∀ i, (L.any fun p => Nat.beq i p.1) = false → E1 i = E i) → upds E1 L = E
  | [], E1, _, h => funext fun i => h i rfl
  | (d, v) :: r, E1, hh, h => by
    simp only [upds]
    refine holds_upd (L := r) hh.2 fun i hi => ?_
    by_cases e : i = d
    · subst e; rw [upd_same]; exact hh.1.symm
    · rw [upd_other _ _ _ _ e]
      refine h i ?_
      simp only [List.any_cons, hi, Bool.or_false]
      cases hb : Nat.beq i d with
      | true => exact absurd (Nat.eq_of_beq_eq_true hb) e
      | false => rfl
theorem env_of_agree {S : List Nat} {E1 E : Env} {L : List (Nat × Value)} (ha : Agree S E1 E) (hh : Holds E1 L) : upds (over E S E1) L = E1 :=
  holds_upd hh fun i _ => by
    cases hc : S.contains i with
    | true => simp only [over, hc]; rfl
    | false => simp only [over, hc]; exact (ha i hc).symm
theorem x_loop {c : Code} {ι : Type} (S : List Nat) (L : ι → List (Nat × Value)) (I : ι → World → Prop) (μ : ι → Nat) (x0 : ι) (h0 : Holds E (L x0)) (hI : I x0 w)
    (round : ∀ x G w, I x w → wp P r n c (thenP (fun E' ds' w' => ∃ x', I x' w' ∧ μ x' < μ x ∧ ds' = ds ∧ Holds E' (L x') ∧ Agree S E' E) Q) (upds (over E S G) (L x)) ds w) :
    wp P r n (.loop c) Q E ds w := by
  intro a h1 h2 h3
  let J : Nat → Act → World → Prop := fun m a w => ∃ x, μ x = m ∧ I x w ∧ a.tmps.size = n ∧ a.defers = ds ∧ Holds (env a) (L x) ∧ Agree S (env a) E
  refine wpIn_loop (fun a w => ∃ m, J m a w) (fun a w => leastOf (fun m => J m a w)) ⟨μ x0, x0, rfl, hI, h1, h3, by rw [h2]; exact h0, by rw [h2]; exact agree_refl⟩ ?_
  intro a w hm
  obtain ⟨⟨x, hx, hi, h1, h3, hh, ha⟩, _⟩ := leastOf_spec hm
  refine wpIn_mono (round x (env a) w hi a h1 (env_of_agree ha hh).symm h3) ?_
  rintro e a' w' ⟨q1, q2⟩
  cases e with
  | normal =>
    obtain ⟨x', hi', hlt, hd, hh', ha'⟩ := q2
    have hJ : J (μ x') a' w' := ⟨x', rfl, hi', q1, hd, hh', ha'⟩
    refine ⟨⟨_, hJ⟩, ?_⟩
    show leastOf (fun m => J m a' w') < leastOf (fun m => J m a w)
    have := (leastOf_spec (p := fun m => J m a' w') ⟨_, hJ⟩).2 _ hJ
    omega
  | _ => exact ⟨q1, q2⟩
def okd (n : Nat) (o : Oper) : Bool := match o.dst with | some d => Nat.blt d n | none => true
def wops (P : Program) (r : Option Nat) (n : Nat) (O : Array Oper) (Q : Post) (l : List Oper) (E : Env) (ds : List Deferred) (w : World) : Prop :=
  l.all (okd n) = true → ∀ a : Act, a.tmps.size = n → env a = E → a.defers = ds → wpListIn (WF r) 0 P O (toQ n Q) l a w
def wop (P : Program) (r : Option Nat) (n : Nat) (O : Array Oper) (Q : Post) (o : Oper) (l : List Oper) (E : Env) (ds : List Deferred) (w : World) : Prop :=
  okd n o = true → l.all (okd n) = true → ∀ a : Act, a.tmps.size = n → env a = E → a.defers = ds → o.wpIn (WF r) 0 P a w (wpListIn (WF r) 0 P O (toQ n Q) l) (toQ n Q)
theorem x_region {id : Nat} {l : List Oper} (hok : l.all (okd n) = true) (h : wops P r n l.toArray Q l E ds w) : wp P r n (.region id l.toArray false) Q E ds w := by
  intro a h1 h2 h3
  refine wpIn_region ?_
  have := wpOpsIn_eq_wpListIn (F := WF r) (n := 0) (P := P) (ops := l.toArray) (Q := toQ n Q) l 0 (by simp)
  rw [List.size_toArray, List.range_eq_range', this]
  exact h hok a h1 h2 h3
theorem wops_nil {O : Array Oper} (h : Q .normal E ds w) : wops P r n O Q [] E ds w := fun _ a h1 h2 h3 => ⟨h1, by rw [h2, h3]; exact h⟩
def gd (O : Array Oper) (E : Env) : Option (Nat × Bool) → Option Bool
  | none => some true
  | some (j, b) => match (O[j]?).bind (·.dst) with
    | some d => match E d with
      | .bool c => some (c == b)
      | .tuple _ => some false
      | _ => none
    | none => none
theorem yielded_env {O : Array Oper} {a : Act} {j d : Nat} (hj : (O[j]?).bind (·.dst) = some d) (hd : d < a.tmps.size) : yielded O a.tmps j = match env a d with | .bool b => some b | _ => none := by
  simp only [yielded, hj, Option.bind_some, env]
  rw [Array.getD_eq_getD_getElem?, Array.getElem?_eq_getElem hd]
  simp only [Option.getD_some]
  cases a.tmps[d] <;> rfl
theorem w_plain {O : Array Oper} {o : Oper} {l : List Oper} (hg : o.guard = none) (h : wop P r n O Q o l E ds w) : wops P r n O Q (o :: l) E ds w := by
  intro hok a h1 h2 h3
  simp only [List.all_cons, Bool.and_eq_true] at hok
  simp only [wpListIn]
  rw [if_pos (by simp [Region.wanted, hg])]
  exact h hok.1 hok.2 a h1 h2 h3
theorem w_yes {O : Array Oper} {o : Oper} {l : List Oper} (k d : Nat) (b : Bool) (h : wop P r n O Q o l E ds w)
    (hg : o.guard = some (k, b) := by rfl) (hk : (O[k]?).bind (·.dst) = some d := by rfl) (hd : Nat.blt d n = true := by rfl) (he : E d = .bool b := by rfl) : wops P r n O Q (o :: l) E ds w := by
  intro hok a h1 h2 h3
  simp only [List.all_cons, Bool.and_eq_true] at hok
  simp only [wpListIn]
  have hd' : d < a.tmps.size := by rw [h1]; simpa [Nat.blt_eq] using hd
  rw [if_pos (by simp [Region.wanted, hg, yielded_env hk hd', h2, he])]
  exact h hok.1 hok.2 a h1 h2 h3
theorem w_no {O : Array Oper} {o : Oper} {l : List Oper} (k d : Nat) (b : Bool) (h : wops P r n O Q l (updo E o.dst undef) ds w)
    (hg : o.guard = some (k, b) := by rfl) (hk : (O[k]?).bind (·.dst) = some d := by rfl) (hd : Nat.blt d n = true := by rfl) (he : E d = .bool (!b) ∨ E d = undef := by first | exact .inl rfl | exact .inr rfl) : wops P r n O Q (o :: l) E ds w := by
  intro hok a h1 h2 h3
  simp only [List.all_cons, Bool.and_eq_true] at hok
  simp only [wpListIn]
  have hd' : d < a.tmps.size := by rw [h1]; simpa [Nat.blt_eq] using hd
  have hw : Region.wanted o (yielded O a.tmps) = false := by
    rcases he with he | he <;> simp [Region.wanted, hg, yielded_env hk hd', h2, he, undef]
  rw [if_neg (by rw [hw]; simp)]
  refine ⟨fun _ _ => trivial, h hok.2 _ (by rw [put_size]; exact h1) ?_ (by rw [put_defers]; exact h3)⟩
  rw [env_puto _ _ _ (fun k hk' => by
    have := hok.1; simp only [okd, hk'] at this; rw [h1]; simpa [Nat.blt_eq] using this), h2]
theorem wop_run {O : Array Oper} {o : Oper} {l : List Oper} {v : Value} {w' : World} (hd : ∀ c, o.op ≠ .defer c) (hrun : (execOp (ev E) o).run P w = .ok (.value v) w')
    (h : wops P r n O Q l (updo E o.dst v) ds w') : wop P r n O Q o l E ds w := by
  intro hok hl a h1 h2 h3
  refine ⟨fun _ _ => trivial, ?_⟩
  rw [ev_env, h2, Oper.semAt_eq _ _ _ hd, hrun]
  refine h hl _ (by rw [put_size]; exact h1) ?_ (by rw [put_defers]; exact h3)
  rw [env_puto _ _ _ (fun k hk' => by simp only [okd, hk'] at hok; rw [h1]; simpa [Nat.blt_eq] using hok), h2]
theorem wop_skip {O : Array Oper} {o : Oper} {l : List Oper} {w' : World} (hd : ∀ c, o.op ≠ .defer c) (hrun : (execOp (ev E) o).run P w = .ok .skip w')
    (h : wops P r n O Q l (updo E o.dst undef) ds w') : wop P r n O Q o l E ds w := by
  intro hok hl a h1 h2 h3
  refine ⟨fun _ _ => trivial, ?_⟩
  rw [ev_env, h2, Oper.semAt_eq _ _ _ hd, hrun]
  refine h hl _ (by rw [put_size]; exact h1) ?_ (by rw [put_defers]; exact h3)
  rw [env_puto _ _ _ (fun k hk' => by simp only [okd, hk'] at hok; rw [h1]; simpa [Nat.blt_eq] using hok), h2]
def CallR (P : Program) (f : FuncId) (args : Array Value) (w : World) (Φ : Value → World → Prop) : Prop := Calls P f args w fun e w' => ∃ v, e = .returned v ∧ Φ v w'
theorem CallR.mono {f : FuncId} {args : Array Value} {Φ Ψ : Value → World → Prop} (h : CallR P f args w Φ) (hm : ∀ v w', Φ v w' → Ψ v w') : CallR P f args w Ψ :=
  fun cs => let ⟨e, w', fr, ⟨v, e1, h1⟩, h2⟩ := h cs; ⟨e, w', fr, ⟨v, e1, hm _ _ h1⟩, h2⟩
theorem callsIn_of_calls {f : FuncId} {args : Array Value} {R : Ending → World → Prop} (h : Calls P f args w R) : CallsIn (WF r) 0 P f args w R := by
  have h1 : CallsIn Fence.wide 0 P f args w R := callsIn_wide.2 h
  cases r with
  | none => exact h1
  | some l => exact CallsIn.inRound l h1
theorem wop_enter {O : Array Oper} {o : Oper} {l : List Oper} {f : FuncId} {args : Array Value} {w1 : World} {Φ : Value → World → Prop} (hd : ∀ c, o.op ≠ .defer c) (hrun : (execOp (ev E) o).run P w = .ok (.enter f args) w1)
    (hc : CallR P f args w1 Φ) (h : ∀ v w', Φ v w' → wops P r n O Q l (updo E o.dst v) ds w') : wop P r n O Q o l E ds w := by
  intro hok hl a h1 h2 h3
  refine ⟨fun _ _ => trivial, ?_⟩
  rw [ev_env, h2, Oper.semAt_eq _ _ _ hd, hrun]
  refine ⟨fun hh => by simp [WF, Fence.wide] at hh, CallsIn.mono (callsIn_of_calls hc) ?_⟩
  rintro e w' ⟨v, rfl, hv⟩
  refine h v w' hv hl _ (by rw [put_size]; exact h1) ?_ (by rw [put_defers]; exact h3)
  rw [env_puto _ _ _ (fun k hk' => by simp only [okd, hk'] at hok; rw [h1]; simpa [Nat.blt_eq] using hok), h2]
def retP (P : Program) (fn : Func) (Φ : Value → World → Prop) : Post
  | .normal, E, ds, w => ds = [] ∧ ∀ a : Act, env a = E → ∃ v, (results fn a.tmps).run P w = .ok v w ∧ Φ v w
  | .ret, E, ds, w => ds = [] ∧ ∀ a : Act, env a = E → ∃ v, (results fn a.tmps).run P w = .ok v w ∧ Φ v w
  | .exit _, _, _, _ => False
  | .goto _, _, _, _ => False
  | .panic _, _, _, _ => False
  | .outgrown, _, _, _ => False
theorem callR_of_wp {f : FuncId} {fn : Func} {c : Code} {args : List Value} {Φ : Value → World → Prop} (hf : P.funcs[f]? = some fn) (hb : fn.body = some c) (hn : args.length ≤ fn.ntmps)
    (h : wp P none fn.ntmps c (retP P fn Φ) (argEnv args) [] w) : CallR P f args.toArray w Φ := by
  refine callsIn_wide.1 (callsIn_of_wp (n := 0) hf hb trivial ?_)
  refine wpIn_mono (h _ ?_ ?_ rfl) ?_
  · simp; omega
  · funext i
    simp only [env, argEnv, Array.getD_eq_getD_getElem?, List.getD_eq_getElem?_getD, List.size_toArray]
    by_cases hi : i < args.length
    · rw [Array.getElem?_append_left (by simpa using hi)]; simp
    · rw [Array.getElem?_append_right (by simpa using hi)]
      rw [List.getElem?_eq_none (by omega)]
      simp only [Array.getElem?_replicate, List.size_toArray]
      split <;> rfl
  · rintro e a' w' ⟨q1, q2⟩
    cases e with
    | normal => obtain ⟨hd, q⟩ := q2; obtain ⟨v, hv, hΦ⟩ := q a' rfl; exact ⟨hd, v, hv, v, rfl, hΦ⟩
    | ret => obtain ⟨hd, q⟩ := q2; obtain ⟨v, hv, hΦ⟩ := q a' rfl; exact ⟨hd, v, hv, v, rfl, hΦ⟩
    | _ => exact q2.elim
end rules
end Go.Proofs.YtncnalboiljgiaaGreat.K
namespace Go.Proofs.YtncnalboiljgiaaGreat.K
open Go Go.RowKit
structure Chg (bs : List Nat) (w w' : World) : Prop where
  os : w'.os = w.os
  tape : w'.tape = w.tape
  output : w'.output = w.output
  size : w.heap.size ≤ w'.heap.size
  block : ∀ k, k < w.heap.size → k ∉ bs → w'.heap[k]? = w.heap[k]?
theorem Chg.refl {bs : List Nat} (w : World) : Chg bs w w := ⟨rfl, rfl, rfl, Nat.le_refl _, fun _ _ _ => rfl⟩
theorem Chg.trans {bs cs : List Nat} {a b c : World} (h : Chg bs a b) (k : Chg cs b c) (hc : ∀ x, x ∈ cs → x ∈ bs ∨ a.heap.size ≤ x) : Chg bs a c :=
  ⟨k.os.trans h.os, k.tape.trans h.tape, k.output.trans h.output, Nat.le_trans h.size k.size, fun i hi hb => by
    refine (k.block i (Nat.lt_of_lt_of_le hi h.size) fun hx => ?_).trans (h.block i hi hb)
    rcases hc i hx with h1 | h1
    · exact hb h1
    · omega⟩
theorem Chg.then {bs : List Nat} {a b c : World} (h : Chg bs a b) (k : Chg [] b c) : Chg bs a c := h.trans k (fun _ hx => by cases hx)
theorem Chg.then1 {bs : List Nat} {a b c : World} {x : Nat} (h : Chg bs a b) (k : Chg [x] b c) (hx : a.heap.size ≤ x) : Chg bs a c := h.trans k (fun y hy => by simp at hy; subst hy; exact .inr hx)
theorem Chg.mono {bs cs : List Nat} {a b : World} (h : Chg bs a b) (hs : ∀ x, x ∈ bs → x ∈ cs) : Chg cs a b := ⟨h.os, h.tape, h.output, h.size, fun k hk hb => h.block k hk fun hx => hb (hs _ hx)⟩
theorem Chg.wide {cs : List Nat} {a b : World} (h : Chg [] a b) : Chg cs a b := h.mono (fun _ hx => by cases hx)
theorem Chg.below {a b : World} (h : Chg [] a b) : Below a.heap.size a b := ⟨h.os, h.tape, h.output, h.size, fun k hk => h.block k hk (by simp)⟩
theorem Chg.of_below {a b : World} (h : Below a.heap.size a b) : Chg [] a b := ⟨h.os, h.tape, h.output, h.size, fun k hk _ => h.block k hk⟩
theorem Chg.alloc (w : World) (o : Obj) : Chg [] w (w.alloc o) := .of_below ((Below.refl _ w).alloc (Nat.le_refl _) o)
theorem Chg.drew (w : World) : Chg [] w w.drew := ⟨rfl, rfl, rfl, Nat.le_refl _, fun _ _ _ => rfl⟩
theorem Chg.drewN (w : World) (n : Nat) : Chg [] w (w.drewN n) := ⟨rfl, rfl, rfl, Nat.le_refl _, fun _ _ _ => rfl⟩
theorem Chg.setCell (w : World) (a : Addr) (v : Value) : Chg [a.block] w (w.setCell a v) :=
  ⟨rfl, rfl, rfl, by show w.heap.size ≤ (w.heap.modify _ _).size; rw [Array.size_modify]; exact Nat.le_refl _, fun k _ hb => Below.heap_setCell w a v k (by simpa using hb)⟩
def Blk (w : World) (b : Nat) (cs : List Value) (T : TypeId) : Prop := w.heap[b]? = some (.cells ⟨cs⟩ T (0, 0))
theorem Blk.lt {w : World} {b : Nat} {cs : List Value} {T : TypeId} (h : Blk w b cs T) : b < w.heap.size := (Array.getElem?_eq_some_iff.1 h).1
theorem Blk.tr {w w' : World} {b : Nat} {cs : List Value} {T : TypeId} {bs : List Nat} (h : Blk w b cs T) (hc : Chg bs w w') (hb : b ∉ bs) : Blk w' b cs T := (hc.block b h.lt hb).trans h
theorem Blk.tr0 {w w' : World} {b : Nat} {cs : List Value} {T : TypeId} (h : Blk w b cs T) (hc : Chg [] w w') : Blk w' b cs T := h.tr hc (by simp)
theorem Blk.tr1 {w w' : World} {b x : Nat} {cs : List Value} {T : TypeId} (h : Blk w b cs T) (hc : Chg [x] w w') (hb : b ≠ x) : Blk w' b cs T := h.tr hc (by simpa using hb)
def nthV : List Value → Nat → Option Value
  | [], _ => none
  | v :: _, 0 => some v
  | _ :: r, i + 1 => nthV r i
theorem nthV_eq : ∀ (l : List Value) (i : Nat), nthV l i = l[i]?
  | [], _ => rfl
  | _ :: _, 0 => rfl
  | _ :: r, i + 1 => by simp only [nthV, List.getElem?_cons_succ]; exact nthV_eq r i
def dropV : List Value → Nat → List Value
  | l, 0 => l
  | [], _ => []
  | _ :: r, i + 1 => dropV r i
def takeV : Nat → List Value → Option (List Value)
  | 0, _ => some []
  | _ + 1, [] => none
  | n + 1, v :: r => (takeV n r).map (v :: ·)
def Cells (w : World) (b off : Nat) (vs : List Value) : Prop := ∀ j v, vs[j]? = some v → w.cell? ⟨b, off + j, none⟩ = some v
theorem Blk.cell {w : World} {b off : Nat} {cs : List Value} {T : TypeId} {v : Value} (h : Blk w b cs T) (hv : nthV cs off = some v) : w.cell? ⟨b, off, none⟩ = some v := by
  rw [nthV_eq] at hv
  simp [World.cell?, show w.heap[b]? = _ from h, hv]
theorem dropV_eq : ∀ (l : List Value) (i : Nat), dropV l i = l.drop i
  | l, 0 => by cases l <;> rfl
  | [], i + 1 => rfl
  | _ :: r, i + 1 => by simp only [dropV, List.drop_succ_cons]; exact dropV_eq r i
theorem takeV_eq : ∀ (n : Nat) (l vs : List Value), takeV n l = some vs → vs.length = n ∧ ∀ (j : Nat) (v : Value), vs[j]? = some v → l[j]? = some v
  | 0, l, vs, h => by simp [takeV] at h; subst h; simp
  | n + 1, [], vs, h => by simp [takeV] at h
  | n + 1, v :: r, vs, h => by
    simp only [takeV, Option.map_eq_some_iff] at h
    obtain ⟨ws, h1, rfl⟩ := h
    obtain ⟨h2, h3⟩ := takeV_eq n r ws h1
    refine ⟨by simp [h2], fun j u hj => ?_⟩
    cases j with
    | zero => simpa using hj
    | succ j => simp only [List.getElem?_cons_succ] at hj ⊢; exact h3 j u hj
theorem Blk.cells {w : World} {b off n : Nat} {cs vs : List Value} {T : TypeId} (h : Blk w b cs T) (hv : takeV n (dropV cs off) = some vs) : Cells w b off vs := fun j v hj => by
  rw [dropV_eq] at hv
  refine h.cell ?_
  rw [nthV_eq]
  have := (takeV_eq _ _ _ hv).2 j v hj
  simpa using this
theorem Blk.free {w : World} {b off : Nat} {cs : List Value} {T : TypeId} (h : Blk w b cs T) : w.frozen? ⟨b, off, none⟩ = false := by simp [World.frozen?, show w.heap[b]? = _ from h]
def setV : List Value → Nat → Value → List Value
  | [], _, _ => []
  | _ :: r, 0, v => v :: r
  | u :: r, i + 1, v => u :: setV r i v
theorem setV_eq : ∀ (l : List Value) (i : Nat) (v : Value), setV l i v = l.set i v
  | [], _, _ => rfl
  | _ :: _, 0, _ => rfl
  | _ :: r, i + 1, v => by simp only [setV, List.set_cons_succ]; rw [setV_eq r i v]
def setVs : List Value → Nat → List Value → List Value
  | l, _, [] => l
  | l, i, v :: r => setVs (setV l i v) (i + 1) r
theorem Blk.set {w : World} {b off : Nat} {cs : List Value} {T : TypeId} (h : Blk w b cs T) (v : Value) : Blk (w.setCell ⟨b, off, none⟩ v) b (setV cs off v) T := by
  have hlt := h.lt
  have h2 : w.heap[b] = .cells ⟨cs⟩ T (0, 0) := by have := h; unfold Blk at this; rw [Array.getElem?_eq_getElem hlt] at this; exact Option.some.inj this
  show (w.heap.modify b _)[b]? = _
  rw [Array.getElem?_eq_getElem (by rw [Array.size_modify]; exact hlt), Array.getElem_modify_self, h2]
  simp [setV_eq]
theorem Blk.ne_size {w : World} {b : Nat} {cs : List Value} {T : TypeId} (h : Blk w b cs T) : b ≠ w.heap.size := Nat.ne_of_lt h.lt
theorem Blk.new (w : World) (cs : List Value) (T : TypeId) : Blk (w.alloc (.cells ⟨cs⟩ T)) w.heap.size cs T := World.alloc_heap_new w _
def oneB (P : Program) (t : TypeId) : Bool :=
  match P.underlying t, P.info? t with
  | some (.struct _), _ | some (.array _ _), _ => false
  | some _, some i => Nat.beq i.size 1
  | _, _ => false
def aggB (P : Program) (t : TypeId) (n : Nat) : Bool :=
  match P.underlying t, P.info? t with
  | some (.struct _), some i | some (.array _ _), some i => Nat.beq i.size n
  | _, _ => false
def sizeB (P : Program) (t : TypeId) (n : Nat) : Bool :=
  match P.info? t with
  | some i => Nat.beq i.size n
  | _ => false
def fldB (P : Program) (t : TypeId) (f off : Nat) : Bool :=
  match P.underlying t with
  | some (.struct fs) => match fs[f]? with
    | some x => Nat.beq x.offset off && (match P.info? x.type with | some i => !(Nat.beq i.size 0) | none => false)
    | none => false
  | _ => false
variable {P : Program} {r : Option Nat} {n : Nat} {O : Array Oper} {Q : Post} {E : Env} {ds : List Deferred} {w : World} {l : List Oper}
theorem run_sizeOf {t : TypeId} {k : Nat} (h : sizeB P t k = true) : (sizeOf t).run P w = .ok k w := by
  unfold sizeB at h
  split at h
  · rename_i i hi; have := Nat.eq_of_beq_eq_true h; simp [sizeOf, typeInfo, go_sem, hi, this]
  · cases h
theorem sizeB_agg {t : TypeId} {k : Nat} (h : aggB P t k = true) : sizeB P t k = true := by unfold aggB at h; unfold sizeB; split at h <;> simp_all
theorem run_isAgg_one {t : TypeId} (h : oneB P t = true) : (isAgg t).run P w = .ok false w := by
  unfold oneB at h
  cases hu : P.underlying t with
  | none => simp [hu] at h
  | some d => cases d <;> simp_all [isAgg, underlying, go_sem]
theorem run_isAgg_agg {t : TypeId} {k : Nat} (h : aggB P t k = true) : (isAgg t).run P w = .ok true w := by
  unfold aggB at h
  cases hu : P.underlying t with
  | none => simp [hu] at h
  | some d => cases d <;> simp_all [isAgg, underlying, go_sem]
section plain
variable {dst : Option Nat} {ty : TypeId} {pos : String} {af : Array Edge} {g : Option (Nat × Bool)}
theorem r_move {x : Operand} {v : Value} (hx : ev E x = v) :
    (execOp (ev E) ⟨dst, .move x, ty, pos, af, g⟩).run P w = .ok (.value v) w := by simp [execOp, hx, go_sem]
theorem st_move {x : Operand} {v : Value} (hx : ev E x = v) (h : wops P r n O Q l (updo E dst v) ds w) : wop P r n O Q ⟨dst, .move x, ty, pos, af, g⟩ l E ds w :=
  wop_run (fun _ => by simp) (r_move hx) h
theorem r_assign {x : Operand} {v : Value} (hx : ev E x = v) :
    (execOp (ev E) ⟨dst, .assign x, ty, pos, af, g⟩).run P w = .ok (.value v) w := by simp [execOp, hx, go_sem]
theorem st_assign {x : Operand} {v : Value} (hx : ev E x = v) (h : wops P r n O Q l (updo E dst v) ds w) : wop P r n O Q ⟨dst, .assign x, ty, pos, af, g⟩ l E ds w :=
  wop_run (fun _ => by simp) (r_assign hx) h
theorem r_pick {c x y : Operand} {v : Value} {b : Bool} (hc : ev E c = .bool b) (hv : (bif b then ev E x else ev E y) = v) :
    (execOp (ev E) ⟨dst, .pick c x y, ty, pos, af, g⟩).run P w = .ok (.value v) w := by subst hv; cases b <;> simp [execOp, hc, go_sem, asBool]
theorem st_pick {c x y : Operand} {v : Value} {b : Bool} (hc : ev E c = .bool b) (hv : (bif b then ev E x else ev E y) = v) (h : wops P r n O Q l (updo E dst v) ds w) : wop P r n O Q ⟨dst, .pick c x y, ty, pos, af, g⟩ l E ds w :=
  wop_run (fun _ => by simp) (r_pick hc hv) h
theorem r_nilCheck {x : Operand} {a : Addr} (hx : ev E x = .pointer (some a)) :
    (execOp (ev E) ⟨dst, .nilCheck x, ty, pos, af, g⟩).run P w = .ok (.value (.pointer (some a))) w := by simp [execOp, hx, go_sem]
theorem st_nilCheck {x : Operand} {a : Addr} (hx : ev E x = .pointer (some a)) (h : wops P r n O Q l (updo E dst (.pointer (some a))) ds w) : wop P r n O Q ⟨dst, .nilCheck x, ty, pos, af, g⟩ l E ds w :=
  wop_run (fun _ => by simp) (r_nilCheck hx) h
theorem r_makeFunc {f : Fn} {as bs : Array Operand} :
    (execOp (ev E) ⟨dst, .makeFunc f as bs, ty, pos, af, g⟩).run P w = .ok (.value (.func f ⟨as.toList.map (ev E)⟩ ⟨bs.toList.map (ev E)⟩)) w := by
  rw [show (⟨as.toList.map (ev E)⟩ : Array Value) = as.map (ev E) from Array.ext' (by simp), show (⟨bs.toList.map (ev E)⟩ : Array Value) = bs.map (ev E) from Array.ext' (by simp)]
  simp [execOp, Instr.makeFunc, go_sem]
theorem st_makeFunc {f : Fn} {as bs : Array Operand} (h : wops P r n O Q l (updo E dst (.func f ⟨as.toList.map (ev E)⟩ ⟨bs.toList.map (ev E)⟩)) ds w) : wop P r n O Q ⟨dst, .makeFunc f as bs, ty, pos, af, g⟩ l E ds w :=
  wop_run (fun _ => by simp) (r_makeFunc ) h
theorem r_extract {x : Operand} {i : Nat} {vs : List Value} {v : Value} (hx : ev E x = .tuple ⟨vs⟩) (hv : nthV vs i = some v) :
    (execOp (ev E) ⟨dst, .extract x i, ty, pos, af, g⟩).run P w = .ok (.value v) w := by rw [nthV_eq] at hv; simp [execOp, hx, Instr.extract, go_sem, hv]
theorem st_extract {x : Operand} {i : Nat} {vs : List Value} {v : Value} (hx : ev E x = .tuple ⟨vs⟩) (hv : nthV vs i = some v) (h : wops P r n O Q l (updo E dst v) ds w) : wop P r n O Q ⟨dst, .extract x i, ty, pos, af, g⟩ l E ds w :=
  wop_run (fun _ => by simp) (r_extract hx hv) h
theorem wrap64_id {x : Int} (h1 : -9223372036854775808 ≤ x) (h2 : x ≤ 9223372036854775807) : IntKind.i64.wrap x = x := by
  have := IntWalk.i64_in x (by omega)
  exact this
theorem r_add {t t' : TypeId} {x y : Operand} {a b : Int} {k : IntKind} (hx : ev E x = .int k a) (hy : ev E y = .int k b) :
    (execOp (ev E) ⟨dst, .binOp .add t x y t', ty, pos, af, g⟩).run P w = .ok (.value (.int k (k.wrap (a + b)))) w := by simp [execOp, hx, hy, go_sem, eqGuard, binOp, Op.intArith]
theorem st_add {t t' : TypeId} {x y : Operand} {a b : Int} {k : IntKind} (hx : ev E x = .int k a) (hy : ev E y = .int k b) (h : wops P r n O Q l (updo E dst (.int k (k.wrap (a + b)))) ds w) : wop P r n O Q ⟨dst, .binOp .add t x y t', ty, pos, af, g⟩ l E ds w :=
  wop_run (fun _ => by simp) (r_add hx hy) h
theorem r_sub {t t' : TypeId} {x y : Operand} {a b : Int} {k : IntKind} (hx : ev E x = .int k a) (hy : ev E y = .int k b) :
    (execOp (ev E) ⟨dst, .binOp .sub t x y t', ty, pos, af, g⟩).run P w = .ok (.value (.int k (k.wrap (a - b)))) w := by simp [execOp, hx, hy, go_sem, eqGuard, binOp, Op.intArith]
theorem st_sub {t t' : TypeId} {x y : Operand} {a b : Int} {k : IntKind} (hx : ev E x = .int k a) (hy : ev E y = .int k b) (h : wops P r n O Q l (updo E dst (.int k (k.wrap (a - b)))) ds w) : wop P r n O Q ⟨dst, .binOp .sub t x y t', ty, pos, af, g⟩ l E ds w :=
  wop_run (fun _ => by simp) (r_sub hx hy) h
theorem r_addn {t t' : TypeId} {x y : Operand} {a b : Int} (hx : ev E x = .int .i64 a) (hy : ev E y = .int .i64 b) (hb : -9223372036854775808 ≤ a + b ∧ a + b ≤ 9223372036854775807) :
    (execOp (ev E) ⟨dst, .binOp .add t x y t', ty, pos, af, g⟩).run P w = .ok (.value (.int .i64 (a + b))) w := by
  have := r_add (P := P) (w := w) (dst := dst) (t := t) (t' := t') (ty := ty) (pos := pos) (af := af) (g := g) hx hy
  rw [wrap64_id hb.1 hb.2] at this; exact this
theorem st_addn {t t' : TypeId} {x y : Operand} {a b : Int} (hx : ev E x = .int .i64 a) (hy : ev E y = .int .i64 b) (hb : -9223372036854775808 ≤ a + b ∧ a + b ≤ 9223372036854775807) (h : wops P r n O Q l (updo E dst (.int .i64 (a + b))) ds w) :
    wop P r n O Q ⟨dst, .binOp .add t x y t', ty, pos, af, g⟩ l E ds w := st_add hx hy (by rw [wrap64_id hb.1 hb.2]; exact h)
theorem r_subn {t t' : TypeId} {x y : Operand} {a b : Int} (hx : ev E x = .int .i64 a) (hy : ev E y = .int .i64 b) (hb : -9223372036854775808 ≤ a - b ∧ a - b ≤ 9223372036854775807) :
    (execOp (ev E) ⟨dst, .binOp .sub t x y t', ty, pos, af, g⟩).run P w = .ok (.value (.int .i64 (a - b))) w := by
  have := r_sub (P := P) (w := w) (dst := dst) (t := t) (t' := t') (ty := ty) (pos := pos) (af := af) (g := g) hx hy
  rw [wrap64_id hb.1 hb.2] at this; exact this
theorem st_subn {t t' : TypeId} {x y : Operand} {a b : Int} (hx : ev E x = .int .i64 a) (hy : ev E y = .int .i64 b) (hb : -9223372036854775808 ≤ a - b ∧ a - b ≤ 9223372036854775807) (h : wops P r n O Q l (updo E dst (.int .i64 (a - b))) ds w) :
    wop P r n O Q ⟨dst, .binOp .sub t x y t', ty, pos, af, g⟩ l E ds w := st_sub hx hy (by rw [wrap64_id hb.1 hb.2]; exact h)
theorem r_lss {t t' : TypeId} {x y : Operand} {a b : Int} {k : IntKind} (hx : ev E x = .int k a) (hy : ev E y = .int k b) :
    (execOp (ev E) ⟨dst, .binOp .lss t x y t', ty, pos, af, g⟩).run P w = .ok (.value (.bool (decide (a < b)))) w := by simp [execOp, hx, hy, go_sem, eqGuard, binOp, Op.intCmp]
theorem st_lss {t t' : TypeId} {x y : Operand} {a b : Int} {k : IntKind} (hx : ev E x = .int k a) (hy : ev E y = .int k b) (h : wops P r n O Q l (updo E dst (.bool (decide (a < b)))) ds w) : wop P r n O Q ⟨dst, .binOp .lss t x y t', ty, pos, af, g⟩ l E ds w :=
  wop_run (fun _ => by simp) (r_lss hx hy) h
theorem r_leq {t t' : TypeId} {x y : Operand} {a b : Int} {k : IntKind} (hx : ev E x = .int k a) (hy : ev E y = .int k b) :
    (execOp (ev E) ⟨dst, .binOp .leq t x y t', ty, pos, af, g⟩).run P w = .ok (.value (.bool (decide (a ≤ b)))) w := by simp [execOp, hx, hy, go_sem, eqGuard, binOp, Op.intCmp]
theorem st_leq {t t' : TypeId} {x y : Operand} {a b : Int} {k : IntKind} (hx : ev E x = .int k a) (hy : ev E y = .int k b) (h : wops P r n O Q l (updo E dst (.bool (decide (a ≤ b)))) ds w) : wop P r n O Q ⟨dst, .binOp .leq t x y t', ty, pos, af, g⟩ l E ds w :=
  wop_run (fun _ => by simp) (r_leq hx hy) h
theorem r_gtr {t t' : TypeId} {x y : Operand} {a b : Int} {k : IntKind} (hx : ev E x = .int k a) (hy : ev E y = .int k b) :
    (execOp (ev E) ⟨dst, .binOp .gtr t x y t', ty, pos, af, g⟩).run P w = .ok (.value (.bool (decide (b < a)))) w := by simp [execOp, hx, hy, go_sem, eqGuard, binOp, Op.intCmp]
theorem st_gtr {t t' : TypeId} {x y : Operand} {a b : Int} {k : IntKind} (hx : ev E x = .int k a) (hy : ev E y = .int k b) (h : wops P r n O Q l (updo E dst (.bool (decide (b < a)))) ds w) : wop P r n O Q ⟨dst, .binOp .gtr t x y t', ty, pos, af, g⟩ l E ds w :=
  wop_run (fun _ => by simp) (r_gtr hx hy) h
theorem r_geq {t t' : TypeId} {x y : Operand} {a b : Int} {k : IntKind} (hx : ev E x = .int k a) (hy : ev E y = .int k b) :
    (execOp (ev E) ⟨dst, .binOp .geq t x y t', ty, pos, af, g⟩).run P w = .ok (.value (.bool (decide (b ≤ a)))) w := by simp [execOp, hx, hy, go_sem, eqGuard, binOp, Op.intCmp]
theorem st_geq {t t' : TypeId} {x y : Operand} {a b : Int} {k : IntKind} (hx : ev E x = .int k a) (hy : ev E y = .int k b) (h : wops P r n O Q l (updo E dst (.bool (decide (b ≤ a)))) ds w) : wop P r n O Q ⟨dst, .binOp .geq t x y t', ty, pos, af, g⟩ l E ds w :=
  wop_run (fun _ => by simp) (r_geq hx hy) h
theorem r_eql {t t' : TypeId} {x y : Operand} {a b : Int} {k : IntKind} (hx : ev E x = .int k a) (hy : ev E y = .int k b) :
    (execOp (ev E) ⟨dst, .binOp .eql t x y t', ty, pos, af, g⟩).run P w = .ok (.value (.bool (decide (a = b)))) w := by rw [show decide (a = b) = (a == b) by by_cases e : a = b <;> simp [e]]; simp [execOp, hx, hy, go_sem, eqGuard, binOp, Op.intCmp]
theorem st_eql {t t' : TypeId} {x y : Operand} {a b : Int} {k : IntKind} (hx : ev E x = .int k a) (hy : ev E y = .int k b) (h : wops P r n O Q l (updo E dst (.bool (decide (a = b)))) ds w) : wop P r n O Q ⟨dst, .binOp .eql t x y t', ty, pos, af, g⟩ l E ds w :=
  wop_run (fun _ => by simp) (r_eql hx hy) h
theorem r_neq {t t' : TypeId} {x y : Operand} {a b : Int} {k : IntKind} (hx : ev E x = .int k a) (hy : ev E y = .int k b) :
    (execOp (ev E) ⟨dst, .binOp .neq t x y t', ty, pos, af, g⟩).run P w = .ok (.value (.bool (!decide (a = b)))) w := by rw [show decide (a = b) = (a == b) by by_cases e : a = b <;> simp [e]]; simp [execOp, hx, hy, go_sem, eqGuard, binOp, Op.intCmp, bne]
theorem st_neq {t t' : TypeId} {x y : Operand} {a b : Int} {k : IntKind} (hx : ev E x = .int k a) (hy : ev E y = .int k b) (h : wops P r n O Q l (updo E dst (.bool (!decide (a = b)))) ds w) : wop P r n O Q ⟨dst, .binOp .neq t x y t', ty, pos, af, g⟩ l E ds w :=
  wop_run (fun _ => by simp) (r_neq hx hy) h
theorem r_not {t : TypeId} {x : Operand} {b : Bool} (hx : ev E x = .bool b) :
    (execOp (ev E) ⟨dst, .unOp .not t x, ty, pos, af, g⟩).run P w = .ok (.value (.bool (!b))) w := by simp [execOp, hx, go_sem, Op.unary]
theorem st_not {t : TypeId} {x : Operand} {b : Bool} (hx : ev E x = .bool b) (h : wops P r n O Q l (updo E dst (.bool (!b))) ds w) : wop P r n O Q ⟨dst, .unOp .not t x, ty, pos, af, g⟩ l E ds w :=
  wop_run (fun _ => by simp) (r_not hx) h
theorem r_quo {t t' : TypeId} {x y : Operand} {a b : Int} {k : IntKind} (hx : ev E x = .int k a) (hy : ev E y = .int k b) (hb : b ≠ 0) :
    (execOp (ev E) ⟨dst, .binOp .quo t x y t', ty, pos, af, g⟩).run P w = .ok (.value (.int k (k.wrap (a.tdiv b)))) w := by simp [execOp, hx, hy, go_sem, eqGuard, binOp, Op.intDiv, hb]
theorem st_quo {t t' : TypeId} {x y : Operand} {a b : Int} {k : IntKind} (hx : ev E x = .int k a) (hy : ev E y = .int k b) (hb : b ≠ 0) (h : wops P r n O Q l (updo E dst (.int k (k.wrap (a.tdiv b)))) ds w) : wop P r n O Q ⟨dst, .binOp .quo t x y t', ty, pos, af, g⟩ l E ds w :=
  wop_run (fun _ => by simp) (r_quo hx hy hb) h
theorem r_rem {t t' : TypeId} {x y : Operand} {a b : Int} {k : IntKind} (hx : ev E x = .int k a) (hy : ev E y = .int k b) (hb : b ≠ 0) :
    (execOp (ev E) ⟨dst, .binOp .rem t x y t', ty, pos, af, g⟩).run P w = .ok (.value (.int k (a.tmod b))) w := by simp [execOp, hx, hy, go_sem, eqGuard, binOp, Op.intDiv, hb]
theorem st_rem {t t' : TypeId} {x y : Operand} {a b : Int} {k : IntKind} (hx : ev E x = .int k a) (hy : ev E y = .int k b) (hb : b ≠ 0) (h : wops P r n O Q l (updo E dst (.int k (a.tmod b))) ds w) : wop P r n O Q ⟨dst, .binOp .rem t x y t', ty, pos, af, g⟩ l E ds w :=
  wop_run (fun _ => by simp) (r_rem hx hy hb) h
theorem r_convInt {src t : TypeId} {x : Operand} {a : Int} {k k' : IntKind} {u : TypeDesc} (hs : P.underlying src = some u) (ht : P.underlying t = some (.int k')) (hx : ev E x = .int k a) :
    (execOp (ev E) ⟨dst, .convert src t x, ty, pos, af, g⟩).run P w = .ok (.value (.int k' (k'.wrap a))) w := by cases u <;> simp [execOp, hx, go_sem, convert, underlying, hs, ht, Conv.intToInt]
theorem st_convInt {src t : TypeId} {x : Operand} {a : Int} {k k' : IntKind} {u : TypeDesc} (hs : P.underlying src = some u) (ht : P.underlying t = some (.int k')) (hx : ev E x = .int k a) (h : wops P r n O Q l (updo E dst (.int k' (k'.wrap a))) ds w) : wop P r n O Q ⟨dst, .convert src t x, ty, pos, af, g⟩ l E ds w :=
  wop_run (fun _ => by simp) (r_convInt hs ht hx) h
abbrev Bytes := List UInt8
def S (s : Bytes) : Value := .string ⟨⟨s⟩⟩
theorem S_eta (s : ByteArray) : Value.string s = S s.data.toList := rfl
theorem toList_mk (s : Bytes) : (⟨⟨s⟩⟩ : ByteArray).toList = s := by rw [Lib.toList_data]
theorem size_mk (s : Bytes) : (⟨⟨s⟩⟩ : ByteArray).size = s.length := rfl
theorem append_mk (a b : Bytes) : (⟨⟨a⟩⟩ : ByteArray) ++ ⟨⟨b⟩⟩ = ⟨⟨a ++ b⟩⟩ := by
  apply ByteArray.ext; simp
theorem extract_mk (s : Bytes) (i j : Nat) : (⟨⟨s⟩⟩ : ByteArray).extract i j = ⟨⟨(s.take j).drop i⟩⟩ := by
  rw [Lib.extract_eq]
  simp only [List.drop_take]
def byte (s : Bytes) (i : Nat) : UInt8 := s.getD i 0
theorem r_sadd {t t' : TypeId} {x y : Operand} {a b : Bytes} (hx : ev E x = S a) (hy : ev E y = S b) (hb : a.length + b.length ≤ 9223372036854775807) :
    (execOp (ev E) ⟨dst, .binOp .add t x y t', ty, pos, af, g⟩).run P w = .ok (.value (S (a ++ b))) w := by
    have h1 := run_string_add_sum (P := P) (w := w) ⟨⟨a⟩⟩ ⟨⟨b⟩⟩ (by rw [size_mk, size_mk]; exact hb)
    rw [append_mk] at h1
    simp only [S] at hx hy
    simp [execOp, hx, hy, go_sem, eqGuard, h1, S]
theorem st_sadd {t t' : TypeId} {x y : Operand} {a b : Bytes} (hx : ev E x = S a) (hy : ev E y = S b) (hb : a.length + b.length ≤ 9223372036854775807) (h : wops P r n O Q l (updo E dst (S (a ++ b))) ds w) : wop P r n O Q ⟨dst, .binOp .add t x y t', ty, pos, af, g⟩ l E ds w :=
  wop_run (fun _ => by simp) (r_sadd hx hy hb) h
theorem r_seql {t t' : TypeId} {x y : Operand} {a b : Bytes} (hx : ev E x = S a) (hy : ev E y = S b) :
    (execOp (ev E) ⟨dst, .binOp .eql t x y t', ty, pos, af, g⟩).run P w = .ok (.value (.bool (decide (a = b)))) w := by
    simp only [S] at hx hy
    rw [show decide (a = b) = (a == b) by by_cases e : a = b <;> simp [e]]
    simp [execOp, hx, hy, go_sem, eqGuard, toList_mk]
theorem st_seql {t t' : TypeId} {x y : Operand} {a b : Bytes} (hx : ev E x = S a) (hy : ev E y = S b) (h : wops P r n O Q l (updo E dst (.bool (decide (a = b)))) ds w) : wop P r n O Q ⟨dst, .binOp .eql t x y t', ty, pos, af, g⟩ l E ds w :=
  wop_run (fun _ => by simp) (r_seql hx hy) h
theorem r_sneq {t t' : TypeId} {x y : Operand} {a b : Bytes} (hx : ev E x = S a) (hy : ev E y = S b) :
    (execOp (ev E) ⟨dst, .binOp .neq t x y t', ty, pos, af, g⟩).run P w = .ok (.value (.bool (!decide (a = b)))) w := by
    simp only [S] at hx hy
    rw [show decide (a = b) = (a == b) by by_cases e : a = b <;> simp [e]]
    simp [execOp, hx, hy, go_sem, eqGuard, toList_mk]
theorem st_sneq {t t' : TypeId} {x y : Operand} {a b : Bytes} (hx : ev E x = S a) (hy : ev E y = S b) (h : wops P r n O Q l (updo E dst (.bool (!decide (a = b)))) ds w) : wop P r n O Q ⟨dst, .binOp .neq t x y t', ty, pos, af, g⟩ l E ds w :=
  wop_run (fun _ => by simp) (r_sneq hx hy) h
theorem r_slen {x : Operand} {a : Bytes} {ct : Array TypeId} (ht : (ct[0]?).bind P.underlying = some .string) (hx : ev E x = S a) :
    (execOp (ev E) ⟨dst, .call ⟨.builtin .len, #[x], ct⟩, ty, pos, af, g⟩).run P w = .ok (.value (.int .i64 (a.length : Int))) w := by
    simp only [S] at hx
    cases h0 : ct[0]? with
    | none => simp [h0] at ht
    | some t0 =>
      simp only [h0, Option.bind_some] at ht
      simp [execOp, resolve, invoke, builtin, Builtin.len_, hx, go_sem, h0, underlying, ht, goInt, size_mk]
theorem st_slen {x : Operand} {a : Bytes} {ct : Array TypeId} (ht : (ct[0]?).bind P.underlying = some .string) (hx : ev E x = S a) (h : wops P r n O Q l (updo E dst (.int .i64 (a.length : Int))) ds w) : wop P r n O Q ⟨dst, .call ⟨.builtin .len, #[x], ct⟩, ty, pos, af, g⟩ l E ds w :=
  wop_run (fun _ => by simp) (r_slen ht hx) h
theorem r_sidx {t : TypeId} {x y : Operand} {a : Bytes} {k : IntKind} {i : Int} (ht : P.underlying t = some .string) (hx : ev E x = S a) (hy : ev E y = .int k i) (h0 : 0 ≤ i) (h1 : i < a.length) :
    (execOp (ev E) ⟨dst, .index t x y, ty, pos, af, g⟩).run P w = .ok (.value (.int .u8 ((byte a i.toNat).toNat : Int))) w := by
    simp only [S] at hx
    have hlt : i.toNat < a.length := by omega
    have hb : (⟨⟨a⟩⟩ : ByteArray)[i.toNat]? = some (byte a i.toNat) := by
      rw [getElem?_pos (⟨⟨a⟩⟩ : ByteArray) i.toNat (show i.toNat < (⟨⟨a⟩⟩ : ByteArray).size from hlt)]
      simp only [byte, List.getD_eq_getElem?_getD, List.getElem?_eq_getElem hlt, Option.getD_some]
      rfl
    simp [execOp, hx, hy, go_sem, Instr.index, asIntOf, underlying, ht, h0, hb]
theorem st_sidx {t : TypeId} {x y : Operand} {a : Bytes} {k : IntKind} {i : Int} (ht : P.underlying t = some .string) (hx : ev E x = S a) (hy : ev E y = .int k i) (h0 : 0 ≤ i) (h1 : i < a.length) (h : wops P r n O Q l (updo E dst (.int .u8 ((byte a i.toNat).toNat : Int))) ds w) : wop P r n O Q ⟨dst, .index t x y, ty, pos, af, g⟩ l E ds w :=
  wop_run (fun _ => by simp) (r_sidx ht hx hy h0 h1) h
theorem r_sslice {t : TypeId} {x : Operand} {lo hi : Option Operand} {a : Bytes} {i j : Nat} (ht : P.underlying t = some .string) (hx : ev E x = S a)
    (hlo : match lo with | some y => ∃ k, ev E y = .int k (i : Int) | none => i = 0) (hhi : match hi with | some y => ∃ k, ev E y = .int k (j : Int) | none => j = a.length) (h0 : i ≤ j) (h1 : j ≤ a.length) :
    (execOp (ev E) ⟨dst, .slice t x lo hi none, ty, pos, af, g⟩).run P w = .ok (.value (S ((a.take j).drop i))) w := by
    simp only [S] at hx ⊢
    have hs : (⟨⟨a⟩⟩ : ByteArray).size = a.length := rfl
    cases lo <;> cases hi <;> simp only at hlo hhi
    · subst hlo; subst hhi
      simp [execOp, hx, go_sem, Instr.sliceAt, Instr.slice, underlying, ht, Instr.sliceBounds, extract_mk, hs]
    · obtain ⟨k, hk⟩ := hhi; subst hlo
      simp [execOp, hx, hk, go_sem, Instr.sliceAt, Instr.slice, underlying, ht, Instr.sliceBounds, Instr.sliceBound, asIntOf, extract_mk, hs, h1]
    · obtain ⟨k, hk⟩ := hlo; subst hhi
      simp [execOp, hx, hk, go_sem, Instr.sliceAt, Instr.slice, underlying, ht, Instr.sliceBounds, Instr.sliceBound, asIntOf, extract_mk, hs, h0]
    · obtain ⟨k, hk⟩ := hlo; obtain ⟨k', hk'⟩ := hhi
      simp [execOp, hx, hk, hk', go_sem, Instr.sliceAt, Instr.slice, underlying, ht, Instr.sliceBounds, Instr.sliceBound, asIntOf, extract_mk, hs, h0, h1]
end plain
end Go.Proofs.YtncnalboiljgiaaGreat.K
