import Derived.WalkKit
import Derived.RangeFuncNested
import Derived.RangeFuncBound
import Derived.RangeFuncCalls
import Derived.RangeFuncLeaves
import Derived.Deep.LoopGhost
import Derived.TacticsInMore
import Derived.WalkLawsBesides
import Derived.WalkSpells
import Derived.Lib.Strings
import Derived.ArgAppend
import Derived.Laws.OwnMore
import Derived.OrdersIn
set_option linter.unusedVariables false
set_option linter.unusedSimpArgs false
set_option autoImplicit false
namespace Go.Proofs.YtghjmiggobpmoaaGreatDoor.K
open Go
abbrev Env := Nat → Value
def upd (E : Env) (d : Nat) (v : Value) : Env := fun i => bif Nat.beq i d then v else E i
def upds (E : Env) : List (Nat × Value) → Env
  | [] => E
  | (d, v) :: r => upds (upd E d v) r
def over (E : Env) (S : List Nat) (G : Env) : Env := fun i => bif S.contains i then G i else E i
def ev (E : Env) : Operand → Value
  | .tmp t => E t
  | .const v => v
  | .global g => .pointer (some ⟨g, 0, none⟩)
  | .func f => .func (.func f) #[] #[]
def env (a : Act) : Env := fun i => a.tmps.getD i undef
def argEnv (vs : List Value) : Env := fun i => vs.getD i undef
theorem ev_env (a : Act) : a.eval = ev (env a) := by funext x; cases x <;> rfl
theorem upd_same (E : Env) (d : Nat) (v : Value) : upd E d v d = v := by simp [upd]
theorem upd_other (E : Env) (d i : Nat) (v : Value) (h : i ≠ d) : upd E d v i = E i := by
  have : Nat.beq i d = false := by
    cases hb : Nat.beq i d with
    | true => exact absurd (Nat.eq_of_beq_eq_true hb) h
    | false => rfl
  simp [upd, this]
theorem env_put (a : Act) (d : Nat) (v : Value) (h : d < a.tmps.size) : env (a.put (some d) v) = upd (env a) d v := by
  funext i
  by_cases e : i = d
  · subst e; rw [upd_same]; simp [env, Act.put, Array.getD_eq_getD_getElem?, h]
  rw [upd_other _ _ _ _ e]
  simp only [env, Act.put, Array.getD_eq_getD_getElem?]
  rw [Array.getElem?_setIfInBounds_ne (by omega)]
theorem put_size (a : Act) (d : Option Nat) (v : Value) : (a.put d v).tmps.size = a.tmps.size := by cases d <;> simp [Act.put]
theorem put_defers (a : Act) (d : Option Nat) (v : Value) : (a.put d v).defers = a.defers := by cases d <;> rfl
def updo (E : Env) : Option Nat → Value → Env
  | some d, v => upd E d v
  | none, _ => E
theorem env_puto (a : Act) (d : Option Nat) (v : Value) (h : ∀ k, d = some k → k < a.tmps.size) : env (a.put d v) = updo (env a) d v := by
  cases d with
  | none => rfl
  | some k => exact env_put a k v (h k rfl)
def WF (r : Option Nat) : Fence := { Fence.wide with round := r }
abbrev Post := Exit → Env → List Deferred → World → Prop
def toQ (n : Nat) (Q : Post) : Exit → Act → World → Prop := fun e a w => a.tmps.size = n ∧ Q e (env a) a.defers w
def wp (P : Program) (r : Option Nat) (n : Nat) (c : Code) (Q : Post) (E : Env) (ds : List Deferred) (w : World) : Prop :=
  ∀ a : Act, a.tmps.size = n → env a = E → a.defers = ds → c.wpIn (WF r) 0 P (toQ n Q) a w
def thenP (K : Env → List Deferred → World → Prop) (Q : Post) : Post
  | .normal, E, ds, w => K E ds w
  | .exit id, E, ds, w => Q (.exit id) E ds w
  | .goto id, E, ds, w => Q (.goto id) E ds w
  | .ret, E, ds, w => Q .ret E ds w
  | .panic c, E, ds, w => Q (.panic c) E ds w
  | .outgrown, E, ds, w => Q .outgrown E ds w
def blockP (id : Nat) (Q : Post) : Post
  | .exit id', E, ds, w => if id' = id then Q .normal E ds w else Q (.exit id') E ds w
  | .normal, E, ds, w => Q .normal E ds w
  | .goto l, E, ds, w => Q (.goto l) E ds w
  | .ret, E, ds, w => Q .ret E ds w
  | .panic c, E, ds, w => Q (.panic c) E ds w
  | .outgrown, E, ds, w => Q .outgrown E ds w
theorem then_n {K : Env → List Deferred → World → Prop} {Q : Post} {E : Env} {ds : List Deferred} {w : World} (h : K E ds w) : thenP K Q .normal E ds w := h
theorem then_r {K : Env → List Deferred → World → Prop} {Q : Post} {E : Env} {ds : List Deferred} {w : World} (h : Q .ret E ds w) : thenP K Q .ret E ds w := h
theorem then_x {K : Env → List Deferred → World → Prop} {Q : Post} {i : Nat} {E : Env} {ds : List Deferred} {w : World} (h : Q (.exit i) E ds w) : thenP K Q (.exit i) E ds w := h
theorem block_n {i : Nat} {Q : Post} {E : Env} {ds : List Deferred} {w : World} (h : Q .normal E ds w) : blockP i Q .normal E ds w := h
theorem block_r {i : Nat} {Q : Post} {E : Env} {ds : List Deferred} {w : World} (h : Q .ret E ds w) : blockP i Q .ret E ds w := h
theorem block_x {i : Nat} {Q : Post} {E : Env} {ds : List Deferred} {w : World} (h : Q .normal E ds w) : blockP i Q (.exit i) E ds w := by simp only [blockP, if_true]; exact h
theorem block_o {i j : Nat} {Q : Post} {E : Env} {ds : List Deferred} {w : World} (hn : Nat.beq j i = false) (h : Q (.exit j) E ds w) : blockP i Q (.exit j) E ds w := by
  simp only [blockP]; rw [if_neg (fun e => by subst e; simp at hn)]; exact h
section rules
variable {P : Program} {r : Option Nat} {n : Nat} {Q : Post} {E : Env} {ds : List Deferred} {w : World}
theorem x_mono {c : Code} {Q' : Post} (h : wp P r n c Q E ds w) (hq : ∀ e E ds w, Q e E ds w → Q' e E ds w) : wp P r n c Q' E ds w :=
  fun a h1 h2 h3 => wpIn_mono (h a h1 h2 h3) fun e a w ⟨q1, q2⟩ => ⟨q1, hq _ _ _ _ q2⟩
theorem x_skip (h : Q .normal E ds w) : wp P r n .skip Q E ds w := fun a h1 h2 h3 => wpIn_skip ⟨h1, by rw [h2, h3]; exact h⟩
theorem x_label {l : Nat} (h : Q .normal E ds w) : wp P r n (.label l) Q E ds w := fun a h1 h2 h3 => wpIn_label ⟨h1, by rw [h2, h3]; exact h⟩
theorem x_exit {id : Nat} (h : Q (.exit id) E ds w) : wp P r n (.exit id) Q E ds w := fun a h1 h2 h3 => wpIn_exit ⟨h1, by rw [h2, h3]; exact h⟩
theorem x_ret (h : Q .ret E ds w) : wp P r n .ret Q E ds w := fun a h1 h2 h3 => wpIn_ret ⟨h1, by rw [h2, h3]; exact h⟩
theorem x_seq {x y : Code} (h : wp P r n x (thenP (wp P r n y Q) Q) E ds w) : wp P r n (.seq x y) Q E ds w := by
  intro a h1 h2 h3;refine wpIn_seq (wpIn_mono (h a h1 h2 h3) ?_);rintro e a' w' ⟨q1, q2⟩
  cases e with
  | normal => exact q2 a' q1 rfl rfl
  | _ => exact ⟨q1, q2⟩
theorem x_cond {c : Operand} {x y : Code} {t : Bool} (hc : ev E c = .bool t) (ht : t = true → wp P r n x Q E ds w) (hf : t = false → wp P r n y Q E ds w) :
    wp P r n (.cond c x y) Q E ds w := by
  intro a h1 h2 h3;refine wpIn_cond_split (t := t) (by rw [ev_env, h2]; exact hc) (fun h => ht h a h1 h2 h3) (fun h => hf h a h1 h2 h3)
theorem x_block {id : Nat} {c : Code} (h : wp P r n c (blockP id Q) E ds w) : wp P r n (.block id c) Q E ds w := by
  intro a h1 h2 h3;refine wpIn_block (wpIn_mono (h a h1 h2 h3) ?_);rintro e a' w' ⟨q1, q2⟩
  cases e with
  | exit id' =>
    simp only [blockP] at q2
    simp only [Exit.inBlock]
    split
    · rename_i hh; rw [if_pos hh] at q2; exact ⟨q1, q2⟩
    rename_i hh; rw [if_neg hh] at q2; exact ⟨q1, q2⟩
  | _ => exact ⟨q1, q2⟩
def Agree (S : List Nat) (E1 E : Env) : Prop := ∀ i, S.contains i = false → E1 i = E i
theorem agree_refl {S : List Nat} {E : Env} : Agree S E E := fun _ _ => rfl
theorem agree_over {S : List Nat} {E G : Env} : Agree S (over E S G) E := fun i h => by simp only [over, h]; rfl
theorem agree_upd {S : List Nat} {E1 E : Env} {d : Nat} {v : Value} (h : Agree S E1 E) (hd : S.contains d = true) : Agree S (upd E1 d v) E := fun i hi => by
  rw [upd_other _ _ _ _ (fun e => by subst e; rw [hd] at hi; cases hi)]; exact h i hi
theorem agree_upds {S : List Nat} {E : Env} : ∀ {L : List (Nat × Value)} {E1 : Env}, Agree S E1 E → (L.all fun p => S.contains p.1) = true → Agree S (upds E1 L) E
  | [], _, h, _ => h
  | (d, v) :: r, _, h, hs => by
    simp only [List.all_cons, Bool.and_eq_true] at hs
    exact agree_upds (L := r) (agree_upd h hs.1) hs.2
def Holds (E : Env) : List (Nat × Value) → Prop
  | [] => True
  | (d, v) :: r => E d = v ∧ Holds E r
theorem holds_upd {E : Env} : ∀ {L : List (Nat × Value)} {E1 : Env}, Holds E L → (∀ i, (L.any fun p => Nat.beq i p.1) = false → E1 i = E i) → upds E1 L = E
  | [], E1, _, h => funext fun i => h i rfl
  | (d, v) :: r, E1, hh, h => by
    simp only [upds]
    refine holds_upd (L := r) hh.2 fun i hi => ?_
    by_cases e : i = d
    · subst e; rw [upd_same]; exact hh.1.symm
    rw [upd_other _ _ _ _ e]
    refine h i ?_;simp only [List.any_cons, hi, Bool.or_false]
    cases hb : Nat.beq i d with
    | true => exact absurd (Nat.eq_of_beq_eq_true hb) e
    | false => rfl
theorem env_of_agree {S : List Nat} {E1 E : Env} {L : List (Nat × Value)} (ha : Agree S E1 E) (hh : Holds E1 L) : upds (over E S E1) L = E1 :=
  holds_upd hh fun i _ => by
    cases hc : S.contains i with
    | true => simp only [over, hc]; rfl
    | false => simp only [over, hc]; exact (ha i hc).symm
theorem x_loop {c : Code} {ι : Type} (S : List Nat) (L : ι → List (Nat × Value)) (I : ι → World → Prop) (μ : ι → Nat) (x0 : ι) (h0 : Holds E (L x0)) (hI : I x0 w)
    (round : ∀ x G w, I x w → wp P r n c (thenP (fun E' ds' w' => ∃ x', I x' w' ∧ μ x' < μ x ∧ ds' = ds ∧ Holds E' (L x') ∧ Agree S E' E) Q) (upds (over E S G) (L x)) ds w) :
    wp P r n (.loop c) Q E ds w := by
  intro a h1 h2 h3
  let J : Nat → Act → World → Prop := fun m a w => ∃ x, μ x = m ∧ I x w ∧ a.tmps.size = n ∧ a.defers = ds ∧ Holds (env a) (L x) ∧ Agree S (env a) E
  refine wpIn_loop (fun a w => ∃ m, J m a w) (fun a w => leastOf (fun m => J m a w)) ⟨μ x0, x0, rfl, hI, h1, h3, by rw [h2]; exact h0, by rw [h2]; exact agree_refl⟩ ?_
  intro a w hm;obtain ⟨⟨x, hx, hi, h1, h3, hh, ha⟩, _⟩ := leastOf_spec hm;refine wpIn_mono (round x (env a) w hi a h1 (env_of_agree ha hh).symm h3) ?_;rintro e a' w' ⟨q1, q2⟩
  cases e with
  | normal =>
    obtain ⟨x', hi', hlt, hd, hh', ha'⟩ := q2;have hJ : J (μ x') a' w' := ⟨x', rfl, hi', q1, hd, hh', ha'⟩;refine ⟨⟨_, hJ⟩, ?_⟩
    show leastOf (fun m => J m a' w') < leastOf (fun m => J m a w)
    have := (leastOf_spec (p := fun m => J m a' w') ⟨_, hJ⟩).2 _ hJ
    omega
  | _ => exact ⟨q1, q2⟩
def okd (n : Nat) (o : Oper) : Bool := match o.dst with | some d => Nat.blt d n | none => true
def wops (P : Program) (r : Option Nat) (n : Nat) (O : Array Oper) (Q : Post) (l : List Oper) (E : Env) (ds : List Deferred) (w : World) : Prop :=
  l.all (okd n) = true → ∀ a : Act, a.tmps.size = n → env a = E → a.defers = ds → wpListIn (WF r) 0 P O (toQ n Q) l a w
def wop (P : Program) (r : Option Nat) (n : Nat) (O : Array Oper) (Q : Post) (o : Oper) (l : List Oper) (E : Env) (ds : List Deferred) (w : World) : Prop :=
  okd n o = true → l.all (okd n) = true → ∀ a : Act, a.tmps.size = n → env a = E → a.defers = ds → o.wpIn (WF r) 0 P a w (wpListIn (WF r) 0 P O (toQ n Q) l) (toQ n Q)
theorem x_region {id : Nat} {l : List Oper} (hok : l.all (okd n) = true) (h : wops P r n l.toArray Q l E ds w) : wp P r n (.region id l.toArray false) Q E ds w := by
  intro a h1 h2 h3;refine wpIn_region ?_;have := wpOpsIn_eq_wpListIn (F := WF r) (n := 0) (P := P) (ops := l.toArray) (Q := toQ n Q) l 0 (by simp)
  rw [List.size_toArray, List.range_eq_range', this]
  exact h hok a h1 h2 h3
theorem wops_nil {O : Array Oper} (h : Q .normal E ds w) : wops P r n O Q [] E ds w := fun _ a h1 h2 h3 => ⟨h1, by rw [h2, h3]; exact h⟩
theorem yielded_env {O : Array Oper} {a : Act} {j d : Nat} (hj : (O[j]?).bind (·.dst) = some d) (hd : d < a.tmps.size) : yielded O a.tmps j = match env a d with | .bool b => some b | _ => none := by
  simp only [yielded, hj, Option.bind_some, env]
  rw [Array.getD_eq_getD_getElem?, Array.getElem?_eq_getElem hd]
  simp only [Option.getD_some]
  cases a.tmps[d] <;> rfl
theorem w_plain {O : Array Oper} {o : Oper} {l : List Oper} (hg : o.guard = none) (h : wop P r n O Q o l E ds w) : wops P r n O Q (o :: l) E ds w := by
  intro hok a h1 h2 h3;simp only [List.all_cons, Bool.and_eq_true] at hok;simp only [wpListIn];rw [if_pos (by simp [Region.wanted, hg])]
  exact h hok.1 hok.2 a h1 h2 h3
theorem w_yes {O : Array Oper} {o : Oper} {l : List Oper} (k d : Nat) (b : Bool) (h : wop P r n O Q o l E ds w)
    (hg : o.guard = some (k, b) := by rfl) (hk : (O[k]?).bind (·.dst) = some d := by rfl) (hd : Nat.blt d n = true := by rfl) (he : E d = .bool b := by rfl) : wops P r n O Q (o :: l) E ds w := by
  intro hok a h1 h2 h3;simp only [List.all_cons, Bool.and_eq_true] at hok;simp only [wpListIn];have hd' : d < a.tmps.size := by rw [h1]; simpa [Nat.blt_eq] using hd
  rw [if_pos (by simp [Region.wanted, hg, yielded_env hk hd', h2, he])]
  exact h hok.1 hok.2 a h1 h2 h3
theorem w_no {O : Array Oper} {o : Oper} {l : List Oper} (k d : Nat) (b : Bool) (h : wops P r n O Q l (updo E o.dst undef) ds w)
    (hg : o.guard = some (k, b) := by rfl) (hk : (O[k]?).bind (·.dst) = some d := by rfl) (hd : Nat.blt d n = true := by rfl) (he : E d = .bool (!b) ∨ E d = undef := by first | exact .inl rfl | exact .inr rfl) : wops P r n O Q (o :: l) E ds w := by
  intro hok a h1 h2 h3;simp only [List.all_cons, Bool.and_eq_true] at hok;simp only [wpListIn];have hd' : d < a.tmps.size := by rw [h1]; simpa [Nat.blt_eq] using hd
  have hw : Region.wanted o (yielded O a.tmps) = false := by
    rcases he with he | he <;> simp [Region.wanted, hg, yielded_env hk hd', h2, he, undef]
  rw [if_neg (by rw [hw]; simp)]
  refine ⟨fun _ _ => trivial, h hok.2 _ (by rw [put_size]; exact h1) ?_ (by rw [put_defers]; exact h3)⟩
  rw [env_puto _ _ _ (fun k hk' => by
    have := hok.1; simp only [okd, hk'] at this; rw [h1]; simpa [Nat.blt_eq] using this), h2]
theorem wop_run {O : Array Oper} {o : Oper} {l : List Oper} {v : Value} {w' : World} (hd : ∀ c, o.op ≠ .defer c) (hrun : (execOp (ev E) o).run P w = .ok (.value v) w')
    (h : wops P r n O Q l (updo E o.dst v) ds w') : wop P r n O Q o l E ds w := by
  intro hok hl a h1 h2 h3;refine ⟨fun _ _ => trivial, ?_⟩
  rw [ev_env, h2, Oper.semAt_eq _ _ _ hd, hrun]
  refine h hl _ (by rw [put_size]; exact h1) ?_ (by rw [put_defers]; exact h3)
  rw [env_puto _ _ _ (fun k hk' => by simp only [okd, hk'] at hok; rw [h1]; simpa [Nat.blt_eq] using hok), h2]
theorem wop_skip {O : Array Oper} {o : Oper} {l : List Oper} {w' : World} (hd : ∀ c, o.op ≠ .defer c) (hrun : (execOp (ev E) o).run P w = .ok .skip w')
    (h : wops P r n O Q l (updo E o.dst undef) ds w') : wop P r n O Q o l E ds w := by
  intro hok hl a h1 h2 h3;refine ⟨fun _ _ => trivial, ?_⟩
  rw [ev_env, h2, Oper.semAt_eq _ _ _ hd, hrun]
  refine h hl _ (by rw [put_size]; exact h1) ?_ (by rw [put_defers]; exact h3)
  rw [env_puto _ _ _ (fun k hk' => by simp only [okd, hk'] at hok; rw [h1]; simpa [Nat.blt_eq] using hok), h2]
def CallR (P : Program) (f : FuncId) (args : Array Value) (w : World) (Φ : Value → World → Prop) : Prop := Calls P f args w fun e w' => ∃ v, e = .returned v ∧ Φ v w'
theorem CallR.mono {f : FuncId} {args : Array Value} {Φ Ψ : Value → World → Prop} (h : CallR P f args w Φ) (hm : ∀ v w', Φ v w' → Ψ v w') : CallR P f args w Ψ :=
  fun cs => let ⟨e, w', fr, ⟨v, e1, h1⟩, h2⟩ := h cs; ⟨e, w', fr, ⟨v, e1, hm _ _ h1⟩, h2⟩
theorem callsIn_of_calls {f : FuncId} {args : Array Value} {R : Ending → World → Prop} (h : Calls P f args w R) : CallsIn (WF r) 0 P f args w R := by
  have h1 : CallsIn Fence.wide 0 P f args w R := callsIn_wide.2 h
  cases r with
  | none => exact h1
  | some l => exact CallsIn.inRound l h1
theorem wop_enter {O : Array Oper} {o : Oper} {l : List Oper} {f : FuncId} {args : Array Value} {w1 : World} {Φ : Value → World → Prop} (hd : ∀ c, o.op ≠ .defer c) (hrun : (execOp (ev E) o).run P w = .ok (.enter f args) w1)
    (hc : CallR P f args w1 Φ) (h : ∀ v w', Φ v w' → wops P r n O Q l (updo E o.dst v) ds w') : wop P r n O Q o l E ds w := by
  intro hok hl a h1 h2 h3;refine ⟨fun _ _ => trivial, ?_⟩
  rw [ev_env, h2, Oper.semAt_eq _ _ _ hd, hrun]
  refine ⟨fun hh => by simp [WF, Fence.wide] at hh, CallsIn.mono (callsIn_of_calls hc) ?_⟩
  rintro e w' ⟨v, rfl, hv⟩;refine h v w' hv hl _ (by rw [put_size]; exact h1) ?_ (by rw [put_defers]; exact h3)
  rw [env_puto _ _ _ (fun k hk' => by simp only [okd, hk'] at hok; rw [h1]; simpa [Nat.blt_eq] using hok), h2]
def retP (P : Program) (fn : Func) (Φ : Value → World → Prop) : Post
  | .normal, E, ds, w => ds = [] ∧ ∀ a : Act, env a = E → ∃ v, (results fn a.tmps).run P w = .ok v w ∧ Φ v w
  | .ret, E, ds, w => ds = [] ∧ ∀ a : Act, env a = E → ∃ v, (results fn a.tmps).run P w = .ok v w ∧ Φ v w
  | .exit _, _, _, _ => False
  | .goto _, _, _, _ => False
  | .panic _, _, _, _ => False
  | .outgrown, _, _, _ => False
theorem callR_of_wp {f : FuncId} {fn : Func} {c : Code} {args : List Value} {Φ : Value → World → Prop} (hf : P.funcs[f]? = some fn) (hb : fn.body = some c) (hn : args.length ≤ fn.ntmps)
    (h : wp P none fn.ntmps c (retP P fn Φ) (argEnv args) [] w) : CallR P f args.toArray w Φ := by
  refine callsIn_wide.1 (callsIn_of_wp (n := 0) hf hb trivial ?_);refine wpIn_mono (h _ ?_ ?_ rfl) ?_
  · simp; omega
  · funext i
    simp only [env, argEnv, Array.getD_eq_getD_getElem?, List.getD_eq_getElem?_getD, List.size_toArray]
    by_cases hi : i < args.length
    · rw [Array.getElem?_append_left (by simpa using hi)]; simp
    rw [Array.getElem?_append_right (by simpa using hi)]
    rw [List.getElem?_eq_none (by omega)]
    simp only [Array.getElem?_replicate, List.size_toArray]
    split <;> rfl
  rintro e a' w' ⟨q1, q2⟩
  cases e with
  | normal => obtain ⟨hd, q⟩ := q2; obtain ⟨v, hv, hΦ⟩ := q a' rfl; exact ⟨hd, v, hv, v, rfl, hΦ⟩
  | ret => obtain ⟨hd, q⟩ := q2; obtain ⟨v, hv, hΦ⟩ := q a' rfl; exact ⟨hd, v, hv, v, rfl, hΦ⟩
  | _ => exact q2.elim
end rules
end Go.Proofs.YtghjmiggobpmoaaGreatDoor.K
namespace Go.Proofs.YtghjmiggobpmoaaGreatDoor.K
open Go Go.RowKit
structure Chg (bs : List Nat) (w w' : World) : Prop where
  os : w'.os = w.os
  tape : w'.tape = w.tape
  output : w'.output = w.output
  size : w.heap.size ≤ w'.heap.size
  block : ∀ k, k < w.heap.size → k ∉ bs → w'.heap[k]? = w.heap[k]?
theorem Chg.refl {bs : List Nat} (w : World) : Chg bs w w := ⟨rfl, rfl, rfl, Nat.le_refl _, fun _ _ _ => rfl⟩
theorem Chg.trans {bs cs : List Nat} {a b c : World} (h : Chg bs a b) (k : Chg cs b c) (hc : ∀ x, x ∈ cs → x ∈ bs ∨ a.heap.size ≤ x) : Chg bs a c :=
  ⟨k.os.trans h.os, k.tape.trans h.tape, k.output.trans h.output, Nat.le_trans h.size k.size, fun i hi hb => by
    refine (k.block i (Nat.lt_of_lt_of_le hi h.size) fun hx => ?_).trans (h.block i hi hb)
    rcases hc i hx with h1 | h1
    · exact hb h1
    omega⟩
theorem Chg.then {bs : List Nat} {a b c : World} (h : Chg bs a b) (k : Chg [] b c) : Chg bs a c := h.trans k (fun _ hx => by cases hx)
theorem Chg.then1 {bs : List Nat} {a b c : World} {x : Nat} (h : Chg bs a b) (k : Chg [x] b c) (hx : a.heap.size ≤ x) : Chg bs a c := h.trans k (fun y hy => by simp at hy; subst hy; exact .inr hx)
theorem Chg.mono {bs cs : List Nat} {a b : World} (h : Chg bs a b) (hs : ∀ x, x ∈ bs → x ∈ cs) : Chg cs a b := ⟨h.os, h.tape, h.output, h.size, fun k hk hb => h.block k hk fun hx => hb (hs _ hx)⟩
theorem Chg.wide {cs : List Nat} {a b : World} (h : Chg [] a b) : Chg cs a b := h.mono (fun _ hx => by cases hx)
theorem Chg.below {a b : World} (h : Chg [] a b) : Below a.heap.size a b := ⟨h.os, h.tape, h.output, h.size, fun k hk => h.block k hk (by simp)⟩
theorem Chg.of_below {a b : World} (h : Below a.heap.size a b) : Chg [] a b := ⟨h.os, h.tape, h.output, h.size, fun k hk _ => h.block k hk⟩
theorem Chg.alloc (w : World) (o : Obj) : Chg [] w (w.alloc o) := .of_below ((Below.refl _ w).alloc (Nat.le_refl _) o)
theorem Chg.drew (w : World) : Chg [] w w.drew := ⟨rfl, rfl, rfl, Nat.le_refl _, fun _ _ _ => rfl⟩
theorem Chg.drewN (w : World) (n : Nat) : Chg [] w (w.drewN n) := ⟨rfl, rfl, rfl, Nat.le_refl _, fun _ _ _ => rfl⟩
theorem Chg.setCell (w : World) (a : Addr) (v : Value) : Chg [a.block] w (w.setCell a v) :=
  ⟨rfl, rfl, rfl, by show w.heap.size ≤ (w.heap.modify _ _).size; rw [Array.size_modify]; exact Nat.le_refl _, fun k _ hb => Below.heap_setCell w a v k (by simpa using hb)⟩
def Blk (w : World) (b : Nat) (cs : List Value) (T : TypeId) : Prop := w.heap[b]? = some (.cells ⟨cs⟩ T (0, 0))
theorem Blk.lt {w : World} {b : Nat} {cs : List Value} {T : TypeId} (h : Blk w b cs T) : b < w.heap.size := (Array.getElem?_eq_some_iff.1 h).1
theorem Blk.tr {w w' : World} {b : Nat} {cs : List Value} {T : TypeId} {bs : List Nat} (h : Blk w b cs T) (hc : Chg bs w w') (hb : b ∉ bs) : Blk w' b cs T := (hc.block b h.lt hb).trans h
theorem Blk.tr0 {w w' : World} {b : Nat} {cs : List Value} {T : TypeId} (h : Blk w b cs T) (hc : Chg [] w w') : Blk w' b cs T := h.tr hc (by simp)
theorem Blk.tr1 {w w' : World} {b x : Nat} {cs : List Value} {T : TypeId} (h : Blk w b cs T) (hc : Chg [x] w w') (hb : b ≠ x) : Blk w' b cs T := h.tr hc (by simpa using hb)
def nthV : List Value → Nat → Option Value
  | [], _ => none
  | v :: _, 0 => some v
  | _ :: r, i + 1 => nthV r i
theorem nthV_eq : ∀ (l : List Value) (i : Nat), nthV l i = l[i]?
  | [], _ => rfl
  | _ :: _, 0 => rfl
  | _ :: r, i + 1 => by simp only [nthV, List.getElem?_cons_succ]; exact nthV_eq r i
def dropV : List Value → Nat → List Value
  | l, 0 => l
  | [], _ => []
  | _ :: r, i + 1 => dropV r i
def takeV : Nat → List Value → Option (List Value)
  | 0, _ => some []
  | _ + 1, [] => none
  | n + 1, v :: r => (takeV n r).map (v :: ·)
def Cells (w : World) (b off : Nat) (vs : List Value) : Prop := ∀ j v, vs[j]? = some v → w.cell? ⟨b, off + j, none⟩ = some v
theorem Blk.cell {w : World} {b off : Nat} {cs : List Value} {T : TypeId} {v : Value} (h : Blk w b cs T) (hv : nthV cs off = some v) : w.cell? ⟨b, off, none⟩ = some v := by
  rw [nthV_eq] at hv
  simp [World.cell?, show w.heap[b]? = _ from h, hv]
theorem dropV_eq : ∀ (l : List Value) (i : Nat), dropV l i = l.drop i
  | l, 0 => by cases l <;> rfl
  | [], i + 1 => rfl
  | _ :: r, i + 1 => by simp only [dropV, List.drop_succ_cons]; exact dropV_eq r i
theorem takeV_eq : ∀ (n : Nat) (l vs : List Value), takeV n l = some vs → vs.length = n ∧ ∀ (j : Nat) (v : Value), vs[j]? = some v → l[j]? = some v
  | 0, l, vs, h => by simp [takeV] at h; subst h; simp
  | n + 1, [], vs, h => by simp [takeV] at h
  | n + 1, v :: r, vs, h => by
    simp only [takeV, Option.map_eq_some_iff] at h
    obtain ⟨ws, h1, rfl⟩ := h;obtain ⟨h2, h3⟩ := takeV_eq n r ws h1;refine ⟨by simp [h2], fun j u hj => ?_⟩
    cases j with
    | zero => simpa using hj
    | succ j => simp only [List.getElem?_cons_succ] at hj ⊢; exact h3 j u hj
theorem Blk.cells {w : World} {b off n : Nat} {cs vs : List Value} {T : TypeId} (h : Blk w b cs T) (hv : takeV n (dropV cs off) = some vs) : Cells w b off vs := fun j v hj => by
  rw [dropV_eq] at hv
  refine h.cell ?_;rw [nthV_eq];have := (takeV_eq _ _ _ hv).2 j v hj
  simpa using this
theorem Blk.free {w : World} {b off : Nat} {cs : List Value} {T : TypeId} (h : Blk w b cs T) : w.frozen? ⟨b, off, none⟩ = false := by simp [World.frozen?, show w.heap[b]? = _ from h]
def setV : List Value → Nat → Value → List Value
  | [], _, _ => []
  | _ :: r, 0, v => v :: r
  | u :: r, i + 1, v => u :: setV r i v
theorem setV_eq : ∀ (l : List Value) (i : Nat) (v : Value), setV l i v = l.set i v
  | [], _, _ => rfl
  | _ :: _, 0, _ => rfl
  | _ :: r, i + 1, v => by simp only [setV, List.set_cons_succ]; rw [setV_eq r i v]
def setVs : List Value → Nat → List Value → List Value
  | l, _, [] => l
  | l, i, v :: r => setVs (setV l i v) (i + 1) r
theorem Blk.set {w : World} {b off : Nat} {cs : List Value} {T : TypeId} (h : Blk w b cs T) (v : Value) : Blk (w.setCell ⟨b, off, none⟩ v) b (setV cs off v) T := by
  have hlt := h.lt;have h2 : w.heap[b] = .cells ⟨cs⟩ T (0, 0) := by have := h; unfold Blk at this; rw [Array.getElem?_eq_getElem hlt] at this; exact Option.some.inj this
  show (w.heap.modify b _)[b]? = _
  rw [Array.getElem?_eq_getElem (by rw [Array.size_modify]; exact hlt), Array.getElem_modify_self, h2]
  simp [setV_eq]
theorem Blk.ne_size {w : World} {b : Nat} {cs : List Value} {T : TypeId} (h : Blk w b cs T) : b ≠ w.heap.size := Nat.ne_of_lt h.lt
theorem Blk.new (w : World) (cs : List Value) (T : TypeId) : Blk (w.alloc (.cells ⟨cs⟩ T)) w.heap.size cs T := World.alloc_heap_new w _
def oneB (P : Program) (t : TypeId) : Bool :=
  match P.underlying t, P.info? t with
  | some (.struct _), _ | some (.array _ _), _ => false
  | some _, some i => Nat.beq i.size 1
  | _, _ => false
def aggB (P : Program) (t : TypeId) (n : Nat) : Bool :=
  match P.underlying t, P.info? t with
  | some (.struct _), some i | some (.array _ _), some i => Nat.beq i.size n
  | _, _ => false
def sizeB (P : Program) (t : TypeId) (n : Nat) : Bool :=
  match P.info? t with
  | some i => Nat.beq i.size n
  | _ => false
def fldB (P : Program) (t : TypeId) (f off : Nat) : Bool :=
  match P.underlying t with
  | some (.struct fs) => match fs[f]? with
    | some x => Nat.beq x.offset off && (match P.info? x.type with | some i => !(Nat.beq i.size 0) | none => false)
    | none => false
  | _ => false
variable {P : Program} {r : Option Nat} {n : Nat} {O : Array Oper} {Q : Post} {E : Env} {ds : List Deferred} {w : World} {l : List Oper}
theorem run_sizeOf {t : TypeId} {k : Nat} (h : sizeB P t k = true) : (sizeOf t).run P w = .ok k w := by
  unfold sizeB at h
  split at h
  · rename_i i hi; have := Nat.eq_of_beq_eq_true h; simp [sizeOf, typeInfo, go_sem, hi, this]
  cases h
theorem sizeB_agg {t : TypeId} {k : Nat} (h : aggB P t k = true) : sizeB P t k = true := by unfold aggB at h; unfold sizeB; split at h <;> simp_all
theorem run_isAgg_one {t : TypeId} (h : oneB P t = true) : (isAgg t).run P w = .ok false w := by
  unfold oneB at h
  cases hu : P.underlying t with
  | none => simp [hu] at h
  | some d => cases d <;> simp_all [isAgg, underlying, go_sem]
theorem run_isAgg_agg {t : TypeId} {k : Nat} (h : aggB P t k = true) : (isAgg t).run P w = .ok true w := by
  unfold aggB at h
  cases hu : P.underlying t with
  | none => simp [hu] at h
  | some d => cases d <;> simp_all [isAgg, underlying, go_sem]
section plain
variable {dst : Option Nat} {ty : TypeId} {pos : String} {af : Array Edge} {g : Option (Nat × Bool)}
theorem r_move {x : Operand} {v : Value} (hx : ev E x = v) :
    (execOp (ev E) ⟨dst, .move x, ty, pos, af, g⟩).run P w = .ok (.value v) w := by simp [execOp, hx, go_sem]
theorem st_move {x : Operand} {v : Value} (hx : ev E x = v) (h : wops P r n O Q l (updo E dst v) ds w) : wop P r n O Q ⟨dst, .move x, ty, pos, af, g⟩ l E ds w :=
  wop_run (fun _ => by simp) (r_move hx) h
theorem r_assign {x : Operand} {v : Value} (hx : ev E x = v) :
    (execOp (ev E) ⟨dst, .assign x, ty, pos, af, g⟩).run P w = .ok (.value v) w := by simp [execOp, hx, go_sem]
theorem st_assign {x : Operand} {v : Value} (hx : ev E x = v) (h : wops P r n O Q l (updo E dst v) ds w) : wop P r n O Q ⟨dst, .assign x, ty, pos, af, g⟩ l E ds w :=
  wop_run (fun _ => by simp) (r_assign hx) h
theorem r_pick {c x y : Operand} {v : Value} {b : Bool} (hc : ev E c = .bool b) (hv : (bif b then ev E x else ev E y) = v) :
    (execOp (ev E) ⟨dst, .pick c x y, ty, pos, af, g⟩).run P w = .ok (.value v) w := by subst hv; cases b <;> simp [execOp, hc, go_sem, asBool]
theorem st_pick {c x y : Operand} {v : Value} {b : Bool} (hc : ev E c = .bool b) (hv : (bif b then ev E x else ev E y) = v) (h : wops P r n O Q l (updo E dst v) ds w) : wop P r n O Q ⟨dst, .pick c x y, ty, pos, af, g⟩ l E ds w :=
  wop_run (fun _ => by simp) (r_pick hc hv) h
theorem r_nilCheck {x : Operand} {a : Addr} (hx : ev E x = .pointer (some a)) :
    (execOp (ev E) ⟨dst, .nilCheck x, ty, pos, af, g⟩).run P w = .ok (.value (.pointer (some a))) w := by simp [execOp, hx, go_sem]
theorem st_nilCheck {x : Operand} {a : Addr} (hx : ev E x = .pointer (some a)) (h : wops P r n O Q l (updo E dst (.pointer (some a))) ds w) : wop P r n O Q ⟨dst, .nilCheck x, ty, pos, af, g⟩ l E ds w :=
  wop_run (fun _ => by simp) (r_nilCheck hx) h
theorem r_makeFunc {f : Fn} {as bs : Array Operand} :
    (execOp (ev E) ⟨dst, .makeFunc f as bs, ty, pos, af, g⟩).run P w = .ok (.value (.func f ⟨as.toList.map (ev E)⟩ ⟨bs.toList.map (ev E)⟩)) w := by
  rw [show (⟨as.toList.map (ev E)⟩ : Array Value) = as.map (ev E) from Array.ext' (by simp), show (⟨bs.toList.map (ev E)⟩ : Array Value) = bs.map (ev E) from Array.ext' (by simp)]
  simp [execOp, Instr.makeFunc, go_sem]
theorem st_makeFunc {f : Fn} {as bs : Array Operand} (h : wops P r n O Q l (updo E dst (.func f ⟨as.toList.map (ev E)⟩ ⟨bs.toList.map (ev E)⟩)) ds w) : wop P r n O Q ⟨dst, .makeFunc f as bs, ty, pos, af, g⟩ l E ds w :=
  wop_run (fun _ => by simp) (r_makeFunc ) h
theorem r_extract {x : Operand} {i : Nat} {vs : List Value} {v : Value} (hx : ev E x = .tuple ⟨vs⟩) (hv : nthV vs i = some v) :
    (execOp (ev E) ⟨dst, .extract x i, ty, pos, af, g⟩).run P w = .ok (.value v) w := by rw [nthV_eq] at hv; simp [execOp, hx, Instr.extract, go_sem, hv]
theorem st_extract {x : Operand} {i : Nat} {vs : List Value} {v : Value} (hx : ev E x = .tuple ⟨vs⟩) (hv : nthV vs i = some v) (h : wops P r n O Q l (updo E dst v) ds w) : wop P r n O Q ⟨dst, .extract x i, ty, pos, af, g⟩ l E ds w :=
  wop_run (fun _ => by simp) (r_extract hx hv) h
theorem wrap64_id {x : Int} (h1 : -9223372036854775808 ≤ x) (h2 : x ≤ 9223372036854775807) : IntKind.i64.wrap x = x := by
  have := IntWalk.i64_in x (by omega)
  exact this
theorem r_add {t t' : TypeId} {x y : Operand} {a b : Int} {k : IntKind} (hx : ev E x = .int k a) (hy : ev E y = .int k b) :
    (execOp (ev E) ⟨dst, .binOp .add t x y t', ty, pos, af, g⟩).run P w = .ok (.value (.int k (k.wrap (a + b)))) w := by simp [execOp, hx, hy, go_sem, eqGuard, binOp, Op.intArith]
theorem st_add {t t' : TypeId} {x y : Operand} {a b : Int} {k : IntKind} (hx : ev E x = .int k a) (hy : ev E y = .int k b) (h : wops P r n O Q l (updo E dst (.int k (k.wrap (a + b)))) ds w) : wop P r n O Q ⟨dst, .binOp .add t x y t', ty, pos, af, g⟩ l E ds w :=
  wop_run (fun _ => by simp) (r_add hx hy) h
theorem r_sub {t t' : TypeId} {x y : Operand} {a b : Int} {k : IntKind} (hx : ev E x = .int k a) (hy : ev E y = .int k b) :
    (execOp (ev E) ⟨dst, .binOp .sub t x y t', ty, pos, af, g⟩).run P w = .ok (.value (.int k (k.wrap (a - b)))) w := by simp [execOp, hx, hy, go_sem, eqGuard, binOp, Op.intArith]
theorem st_sub {t t' : TypeId} {x y : Operand} {a b : Int} {k : IntKind} (hx : ev E x = .int k a) (hy : ev E y = .int k b) (h : wops P r n O Q l (updo E dst (.int k (k.wrap (a - b)))) ds w) : wop P r n O Q ⟨dst, .binOp .sub t x y t', ty, pos, af, g⟩ l E ds w :=
  wop_run (fun _ => by simp) (r_sub hx hy) h
theorem r_addn {t t' : TypeId} {x y : Operand} {a b : Int} (hx : ev E x = .int .i64 a) (hy : ev E y = .int .i64 b) (hb : -9223372036854775808 ≤ a + b ∧ a + b ≤ 9223372036854775807) :
    (execOp (ev E) ⟨dst, .binOp .add t x y t', ty, pos, af, g⟩).run P w = .ok (.value (.int .i64 (a + b))) w := by
  have := r_add (P := P) (w := w) (dst := dst) (t := t) (t' := t') (ty := ty) (pos := pos) (af := af) (g := g) hx hy;rw [wrap64_id hb.1 hb.2] at this; exact this
theorem st_addn {t t' : TypeId} {x y : Operand} {a b : Int} (hx : ev E x = .int .i64 a) (hy : ev E y = .int .i64 b) (hb : -9223372036854775808 ≤ a + b ∧ a + b ≤ 9223372036854775807) (h : wops P r n O Q l (updo E dst (.int .i64 (a + b))) ds w) :
    wop P r n O Q ⟨dst, .binOp .add t x y t', ty, pos, af, g⟩ l E ds w := st_add hx hy (by rw [wrap64_id hb.1 hb.2]; exact h)
theorem st_subn {t t' : TypeId} {x y : Operand} {a b : Int} (hx : ev E x = .int .i64 a) (hy : ev E y = .int .i64 b) (hb : -9223372036854775808 ≤ a - b ∧ a - b ≤ 9223372036854775807) (h : wops P r n O Q l (updo E dst (.int .i64 (a - b))) ds w) :
    wop P r n O Q ⟨dst, .binOp .sub t x y t', ty, pos, af, g⟩ l E ds w := st_sub hx hy (by rw [wrap64_id hb.1 hb.2]; exact h)
theorem r_lss {t t' : TypeId} {x y : Operand} {a b : Int} {k : IntKind} (hx : ev E x = .int k a) (hy : ev E y = .int k b) :
    (execOp (ev E) ⟨dst, .binOp .lss t x y t', ty, pos, af, g⟩).run P w = .ok (.value (.bool (decide (a < b)))) w := by simp [execOp, hx, hy, go_sem, eqGuard, binOp, Op.intCmp]
theorem st_lss {t t' : TypeId} {x y : Operand} {a b : Int} {k : IntKind} (hx : ev E x = .int k a) (hy : ev E y = .int k b) (h : wops P r n O Q l (updo E dst (.bool (decide (a < b)))) ds w) : wop P r n O Q ⟨dst, .binOp .lss t x y t', ty, pos, af, g⟩ l E ds w :=
  wop_run (fun _ => by simp) (r_lss hx hy) h
theorem r_leq {t t' : TypeId} {x y : Operand} {a b : Int} {k : IntKind} (hx : ev E x = .int k a) (hy : ev E y = .int k b) :
    (execOp (ev E) ⟨dst, .binOp .leq t x y t', ty, pos, af, g⟩).run P w = .ok (.value (.bool (decide (a ≤ b)))) w := by simp [execOp, hx, hy, go_sem, eqGuard, binOp, Op.intCmp]
theorem st_leq {t t' : TypeId} {x y : Operand} {a b : Int} {k : IntKind} (hx : ev E x = .int k a) (hy : ev E y = .int k b) (h : wops P r n O Q l (updo E dst (.bool (decide (a ≤ b)))) ds w) : wop P r n O Q ⟨dst, .binOp .leq t x y t', ty, pos, af, g⟩ l E ds w :=
  wop_run (fun _ => by simp) (r_leq hx hy) h
theorem r_gtr {t t' : TypeId} {x y : Operand} {a b : Int} {k : IntKind} (hx : ev E x = .int k a) (hy : ev E y = .int k b) :
    (execOp (ev E) ⟨dst, .binOp .gtr t x y t', ty, pos, af, g⟩).run P w = .ok (.value (.bool (decide (b < a)))) w := by simp [execOp, hx, hy, go_sem, eqGuard, binOp, Op.intCmp]
theorem st_gtr {t t' : TypeId} {x y : Operand} {a b : Int} {k : IntKind} (hx : ev E x = .int k a) (hy : ev E y = .int k b) (h : wops P r n O Q l (updo E dst (.bool (decide (b < a)))) ds w) : wop P r n O Q ⟨dst, .binOp .gtr t x y t', ty, pos, af, g⟩ l E ds w :=
  wop_run (fun _ => by simp) (r_gtr hx hy) h
theorem r_geq {t t' : TypeId} {x y : Operand} {a b : Int} {k : IntKind} (hx : ev E x = .int k a) (hy : ev E y = .int k b) :
    (execOp (ev E) ⟨dst, .binOp .geq t x y t', ty, pos, af, g⟩).run P w = .ok (.value (.bool (decide (b ≤ a)))) w := by simp [execOp, hx, hy, go_sem, eqGuard, binOp, Op.intCmp]
theorem st_geq {t t' : TypeId} {x y : Operand} {a b : Int} {k : IntKind} (hx : ev E x = .int k a) (hy : ev E y = .int k b) (h : wops P r n O Q l (updo E dst (.bool (decide (b ≤ a)))) ds w) : wop P r n O Q ⟨dst, .binOp .geq t x y t', ty, pos, af, g⟩ l E ds w :=
  wop_run (fun _ => by simp) (r_geq hx hy) h
theorem r_eql {t t' : TypeId} {x y : Operand} {a b : Int} {k : IntKind} (hx : ev E x = .int k a) (hy : ev E y = .int k b) :
    (execOp (ev E) ⟨dst, .binOp .eql t x y t', ty, pos, af, g⟩).run P w = .ok (.value (.bool (decide (a = b)))) w := by rw [show decide (a = b) = (a == b) by by_cases e : a = b <;> simp [e]]; simp [execOp, hx, hy, go_sem, eqGuard, binOp, Op.intCmp]
theorem st_eql {t t' : TypeId} {x y : Operand} {a b : Int} {k : IntKind} (hx : ev E x = .int k a) (hy : ev E y = .int k b) (h : wops P r n O Q l (updo E dst (.bool (decide (a = b)))) ds w) : wop P r n O Q ⟨dst, .binOp .eql t x y t', ty, pos, af, g⟩ l E ds w :=
  wop_run (fun _ => by simp) (r_eql hx hy) h
theorem r_neq {t t' : TypeId} {x y : Operand} {a b : Int} {k : IntKind} (hx : ev E x = .int k a) (hy : ev E y = .int k b) :
    (execOp (ev E) ⟨dst, .binOp .neq t x y t', ty, pos, af, g⟩).run P w = .ok (.value (.bool (!decide (a = b)))) w := by rw [show decide (a = b) = (a == b) by by_cases e : a = b <;> simp [e]]; simp [execOp, hx, hy, go_sem, eqGuard, binOp, Op.intCmp, bne]
theorem st_neq {t t' : TypeId} {x y : Operand} {a b : Int} {k : IntKind} (hx : ev E x = .int k a) (hy : ev E y = .int k b) (h : wops P r n O Q l (updo E dst (.bool (!decide (a = b)))) ds w) : wop P r n O Q ⟨dst, .binOp .neq t x y t', ty, pos, af, g⟩ l E ds w :=
  wop_run (fun _ => by simp) (r_neq hx hy) h
theorem r_not {t : TypeId} {x : Operand} {b : Bool} (hx : ev E x = .bool b) :
    (execOp (ev E) ⟨dst, .unOp .not t x, ty, pos, af, g⟩).run P w = .ok (.value (.bool (!b))) w := by simp [execOp, hx, go_sem, Op.unary]
theorem st_not {t : TypeId} {x : Operand} {b : Bool} (hx : ev E x = .bool b) (h : wops P r n O Q l (updo E dst (.bool (!b))) ds w) : wop P r n O Q ⟨dst, .unOp .not t x, ty, pos, af, g⟩ l E ds w :=
  wop_run (fun _ => by simp) (r_not hx) h
theorem r_rem {t t' : TypeId} {x y : Operand} {a b : Int} {k : IntKind} (hx : ev E x = .int k a) (hy : ev E y = .int k b) (hb : b ≠ 0) :
    (execOp (ev E) ⟨dst, .binOp .rem t x y t', ty, pos, af, g⟩).run P w = .ok (.value (.int k (a.tmod b))) w := by simp [execOp, hx, hy, go_sem, eqGuard, binOp, Op.intDiv, hb]
theorem st_rem {t t' : TypeId} {x y : Operand} {a b : Int} {k : IntKind} (hx : ev E x = .int k a) (hy : ev E y = .int k b) (hb : b ≠ 0) (h : wops P r n O Q l (updo E dst (.int k (a.tmod b))) ds w) : wop P r n O Q ⟨dst, .binOp .rem t x y t', ty, pos, af, g⟩ l E ds w :=
  wop_run (fun _ => by simp) (r_rem hx hy hb) h
theorem r_convInt {src t : TypeId} {x : Operand} {a : Int} {k k' : IntKind} {u : TypeDesc} (hs : P.underlying src = some u) (ht : P.underlying t = some (.int k')) (hx : ev E x = .int k a) :
    (execOp (ev E) ⟨dst, .convert src t x, ty, pos, af, g⟩).run P w = .ok (.value (.int k' (k'.wrap a))) w := by cases u <;> simp [execOp, hx, go_sem, convert, underlying, hs, ht, Conv.intToInt]
theorem st_convInt {src t : TypeId} {x : Operand} {a : Int} {k k' : IntKind} {u : TypeDesc} (hs : P.underlying src = some u) (ht : P.underlying t = some (.int k')) (hx : ev E x = .int k a) (h : wops P r n O Q l (updo E dst (.int k' (k'.wrap a))) ds w) : wop P r n O Q ⟨dst, .convert src t x, ty, pos, af, g⟩ l E ds w :=
  wop_run (fun _ => by simp) (r_convInt hs ht hx) h
abbrev Bytes := List UInt8
def S (s : Bytes) : Value := .string ⟨⟨s⟩⟩
theorem S_eta (s : ByteArray) : Value.string s = S s.data.toList := rfl
theorem toList_mk (s : Bytes) : (⟨⟨s⟩⟩ : ByteArray).toList = s := by rw [Lib.toList_data]
theorem size_mk (s : Bytes) : (⟨⟨s⟩⟩ : ByteArray).size = s.length := rfl
theorem append_mk (a b : Bytes) : (⟨⟨a⟩⟩ : ByteArray) ++ ⟨⟨b⟩⟩ = ⟨⟨a ++ b⟩⟩ := by
  apply ByteArray.ext; simp
theorem extract_mk (s : Bytes) (i j : Nat) : (⟨⟨s⟩⟩ : ByteArray).extract i j = ⟨⟨(s.take j).drop i⟩⟩ := by
  rw [Lib.extract_eq]
  simp only [List.drop_take]
def byte (s : Bytes) (i : Nat) : UInt8 := s.getD i 0
theorem r_sadd {t t' : TypeId} {x y : Operand} {a b : Bytes} (hx : ev E x = S a) (hy : ev E y = S b) (hb : a.length + b.length ≤ 9223372036854775807) :
    (execOp (ev E) ⟨dst, .binOp .add t x y t', ty, pos, af, g⟩).run P w = .ok (.value (S (a ++ b))) w := by
    have h1 := run_string_add_sum (P := P) (w := w) ⟨⟨a⟩⟩ ⟨⟨b⟩⟩ (by rw [size_mk, size_mk]; exact hb)
    rw [append_mk] at h1
    simp only [S] at hx hy
    simp [execOp, hx, hy, go_sem, eqGuard, h1, S]
theorem st_sadd {t t' : TypeId} {x y : Operand} {a b : Bytes} (hx : ev E x = S a) (hy : ev E y = S b) (hb : a.length + b.length ≤ 9223372036854775807) (h : wops P r n O Q l (updo E dst (S (a ++ b))) ds w) : wop P r n O Q ⟨dst, .binOp .add t x y t', ty, pos, af, g⟩ l E ds w :=
  wop_run (fun _ => by simp) (r_sadd hx hy hb) h
theorem r_seql {t t' : TypeId} {x y : Operand} {a b : Bytes} (hx : ev E x = S a) (hy : ev E y = S b) :
    (execOp (ev E) ⟨dst, .binOp .eql t x y t', ty, pos, af, g⟩).run P w = .ok (.value (.bool (decide (a = b)))) w := by
    simp only [S] at hx hy
    rw [show decide (a = b) = (a == b) by by_cases e : a = b <;> simp [e]]
    simp [execOp, hx, hy, go_sem, eqGuard, toList_mk]
theorem st_seql {t t' : TypeId} {x y : Operand} {a b : Bytes} (hx : ev E x = S a) (hy : ev E y = S b) (h : wops P r n O Q l (updo E dst (.bool (decide (a = b)))) ds w) : wop P r n O Q ⟨dst, .binOp .eql t x y t', ty, pos, af, g⟩ l E ds w :=
  wop_run (fun _ => by simp) (r_seql hx hy) h
theorem r_sneq {t t' : TypeId} {x y : Operand} {a b : Bytes} (hx : ev E x = S a) (hy : ev E y = S b) :
    (execOp (ev E) ⟨dst, .binOp .neq t x y t', ty, pos, af, g⟩).run P w = .ok (.value (.bool (!decide (a = b)))) w := by
    simp only [S] at hx hy
    rw [show decide (a = b) = (a == b) by by_cases e : a = b <;> simp [e]]
    simp [execOp, hx, hy, go_sem, eqGuard, toList_mk]
theorem st_sneq {t t' : TypeId} {x y : Operand} {a b : Bytes} (hx : ev E x = S a) (hy : ev E y = S b) (h : wops P r n O Q l (updo E dst (.bool (!decide (a = b)))) ds w) : wop P r n O Q ⟨dst, .binOp .neq t x y t', ty, pos, af, g⟩ l E ds w :=
  wop_run (fun _ => by simp) (r_sneq hx hy) h
theorem r_slen {x : Operand} {a : Bytes} {ct : Array TypeId} (ht : (ct[0]?).bind P.underlying = some .string) (hx : ev E x = S a) :
    (execOp (ev E) ⟨dst, .call ⟨.builtin .len, #[x], ct⟩, ty, pos, af, g⟩).run P w = .ok (.value (.int .i64 (a.length : Int))) w := by
    simp only [S] at hx
    cases h0 : ct[0]? with
    | none => simp [h0] at ht
    | some t0 =>
      simp only [h0, Option.bind_some] at ht
      simp [execOp, resolve, invoke, builtin, Builtin.len_, hx, go_sem, h0, underlying, ht, goInt, size_mk]
theorem st_slen {x : Operand} {a : Bytes} {ct : Array TypeId} (ht : (ct[0]?).bind P.underlying = some .string) (hx : ev E x = S a) (h : wops P r n O Q l (updo E dst (.int .i64 (a.length : Int))) ds w) : wop P r n O Q ⟨dst, .call ⟨.builtin .len, #[x], ct⟩, ty, pos, af, g⟩ l E ds w :=
  wop_run (fun _ => by simp) (r_slen ht hx) h
theorem r_sidx {t : TypeId} {x y : Operand} {a : Bytes} {k : IntKind} {i : Int} (ht : P.underlying t = some .string) (hx : ev E x = S a) (hy : ev E y = .int k i) (h0 : 0 ≤ i) (h1 : i < a.length) :
    (execOp (ev E) ⟨dst, .index t x y, ty, pos, af, g⟩).run P w = .ok (.value (.int .u8 ((byte a i.toNat).toNat : Int))) w := by
    simp only [S] at hx
    have hlt : i.toNat < a.length := by omega
    have hb : (⟨⟨a⟩⟩ : ByteArray)[i.toNat]? = some (byte a i.toNat) := by
      rw [getElem?_pos (⟨⟨a⟩⟩ : ByteArray) i.toNat (show i.toNat < (⟨⟨a⟩⟩ : ByteArray).size from hlt)]
      simp only [byte, List.getD_eq_getElem?_getD, List.getElem?_eq_getElem hlt, Option.getD_some]
      rfl
    simp [execOp, hx, hy, go_sem, Instr.index, asIntOf, underlying, ht, h0, hb]
theorem st_sidx {t : TypeId} {x y : Operand} {a : Bytes} {k : IntKind} {i : Int} (ht : P.underlying t = some .string) (hx : ev E x = S a) (hy : ev E y = .int k i) (h0 : 0 ≤ i) (h1 : i < a.length) (h : wops P r n O Q l (updo E dst (.int .u8 ((byte a i.toNat).toNat : Int))) ds w) : wop P r n O Q ⟨dst, .index t x y, ty, pos, af, g⟩ l E ds w :=
  wop_run (fun _ => by simp) (r_sidx ht hx hy h0 h1) h
theorem r_sslice {t : TypeId} {x : Operand} {lo hi : Option Operand} {a : Bytes} {i j : Nat} (ht : P.underlying t = some .string) (hx : ev E x = S a)
    (hlo : match lo with | some y => ∃ k, ev E y = .int k (i : Int) | none => i = 0) (hhi : match hi with | some y => ∃ k, ev E y = .int k (j : Int) | none => j = a.length) (h0 : i ≤ j) (h1 : j ≤ a.length) :
    (execOp (ev E) ⟨dst, .slice t x lo hi none, ty, pos, af, g⟩).run P w = .ok (.value (S ((a.take j).drop i))) w := by
    simp only [S] at hx ⊢
    have hs : (⟨⟨a⟩⟩ : ByteArray).size = a.length := rfl
    cases lo <;> cases hi <;> simp only at hlo hhi
    · subst hlo; subst hhi
      simp [execOp, hx, go_sem, Instr.sliceAt, Instr.slice, underlying, ht, Instr.sliceBounds, extract_mk, hs]
    · obtain ⟨k, hk⟩ := hhi; subst hlo;simp [execOp, hx, hk, go_sem, Instr.sliceAt, Instr.slice, underlying, ht, Instr.sliceBounds, Instr.sliceBound, asIntOf, extract_mk, hs, h1]
    · obtain ⟨k, hk⟩ := hlo; subst hhi;simp [execOp, hx, hk, go_sem, Instr.sliceAt, Instr.slice, underlying, ht, Instr.sliceBounds, Instr.sliceBound, asIntOf, extract_mk, hs, h0]
    obtain ⟨k, hk⟩ := hlo; obtain ⟨k', hk'⟩ := hhi;simp [execOp, hx, hk, hk', go_sem, Instr.sliceAt, Instr.slice, underlying, ht, Instr.sliceBounds, Instr.sliceBound, asIntOf, extract_mk, hs, h0, h1]
theorem st_sslice {t : TypeId} {x : Operand} {lo hi : Option Operand} {a : Bytes} {i j : Nat} (ht : P.underlying t = some .string) (hx : ev E x = S a)
    (hlo : match lo with | some y => ∃ k, ev E y = .int k (i : Int) | none => i = 0) (hhi : match hi with | some y => ∃ k, ev E y = .int k (j : Int) | none => j = a.length) (h0 : i ≤ j) (h1 : j ≤ a.length) (h : wops P r n O Q l (updo E dst (S ((a.take j).drop i))) ds w) : wop P r n O Q ⟨dst, .slice t x lo hi none, ty, pos, af, g⟩ l E ds w :=
  wop_run (fun _ => by simp) (r_sslice ht hx hlo hhi h0 h1) h
end plain
end Go.Proofs.YtghjmiggobpmoaaGreatDoor.K
namespace Go.Proofs.YtghjmiggobpmoaaGreatDoor.K
open Go Go.RowKit
structure Enc (α : Type) where
  sz : Nat
  pos : 0 < sz
  R : World → (Nat → Prop) → α → List Value → Prop
  len : ∀ {w D x vs}, R w D x vs → vs.length = sz
  one : ∀ {w D x vs}, R w D x vs → ∀ u ∈ vs, u.oneCell' = true
  tr : ∀ {w w' D x vs}, R w D x vs → (∀ k, k < w.heap.size → D k → w'.heap[k]? = w.heap[k]?) → w.heap.size ≤ w'.heap.size → R w' D x vs
  mono : ∀ {w D D' x vs}, R w D x vs → (∀ k, k < w.heap.size → D k → D' k) → R w D' x vs
def Enc.flat {α : Type} (sz : Nat) (f : α → List Value) (pos : 0 < sz) (len : ∀ x, (f x).length = sz) (one : ∀ x, ∀ u ∈ f x, u.oneCell' = true) : Enc α where
  sz := sz
  pos := pos
  R := fun _ _ x vs => vs = f x
  len := fun h => by rw [h]; exact len _
  one := fun h => by rw [h]; exact one _
  tr := fun h _ _ => h
  mono := fun h _ => h
def sE : Enc Bytes := .flat 1 (fun s => [S s]) (by omega) (fun _ => rfl) (fun _ u hu => by simp at hu; subst hu; rfl)
def iE (k : IntKind) : Enc Int := .flat 1 (fun x => [.int k x]) (by omega) (fun _ => rfl) (fun _ u hu => by simp at hu; subst hu; rfl)
def bE : Enc Bool := .flat 1 (fun x => [.bool x]) (by omega) (fun _ => rfl) (fun _ u hu => by simp at hu; subst hu; rfl)
section
variable {α : Type} {c : Enc α} {w w' : World} {D D' : Nat → Prop} {A : Option Addr} {xs : List α}
theorem Cells.tr {b off : Nat} {vs : List Value} (h : Cells w b off vs) (he : w'.heap[b]? = w.heap[b]?) : Cells w' b off vs := fun j v hj => by
  have := h j v hj
  simpa [World.cell?, he] using this
def Sl (c : Enc α) (w : World) (D : Nat → Prop) (A : Option Addr) (xs : List α) : Prop :=
  xs = [] ∨ ∃ b o, A = some ⟨b, o, none⟩ ∧ b < w.heap.size ∧ D b ∧ ∀ (i : Nat) (x : α), xs[i]? = some x → ∃ vs, c.R w D x vs ∧ Cells w b (o + i * c.sz) vs
theorem Sl.nil : Sl c w D A [] := .inl rfl
theorem Sl.keep (h : Sl c w D A xs) (he : ∀ k, k < w.heap.size → D k → w'.heap[k]? = w.heap[k]?) (hs : w.heap.size ≤ w'.heap.size) : Sl c w' D A xs := by
  rcases h with h | ⟨b, o, h1, h2, h3, h4⟩
  · exact .inl h
  exact .inr ⟨b, o, h1, by omega, h3, fun i x hx => by
    obtain ⟨vs, h5, h6⟩ := h4 i x hx;exact ⟨vs, c.tr h5 he hs, h6.tr (he b h2 h3)⟩⟩
theorem Sl.tr {bs : List Nat} (h : Sl c w D A xs) (hc : Chg bs w w') (hb : ∀ b, b ∈ bs → ¬ D b) : Sl c w' D A xs :=
  h.keep (fun k hk hD => hc.block k hk fun hx => hb k hx hD) hc.size
theorem Sl.tr0 (h : Sl c w D A xs) (hc : Chg [] w w') : Sl c w' D A xs := h.tr hc (by simp)
theorem Sl.mono (h : Sl c w D A xs) (hm : ∀ k, k < w.heap.size → D k → D' k) : Sl c w D' A xs := by
  rcases h with h | ⟨b, o, h1, h2, h3, h4⟩
  · exact .inl h
  exact .inr ⟨b, o, h1, h2, hm b h2 h3, fun i x hx => by
    obtain ⟨vs, h5, h6⟩ := h4 i x hx;exact ⟨vs, c.mono h5 hm, h6⟩⟩
theorem Sl.get (h : Sl c w D A xs) {i : Nat} (hi : i < xs.length) : ∃ b o vs, A = some ⟨b, o, none⟩ ∧ c.R w D xs[i] vs ∧ Cells w b (o + i * c.sz) vs := by
  rcases h with h | ⟨b, o, h1, h2, h3, h4⟩
  · subst h; simp at hi
  obtain ⟨vs, h5, h6⟩ := h4 i xs[i] (by simp [hi])
  exact ⟨b, o, vs, h1, h5, h6⟩
theorem Sl.take (h : Sl c w D A xs) (k : Nat) : Sl c w D A (xs.take k) := by
  rcases h with h | ⟨b, o, h1, h2, h3, h4⟩
  · exact .inl (by simp [h])
  exact .inr ⟨b, o, h1, h2, h3, fun i x hx => h4 i x (by rw [List.getElem?_take] at hx; split at hx <;> simp_all)⟩
theorem Sl.drop (h : Sl c w D A xs) (k : Nat) : Sl c w D (A.map (·.add (k * c.sz))) (xs.drop k) := by
  rcases h with h | ⟨b, o, h1, h2, h3, h4⟩
  · exact .inl (by simp [h])
  refine .inr ⟨b, o + k * c.sz, ?_, h2, h3, fun i x hx => ?_⟩
  · rw [h1]; simp only [Option.map_some, Addr.add]; split
    · rename_i h0; rw [h0]; rfl
    rfl
  rw [List.getElem?_drop] at hx
  obtain ⟨vs, h5, h6⟩ := h4 (k + i) x hx;refine ⟨vs, h5, ?_⟩;rw [Nat.add_mul] at h6;rw [Nat.add_assoc]; exact h6
def Enc.slice (c : Enc α) : Enc (List α) where
  sz := 1
  pos := by omega
  R := fun w D xs vs => ∃ A cap, vs = [.slice A xs.length cap] ∧ xs.length ≤ cap ∧ cap ≤ 9223372036854775807 ∧ Sl c w D A xs
  len := fun ⟨_, _, h, _⟩ => by rw [h]; rfl
  one := fun ⟨_, _, h, _⟩ u hu => by rw [h] at hu; simp at hu; subst hu; rfl
  tr := fun ⟨A, cap, h1, h2, h3, h4⟩ he hs => ⟨A, cap, h1, h2, h3, h4.keep he hs⟩
  mono := fun ⟨A, cap, h1, h2, h3, h4⟩ hm => ⟨A, cap, h1, h2, h3, h4.mono hm⟩
def Chunks (c : Enc α) (w : World) (D : Nat → Prop) (xs : List α) (cs : List Value) : Prop :=
  cs.length = xs.length * c.sz ∧ ∀ (i : Nat) (x : α), xs[i]? = some x → ∃ vs, c.R w D x vs ∧ ∀ (j : Nat) (v : Value), vs[j]? = some v → cs[i * c.sz + j]? = some v
theorem Chunks.nil : Chunks c w D [] [] := ⟨by simp, fun i x h => by simp at h⟩
theorem Chunks.keep {cs : List Value} (h : Chunks c w D xs cs) (he : ∀ k, k < w.heap.size → D k → w'.heap[k]? = w.heap[k]?) (hs : w.heap.size ≤ w'.heap.size) : Chunks c w' D xs cs :=
  ⟨h.1, fun i x hx => let ⟨vs, h1, h2⟩ := h.2 i x hx; ⟨vs, c.tr h1 he hs, h2⟩⟩
theorem Chunks.mono {cs : List Value} (h : Chunks c w D xs cs) (hm : ∀ k, k < w.heap.size → D k → D' k) : Chunks c w D' xs cs :=
  ⟨h.1, fun i x hx => let ⟨vs, h1, h2⟩ := h.2 i x hx; ⟨vs, c.mono h1 hm, h2⟩⟩
theorem Chunks.append {cs es : List Value} {ys : List α} (h : Chunks c w D xs cs) (k : Chunks c w D ys es) : Chunks c w D (xs ++ ys) (cs ++ es) := by
  refine ⟨by rw [List.length_append, List.length_append, h.1, k.1, Nat.add_mul], fun i x hx => ?_⟩
  by_cases hi : i < xs.length
  · rw [List.getElem?_append_left hi] at hx
    obtain ⟨vs, h1, h2⟩ := h.2 i x hx;refine ⟨vs, h1, fun j v hj => ?_⟩
    have := h2 j v hj;rw [List.getElem?_append_left (List.getElem?_eq_some_iff.1 this).1]; exact this
  rw [List.getElem?_append_right (by omega)] at hx
  obtain ⟨vs, h1, h2⟩ := k.2 _ x hx;refine ⟨vs, h1, fun j v hj => ?_⟩
  have := h2 j v hj
  have e : i * c.sz + j = cs.length + ((i - xs.length) * c.sz + j) := by
    rw [h.1, ← Nat.add_assoc, ← Nat.add_mul]; congr 2; omega
  rw [e, List.getElem?_append_right (by omega), Nat.add_sub_cancel_left]; exact this
theorem Chunks.one {x : α} {vs : List Value} (h : c.R w D x vs) : Chunks c w D [x] vs :=
  ⟨by simp [c.len h], fun i y hy => by
    cases i with
    | zero => simp at hy; subst hy; exact ⟨vs, h, fun j v hj => by simpa using hj⟩
    | succ i => simp at hy⟩
theorem Chunks.cons {x : α} {vs cs : List Value} (h : c.R w D x vs) (k : Chunks c w D xs cs) : Chunks c w D (x :: xs) (vs ++ cs) := (Chunks.one h).append k
def ob : Option Addr → List Nat
  | some a => [a.block]
  | none => []
def Own (c : Enc α) (e : TypeId) (w : World) (D : Nat → Prop) (A : Option Addr) (cap : Nat) (xs : List α) : Prop :=
  ∃ cs, w.ownsRow 0 e c.sz (.slice A xs.length cap) xs.length cs ∧ (∀ g, g ∈ ob A → D g) ∧ Chunks c w (fun k => D k ∧ k ∉ ob A) xs cs
theorem Own.nil {e : TypeId} : Own c e w D none 0 ([] : List α) := ⟨[], World.ownsRow_nil _ _ _ _, by simp [ob], .nil⟩
theorem Own.form {e : TypeId} {cap : Nat} (h : Own c e w D A cap xs) : (A = none ∧ cap = 0 ∧ xs = []) ∨ ∃ g, A = some ⟨g, 0, none⟩ ∧ g < w.heap.size ∧ xs.length ≤ cap ∧ cap ≤ 9223372036854775807 ∧ D g := by
  obtain ⟨cs, h1, h2, h3⟩ := h
  rcases h1.2 with ⟨h4, h5⟩ | ⟨g, cp, cur, h4, _, h6, h7, h8, _⟩
  · simp only [Value.slice.injEq] at h4; obtain ⟨rfl, _, rfl⟩ := h4; exact .inl ⟨rfl, rfl, List.eq_nil_of_length_eq_zero h5⟩
  simp only [Value.slice.injEq] at h4; obtain ⟨rfl, _, rfl⟩ := h4; exact .inr ⟨g, rfl, (Array.getElem?_eq_some_iff.1 h6).1, h7, by simpa [maxLen] using h8, h2 g (by simp [ob])⟩
theorem Own.lt {e : TypeId} {cap : Nat} (h : Own c e w D A cap xs) : ∀ g, g ∈ ob A → g < w.heap.size := by
  rcases h.form with ⟨rfl, _⟩ | ⟨g, rfl, h1, _⟩
  · simp [ob]
  intro k hk; simp [ob] at hk; omega
theorem Own.inD {e : TypeId} {cap : Nat} (h : Own c e w D A cap xs) : ∀ g, g ∈ ob A → D g := h.choose_spec.2.1
theorem Own.le {e : TypeId} {cap : Nat} (h : Own c e w D A cap xs) : xs.length ≤ cap ∧ cap ≤ 9223372036854775807 := by
  rcases h.form with ⟨_, rfl, rfl⟩ | ⟨g, _, _, h1, h2, _⟩
  · simp
  exact ⟨h1, h2⟩
theorem Own.keep {e : TypeId} {cap : Nat} (h : Own c e w D A cap xs) (he : ∀ k, k < w.heap.size → D k → w'.heap[k]? = w.heap[k]?) (hs : w.heap.size ≤ w'.heap.size) : Own c e w' D A cap xs := by
  have hl := h.lt;obtain ⟨cs, h1, h2, h3⟩ := h;refine ⟨cs, ⟨h1.1, ?_⟩, h2, h3.keep (fun k hk hD => he k hk hD.1) hs⟩
  rcases h1.2 with h4 | ⟨g, cp, cur, h4, h5, h6, h7⟩
  · exact .inl h4
  simp only [Value.slice.injEq] at h4; obtain ⟨rfl, _, rfl⟩ := h4
  exact .inr ⟨g, _, cur, rfl, h5, (he g (hl g (by simp [ob])) (h2 g (by simp [ob]))).trans h6, h7⟩
theorem Own.tr {e : TypeId} {cap : Nat} {bs : List Nat} (h : Own c e w D A cap xs) (hc : Chg bs w w') (hb : ∀ b, b ∈ bs → ¬ D b) : Own c e w' D A cap xs :=
  h.keep (fun k hk hD => hc.block k hk fun hx => hb k hx hD) hc.size
theorem Own.tr0 {e : TypeId} {cap : Nat} (h : Own c e w D A cap xs) (hc : Chg [] w w') : Own c e w' D A cap xs := h.tr hc (by simp)
theorem Own.mono {e : TypeId} {cap : Nat} (h : Own c e w D A cap xs) (hm : ∀ k, k < w.heap.size → D k → D' k) : Own c e w D' A cap xs := by
  have hl := h.lt;obtain ⟨cs, h1, h2, h3⟩ := h;exact ⟨cs, h1, fun g hg => hm g (hl g hg) (h2 g hg), h3.mono fun k hk hD => ⟨hm k hk hD.1, hD.2⟩⟩
theorem Own.sl {e : TypeId} {cap : Nat} (h : Own c e w D A cap xs) : Sl c w D A xs := by
  have hl := h.lt;obtain ⟨cs, h1, h2, h3⟩ := h
  rcases h1.2 with ⟨h4, h5⟩ | ⟨g, cp, cur, h4, h5, h6, h7, h8, h9, h10⟩
  · exact .inl (List.eq_nil_of_length_eq_zero h5)
  simp only [Value.slice.injEq] at h4; obtain ⟨rfl, _, rfl⟩ := h4
  refine .inr ⟨g, 0, rfl, hl g (by simp [ob]), h2 g (by simp [ob]), fun i x hx => ?_⟩
  obtain ⟨vs, k1, k2⟩ := h3.2 i x hx;refine ⟨vs, c.mono k1 (fun k _ hD => hD.1), fun j v hj => ?_⟩
  have hc := k2 j v hj;rw [← h10, List.getElem?_take] at hc
  split at hc
  · simpa [World.cell?, h6, Nat.zero_add] using hc
  cases hc
theorem Own.of_blk {e : TypeId} {b : Nat} {cs : List Value} (h : Blk w b cs e) (hD : D b) (hm : xs.length ≤ 9223372036854775807) (hc : Chunks c w (fun k => D k ∧ k ≠ b) xs cs) : Own c e w D (some ⟨b, 0, none⟩) xs.length xs :=
  ⟨cs, ⟨hc.1, .inr ⟨b, _, _, rfl, Nat.zero_le _, h, Nat.le_refl _, by simpa [maxLen] using hm, by simp [hc.1], by simp [← hc.1]⟩⟩, fun g hg => by simp [ob] at hg; subst hg; exact hD,
    hc.mono fun k _ hk => ⟨hk.1, by simpa [ob] using hk.2⟩⟩
end
variable {P : Program} {r : Option Nat} {n : Nat} {O : Array Oper} {Q : Post} {E : Env} {ds : List Deferred} {w : World} {l : List Oper}
def zeroB (P : Program) (t : TypeId) (zs : List Value) : Prop := ∃ i z, P.info? t = some i ∧ i.zero = some z ∧ z.cells = ⟨zs⟩
def sliceB (P : Program) (t e : TypeId) (size bytes : Nat) : Prop := P.underlying t = some (.slice e) ∧ (P.info? e).map (fun i => (i.size, i.bytes, i.zero.isSome)) = some (size, bytes, true) ∧ ∃ i z, P.info? e = some i ∧ i.zero = some z ∧ z.cells.size = size
theorem run_newVar {t : TypeId} {v : Value} {vs : List Value} (h : v.cells = ⟨vs⟩) : (newVar t v).run P w = .ok ⟨w.heap.size, 0, none⟩ (w.alloc (.cells ⟨vs⟩ t)) := by
  show Result.ok _ _ = _
  rw [h]; rfl
section ops
variable {dst : Option Nat} {ty : TypeId} {pos : String} {af : Array Edge} {g : Option (Nat × Bool)}
theorem st_alloc {t : TypeId} {zs : List Value} (hz : zeroB P t zs) (h : ∀ b w', b = w.heap.size → Chg [] w w' → Blk w' b zs t → wops P r n O Q l (updo E dst (.pointer (some ⟨b, 0, none⟩))) ds w') :
    wop P r n O Q ⟨dst, .alloc t, ty, pos, af, g⟩ l E ds w := by
  obtain ⟨i, z, h1, h2, h3⟩ := hz;refine wop_run (w' := w.alloc (.cells ⟨zs⟩ t)) (fun _ => by simp) ?_ (h w.heap.size _ rfl (Chg.alloc w _) (Blk.new w zs t))
  simp [execOp, Instr.alloc, go_sem, zeroValue, typeInfo, h1, h2, run_newVar h3, Result.andThen]
  exact congrArg (fun c => w.alloc (Obj.cells c t)) h3
theorem st_box {t : TypeId} {x : Operand} {v : Value} {vs : List Value} (hx : ev E x = v) (hv : v.cells = ⟨vs⟩) (h : ∀ b w', b = w.heap.size → Chg [] w w' → Blk w' b vs t → wops P r n O Q l (updo E dst (.pointer (some ⟨b, 0, none⟩))) ds w') :
    wop P r n O Q ⟨dst, .box t x, ty, pos, af, g⟩ l E ds w := by
  refine wop_run (w' := w.alloc (.cells ⟨vs⟩ t)) (fun _ => by simp) ?_ (h w.heap.size _ rfl (Chg.alloc w _) (Blk.new w vs t))
  simp [execOp, Instr.box, hx, go_sem, run_newVar hv, Result.andThen]
  exact congrArg (fun c => w.alloc (Obj.cells c t)) hv
theorem r_load1 {t : TypeId} {x : Operand} {b off : Nat} {v : Value} (ht : oneB P t = true) (hx : ev E x = .pointer (some ⟨b, off, none⟩)) (hc : w.cell? ⟨b, off, none⟩ = some v) :
    (execOp (ev E) ⟨dst, .load t x, ty, pos, af, g⟩).run P w = .ok (.value v) w := by
  simp [execOp, hx, Instr.loadAt, Instr.sureAddr, go_sem, loadVar, Sem.run_bind, run_isAgg_one ht, Result.andThen, load, Sem.run, hc]
theorem st_load1 {t : TypeId} {x : Operand} {b off : Nat} {v : Value} (ht : oneB P t = true) (hx : ev E x = .pointer (some ⟨b, off, none⟩)) (hc : w.cell? ⟨b, off, none⟩ = some v) (h : wops P r n O Q l (updo E dst v) ds w) :
    wop P r n O Q ⟨dst, .load t x, ty, pos, af, g⟩ l E ds w := wop_run (fun _ => by simp) (r_load1 ht hx hc) h
theorem r_loadA {t : TypeId} {x : Operand} {b off k : Nat} {vs : List Value} (ht : aggB P t k = true) (hx : ev E x = .pointer (some ⟨b, off, none⟩)) (hc : Cells w b off vs) (hk : vs.length = k) :
    (execOp (ev E) ⟨dst, .load t x, ty, pos, af, g⟩).run P w = .ok (.value (.agg ⟨vs⟩)) w := by
  have h1 := run_loadCells_list (P := P) (w := w) ⟨b, off, none⟩ vs (fun j v hj => by rw [Addr.add_lit]; exact hc j v hj)
  rw [hk] at h1
  unfold loadCells at h1
  simp [execOp, hx, Instr.loadAt, Instr.sureAddr, go_sem, loadVar, Sem.run_bind, run_isAgg_agg ht, run_sizeOf (sizeB_agg ht), Result.andThen, h1]
theorem st_loadA {t : TypeId} {x : Operand} {b off k : Nat} {vs : List Value} (ht : aggB P t k = true) (hx : ev E x = .pointer (some ⟨b, off, none⟩)) (hc : Cells w b off vs) (hk : vs.length = k) (h : wops P r n O Q l (updo E dst (.agg ⟨vs⟩)) ds w) :
    wop P r n O Q ⟨dst, .load t x, ty, pos, af, g⟩ l E ds w := wop_run (fun _ => by simp) (r_loadA ht hx hc hk) h
theorem r_fieldAddr {t : TypeId} {x : Operand} {f b off fo : Nat} (ht : fldB P t f fo = true) (hx : ev E x = .pointer (some ⟨b, off, none⟩)) :
    (execOp (ev E) ⟨dst, .fieldAddr t x f, ty, pos, af, g⟩).run P w = .ok (.value (.pointer (some ⟨b, off + fo, none⟩))) w := by
  unfold fldB at ht
  split at ht
  · rename_i fs hu
    split at ht
    · rename_i fl hfl
      simp only [Bool.and_eq_true] at ht
      obtain ⟨h1, h2⟩ := ht;have h1 := Nat.eq_of_beq_eq_true h1;subst h1
      cases hi : P.info? fl.type with
      | none => simp [hi] at h2
      | some i =>
        simp only [hi] at h2
        have h3 : i.size ≠ 0 := fun e => by simp [e] at h2
        simp [execOp, hx, Instr.fieldAt, Instr.sureAddr, go_sem, underlying, hu, hfl, fieldPlace, sizeOf, typeInfo, hi, h3, Addr.add_lit]
    cases ht
  cases ht
theorem st_fieldAddr {t : TypeId} {x : Operand} {f b off fo : Nat} (ht : fldB P t f fo = true) (hx : ev E x = .pointer (some ⟨b, off, none⟩)) (h : wops P r n O Q l (updo E dst (.pointer (some ⟨b, off + fo, none⟩))) ds w) :
    wop P r n O Q ⟨dst, .fieldAddr t x f, ty, pos, af, g⟩ l E ds w := wop_run (fun _ => by simp) (r_fieldAddr ht hx) h
theorem run_storeCells {T : TypeId} {b : Nat} : ∀ (vs : List Value) (off i : Nat) (w : World) (cs : List Value), Blk w b cs T → off + i + vs.length ≤ cs.length → (∀ u ∈ vs, u.oneCell' = true) →
    ∃ w', (storeCells ⟨b, off, none⟩ vs i).run P w = .ok () w' ∧ Chg [b] w w' ∧ Blk w' b (setVs cs (off + i) vs) T
  | [], off, i, w, cs, h, _, _ => ⟨w, rfl, .refl w, h⟩
  | v :: vs, off, i, w, cs, h, hl, h1 => by
    simp only [List.length_cons] at hl
    have hc : w.cell? ⟨b, off + i, none⟩ = some (cs[off + i]'(by omega)) := h.cell (by rw [nthV_eq]; simp)
    obtain ⟨w', h2, h3, h4⟩ := run_storeCells vs off (i + 1) (w.setCell ⟨b, off + i, none⟩ v) _ (h.set v) (by rw [setV_eq, List.length_set]; omega) (fun u hu => h1 u (by simp [hu]))
    refine ⟨w', ?_, (Chg.setCell w ⟨b, off + i, none⟩ v).trans h3 (fun x hx => .inl hx), h4⟩
    have hone := h1 v (by simp)
    simp only [storeCells, store]
    rw [Addr.add_lit]
    have hf := h.free (off := off + i)
    cases v <;> simp_all [Sem.run_bind, Sem.run, Result.andThen, Value.oneCell', go_sem]
theorem r_store {t T : TypeId} {x y : Operand} {b off k : Nat} {v : Value} {vs cs cs' : List Value} (ht : sizeB P t k = true) (hx : ev E x = .pointer (some ⟨b, off, none⟩)) (hy : ev E y = v) (hv : v.cells = ⟨vs⟩) (hb : Blk w b cs T) (hk : vs.length = k)
    (hl : off + vs.length ≤ cs.length) (h1 : ∀ u ∈ vs, u.oneCell' = true) (hcs : setVs cs off vs = cs') :
    ∃ w', (execOp (ev E) ⟨dst, .store t x y, ty, pos, af, g⟩).run P w = .ok .skip w' ∧ Chg [b] w w' ∧ Blk w' b cs' T := by
  obtain ⟨w', h2, h3, h4⟩ := run_storeCells (P := P) vs off 0 w cs hb (by simpa using hl) h1
  refine ⟨w', ?_, h3, by rw [← hcs]; exact h4⟩
  have hs : v.cells.size = k := by rw [hv]; simpa using hk
  have hsv : (storeVar t ⟨b, off, none⟩ v).run P w = .ok () w' := by
    simp only [storeVar, Sem.run_bind, run_sizeOf ht, Result.andThen, hs]
    simp only [ne_eq, not_true_eq_false, if_false]
    rw [hv]; exact h2
  simp only [execOp, hx, hy, Instr.storeAt, Instr.sureAddr, Sem.run_bind, Sem.run_pure, hsv, Result.andThen]
theorem st_store {t T : TypeId} {x y : Operand} {b off k : Nat} {v : Value} {vs cs cs' : List Value} (ht : sizeB P t k = true) (hx : ev E x = .pointer (some ⟨b, off, none⟩)) (hy : ev E y = v) (hv : v.cells = ⟨vs⟩) (hb : Blk w b cs T) (hk : vs.length = k)
    (hl : off + vs.length ≤ cs.length) (h1 : ∀ u ∈ vs, u.oneCell' = true) (hcs : setVs cs off vs = cs') (h : ∀ w', Chg [b] w w' → Blk w' b cs' T → wops P r n O Q l (updo E dst undef) ds w') :
    wop P r n O Q ⟨dst, .store t x y, ty, pos, af, g⟩ l E ds w := by
  obtain ⟨w', h2, h3, h4⟩ := r_store (P := P) (dst := dst) (ty := ty) (pos := pos) (af := af) (g := g) ht hx hy hv hb hk hl h1 hcs;exact wop_skip (fun _ => by simp) h2 (h w' h3 h4)
theorem r_len {x : Operand} {A : Option Addr} {m c : Nat} {ct : Array TypeId} (ht : ((ct[0]?).bind P.underlying).any (fun u => match u with | .slice _ => true | _ => false) = true) (hx : ev E x = .slice A m c) :
    (execOp (ev E) ⟨dst, .call ⟨.builtin .len, #[x], ct⟩, ty, pos, af, g⟩).run P w = .ok (.value (.int .i64 (m : Int))) w := by
    cases h0 : ct[0]? with
    | none => simp [h0] at ht
    | some t0 =>
      simp only [h0, Option.bind_some] at ht
      cases hu : P.underlying t0 with
      | none => simp [hu] at ht
      | some u => cases u <;> simp_all [execOp, resolve, invoke, builtin, Builtin.len_, go_sem, underlying, goInt]
theorem st_len {x : Operand} {A : Option Addr} {m c : Nat} {ct : Array TypeId} (ht : ((ct[0]?).bind P.underlying).any (fun u => match u with | .slice _ => true | _ => false) = true) (hx : ev E x = .slice A m c) (h : wops P r n O Q l (updo E dst (.int .i64 (m : Int))) ds w) : wop P r n O Q ⟨dst, .call ⟨.builtin .len, #[x], ct⟩, ty, pos, af, g⟩ l E ds w :=
  wop_run (fun _ => by simp) (r_len ht hx) h
theorem r_indexAddr {t e : TypeId} {x y : Operand} {b o m c sz : Nat} {k : IntKind} {i : Int} (ht : P.underlying t = some (.slice e)) (hs : sizeB P e sz = true) (hx : ev E x = .slice (some ⟨b, o, none⟩) m c) (hy : ev E y = .int k i) (h0 : 0 ≤ i) (h1 : i < m)
    :
    (execOp (ev E) ⟨dst, .indexAddr t x y, ty, pos, af, g⟩).run P w = .ok (.value (.pointer (some ⟨b, o + i.toNat * sz, none⟩))) w := by
  have h2 := run_sizeOf (w := w) hs;simp [execOp, hx, hy, Instr.indexAt, go_sem, asIntOf, underlying, ht, Sem.run_bind, h0, h1, h2, Result.andThen, Addr.add_lit]
theorem st_indexAddr {t e : TypeId} {x y : Operand} {b o m c sz : Nat} {k : IntKind} {i : Int} (ht : P.underlying t = some (.slice e)) (hs : sizeB P e sz = true) (hx : ev E x = .slice (some ⟨b, o, none⟩) m c) (hy : ev E y = .int k i) (h0 : 0 ≤ i) (h1 : i < m)
    (h : wops P r n O Q l (updo E dst (.pointer (some ⟨b, o + i.toNat * sz, none⟩))) ds w) : wop P r n O Q ⟨dst, .indexAddr t x y, ty, pos, af, g⟩ l E ds w := wop_run (fun _ => by simp) (r_indexAddr ht hs hx hy h0 h1) h
theorem r_slice {t e : TypeId} {x : Operand} {lo hi : Option Operand} {A : Option Addr} {m c sz i j : Nat} (ht : P.underlying t = some (.slice e)) (hs : sizeB P e sz = true) (hx : ev E x = .slice A m c)
    (hlo : match lo with | some y => ∃ k, ev E y = .int k (i : Int) | none => i = 0) (hhi : match hi with | some y => ∃ k, ev E y = .int k (j : Int) | none => j = m) (h0 : i ≤ j) (h1 : j ≤ c)
    :
    (execOp (ev E) ⟨dst, .slice t x lo hi none, ty, pos, af, g⟩).run P w = .ok (.value (.slice (if c = i then A else A.map (·.add (i * sz))) (j - i) (c - i))) w := by
  have h2 := fun w => run_sizeOf (P := P) (w := w) hs
  cases lo <;> cases hi <;> simp only at hlo hhi
  · subst hlo; subst hhi
    simp [execOp, hx, Instr.sliceAt, Instr.slice, underlying, ht, Instr.sliceBounds, Sem.run_bind, h2, Result.andThen, go_sem]
  · obtain ⟨k, hk⟩ := hhi; subst hlo;simp [execOp, hx, hk, Instr.sliceAt, Instr.slice, underlying, ht, Instr.sliceBounds, Instr.sliceBound, asIntOf, Sem.run_bind, h2, Result.andThen, go_sem, h1]
  · obtain ⟨k, hk⟩ := hlo; subst hhi;simp [execOp, hx, hk, Instr.sliceAt, Instr.slice, underlying, ht, Instr.sliceBounds, Instr.sliceBound, asIntOf, Sem.run_bind, h2, Result.andThen, go_sem, h0]
  obtain ⟨k, hk⟩ := hlo; obtain ⟨k', hk'⟩ := hhi;simp [execOp, hx, hk, hk', Instr.sliceAt, Instr.slice, underlying, ht, Instr.sliceBounds, Instr.sliceBound, asIntOf, Sem.run_bind, h2, Result.andThen, go_sem, h0, h1]
theorem st_slice {t e : TypeId} {x : Operand} {lo hi : Option Operand} {A : Option Addr} {m c sz i j : Nat} (ht : P.underlying t = some (.slice e)) (hs : sizeB P e sz = true) (hx : ev E x = .slice A m c)
    (hlo : match lo with | some y => ∃ k, ev E y = .int k (i : Int) | none => i = 0) (hhi : match hi with | some y => ∃ k, ev E y = .int k (j : Int) | none => j = m) (h0 : i ≤ j) (h1 : j ≤ c)
    (h : wops P r n O Q l (updo E dst (.slice (if c = i then A else A.map (·.add (i * sz))) (j - i) (c - i))) ds w) : wop P r n O Q ⟨dst, .slice t x lo hi none, ty, pos, af, g⟩ l E ds w := wop_run (fun _ => by simp) (r_slice ht hs hx hlo hhi h0 h1) h
theorem run_append {α : Type} {c : Enc α} {w : World} {D D2 : Nat → Prop} {A : Option Addr} {cap : Nat} {xs ys : List α} {t e ty : TypeId} {bytes : Nat} (hS : sliceB P t e c.sz bytes)
    (ho : Own c e w D A cap xs) (b o m2 : Nat) (hy : ∀ (i : Nat) (y : α), ys[i]? = some y → ∃ vs, c.R w D2 y vs ∧ Cells w b (o + i * c.sz) vs) (hD2 : ∀ k, k < w.heap.size → D2 k → D k ∧ k ∉ ob A) (hfr : ∀ k, w.heap.size ≤ k → D k)
    (h63 : xs.length + ys.length ≤ 9223372036854775807) (hby : (xs.length + ys.length) * bytes ≤ 140737488355328) :
    ∃ A' cap' w', (Builtin.append_ #[t, t] ty #[.slice A xs.length cap, .slice (some ⟨b, o, none⟩) ys.length m2]).run P w = .ok (.slice A' (xs.length + ys.length) cap') w' ∧ Own c e w' D A' cap' (xs ++ ys) ∧ Chg (ob A) w w' ∧
      (∀ g, g ∈ ob A' → g ∈ ob A ∨ w.heap.size ≤ g) := by
  obtain ⟨ht, hi0, i, z, hi, hz, hzs⟩ := hS;simp only [hi, Option.map_some, Option.some.injEq, Prod.mk.injEq] at hi0;obtain ⟨hsz, hbt, _⟩ := hi0;obtain ⟨cs, h1, h2, h3⟩ := ho
  -- the new cells
  have hex : ∃ es, Chunks c w D2 ys es ∧ (∀ (j : Nat) (u : Value), es[j]? = some u → w.cell? ⟨b, o + j, none⟩ = some u) ∧ ∀ u ∈ es, u.oneCell' = true := by
    clear h63 hby
    induction ys generalizing o with
    | nil => exact ⟨[], .nil, fun j u h => by simp at h, by simp⟩
    | cons y ys ih =>
      obtain ⟨vs, k1, k2⟩ := hy 0 y rfl
      obtain ⟨es, k3, k4, k5⟩ := ih (o + c.sz) (fun i y' h => by
        obtain ⟨vs', q1, q2⟩ := hy (i + 1) y' (by simpa using h)
        refine ⟨vs', q1, ?_⟩;rw [show o + c.sz + i * c.sz = o + (i + 1) * c.sz by rw [Nat.add_mul, Nat.one_mul]; omega]; exact q2)
      refine ⟨vs ++ es, .cons k1 k3, fun j u hj => ?_, fun u hu => ?_⟩
      · have hl := c.len k1
        by_cases hjl : j < vs.length
        · rw [List.getElem?_append_left hjl] at hj
          have := k2 j u hj
          simpa using this
        rw [List.getElem?_append_right (by omega)] at hj
        have := k4 _ u hj;rw [← this]; congr 2; omega
      rcases List.mem_append.1 hu with h | h
      · exact c.one k1 u h
      exact k5 u h
  obtain ⟨es, k1, k2, k3⟩ := hex;have hch : Chunks c w (fun k => D k ∧ k ∉ ob A) (xs ++ ys) (cs ++ es) := h3.append (k1.mono hD2)
  have hm : xs.length + ys.length ≤ maxLen := by simpa [maxLen] using h63
  by_cases hA : A = none
  · subst hA
    have hx0 : xs = [] ∧ cap = 0 := by
      rcases h1.2 with ⟨h4, h5⟩ | ⟨g, cp, cur, h4, _⟩
      · simp only [Value.slice.injEq] at h4; exact ⟨List.eq_nil_of_length_eq_zero h5, h4.2.2⟩
      simp at h4
    obtain ⟨rfl, rfl⟩ := hx0;have hcs : cs = [] := List.eq_nil_of_length_eq_zero (by simpa using h3.1)
    subst hcs
    obtain ⟨v', w', hrun, hown, hgr, hnil⟩ := run_append_own (P := P) w w.heap.size t ty e i z c.sz bytes ht hi hz hsz hbt hzs c.pos (.slice none 0 0) 0 [] (World.ownsRow_nil _ _ _ _) ⟨b, o, none⟩ ys.length m2 es k1.1
      (fun j u hj => by rw [Addr.add_lit]; exact k2 j u hj) k3 (by simpa using hm) (by simpa using hby) (Nat.le_refl _)
    have hgr' : Chg [] w w' := ⟨hgr.os, hgr.tape, hgr.output, hgr.size, fun k hk _ => hgr.block k hk (by simp [Value.ownBlock])⟩
    have hf : ∃ A' cap', v' = .slice A' (0 + ys.length) cap' ∧ ∀ g, g ∈ ob A' → w.heap.size ≤ g := by
      rcases hown.2 with ⟨rfl, h5⟩ | ⟨g, cp, cur, rfl, h5, _⟩
      · exact ⟨none, 0, by rw [h5], by simp [ob]⟩
      exact ⟨_, cp, rfl, fun g' hg' => by simp [ob] at hg'; omega⟩
    obtain ⟨A', cap', rfl, hfg⟩ := hf;refine ⟨A', cap', w', by simpa using hrun, ⟨es, ?_, fun g hg => hfr g (hfg g hg), ?_⟩, by simpa [ob] using hgr', fun g hg => .inr (hfg g hg)⟩
    · simp only [List.nil_append, Nat.zero_add] at hown ⊢
      refine ⟨hown.1, ?_⟩
      rcases hown.2 with h | ⟨g, cp, cur, q1, q2, q3⟩
      · exact .inl h
      exact .inr ⟨g, cp, cur, q1, Nat.zero_le _, q3⟩
    have : Chunks c w (fun k => D k ∧ k ∉ ob A') ys es := k1.mono fun k hk hD => ⟨(hD2 k hk hD).1, fun hx => by have := hfg k hx; omega⟩
    exact this.keep (fun k hk _ => hgr'.block k hk (by simp)) hgr'.size
  rcases h1.2 with ⟨h4, h5⟩ | ⟨gb, cp, cur, h4, h5, h6, h7, h8, h9, h10⟩
  · simp only [Value.slice.injEq] at h4; exact absurd h4.1 hA
  simp only [Value.slice.injEq] at h4
  obtain ⟨rfl, _, rfl⟩ := h4;have hlt : gb < w.heap.size := (Array.getElem?_eq_some_iff.1 h6).1
  by_cases hroom : xs.length + ys.length ≤ cap
  · have hfit : xs.length * i.size + es.length ≤ cur.size := by rw [k1.1, hsz, h9, ← Nat.add_mul]; exact Nat.mul_le_mul_right _ hroom
    have hr := run_append_room (P := P) w t ty e i ht hi gb xs.length cap cur h6 ⟨b, o, none⟩ ys.length m2 es (by rw [hsz]; exact k1.1) (fun j u hj => by rw [Addr.add_lit]; exact k2 j u hj) k3 hroom hfit
    have hg2 : Chg [gb] w (w.setRow gb (cur.toList.take (xs.length * i.size) ++ es ++ cur.toList.drop (xs.length * i.size + es.length)).toArray) :=
      ⟨rfl, rfl, rfl, by simp, fun k _ hk => setRow_other w gb k _ (by simpa using hk)⟩
    refine ⟨_, _, _, hr, ⟨cs ++ es, ⟨by rw [List.length_append, h3.1, k1.1, List.length_append, Nat.add_mul], .inr ⟨gb, cap, _, by simp, Nat.zero_le _, setRow_heap w gb cur _ e _ h6, by simpa using hroom, h8, ?_, ?_⟩⟩, h2, ?_⟩, by simpa [ob] using hg2, fun g hg => .inl hg⟩
    · simp only [List.size_toArray, List.length_append, List.length_take, List.length_drop, Array.length_toList]
      omega
    · rw [hsz, h10]
      have : (cs ++ es).length = (xs ++ ys).length * c.sz := by rw [List.length_append, h3.1, k1.1, List.length_append, Nat.add_mul]
      rw [← this]
      simp only []
      rw [List.take_left]
    exact hch.keep (fun k hk hD => hg2.block k hk (by simpa [ob] using hD.2)) hg2.size
  obtain ⟨v', w', hrun, hown, hgr⟩ := run_append_arg_grows (P := P) w t ty e i z c.sz bytes ht hi hz hsz hbt hzs c.pos ⟨gb, 0, none⟩ xs.length cap cs h3.1
    (fun j u hj => by
      rw [Addr.add_lit]
      have hj' := hj;rw [← h10, List.getElem?_take] at hj'
      split at hj'
      · simpa [World.cell?, h6] using hj'
      cases hj') ⟨b, o, none⟩ ys.length m2 es k1.1 (fun j u hj => by rw [Addr.add_lit]; exact k2 j u hj) (by omega) hm hby
  have hgr' : Chg [] w w' := ⟨hgr.os, hgr.tape, hgr.output, hgr.size, fun k hk _ => hgr.block k hk (by simp)⟩
  have hf : ∃ A' cap', v' = .slice A' (xs.length + ys.length) cap' ∧ ∀ g, g ∈ ob A' → w.heap.size ≤ g := by
    rcases hown.2 with ⟨rfl, h5⟩ | ⟨g, cp, cur, rfl, h5, _⟩
    · exact ⟨none, 0, by rw [h5], by simp [ob]⟩
    exact ⟨_, cp, rfl, fun g' hg' => by simp [ob] at hg'; omega⟩
  obtain ⟨A', cap', rfl, hfg⟩ := hf;refine ⟨A', cap', w', hrun, ⟨cs ++ es, ?_, fun g hg => hfr g (hfg g hg), ?_⟩, hgr'.wide, fun g hg => .inr (hfg g hg)⟩
  · rw [List.length_append]
    refine ⟨hown.1, ?_⟩
    rcases hown.2 with h | ⟨g, cp, cur, q1, q2, q3⟩
    · exact .inl h
    exact .inr ⟨g, cp, cur, q1, Nat.zero_le _, q3⟩
  have : Chunks c w (fun k => D k ∧ k ∉ ob A') (xs ++ ys) (cs ++ es) := hch.mono fun k hk hD => ⟨hD.1, fun hx => by have := hfg k hx; omega⟩
  exact this.keep (fun k hk _ => hgr'.block k hk (by simp)) hgr'.size
theorem r_append {α : Type} {c : Enc α} {D D2 : Nat → Prop} {A : Option Addr} {cap b o m m2 k : Nat} {xs ys : List α} {t e : TypeId} {bytes : Nat} {x y : Operand} (hS : sliceB P t e c.sz bytes)
    (hx : ev E x = .slice A m cap) (hm : m = xs.length) (ho : Own c e w D A cap xs) (hyv : ev E y = .slice (some ⟨b, o, none⟩) k m2) (hk : k = ys.length) (hy : ∀ (i : Nat) (y : α), ys[i]? = some y → ∃ vs, c.R w D2 y vs ∧ Cells w b (o + i * c.sz) vs)
    (hD2 : ∀ k, k < w.heap.size → D2 k → D k ∧ k ∉ ob A) (hfr : ∀ k, w.heap.size ≤ k → D k) (h63 : xs.length + ys.length ≤ 9223372036854775807) (hby : (xs.length + ys.length) * bytes ≤ 140737488355328) :
    ∃ A' cap' w', (execOp (ev E) ⟨dst, .call ⟨.builtin .append, #[x, y], #[t, t]⟩, ty, pos, af, g⟩).run P w = .ok (.value (.slice A' (xs.length + ys.length) cap')) w' ∧ Own c e w' D A' cap' (xs ++ ys) ∧ Chg (ob A) w w' ∧ (∀ g, g ∈ ob A' → g ∈ ob A ∨ w.heap.size ≤ g) := by
  subst hm; subst hk
  obtain ⟨A', cap', w', h1, h2, h3, h4⟩ := run_append (ty := ty) hS ho b o m2 hy hD2 hfr h63 hby;refine ⟨A', cap', w', ?_, h2, h3, h4⟩;simp only [execOp, resolve, invoke, builtin, List.map_toArray, List.map_cons, List.map_nil, hx, hyv, Sem.run_bind, Sem.run_pure, h1, Result.andThen]
theorem st_append {α : Type} {c : Enc α} {D D2 : Nat → Prop} {A : Option Addr} {cap b o m m2 k : Nat} {xs ys : List α} {t e : TypeId} {bytes : Nat} {x y : Operand} (hS : sliceB P t e c.sz bytes)
    (hx : ev E x = .slice A m cap) (hm : m = xs.length) (ho : Own c e w D A cap xs) (hyv : ev E y = .slice (some ⟨b, o, none⟩) k m2) (hk : k = ys.length) (hy : ∀ (i : Nat) (y : α), ys[i]? = some y → ∃ vs, c.R w D2 y vs ∧ Cells w b (o + i * c.sz) vs)
    (hD2 : ∀ k, k < w.heap.size → D2 k → D k ∧ k ∉ ob A) (hfr : ∀ k, w.heap.size ≤ k → D k) (h63 : xs.length + ys.length ≤ 9223372036854775807) (hby : (xs.length + ys.length) * bytes ≤ 140737488355328)
    (h : ∀ A' cap' w', Own c e w' D A' cap' (xs ++ ys) → Chg (ob A) w w' → (∀ g, g ∈ ob A' → g ∈ ob A ∨ w.heap.size ≤ g) → wops P r n O Q l (updo E dst (.slice A' (xs.length + ys.length) cap')) ds w') :
    wop P r n O Q ⟨dst, .call ⟨.builtin .append, #[x, y], #[t, t]⟩, ty, pos, af, g⟩ l E ds w := by
  subst hm; subst hk
  obtain ⟨A', cap', w', h1, h2, h3, h4⟩ := run_append (ty := ty) hS ho b o m2 hy hD2 hfr h63 hby;refine wop_run (fun _ => by simp) ?_ (h A' cap' w' h2 h3 h4)
  simp only [execOp, resolve, invoke, builtin, List.map_toArray, List.map_cons, List.map_nil, hx, hyv, Sem.run_bind, Sem.run_pure, h1, Result.andThen]
theorem r_call {c : Call} {f : FuncId} {ags : List Value} {x : Operand} {cap : Array Value} (hcal : c.callee = .value x) (hf : ev E x = .func (.func f) #[] cap) (hent : ∀ args (w : World), (callFunc f args).run P w = .ok (.enter f args) w)
    (has : c.args.toList.map (ev E) ++ cap.toList = ags) : (execOp (ev E) ⟨dst, .call c, ty, pos, af, g⟩).run P w = .ok (.enter f ⟨ags⟩) w := by
  replace has : (c.args.map (ev E)) ++ cap = ⟨ags⟩ := Array.ext' (by simpa using has)
  simp [execOp, resolve, hcal, hf, Deferred.ofValue, invoke, go_sem, has, hent, Result.andThen]
theorem st_call {c : Call} {f : FuncId} {ags : List Value} {Φ : Value → World → Prop} {x : Operand} {cap : Array Value} (hcal : c.callee = .value x) (hf : ev E x = .func (.func f) #[] cap) (hent : ∀ args (w : World), (callFunc f args).run P w = .ok (.enter f args) w)
    (has : c.args.toList.map (ev E) ++ cap.toList = ags) (hc : CallR P f ⟨ags⟩ w Φ) (h : ∀ v w', Φ v w' → wops P r n O Q l (updo E dst v) ds w') : wop P r n O Q ⟨dst, .call c, ty, pos, af, g⟩ l E ds w := by
  exact wop_enter (fun _ => by simp) (r_call hcal hf hent has) hc h
end ops
end Go.Proofs.YtghjmiggobpmoaaGreatDoor.K
namespace Go.Proofs.YtghjmiggobpmoaaGreatDoor.K
open Go Go.RowKit
variable {P : Program} {r : Option Nat} {n : Nat} {O : Array Oper} {Q : Post} {E : Env} {ds : List Deferred} {w : World} {l : List Oper}
def cellsOf : Value → List Value
  | .agg ⟨cs⟩ => cs
  | v => [v]
theorem cellsOf_eq (v : Value) : v.cells = ⟨cellsOf v⟩ := by cases v <;> rfl
def lenV : List Value → Nat
  | [] => 0
  | _ :: r => lenV r + 1
theorem lenV_eq : ∀ l : List Value, lenV l = l.length
  | [] => rfl
  | _ :: r => by simp only [lenV, lenV_eq r, List.length_cons]
def fillV (pl : Nat → Option (Nat × Nat)) (cs : List Value) : List (Nat × List Value) → Option (List Value)
  | [] => some cs
  | (i, vs) :: rest => match pl i with
    | none => none
    | some (off, size) => bif Nat.beq (lenV vs) size && Nat.ble (off + lenV vs) (lenV cs) then fillV pl (setVs cs off vs) rest else none
theorem foldl_set : ∀ (vs cs : List Value) (off k : Nat), ((vs.zipIdx k).foldl (fun (cs : Array Value) (x : Value × Nat) => cs.setIfInBounds (off + x.2) x.1) ⟨cs⟩) = ⟨setVs cs (off + k) vs⟩
  | [], cs, off, k => rfl
  | v :: vs, cs, off, k => by
    simp only [List.zipIdx_cons, List.foldl_cons, setVs]
    rw [show ((⟨cs⟩ : Array Value).setIfInBounds (off + k) v) = ⟨setV cs (off + k) v⟩ by rw [setV_eq]; simp]
    rw [foldl_set vs]; rfl
theorem fill_eq {pl : Nat → Option (Nat × Nat)} : ∀ (ps : List (Nat × Value)) (cs vs : List Value), fillV pl cs (ps.map fun p => (p.1, cellsOf p.2)) = some vs → Instr.fill pl ⟨cs⟩ ps = some ⟨vs⟩
  | [], cs, vs, h => by simp only [List.map_nil, fillV, Option.some.injEq] at h; subst h; rfl
  | (i, v) :: ps, cs, vs, h => by
    simp only [List.map_cons, fillV] at h
    simp only [Instr.fill]
    cases hp : pl i with
    | none => simp [hp] at h
    | some q =>
      obtain ⟨off, size⟩ := q;simp only [hp] at h ⊢
      cases hb : Nat.beq (lenV (cellsOf v)) size && Nat.ble (off + lenV (cellsOf v)) (lenV cs) with
      | false => rw [hb] at h; simp at h
      | true =>
        rw [hb] at h
        simp only [cond_true] at h
        simp only [Bool.and_eq_true] at hb
        have h1 := Nat.eq_of_beq_eq_true hb.1;have h2 := Nat.le_of_ble_eq_true hb.2;rw [lenV_eq] at h1 h2;rw [lenV_eq] at h2;rw [cellsOf_eq v];have hs : (⟨cellsOf v⟩ : Array Value).size = (cellsOf v).length := rfl;have hs2 : (⟨cs⟩ : Array Value).size = cs.length := rfl;rw [if_neg (by simp only [hs, hs2, h1]; simp; omega)]
        have hz : (⟨cellsOf v⟩ : Array Value).zipIdx.foldl (fun (cs : Array Value) (x : Value × Nat) => cs.setIfInBounds (off + x.2) x.1) ⟨cs⟩ = ⟨setVs cs off (cellsOf v)⟩ := by
          rw [← Array.foldl_toList, Array.toList_zipIdx]
          exact foldl_set (cellsOf v) cs off 0
        have := fill_eq ps _ _ h;rw [← hz] at this;exact this
def plOf : List (Nat × Nat) → Nat → Option (Nat × Nat)
  | [], _ => none
  | p :: _, 0 => some p
  | _ :: r, i + 1 => plOf r i
theorem plOf_eq : ∀ (pl : List (Nat × Nat)) (i : Nat), plOf pl i = pl[i]?
  | [], i => by cases i <;> rfl
  | p :: r, 0 => rfl
  | p :: r, i + 1 => by simp only [plOf, List.getElem?_cons_succ]; exact plOf_eq r i
def bldB (P : Program) (t : TypeId) (pl : List (Nat × Nat)) (zs : List Value) : Prop :=
  ∃ fs, P.underlying t = some (.struct fs) ∧ (fs.toList.mapM (m := Option) fun f => (P.info? f.type).map fun i => (f.offset, i.size)) = some pl ∧ (P.info? t).bind (·.zero) = some (.agg ⟨zs⟩)
theorem run_places : ∀ (fs : List Field) (pl : List (Nat × Nat)), (fs.mapM (m := Option) fun f => (P.info? f.type).map fun i => (f.offset, i.size)) = some pl →
    ∀ w : World, ((fs.mapM (m := Sem) fun f => do pure (f.offset, ← sizeOf f.type)) : Sem (List (Nat × Nat))).run P w = .ok pl w
  | [], pl, h, w => by simp at h; subst h; rfl
  | f :: fs, pl, h, w => by
    simp only [List.mapM_cons, Option.bind_eq_bind, Option.bind_eq_some_iff, Option.map_eq_some_iff] at h
    obtain ⟨p, ⟨i, hi, rfl⟩, q, hq, he⟩ := h;have he : (f.offset, i.size) :: q = pl := by simpa using he
    subst he
    have ih := run_places fs q hq w;have hs : (sizeOf f.type).run P w = .ok i.size w := by simp [sizeOf, typeInfo, go_sem, hi]
    rw [List.mapM_cons]
    simp only [Sem.run_bind, hs, Result.andThen, Sem.run_pure, ih]
section
variable {dst : Option Nat} {ty : TypeId} {pos : String} {af : Array Edge} {g : Option (Nat × Bool)}
theorem r_bld {t : TypeId} {ps : List (Nat × Operand)} {pl : List (Nat × Nat)} {zs vs : List Value} (hb : bldB P t pl zs) (hv : fillV (plOf pl) zs (ps.map fun p => (p.1, cellsOf (ev E p.2))) = some vs) :
    (execOp (ev E) ⟨dst, .build t ps.toArray, ty, pos, af, g⟩).run P w = .ok (.value (.agg ⟨vs⟩)) w := by
  have key : ∀ w : World, (Instr.build t (ps.toArray.map fun (i, x) => (i, ev E x))).run P w = .ok (.agg ⟨vs⟩) w := ?_
  · simp only [execOp, Sem.run_bind, key, Result.andThen, Sem.run_pure]
  intro w;obtain ⟨fs, h1, h2, h3⟩ := hb;have hf := fill_eq (pl := plOf pl) (ps.map fun p => (p.1, ev E p.2)) zs vs (by rw [List.map_map]; exact hv)
  cases hi : P.info? t with
  | none => simp [hi] at h3
  | some i =>
    simp only [hi, Option.bind_some] at h3
    have hpl := run_places (P := P) fs.toList pl h2 w;have hz : (zeroValue t).run P w = .ok (.agg ⟨zs⟩) w := by simp [zeroValue, typeInfo, go_sem, hi, h3]
    have hu : (underlying t).run P w = .ok (.struct fs) w := by simp [underlying, go_sem, h1]
    have hm : ((fs.mapM fun f => do pure (f.offset, ← sizeOf f.type)) : Sem (Array (Nat × Nat))).run P w = .ok ⟨pl⟩ w := by
      rw [Array.mapM_eq_mapM_toList, ← bind_pure_comp]
      simp only [Sem.run_bind, hpl, Result.andThen, Sem.run_pure]
    have e1 : (fun i => (⟨pl⟩ : Array (Nat × Nat))[i]?) = plOf pl := by funext i; rw [plOf_eq]; simp
    have e2 : (ps.toArray.map fun p => (p.1, ev E p.2)).toList = ps.map fun p => (p.1, ev E p.2) := by simp
    unfold Instr.build
    simp only [Sem.run_bind, hz, Result.andThen, hu, hm, Value.cells, e2]
    rw [e1, hf]
    rfl
theorem st_bld {t : TypeId} {ps : List (Nat × Operand)} {pl : List (Nat × Nat)} {zs vs : List Value} (hb : bldB P t pl zs) (hv : fillV (plOf pl) zs (ps.map fun p => (p.1, cellsOf (ev E p.2))) = some vs) (h : wops P r n O Q l (updo E dst (.agg ⟨vs⟩)) ds w) :
    wop P r n O Q ⟨dst, .build t ps.toArray, ty, pos, af, g⟩ l E ds w := wop_run (fun _ => by simp) (r_bld hb hv) h
def litB (P : Program) (t e : TypeId) (size : Nat) : Prop := P.underlying t = some (.slice e) ∧ ∃ i z, P.info? e = some i ∧ i.size = size ∧ i.zero = some z ∧ z.cells.size = size
def flatV : List (List Value) → List Value
  | [] => []
  | v :: r => v ++ flatV r
theorem fill_all {size : Nat} : ∀ (ps : List (Nat × Value)) (done todo : List Value) (k : Nat), done.length = k * size → todo.length = ps.length * size → (ps.map (·.1) = List.range' k ps.length) → (∀ p ∈ ps, (cellsOf p.2).length = size) →
    Instr.fill (fun i => some (i * size, size)) ⟨done ++ todo⟩ ps = some ⟨done ++ flatV (ps.map fun p => cellsOf p.2)⟩
  | [], done, todo, k, h1, h2, h3, h4 => by simp at h2; subst h2; simp [Instr.fill, flatV]
  | (i, v) :: ps, done, todo, k, h1, h2, h3, h4 => by
    simp only [List.map_cons, List.length_cons, List.range'_succ, List.cons.injEq] at h3
    obtain ⟨rfl, h3⟩ := h3;have hv : (cellsOf v).length = size := h4 (i, v) (by simp)
    simp only [Instr.fill]
    rw [cellsOf_eq v]
    have hs : (⟨cellsOf v⟩ : Array Value).size = (cellsOf v).length := rfl;have hs2 : (⟨done ++ todo⟩ : Array Value).size = done.length + todo.length := by simp
    simp only [List.length_cons, Nat.add_mul, Nat.one_mul] at h2
    rw [if_neg (by rw [hs, hs2, hv]; simp; omega)]
    have hz : (⟨cellsOf v⟩ : Array Value).zipIdx.foldl (fun (cs : Array Value) (x : Value × Nat) => cs.setIfInBounds (i * size + x.2) x.1) ⟨done ++ todo⟩ = ⟨setVs (done ++ todo) (i * size) (cellsOf v)⟩ := by
      rw [← Array.foldl_toList, Array.toList_zipIdx]
      exact foldl_set (cellsOf v) (done ++ todo) (i * size) 0
    have hset : ∀ (vs d t : List Value), vs.length ≤ t.length → setVs (d ++ t) d.length vs = d ++ vs ++ t.drop vs.length := by
      intro vs
      induction vs with
      | nil => intro d t _; simp [setVs]
      | cons u us ih =>
        intro d t ht
        cases t with
        | nil => simp at ht
        | cons t0 t =>
          simp only [setVs]
          rw [setV_eq, List.set_append_right _ _ (by omega)]
          simp only [Nat.sub_self, List.set_cons_zero]
          have := ih (d ++ [u]) t (by simpa using ht)
          simp only [List.length_append, List.length_singleton] at this
          rw [show d ++ u :: t = d ++ [u] ++ t by simp, this]
          simp
    rw [← h1, hset _ _ _ (by omega)] at hz
    have ih := fill_all ps (done ++ cellsOf v) (todo.drop (cellsOf v).length) (i + 1) (by rw [List.length_append, h1, hv, Nat.add_mul, Nat.one_mul]) (by rw [List.length_drop, hv]; omega) h3 (fun p hp => h4 p (by simp [hp]))
    rw [← h1, hz, ih]
    simp [flatV]
theorem r_lit {t e : TypeId} {m size : Nat} {ps : List (Nat × Operand)} {vs : List Value} (hb : litB P t e size) (hm : m * size ≤ 16777216) (hi : ps.map (·.1) = List.range' 0 m) (hs : ∀ p ∈ ps, (cellsOf (ev E p.2)).length = size)
    (hv : flatV (ps.map fun p => cellsOf (ev E p.2)) = vs) :
    (execOp (ev E) ⟨dst, .buildSlice t m ps.toArray, ty, pos, af, g⟩).run P w = .ok (.value (.slice (some ⟨w.heap.size, 0, none⟩) m m)) (w.alloc (.cells ⟨vs⟩ e)) := by
  have key : ∀ w : World, (Instr.buildSlice t m (ps.toArray.map fun (i, x) => (i, ev E x))).run P w = .ok (.slice (some ⟨w.heap.size, 0, none⟩) m m) (w.alloc (.cells ⟨vs⟩ e)) := ?_
  · simp only [execOp, Sem.run_bind, key, Result.andThen, Sem.run_pure]
  intro w;obtain ⟨h1, i, z, h2, h3, h4, h5⟩ := hb;have hu : (underlying t).run P w = .ok (.slice e) w := by simp [underlying, go_sem, h1]
  have hz : (zeroValue e).run P w = .ok z w := by simp [zeroValue, typeInfo, go_sem, h2, h4]
  have hsz : (sizeOf e).run P w = .ok size w := by simp [sizeOf, typeInfo, go_sem, h2, h3]
  have hl : ps.length = m := by have := congrArg List.length hi; simpa using this
  have e2 : (ps.toArray.map fun p => (p.1, ev E p.2)).toList = ps.map fun p => (p.1, ev E p.2) := by simp
  have hf : ∀ (c : List Value), c.length = m * size → Instr.fill (fun i => some (i * size, size)) ⟨c⟩ (ps.map fun p => (p.1, ev E p.2)) = some ⟨vs⟩ := by
    intro c hc;have := fill_all (size := size) (ps.map fun p => (p.1, ev E p.2)) [] c 0 (by simp) (by simpa [hl] using hc) (by rw [List.map_map, List.length_map, hl]; exact hi) (fun p hp => by obtain ⟨q, hq, rfl⟩ := List.mem_map.1 hp; exact hs q hq)
    simp only [List.nil_append, List.map_map] at this
    rw [this]
    have : ((fun p : Nat × Value => cellsOf p.2) ∘ fun p : Nat × Operand => (p.1, ev E p.2)) = fun p => cellsOf (ev E p.2) := rfl
    rw [this, hv]
  unfold Instr.buildSlice
  simp only [Sem.run_bind, hu, Result.andThen, hsz, e2]
  rw [if_neg (by omega)]
  by_cases h0 : m * size = 0
  · rw [if_pos h0]
    have hr : ((Array.range (m * size)).map ((#[] : Array Value)[· % (#[] : Array Value).size]!)) = ⟨[]⟩ := by rw [h0]; simp
    simp only [Sem.run_bind, Sem.run_pure, Result.andThen, hr]
    rw [hf [] (by simpa using h0.symm)]
    rfl
  rw [if_neg h0]
  simp only [Sem.run_bind, Sem.run_pure, Result.andThen, hz]
  have := hf ((Array.range (m * size)).map (z.cells[· % z.cells.size]!)).toList (by simp)
  have e3 : (⟨((Array.range (m * size)).map (z.cells[· % z.cells.size]!)).toList⟩ : Array Value) = (Array.range (m * size)).map (z.cells[· % z.cells.size]!) := rfl;rw [e3] at this;rw [this]
  rfl
theorem st_lit {t e : TypeId} {m size : Nat} {ps : List (Nat × Operand)} {vs : List Value} (hb : litB P t e size) (hm : m * size ≤ 16777216) (hi : ps.map (·.1) = List.range' 0 m) (hs : ∀ p ∈ ps, (cellsOf (ev E p.2)).length = size)
    (hv : flatV (ps.map fun p => cellsOf (ev E p.2)) = vs) (h : ∀ b w', b = w.heap.size → Chg [] w w' → Blk w' b vs e → wops P r n O Q l (updo E dst (.slice (some ⟨b, 0, none⟩) m m)) ds w') :
    wop P r n O Q ⟨dst, .buildSlice t m ps.toArray, ty, pos, af, g⟩ l E ds w :=
  wop_run (fun _ => by simp) (r_lit hb hm hi hs hv) (h w.heap.size _ rfl (Chg.alloc w _) (Blk.new w vs e))
end
theorem w_split {d : Nat} {t : Bool} (he : E d = .bool t) (h1 : t = true → wops P r n O Q l (upd E d (.bool true)) ds w) (h0 : t = false → wops P r n O Q l (upd E d (.bool false)) ds w) : wops P r n O Q l E ds w := by
  have hE : upd E d (.bool t) = E := by
    funext i
    by_cases e : i = d
    · subst e; rw [upd_same, he]
    rw [upd_other _ _ _ _ e]
  cases t with
  | true => have := h1 rfl; rwa [hE] at this
  | false => have := h0 rfl; rwa [hE] at this
theorem ret_tmp {fn : Func} {Φ : Value → World → Prop} {t : Nat} {v : Value} (hr : fn.results = #[.tmp t]) (hv : E t = v) (h : Φ v w) : retP P fn Φ .ret E [] w :=
  ⟨rfl, fun a ha => ⟨v, by rw [results_tmp hr]; subst hv; rw [← ha]; rfl, h⟩⟩
theorem ret_tmp2 {fn : Func} {Φ : Value → World → Prop} {t u : Nat} {v v2 : Value} (hr : fn.results = #[.tmp t, .tmp u]) (hv : E t = v) (hv2 : E u = v2) (h : Φ (.tuple ⟨[v, v2]⟩) w) : retP P fn Φ .ret E [] w :=
  ⟨rfl, fun a ha => ⟨_, by rw [results_tmp2 hr]; subst hv; subst hv2; rw [← ha]; rfl, h⟩⟩
theorem ret_tmp3 {fn : Func} {Φ : Value → World → Prop} {t u s : Nat} {v v2 v3 : Value} (hr : fn.results = #[.tmp t, .tmp u, .tmp s]) (hv : E t = v) (hv2 : E u = v2) (hv3 : E s = v3) (h : Φ (.tuple ⟨[v, v2, v3]⟩) w) : retP P fn Φ .ret E [] w :=
  ⟨rfl, fun a ha => ⟨_, by rw [results_tmp3 hr]; subst hv; subst hv2; subst hv3; rw [← ha]; rfl, h⟩⟩
theorem ret_none {fn : Func} {Φ : Value → World → Prop} (hr : fn.results = #[]) (h : Φ (.tuple ⟨[]⟩) w) : retP P fn Φ .ret E [] w :=
  ⟨rfl, fun a ha => ⟨_, by rw [results_none hr], h⟩⟩
theorem ret_none_n {fn : Func} {Φ : Value → World → Prop} (hr : fn.results = #[]) (h : Φ (.tuple ⟨[]⟩) w) : retP P fn Φ .normal E [] w :=
  ⟨rfl, fun a ha => ⟨_, by rw [results_none hr], h⟩⟩
theorem run_loadVarA {t : TypeId} {b off k : Nat} {vs : List Value} (ht : aggB P t k = true) (hc : Cells w b off vs) (hk : vs.length = k) : (loadVar t ⟨b, off, none⟩).run P w = .ok (.agg ⟨vs⟩) w := by
  have h1 := run_loadCells_list (P := P) (w := w) ⟨b, off, none⟩ vs (fun j v hj => by rw [Addr.add_lit]; exact hc j v hj)
  rw [hk] at h1
  simp only [loadVar, Sem.run_bind, run_isAgg_agg ht, Result.andThen, run_sizeOf (sizeB_agg ht), h1, Sem.run_pure, if_true]
theorem run_loadVar1 {t : TypeId} {b off : Nat} {v : Value} (ht : oneB P t = true) (hc : w.cell? ⟨b, off, none⟩ = some v) : (loadVar t ⟨b, off, none⟩).run P w = .ok v w := by
  simp only [loadVar, Sem.run_bind, run_isAgg_one ht, Result.andThen, if_false, Bool.false_eq_true, load, Sem.run, hc]
theorem ret_cellA {fn : Func} {Φ : Value → World → Prop} {t : TypeId} {d b off k : Nat} {vs : List Value} (hr : fn.results = #[.cell d t]) (hv : E d = .pointer (some ⟨b, off, none⟩)) (ht : aggB P t k = true) (hc : Cells w b off vs) (hk : vs.length = k) (h : Φ (.agg ⟨vs⟩) w) : retP P fn Φ .ret E [] w :=
  ⟨rfl, fun a ha => ⟨_, by
    have hd : a.tmps.getD d undef = .pointer (some ⟨b, off, none⟩) := by rw [← hv, ← ha]; rfl
    have hl := run_loadVarA (w := w) ht hc hk;simp only [results, hr];rw [Array.mapM_eq_mapM_toList];simp only [List.mapM_cons, List.mapM_nil, hd, asAddr, Sem.run_bind, Sem.run_pure, hl, Result.andThen, ← bind_pure_comp]
    rfl, h⟩⟩
end Go.Proofs.YtghjmiggobpmoaaGreatDoor.K
namespace Go.Proofs.YtghjmiggobpmoaaGreatDoor.K
open Go Go.RowKit
def dps (o : Oper) : List Nat := (o.after.toList.filter (Region.binds .any)).map (·.on)
def otmps (o : Oper) : List Nat := o.op.operands.toList.filterMap fun | .tmp t => some t | _ => none
def gtmp (l : List Oper) (o : Oper) : List Nat := match o.guard with | some (k, _) => ((l[k]?).bind (·.dst)).toList | none => []
def atmps (l : List Oper) (o : Oper) : List Nat := otmps o ++ gtmp l o
def wantE (l : List Oper) (o : Oper) (E : Env) : Bool := match o.guard with
  | none => true
  | some (k, b) => match (l[k]?).bind (·.dst) with
    | some d => (match E d with | .bool c => c == b | _ => false)
    | none => false
def plainOp (o : Oper) : Bool := match o.op with | .select .. | .defer .. => false | _ => true
def clo (l : List Oper) : List Nat → List Nat → List Nat
  | [], cl => cl
  | j :: s, cl => clo l s (bif cl.contains j then (match l[j]? with | some p => dps p ++ cl | none => cl) else cl)
def chainOK (l : List Oper) : List (Nat × Nat) → List Nat → Option (List Nat) → Bool
  | [], _, _ => true
  | (i, f) :: r, seen, lay =>
    (match l[i]? with
     | none => false
     | some o => (dps o).all (fun j => seen.contains j) &&
        (atmps l o).all (fun t => (List.range l.length).all fun j => (match l[j]? with | some p => (p.dst != some t) || (dps o).contains j | none => true)) &&
        (match lay with | none => true | some s => (dps o).any fun j => s.contains j) &&
        (bif Nat.beq f 2 then r.isEmpty && seen.all (fun j => (clo l seen (dps o)).contains j) else Nat.blt f 2)) &&
    !seen.contains i && Nat.blt i l.length &&
    chainOK l r (i :: seen) (bif Nat.beq f 0 then lay.map (i :: ·) else some [i])
def dstsOK (l : List Oper) : Bool := (List.range l.length).all fun i => (List.range l.length).all fun j => Nat.beq i j || (match l[i]?, l[j]? with | some o, some p => (match o.dst with | some d => p.dst != some d | none => true) | _, _ => true)
def drawOK (l : List Oper) (seq : List (Nat × Nat)) : Bool :=
  l.all plainOp && dstsOK l && chainOK l seq [] none && Nat.beq seq.length l.length
variable {P : Program} {X : Value → World → Prop} {r : Option Nat} {n : Nat} {l : List Oper} {Q : Post} {ds : List Deferred}
def opR (P : Program) (l : List Oper) (o : Oper) (E : Env) (w : World) (v : Value) : Prop :=
  (wantE l o E = true ∧ (execOp (ev E) o).run P w = .ok (.value v) w) ∨ (wantE l o E = false ∧ v = undef)
def effP (P : Program) (X : Value → World → Prop) (o : Oper) (E : Env) (w : World) (K : Value → World → Prop) : Prop :=
  (∃ v w', (execOp (ev E) o).run P w = .ok (.value v) w' ∧ K v w') ∨ (∃ w', (execOp (ev E) o).run P w = .ok .skip w' ∧ K undef w') ∨
  (∃ f args w1 Φ, (execOp (ev E) o).run P w = .ok (.enter f args) w1 ∧ CallR P f args w1 Φ ∧ ∀ v w', Φ v w' → K v w') ∨
  (∃ f args w1, ∃ Φ Ψ : Value → World → Prop, (execOp (ev E) o).run P w = .ok (.enter f args) w1 ∧ Calls P f args w1 (fun e w' => (∃ v, e = .returned v ∧ Φ v w') ∨ ∃ v, e = .panicked [{ v := v, recovered := false }] ∧ Ψ v w') ∧ (∀ v w', Ψ v w' → X v w') ∧ ∀ v w', Φ v w' → K v w')
def seqP (P : Program) (X : Value → World → Prop) (l : List Oper) (K : (World → Prop) → Env → World → Prop) : List (Nat × Nat) → (World → Prop) → Env → World → Prop
  | [], T, E, w => K T E w
  | (i, f) :: rest, T, E, w => ∀ o, l[i]? = some o →
    match f with
    | 0 => ∃ v, (∀ w', T w' → opR P l o E w' v) ∧ seqP P X l K rest T (updo E o.dst v) w
    | 1 => (wantE l o E = true ∧ effP P X o E w fun v w' => ∃ T' : World → Prop, (∀ x, T' x → T x) ∧ T' w' ∧ seqP P X l K rest T' (updo E o.dst v) w') ∨ (wantE l o E = false ∧ seqP P X l K rest T (updo E o.dst undef) w)
    | _ => (wantE l o E = true ∧ effP P X o E w fun v w' => seqP P X l K rest T (updo E o.dst v) w') ∨ (wantE l o E = false ∧ seqP P X l K rest T (updo E o.dst undef) w)
theorem effP_mono {o : Oper} {E : Env} {w : World} {K K' : Value → World → Prop} (h : effP P X o E w K) (hk : ∀ v w', K v w' → K' v w') : effP P X o E w K' := by
  rcases h with ⟨v, w', h1, h2⟩ | ⟨w', h1, h2⟩ | ⟨f, as, w1, Φ, h1, h2, h3⟩ | ⟨f, as, w1, Φ, Ψ, h1, h2, h4, h3⟩
  · exact .inl ⟨v, w', h1, hk _ _ h2⟩
  · exact .inr (.inl ⟨w', h1, hk _ _ h2⟩)
  · exact .inr (.inr (.inl ⟨f, as, w1, Φ, h1, h2, fun v w' hv => hk _ _ (h3 v w' hv)⟩))
  exact .inr (.inr (.inr ⟨f, as, w1, Φ, Ψ, h1, h2, h4, fun v w' hv => hk _ _ (h3 v w' hv)⟩))
theorem otmps_congr {o : Oper} (hp : plainOp o = true) {E G : Env} (h : ∀ t, t ∈ otmps o → E t = G t) : execOp (ev E) o = execOp (ev G) o := by
  refine execOp_congr o (fun cs b hs => ?_) fun x hx => ?_
  · simp only [plainOp, hs] at hp; cases hp
  cases x with
  | tmp t => exact h t (List.mem_filterMap.2 ⟨.tmp t, by simpa using hx, rfl⟩)
  | _ => rfl
theorem plain_defer {o : Oper} (hp : plainOp o = true) : ∀ c, o.op ≠ .defer c := fun c hs => by simp only [plainOp, hs] at hp; cases hp
theorem want_congr {o : Oper} {E G : Env} (h : ∀ t, t ∈ atmps l o → E t = G t) : wantE l o E = wantE l o G := by
  unfold wantE
  cases hg : o.guard with
  | none => rfl
  | some x =>
    obtain ⟨k, b⟩ := x;simp only
    cases hd : (l[k]?).bind (·.dst) with
    | none => rfl
    | some d =>
      simp only
      rw [h d (by simp [atmps, gtmp, hg, hd])]
theorem opR_congr {o : Oper} (hp : plainOp o = true) {E G : Env} {w : World} {v : Value} (h : ∀ t, t ∈ atmps l o → E t = G t) (hr : opR P l o E w v) : opR P l o G w v := by
  have h1 : execOp (ev E) o = execOp (ev G) o := otmps_congr hp fun t ht => h t (by simp [atmps, ht])
  unfold opR at *
  rw [← want_congr h, ← h1]; exact hr
theorem wanted_env (o : Oper) (a : Act) : Region.wanted o (yielded l.toArray a.tmps) = wantE l o (env a) := by
  unfold Region.wanted wantE
  cases hg : o.guard with
  | none => rfl
  | some x =>
    obtain ⟨k, b⟩ := x;simp only [yielded, List.getElem?_toArray]
    cases hd : (l[k]?).bind (·.dst) with
    | none => rfl
    | some d =>
      simp only [Option.bind_some, env, Array.getD_eq_getD_getElem?]
      cases a.tmps[d]? with
      | none => rfl
      | some v => cases v <;> first | rfl | (simp; rfl) | simp
theorem wpOpIn_eff {i : Nat} {o : Oper} (hi : l.toArray[i]? = some o) (hp : plainOp o = true) {E : Env} {a : Act} {w : World} (he : ∀ t, t ∈ atmps l o → env a t = E t) {K : Act → World → Prop} {Qa : Exit → Act → World → Prop}
    (hX : ∀ v w', X v w' → Qa (.panic [{ v := v, recovered := false }]) a w')
    (h : (wantE l o E = true ∧ effP P X o E w fun v w' => K (a.put o.dst v) w') ∨ (wantE l o E = false ∧ K (a.put o.dst undef) w)) : wpOpIn (WF r) 0 P l.toArray Qa i K a w := by
  have he1 : execOp (ev (env a)) o = execOp (ev E) o := otmps_congr hp fun t ht => he t (by simp [atmps, ht])
  unfold wpOpIn
  simp only [hi]
  rw [wanted_env, want_congr he]
  rcases h with ⟨hw, h⟩ | ⟨hw, h⟩
  · rw [if_pos hw]
    refine ⟨fun _ _ => trivial, ?_⟩
    rw [ev_env, Oper.semAt_eq _ _ _ (plain_defer hp), he1]
    rcases h with ⟨v, w', h1, h2⟩ | ⟨w', h1, h2⟩ | ⟨f, as, w1, Φ, h1, h2, h3⟩ | ⟨f, as, w1, Φ, Ψ, h1, h2, h4, h3⟩
    · rw [h1]; exact h2
    · rw [h1]; exact h2
    · rw [h1]
      refine ⟨fun hh => by simp [WF, Fence.wide] at hh, CallsIn.mono (callsIn_of_calls h2) ?_⟩
      rintro e w' ⟨v, rfl, hv⟩;exact h3 v w' hv
    rw [h1]
    refine ⟨fun hh => by simp [WF, Fence.wide] at hh, CallsIn.mono (callsIn_of_calls h2) ?_⟩
    rintro e w' (⟨v, rfl, hv⟩ | ⟨v, rfl, hv⟩)
    · exact h3 v w' hv
    exact hX v w' (h4 v w' hv)
  rw [if_neg (by rw [hw]; simp)]
  exact ⟨fun _ _ => trivial, h⟩
section main
variable (E0 : Env) (hpl : l.all plainOp = true) (hds : dstsOK l = true)
include hds in
theorem dst_ne {i j : Nat} {o p : Oper} {d : Nat} (hi : l[i]? = some o) (hj : l[j]? = some p) (hne : i ≠ j) (hd : o.dst = some d) : p.dst ≠ some d := by
  have h1 := (List.all_eq_true.1 hds i (List.mem_range.2 (List.getElem?_eq_some_iff.1 hi).1));have h2 := (List.all_eq_true.1 h1 j (List.mem_range.2 (List.getElem?_eq_some_iff.1 hj).1));simp only [hi, hj, hd, Bool.or_eq_true] at h2
  rcases h2 with h2 | h2
  · exact absurd (Nat.eq_of_beq_eq_true h2) hne
  simpa using h2
structure Inv (P : Program) (l : List Oper) (E0 : Env) (seen : List Nat) (eff : List Nat) (T : World → Prop) (V G : Env) (L : Nat → Prop) (w : World) : Prop where
  sub : ∀ i, L i → i ∈ seen
  done : ∀ i, i ∈ eff → L i
  quiet : ∀ i, i ∈ seen → i ∉ eff → ∀ o, l[i]? = some o → ∃ v, (∀ w', T w' → opR P l o V w' v) ∧ updo V o.dst v = V
  at_ : ∀ i o d, L i → l[i]? = some o → o.dst = some d → G d = V d
  rest : ∀ t, (∀ i o, L i → l[i]? = some o → o.dst ≠ some t) → G t = E0 t
  virt : ∀ t, (∀ i o, i ∈ seen → l[i]? = some o → o.dst ≠ some t) → V t = E0 t
  here : T w
  down : ∀ i o, L i → l[i]? = some o → ∀ j, j ∈ dps o → L j
theorem Inv.operands {seen eff : List Nat} {T : World → Prop} {V G : Env} {L : Nat → Prop} {w : World} (h : Inv P l E0 seen eff T V G L w) {i : Nat} {o : Oper} (hi : l[i]? = some o)
    (hw : (atmps l o).all (fun t => (List.range l.length).all fun j => (match l[j]? with | some (p : Oper) => (p.dst != some t) || (dps o).contains j | none => true)) = true) (hr : ∀ j, j ∈ dps o → L j) :
    ∀ t, t ∈ atmps l o → G t = V t := by
  intro t ht;have h1 := List.all_eq_true.1 hw t ht
  by_cases hx : ∃ (j : Nat) (p : Oper), l[j]? = some p ∧ p.dst = some t
  · obtain ⟨j, p, hj, hp⟩ := hx;have h2 := List.all_eq_true.1 h1 j (List.mem_range.2 (List.getElem?_eq_some_iff.1 hj).1);simp only [hj, hp, bne_self_eq_false, Bool.false_or, List.contains_iff_mem] at h2;exact h.at_ j p t (hr j h2) hj hp
  have hx' : ∀ (j : Nat) (p : Oper), l[j]? = some p → p.dst ≠ some t := fun j p hj hp => hx ⟨j, p, hj, hp⟩
  rw [h.rest t (fun i o _ hi => hx' i o hi), h.virt t (fun i o _ hi => hx' i o hi)]
theorem updo_same {E : Env} {d : Option Nat} {v : Value} (h : ∀ k, d = some k → E k = v) : updo E d v = E := by
  cases d with
  | none => rfl
  | some k =>
    funext i
    by_cases e : i = k
    · subst e; show upd E i v i = E i; rw [upd_same, h i rfl]
    exact upd_other _ _ _ _ e
theorem updo_get {E : Env} {d : Option Nat} {v : Value} (k : Nat) (h : d = some k) : updo E d v k = v := by subst h; exact upd_same _ _ _
theorem updo_ne {E : Env} {d : Option Nat} {v : Value} (k : Nat) (h : d ≠ some k) : updo E d v k = E k := by
  cases d with
  | none => rfl
  | some j => exact upd_other _ _ _ _ (fun e => h (by rw [e]))
structure Elem (l : List Oper) (i f : Nat) (seen : List Nat) (lay : Option (List Nat)) (o : Oper) : Prop where
  at_ : l[i]? = some o
  back : ∀ j, j ∈ dps o → j ∈ seen
  writers : (atmps l o).all (fun t => (List.range l.length).all fun j => (match l[j]? with | some (p : Oper) => (p.dst != some t) || (dps o).contains j | none => true)) = true
  hangs : ∀ s, lay = some s → ∃ j, j ∈ dps o ∧ j ∈ s
  new : i ∉ seen
theorem Elem.seenW {i f : Nat} {seen : List Nat} {lay : Option (List Nat)} {o : Oper} (h : Elem l i f seen lay o) : ∀ t, t ∈ atmps l o → ∀ (j : Nat) (p : Oper), l[j]? = some p → p.dst = some t → j ∈ dps o := fun t ht j p hj hp => by
  have h1 := List.all_eq_true.1 (List.all_eq_true.1 h.writers t ht) j (List.mem_range.2 (List.getElem?_eq_some_iff.1 hj).1);simp only [hj, hp, bne_self_eq_false, Bool.false_or, List.contains_iff_mem] at h1;exact h1
theorem clo_listed {L : Nat → Prop} (down : ∀ i o, L i → l[i]? = some o → ∀ j, j ∈ dps o → L j) : ∀ (seen cl : List Nat), (∀ k, k ∈ cl → L k) → ∀ k, k ∈ clo l seen cl → L k
  | [], cl, h, k, hk => h k hk
  | j :: s, cl, h, k, hk => by
    simp only [clo] at hk
    refine clo_listed down s _ ?_ k hk;intro x hx
    cases hc : cl.contains j with
    | false => rw [hc] at hx; exact h x hx
    | true =>
      rw [hc] at hx
      simp only [cond_true] at hx
      cases hj : l[j]? with
      | none => rw [hj] at hx; exact h x hx
      | some p =>
        rw [hj] at hx
        rcases List.mem_append.1 hx with h1 | h1
        · exact down j p (h j (by simpa using hc)) hj x h1
        exact h x h1
theorem chain_elem {i f : Nat} {rest : List (Nat × Nat)} {seen : List Nat} {lay : Option (List Nat)} (h : chainOK l ((i, f) :: rest) seen lay = true) :
    ∃ o, Elem l i f seen lay o ∧ chainOK l rest (i :: seen) (bif Nat.beq f 0 then lay.map (i :: ·) else some [i]) = true ∧ (f = 2 → rest = [] ∧ ∀ j, j ∈ seen → j ∈ clo l seen (dps o)) := by
  simp only [chainOK, Bool.and_eq_true, Bool.not_eq_true'] at h
  obtain ⟨⟨⟨h1, h2⟩, h3⟩, h4⟩ := h
  cases ho : l[i]? with
  | none => simp [ho] at h1
  | some o =>
    simp only [ho, Bool.and_eq_true] at h1
    obtain ⟨⟨⟨k1, k2⟩, k3⟩, k4⟩ := h1;refine ⟨o, ⟨ho, fun j hj => by simpa using List.all_eq_true.1 k1 j hj, k2, fun s hs => ?_, by simpa using h2⟩, h4, fun hf => ?_⟩
    · subst hs
      obtain ⟨j, q1, q2⟩ := List.any_eq_true.1 k3;exact ⟨j, q1, by simpa using q2⟩
    subst hf
    have k4 : (rest.isEmpty && seen.all (fun j => (clo l seen (dps o)).contains j)) = true := k4
    simp only [Bool.and_eq_true, List.isEmpty_iff] at k4
    exact ⟨k4.1, fun j hj => by simpa using List.all_eq_true.1 k4.2 j hj⟩
def SeenOK (l : List Oper) : List Nat → Prop
  | [] => True
  | i :: b => (∃ o, l[i]? = some o ∧ (∀ j, j ∈ dps o → j ∈ b) ∧ ∀ t, t ∈ atmps l o → ∀ (j : Nat) (p : Oper), l[j]? = some p → p.dst = some t → j ∈ dps o) ∧ SeenOK l b
theorem seen_ready (listed : Array Bool) : ∀ (seen : List Nat), SeenOK l seen → (∃ i, i ∈ seen ∧ listed.getD i true = false) → (∀ i, i ∈ seen → listed.getD i true = true → listed.getD i false = true) → ∃ i, i ∈ Region.ready .any l.toArray listed
  | [], _, ⟨i, h, _⟩, _ => by simp at h
  | x :: b, hs, hex, hl => by
    by_cases hb : ∃ i, i ∈ b ∧ listed.getD i true = false
    · exact seen_ready listed b hs.2 hb (fun i hi => hl i (by simp [hi]))
    obtain ⟨i, hi, hf⟩ := hex
    have hix : i = x := by
      rcases List.mem_cons.1 hi with h | h
      · exact h
      exact absurd ⟨i, h, hf⟩ hb
    subst hix
    obtain ⟨o, ho, hd, _⟩ := hs.1;refine ⟨i, mem_ready.2 ⟨hf, o, by simpa using ho, fun e he hbd => ?_⟩⟩
    have hj : e.on ∈ b := hd _ (List.mem_map.2 ⟨e, List.mem_filter.2 ⟨by simpa using he, hbd⟩, rfl⟩)
    cases hv : listed.getD e.on true with
    | false => exact absurd ⟨_, hj, hv⟩ hb
    | true => exact hl _ (by simp [hj]) hv
theorem ready_dps {listed : Array Bool} {i : Nat} {o : Oper} (h : i ∈ Region.ready .any l.toArray listed) (hi : l[i]? = some o) : ∀ j, j ∈ dps o → listed.getD j false = true := by
  obtain ⟨_, o', ho', h2⟩ := mem_ready.1 h;have : o' = o := by have := ho'; rw [List.getElem?_toArray, hi] at this; exact (Option.some.inj this).symm
  subst this
  intro j hj;obtain ⟨e, he, rfl⟩ := List.mem_map.1 hj;obtain ⟨h3, h4⟩ := List.mem_filter.1 he;exact h2 e (by simpa using h3) h4
theorem post_not_seen : ∀ (post : List (Nat × Nat)) (seen : List Nat) (lay : Option (List Nat)), chainOK l post seen lay = true → ∀ j, j ∈ post.map (·.1) → j ∉ seen
  | [], seen, lay, _, j, hj => by simp at hj
  | (i, f) :: rest, seen, lay, hc, j, hj => by
    obtain ⟨o, he, hc', _⟩ := chain_elem hc
    rcases List.mem_cons.1 (show j ∈ i :: rest.map (·.1) from hj) with rfl | h
    · exact he.new
    exact fun hs => post_not_seen rest (i :: seen) _ hc' j (by simpa using h) (by simp [hs])
theorem flag_le (rest : List (Nat × Nat)) (i f : Nat) (seen : List Nat) (lay : Option (List Nat)) (hc : chainOK l ((i, f) :: rest) seen lay = true) : f ≤ 2 := by
  simp only [chainOK, Bool.and_eq_true] at hc
  obtain ⟨⟨⟨h1, h2⟩, h3⟩, h4⟩ := hc
  cases ho : l[i]? with
  | none => simp [ho] at h1
  | some o =>
    simp only [ho, Bool.and_eq_true] at h1
    cases hb : Nat.beq f 2 with
    | true => exact Nat.le_of_eq (Nat.eq_of_beq_eq_true hb)
    | false => rw [hb] at h1; have := h1.2; simp only [cond_false, Nat.blt_eq] at this; omega
theorem chain_none : ∀ (post : List (Nat × Nat)) (seen : List Nat) (lay : Option (List Nat)), chainOK l post seen lay = true → chainOK l post seen none = true
  | [], seen, lay, _ => rfl
  | (i, f) :: rest, seen, lay, hc => by
    have h0 := hc;simp only [chainOK, Bool.and_eq_true] at h0 ⊢;obtain ⟨⟨⟨h1, h2⟩, h3⟩, h4⟩ := h0;refine ⟨⟨⟨?_, h2⟩, h3⟩, ?_⟩
    · cases ho : l[i]? with
      | none => simp [ho] at h1
      | some o => simp only [ho, Bool.and_eq_true] at h1 ⊢; exact ⟨⟨h1.1.1, trivial⟩, h1.2⟩
    cases hb : Nat.beq f 0 with
    | true => rw [hb] at h4; exact chain_none rest (i :: seen) _ h4
    | false => rw [hb] at h4; exact h4
theorem hangs_in : ∀ (post : List (Nat × Nat)) (seen s : List Nat), chainOK l post seen (some s) = true → ∀ i, i ∈ post.map (·.1) → ∀ o, l[i]? = some o → ∃ j, j ∈ dps o ∧ (j ∈ s ∨ j ∈ post.map (·.1))
  | [], seen, s, _, i, hi, o, ho => by simp at hi
  | (x, f) :: rest, seen, s, hc, i, hi, o, ho => by
    obtain ⟨o', he, hc', _⟩ := chain_elem hc
    rcases List.mem_cons.1 (show i ∈ x :: rest.map (·.1) from hi) with rfl | h
    · rw [he.at_] at ho; cases ho
      obtain ⟨j, h1, h2⟩ := he.hangs s rfl;exact ⟨j, h1, .inl h2⟩
    cases hb : Nat.beq f 0 with
    | true =>
      rw [hb] at hc'
      obtain ⟨j, h1, h2⟩ := hangs_in rest (x :: seen) (x :: s) hc' i (by simpa using h) o ho
      refine ⟨j, h1, ?_⟩
      rcases h2 with h2 | h2
      · rcases List.mem_cons.1 h2 with rfl | h2
        · exact .inr (by simp)
        exact .inl h2
      exact .inr (by simp at h2 ⊢; exact .inr h2)
    | false =>
      rw [hb] at hc'
      obtain ⟨j, h1, h2⟩ := hangs_in rest (x :: seen) [x] hc' i (by simpa using h) o ho
      refine ⟨j, h1, .inr ?_⟩
      rcases h2 with h2 | h2
      · simp at h2; subst h2; simp
      simp at h2 ⊢; exact .inr h2
variable {K : (World → Prop) → Env → World → Prop}
include hpl hds in
theorem advance : ∀ (post : List (Nat × Nat)) (seen eff : List Nat) (lay : Option (List Nat)) (T : World → Prop) (V G : Env) (L : Nat → Prop) (w : World),
    chainOK l post seen lay = true → seqP P X l K post T V w → Inv P l E0 seen eff T V G L w → SeenOK l seen → (∀ i, i ∈ post.map (·.1) → ¬ L i ∧ i ∉ eff) →
    ∃ post' seen' lay' V', chainOK l post' seen' lay' = true ∧ seqP P X l K post' T V' w ∧ Inv P l E0 seen' eff T V' G L w ∧ SeenOK l seen' ∧ (post' = [] ∨ ∃ c f r, post' = (c, f) :: r ∧ f ≠ 0) ∧
      (∀ i, i ∈ post'.map (·.1) → ¬ L i ∧ i ∉ eff) ∧ (∀ i, (i ∈ seen ∨ i ∈ post.map (·.1)) → (i ∈ seen' ∨ i ∈ post'.map (·.1)))
  | [], seen, eff, lay, T, V, G, L, w, hc, hs, hI, hS, hN => ⟨[], seen, lay, V, hc, hs, hI, hS, .inl rfl, hN, fun i h => h⟩
  | (i, f) :: rest, seen, eff, lay, T, V, G, L, w, hc, hs, hI, hS, hN => by
    by_cases hf : f = 0
    · subst hf
      obtain ⟨o, he, hc', _⟩ := chain_elem hc;obtain ⟨v, hrun, hs'⟩ := hs o he.at_
      have hop : ∀ t, t ∈ atmps l o → ∀ d, o.dst = some d → t ≠ d := by
        intro t ht d hd htd;subst htd;have h1 := List.all_eq_true.1 (List.all_eq_true.1 he.writers t ht) i (List.mem_range.2 (List.getElem?_eq_some_iff.1 he.at_).1);simp only [he.at_, hd, bne_self_eq_false, Bool.false_or, List.contains_iff_mem] at h1;exact he.new (he.back i h1)
      have hpo : plainOp o = true := List.all_eq_true.1 hpl o (List.mem_of_getElem? he.at_);have hnL := (hN i (by simp)).1
      have hne := (hN i (by simp)).2
      have hrun' : ∀ w', T w' → opR P l o (updo V o.dst v) w' v := fun w' hT => by
        refine opR_congr hpo (E := V) (fun t ht => ?_) (hrun w' hT)
        cases hd : o.dst with
        | none => rfl
        | some d => exact (upd_other _ _ _ _ (hop t ht d hd)).symm
      have hI' : Inv P l E0 (i :: seen) eff T (updo V o.dst v) G L w := by
        refine ⟨fun j hj => by simp [hI.sub j hj], hI.done, fun j hj hjn p hp => ?_, fun j p d hj hp hd => ?_, hI.rest, fun t ht => ?_, hI.here, hI.down⟩
        · rcases List.mem_cons.1 hj with rfl | hj'
          · rw [he.at_] at hp; cases hp
            exact ⟨v, hrun', updo_same fun k hk => updo_get k hk⟩
          obtain ⟨u, h1, h2⟩ := hI.quiet j hj' hjn p hp;have hji : i ≠ j := fun e => he.new (by rw [e]; exact hj')
          have hpp : plainOp p = true := List.all_eq_true.1 hpl p (List.mem_of_getElem? hp)
          -- p's operands are not written by o
          have hnw : ∀ t, t ∈ atmps l p → o.dst ≠ some t := by
            intro t ht hd
            have : ∀ (sn : List Nat), SeenOK l sn → j ∈ sn → i ∈ sn := by
              intro sn
              induction sn with
              | nil => intro _ h; simp at h
              | cons x b ih =>
                intro hs hjm
                rcases List.mem_cons.1 hjm with rfl | hjm'
                · obtain ⟨p', hp', hb0, hb⟩ := hs.1;rw [hp] at hp'; cases hp';exact List.mem_cons_of_mem _ (hb0 _ (hb t ht i o he.at_ hd))
                exact List.mem_cons_of_mem _ (ih hs.2 hjm')
            exact he.new (this seen hS hj')
          refine ⟨u, fun w' hT => ?_, ?_⟩
          · exact opR_congr hpp (E := V) (fun t ht => (updo_ne t (hnw t ht)).symm) (h1 w' hT)
          refine updo_same fun k hk => ?_
          rw [updo_ne k (fun hd => dst_ne (l := l) hds he.at_ hp hji hd hk)]
          rw [← h2]; exact updo_get k hk
        · have := hI.at_ j p d hj hp hd;rw [this, updo_ne d (fun hd' => dst_ne (l := l) hds he.at_ hp (fun e => hnL (by rw [e]; exact hj)) hd' hd)]
        rw [updo_ne t (fun hd => ht i o (by simp) he.at_ hd)]
        exact hI.virt t fun j p hj hp => ht j p (by simp [hj]) hp
      obtain ⟨post', seen', lay', V', q1, q2, q3, q4, q5, q6, q7⟩ := advance rest (i :: seen) eff _ T _ G L w hc' hs' hI' ⟨⟨o, he.at_, he.back, he.seenW⟩, hS⟩ (fun j hj => hN j (by simp at hj ⊢; exact .inr hj))
      refine ⟨post', seen', lay', V', q1, q2, q3, q4, q5, q6, fun j hj => q7 j ?_⟩
      rcases hj with h | h
      · exact .inl (by simp [h])
      simp only [List.map_cons, List.mem_cons] at h
      rcases h with rfl | h
      · exact .inl (by simp)
      exact .inr h
    exact ⟨_, seen, lay, V, hc, hs, hI, hS, .inr ⟨i, f, rest, rfl, hf⟩, hN, fun j h => h⟩
def cnt (N : Nat) (listed : Array Bool) : Nat := ((List.range N).filter fun i => !listed.getD i true).length
theorem cnt_set {N : Nat} {listed : Array Bool} {i : Nat} (hN : listed.size = N) (hi : listed.getD i true = false) : cnt N (listed.setIfInBounds i true) < cnt N listed := by
  have hlt : i < listed.size := by
    rcases Nat.lt_or_ge i listed.size with h | h
    · exact h
    simp [Array.getD_eq_getD_getElem?, Array.getElem?_eq_none h] at hi
  unfold cnt
  have key : ∀ l : List Nat, i ∈ l → (l.filter fun j => !(listed.setIfInBounds i true).getD j true).length < (l.filter fun j => !listed.getD j true).length := by
    have le : ∀ l : List Nat, (l.filter fun j => !(listed.setIfInBounds i true).getD j true).length ≤ (l.filter fun j => !listed.getD j true).length := by
      intro l
      induction l with
      | nil => simp
      | cons x b ih =>
        by_cases e : x = i
        · subst e; simp only [List.filter_cons, hi]; simp [Array.getD_eq_getD_getElem?, hlt]; simp [Array.getD_eq_getD_getElem?] at ih; omega
        simp only [List.filter_cons]; rw [getD_set_ne true (Ne.symm e)]; split <;> (try simp only [List.length_cons]) <;> omega
    intro l
    induction l with
    | nil => intro h; simp at h
    | cons x b ih =>
      intro h
      by_cases e : x = i
      · subst e
        have := le b;have h1 : (listed.setIfInBounds x true).getD x true = true := by simp [Array.getD_eq_getD_getElem?, hlt]
        simp only [List.filter_cons, hi, h1]
        simp only [Bool.not_true, Bool.not_false, if_true, List.length_cons]
        simp only [Bool.false_eq_true, if_false]
        omega
      have := ih (by simpa [Ne.symm e] using h)
      simp only [List.filter_cons]; rw [getD_set_ne true (Ne.symm e)]; split <;> (try simp only [List.length_cons]) <;> omega
  exact key _ (List.mem_range.2 (by omega))
theorem cnt_zero {N : Nat} {listed : Array Bool} (h : cnt N listed = 0) : ∀ i, i < N → listed.getD i true = true := fun i hi => by
  have := List.eq_nil_of_length_eq_zero h;have h2 := List.filter_eq_nil_iff.1 this i (List.mem_range.2 hi)
  simpa using h2
theorem any_done {fuel : Nat} {listed : Array Bool} {a : Act} {w : World} {Qa : Exit → Act → World → Prop} (hz : ∀ i, i < l.length → listed.getD i true = true) (h : Qa .normal a w) : wpAnyIn (WF r) 0 P .any l.toArray Qa fuel listed a w := by
  have hrd : Region.ready .any l.toArray listed = [] := by
    cases hr : Region.ready .any l.toArray listed with
    | nil => rfl
    | cons x xs =>
      have hx : x ∈ Region.ready .any l.toArray listed := by rw [hr]; simp
      obtain ⟨h1, o, ho, _⟩ := mem_ready.1 hx;have hlt : x < l.length := by have := (Array.getElem?_eq_some_iff.1 ho).1; simpa using this
      rw [hz x hlt] at h1; cases h1
  cases fuel with
  | zero => exact ⟨hrd, h⟩
  | succ fuel => exact ⟨fun _ => h, fun i hi => by rw [hrd] at hi; simp at hi⟩
include hpl hds in
theorem any_of_seq (hK : ∀ T E w, K T E w → Q .normal E ds w) (hXQ : ∀ v w', X v w' → ∀ E', Q (.panic [{ v := v, recovered := false }]) E' ds w') : ∀ (fuel : Nat) (post : List (Nat × Nat)) (seen eff : List Nat) (lay : Option (List Nat)) (T : World → Prop) (V : Env) (listed : Array Bool) (w : World) (a : Act),
    cnt l.length listed ≤ fuel → listed.size = l.length → a.tmps.size = n → a.defers = ds → l.all (okd n) = true →
    chainOK l post seen lay = true → seqP P X l K post T V w → Inv P l E0 seen eff T V (env a) (fun i => i < l.length ∧ listed.getD i true = true) w → SeenOK l seen → (post = [] ∨ ∃ c f r, post = (c, f) :: r ∧ f ≠ 0) →
    (∀ i, i ∈ post.map (·.1) → i < l.length → listed.getD i true = false) → (∀ i, i < l.length → i ∈ seen ∨ i ∈ post.map (·.1)) → (∀ s, lay = some s → ∀ j, j ∈ s → j ∈ eff ∨ j ∈ seen) →
    wpAnyIn (WF r) 0 P .any l.toArray (toQ n Q) fuel listed a w := by
  intro fuel
  induction fuel with
  | zero =>
    intro post seen eff lay T V listed w a hcnt hsz hn hd hok hc hs hI hS hp hN hall hlay;have hz := cnt_zero (Nat.le_zero.1 hcnt)
    have hrd : Region.ready .any l.toArray listed = [] := by
      cases hr : Region.ready .any l.toArray listed with
      | nil => rfl
      | cons x xs =>
        have hx : x ∈ Region.ready .any l.toArray listed := by rw [hr]; simp
        obtain ⟨h1, o, ho, _⟩ := mem_ready.1 hx;have hlt : x < l.length := by have := (Array.getElem?_eq_some_iff.1 ho).1; simpa using this
        rw [hz x hlt] at h1; cases h1
    have hpost : post = [] := by
      rcases hp with h | ⟨c, f, rr, rfl, _⟩
      · exact h
      obtain ⟨o, he, _⟩ := chain_elem hc;have hlt : c < l.length := (List.getElem?_eq_some_iff.1 he.at_).1;have := hN c (by simp) hlt
      rw [hz c hlt] at this; cases this
    subst hpost
    refine ⟨hrd, hn, ?_⟩
    have hGV : env a = V := by
      funext t
      by_cases hx : ∃ (i : Nat) (o : Oper), l[i]? = some o ∧ o.dst = some t
      · obtain ⟨i, o, hi, ho⟩ := hx;have hlt : i < l.length := (List.getElem?_eq_some_iff.1 hi).1;exact hI.at_ i o t ⟨hlt, hz i hlt⟩ hi ho
      have hx' : ∀ (i : Nat) (o : Oper), l[i]? = some o → o.dst ≠ some t := fun i o hi ho => hx ⟨i, o, hi, ho⟩
      rw [hI.rest t (fun i o _ hi => hx' i o hi), hI.virt t (fun i o _ hi => hx' i o hi)]
    rw [hGV, hd]
    exact hK _ _ _ hs
  | succ fuel ih =>
    intro post seen eff lay T V listed w a hcnt hsz hn hd hok hc hs hI hS hp hN hall hlay
    have hlf : ∀ i, listed.getD i true = true → i < l.length → listed.getD i false = true := fun i h hlt => by
      rw [Array.getD_eq_getD_getElem?, Array.getElem?_eq_getElem (by omega)] at h ⊢; simpa using h
    have hft : ∀ i, listed.getD i false = true → i < l.length ∧ listed.getD i true = true := fun i h => by
      rcases Nat.lt_or_ge i listed.size with hl | hl
      · refine ⟨by omega, ?_⟩
        rw [Array.getD_eq_getD_getElem?, Array.getElem?_eq_getElem hl] at h ⊢; simpa using h
      simp [Array.getD_eq_getD_getElem?, Array.getElem?_eq_none hl] at h
    have hset : ∀ i, i < l.length → (listed.setIfInBounds i true).getD i true = true := fun i hi => by simp [Array.getD_eq_getD_getElem?, show i < listed.size by omega]
    have hseenlt : ∀ (sn : List Nat), SeenOK l sn → ∀ i, i ∈ sn → i < l.length := by
      intro sn
      induction sn with
      | nil => intro _ i h; simp at h
      | cons x b ihb =>
        intro hs i hi
        rcases List.mem_cons.1 hi with rfl | hi'
        · obtain ⟨o, ho, _⟩ := hs.1;exact (List.getElem?_eq_some_iff.1 ho).1
        exact ihb hs.2 i hi'
    refine ⟨fun hrd => ?_, fun i hi => ?_⟩
    · -- nothing is ready: all have been carried out
      have hseen : ∀ i, i ∈ seen → listed.getD i true = true := by
        intro i hi
        cases hv : listed.getD i true with
        | true => rfl
        | false =>
          obtain ⟨j, hj⟩ := seen_ready listed seen hS ⟨i, hi, hv⟩ (fun k hk h => hlf k h (hseenlt seen hS k hk))
          rw [hrd] at hj; simp at hj
      have hpost : post = [] := by
        rcases hp with h | ⟨c, f, rr, rfl, _⟩
        · exact h
        obtain ⟨o, he, _⟩ := chain_elem hc;have hlt : c < l.length := (List.getElem?_eq_some_iff.1 he.at_).1
        have hcr : c ∈ Region.ready .any l.toArray listed := mem_ready.2 ⟨hN c (by simp) hlt, o, by simpa using he.at_, fun e hme hb => by
          have hj : e.on ∈ dps o := List.mem_map.2 ⟨e, List.mem_filter.2 ⟨by simpa using hme, hb⟩, rfl⟩
          have := he.back _ hj;exact hlf _ (hseen _ this) (hseenlt seen hS _ this)⟩
        rw [hrd] at hcr; simp at hcr
      subst hpost
      refine ⟨hn, ?_⟩
      have hz : ∀ i, i < l.length → listed.getD i true = true := fun i hi => by
        rcases hall i hi with h | h
        · exact hseen i h
        simp at h
      have hGV : env a = V := by
        funext t
        by_cases hx : ∃ (i : Nat) (o : Oper), l[i]? = some o ∧ o.dst = some t
        · obtain ⟨i, o, hi, ho⟩ := hx;have hlt : i < l.length := (List.getElem?_eq_some_iff.1 hi).1;exact hI.at_ i o t ⟨hlt, hz i hlt⟩ hi ho
        have hx' : ∀ (i : Nat) (o : Oper), l[i]? = some o → o.dst ≠ some t := fun i o hi ho => hx ⟨i, o, hi, ho⟩
        rw [hI.rest t (fun i o _ hi => hx' i o hi), hI.virt t (fun i o _ hi => hx' i o hi)]
      rw [hGV, hd]
      exact hK _ _ _ hs
    obtain ⟨hun, o, ho, _⟩ := mem_ready.1 hi;have ho : l[i]? = some o := by simpa using ho
    have hlt : i < l.length := (List.getElem?_eq_some_iff.1 ho).1;have hdp := ready_dps hi ho;have hpo : plainOp o = true := List.all_eq_true.1 hpl o (List.mem_of_getElem? ho)
    have hokd : ∀ k, o.dst = some k → k < a.tmps.size := fun k hk => by
      have := List.all_eq_true.1 hok o (List.mem_of_getElem? ho);simp only [okd, hk] at this; rw [hn]; simpa [Nat.blt_eq] using this
    have hcnt' : cnt l.length (listed.setIfInBounds i true) ≤ fuel := by have := cnt_set hsz hun; omega
    have hsz' : (listed.setIfInBounds i true).size = l.length := by simpa using hsz
    have hL' : ∀ j, (j < l.length ∧ (listed.setIfInBounds i true).getD j true = true) ↔ (j = i ∨ (j < l.length ∧ listed.getD j true = true)) := fun j => by
      by_cases e : j = i
      · subst e; simp [hlt, hset j hlt]
      rw [getD_set_ne true (Ne.symm e)]; simp [e]
    rcases hall i hlt with hse | hpo'
    · -- a quiet operation
      have hie : i ∉ eff := fun h => by have := (hI.done i h).2; rw [hun] at this; cases this
      obtain ⟨v, hrun, hvv⟩ := hI.quiet i hse hie o ho
      have hopr : ∀ t, t ∈ atmps l o → env a t = V t := by
        -- the operands' writers are among what o hangs on
        intro t ht
        by_cases hx : ∃ (j : Nat) (p : Oper), l[j]? = some p ∧ p.dst = some t
        · obtain ⟨j, p, hj, hp2⟩ := hx
          have : ∀ (sn : List Nat), SeenOK l sn → i ∈ sn → j ∈ dps o := by
            intro sn
            induction sn with
            | nil => intro _ h; simp at h
            | cons x b ihb =>
              intro hs hjm
              rcases List.mem_cons.1 hjm with rfl | hjm'
              · obtain ⟨p', hp', _, hb⟩ := hs.1;rw [ho] at hp'; cases hp';exact hb t ht j p hj hp2
              exact ihb hs.2 hjm'
          exact hI.at_ j p t (hft j (hdp j (this seen hS hse))) hj hp2
        have hx' : ∀ (j : Nat) (p : Oper), l[j]? = some p → p.dst ≠ some t := fun j p hj hp => hx ⟨j, p, hj, hp⟩
        rw [hI.rest t (fun i o _ hi => hx' i o hi), hI.virt t (fun i o _ hi => hx' i o hi)]
      have hgo : wpAnyIn (WF r) 0 P .any l.toArray (toQ n Q) fuel (listed.setIfInBounds i true) (a.put o.dst v) w → wpOpIn (WF r) 0 P l.toArray (toQ n Q) i (wpAnyIn (WF r) 0 P .any l.toArray (toQ n Q) fuel (listed.setIfInBounds i true)) a w := fun hk => by
        refine wpOpIn_eff (E := V) (by simpa using ho) hpo hopr (fun v w' hx => ⟨hn, by rw [hd]; exact hXQ v w' hx _⟩) ?_
        rcases hrun w hI.here with ⟨hw, hr⟩ | ⟨hw, rfl⟩
        · exact .inl ⟨hw, .inl ⟨v, w, hr, hk⟩⟩
        exact .inr ⟨hw, hk⟩
      refine hgo ?_;refine ih post seen eff lay T V _ w _ hcnt' hsz' (by rw [put_size]; exact hn) (by rw [put_defers]; exact hd) hok hc hs ?_ hS hp (fun j hj hjl => ?_) hall hlay
      · rw [env_puto _ _ _ hokd]
        refine ⟨fun j hj => ?_, fun j hj => (hL' j).2 (.inr (hI.done j hj)), hI.quiet, fun j p d hj hp' hd' => ?_, fun t ht => ?_, hI.virt, hI.here, fun j p hj hp' k hk => ?_⟩
        · rcases (hL' j).1 hj with rfl | h
          · exact hse
          exact hI.sub j h
        · rcases (hL' j).1 hj with rfl | h
          · rw [ho] at hp'; cases hp'
            rw [updo_get d hd', ← hvv]; exact (updo_get d hd').symm
          have hji : i ≠ j := fun e => by subst e; rw [hun] at h; cases h.2
          rw [updo_ne d (fun e => dst_ne (l := l) hds ho hp' hji e hd')]
          exact hI.at_ j p d h hp' hd'
        · rw [updo_ne t (ht i o ((hL' i).2 (.inl rfl)) ho)]
          exact hI.rest t fun j p hj hp' => ht j p ((hL' j).2 (.inr hj)) hp'
        rcases (hL' j).1 hj with rfl | h
        · rw [ho] at hp'; cases hp'
          exact (hL' k).2 (.inr (hft k (hdp k hk)))
        exact (hL' k).2 (.inr (hI.down j p h hp' k hk))
      by_cases e : j = i
      · subst e
        rcases hp with h | ⟨c, f, rr, h, _⟩
        · subst h; simp at hj
        exact absurd hse (post_not_seen (l := l) post seen lay hc j hj)
      rw [getD_set_ne true (Ne.symm e)]; exact hN j hj hjl
    -- it is the next effect
    rcases hp with h | ⟨c, f, rr, rfl, hf⟩
    · subst h; simp at hpo'
    obtain ⟨o', he, hc', hfin⟩ := chain_elem hc
    have hic : i = c := by
      rcases List.mem_cons.1 (show i ∈ c :: rr.map (·.1) from hpo') with h | h
      · exact h
      exfalso
      have hff : Nat.beq f 0 = false := by
        cases hb : Nat.beq f 0 with
        | true => exact absurd (Nat.eq_of_beq_eq_true hb) hf
        | false => rfl
      rw [hff] at hc'
      obtain ⟨j, h1, h2⟩ := hangs_in (l := l) rr (c :: seen) [c] hc' i (by simpa using h) o ho
      have h3 := hft j (hdp j h1);have h4 : j = c ∨ j ∈ rr.map (·.1) := by simpa using h2
      rcases h4 with rfl | h4
      · have := hN j (by simp) h3.1; rw [h3.2] at this; cases this
      have := hN j (by simp at h4 ⊢; exact .inr h4) h3.1; rw [h3.2] at this; cases this
    subst hic
    rw [he.at_] at ho; cases ho
    have hopr : ∀ t, t ∈ atmps l o → env a t = V t := hI.operands E0 he.at_ he.writers (fun j hj => hft j (hdp j hj))
    have hsq := hs o he.at_;have hbase : ∀ (v : Value) (T' : World → Prop) (w' : World), (∀ x, T' x → T x) → T' w' →
        Inv P l E0 (i :: seen) (i :: eff) T' (updo V o.dst v) (env (a.put o.dst v)) (fun j => j < l.length ∧ (listed.setIfInBounds i true).getD j true = true) w' := by
      intro v T' w' hT hTw;rw [env_puto _ _ _ hokd];refine ⟨fun j hj => ?_, fun j hj => ?_, fun j hj hjn p hp' => ?_, fun j p d hj hp' hd' => ?_, fun t ht => ?_, fun t ht => ?_, hTw, fun j p hj hp' k hk => ?_⟩
      · rcases (hL' j).1 hj with rfl | h
        · simp
        simp [hI.sub j h]
      · rcases List.mem_cons.1 hj with rfl | h
        · exact (hL' j).2 (.inl rfl)
        exact (hL' j).2 (.inr (hI.done j h))
      · have hji : j ≠ i := fun e => hjn (by simp [e])
        have hjs : j ∈ seen := by simpa [hji] using hj
        obtain ⟨u, h1, h2⟩ := hI.quiet j hjs (fun h => hjn (by simp [h])) p hp'
        have hpp : plainOp p = true := List.all_eq_true.1 hpl p (List.mem_of_getElem? hp')
        have hnw : ∀ t, t ∈ atmps l p → o.dst ≠ some t := by
          intro t ht hd'
          have : ∀ (sn : List Nat), SeenOK l sn → j ∈ sn → i ∈ sn := by
            intro sn
            induction sn with
            | nil => intro _ h; simp at h
            | cons x b ihb =>
              intro hs hjm
              rcases List.mem_cons.1 hjm with rfl | hjm'
              · obtain ⟨p', hp'', hb0, hb⟩ := hs.1;rw [hp'] at hp''; cases hp'';exact List.mem_cons_of_mem _ (hb0 _ (hb t ht i o he.at_ hd'))
              exact List.mem_cons_of_mem _ (ihb hs.2 hjm')
          exact he.new (this seen hS hjs)
        refine ⟨u, fun x hx => ?_, ?_⟩
        · exact opR_congr hpp (E := V) (fun t ht => (updo_ne t (hnw t ht)).symm) (h1 x (hT x hx))
        refine updo_same fun k hk => ?_
        rw [updo_ne k (fun hd' => dst_ne (l := l) hds he.at_ hp' (Ne.symm hji) hd' hk)]
        rw [← h2]; exact updo_get k hk
      · rcases (hL' j).1 hj with rfl | h
        · rw [he.at_] at hp'; cases hp'
          rw [updo_get d hd', updo_get d hd']
        have hji : i ≠ j := fun e => by subst e; rw [hun] at h; cases h.2
        rw [updo_ne d (fun e => dst_ne (l := l) hds he.at_ hp' hji e hd'), updo_ne d (fun e => dst_ne (l := l) hds he.at_ hp' hji e hd')]
        exact hI.at_ j p d h hp' hd'
      · rw [updo_ne t (ht i o ((hL' i).2 (.inl rfl)) he.at_)]
        exact hI.rest t fun j p hj hp' => ht j p ((hL' j).2 (.inr hj)) hp'
      · rw [updo_ne t (ht i o (by simp) he.at_)]
        exact hI.virt t fun j p hj hp' => ht j p (by simp [hj]) hp'
      rcases (hL' j).1 hj with rfl | h
      · rw [he.at_] at hp'; cases hp'
        exact (hL' k).2 (.inr (hft k (hdp k hk)))
      exact (hL' k).2 (.inr (hI.down j p h hp' k hk))
    have hNr : ∀ j, j ∈ rr.map (·.1) → j < l.length → (listed.setIfInBounds i true).getD j true = false := fun j hj hjl => by
      have hji : j ≠ i := fun e => by
        subst e
        exact absurd (by simp : j ∈ j :: seen) (post_not_seen (l := l) rr (j :: seen) _ hc' j hj)
      rw [getD_set_ne true (Ne.symm hji)]; exact hN j (by simp at hj ⊢; exact .inr hj) hjl
    have go : ∀ (v : Value) (T' : World → Prop) (w' : World), (∀ x, T' x → T x) → T' w' → seqP P X l K rr T' (updo V o.dst v) w' →
        wpAnyIn (WF r) 0 P .any l.toArray (toQ n Q) fuel (listed.setIfInBounds i true) (a.put o.dst v) w' := by
      intro v T' w' hT hTw hsr
      obtain ⟨post', seen', lay', V', q1, q2, q3, q4, q5, q6, q7⟩ := advance E0 hpl hds rr (i :: seen) (i :: eff) _ T' _ _ _ w' hc' hsr (hbase v T' w' hT hTw) ⟨⟨o, he.at_, he.back, he.seenW⟩, hS⟩ (fun j hj => by
        have hjp := post_not_seen (l := l) rr (i :: seen) _ hc' j hj;refine ⟨fun hx => ?_, fun hx => ?_⟩
        · have := hNr j hj hx.1; rw [hx.2] at this; cases this
        rcases List.mem_cons.1 hx with rfl | hx'
        · exact hjp (by simp)
        have hx2 := hI.done j hx';have := hN j (by simp at hj ⊢; exact .inr hj) hx2.1
        rw [hx2.2] at this; cases this)
      refine ih post' seen' (i :: eff) none T' V' _ w' _ hcnt' hsz' (by rw [put_size]; exact hn) (by rw [put_defers]; exact hd) hok (chain_none (l := l) post' seen' lay' q1) q2 q3 q4 q5 (fun j hj hjl => ?_) (fun j hj => ?_) (fun s hs => by cases hs)
      · cases hv : (listed.setIfInBounds i true).getD j true with
        | false => rfl
        | true => exact absurd ⟨hjl, hv⟩ (q6 j hj).1
      refine q7 j ?_
      rcases hall j hj with h | h
      · exact .inl (by simp [h])
      simp only [List.map_cons, List.mem_cons] at h
      rcases h with rfl | h
      · exact .inl (by simp)
      exact .inr h
    refine wpOpIn_eff (E := V) (by simpa using he.at_) hpo hopr (fun v w' hx => ⟨hn, by rw [hd]; exact hXQ v w' hx _⟩) ?_
    rcases Nat.lt_or_ge f 2 with hf2 | hf2
    · have hf1 : f = 1 := by omega
      subst hf1
      rcases hsq with ⟨hw, hsq⟩ | ⟨hw, hsq⟩
      · refine .inl ⟨hw, effP_mono hsq ?_⟩;rintro v w' ⟨T', h1, h2, h3⟩;exact go v T' w' h1 h2 h3
      exact .inr ⟨hw, go undef T w (fun _ h => h) hI.here hsq⟩
    have hf2' : f = 2 ∨ 2 < f := by omega
    have hsq' : (wantE l o V = true ∧ effP P X o V w fun v w' => seqP P X l K rr T (updo V o.dst v) w') ∨ (wantE l o V = false ∧ seqP P X l K rr T (updo V o.dst undef) w) := by
      match f, hf2 with
      | f + 2, _ => exact hsq
    rcases hf2' with rfl | hgt
    · obtain ⟨rfl, hallp⟩ := hfin rfl;have fin : ∀ (v : Value) (w' : World), K T (updo V o.dst v) w' → wpAnyIn (WF r) 0 P .any l.toArray (toQ n Q) fuel (listed.setIfInBounds i true) (a.put o.dst v) w' := ?_
      · rcases hsq' with ⟨hw, hsq'⟩ | ⟨hw, hsq'⟩
        · exact .inl ⟨hw, effP_mono hsq' fin⟩
        exact .inr ⟨hw, fin undef w hsq'⟩
      intro v w' hk
      have hz : ∀ j, j < l.length → (listed.setIfInBounds i true).getD j true = true := fun j hj => by
        rcases hall j hj with h | h
        · exact ((hL' j).2 (.inr (clo_listed (l := l) hI.down seen _ (fun k hk => hft k (hdp k hk)) j (hallp j h)))).2
        have : j = i := by simpa using h
        subst this; exact hset j hj
      refine any_done hz ⟨by rw [put_size]; exact hn, ?_⟩
      have hGV : env (a.put o.dst v) = updo V o.dst v := by
        rw [env_puto _ _ _ hokd]
        funext t
        by_cases ht : o.dst = some t
        · rw [updo_get t ht, updo_get t ht]
        rw [updo_ne t ht, updo_ne t ht]
        by_cases hx : ∃ (j : Nat) (p : Oper), l[j]? = some p ∧ p.dst = some t
        · obtain ⟨j, p, hj, hp'⟩ := hx;have hlj : j < l.length := (List.getElem?_eq_some_iff.1 hj).1;have hji : j ≠ i := fun e => by subst e; rw [he.at_] at hj; cases hj; exact ht hp'
          exact hI.at_ j p t ((hL' j).1 ⟨hlj, hz j hlj⟩ |>.resolve_left hji) hj hp'
        have hx' : ∀ (i : Nat) (o : Oper), l[i]? = some o → o.dst ≠ some t := fun i o hi ho => hx ⟨i, o, hi, ho⟩
        rw [hI.rest t (fun i o _ hi => hx' i o hi), hI.virt t (fun i o _ hi => hx' i o hi)]
      rw [hGV, put_defers, hd]
      exact hK _ _ _ hk
    exact absurd (flag_le (l := l) rr i f seen lay hc) (by omega)
end main
theorem x_draw {id : Nat} {E : Env} {w : World} (seq : List (Nat × Nat)) (hm : P.follows .mixedOrders = true) (hc : drawOK l seq = true) (hok : l.all (okd n) = true) (hall : ((List.range l.length).all fun i => (seq.map (·.1)).contains i) = true) (T : World → Prop) (hT : T w.drew)
    (h : seqP P (fun v w' => ∀ E', Q (.panic [{ v := v, recovered := false }]) E' ds w') l (fun _ E w => Q .normal E ds w) seq T E w.drew) : wp P r n (.region id l.toArray true) Q E ds w := by
  intro a h1 h2 h3;simp only [drawOK, Bool.and_eq_true] at hc;obtain ⟨⟨⟨hpl, hds⟩, hch⟩, hlen⟩ := hc;refine wpIn_region_any hm ?_
  have hL0 : ∀ j, ¬ (j < l.length ∧ (Array.replicate l.length false).getD j true = true) := fun j hj => by
    have := hj.2; simp [Array.getD_eq_getD_getElem?, hj.1] at this
  obtain ⟨post', seen', lay', V', q1, q2, q3, q4, q5, q6, q7⟩ := advance (P := P) (l := l) (K := fun _ E w => Q .normal E ds w) E hpl hds seq [] [] none T E E (fun j => j < l.length ∧ (Array.replicate l.length false).getD j true = true) w.drew hch h
    ⟨fun j hj => absurd hj (hL0 j), fun j hj => by simp at hj, fun j hj => by simp at hj, fun j o d hj => absurd hj (hL0 j), fun _ _ => rfl, fun _ _ => rfl, hT, fun j o hj => absurd hj (hL0 j)⟩ trivial (fun j _ => ⟨hL0 j, by simp⟩)
  have hq3 : Inv P l E seen' [] T V' (env a) (fun j => j < l.length ∧ (Array.replicate l.length false).getD j true = true) w.drew := by rw [h2]; exact q3
  show wpAnyIn (WF r) 0 P .any l.toArray (toQ n Q) l.toArray.size (Array.replicate l.toArray.size false) a w.drew
  rw [List.size_toArray]
  refine any_of_seq (P := P) (l := l) (Q := Q) (ds := ds) (K := fun _ E w => Q .normal E ds w) E hpl hds (fun _ E w h => h) (fun _ _ h => h) l.length post' seen' [] none T V' (Array.replicate l.length false) w.drew a ?_ (by simp) h1 h3 hok (chain_none (l := l) post' seen' lay' q1) q2 hq3 q4 q5 (fun j hj hjl => ?_) (fun j hj => ?_) (fun s hs => by cases hs)
  · unfold cnt; exact Nat.le_trans (List.length_filter_le _ _) (by simp)
  · simp [Array.getD_eq_getD_getElem?, hjl]
  refine q7 j (.inr ?_);have := List.all_eq_true.1 hall j (List.mem_range.2 hj)
  simpa using this
section
variable {K : (World → Prop) → Env → World → Prop} {T : World → Prop} {E : Env} {w : World} {rest : List (Nat × Nat)} {i : Nat} {o : Oper} {v : Value}
theorem sq_nil (h : K T E w) : seqP P X l K [] T E w := h
theorem sq_q (ho : l[i]? = some o) (hr : ∀ W, T W → (execOp (ev E) o).run P W = .ok (.value v) W) (h : seqP P X l K rest T (updo E o.dst v) w) (hw : wantE l o E = true := by rfl) : seqP P X l K ((i, 0) :: rest) T E w := fun o' ho' => by
  rw [ho] at ho'; cases ho'; exact ⟨v, fun W hT => .inl ⟨hw, hr W hT⟩, h⟩
theorem sq_run1 {w' : World} (ho : l[i]? = some o) (hr : (execOp (ev E) o).run P w = .ok (.value v) w') (T' : World → Prop) (hT : ∀ x, T' x → T x) (hTw : T' w') (h : seqP P X l K rest T' (updo E o.dst v) w') (hw : wantE l o E = true := by rfl) : seqP P X l K ((i, 1) :: rest) T E w := fun o' ho' => by
  rw [ho] at ho'; cases ho'; exact .inl ⟨hw, .inl ⟨v, w', hr, T', hT, hTw, h⟩⟩
theorem sq_skip1 {w' : World} (ho : l[i]? = some o) (hr : (execOp (ev E) o).run P w = .ok .skip w') (T' : World → Prop) (hT : ∀ x, T' x → T x) (hTw : T' w') (h : seqP P X l K rest T' (updo E o.dst undef) w') (hw : wantE l o E = true := by rfl) : seqP P X l K ((i, 1) :: rest) T E w := fun o' ho' => by
  rw [ho] at ho'; cases ho'; exact .inl ⟨hw, .inr (.inl ⟨w', hr, T', hT, hTw, h⟩)⟩
theorem sq_skip2 {w' : World} (ho : l[i]? = some o) (hr : (execOp (ev E) o).run P w = .ok .skip w') (h : seqP P X l K rest T (updo E o.dst undef) w') (hw : wantE l o E = true := by rfl) : seqP P X l K ((i, 2) :: rest) T E w := fun o' ho' => by
  rw [ho] at ho'; cases ho'; exact .inl ⟨hw, .inr (.inl ⟨w', hr, h⟩)⟩
theorem sq_call1 {f : FuncId} {as : Array Value} {Φ : Value → World → Prop} (ho : l[i]? = some o) (hr : (execOp (ev E) o).run P w = .ok (.enter f as) w) (hc : CallR P f as w Φ) (h : ∀ v w', Φ v w' → ∃ T' : World → Prop, (∀ x, T' x → T x) ∧ T' w' ∧ seqP P X l K rest T' (updo E o.dst v) w') (hw : wantE l o E = true := by rfl) :
    seqP P X l K ((i, 1) :: rest) T E w := fun o' ho' => by
  rw [ho] at ho'; cases ho'; exact .inl ⟨hw, .inr (.inr (.inl ⟨f, as, w, Φ, hr, hc, h⟩))⟩
theorem sq_callP1 {f : FuncId} {as : Array Value} {Φ Ψ : Value → World → Prop} (ho : l[i]? = some o) (hr : (execOp (ev E) o).run P w = .ok (.enter f as) w) (hc : Calls P f as w (fun e w' => (∃ v, e = .returned v ∧ Φ v w') ∨ ∃ v, e = .panicked [{ v := v, recovered := false }] ∧ Ψ v w')) (hp : ∀ v w', Ψ v w' → X v w') (h : ∀ v w', Φ v w' → ∃ T' : World → Prop, (∀ x, T' x → T x) ∧ T' w' ∧ seqP P X l K rest T' (updo E o.dst v) w') (hw : wantE l o E = true := by rfl) :
    seqP P X l K ((i, 1) :: rest) T E w := fun o' ho' => by
  rw [ho] at ho'; cases ho'; exact .inl ⟨hw, .inr (.inr (.inr ⟨f, as, w, Φ, Ψ, hr, hc, hp, h⟩))⟩
theorem sq_no {f : Nat} (ho : l[i]? = some o) (hw : wantE l o E = false) (h : seqP P X l K rest T (updo E o.dst undef) w) : seqP P X l K ((i, f) :: rest) T E w := fun o' ho' => by
  rw [ho] at ho'; cases ho'
  match f with
  | 0 => exact ⟨undef, fun W _ => .inr ⟨hw, rfl⟩, h⟩
  | 1 => exact .inr ⟨hw, h⟩
  | _ + 2 => exact .inr ⟨hw, h⟩
theorem sq_split {seq : List (Nat × Nat)} {d : Nat} {t : Bool} (he : E d = .bool t) (h1 : t = true → seqP P X l K seq T (upd E d (.bool true)) w) (h0 : t = false → seqP P X l K seq T (upd E d (.bool false)) w) : seqP P X l K seq T E w := by
  have e : upd E d (.bool t) = E := by
    funext i
    by_cases hi : i = d
    · subst hi; rw [upd_same]; exact he.symm
    exact upd_other _ _ _ _ hi
  rw [← e]
  cases t with
  | true => exact h1 rfl
  | false => exact h0 rfl
end
end Go.Proofs.YtghjmiggobpmoaaGreatDoor.K
namespace Go.Proofs.YtghjmiggobpmoaaGreatDoor.K
open Go Go.RowKit
variable {P : Program} {r : Option Nat} {n : Nat} {O : Array Oper} {Q : Post} {E : Env} {ds : List Deferred} {w : World} {l : List Oper}
def Kept (K : Nat → Prop) (A B : World) : Prop := A.heap.size ≤ B.heap.size ∧ ∀ k, K k → k < A.heap.size → B.heap[k]? = A.heap[k]?
theorem Chg.putObj (w : World) (k : Nat) (o : Obj) : Chg [k] w (w.putObj k o) := ⟨rfl, rfl, rfl, by simp, fun j _ hj => World.putObj_heap_other (by simpa using hj)⟩
def RoundR (P : Program) (lp : Nat) (vs : List Value) (A : World) (Ψ : Bool → World → Prop) : Prop :=
  ∃ fn tmps assign body, (Instr.yield lp ⟨vs⟩).run P A = .ok (.round lp fn tmps assign body) A ∧ RoundIn Fence.wide 0 P lp fn tmps assign body A fun e B => ∃ b, e = .returned (.bool b) ∧ Ψ b B
theorem okd_lt {o : Oper} {k : Nat} (h : okd n o = true) (hk : o.dst = some k) : k < n := by simp only [okd, hk] at h; simpa [Nat.blt_eq] using h
section
variable {dst : Option Nat} {ty : TypeId} {pos : String} {af : Array Edge} {g : Option (Nat × Bool)}
theorem roundIn_WF {lp : Nat} {f : FuncId} {tmps : Array Value} {assign body : Code} {R : Ending → World → Prop} (h : RoundIn Fence.wide 0 P lp f tmps assign body w R) : RoundIn (WF r) 0 P lp f tmps assign body w R := by
  cases r with
  | none => exact h
  | some k => exact h
theorem st_yield {c : Call} {lp : Nat} {vs : List Value} {x : Operand} {Ψ : Bool → World → Prop} {aa bb : Array Value} (hcal : c.callee = .value x) (hf : ev E x = .func (.yield lp) aa bb) (haa : aa = #[]) (has : c.args.toList.map (ev E) = vs) (hR : RoundR P lp vs w Ψ)
    (h : ∀ b w', Ψ b w' → wops P r n O Q l (updo E dst (.bool b)) ds w') : wop P r n O Q ⟨dst, .call c, ty, pos, af, g⟩ l E ds w := by
  obtain ⟨fn, tmps, assign, body, h1, h2⟩ := hR;intro hok hl a ha1 ha2 ha3;refine ⟨fun _ _ => trivial, ?_⟩
  have hrun : (execOp (ev E) ⟨dst, .call c, ty, pos, af, g⟩).run P w = .ok (.round lp fn tmps assign body) w := by
    subst haa
    replace has : c.args.map (ev E) = ⟨vs⟩ := Array.ext' (by simpa using has)
    simp only [execOp, resolve, hcal, hf, Deferred.ofValue, invoke, has, Sem.run_bind, Sem.run_pure, Result.andThen]
    simp only [Array.empty_append, List.append_toArray, List.nil_append, h1]
  rw [ev_env, ha2, Oper.semAt_eq _ _ _ (fun _ => by simp), hrun]
  refine ⟨fun hh => by simp [WF, Fence.wide] at hh, RoundIn.mono (roundIn_WF h2) ?_⟩
  rintro e w' ⟨b, rfl, hb⟩;refine h b w' hb hl _ (by rw [put_size]; exact ha1) ?_ (by rw [put_defers]; exact ha3)
  rw [env_puto _ _ _ (fun k hk' => by rw [ha1]; exact okd_lt hok hk'), ha2]
end
def roundP (K : Nat → Prop) (A : World) (I : World → Prop) (Ix : Code → World → Prop) : Post
  | .normal, _, _, B => Kept K A B ∧ I B
  | .ret, _, _, B => Kept K A B ∧ Ix .ret B
  | .exit i, _, _, B => Kept K A B ∧ Ix (.exit i) B
  | .goto t, _, _, B => Kept K A B ∧ Ix (.goto t) B
  | .panic _, _, _, _ => False
  | .outgrown, _, _, _ => False
def zipV : List Nat → List Value → List (Nat × Value)
  | p :: ps, v :: vs => (p, v) :: zipV ps vs
  | _, _ => []
theorem env_zip : ∀ (ps : List Nat) (vs : List Value) (a : Act), (ps.all fun p => Nat.blt p a.tmps.size) = true → env { tmps := (ps.zip vs).foldl (fun t (p : Nat × Value) => t.setIfInBounds p.1 p.2) a.tmps, defers := [] } = upds (env a) (zipV ps vs)
  | [], vs, a, h => by cases vs <;> rfl
  | p :: ps, [], a, h => rfl
  | p :: ps, v :: vs, a, h => by
    simp only [List.all_cons, Bool.and_eq_true] at h
    have hp : p < a.tmps.size := by simpa [Nat.blt_eq] using h.1
    have := env_zip ps vs (a.put (some p) v) (by rw [put_size]; exact h.2)
    rw [env_put a p v hp] at this
    exact this
theorem zip_size : ∀ (ps : List Nat) (vs : List Value) (t : Array Value), ((ps.zip vs).foldl (fun t (p : Nat × Value) => t.setIfInBounds p.1 p.2) t).size = t.size
  | [], vs, t => by cases vs <;> rfl
  | p :: ps, [], t => rfl
  | p :: ps, v :: vs, t => by simp only [List.zip_cons_cons, List.foldl_cons]; rw [zip_size ps vs]; simp
def mk (D : Nat) : Deferred := { target := .collected D, args := #[] }
def DefD (D : Nat) (W : World) : Prop := W.heap[D]? = some (.deferred (some []))
def retM (P : Program) (fn : Func) (Φ : Value → World → Prop) (E : Env) : List Deferred → World → Prop
  | [], w => ∀ a : Act, env a = E → ∃ v, (results fn a.tmps).run P w = .ok v w ∧ Φ v w
  | d :: ds, w => ∃ D, d = mk D ∧ DefD D w ∧ retM P fn Φ E ds (w.putObj D (.deferred none))
def retPM (P : Program) (fn : Func) (Φ : Value → World → Prop) : Post
  | .normal, E, ds, w => retM P fn Φ E ds w
  | .ret, E, ds, w => retM P fn Φ E ds w
  | .exit _, _, _, _ => False
  | .goto _, _, _, _ => False
  | .panic _, _, _, _ => False
  | .outgrown, _, _, _ => False
theorem leaves_of_retM {fn : Func} {Φ : Value → World → Prop} {a : Act} : ∀ (ds : List Deferred) (w : World), retM P fn Φ (env a) ds w → LeavesInM Fence.wide 0 P fn a.tmps (fun e w' => ∃ v, e = .returned v ∧ Φ v w') ds .returning w
  | [], w, h => by
    obtain ⟨v, h1, h2⟩ := h a rfl;exact ⟨v, h1, v, rfl, h2⟩
  | d :: ds, w, h => by
    obtain ⟨D, rfl, h1, h2⟩ := h;exact ⟨by simp, .inl ⟨D, _, rfl, run_takeDeferred h1, leaves_of_retM ds _ h2⟩⟩
theorem callR_of_wpM {f : FuncId} {fn : Func} {c : Code} {args : List Value} {Φ : Value → World → Prop} (hf : P.funcs[f]? = some fn) (hb : fn.body = some c) (hn : args.length ≤ fn.ntmps)
    (h : wp P none fn.ntmps c (retPM P fn Φ) (argEnv args) [] w) : CallR P f args.toArray w Φ := by
  refine callsIn_wide.1 (callsIn_of_wp_marks (n := 0) hf hb trivial ?_);refine wpIn_mono (h _ ?_ ?_ rfl) ?_
  · simp; omega
  · funext i
    simp only [env, argEnv, Array.getD_eq_getD_getElem?, List.getD_eq_getElem?_getD, List.size_toArray]
    by_cases hi : i < args.length
    · rw [Array.getElem?_append_left (by simpa using hi)]; simp
    rw [Array.getElem?_append_right (by simpa using hi)]
    rw [List.getElem?_eq_none (by omega)]
    simp only [Array.getElem?_replicate, List.size_toArray]
    split <;> rfl
  rintro e a' w' ⟨q1, q2⟩
  cases e with
  | normal => exact leaves_of_retM _ _ q2
  | ret => exact leaves_of_retM _ _ q2
  | exit i => exact q2.elim
  | goto i => exact q2.elim
  | panic c => exact q2.elim
  | outgrown => exact q2.elim
theorem retM_none {fn : Func} {Φ : Value → World → Prop} (h : retP P fn Φ .ret E [] w) : retM P fn Φ E [] w := h.2
end Go.Proofs.YtghjmiggobpmoaaGreatDoor.K
namespace Go.Proofs.YtghjmiggobpmoaaGreatDoor.K
open Go Go.RowKit
variable {P : Program} {X : Value → World → Prop} {E : Env} {w : World} {l : List Oper} {K : (World → Prop) → Env → World → Prop} {T : World → Prop} {rest : List (Nat × Nat)} {i : Nat}
variable {dst : Option Nat} {ty : TypeId} {pos : String} {af : Array Edge} {g : Option (Nat × Bool)}
theorem sq_store2 {t T' : TypeId} {x y : Operand} {b off k : Nat} {v : Value} {vs cs cs' : List Value} (ho : l[i]? = some ⟨dst, .store t x y, ty, pos, af, g⟩) (ht : sizeB P t k = true) (hx : ev E x = .pointer (some ⟨b, off, none⟩)) (hy : ev E y = v) (hv : v.cells = ⟨vs⟩) (hb : Blk w b cs T') (hk : vs.length = k)
    (hl : off + vs.length ≤ cs.length) (h1 : ∀ u ∈ vs, u.oneCell' = true) (hcs : setVs cs off vs = cs') (h : ∀ w', Chg [b] w w' → Blk w' b cs' T' → seqP P X l K rest T (updo E dst undef) w') (hw : wantE l ⟨dst, .store t x y, ty, pos, af, g⟩ E = true := by rfl) : seqP P X l K ((i, 2) :: rest) T E w := by
  obtain ⟨w', h2, h3, h4⟩ := r_store (P := P) (dst := dst) (ty := ty) (pos := pos) (af := af) (g := g) ht hx hy hv hb hk hl h1 hcs;exact sq_skip2 ho h2 (h w' h3 h4) hw
theorem sq_store1 {t T' : TypeId} {x y : Operand} {b off k : Nat} {v : Value} {vs cs cs' : List Value} (ho : l[i]? = some ⟨dst, .store t x y, ty, pos, af, g⟩) (ht : sizeB P t k = true) (hx : ev E x = .pointer (some ⟨b, off, none⟩)) (hy : ev E y = v) (hv : v.cells = ⟨vs⟩) (hb : Blk w b cs T') (hk : vs.length = k)
    (hl : off + vs.length ≤ cs.length) (h1 : ∀ u ∈ vs, u.oneCell' = true) (hcs : setVs cs off vs = cs') (h : ∀ w', Chg [b] w w' → Blk w' b cs' T' → ∃ T2 : World → Prop, (∀ x, T2 x → T x) ∧ T2 w' ∧ seqP P X l K rest T2 (updo E dst undef) w') (hw : wantE l ⟨dst, .store t x y, ty, pos, af, g⟩ E = true := by rfl) : seqP P X l K ((i, 1) :: rest) T E w := by
  obtain ⟨w', h2, h3, h4⟩ := r_store (P := P) (dst := dst) (ty := ty) (pos := pos) (af := af) (g := g) ht hx hy hv hb hk hl h1 hcs;obtain ⟨T2, q1, q2, q3⟩ := h w' h3 h4;exact sq_skip1 ho h2 T2 q1 q2 q3 hw
theorem sq_lit1 {t e : TypeId} {m size : Nat} {ps : List (Nat × Operand)} {vs : List Value} (ho : l[i]? = some ⟨dst, .buildSlice t m ps.toArray, ty, pos, af, g⟩) (hb : litB P t e size) (hm : m * size ≤ 16777216) (hi : ps.map (·.1) = List.range' 0 m) (hs : ∀ p ∈ ps, (cellsOf (ev E p.2)).length = size)
    (hv : flatV (ps.map fun p => cellsOf (ev E p.2)) = vs) (h : ∀ b w', b = w.heap.size → Chg [] w w' → Blk w' b vs e → ∃ T' : World → Prop, (∀ x, T' x → T x) ∧ T' w' ∧ seqP P X l K rest T' (updo E dst (.slice (some ⟨b, 0, none⟩) m m)) w') (hw : wantE l ⟨dst, .buildSlice t m ps.toArray, ty, pos, af, g⟩ E = true := by rfl) :
    seqP P X l K ((i, 1) :: rest) T E w := by
  obtain ⟨T', q1, q2, q3⟩ := h w.heap.size _ rfl (Chg.alloc w _) (Blk.new w vs e);exact sq_run1 ho (r_lit hb hm hi hs hv) T' q1 q2 q3 hw
theorem sq_append1 {α : Type} {c : Enc α} {D D2 : Nat → Prop} {A : Option Addr} {cap b o m m2 k : Nat} {xs ys : List α} {t e : TypeId} {bytes : Nat} {x y : Operand} (ho' : l[i]? = some ⟨dst, .call ⟨.builtin .append, #[x, y], #[t, t]⟩, ty, pos, af, g⟩) (hS : sliceB P t e c.sz bytes)
    (hx : ev E x = .slice A m cap) (hm : m = xs.length) (ho : Own c e w D A cap xs) (hyv : ev E y = .slice (some ⟨b, o, none⟩) k m2) (hk : k = ys.length) (hy : ∀ (i : Nat) (y : α), ys[i]? = some y → ∃ vs, c.R w D2 y vs ∧ Cells w b (o + i * c.sz) vs)
    (hD2 : ∀ k, k < w.heap.size → D2 k → D k ∧ k ∉ ob A) (hfr : ∀ k, w.heap.size ≤ k → D k) (h63 : xs.length + ys.length ≤ 9223372036854775807) (hby : (xs.length + ys.length) * bytes ≤ 140737488355328)
    (h : ∀ A' cap' w', Own c e w' D A' cap' (xs ++ ys) → Chg (ob A) w w' → (∀ g, g ∈ ob A' → g ∈ ob A ∨ w.heap.size ≤ g) → ∃ T' : World → Prop, (∀ x, T' x → T x) ∧ T' w' ∧ seqP P X l K rest T' (updo E dst (.slice A' (xs.length + ys.length) cap')) w') (hw : wantE l ⟨dst, .call ⟨.builtin .append, #[x, y], #[t, t]⟩, ty, pos, af, g⟩ E = true := by rfl) :
    seqP P X l K ((i, 1) :: rest) T E w := by
  obtain ⟨A', cap', w', h1, h2, h3, h4⟩ := r_append (dst := dst) (ty := ty) (pos := pos) (af := af) (g := g) hS hx hm ho hyv hk hy hD2 hfr h63 hby;obtain ⟨T', q1, q2, q3⟩ := h A' cap' w' h2 h3 h4;exact sq_run1 ho' h1 T' q1 q2 q3 hw
theorem one_elem {α : Type} {c : Enc α} {D : Nat → Prop} {x : α} {vs : List Value} {b : Nat} (h : c.R w D x vs) (hc : Cells w b 0 vs) : ∀ (i : Nat) (y : α), [x][i]? = some y → ∃ vs, c.R w D y vs ∧ Cells w b (0 + i * c.sz) vs := fun i y hy => by
  cases i with
  | zero => simp at hy; subst hy; exact ⟨vs, h, by simpa using hc⟩
  | succ i => simp at hy
theorem CallR.of {f : FuncId} {as : Array Value} {R : Ending → World → Prop} {Φ : Value → World → Prop} (h : Calls P f as w R) (hm : ∀ e w', R e w' → ∃ v, e = .returned v ∧ Φ v w') : CallR P f as w Φ := h.mono hm
theorem Blk.of_eq {b : Nat} {cs : List Value} {T : TypeId} {w' : World} (h : Blk w b cs T) (e : w'.heap[b]? = w.heap[b]?) : Blk w' b cs T := Eq.trans e h
theorem Blk.kept {b : Nat} {cs : List Value} {T : TypeId} {w' : World} {K : Nat → Prop} (h : Blk w b cs T) (hk : Kept K w w') (hb : K b) : Blk w' b cs T := h.of_eq (hk.2 b hb h.lt)
theorem Chg.refl' {w' : World} (h : w' = w) : Chg [] w w' := by subst h; exact .refl _
theorem Own.ne_blk {α : Type} {c : Enc α} {e : TypeId} {D : Nat → Prop} {A : Option Addr} {cap : Nat} {xs : List α} {b : Nat} {cs : List Value} {T : TypeId} (h : Own c e w D A cap xs) (hb : Blk w b cs T) (hT : T ≠ e) : b ∉ ob A := by
  obtain ⟨cs', h1, h2, h3⟩ := h
  rcases h1.2 with ⟨h4, h5⟩ | ⟨g, cp, cur, h4, h5, h6, _⟩
  · simp only [Value.slice.injEq] at h4; obtain ⟨rfl, _, _⟩ := h4; simp [ob]
  simp only [Value.slice.injEq] at h4; obtain ⟨rfl, _, _⟩ := h4
  intro hx; simp [ob] at hx; subst hx;rw [show w.heap[b]? = _ from hb] at h6;simp only [Option.some.injEq, Obj.cells.injEq] at h6;exact hT h6.2.1
end Go.Proofs.YtghjmiggobpmoaaGreatDoor.K
