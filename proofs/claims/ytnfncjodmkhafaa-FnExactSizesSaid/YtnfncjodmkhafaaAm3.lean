/-
  The abstract machine, third part: triples over the loaded code and their rules.
-/
import Derived.Test.YtnfncjodmkhafaaAm2
import Derived.Tactics
import Derived.LoopN
set_option linter.all false
set_option linter.unusedSimpArgs false
set_option linter.unusedVariables false
namespace Go.AM

/-- What holds where code ends: some abstract frame and memory, which the concrete ones back. -/
def Post (ρ : Rho) (m : Mem) (w : World) (Q : Exit → List Value → Mem → Prop) (e : Exit) (a' : Act) (w' : World) : Prop :=
  ∃ env' m' ρ', Q e env' m' ∧ ρ.le ρ' ∧ Rel ρ' m' w' ∧ LRel ρ' env' a'.tmps.toList ∧ a'.defers = [] ∧ Ext ρ m w ρ' m' w'

theorem Post.trans {ρ ρ' : Rho} {m m' : Mem} {w w' : World} {Q : Exit → List Value → Mem → Prop} {e : Exit} {a : Act} {w'' : World} (hle : ρ.le ρ') (hx : Ext ρ m w ρ' m' w')
    (h : Post ρ' m' w' Q e a w'') : Post ρ m w Q e a w'' := by
  obtain ⟨env, m1, ρ1, hq, hl, hr, hv, hd, he⟩ := h
  exact ⟨env, m1, ρ1, hq, hle.trans hl, hr, hv, hd, hx.trans he⟩
theorem Post.mono {ρ : Rho} {m : Mem} {w : World} {Q Q' : Exit → List Value → Mem → Prop} (hq : ∀ e env m, Q e env m → Q' e env m) {e : Exit} {a : Act} {w' : World}
    (h : Post ρ m w Q e a w') : Post ρ m w Q' e a w' := by
  obtain ⟨env, m1, ρ1, hq1, r⟩ := h
  exact ⟨env, m1, ρ1, hq _ _ _ hq1, r⟩

/-- A triple over code: from whatever frame and world that back the abstract ones. -/
def AWp (P : Program) (c : Code) (Q : Exit → List Value → Mem → Prop) (env : List Value) (m : Mem) : Prop :=
  ∀ (ρ : Rho) (w : World) (a : Act), Rel ρ m w → LRel ρ env a.tmps.toList → a.defers = [] → c.wp P (Post ρ m w Q) a w

/-- A triple over a call. -/
def ACalls (P : Program) (f : FuncId) (args : List Value) (m : Mem) (Q : Value → Mem → Prop) : Prop :=
  ∀ (ρ : Rho) (w : World) (cargs : Array Value), Rel ρ m w → LRel ρ args cargs.toList →
    Calls P f cargs w fun e w' => ∃ x v m' ρ', e = .returned x ∧ Q v m' ∧ ρ.le ρ' ∧ Rel ρ' m' w' ∧ VRel ρ' v x ∧ Ext ρ m w ρ' m' w'

theorem ACalls.mono {P : Program} {f : FuncId} {args : List Value} {m : Mem} {Q Q' : Value → Mem → Prop} (h : ACalls P f args m Q) (hq : ∀ v m', Q v m' → Q' v m') : ACalls P f args m Q' := by
  intro ρ w cargs hr ha
  refine (h ρ w cargs hr ha).mono fun e w' h => ?_
  obtain ⟨x, v, m', ρ', he, hq1, r⟩ := h
  exact ⟨x, v, m', ρ', he, hq _ _ hq1, r⟩

theorem AWp.mono {P : Program} {c : Code} {Q Q' : Exit → List Value → Mem → Prop} {env : List Value} {m : Mem} (h : AWp P c Q env m) (hq : ∀ e env m, Q e env m → Q' e env m) : AWp P c Q' env m :=
  fun ρ w a hr ha hd => wp_mono (h ρ w a hr ha hd) fun _ _ _ hp => hp.mono hq

def thenA (K : List Value → Mem → Prop) (Q : Exit → List Value → Mem → Prop) : Exit → List Value → Mem → Prop
  | .normal, env, m => K env m
  | e, env, m => Q e env m
def blockA (id : Nat) (Q : Exit → List Value → Mem → Prop) : Exit → List Value → Mem → Prop
  | .exit id', env, m => if id' = id then Q .normal env m else Q (.exit id') env m
  | e, env, m => Q e env m

section
variable {P : Program} {Q : Exit → List Value → Mem → Prop} {env : List Value} {m : Mem}

theorem post_here {ρ : Rho} {w : World} {a : Act} {e : Exit} (hr : Rel ρ m w) (ha : LRel ρ env a.tmps.toList) (hd : a.defers = []) (h : Q e env m) : Post ρ m w Q e a w :=
  ⟨env, m, ρ, h, .refl ρ, hr, ha, hd, .refl ρ m w⟩

theorem awp_skip (h : Q .normal env m) : AWp P .skip Q env m := fun _ _ _ hr ha hd => wp_skip (post_here hr ha hd h)
theorem awp_exit {id : Nat} (h : Q (.exit id) env m) : AWp P (.exit id) Q env m := fun _ _ _ hr ha hd => wp_exit (post_here hr ha hd h)
theorem awp_ret (h : Q .ret env m) : AWp P .ret Q env m := fun _ _ _ hr ha hd => wp_ret (post_here hr ha hd h)

theorem awp_seq {x y : Code} (h : AWp P x (thenA (AWp P y Q) Q) env m) : AWp P (.seq x y) Q env m := by
  intro ρ w a hr ha hd
  refine wp_seq (wp_mono (h ρ w a hr ha hd) fun e a' w' hp => ?_)
  obtain ⟨env', m', ρ', hq, hle, hr', ha', hd', hx⟩ := hp
  · cases e with
    | normal => exact wp_mono (hq ρ' w' a' hr' ha' hd') fun _ _ _ hp => hp.trans hle hx
    | exit id => exact ⟨env', m', ρ', hq, hle, hr', ha', hd', hx⟩
    | goto l => exact ⟨env', m', ρ', hq, hle, hr', ha', hd', hx⟩
    | ret => exact ⟨env', m', ρ', hq, hle, hr', ha', hd', hx⟩
    | panic ch => exact ⟨env', m', ρ', hq, hle, hr', ha', hd', hx⟩
    | outgrown => exact ⟨env', m', ρ', hq, hle, hr', ha', hd', hx⟩

theorem awp_block {id : Nat} {c : Code} (h : AWp P c (blockA id Q) env m) : AWp P (.block id c) Q env m := by
  intro ρ w a hr ha hd
  refine wp_block (wp_mono (h ρ w a hr ha hd) fun e a' w' hp => ?_)
  obtain ⟨env', m', ρ', hq, hle, hr', ha', hd', hx⟩ := hp
  · cases e with
    | exit id' =>
      simp only [Exit.inBlock]
      simp only [blockA] at hq
      split
      · rename_i h; rw [if_pos h] at hq; exact ⟨env', m', ρ', hq, hle, hr', ha', hd', hx⟩
      · rename_i h; rw [if_neg h] at hq; exact ⟨env', m', ρ', hq, hle, hr', ha', hd', hx⟩
    | normal => exact ⟨env', m', ρ', hq, hle, hr', ha', hd', hx⟩
    | goto l => exact ⟨env', m', ρ', hq, hle, hr', ha', hd', hx⟩
    | ret => exact ⟨env', m', ρ', hq, hle, hr', ha', hd', hx⟩
    | panic ch => exact ⟨env', m', ρ', hq, hle, hr', ha', hd', hx⟩
    | outgrown => exact ⟨env', m', ρ', hq, hle, hr', ha', hd', hx⟩

/-- Abstract operands. -/
def evA (env : List Value) : Operand → Value
  | .tmp t => env.getD t undef
  | .const v => v
  | .global _ => undef
  | .func f => .func (.func f) #[] #[]

/-- A constant that is the same in both machines. -/
def okK : Operand → Bool
  | .tmp _ => true
  | .const v => okA 0 v && (match v with | .agg cs => cs.toList.all plain | v => plain v)
  | .global _ => false
  | .func _ => true
where
  plain : Value → Bool
    | .bool _ | .int _ _ | .float _ _ | .string _ | .pointer none | .slice none 0 0 | .nilFunc | .nilIface => true
    | _ => false

theorem VRel.plain {ρ : Rho} {v : Value} (h : okK.plain v = true) : VRel ρ v v := by
  unfold okK.plain at h
  split at h <;> first | exact .bool _ | exact .int _ _ | exact .float _ _ _ (.inl rfl) | exact .string _ | exact .ptrNil | exact .sliceNil none | exact .nilFunc | exact .nilIface | (exact absurd h (by simp))

theorem LRel.plain {ρ : Rho} {l : List Value} (h : l.all okK.plain = true) : LRel ρ l l := by
  simp only [List.all_eq_true] at h
  exact .of_get rfl fun i x hx => ⟨x, hx, .plain (h x (List.mem_of_getElem? hx))⟩

theorem eval_rel {ρ : Rho} {a : Act} (ha : LRel ρ env a.tmps.toList) {x : Operand} (hx : okK x = true) : VRel ρ (evA env x) (a.eval x) := by
  cases x with
  | tmp t =>
    simp only [evA, Act.eval]
    have := ha.getD t (VRel.undef ρ)
    simpa [Array.getD_eq_getD_getElem?, List.getD] using this
  | const v =>
    simp only [evA, Act.eval]
    simp only [okK, Bool.and_eq_true] at hx
    split at hx
    · rename_i cs
      exact .agg cs cs rfl (LRel.plain hx.2).2
    · exact .plain hx.2
  | global g => simp [okK] at hx
  | func f => exact .func _ _ _ _ _ rfl (by simp) rfl (by simp)

theorem awp_cond {c : Operand} {x y : Code} {t : Bool} (hk : okK c = true) (hc : evA env c = .bool t) (h : AWp P (if t then x else y) Q env m) : AWp P (.cond c x y) Q env m := by
  intro ρ w a hr ha hd
  have hv := eval_rel ha hk
  rw [hc] at hv
  cases hb : a.eval c with
  | bool b =>
    rw [hb] at hv
    cases hv
    exact wp_cond hb (h ρ w a hr ha hd)
  | _ => rw [hb] at hv; cases hv

/-- A loop that ends within n rounds. -/
def roundsA (F : (Exit → List Value → Mem → Prop) → List Value → Mem → Prop) (Q : Exit → List Value → Mem → Prop) : Nat → List Value → Mem → Prop
  | 0, _, _ => False
  | n + 1, env, m => F (thenA (roundsA F Q n) Q) env m

theorem awp_loop {c : Code} {n : Nat} (h : roundsA (AWp P c) Q n env m) : AWp P (.loop c) Q env m := by
  intro ρ w a hr ha hd
  refine wp_loop_rounds n ?_
  have key : ∀ n env m, roundsA (AWp P c) Q n env m → ∀ ρ1 w1 a1, Rel ρ1 m w1 → LRel ρ1 env a1.tmps.toList → a1.defers = [] →
      ∀ ρ0 m0 w0, ρ0.le ρ1 → Ext ρ0 m0 w0 ρ1 m w1 → Code.rounds P c (Post ρ0 m0 w0 Q) n a1 w1 := by
    intro n
    induction n with
    | zero => intro env m h; exact h.elim
    | succ n ih =>
      intro env m h ρ1 w1 a1 hr ha hd ρ0 m0 w0 hle hx
      rw [rounds_succ]
      refine wp_mono (h ρ1 w1 a1 hr ha hd) fun e a' w' hp => ?_
      obtain ⟨env', m', ρ', hq, hle', hr', ha', hd', hx'⟩ := hp
      · cases e with
        | normal => exact ih env' m' hq ρ' w' a' hr' ha' hd' ρ0 m0 w0 (hle.trans hle') (hx.trans hx')
        | exit id => exact ⟨env', m', ρ', hq, hle.trans hle', hr', ha', hd', hx.trans hx'⟩
        | goto l => exact ⟨env', m', ρ', hq, hle.trans hle', hr', ha', hd', hx.trans hx'⟩
        | ret => exact ⟨env', m', ρ', hq, hle.trans hle', hr', ha', hd', hx.trans hx'⟩
        | panic ch => exact ⟨env', m', ρ', hq, hle.trans hle', hr', ha', hd', hx.trans hx'⟩
        | outgrown => exact ⟨env', m', ρ', hq, hle.trans hle', hr', ha', hd', hx.trans hx'⟩
  exact key n env m h ρ w a hr ha hd ρ m w (.refl ρ) (.refl ρ m w)

/-- What one operation comes to. -/
inductive AR where
  | val (v : Value) (m : Mem)
  | call (f : FuncId) (args : List Value) (m : Mem)

/-- The operation comes to this, whatever backs the abstract frame and memory. -/
def OpOk (P : Program) (o : Oper) (env : List Value) (m : Mem) : AR → Prop
  | .val v m' => ∀ (ρ : Rho) (w : World) (a : Act), Rel ρ m w → LRel ρ env a.tmps.toList →
      ∃ nx v' w' ρ', (execOp a.eval o).run P w = .ok nx w' ∧ (nx = .value v' ∨ nx = .skip ∧ v' = undef) ∧ ρ.le ρ' ∧ Rel ρ' m' w' ∧ VRel ρ' v v' ∧ Ext ρ m w ρ' m' w'
  | .call f args m' => ∀ (ρ : Rho) (w : World) (a : Act), Rel ρ m w → LRel ρ env a.tmps.toList →
      ∃ cargs w' ρ', (execOp a.eval o).run P w = .ok (.enter f cargs) w' ∧ ρ.le ρ' ∧ Rel ρ' m' w' ∧ LRel ρ' args cargs.toList ∧ Ext ρ m w ρ' m' w'

def putA (env : List Value) (dst : Option Tmp) (v : Value) : List Value :=
  match dst with
  | some d => env.set d v
  | none => env

theorem put_rel {ρ : Rho} {a : Act} (ha : LRel ρ env a.tmps.toList) {v v' : Value} (hv : VRel ρ v v') (dst : Option Tmp) : LRel ρ (putA env dst v) (a.put dst v').tmps.toList := by
  cases dst with
  | none => exact ha
  | some d =>
    simp only [putA, Act.put, Array.toList_setIfInBounds]
    exact ha.set d hv

/-- What is asked of the abstract frame behind one operation. -/
def OpA (P : Program) (dst : Option Tmp) (env : List Value) (K : List Value → Mem → Prop) : AR → Prop
  | .val v m' => K (putA env dst v) m'
  | .call f args m' => ACalls P f args m' fun v m'' => K (putA env dst v) m''

theorem op_sound {o : Oper} {r : AR} (h : OpOk P o env m r) {K : List Value → Mem → Prop} (hk : OpA P o.dst env K r) {ρ : Rho} {w : World} {a : Act} (hr : Rel ρ m w) (ha : LRel ρ env a.tmps.toList)
    (hd : a.defers = []) {ρ0 : Rho} {m0 : Mem} {w0 : World} (hle0 : ρ0.le ρ) (hx0 : Ext ρ0 m0 w0 ρ m w) {KC : Act → World → Prop}
    (hK : ∀ env' m' ρ' a' w', K env' m' → ρ0.le ρ' → Rel ρ' m' w' → LRel ρ' env' a'.tmps.toList → a'.defers = [] → Ext ρ0 m0 w0 ρ' m' w' → KC a' w') :
    o.wp P a w KC (Post ρ0 m0 w0 Q) := by
  cases r with
  | val v m' =>
    obtain ⟨nx, v', w', ρ', hrun, hnx, hle, hr', hv, hx⟩ := h ρ w a hr ha
    have hput : ∀ (a1 : Act), a1 = a.put o.dst v' → a1.defers = [] := by
      intro a1 e; subst e; cases o.dst <;> simpa [Act.put] using hd
    have := hK _ m' ρ' (a.put o.dst v') w' hk (hle0.trans hle) hr' (put_rel (ha.mono hle) hv o.dst) (hput _ rfl) (hx0.trans hx)
    rcases hnx with rfl | ⟨rfl, rfl⟩
    · simp only [Oper.wp, hrun, Oper.upon_value]; exact this
    · simp only [Oper.wp, hrun, Oper.upon_skip]; exact this
  | call f args m' =>
    obtain ⟨cargs, w', ρ', hrun, hle, hr', ha', hx⟩ := h ρ w a hr ha
    simp only [Oper.wp, hrun, Oper.upon_enter]
    refine (hk ρ' w' cargs hr' ha').mono fun e w'' hp => ?_
    obtain ⟨x, v, m'', ρ'', rfl, hq, hle2, hr2, hv2, hx2⟩ := hp
    · refine hK _ m'' ρ'' (a.put o.dst x) w'' hq (hle0.trans (hle.trans hle2)) hr2 (put_rel (ha.mono (hle.trans hle2)) hv2 o.dst) ?_ (hx0.trans (hx.trans hx2))
      cases o.dst <;> simpa [Act.put] using hd

/-- Is the operation wanted, seen from the abstract frame? -/
def wantedA (ops : Array Oper) (env : List Value) (o : Oper) : Bool :=
  match o.guard with
  | none => true
  | some (j, want) => match ((ops[j]?).bind (·.dst)).bind (env[·]?) with
    | some (.bool b) => b == want
    | _ => false

theorem wanted_rel {ops : Array Oper} {o : Oper} {ρ : Rho} {a : Act} (ha : LRel ρ env a.tmps.toList) : Region.wanted o (yielded ops a.tmps) = wantedA ops env o := by
  unfold Region.wanted wantedA
  cases o.guard with
  | none => rfl
  | some g =>
    obtain ⟨j, want⟩ := g
    simp only [yielded]
    cases hd : (ops[j]?).bind (·.dst) with
    | none => simp
    | some d =>
      simp only [Option.bind_some]
      rw [show a.tmps[d]? = a.tmps.toList[d]? from by simp]
      cases hx : env[d]? with
      | none =>
        have : a.tmps.toList[d]? = none := by rw [List.getElem?_eq_none_iff] at hx ⊢; rw [← ha.1]; exact hx
        simp [this]
      | some x =>
        obtain ⟨y, hy, hv⟩ := ha.get hx
        rw [hy]
        cases hv <;> simp

/-- What is asked of the abstract frame along a list of operations. -/
def opsA (P : Program) (ops : Array Oper) (R : Oper → List Value → Mem → Option AR) (K : List Value → Mem → Prop) : List Oper → List Value → Mem → Prop
  | [], env, m => K env m
  | o :: rest, env, m =>
    if wantedA ops env o then ∃ r, R o env m = some r ∧ OpA P o.dst env (opsA P ops R K rest) r
    else opsA P ops R K rest (putA env o.dst undef) m

theorem opsA_sound {ops : Array Oper} {R : Oper → List Value → Mem → Option AR} (hR : ∀ o ∈ ops.toList, ∀ env m r, R o env m = some r → OpOk P o env m r) :
    ∀ (l : List Oper), (∀ o ∈ l, o ∈ ops.toList) → ∀ (env : List Value) (m : Mem), opsA P ops R (Q .normal) l env m → ∀ (ρ : Rho) (w : World) (a : Act), Rel ρ m w → LRel ρ env a.tmps.toList → a.defers = [] →
      ∀ (ρ0 : Rho) (m0 : Mem) (w0 : World), ρ0.le ρ → Ext ρ0 m0 w0 ρ m w → wpList P ops (Post ρ0 m0 w0 Q) l a w := by
  intro l
  induction l with
  | nil => intro _ env m h ρ w a hr ha hd ρ0 m0 w0 hle hx; exact ⟨env, m, ρ, h, hle, hr, ha, hd, hx⟩
  | cons o rest ih =>
    intro hmem env m h ρ w a hr ha hd ρ0 m0 w0 hle hx
    simp only [opsA] at h
    simp only [wpList, wanted_rel (o := o) ha]
    split at h
    · rename_i hw
      obtain ⟨r, hrr, hop⟩ := h
      simp only [hw, if_true]
      refine .inl (op_sound (hR o (hmem o (List.mem_cons_self ..)) env m r hrr) hop hr ha hd hle hx ?_)
      intro env' m' ρ' a' w' hk hle' hr' ha' hd' hx'
      exact ih (fun o ho => hmem o (List.mem_cons_of_mem _ ho)) env' m' hk ρ' w' a' hr' ha' hd' ρ0 m0 w0 hle' hx'
    · rename_i hw
      simp only [hw, Bool.false_eq_true, if_false]
      have hd' : (a.put o.dst undef).defers = [] := by cases o.dst <;> simpa [Act.put] using hd
      exact ih (fun o ho => hmem o (List.mem_cons_of_mem _ ho)) _ m h ρ w _ hr (put_rel ha (VRel.undef ρ) o.dst) hd' ρ0 m0 w0 hle hx

theorem awp_region {id : Nat} {ops : Array Oper} {R : Oper → List Value → Mem → Option AR} (hR : ∀ o ∈ ops.toList, ∀ env m r, R o env m = some r → OpOk P o env m r)
    (h : opsA P ops R (Q .normal) ops.toList env m) : AWp P (.region id ops false) Q env m :=
  fun ρ w a hr ha hd => wp_region_list (opsA_sound hR ops.toList (fun _ h => h) env m h ρ w a hr ha hd ρ m w (.refl ρ) (.refl ρ m w))

/-- One result, out of the abstract frame. -/
def resOne (P : Program) (env : List Value) (m : Mem) : ResultVar → Option Value
  | .tmp t => some (env.getD t undef)
  | .cell a t => match env.getD a undef with
    | .pointer (some p) => if aggB P t then (m.loads p (sizeB P t)).map fun cs => .agg cs.toArray else m.load p
    | _ => none
where
  aggB (P : Program) (t : TypeId) : Bool := match P.underlying t with | some (.struct _) => true | some (.array _ _) => true | _ => false
  sizeB (P : Program) (t : TypeId) : Nat := ((P.info? t).map (·.size)).getD 0

def resA (P : Program) (fn : Func) (env : List Value) (m : Mem) : Option Value :=
  (fn.results.toList.mapM (resOne P env m)).map fun vs => match vs with | [v] => v | vs => .tuple vs.toArray

theorem run_isAgg {P : Program} {t : TypeId} (h : (P.underlying t).isSome = true) (w : World) : (isAgg t).run P w = .ok (resOne.aggB P t) w := by
  obtain ⟨d, hd⟩ := Option.isSome_iff_exists.1 h
  unfold isAgg resOne.aggB
  simp only [Sem.run_bind, run_underlying hd, Result.andThen_ok, hd]
  cases d <;> rfl
theorem run_sizeOf {P : Program} {t : TypeId} (h : (P.info? t).isSome = true) (w : World) : (sizeOf t).run P w = .ok (resOne.sizeB P t) w := by
  obtain ⟨d, hd⟩ := Option.isSome_iff_exists.1 h
  simp [sizeOf, typeInfo, hd, resOne.sizeB]

theorem run_loadVar {ρ : Rho} {w : World} (h : Rel ρ m w) {p : Addr} {L : Loc} (hL : ρ p.block p.spot = some L) {t : TypeId} (h1 : (P.underlying t).isSome = true) (h2 : (P.info? t).isSome = true) {v : Value}
    (hv : (if resOne.aggB P t then (m.loads p (resOne.sizeB P t)).map fun cs => .agg cs.toArray else m.load p) = some v) :
    ∃ y, (loadVar t ⟨L.blk, L.off + p.off, none⟩).run P w = .ok y w ∧ VRel ρ v y := by
  simp only [loadVar, Sem.run_bind, run_isAgg h1, Result.andThen_ok]
  split at hv
  · rename_i hb
    simp only [Option.map_eq_some_iff] at hv
    obtain ⟨xs, hxs, rfl⟩ := hv
    obtain ⟨ys, hl, hrun⟩ := run_loads (P := P) h hL hxs
    exact ⟨.agg ys.toArray, by simp [hb, run_sizeOf h2, hrun], .aggL hl⟩
  · rename_i hb
    obtain ⟨y, hy, hvv⟩ := h.load hL hv
    exact ⟨y, by simp [hb, hy], hvv⟩

/-- The results' types are known to the program. -/
def resKnown (P : Program) : ResultVar → Bool
  | .tmp _ => true
  | .cell _ t => (P.underlying t).isSome && (P.info? t).isSome

def resRun (a : Act) : ResultVar → Sem Value
  | .tmp t => pure (a.tmps.getD t undef)
  | .cell x t => do loadVar t (← asAddr (a.tmps.getD x undef))

theorem run_resOne {ρ : Rho} {w : World} {a : Act} (h : Rel ρ m w) (ha : LRel ρ env a.tmps.toList) {r : ResultVar} (hk : resKnown P r = true) {v : Value} (hv : resOne P env m r = some v) :
    ∃ y, (resRun a r).run P w = .ok y w ∧ VRel ρ v y := by
  have hg : ∀ t, VRel ρ (env.getD t undef) (a.tmps.getD t undef) := fun t => by
    have := ha.getD t (VRel.undef ρ)
    simpa [Array.getD_eq_getD_getElem?, List.getD] using this
  cases r with
  | tmp t => simp only [resOne, Option.some.injEq] at hv; subst hv; exact ⟨_, rfl, hg t⟩
  | cell x t =>
    simp only [resKnown, Bool.and_eq_true] at hk
    simp only [resOne] at hv
    have hgx := hg x
    split at hv
    · rename_i p hp
      rw [hp] at hgx
      generalize hq : a.tmps.getD x undef = q at hgx
      cases hgx with
      | ptr b off sp L hL =>
        obtain ⟨y, hy, hvv⟩ := run_loadVar (p := ⟨b, off, sp⟩) h hL hk.1 hk.2 hv
        refine ⟨y, ?_, hvv⟩
        simp only [resRun, Sem.run_bind, hq, asAddr, Sem.run_pure, Result.andThen_ok]
        exact hy
    · cases hv

theorem run_mapM_results {ρ : Rho} {w : World} {a : Act} (h : Rel ρ m w) (ha : LRel ρ env a.tmps.toList) :
    ∀ (rs : List ResultVar), rs.all (resKnown P) = true → ∀ vs, rs.mapM (resOne P env m) = some vs →
      ∃ ys, (rs.mapM (resRun a)).run P w = .ok ys w ∧ LRel ρ vs ys := by
  intro rs
  induction rs with
  | nil => intro _ vs hvs; simp at hvs; subst hvs; exact ⟨[], by simp, .nil ρ⟩
  | cons r rs ih =>
    intro hk vs hvs
    simp only [List.all_cons, Bool.and_eq_true] at hk
    simp only [List.mapM_cons, Option.bind_eq_bind, Option.bind_eq_some_iff] at hvs
    obtain ⟨v, hv, vs', hvs', he⟩ := hvs
    simp only [Option.pure_def, Option.some.injEq] at he
    subst he
    obtain ⟨y, hy, hvv⟩ := run_resOne h ha hk.1 hv
    obtain ⟨ys, hys, hvvs⟩ := ih hk.2 vs' hvs'
    refine ⟨y :: ys, ?_, .cons hvv hvvs⟩
    simp only [List.mapM_cons, Sem.run_bind]
    rw [hy]
    simp only [Result.andThen_ok]
    rw [hys]
    rfl

theorem run_results {ρ : Rho} {w : World} {a : Act} (h : Rel ρ m w) (ha : LRel ρ env a.tmps.toList) {fn : Func} (hk : fn.results.toList.all (resKnown P) = true) {v : Value} (hv : resA P fn env m = some v) :
    ∃ y, (results fn a.tmps).run P w = .ok y w ∧ VRel ρ v y := by
  simp only [resA, Option.map_eq_some_iff] at hv
  obtain ⟨vs, hvs, rfl⟩ := hv
  obtain ⟨ys, hys, hl⟩ := run_mapM_results h ha fn.results.toList hk vs hvs
  have hres : (results fn a.tmps).run P w = .ok (if h : ys.toArray.size = 1 then ys.toArray[0] else .tuple ys.toArray) w := by
    have he : results fn a.tmps = (do let vs ← fn.results.toList.toArray.mapM (resRun a); pure (if h : vs.size = 1 then vs[0] else .tuple vs)) := by
      unfold results
      rw [Array.toArray_toList]
      congr 1
    rw [he, List.mapM_toArray]
    simp only [Sem.run_bind, Sem.run_map, hys, Result.andThen_ok, Sem.run_pure]
  refine ⟨_, hres, ?_⟩
  clear hres hys hvs
  match vs, ys, hl with
  | [], [], _ => exact .tuple _ _ rfl (by simp)
  | [v], [y], hl => exact hl.2 0 v y rfl rfl
  | v :: v' :: vs, y :: y' :: ys, hl => simp; exact .tuple _ _ hl.1 hl.2
  | [], _ :: _, hl => exact absurd hl.1 (by simp)
  | [_], [], hl => exact absurd hl.1 (by simp)
  | [_], _ :: _ :: _, hl => exact absurd hl.1 (by simp)
  | _ :: _ :: _, [], hl => exact absurd hl.1 (by simp)
  | _ :: _ :: _, [_], hl => exact absurd hl.1 (by simp)

/-- What a body owes: it ends, with results that point to nothing of its own locals. -/
def retA (P : Program) (fn : Func) (n : Nat) (Q : Value → Mem → Prop) : Exit → List Value → Mem → Prop
  | .normal, env, m | .ret, env, m => ∃ v, resA P fn env m = some v ∧ okV n v = true ∧ Q v { m with stk := m.stk.take n }
  | _, _, _ => False

/-- Behind a call its locals are gone. -/
theorem Rel.pop {ρ : Rho} {w : World} (h : Rel ρ m w) (n : Nat) : Rel (ρ.cut n) { m with stk := m.stk.take n } w := by
  have hat : ∀ b sp L, ρ.cut n b sp = some L → (({ m with stk := m.stk.take n } : Mem).at b sp = m.at b sp) ∧ (sp = none → b < n) := by
    intro b sp L hL
    cases sp with
    | some v => exact ⟨rfl, fun e => by cases e⟩
    | none =>
      have hb : b < n := by
        rcases Nat.lt_or_ge b n with hb | hb
        · exact hb
        · simp [Rho.cut, hb] at hL
      exact ⟨by simp [Mem.at, hb], fun _ => hb⟩
  have hle := Rho.cut_le ρ n
  refine ⟨⟨h.wf.heap, fun s cells hs => ?_⟩, fun b sp cells rw L hc hL => ?_, fun b1 sp1 b2 sp2 c1 c2 r1 r2 L1 L2 ha1 ha2 hl1 hl2 hne hr => ?_, fun b sp L hL => ?_⟩
  · simp only [List.getElem?_take] at hs
    split at hs
    · exact h.wf.stk s cells hs
    · cases hs
  · obtain ⟨he, hb⟩ := hat b sp L hL
    rw [he] at hc
    obtain ⟨cs, e, fr, h1, h2, h3, h4, h5⟩ := h.back b sp cells rw L hc (hle _ _ _ hL)
    refine ⟨cs, e, fr, h1, h2, h3, h4, fun i x hx => ?_⟩
    obtain ⟨y, hy, hv⟩ := h5 i x hx
    refine ⟨y, hy, VRel.restrict (n := n) (fun b sp L hL hb => Rho.cut_some hL hb) hv ?_⟩
    have hmem := List.mem_of_getElem? hx
    cases sp with
    | none =>
      simp only [Mem.at, Option.map_eq_some_iff] at hc
      obtain ⟨c0, hc0, hcc⟩ := hc
      cases hcc
      exact (okC_low (h.wf.stk b _ hc0 x hmem)).1.mono (by have := hb rfl; omega)
    | some v =>
      simp only [Mem.at, Option.bind_eq_some_iff] at hc
      obtain ⟨blk, hb0, hcc⟩ := hc
      split at hcc
      · cases hcc; exact (okC_low (h.wf.heap b _ hb0 x hmem)).1.mono (Nat.zero_le _)
      · cases hcc
  · obtain ⟨e1, _⟩ := hat b1 sp1 L1 hl1
    obtain ⟨e2, _⟩ := hat b2 sp2 L2 hl2
    rw [e1] at ha1; rw [e2] at ha2
    exact h.apart _ _ _ _ _ _ _ _ L1 L2 ha1 ha2 (hle _ _ _ hl1) (hle _ _ _ hl2) hne hr
  · have hd := h.dom b sp L (hle _ _ _ hL)
    refine ⟨?_, hd.2⟩
    obtain ⟨_, hb⟩ := hat b sp L hL
    cases sp with
    | none => simp only [Mem.known, List.length_take] at hd ⊢; have := hb rfl; omega
    | some v => exact hd.1

theorem acalls_of_awp {f : FuncId} {fn : Func} {c : Code} {args : List Value} {R : Value → Mem → Prop} (hf : P.funcs[f]? = some fn) (hb : fn.body = some c) (hk : fn.results.toList.all (resKnown P) = true)
    (h : AWp P c (retA P fn m.stk.length R) (args ++ List.replicate (fn.ntmps - args.length) undef) m) : ACalls P f args m R := by
  intro ρ w cargs hr ha
  refine calls_of_wp hf hb (wp_mono (h ρ w _ hr ?_ rfl) fun e a' w' hp => ?_)
  · simp only [Array.toList_append, Array.toList_replicate]
    rw [show cargs.size = args.length from by rw [ha.1]; simp]
    exact ha.append (.of_get rfl fun i x hx => ⟨x, hx, by have := List.mem_of_getElem? hx; simp at this; rw [this.2]; exact .undef ρ⟩)
  · have done : (e = .normal ∨ e = .ret) → ∀ env' m' ρ', retA P fn m.stk.length R e env' m' → ρ.le ρ' → Rel ρ' m' w' → LRel ρ' env' a'.tmps.toList → a'.defers = [] → Ext ρ m w ρ' m' w' →
        a'.defers = [] ∧ ∃ v, (results fn a'.tmps).run P w' = .ok v w' ∧ (∃ x v0 m' ρ', Ending.returned v = .returned x ∧ R v0 m' ∧ ρ.le ρ' ∧ Rel ρ' m' w' ∧ VRel ρ' v0 x ∧ Ext ρ m w ρ' m' w') := by
      intro he env' m' ρ' hq hle hr' ha' hd' hx'
      have hq' : ∃ v, resA P fn env' m' = some v ∧ okV m.stk.length v = true ∧ R v { m' with stk := m'.stk.take m.stk.length } := by rcases he with rfl | rfl <;> exact hq
      obtain ⟨v, hv, hok, hR⟩ := hq'
      obtain ⟨y, hy, hvy⟩ := run_results hr' ha' hk hv
      refine ⟨hd', y, hy, ⟨y, v, _, ρ'.cut m.stk.length, rfl, hR, ?_, hr'.pop _, ?_, ?_⟩⟩
      · intro b sp L hL
        refine Rho.cut_some (hle _ _ _ hL) fun e => ?_
        subst e
        exact (hr.dom b none L hL).1
      · exact VRel.restrict (fun b sp L hL hb => Rho.cut_some hL hb) hvy (okV_low hok)
      · refine ⟨hx'.size, hx'.os, hx'.output, hx'.tape, hx'.old, fun B hB ho => hx'.own B hB ?_⟩
        obtain ⟨b, sp, c0, L, hc, hL, hB'⟩ := ho
        refine ⟨b, sp, c0, L, ?_, Rho.cut_le _ _ _ _ _ hL, hB'⟩
        cases sp with
        | some v => exact hc
        | none =>
          simp only [Mem.at, List.getElem?_take] at hc ⊢
          split at hc
          · exact hc
          · simp at hc
    obtain ⟨env', m', ρ', hq, hle, hr', ha', hd', hx'⟩ := hp
    · cases e with
      | normal => exact done (.inl rfl) env' m' ρ' hq hle hr' ha' hd' hx'
      | ret => exact done (.inr rfl) env' m' ρ' hq hle hr' ha' hd' hx'
      | exit id => exact hq.elim
      | goto l => exact hq.elim
      | panic ch => exact hq.elim
      | outgrown => exact hq.elim
end
end Go.AM
