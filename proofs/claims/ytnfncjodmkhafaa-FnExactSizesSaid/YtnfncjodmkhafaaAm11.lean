/-
  The abstract machine, eleventh part: stripped code and what is asked along it.
-/
import Derived.Test.YtnfncjodmkhafaaAm10
set_option linter.all false
set_option linter.unusedSimpArgs false
set_option linter.unusedVariables false
namespace Go.AM

inductive AC where
  | skip
  | ops (l : List AI)
  | draw (t : DT)
  | seq (a b : AC)
  | cond (c : Operand) (a b : AC)
  | block (id : Nat) (a : AC)
  | loop (a : AC)
  | exit (id : Nat)
  | ret
  deriving Inhabited

def stripC (P : Program) (esc : List Tmp) : Code → Option AC
  | .skip => some .skip
  | .region _ ops draw => (ops.toList.mapM (stripI P ops esc)).bind fun l =>
    if draw then
      if P.follows .mixedOrders then (mkDT (masks ops.toList) ops l ops.size (Array.replicate ops.size false)).map fun t => match t.line with | some l => .ops l | none => .draw t
      else none
    else some (.ops l)
  | .seq a b => (stripC P esc a).bind fun x => (stripC P esc b).map fun y => .seq x y
  | .cond c a b => if okK c then (stripC P esc a).bind fun x => (stripC P esc b).map fun y => .cond c x y else none
  | .block id a => (stripC P esc a).map fun x => .block id x
  | .loop a => (stripC P esc a).map fun x => .loop x
  | .exit id => some (.exit id)
  | .ret => some .ret
  | _ => none

/-- What is asked along instructions. -/
def iA (P : Program) (K : List Value → Mem → Prop) : List AI → List Value → Mem → Prop
  | [], env, m => K env m
  | i :: rest, env, m => if wantedI env i then ∃ r, stepA P i.op env m = some r ∧ OpA P i.dst env (iA P K rest) r else iA P K rest (putA env i.dst undef) m

/-- A test, in a form that a walk can go on with. -/
def condA : Value → Prop → Prop → Prop
  | .bool t, A, B => if t = true then A else B
  | _, _, _ => False
theorem condA_some {v : Value} {A B : Prop} (h : condA v A B) : ∃ t, v = .bool t ∧ if t then A else B := by
  cases v with
  | bool t => exact ⟨t, rfl, h⟩
  | _ => exact h.elim
/-- A loop that ends. -/
def loopW (F : (Exit → List Value → Mem → Prop) → List Value → Mem → Prop) (Q : Exit → List Value → Mem → Prop) (env : List Value) (m : Mem) : Prop := ∃ n, roundsA F Q n env m

/-- What is asked along stripped code. -/
def wpS (P : Program) : AC → (Exit → List Value → Mem → Prop) → List Value → Mem → Prop
  | .skip, Q, env, m => Q .normal env m
  | .ops l, Q, env, m => iA P (Q .normal) l env m
  | .draw t, Q, env, m => ∃ M, wpDT P M t env m ∧ ∀ env' m', M env' m' → Q .normal env' m'
  | .seq a b, Q, env, m => wpS P a (thenA (wpS P b Q) Q) env m
  | .cond c a b, Q, env, m => condA (evA env c) (wpS P a Q env m) (wpS P b Q env m)
  | .block id a, Q, env, m => wpS P a (blockA id Q) env m
  | .loop a, Q, env, m => loopW (fun Q' => wpS P a Q') Q env m
  | .exit id, Q, env, m => Q (.exit id) env m
  | .ret, Q, env, m => Q .ret env m

theorem iA_sound {P : Program} {ops : Array Oper} {esc : List Tmp} {K : List Value → Mem → Prop} : ∀ (l : List Oper) (l' : List AI), l.mapM (stripI P ops esc) = some l' → ∀ env m, iA P K l' env m →
    opsA P ops (fun o env m => (stripOp P ((o.dst.map (esc.contains ·)).getD false) o).bind fun ao => stepA P ao env m) K l env m := by
  intro l
  induction l with
  | nil => intro l' h env m hi; simp at h; subst h; exact hi
  | cons o l ih =>
    intro l' h env m hi
    simp only [List.mapM_cons, Option.bind_eq_bind, Option.bind_eq_some_iff] at h
    obtain ⟨i, hi0, l2, hl2, he⟩ := h
    simp only [Option.pure_def, Option.some.injEq] at he
    subst he
    have key : wantedI env i = wantedA ops env o ∧ i.dst = o.dst ∧ stripOp P ((o.dst.map (esc.contains ·)).getD false) o = some i.op := by
      unfold stripI at hi0
      split at hi0
      · rename_i hg
        simp only [Option.map_eq_some_iff] at hi0
        obtain ⟨op, hop, rfl⟩ := hi0
        exact ⟨by simp [wantedI, wantedA, hg], rfl, hop⟩
      · rename_i j want hg
        simp only [Option.bind_eq_some_iff, Option.map_eq_some_iff] at hi0
        obtain ⟨t, ht, op, hop, rfl⟩ := hi0
        refine ⟨?_, rfl, hop⟩
        simp only [wantedI, wantedA, hg]
        have : ((ops[j]?).bind (·.dst)) = some t := by
          rw [Option.bind_eq_some_iff]; exact ht
        rw [this]; rfl
    obtain ⟨k1, k2, k3⟩ := key
    simp only [iA, k1, k2] at hi
    simp only [opsA]
    have hk : ∀ env m, iA P K l2 env m → opsA P ops (fun o env m => (stripOp P ((o.dst.map (esc.contains ·)).getD false) o).bind fun ao => stepA P ao env m) K l env m := fun env m h => ih l2 hl2 env m h
    split at hi
    · rename_i hw
      simp only [hw, if_true]
      obtain ⟨r, hr, ho⟩ := hi
      refine ⟨r, by rw [k3]; exact hr, ?_⟩
      cases r with
      | val v m' => exact hk _ _ ho
      | call f args m' => exact ACalls.mono ho fun v m'' h => hk _ _ h
    · rename_i hw
      simp only [hw, Bool.false_eq_true, if_false]
      exact hk _ _ hi

theorem wpS_mono {P : Program} : ∀ (c : AC) {Q Q' : Exit → List Value → Mem → Prop}, (∀ e env m, Q e env m → Q' e env m) → ∀ env m, wpS P c Q env m → wpS P c Q' env m := by
  intro c
  induction c with
  | skip => intro Q Q' h env m hw; exact h _ _ _ hw
  | exit id => intro Q Q' h env m hw; exact h _ _ _ hw
  | ret => intro Q Q' h env m hw; exact h _ _ _ hw
  | ops l =>
    intro Q Q' h env m hw
    simp only [wpS] at hw ⊢
    induction l generalizing env m with
    | nil => exact h _ _ _ hw
    | cons i l ih =>
      simp only [iA] at hw ⊢
      split at hw
      · rename_i hwi
        simp only [hwi, if_true]
        obtain ⟨r, hr, ho⟩ := hw
        refine ⟨r, hr, ?_⟩
        cases r with
        | val v m' => exact ih _ _ ho
        | call f args m' => exact ACalls.mono ho fun v m'' h => ih _ _ h
      · rename_i hwi
        simp only [hwi, Bool.false_eq_true, if_false]
        exact ih _ _ hw
  | draw t =>
    intro Q Q' h env m hw
    obtain ⟨M, h1, h2⟩ := hw
    exact ⟨M, h1, fun env' m' hm => h _ _ _ (h2 env' m' hm)⟩
  | seq a b iha ihb =>
    intro Q Q' h env m hw
    refine iha (fun e env m hh => ?_) env m hw
    cases e <;> first | exact ihb h _ _ hh | exact h _ _ _ hh
  | cond c a b iha ihb =>
    intro Q Q' h env m hw
    simp only [wpS] at hw ⊢
    obtain ⟨t, ht, hw⟩ := condA_some hw
    rw [ht]
    cases t
    · exact ihb h _ _ hw
    · exact iha h _ _ hw
  | block id a iha =>
    intro Q Q' h env m hw
    refine iha (fun e env m hh => ?_) env m hw
    cases e <;> first | exact h _ _ _ hh | skip
    simp only [blockA] at hh ⊢
    split at hh
    · rename_i he; rw [if_pos he]; exact h _ _ _ hh
    · rename_i he; rw [if_neg he]; exact h _ _ _ hh
  | loop a iha =>
    intro Q Q' h env m hw
    obtain ⟨n, hn⟩ := hw
    refine ⟨n, ?_⟩
    induction n generalizing env m with
    | zero => exact hn.elim
    | succ n ih =>
      refine iha (fun e env m hh => ?_) env m hn
      cases e <;> first | exact ih _ _ hh | exact h _ _ _ hh

theorem wpDT_mono {P : Program} {K K' : List Value → Mem → Prop} (h : ∀ env m, K env m → K' env m) : ∀ (t : DT) (env : List Value) (m : Mem), wpDT P K t env m → wpDT P K' t env m := by
  intro t
  induction t with
  | done => intro env m hw; exact h _ _ hw
  | step i t ih => intro env m hw; exact absOp_mono (fun env m h => ih env m h) hw
  | alt a b iha ihb => intro env m hw; exact ⟨iha _ _ hw.1, ihb _ _ hw.2⟩
theorem line_sound {P : Program} {K : List Value → Mem → Prop} : ∀ (t : DT) (l : List AI), t.line = some l → ∀ env m, iA P K l env m → wpDT P K t env m := by
  intro t
  induction t with
  | done => intro l h env m hw; cases h; exact hw
  | alt a b _ _ => intro l h; cases h
  | step i t ih =>
    intro l h env m hw
    simp only [DT.line, Option.map_eq_some_iff] at h
    obtain ⟨l', hl', rfl⟩ := h
    simp only [iA] at hw
    simp only [wpDT, absOp]
    split at hw
    · rename_i hwi
      rw [if_pos hwi]
      obtain ⟨r, hr, ho⟩ := hw
      refine ⟨r, hr, ?_⟩
      cases r with
      | val v m' => exact ih l' hl' _ _ ho
      | call f args m' => exact ACalls.mono ho fun _ _ hq => ih l' hl' _ _ hq
    · rename_i hwi
      rw [if_neg hwi]
      exact ih l' hl' _ _ hw

theorem wpS_sound {P : Program} {esc : List Tmp} : ∀ (c : Code) (c' : AC), stripC P esc c = some c' → ∀ {Q : Exit → List Value → Mem → Prop} {env : List Value} {m : Mem}, wpS P c' Q env m → AWp P c Q env m := by
  intro c
  induction c with
  | skip => intro c' h Q env m hw; cases h; exact awp_skip hw
  | exit id => intro c' h Q env m hw; cases h; exact awp_exit hw
  | ret => intro c' h Q env m hw; cases h; exact awp_ret hw
  | region id ops draw =>
    intro c' h Q env m hw
    simp only [stripC, Option.bind_eq_some_iff] at h
    obtain ⟨l, hl, h⟩ := h
    split at h
    · rename_i hd
      subst hd
      split at h
      · rename_i hmix
        simp only [Option.map_eq_some_iff] at h
        obtain ⟨t, ht, he⟩ := h
        cases hline : t.line with
        | some l' =>
          rw [hline] at he
          simp only at he
          subst he
          exact awp_draw hmix hl ht (line_sound t l' hline _ _ hw)
        | none =>
          rw [hline] at he
          simp only at he
          subst he
          obtain ⟨M, h1, h2⟩ := hw
          exact awp_draw hmix hl ht (wpDT_mono h2 t _ _ h1)
      · cases h
    · rename_i hd
      cases h
      have : draw = false := by simpa using hd
      subst this
      refine awp_region (R := fun o env m => (stripOp P ((o.dst.map (esc.contains ·)).getD false) o).bind fun ao => stepA P ao env m) (fun o _ env m r hr => ?_) (iA_sound ops.toList l hl env m hw)
      simp only [Option.bind_eq_some_iff] at hr
      obtain ⟨ao, h1, h2⟩ := hr
      exact strip_sound h1 h2
  | seq a b iha ihb =>
    intro c' h Q env m hw
    simp only [stripC, Option.bind_eq_some_iff, Option.map_eq_some_iff] at h
    obtain ⟨x, hx, y, hy, rfl⟩ := h
    refine awp_seq (iha x hx (wpS_mono x (fun e env m hh => ?_) env m hw))
    cases e <;> first | exact ihb y hy hh | exact hh
  | cond c a b iha ihb =>
    intro c' h Q env m hw
    simp only [stripC] at h
    split at h
    · rename_i hk
      simp only [Option.bind_eq_some_iff, Option.map_eq_some_iff] at h
      obtain ⟨x, hx, y, hy, rfl⟩ := h
      obtain ⟨t, ht, hw⟩ := condA_some hw
      refine awp_cond hk ht ?_
      cases t
      · exact ihb y hy hw
      · exact iha x hx hw
    · cases h
  | block id a iha =>
    intro c' h Q env m hw
    simp only [stripC, Option.map_eq_some_iff] at h
    obtain ⟨x, hx, rfl⟩ := h
    exact awp_block (iha x hx hw)
  | loop a iha =>
    intro c' h Q env m hw
    simp only [stripC, Option.map_eq_some_iff] at h
    obtain ⟨x, hx, rfl⟩ := h
    obtain ⟨n, hn⟩ := hw
    refine awp_loop (n := n) ?_
    induction n generalizing env m with
    | zero => exact hn.elim
    | succ n ih =>
      refine iha x hx (wpS_mono x (fun e env m hh => ?_) env m hn)
      cases e <;> first | exact ih hh | exact hh
  | rangeFunc f ps a b => intro c' h; cases h
  | scope a => intro c' h; cases h
  | label l => intro c' h; cases h
  | goto l => intro c' h; cases h
  | refuse w => intro c' h; cases h

/-- A stripped function. -/
structure AFn where
  ntmps : Nat
  res : List ResultVar
  body : AC
  deriving Inhabited

def stripF (P : Program) (esc : List Tmp) (fn : Func) : Option AFn :=
  match fn.body with
  | some c => if fn.results.toList.all (resKnown P) then (stripC P esc c).map fun b => { ntmps := fn.ntmps, res := fn.results.toList, body := b } else none
  | none => none

def tup1 : List Value → Value
  | [v] => v
  | vs => .tuple vs.toArray

/-- What a body owes. -/
def retS (P : Program) (res : List ResultVar) (n : Nat) (Q : Value → Mem → Prop) : Exit → List Value → Mem → Prop
  | .normal, env, m | .ret, env, m => ∃ vs, res.mapM (resOne P env m) = some vs ∧ okV n (tup1 vs) = true ∧ Q (tup1 vs) { m with stk := m.stk.take n }
  | _, _, _ => False

theorem acalls_of {P : Program} {f : FuncId} {fn : Func} {esc : List Tmp} {af : AFn} {args : List Value} {m : Mem} {Q : Value → Mem → Prop} (hf : P.funcs[f]? = some fn) (hs : stripF P esc fn = some af)
    (h : wpS P af.body (retS P af.res m.stk.length Q) (args ++ List.replicate (af.ntmps - args.length) undef) m) : ACalls P f args m Q := by
  unfold stripF at hs
  split at hs
  · rename_i c hc
    split at hs
    · rename_i hk
      simp only [Option.map_eq_some_iff] at hs
      obtain ⟨b, hb, rfl⟩ := hs
      refine acalls_of_awp hf hc hk (AWp.mono (wpS_sound c b hb h) fun e env m1 hh => ?_)
      have conv : (∃ vs, fn.results.toList.mapM (resOne P env m1) = some vs ∧ okV m.stk.length (tup1 vs) = true ∧ Q (tup1 vs) { m1 with stk := m1.stk.take m.stk.length }) →
          ∃ v, resA P fn env m1 = some v ∧ okV m.stk.length v = true ∧ Q v { m1 with stk := m1.stk.take m.stk.length } := by
        rintro ⟨vs, h1, h2, h3⟩
        refine ⟨tup1 vs, ?_, h2, h3⟩
        simp only [resA, h1, Option.map_some]
        rfl
      cases e <;> first | exact conv hh | exact hh.elim
    · cases hs
  · cases hs
end Go.AM
