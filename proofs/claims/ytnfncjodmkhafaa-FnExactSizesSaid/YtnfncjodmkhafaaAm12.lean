/-
  The abstract machine, twelfth part: an evaluator with fuel, for what can be reckoned outright.
-/
import Derived.Test.YtnfncjodmkhafaaAm11
set_option linter.all false
set_option linter.unusedSimpArgs false
set_option linter.unusedVariables false
namespace Go.AM

/-- Are two values the same? (Down to a depth.) -/
def eqV : Nat → Value → Value → Bool
  | 0, _, _ => false
  | d + 1, x, y => match x, y with
    | .bool a, .bool b => a == b
    | .int k n, .int k' n' => k == k' && n == n'
    | .float k n, .float k' n' => k == k' && n == n'
    | .string s, .string t => s.data.toList == t.data.toList
    | .pointer a, .pointer b => a == b
    | .slice a n c, .slice b n' c' => a == b && n == n' && c == c'
    | .nilFunc, .nilFunc => true
    | .nilIface, .nilIface => true
    | .agg xs, .agg ys => eqL d xs.toList ys.toList
    | .tuple xs, .tuple ys => eqL d xs.toList ys.toList
    | .func (.func f) a c, .func (.func g) a' c' => f == g && eqL d a.toList a'.toList && eqL d c.toList c'.toList
    | _, _ => false
where
  eqL (d : Nat) : List Value → List Value → Bool
    | [], [] => true
    | x :: xs, y :: ys => eqV d x y && eqL d xs ys
    | _, _ => false

theorem eqV_sound : ∀ (d : Nat) (x y : Value), eqV d x y = true → x = y := by
  intro d
  induction d with
  | zero => intro x y h; simp [eqV] at h
  | succ d ih =>
    have hL : ∀ xs ys : List Value, eqV.eqL d xs ys = true → xs = ys := by
      intro xs
      induction xs with
      | nil => intro ys h; cases ys with
        | nil => rfl
        | cons y ys => simp [eqV.eqL] at h
      | cons x xs ihx =>
        intro ys h
        cases ys with
        | nil => simp [eqV.eqL] at h
        | cons y ys =>
          simp only [eqV.eqL, Bool.and_eq_true] at h
          rw [ih x y h.1, ihx ys h.2]
    intro x y h
    unfold eqV at h
    split at h
    · simp at h; rw [h]
    · simp at h; rw [h.1, h.2]
    · simp at h; rw [h.1, h.2]
    · rename_i s t
      have := beq_iff_eq.1 h
      obtain ⟨a⟩ := s; obtain ⟨b⟩ := t
      simp only at this
      rw [Array.toList_inj.1 this]
    · have := beq_iff_eq.1 h; rw [this]
    · simp only [Bool.and_eq_true, beq_iff_eq] at h; rw [h.1.1, h.1.2, h.2]
    · rfl
    · rfl
    · rw [Array.toList_inj.1 (hL _ _ h)]
    · rw [Array.toList_inj.1 (hL _ _ h)]
    · simp only [Bool.and_eq_true, beq_iff_eq] at h
      rw [h.1.1, Array.toList_inj.1 (hL _ _ h.1.2), Array.toList_inj.1 (hL _ _ h.2)]
    · cases h

def eqVs (xs ys : List Value) : Bool := eqV.eqL 8 xs ys
theorem eqVs_sound : ∀ (xs ys : List Value), eqVs xs ys = true → xs = ys := by
  intro xs
  induction xs with
  | nil => intro ys h; cases ys with
    | nil => rfl
    | cons y ys => simp [eqVs, eqV.eqL] at h
  | cons x xs ih =>
    intro ys h
    cases ys with
    | nil => simp [eqVs, eqV.eqL] at h
    | cons y ys =>
      simp only [eqVs, eqV.eqL, Bool.and_eq_true] at h
      rw [eqV_sound 8 x y h.1, ih ys h.2]
/-- Two memories that are the same, seen from the blocks that stand from number n on. -/
def eqMem (m m' : Mem) : Bool :=
  eqH m.heap m'.heap && eqS m.stk m'.stk
where
  eqH : List Blk → List Blk → Bool
    | [], [] => true
    | a :: as, b :: bs => a.ver == b.ver && a.rw == b.rw && eqVs a.cells b.cells && eqH as bs
    | _, _ => false
  eqS : List (List Value) → List (List Value) → Bool
    | [], [] => true
    | a :: as, b :: bs => eqVs a b && eqS as bs
    | _, _ => false
theorem eqMem_sound {m m' : Mem} (h : eqMem m m' = true) : m = m' := by
  have hH : ∀ a b : List Blk, eqMem.eqH a b = true → a = b := by
    intro a
    induction a with
    | nil => intro b h; cases b with
      | nil => rfl
      | cons y ys => simp [eqMem.eqH] at h
    | cons x xs ih =>
      intro b h
      cases b with
      | nil => simp [eqMem.eqH] at h
      | cons y ys =>
        simp only [eqMem.eqH, Bool.and_eq_true, beq_iff_eq] at h
        obtain ⟨⟨⟨h1, h2⟩, h3⟩, h4⟩ := h
        obtain ⟨c, v, r⟩ := x
        obtain ⟨c', v', r'⟩ := y
        simp only at h1 h2 h3
        rw [ih ys h4, h1, h2, eqVs_sound _ _ h3]
  have hS : ∀ a b : List (List Value), eqMem.eqS a b = true → a = b := by
    intro a
    induction a with
    | nil => intro b h; cases b with
      | nil => rfl
      | cons y ys => simp [eqMem.eqS] at h
    | cons x xs ih =>
      intro b h
      cases b with
      | nil => simp [eqMem.eqS] at h
      | cons y ys =>
        simp only [eqMem.eqS, Bool.and_eq_true] at h
        rw [ih ys h.2, eqVs_sound _ _ h.1]
  simp only [eqMem, Bool.and_eq_true] at h
  obtain ⟨a, b⟩ := m
  obtain ⟨c, d⟩ := m'
  have h1 : a = c := hH _ _ h.1
  have h2 : b = d := hS _ _ h.2
  rw [h1, h2]

abbrev CallF := FuncId → List Value → Mem → Option (Value × Mem)

def evOne (P : Program) (call : CallF) (i : AI) (env : List Value) (m : Mem) : Option (List Value × Mem) :=
  if wantedI env i then
    match stepA P i.op env m with
    | some (.val v m') => some (putA env i.dst v, m')
    | some (.call f args m') => match call f args m' with
      | some (v, m'') => some (putA env i.dst v, m'')
      | none => none
    | none => none
  else some (putA env i.dst undef, m)

def evOps (P : Program) (call : CallF) : List AI → List Value → Mem → Option (List Value × Mem)
  | [], env, m => some (env, m)
  | i :: rest, env, m => match evOne P call i env m with
    | some (env', m') => evOps P call rest env' m'
    | none => none

def evDT (P : Program) (call : CallF) : DT → List Value → Mem → Option (List Value × Mem)
  | .done, env, m => some (env, m)
  | .step i t, env, m => match evOne P call i env m with
    | some (env', m') => evDT P call t env' m'
    | none => none
  | .alt a b, env, m => match evDT P call a env m, evDT P call b env m with
    | some (e1, m1), some (e2, m2) => if eqVs e1 e2 && eqMem m1 m2 then some (e1, m1) else none
    | _, _ => none

def evLoop (F : List Value → Mem → Option (Exit × List Value × Mem)) : Nat → List Value → Mem → Option (Exit × List Value × Mem)
  | 0, _, _ => none
  | n + 1, env, m => match F env m with
    | some (.normal, env', m') => evLoop F n env' m'
    | r => r

def evC (P : Program) (call : CallF) (rounds : Nat) : AC → List Value → Mem → Option (Exit × List Value × Mem)
  | .skip, env, m => some (.normal, env, m)
  | .ops l, env, m => (evOps P call l env m).map fun r => (.normal, r.1, r.2)
  | .draw t, env, m => (evDT P call t env m).map fun r => (.normal, r.1, r.2)
  | .seq a b, env, m => match evC P call rounds a env m with
    | some (.normal, env', m') => evC P call rounds b env' m'
    | r => r
  | .cond c a b, env, m => match evA env c with
    | .bool t => if t then evC P call rounds a env m else evC P call rounds b env m
    | _ => none
  | .block id a, env, m => match evC P call rounds a env m with
    | some (.exit id', env', m') => if id' = id then some (.normal, env', m') else some (.exit id', env', m')
    | r => r
  | .loop a, env, m => evLoop (fun env m => evC P call rounds a env m) rounds env m
  | .exit id, env, m => some (.exit id, env, m)
  | .ret, env, m => some (.ret, env, m)

/-- A call that is right. -/
def CallF.Ok (P : Program) (call : CallF) : Prop := ∀ f args m v m', call f args m = some (v, m') → ACalls P f args m fun v1 m1 => v1 = v ∧ m1 = m'

section
variable {P : Program} {call : CallF} (hc : call.Ok P)
include hc

theorem evOne_sound {i : AI} {env env' : List Value} {m m' : Mem} (h : evOne P call i env m = some (env', m')) {K : List Value → Mem → Prop} (hk : K env' m') : absOp P i K env m := by
  unfold evOne at h
  unfold absOp
  split at h
  · rename_i hw
    rw [if_pos hw]
    split at h
    · rename_i v m1 hs
      cases h
      exact ⟨_, hs, hk⟩
    · rename_i f args m1 hs
      split at h
      · rename_i v m2 hcall
        cases h
        exact ⟨_, hs, ACalls.mono (hc _ _ _ _ _ hcall) fun v1 m1 h => by obtain ⟨rfl, rfl⟩ := h; exact hk⟩
      · cases h
    · cases h
  · rename_i hw
    rw [if_neg hw]
    cases h
    exact hk

theorem evOps_sound : ∀ (l : List AI) (env env' : List Value) (m m' : Mem), evOps P call l env m = some (env', m') → ∀ (K : List Value → Mem → Prop), K env' m' → iA P K l env m := by
  intro l
  induction l with
  | nil => intro env env' m m' h K hk; simp only [evOps, Option.some.injEq, Prod.mk.injEq] at h; obtain ⟨rfl, rfl⟩ := h; exact hk
  | cons i l ih =>
    intro env env' m m' h K hk
    simp only [evOps] at h
    split at h
    · rename_i e1 m1 h1
      have := evOne_sound hc h1 (K := iA P K l) (ih _ _ _ _ h K hk)
      exact this
    · cases h

theorem evDT_sound : ∀ (t : DT) (env env' : List Value) (m m' : Mem), evDT P call t env m = some (env', m') → ∀ (K : List Value → Mem → Prop), K env' m' → wpDT P K t env m := by
  intro t
  induction t with
  | done => intro env env' m m' h K hk; simp only [evDT, Option.some.injEq, Prod.mk.injEq] at h; obtain ⟨rfl, rfl⟩ := h; exact hk
  | step i t ih =>
    intro env env' m m' h K hk
    simp only [evDT] at h
    split at h
    · rename_i e1 m1 h1
      exact evOne_sound hc h1 (ih _ _ _ _ h K hk)
    · cases h
  | alt a b iha ihb =>
    intro env env' m m' h K hk
    simp only [evDT] at h
    split at h
    · rename_i e1 m1 e2 m2 h1 h2
      split at h
      · rename_i he
        simp only [Bool.and_eq_true] at he
        have q1 := eqVs_sound _ _ he.1
        have q2 := eqMem_sound he.2
        subst q1; subst q2
        cases h
        exact ⟨iha _ _ _ _ h1 K hk, ihb _ _ _ _ h2 K hk⟩
      · cases h
    · cases h

theorem evC_sound {rounds : Nat} : ∀ (c : AC) (env env' : List Value) (m m' : Mem) (e : Exit), evC P call rounds c env m = some (e, env', m') → ∀ (Q : Exit → List Value → Mem → Prop), Q e env' m' → wpS P c Q env m := by
  intro c
  induction c with
  | skip => intro env env' m m' e h Q hq; simp only [evC, Option.some.injEq, Prod.mk.injEq] at h; obtain ⟨rfl, rfl, rfl⟩ := h; exact hq
  | exit id => intro env env' m m' e h Q hq; simp only [evC, Option.some.injEq, Prod.mk.injEq] at h; obtain ⟨rfl, rfl, rfl⟩ := h; exact hq
  | ret => intro env env' m m' e h Q hq; simp only [evC, Option.some.injEq, Prod.mk.injEq] at h; obtain ⟨rfl, rfl, rfl⟩ := h; exact hq
  | ops l =>
    intro env env' m m' e h Q hq
    simp only [evC, Option.map_eq_some_iff] at h
    obtain ⟨⟨e1, m1⟩, h1, he⟩ := h
    cases he
    exact evOps_sound hc l _ _ _ _ h1 (Q .normal) hq
  | draw t =>
    intro env env' m m' e h Q hq
    simp only [evC, Option.map_eq_some_iff] at h
    obtain ⟨⟨e1, m1⟩, h1, he⟩ := h
    cases he
    exact ⟨Q .normal, evDT_sound hc t _ _ _ _ h1 (Q .normal) hq, fun _ _ h => h⟩
  | seq a b iha ihb =>
    intro env env' m m' e h Q hq
    simp only [evC] at h
    split at h
    · rename_i e1 m1 h1
      exact iha _ _ _ _ _ h1 _ (ihb _ _ _ _ _ h Q hq)
    · rename_i hne
      refine iha _ _ _ _ _ h _ ?_
      cases e <;> first | exact hq | (exact absurd h (hne _ _))
  | cond c a b iha ihb =>
    intro env env' m m' e h Q hq
    simp only [evC] at h
    split at h
    · rename_i t ht
      simp only [wpS, ht]
      cases t
      · exact ihb _ _ _ _ _ h Q hq
      · exact iha _ _ _ _ _ h Q hq
    · cases h
  | block id a iha =>
    intro env env' m m' e h Q hq
    simp only [evC] at h
    split at h
    · rename_i id' e1 m1 h1
      split at h
      · rename_i hid
        cases h
        refine iha _ _ _ _ _ h1 _ ?_
        simp only [blockA]; rw [if_pos hid]; exact hq
      · rename_i hid
        cases h
        refine iha _ _ _ _ _ h1 _ ?_
        simp only [blockA]; rw [if_neg hid]; exact hq
    · rename_i hne
      refine iha _ _ _ _ _ h _ ?_
      cases e <;> first | exact hq | (exact absurd h (hne _ _ _))
  | loop a iha =>
    intro env env' m m' e h Q hq
    simp only [evC] at h
    have key : ∀ n env m, evLoop (fun env m => evC P call rounds a env m) n env m = some (e, env', m') → roundsA (fun Q' => wpS P a Q') Q n env m := by
      intro n
      induction n with
      | zero => intro env m h; cases h
      | succ n ih =>
        intro env m h
        simp only [evLoop] at h
        simp only [roundsA]
        split at h
        · rename_i e1 m1 h1
          exact iha _ _ _ _ _ h1 _ (ih _ _ h)
        · rename_i hne
          refine iha _ _ _ _ _ h _ ?_
          cases e <;> first | exact hq | (exact absurd h (hne _ _))
    exact ⟨rounds, key rounds env m h⟩
end

/-- Calls with fuel, by a table of stripped functions. -/
def evF (P : Program) (tbl : FuncId → Option AFn) (rounds : Nat) : Nat → CallF
  | 0, _, _, _ => none
  | n + 1, f, args, m => match tbl f with
    | some af => match evC P (evF P tbl rounds n) rounds af.body (args ++ List.replicate (af.ntmps - args.length) undef) m with
      | some (.normal, env, m') => fin P af m.stk.length env m'
      | some (.ret, env, m') => fin P af m.stk.length env m'
      | _ => none
    | none => none
where
  fin (P : Program) (af : AFn) (n : Nat) (env : List Value) (m : Mem) : Option (Value × Mem) :=
    match af.res.mapM (resOne P env m) with
    | some vs => if okV n (tup1 vs) then some (tup1 vs, { m with stk := m.stk.take n }) else none
    | none => none

/-- The table tells the program's own functions. -/
def TblOk (P : Program) (tbl : FuncId → Option AFn) : Prop := ∀ f af, tbl f = some af → ∃ fn esc, P.funcs[f]? = some fn ∧ stripF P esc fn = some af

theorem evF_sound {P : Program} {tbl : FuncId → Option AFn} (ht : TblOk P tbl) (rounds : Nat) : ∀ n, (evF P tbl rounds n).Ok P := by
  intro n
  induction n with
  | zero => intro f args m v m' h; cases h
  | succ n ih =>
    intro f args m v m' h
    simp only [evF] at h
    split at h
    · rename_i af haf
      obtain ⟨fn, esc, hfn, hst⟩ := ht f af haf
      refine acalls_of hfn hst ?_
      have fin : ∀ e env m1, (e = .normal ∨ e = .ret) → evF.fin P af m.stk.length env m1 = some (v, m') → retS P af.res m.stk.length (fun v1 m1 => v1 = v ∧ m1 = m') e env m1 := by
        intro e env m1 he hf
        unfold evF.fin at hf
        split at hf
        · rename_i vs hvs
          split at hf
          · rename_i hok
            cases hf
            rcases he with rfl | rfl <;> exact ⟨vs, hvs, hok, rfl, rfl⟩
          · cases hf
        · cases hf
      split at h
      · rename_i env m1 h1
        exact evC_sound ih _ _ _ _ _ _ h1 _ (fin _ _ _ (.inl rfl) h)
      · rename_i env m1 h1
        exact evC_sound ih _ _ _ _ _ _ h1 _ (fin _ _ _ (.inr rfl) h)
      · cases h
    · cases h

/-- A table out of a list. -/
def tblOf (l : List (FuncId × AFn)) (f : FuncId) : Option AFn :=
  match l with
  | [] => none
  | p :: l => if p.1 == f then some p.2 else tblOf l f
theorem tblOf_ok {P : Program} : ∀ {l : List (FuncId × AFn)}, (∀ p ∈ l, ∃ fn esc, P.funcs[p.1]? = some fn ∧ stripF P esc fn = some p.2) → TblOk P (tblOf l) := by
  intro l
  induction l with
  | nil => intro _ f af h; cases h
  | cons p l ih =>
    intro hall f af h
    simp only [tblOf] at h
    split at h
    · rename_i hp
      cases h
      have := beq_iff_eq.1 hp
      subst this
      exact hall p (List.mem_cons_self ..)
    · exact ih (fun q hq => hall q (List.mem_cons_of_mem _ hq)) f af h
end Go.AM
