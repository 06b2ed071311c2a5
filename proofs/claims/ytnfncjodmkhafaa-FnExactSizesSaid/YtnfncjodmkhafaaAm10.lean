/-
  The abstract machine, tenth part: regions whose order is open.
-/
import Derived.Test.YtnfncjodmkhafaaAm9
set_option linter.all false
set_option linter.unusedSimpArgs false
set_option linter.unusedVariables false
namespace Go.AM

def opTmp : Operand → List Tmp
  | .tmp t => [t]
  | _ => []
def optTmp : Option Operand → List Tmp
  | some x => opTmp x
  | none => []
/-- The frame slots that an operation reads. -/
def AOp.tmps : AOp → List Tmp
  | .mov x | .box _ x | .load x | .loadN x _ | .nilCheck x | .un _ x | .convI _ x | .convP _ _ x | .convBS x | .extract x _ | .fieldAddr x _ | .field x _ _ | .lenStr x | .lenSl x => opTmp x
  | .pick c a b => opTmp c ++ opTmp a ++ opTmp b
  | .new _ _ => []
  | .build _ ps | .mkSlice _ _ _ ps => ps.flatMap fun p => opTmp p.2.2
  | .store _ x v | .bin _ _ x v | .isNil _ _ x v | .idxSl x v _ | .idxStr x v | .make _ _ _ x v | .append _ _ x v | .appStr x v => opTmp x ++ opTmp v
  | .slStr x lo hi | .slSl x lo hi _ => opTmp x ++ optTmp lo ++ optTmp hi
  | .fn _ f c => f.flatMap opTmp ++ c.flatMap opTmp
  | .call f as => opTmp f ++ as.flatMap opTmp

/-- Operations that look at no memory. -/
def AOp.pureB : AOp → Bool
  | .mov _ | .pick _ _ _ | .build _ _ | .nilCheck _ | .bin _ _ _ _ | .isNil _ _ _ _ | .un _ _ | .convI _ _ | .convP _ _ _ | .extract _ _ | .fieldAddr _ _ | .field _ _ _ | .idxSl _ _ _ | .idxStr _ _
  | .slStr _ _ _ | .slSl _ _ _ _ | .fn _ _ _ | .lenStr _ | .lenSl _ => true
  | _ => false
/-- Operations that only read memory. -/
def AOp.readB : AOp → Bool
  | .load _ | .loadN _ _ | .convBS _ => true
  | _ => false

theorem evA_congr {env env' : List Value} {x : Operand} (h : ∀ t ∈ opTmp x, env.getD t undef = env'.getD t undef) : evA env x = evA env' x := by
  cases x with
  | tmp t => exact h t (by simp [opTmp])
  | _ => rfl
theorem boundA_congr {env env' : List Value} {x : Option Operand} {d : Nat} (h : ∀ t ∈ optTmp x, env.getD t undef = env'.getD t undef) : boundA env d x = boundA env' d x := by
  cases x with
  | none => rfl
  | some x => simp only [boundA]; rw [evA_congr h]
theorem map_congr {env env' : List Value} {xs : List Operand} (h : ∀ t ∈ xs.flatMap opTmp, env.getD t undef = env'.getD t undef) : xs.map (evA env) = xs.map (evA env') :=
  List.map_congr_left fun x hx => evA_congr fun t ht => h t (List.mem_flatMap.2 ⟨x, hx, ht⟩)
theorem parts_congr {env env' : List Value} {ps : List (Nat × Nat × Operand)} (h : ∀ t ∈ ps.flatMap (fun p => opTmp p.2.2), env.getD t undef = env'.getD t undef) : partsA env ps = partsA env' ps :=
  List.map_congr_left fun p hp => by rw [evA_congr fun t ht => h t (List.mem_flatMap.2 ⟨p, hp, ht⟩)]

theorem stepA_congr {P : Program} {ao : AOp} {env env' : List Value} (h : ∀ t ∈ ao.tmps, env.getD t undef = env'.getD t undef) (m : Mem) : stepA P ao env m = stepA P ao env' m := by
  cases ao <;> simp only [AOp.tmps, List.mem_append] at h <;> simp only [stepA]
  case pick c a b => rw [evA_congr fun t ht => h t (.inl (.inl ht)), evA_congr fun t ht => h t (.inl (.inr ht)), evA_congr (x := b) fun t ht => h t (.inr ht)]
  case build z ps => rw [parts_congr h]
  case mkSlice esz len z ps => rw [parts_congr h]
  case slStr x lo hi => rw [evA_congr fun t ht => h t (.inl (.inl ht)), boundA_congr fun t ht => h t (.inl (.inr ht))]; simp only [boundA_congr (x := hi) fun t ht => h t (.inr ht)]
  case slSl x lo hi e => rw [evA_congr fun t ht => h t (.inl (.inl ht)), boundA_congr fun t ht => h t (.inl (.inr ht))]; simp only [boundA_congr (x := hi) fun t ht => h t (.inr ht)]
  case fn f fs c => rw [map_congr fun t ht => h t (.inl ht), map_congr (xs := c) fun t ht => h t (.inr ht)]
  case call f as => rw [evA_congr fun t ht => h t (.inl ht), map_congr fun t ht => h t (.inr ht)]
  all_goals first
    | (rw [evA_congr h]; done)
    | (simp only [evA_congr h]; done)
    | (rw [evA_congr fun t ht => h t (.inl ht), evA_congr fun t ht => h t (.inr ht)]; done)
    | (simp only [evA_congr fun t ht => h t (.inl ht), evA_congr fun t ht => h t (.inr ht)]; done)

/-- A result with another memory. -/
def AR.at (m : Mem) : AR → AR
  | .val v _ => .val v m
  | r => r
theorem pure_mem {P : Program} {ao : AOp} (h : ao.pureB = true) (env : List Value) (m m' : Mem) : stepA P ao env m' = (stepA P ao env m).map (AR.at m') := by
  cases ao <;> simp only [AOp.pureB, Bool.false_eq_true] at h <;> simp only [stepA, Option.map_map] <;> (repeat' split) <;> first | rfl | (simp only [Option.map_map]; rfl) | (simp only [Option.map_none, Option.map_some]; done) | (congr 1; done) | skip
theorem pure_val {P : Program} {ao : AOp} (h : ao.pureB = true) {env : List Value} {m : Mem} {r : AR} (hs : stepA P ao env m = some r) : ∃ v, r = .val v m := by
  cases ao <;> simp only [AOp.pureB, Bool.false_eq_true] at h <;> simp only [stepA] at hs <;> (repeat' split at hs) <;> first
    | (cases hs; done)
    | (cases hs; exact ⟨_, rfl⟩)
    | (simp only [Option.map_eq_some_iff] at hs; obtain ⟨v, _, rfl⟩ := hs; exact ⟨_, rfl⟩)
theorem pure_step {P : Program} {ao : AOp} (h : ao.pureB = true) {env : List Value} {m : Mem} {r : AR} (hs : stepA P ao env m = some r) : ∃ v, r = .val v m ∧ ∀ m', stepA P ao env m' = some (.val v m') := by
  obtain ⟨v, rfl⟩ := pure_val h hs
  exact ⟨v, rfl, fun m' => by rw [pure_mem h env m m', hs]; rfl⟩
theorem read_step {P : Program} {ao : AOp} (h : ao.readB = true) {env : List Value} {m : Mem} {r : AR} (hs : stepA P ao env m = some r) : ∃ v, r = .val v m := by
  cases ao <;> simp only [AOp.readB, Bool.false_eq_true] at h <;> simp only [stepA] at hs <;> (repeat' split at hs) <;> first
    | (cases hs; done)
    | (simp only [Option.map_eq_some_iff] at hs; obtain ⟨v, _, rfl⟩ := hs; exact ⟨_, rfl⟩)

/-- The frame slots that an instruction looks at. -/
def AI.looks (i : AI) : List Tmp := i.op.tmps ++ (match i.guard with | some (t, _) => [t] | none => [])
def AI.apart (x y : AI) : Bool :=
  (match x.dst with
   | some d => !y.looks.contains d && y.dst != some d
   | none => true) &&
  (match y.dst with
   | some d => !x.looks.contains d
   | none => true)

theorem putA_get {env : List Value} {dst : Option Tmp} {v : Value} {t : Tmp} (h : dst ≠ some t) : (putA env dst v)[t]? = env[t]? := by
  cases dst with
  | none => rfl
  | some d =>
    simp only [putA]
    rw [List.getElem?_set_ne fun e => h (by rw [e])]
theorem putA_comm {env : List Value} {a b : Option Tmp} (h : a = none ∨ a ≠ b) (u v : Value) : putA (putA env a u) b v = putA (putA env b v) a u := by
  cases a with
  | none => rfl
  | some x =>
    cases b with
    | none => rfl
    | some y =>
      have : x ≠ y := fun e => by rcases h with h | h; cases h; exact h (by rw [e])
      simp only [putA]
      exact List.set_comm _ _ this

theorem apart_spec {x y : AI} (h : x.apart y = true) : (∀ t ∈ y.looks, x.dst ≠ some t) ∧ (x.dst = none ∨ x.dst ≠ y.dst) ∧ (∀ t ∈ x.looks, y.dst ≠ some t) := by
  unfold AI.apart at h
  simp only [Bool.and_eq_true] at h
  obtain ⟨h1, h2⟩ := h
  refine ⟨fun t ht e => ?_, ?_, fun t ht e => ?_⟩
  · rw [e] at h1
    simp only [Bool.and_eq_true, Bool.not_eq_true', List.contains_eq_mem, decide_eq_false_iff_not] at h1
    exact h1.1 ht
  · cases hd : x.dst with
    | none => exact .inl rfl
    | some d =>
      rw [hd] at h1
      simp only [Bool.and_eq_true, bne_iff_ne] at h1
      exact .inr (Ne.symm h1.2)
  · rw [e] at h2
    simp only [Bool.not_eq_true', List.contains_eq_mem, decide_eq_false_iff_not] at h2
    exact h2 ht

theorem looks_same {P : Program} {y : AI} {env : List Value} {dst : Option Tmp} (h : ∀ t ∈ y.looks, dst ≠ some t) (v : Value) (m : Mem) :
    wantedI (putA env dst v) y = wantedI env y ∧ stepA P y.op (putA env dst v) m = stepA P y.op env m := by
  constructor
  · unfold wantedI
    split
    · rfl
    · rename_i t want hg
      rw [putA_get (h t (by simp [AI.looks, hg]))]
  · exact stepA_congr (fun t ht => by
      have := putA_get (env := env) (v := v) (h t (List.mem_append.2 (.inl ht)))
      simp only [List.getD, this]) m

/-- One instruction, then K. -/
def absOp (P : Program) (i : AI) (K : List Value → Mem → Prop) (env : List Value) (m : Mem) : Prop :=
  if wantedI env i then ∃ r, stepA P i.op env m = some r ∧ OpA P i.dst env K r else K (putA env i.dst undef) m
theorem absOp_mono {P : Program} {i : AI} {K K' : List Value → Mem → Prop} (h : ∀ env m, K env m → K' env m) {env : List Value} {m : Mem} (hh : absOp P i K env m) : absOp P i K' env m := by
  unfold absOp at *
  split
  · rename_i hw
    rw [if_pos hw] at hh
    obtain ⟨r, hr, ho⟩ := hh
    refine ⟨r, hr, ?_⟩
    cases r with
    | val v m' => exact h _ _ ho
    | call f args m' => exact ACalls.mono ho fun _ _ hq => h _ _ hq
  · rename_i hw
    rw [if_neg hw] at hh
    exact h _ _ hh

/-- Every order. -/
def absAny (P : Program) (ops : Array Oper) (ais : List AI) (K : List Value → Mem → Prop) : Nat → Array Bool → List Value → Mem → Prop
  | 0, _, env, m => K env m
  | fuel + 1, listed, env, m => (Region.ready .any ops listed = [] → K env m) ∧
      ∀ i ∈ Region.ready .any ops listed, ∃ ai, ais[i]? = some ai ∧ absOp P ai (absAny P ops ais K fuel (listed.setIfInBounds i true)) env m

/-- May the two change places? -/
def goodPair (x y : AI) : Bool := x.apart y && (x.op.pureB || (x.op.readB && (y.op.pureB || y.op.readB)))

theorem swap_ops {P : Program} {x y : AI} (hg : goodPair x y = true) {K : List Value → Mem → Prop} {env : List Value} {m : Mem} (h : absOp P x (absOp P y K) env m) : absOp P y (absOp P x K) env m := by
  simp only [goodPair, Bool.and_eq_true, Bool.or_eq_true] at hg
  obtain ⟨hap, hcls⟩ := hg
  obtain ⟨a1, a2, a3⟩ := apart_spec hap
  -- what x puts, and that it puts the same behind y
  obtain ⟨u, hx, hstay⟩ : ∃ u, absOp P y K (putA env x.dst u) m ∧ ∀ (v : Value) (m' : Mem), (x.op.pureB = true ∨ m' = m) → (∀ K', K' (putA (putA env y.dst v) x.dst u) m' → absOp P x K' (putA env y.dst v) m') := by
    unfold absOp at h
    split at h
    · rename_i hw
      obtain ⟨r, hr, ho⟩ := h
      rcases hcls with hp | ⟨hrd, _⟩
      · obtain ⟨u, rfl, hall⟩ := pure_step hp hr
        refine ⟨u, ho, fun v m' _ K' hk => ?_⟩
        unfold absOp
        obtain ⟨l1, l2⟩ := looks_same (P := P) (y := x) (env := env) a3 v m'
        rw [if_pos (by rw [l1]; exact hw), l2]
        exact ⟨_, hall m', hk⟩
      · obtain ⟨u, rfl⟩ := read_step hrd hr
        refine ⟨u, ho, fun v m' hm K' hk => ?_⟩
        obtain ⟨l1, l2⟩ := looks_same (P := P) (y := x) (env := env) a3 v m'
        rcases hm with hp | rfl
        · obtain ⟨u', e, hall⟩ := pure_step hp hr
          cases e
          unfold absOp
          rw [if_pos (by rw [l1]; exact hw), l2]
          exact ⟨_, hall m', hk⟩
        · unfold absOp
          rw [if_pos (by rw [l1]; exact hw), l2]
          exact ⟨_, hr, hk⟩
    · rename_i hw
      refine ⟨undef, h, fun v m' _ K' hk => ?_⟩
      unfold absOp
      obtain ⟨l1, _⟩ := looks_same (P := P) (y := x) (env := env) a3 v m'
      rw [if_neg (by rw [l1]; exact hw)]
      exact hk
  unfold absOp at hx
  obtain ⟨l1, l2⟩ := looks_same (P := P) (y := y) (env := env) a1 u m
  rw [l1, l2] at hx
  unfold absOp
  split at hx
  · rename_i hw
    rw [if_pos hw]
    obtain ⟨r, hr, ho⟩ := hx
    refine ⟨r, hr, ?_⟩
    have hm : ∀ v m', r = .val v m' → x.op.pureB = true ∨ m' = m := by
      rintro v m' rfl
      rcases hcls with hp | ⟨_, hy | hy⟩
      · exact .inl hp
      · obtain ⟨v', e, _⟩ := pure_step hy hr; cases e; exact .inr rfl
      · obtain ⟨v', e⟩ := read_step hy hr; cases e; exact .inr rfl
    cases r with
    | val v m' => exact hstay v m' (hm v m' rfl) K (by rw [← putA_comm a2]; exact ho)
    | call f args m' =>
      have hp : x.op.pureB = true := by
        rcases hcls with hp | ⟨_, hy | hy⟩
        · exact hp
        · obtain ⟨v', e, _⟩ := pure_step hy hr; cases e
        · obtain ⟨v', e⟩ := read_step hy hr; cases e
      exact ACalls.mono ho fun v m'' hq => hstay v m'' (.inl hp) K (by rw [← putA_comm a2]; exact hq)
  · rename_i hw
    rw [if_neg hw]
    exact hstay undef m (.inr rfl) K (by rw [← putA_comm a2]; exact hx)

/-- The operations that one waits for, in some steps, as bits; 'prev' tells them of those ahead. -/
def maskOf (prev : List Nat) (es : List Edge) : Nat :=
  es.foldl (fun acc e => if Region.binds .any e then acc ||| (1 <<< e.on) ||| prev.getD e.on 0 else acc) 0
def masks (ops : List Oper) : List Nat := go ops []
where
  go : List Oper → List Nat → List Nat
    | [], acc => acc
    | o :: rest, acc => go rest (acc ++ [maskOf acc o.after.toList])

theorem maskOf_bit {prev : List Nat} {es : List Edge} {i : Nat} (h : (maskOf prev es).testBit i = true) : ∃ e ∈ es, Region.binds .any e = true ∧ (e.on = i ∨ (prev.getD e.on 0).testBit i = true) := by
  have key : ∀ (es : List Edge) (acc : Nat), (es.foldl (fun acc e => if Region.binds .any e then acc ||| (1 <<< e.on) ||| prev.getD e.on 0 else acc) acc).testBit i = true →
      acc.testBit i = true ∨ ∃ e ∈ es, Region.binds .any e = true ∧ (e.on = i ∨ (prev.getD e.on 0).testBit i = true) := by
    intro es
    induction es with
    | nil => intro acc h; exact .inl h
    | cons e es ih =>
      intro acc h
      simp only [List.foldl_cons] at h
      rcases ih _ h with h | ⟨e', he', hb⟩
      · split at h
        · rename_i hb
          simp only [Nat.testBit_or, Bool.or_eq_true] at h
          rcases h with (h | h) | h
          · exact .inl h
          · refine .inr ⟨e, List.mem_cons_self .., hb, .inl ?_⟩
            rw [Nat.one_shiftLeft, Nat.testBit_two_pow] at h
            simpa using h
          · exact .inr ⟨e, List.mem_cons_self .., hb, .inr h⟩
        · exact .inl h
      · exact .inr ⟨e', List.mem_cons_of_mem _ he', hb⟩
  rcases key es 0 h with h | h
  · simp at h
  · exact h

/-- Each mask is made of the edges and of masks ahead. -/
def MasksOk (ops : List Oper) (M : List Nat) : Prop := ∀ j o, ops[j]? = some o → M.getD j 0 = maskOf (M.take j) o.after.toList

theorem masks_ok (ops : List Oper) : MasksOk ops (masks ops) := by
  have key : ∀ (rest done : List Oper) (acc : List Nat), acc.length = done.length → MasksOk done acc → MasksOk (done ++ rest) (masks.go rest acc) := by
    intro rest
    induction rest with
    | nil => intro done acc _ h; simpa [masks.go] using h
    | cons o rest ih =>
      intro done acc hl h
      simp only [masks.go]
      have := ih (done ++ [o]) (acc ++ [maskOf acc o.after.toList]) (by simp [hl]) (by
        intro j oj hj
        by_cases hlt : j < done.length
        · rw [List.getElem?_append_left hlt] at hj
          have h1 := h j oj hj
          rw [List.take_append_of_le_length (by omega), ← h1]
          simp [List.getD, List.getElem?_append_left (show j < acc.length by omega)]
        · have hjl : j = done.length := by
            have := (List.getElem?_eq_some_iff.1 hj).1
            simp at this; omega
          subst hjl
          simp only [List.getElem?_concat_length, Option.some.injEq] at hj
          subst hj
          rw [← hl, List.take_left]
          simp [List.getD])
      simpa using this
  have := key ops [] [] rfl (by intro j o h; simp at h)
  simpa [masks] using this

def DownClosed (ops : Array Oper) (listed : Array Bool) : Prop := ∀ j o, listed.getD j false = true → ops[j]? = some o → ∀ e ∈ o.after, Region.binds .any e = true → listed.getD e.on false = true

theorem waits_listed {ops : Array Oper} {M : List Nat} (hM : MasksOk ops.toList M) {listed : Array Bool} (hd : DownClosed ops listed) {i : Nat} : ∀ (n j : Nat), j < n → ∀ (o : Oper), ops[j]? = some o → (M.getD j 0).testBit i = true → (∀ e ∈ o.after, Region.binds .any e = true → listed.getD e.on false = true) → listed.getD i false = true := by
  intro n
  induction n with
  | zero => intro j h; omega
  | succ n ih =>
    intro j hjn o ho h hall
    rw [hM j o (by simpa using ho)] at h
    obtain ⟨e, he, hb, h2⟩ := maskOf_bit h
    have hl := hall e (by simpa using he) hb
    rcases h2 with h2 | h2
    · rw [h2] at hl; exact hl
    · have hlt : e.on < j := by
        rcases Nat.lt_or_ge e.on j with h | h
        · exact h
        · simp [List.getD, List.getElem?_take, Nat.not_lt.2 h] at h2
      have hg : (M.take j).getD e.on 0 = M.getD e.on 0 := by simp [List.getD, List.getElem?_take, hlt]
      rw [hg] at h2
      cases hoe : ops[e.on]? with
      | none =>
        exfalso
        have : e.on < ops.size := by
          have := (Array.getElem?_eq_some_iff.1 ho).1; omega
        rw [Array.getElem?_eq_getElem this] at hoe; cases hoe
      | some o' => exact ih e.on (by omega) o' hoe h2 fun e' he' hb' => hd e.on o' hl hoe e' he' hb'

theorem DownClosed.add {ops : Array Oper} {listed : Array Bool} (hd : DownClosed ops listed) {i : Nat} (hi : i ∈ Region.ready .any ops listed) : DownClosed ops (listed.setIfInBounds i true) := by
  intro j o hj ho e he hb
  by_cases hij : i = j
  · subst hij
    obtain ⟨_, o', ho', hall⟩ := mem_ready.1 hi
    rw [ho] at ho'; cases ho'
    exact getD_set_true (hall e he hb)
  · rw [getD_set_ne false hij] at hj
    exact getD_set_true (hd j o hj ho e he hb)

/-- How many of the first n are not listed. -/
def cntU (listed : Array Bool) : Nat → Nat
  | 0 => 0
  | n + 1 => cntU listed n + if listed.getD n true = false then 1 else 0
theorem cntU_set_ge {listed : Array Bool} {i : Nat} : ∀ n, n ≤ i → cntU (listed.setIfInBounds i true) n = cntU listed n := by
  intro n
  induction n with
  | zero => intro _; rfl
  | succ n ih => intro h; simp only [cntU]; rw [ih (by omega), getD_set_ne true (by omega)]
theorem cntU_set {listed : Array Bool} {i : Nat} (hi : listed.getD i true = false) : ∀ n, i < n → cntU (listed.setIfInBounds i true) n + 1 = cntU listed n := by
  have hlt : i < listed.size := by
    rcases Nat.lt_or_ge i listed.size with h | h
    · exact h
    · simp [Array.getElem?_eq_none h] at hi
  intro n
  induction n with
  | zero => intro h; omega
  | succ n ih =>
    intro h
    simp only [cntU]
    by_cases hin : i = n
    · subst hin
      rw [cntU_set_ge _ (Nat.le_refl _), if_pos hi, if_neg (by simp [hlt])]
    · have := ih (by omega)
      rw [getD_set_ne true hin]
      omega
theorem cntU_zero {listed : Array Bool} : ∀ n, cntU listed n = 0 → ∀ j, j < n → listed.getD j true ≠ false := by
  intro n
  induction n with
  | zero => intro _ j hj; omega
  | succ n ih =>
    intro h j hj
    simp only [cntU] at h
    by_cases hjn : j = n
    · subst hjn
      intro hf
      rw [if_pos hf] at h; omega
    · exact ih (by omega) j (by omega)
theorem ready_lt {ops : Array Oper} {listed : Array Bool} {i : Nat} (hi : i ∈ Region.ready .any ops listed) : i < ops.size ∧ listed.getD i true = false := by
  obtain ⟨h0, o, ho, _⟩ := mem_ready.1 hi
  exact ⟨(Array.getElem?_eq_some_iff.1 ho).1, h0⟩
theorem ready_none {ops : Array Oper} {listed : Array Bool} (h : cntU listed ops.size = 0) : Region.ready .any ops listed = [] := by
  rw [List.eq_nil_iff_forall_not_mem]
  intro i hi
  exact cntU_zero _ h i (ready_lt hi).1 (ready_lt hi).2

theorem absAny_first {P : Program} {ops : Array Oper} {ais : List AI} {K : List Value → Mem → Prop} {M : List Nat} (hM : MasksOk ops.toList M) {i : Nat} {ai : AI} (hi : ais[i]? = some ai) (hlen : ais.length = ops.size) :
    ∀ (fuel : Nat) (listed : Array Bool) (env : List Value) (m : Mem), DownClosed ops listed → cntU listed ops.size ≤ fuel + 1 →
      (∀ j aj, ais[j]? = some aj → j ≠ i → listed.getD j true = false → (M.getD j 0).testBit i = true ∨ goodPair ai aj = true) → i ∈ Region.ready .any ops listed →
      absOp P ai (absAny P ops ais K fuel (listed.setIfInBounds i true)) env m → absAny P ops ais K (fuel + 1) listed env m := by
  intro fuel
  induction fuel with
  | zero =>
    intro listed env m hd hc hfree hr H
    refine ⟨fun h => (by rw [h] at hr; cases hr), fun j hj => ?_⟩
    by_cases hji : j = i
    · subst hji; exact ⟨ai, hi, H⟩
    · exfalso
      have hrm := ready_mono hj hji
      have := cntU_set (ready_lt hr).2 ops.size (ready_lt hr).1
      rw [ready_none (by omega)] at hrm; cases hrm
  | succ fuel ih =>
    intro listed env m hd hc hfree hr H
    refine ⟨fun h => (by rw [h] at hr; cases hr), fun j hj => ?_⟩
    by_cases hji : j = i
    · subst hji; exact ⟨ai, hi, H⟩
    · obtain ⟨hjun, oj, hoj, hafter⟩ := mem_ready.1 hj
      obtain ⟨aj, haj⟩ : ∃ aj, ais[j]? = some aj := ⟨_, List.getElem?_eq_getElem (by rw [hlen]; exact (ready_lt hj).1)⟩
      have hnw : ¬ (M.getD j 0).testBit i = true := by
        intro hw
        have := waits_listed hM hd (j + 1) j (by omega) oj hoj hw hafter
        have h0 := (ready_lt hr).2
        rcases Nat.lt_or_ge i listed.size with h' | h'
        · simp [h'] at h0 this; rw [h0] at this; cases this
        · simp [Array.getElem?_eq_none h'] at this
      have hg := (hfree j aj haj hji hjun).resolve_left hnw
      refine ⟨aj, haj, ?_⟩
      have h1 : absOp P ai (absOp P aj (absAny P ops ais K fuel ((listed.setIfInBounds i true).setIfInBounds j true))) env m := by
        refine absOp_mono (fun env' m' h => ?_) H
        obtain ⟨aj', haj', h⟩ := h.2 j (ready_mono hj hji)
        rw [haj] at haj'; cases haj'
        exact h
      refine absOp_mono (fun env' m' h => ?_) (swap_ops hg h1)
      have hcj := cntU_set hjun ops.size (ready_lt hj).1
      refine ih (listed.setIfInBounds j true) env' m' (hd.add hj) (by omega) (fun k ak hk hki hun => ?_) (ready_mono hr (Ne.symm hji)) ?_
      · refine hfree k ak hk hki ?_
        by_cases hjk : j = k
        · subst hjk; exact hjun
        · rw [getD_set_ne true hjk] at hun; exact hun
      · rw [Array.setIfInBounds_comm _ _ hji]; exact h
theorem absAny_sound {P : Program} {ops : Array Oper} {esc : List Tmp} {ais : List AI} (hais : ops.toList.mapM (stripI P ops esc) = some ais) {Q : Exit → List Value → Mem → Prop} :
    ∀ (fuel : Nat) (listed : Array Bool) (env : List Value) (m : Mem), cntU listed ops.size ≤ fuel → absAny P ops ais (Q .normal) fuel listed env m → ∀ (ρ : Rho) (w : World) (a : Act), Rel ρ m w → LRel ρ env a.tmps.toList → a.defers = [] →
      ∀ (ρ0 : Rho) (m0 : Mem) (w0 : World), ρ0.le ρ → Ext ρ0 m0 w0 ρ m w → wpAny P .any ops (Post ρ0 m0 w0 Q) fuel listed a w := by
  intro fuel
  induction fuel with
  | zero =>
    intro listed env m hc h ρ w a hr ha hd ρ0 m0 w0 hle hx
    exact ⟨ready_none (by omega), ⟨env, m, ρ, h, hle, hr, ha, hd, hx⟩⟩
  | succ fuel ih =>
    intro listed env m hc h ρ w a hr ha hd ρ0 m0 w0 hle hx
    refine ⟨fun h0 => ⟨env, m, ρ, h.1 h0, hle, hr, ha, hd, hx⟩, fun i hi => ?_⟩
    obtain ⟨ai, hai, hdo⟩ := h.2 i hi
    obtain ⟨_, o, ho, _⟩ := mem_ready.1 hi
    have hcs := cntU_set (ready_lt hi).2 ops.size (ready_lt hi).1
    have hst : stripI P ops esc o = some ai := by
      obtain ⟨b, hb, hf⟩ := (mapM_get hais).2 i o (by simpa using ho)
      rw [hai] at hb; cases hb; exact hf
    have key : wantedI env ai = wantedA ops env o ∧ ai.dst = o.dst ∧ stripOp P ((o.dst.map (esc.contains ·)).getD false) o = some ai.op := by
      unfold stripI at hst
      split at hst
      · rename_i hg
        simp only [Option.map_eq_some_iff] at hst
        obtain ⟨op, hop, rfl⟩ := hst
        exact ⟨by simp [wantedI, wantedA, hg], rfl, hop⟩
      · rename_i j want hg
        simp only [Option.bind_eq_some_iff, Option.map_eq_some_iff] at hst
        obtain ⟨t, ht, op, hop, rfl⟩ := hst
        refine ⟨?_, rfl, hop⟩
        simp only [wantedI, wantedA, hg]
        have : ((ops[j]?).bind (·.dst)) = some t := by
          rw [Option.bind_eq_some_iff]; exact ht
        rw [this]; rfl
    obtain ⟨k1, k2, k3⟩ := key
    unfold absOp at hdo
    simp only [wpOp, ho, wanted_rel (o := o) ha, ← k1]
    split at hdo
    · rename_i hw
      rw [if_pos hw]
      obtain ⟨r, hrr, hoa⟩ := hdo
      rw [k2] at hoa
      refine .inl (op_sound (strip_sound k3 hrr) hoa hr ha hd hle hx ?_)
      intro env' m' ρ' a' w' hk hle' hr' ha' hd' hx'
      exact ih _ env' m' (by omega) hk ρ' w' a' hr' ha' hd' ρ0 m0 w0 hle' hx'
    · rename_i hw
      rw [if_neg hw]
      rw [k2] at hdo
      have hd' : (a.put o.dst undef).defers = [] := by cases o.dst <;> simpa [Act.put] using hd
      exact ih _ _ m (by omega) hdo ρ w _ hr (put_rel ha (VRel.undef ρ) o.dst) hd' ρ0 m0 w0 hle hx

/-- The orders that matter, as a tree. -/
inductive DT where
  | done
  | step (i : AI) (t : DT)
  | alt (a b : DT)
  deriving Inhabited

def wpDT (P : Program) (K : List Value → Mem → Prop) : DT → List Value → Mem → Prop
  | .done, env, m => K env m
  | .step i t, env, m => absOp P i (wpDT P K t) env m
  | .alt a b, env, m => wpDT P K a env m ∧ wpDT P K b env m

/-- May operation i be taken first without loss? -/
def eagerB (M : List Nat) (ops : Array Oper) (ais : List AI) (listed : Array Bool) (i : Nat) : Bool :=
  match ais[i]? with
  | some ai => (List.range ops.size).all fun j => j == i || listed.getD j true || (M.getD j 0).testBit i || (match ais[j]? with | some aj => goodPair ai aj | none => false)
  | none => false

def mkDT (M : List Nat) (ops : Array Oper) (ais : List AI) : Nat → Array Bool → Option DT
  | 0, _ => some .done
  | n + 1, listed =>
    match Region.ready .any ops listed with
    | [] => some .done
    | r :: rs =>
      match (r :: rs).find? (eagerB M ops ais listed) with
      | some i => (ais[i]?).bind fun ai => (mkDT M ops ais n (listed.setIfInBounds i true)).map (.step ai)
      | none => all n listed (mkDT M ops ais n) r rs
where
  one (ais : List AI) (listed : Array Bool) (mk : Array Bool → Option DT) (i : Nat) : Option DT := (ais[i]?).bind fun ai => (mk (listed.setIfInBounds i true)).map (.step ai)
  all (_ : Nat) (listed : Array Bool) (mk : Array Bool → Option DT) (r : Nat) : List Nat → Option DT
    | [] => one ais listed mk r
    | r' :: rs => (one ais listed mk r).bind fun a => (all 0 listed mk r' rs).map (.alt a)

theorem mkDT_sound {P : Program} {M : List Nat} {ops : Array Oper} (hM : MasksOk ops.toList M) {ais : List AI} {K : List Value → Mem → Prop} (hlen : ais.length = ops.size) : ∀ (n : Nat) (listed : Array Bool) (t : DT), mkDT M ops ais n listed = some t → DownClosed ops listed → cntU listed ops.size ≤ n →
    ∀ env m, wpDT P K t env m → absAny P ops ais K n listed env m := by
  intro n
  induction n with
  | zero => intro listed t h _ _ env m hw; simp only [mkDT, Option.some.injEq] at h; subst h; exact hw
  | succ n ih =>
    intro listed t h hd hc env m hw
    simp only [mkDT] at h
    split at h
    · rename_i hr
      cases h
      exact ⟨fun _ => hw, fun i hi => by rw [hr] at hi; cases hi⟩
    · rename_i r rs hr
      split at h
      · rename_i i hf
        have hmem : i ∈ Region.ready .any ops listed := by rw [hr]; exact List.mem_of_find?_eq_some hf
        have heag := List.find?_some hf
        simp only [Option.bind_eq_some_iff, Option.map_eq_some_iff] at h
        obtain ⟨ai, hai, t', ht', rfl⟩ := h
        have hcs := cntU_set (ready_lt hmem).2 ops.size (ready_lt hmem).1
        refine absAny_first hM hai hlen n listed env m hd (by omega) (fun j aj haj hji hun => ?_) hmem (absOp_mono (fun env' m' h' => ih _ t' ht' (hd.add hmem) (by omega) env' m' h') hw)
        unfold eagerB at heag
        rw [hai] at heag
        simp only [List.all_eq_true, List.mem_range] at heag
        have := heag j (by rw [← hlen]; exact (List.getElem?_eq_some_iff.1 haj).1)
        rw [haj] at this
        simp only [Bool.or_eq_true, beq_iff_eq, hji, false_or, hun, Bool.false_eq_true] at this
        exact this
      · have key : ∀ (rs : List Nat) (r : Nat) (t : DT), mkDT.all ais n listed (mkDT M ops ais n) r rs = some t → wpDT P K t env m → (∀ i ∈ r :: rs, i ∈ Region.ready .any ops listed) →
            ∀ i ∈ r :: rs, ∃ ai, ais[i]? = some ai ∧ absOp P ai (absAny P ops ais K n (listed.setIfInBounds i true)) env m := by
          have one : ∀ r t, mkDT.one ais listed (mkDT M ops ais n) r = some t → wpDT P K t env m → r ∈ Region.ready .any ops listed → ∃ ai, ais[r]? = some ai ∧ absOp P ai (absAny P ops ais K n (listed.setIfInBounds r true)) env m := by
            intro r t ht hw hmem
            simp only [mkDT.one, Option.bind_eq_some_iff, Option.map_eq_some_iff] at ht
            obtain ⟨ai, hai, t', ht', rfl⟩ := ht
            have hcs := cntU_set (ready_lt hmem).2 ops.size (ready_lt hmem).1
            exact ⟨ai, hai, absOp_mono (fun env' m' h' => ih _ t' ht' (hd.add hmem) (by omega) env' m' h') hw⟩
          have any0 : ∀ k k' r rs, mkDT.all ais k listed (mkDT M ops ais n) r rs = mkDT.all ais k' listed (mkDT M ops ais n) r rs := by
            intro k k' r rs; cases rs <;> rfl
          intro rs
          induction rs with
          | nil =>
            intro r t ht hw hm i hi
            simp only [List.mem_singleton] at hi
            subst hi
            exact one i t ht hw (hm i (by simp))
          | cons r' rs ih2 =>
            intro r t ht hw hm i hi
            simp only [mkDT.all, Option.bind_eq_some_iff, Option.map_eq_some_iff] at ht
            obtain ⟨a, ha, b, hb, rfl⟩ := ht
            rcases List.mem_cons.1 hi with rfl | hi
            · exact one i a ha hw.1 (hm i (by simp))
            · exact ih2 r' b (by rw [any0 n 0]; exact hb) hw.2 (fun i hi => hm i (List.mem_cons_of_mem _ hi)) i hi
        refine ⟨fun h0 => (by rw [hr] at h0; cases h0), fun i hi => ?_⟩
        rw [hr] at hi
        exact key rs r t h hw (fun i hi => by rw [hr]; exact hi) i hi

/-- One order alone. -/
def DT.line : DT → Option (List AI)
  | .done => some []
  | .step i t => t.line.map (i :: ·)
  | .alt _ _ => none

theorem awp_draw {P : Program} {ops : Array Oper} {esc : List Tmp} {ais : List AI} {t : DT} {id : Nat} {Q : Exit → List Value → Mem → Prop} {env : List Value} {m : Mem} (hm : P.follows .mixedOrders = true) (hais : ops.toList.mapM (stripI P ops esc) = some ais)
    (ht : mkDT (masks ops.toList) ops ais ops.size (Array.replicate ops.size false) = some t) (h : wpDT P (Q .normal) t env m) : AWp P (.region id ops true) Q env m := by
  intro ρ w a hr ha hd
  have hlen : ais.length = ops.size := by have := (mapM_get hais).1; simpa using this
  have hc : ∀ n k, cntU (Array.replicate k false) n ≤ n := by
    intro n k
    induction n with
    | zero => exact Nat.le_refl _
    | succ n ih => simp only [cntU]; split <;> omega
  refine wp_region_any hm (absAny_sound hais ops.size _ env m (hc _ _) (mkDT_sound (masks_ok _) hlen ops.size _ t ht ?_ (hc _ _) env m h) ρ w.drew a hr.drew ha hd ρ m w (.refl ρ) (Ext.drew ρ m w))
  intro j o hj
  simp only [Array.getD_eq_getD_getElem?, Array.getElem?_replicate] at hj
  split at hj <;> simp at hj
end Go.AM
