/-
  The abstract machine, thirteenth part: rules for walking stripped code.
-/
import Derived.Test.YtnfncjodmkhafaaAm12
set_option linter.all false
set_option linter.unusedSimpArgs false
set_option linter.unusedVariables false
namespace Go.AM

section
variable {P : Program} {t : TypeId} {x y : Operand} {k : IntKind} {a b : Int}
theorem bin_add : binA P .add t x y (.int k a) (.int k b) = some (.int k (k.wrap (a + b))) := by
  simp [binA, flat, flat1, eqGuard_add, binOp_add, Op.intArith, pureRun, plainOnly, okK.plain, bind, Sem.bind, pure]
theorem bin_sub : binA P .sub t x y (.int k a) (.int k b) = some (.int k (k.wrap (a - b))) := by
  simp [binA, flat, flat1, eqGuard_sub, binOp_sub, Op.intArith, pureRun, plainOnly, okK.plain, bind, Sem.bind, pure]
theorem bin_mul : binA P .mul t x y (.int k a) (.int k b) = some (.int k (k.wrap (a * b))) := by
  simp [binA, flat, flat1, eqGuard_mul, binOp_mul, Op.intArith, pureRun, plainOnly, okK.plain, bind, Sem.bind, pure]
theorem bin_lss : binA P .lss t x y (.int k a) (.int k b) = some (.bool (decide (a < b))) := by
  simp [binA, flat, flat1, eqGuard_lss, binOp_lss, pureRun, plainOnly, okK.plain, bind, Sem.bind, pure]
theorem bin_leq : binA P .leq t x y (.int k a) (.int k b) = some (.bool (decide (a ≤ b))) := by
  simp [binA, flat, flat1, eqGuard_leq, binOp_leq, pureRun, plainOnly, okK.plain, bind, Sem.bind, pure]
theorem bin_gtr : binA P .gtr t x y (.int k a) (.int k b) = some (.bool (decide (b < a))) := by
  simp [binA, flat, flat1, eqGuard_gtr, binOp_gtr, pureRun, plainOnly, okK.plain, bind, Sem.bind, pure]
theorem bin_geq : binA P .geq t x y (.int k a) (.int k b) = some (.bool (decide (b ≤ a))) := by
  simp [binA, flat, flat1, eqGuard_geq, binOp_geq, pureRun, plainOnly, okK.plain, bind, Sem.bind, pure]
theorem bin_eql : binA P .eql t x y (.int k a) (.int k b) = some (.bool (decide (a = b))) := by
  simp [binA, flat, flat1, eqGuard_at_int, binOp_eql, pureRun, plainOnly, okK.plain, bind, Sem.bind, pure]
  by_cases h : a = b <;> simp [h]
theorem bin_neq : binA P .neq t x y (.int k a) (.int k b) = some (.bool (decide (a ≠ b))) := by
  simp [binA, flat, flat1, eqGuard_at_int, binOp_neq, pureRun, plainOnly, okK.plain, bind, Sem.bind, pure]
  by_cases h : a = b <;> simp [h]
theorem bin_eqlS {s u : ByteArray} : binA P .eql t x y (.string s) (.string u) = some (.bool (decide (s = u))) := by
  have h : (s.toList == u.toList) = decide (s = u) := by
    rw [ByteArray.toList_eq, ByteArray.toList_eq]
    by_cases h : s = u
    · subst h; simp
    · have : ¬ s.data.toList = u.data.toList := fun e => h (by obtain ⟨a⟩ := s; obtain ⟨b⟩ := u; simp only at e; rw [Array.toList_inj.1 e])
      rw [decide_eq_false h]; exact beq_eq_false_iff_ne.2 this
  simp [binA, flat, flat1, eqGuard_at_string, binOp_string_eql, pureRun, plainOnly, okK.plain, bind, Sem.bind, pure, h]
theorem bin_neqS {s u : ByteArray} : binA P .neq t x y (.string s) (.string u) = some (.bool (decide (s ≠ u))) := by
  have h : (s.toList == u.toList) = decide (s = u) := by
    rw [ByteArray.toList_eq, ByteArray.toList_eq]
    by_cases h : s = u
    · subst h; simp
    · have : ¬ s.data.toList = u.data.toList := fun e => h (by obtain ⟨a⟩ := s; obtain ⟨b⟩ := u; simp only at e; rw [Array.toList_inj.1 e])
      rw [decide_eq_false h]; exact beq_eq_false_iff_ne.2 this
  simp [binA, flat, flat1, eqGuard_at_string, binOp_string_neq, pureRun, plainOnly, okK.plain, bind, Sem.bind, pure, h]
end
/-- One operation, then K. -/
def opW (P : Program) (o : AOp) (env : List Value) (m : Mem) (K : Value → Mem → Prop) : Prop :=
  ∃ r, stepA P o env m = some r ∧ match r with
    | .val v m' => K v m'
    | .call f args m' => ACalls P f args m' K

theorem iA_nil {P : Program} {K : List Value → Mem → Prop} {env : List Value} {m : Mem} : iA P K [] env m = K env m := rfl
theorem iA_cons {P : Program} {K : List Value → Mem → Prop} {d : Option Tmp} {o : AOp} {rest : List AI} {env : List Value} {m : Mem} :
    iA P K (⟨d, none, o⟩ :: rest) env m = opW P o env m (fun v m' => iA P K rest (putA env d v) m') := by
  simp only [iA, wantedI, if_true, opW, OpA]
  apply propext
  constructor <;> rintro ⟨r, h1, h2⟩ <;> refine ⟨r, h1, ?_⟩ <;> cases r <;> exact h2
def guardW : Value → Bool → Prop → Prop → Prop
  | .bool b, w, A, B => if b = w then A else B
  | _, _, _, B => B
theorem iA_guard {P : Program} {K : List Value → Mem → Prop} {d : Option Tmp} {o : AOp} {t : Nat} {w : Bool} {rest : List AI} {env : List Value} {m : Mem} :
    iA P K (⟨d, some (t, w), o⟩ :: rest) env m = guardW (env.getD t undef) w (opW P o env m (fun v m' => iA P K rest (putA env d v) m')) (iA P K rest (putA env d undef) m) := by
  have h1 : ∀ K', (∃ r, stepA P o env m = some r ∧ OpA P d env K' r) = opW P o env m (fun v m' => K' (putA env d v) m') := by
    intro K'
    apply propext
    constructor <;> rintro ⟨r, h1, h2⟩ <;> refine ⟨r, h1, ?_⟩ <;> cases r <;> exact h2
  have hw : wantedI env ⟨d, some (t, w), o⟩ = (match env.getD t undef with | .bool b => b == w | _ => false) := by
    unfold wantedI
    simp only [List.getD]
    cases env[t]? with
    | none => rfl
    | some v => cases v <;> rfl
  simp only [iA]
  rw [h1, hw]
  generalize env.getD t undef = v
  cases v with
  | bool b => by_cases hb : b = w <;> simp [guardW, hb]
  | _ => simp [guardW]
theorem absOp_none {P : Program} {K : List Value → Mem → Prop} {d : Option Tmp} {o : AOp} {env : List Value} {m : Mem} :
    absOp P ⟨d, none, o⟩ K env m = opW P o env m (fun v m' => K (putA env d v) m') := by
  simp only [absOp, wantedI, if_true, opW, OpA]
  apply propext
  constructor <;> rintro ⟨r, h1, h2⟩ <;> refine ⟨r, h1, ?_⟩ <;> cases r <;> exact h2

theorem ex_ite {α : Type} {c : Prop} [Decidable c] {x : α} {F : α → Prop} : (∃ r, (if c then some x else none) = some r ∧ F r) = (c ∧ F x) := by by_cases h : c <;> simp [h]
section
variable {P : Program} {env : List Value} {m : Mem} {K : Value → Mem → Prop}
def pickW : Value → Value → Value → (Value → Prop) → Prop
  | .bool t, a, b, K => K (if t = true then a else b)
  | _, _, _, _ => False
def optW {α : Type} (x : Option α) (K : α → Prop) : Prop := ∃ v, x = some v ∧ K v
theorem optW_some {α : Type} {v : α} {K : α → Prop} : optW (some v) K = K v := by simp [optW]
theorem optW_none {α : Type} {K : α → Prop} : optW (none : Option α) K = False := by simp [optW]
theorem opW_mov {x : Operand} : opW P (.mov x) env m K = K (evA env x) m := by simp [opW, stepA]
theorem opW_pick {c a b : Operand} : opW P (.pick c a b) env m K = pickW (evA env c) (evA env a) (evA env b) (fun v => K v m) := by
  simp only [opW, stepA]
  cases evA env c <;> simp [pickW]
theorem opW_newS {z : List Value} : opW P (.new false z) env m K = K (.pointer (some ⟨m.stk.length, 0, none⟩)) (m.box z) := by simp [opW, stepA]
theorem opW_newH {z : List Value} : opW P (.new true z) env m K = K (.pointer (some ⟨m.heap.length, 0, some 0⟩)) (m.push z) := by simp [opW, stepA]
def boxW (n : Nat) (cells : List Value) (A : Prop) : Prop := cells.all (okC n) = true ∧ A
theorem opW_boxS {x : Operand} : opW P (.box false x) env m K = boxW (m.stk.length + 1) (evA env x).cells.toList (K (.pointer (some ⟨m.stk.length, 0, none⟩)) (m.box (evA env x).cells.toList)) := by
  simp only [opW, stepA, boxW, Bool.false_eq_true, if_false]
  split
  · rename_i h; simp [h]
  · rename_i h; simp [h]
theorem opW_boxH {x : Operand} : opW P (.box true x) env m K = boxW 0 (evA env x).cells.toList (K (.pointer (some ⟨m.heap.length, 0, some 0⟩)) (m.push (evA env x).cells.toList)) := by
  simp only [opW, stepA, boxW, if_true]
  split
  · rename_i h; simp [h]
  · rename_i h; simp [h]
theorem opW_build {z : List Value} {ps : List (Nat × Nat × Operand)} : opW P (.build z ps) env m K = optW (fillA z (partsA env ps)) (fun cs => K (.agg cs.toArray) m) := by
  simp only [opW, stepA, optW]
  cases fillA z (partsA env ps) <;> simp
theorem opW_mkSlice {e n : Nat} {z : List Value} {ps : List (Nat × Nat × Operand)} :
    opW P (.mkSlice e n z ps) env m K = optW (fillA (List.replicate n z).flatten (partsA env ps)) (fun cs => boxW 0 cs (K (.slice (some ⟨m.heap.length, 0, some 0⟩) n e) (m.push cs))) := by
  simp only [opW, stepA, optW, boxW]
  cases fillA (List.replicate n z).flatten (partsA env ps) with
  | none => simp
  | some cs => simp only [Option.some.injEq, exists_eq_left', ex_ite]
def ptrW : Value → (Addr → Prop) → Prop
  | .pointer (some a), K => K a
  | _, _ => False
theorem opW_load {x : Operand} : opW P (.load x) env m K = ptrW (evA env x) (fun a => optW (m.load a) (fun v => K v m)) := by
  simp only [opW, stepA, optW]
  split
  · rename_i a h; rw [h]; simp only [ptrW]; cases m.load a <;> simp
  · rename_i h; generalize evA env x = v at h; cases v <;> first | (simp [ptrW]; done) | (rename_i o; cases o <;> first | (simp [ptrW]; done) | exact absurd rfl (h _))
theorem opW_loadN {x : Operand} {n : Nat} : opW P (.loadN x n) env m K = ptrW (evA env x) (fun a => optW (m.loads a n) (fun cs => K (.agg cs.toArray) m)) := by
  simp only [opW, stepA, optW]
  split
  · rename_i a h; rw [h]; simp only [ptrW]; cases m.loads a n <;> simp
  · rename_i h; generalize evA env x = v at h; cases v <;> first | (simp [ptrW]; done) | (rename_i o; cases o <;> first | (simp [ptrW]; done) | exact absurd rfl (h _))
def stW (n : Nat) (v : Value) (A : Prop) : Prop := v.cells.size = n ∧ A
theorem opW_store {x v : Operand} {n : Nat} : opW P (.store n x v) env m K = ptrW (evA env x) (fun a => stW n (evA env v) (optW (m.stores a (evA env v).cells.toList) (fun m' => K undef m'))) := by
  simp only [opW, stepA, optW, stW]
  split
  · rename_i a h; rw [h]; simp only [ptrW]; split
    · rename_i hs; simp only [hs, true_and]; cases m.stores a (evA env v).cells.toList <;> simp
    · rename_i hs; simp [hs]
  · rename_i h; generalize evA env x = v at h; cases v <;> first | (simp [ptrW]; done) | (rename_i o; cases o <;> first | (simp [ptrW]; done) | exact absurd rfl (h _))
def nilW : Value → (Value → Prop) → Prop
  | .pointer (some a), K => K (.pointer (some a))
  | .func (.func f) a c, K => K (.func (.func f) a c)
  | _, _ => False
theorem opW_nilCheck {x : Operand} : opW P (.nilCheck x) env m K = nilW (evA env x) (fun v => K v m) := by
  simp only [opW, stepA]
  generalize evA env x = v
  unfold nilW
  split <;> simp
theorem opW_bin {op : BinOp} {t : TypeId} {x y : Operand} : opW P (.bin op t x y) env m K = optW (binA P op t x y (evA env x) (evA env y)) (fun v => K v m) := by
  simp only [opW, stepA, optW]
  cases binA P op t x y (evA env x) (evA env y) <;> simp
theorem opW_isNil {kd : Nat} {neg : Bool} {x y : Operand} : opW P (.isNil kd neg x y) env m K = optW (isNilA kd (evA env x) (evA env y)) (fun b => K (.bool (b != neg)) m) := by
  simp only [opW, stepA, optW]
  cases isNilA kd (evA env x) (evA env y) <;> simp
theorem opW_un {op : UnOp} {x : Operand} : opW P (.un op x) env m K = optW (unA op (evA env x)) (fun v => K v m) := by
  simp only [opW, stepA, optW]
  cases unA op (evA env x) <;> simp
theorem opW_convI {k : IntKind} {x : Operand} : opW P (.convI k x) env m K = optW (intOf (evA env x)) (fun n => K (.int k (k.wrap n)) m) := by
  simp only [opW, stepA, optW]
  cases intOf (evA env x) <;> simp
theorem opW_convP {src dst : TypeId} {x : Operand} : opW P (.convP src dst x) env m K = (flat (evA env x) = true ∧ optW (plainOnly (pureRun P (convert src dst (evA env x)))) (fun v => K v m)) := by
  simp only [opW, stepA, optW]
  split
  · rename_i h; simp only [h, true_and]; cases plainOnly (pureRun P (convert src dst (evA env x))) <;> simp
  · rename_i h; simp [h]
theorem opW_convBS {x : Operand} : opW P (.convBS x) env m K = optW (m.sliceCells 1 (evA env x)) (fun r => optW (r.2.mapM byteA) (fun bs => K (.string ⟨bs.toArray⟩) m)) := by
  simp only [opW, stepA, optW]
  cases m.sliceCells 1 (evA env x) with
  | none => simp
  | some r => obtain ⟨n, cs⟩ := r; simp only [Option.some.injEq, exists_eq_left']; cases cs.mapM byteA <;> simp
def tupW : Value → Nat → (Value → Prop) → Prop
  | .tuple vs, i, K => optW (vs.toList[i]?) K
  | _, _, _ => False
theorem opW_extract {x : Operand} {i : Nat} : opW P (.extract x i) env m K = tupW (evA env x) i (fun v => K v m) := by
  simp only [opW, stepA]
  generalize evA env x = v
  cases v <;> simp only [tupW] <;> first | (simp; done) | skip
  rename_i vs
  simp only [optW]
  cases vs.toList[i]? <;> simp
theorem opW_fieldAddr {x : Operand} {off : Nat} : opW P (.fieldAddr x off) env m K = ptrW (evA env x) (fun a => K (.pointer (some ⟨a.block, a.off + off, a.spot⟩)) m) := by
  simp only [opW, stepA]
  generalize evA env x = v
  cases v <;> first | (simp [ptrW]; done) | (rename_i o; cases o <;> simp [ptrW])
def aggW : Value → (List Value → Prop) → Prop
  | .agg cs, K => K cs.toList
  | _, _ => False
theorem opW_field1 {x : Operand} {off : Nat} : opW P (.field x off none) env m K = aggW (evA env x) (fun cs => optW (cs[off]?) (fun v => K v m)) := by
  simp only [opW, stepA]
  generalize evA env x = v
  cases v <;> simp only [aggW] <;> first | (simp; done) | skip
  rename_i vs
  simp only [optW]
  cases vs.toList[off]? <;> simp
theorem opW_fieldN {x : Operand} {off n : Nat} : opW P (.field x off (some n)) env m K = aggW (evA env x) (fun cs => off + n ≤ cs.length ∧ K (.agg ((cs.drop off).take n).toArray) m) := by
  simp only [opW, stepA]
  generalize evA env x = v
  cases v <;> simp only [aggW] <;> first | (simp; done) | skip
  rename_i vs
  simp only [ex_ite]
def idxW (esz : Nat) : Value → Value → (Value → Prop) → Prop
  | .slice (some a) len e, .int _ n, K => (0 ≤ n ∧ n < len ∧ e = esz) ∧ K (.pointer (some ⟨a.block, a.off + n.toNat * esz, a.spot⟩))
  | _, _, _ => False
theorem opW_idxSl {x i : Operand} {esz : Nat} : opW P (.idxSl x i esz) env m K = idxW esz (evA env x) (evA env i) (fun v => K v m) := by
  simp only [opW, stepA]
  generalize evA env x = v
  generalize evA env i = u
  cases v <;> first | (simp [idxW]; done) | skip
  rename_i a len e
  cases a <;> first | (simp [idxW]; done) | skip
  cases u <;> first | (simp [idxW]; done) | skip
  simp only [idxW, ex_ite]
def idxStrW : Value → Value → (Value → Prop) → Prop
  | .string s, .int _ n, K => 0 ≤ n ∧ optW (s.data.toList[n.toNat]?) (fun b => K (.int .u8 b.toNat))
  | _, _, _ => False
theorem opW_idxStr {x i : Operand} : opW P (.idxStr x i) env m K = idxStrW (evA env x) (evA env i) (fun v => K v m) := by
  simp only [opW, stepA]
  generalize evA env x = v
  generalize evA env i = u
  unfold idxStrW
  split
  · rename_i s k n
    simp only [optW]
    split
    · rename_i h; simp only [h, true_and]; cases s.data.toList[n.toNat]? <;> simp
    · rename_i h; simp [h]
  · split <;> simp_all
def slStrW : Value → (Nat → Option Int) → (Nat → Option Int) → (Value → Prop) → Prop
  | .string s, lo, hi, K => optW (lo 0) (fun l => optW (hi s.size) (fun h => (0 ≤ l ∧ l ≤ h ∧ h ≤ s.size) ∧ K (.string (s.extract l.toNat h.toNat))))
  | _, _, _, _ => False
theorem opW_slStr {x : Operand} {lo hi : Option Operand} : opW P (.slStr x lo hi) env m K = slStrW (evA env x) (fun d => boundA env d lo) (fun d => boundA env d hi) (fun v => K v m) := by
  simp only [opW, stepA]
  generalize evA env x = v
  cases v <;> simp only [slStrW] <;> first | (simp; done) | skip
  rename_i s
  simp only [optW]
  cases boundA env 0 lo with
  | none => simp
  | some l => cases boundA env s.size hi with
    | none => simp
    | some h => simp only [Option.some.injEq, exists_eq_left', ex_ite]
def slSlW (esz : Nat) : Value → (Nat → Option Int) → (Nat → Option Int) → (Value → Prop) → Prop
  | .slice none 0 0, lo, hi, K => optW (lo 0) (fun l => optW (hi 0) (fun h => (l = 0 ∧ h = 0) ∧ K (.slice none 0 0)))
  | .slice (some a) len e, lo, hi, K => optW (lo 0) (fun l => optW (hi len) (fun h => (0 ≤ l ∧ l ≤ h ∧ h ≤ len ∧ e = esz) ∧ K (.slice (some ⟨a.block, a.off + l.toNat * esz, a.spot⟩) (h.toNat - l.toNat) esz)))
  | _, _, _, _ => False
theorem opW_slSl {x : Operand} {lo hi : Option Operand} {esz : Nat} : opW P (.slSl x lo hi esz) env m K = slSlW esz (evA env x) (fun d => boundA env d lo) (fun d => boundA env d hi) (fun v => K v m) := by
  simp only [opW, stepA]
  generalize evA env x = v
  unfold slSlW
  split
  · simp only [optW]
    cases boundA env 0 lo with
    | none => simp
    | some l => cases boundA env 0 hi with
      | none => simp
      | some h => simp only [Option.some.injEq, exists_eq_left', ex_ite]
  · rename_i a len e
    simp only [optW]
    cases boundA env 0 lo with
    | none => simp
    | some l => cases boundA env len hi with
      | none => simp
      | some h => simp only [Option.some.injEq, exists_eq_left', ex_ite]
  · split <;> simp_all
theorem opW_fn {f : FuncId} {first cap : List Operand} : opW P (.fn f first cap) env m K = K (.func (.func f) (first.map (evA env)).toArray (cap.map (evA env)).toArray) m := by simp [opW, stepA]
def makeW (esz bytes : Nat) (z : List Value) (m : Mem) : Value → Value → (Value → Mem → Prop) → Prop
  | .int _ l, .int _ c, K => (0 ≤ l ∧ l ≤ c ∧ c * bytes ≤ 281474976710656 ∧ c ≤ 9223372036854775807) ∧ K (.slice (some ⟨m.heap.length, 0, some 0⟩) l.toNat esz) (m.push (List.replicate l.toNat z).flatten)
  | _, _, _ => False
theorem opW_make {esz bytes : Nat} {z : List Value} {l c : Operand} : opW P (.make esz bytes z l c) env m K = makeW esz bytes z m (evA env l) (evA env c) K := by
  simp only [opW, stepA]
  generalize evA env l = v
  generalize evA env c = u
  cases v <;> first | (simp [makeW]; done) | skip
  cases u <;> first | (simp [makeW]; done) | skip
  simp only [makeW, ex_ite]
def lenW : Value → (Value → Prop) → Prop
  | .string s, K => K (.int .i64 s.size)
  | .slice _ n _, K => K (.int .i64 n)
  | _, _ => False
theorem opW_lenStr {x : Operand} (h : ∃ s, evA env x = .string s) : opW P (.lenStr x) env m K = lenW (evA env x) (fun v => K v m) := by
  obtain ⟨s, h⟩ := h
  simp [opW, stepA, h, lenW]
def lenStrW : Value → (Value → Prop) → Prop
  | .string s, K => K (.int .i64 s.size)
  | _, _ => False
theorem opW_lenStr' {x : Operand} : opW P (.lenStr x) env m K = lenStrW (evA env x) (fun v => K v m) := by
  simp only [opW, stepA]
  generalize evA env x = v
  cases v <;> simp [lenStrW]
def lenSlW : Value → (Value → Prop) → Prop
  | .slice _ n _, K => K (.int .i64 n)
  | _, _ => False
theorem opW_lenSl {x : Operand} : opW P (.lenSl x) env m K = lenSlW (evA env x) (fun v => K v m) := by
  simp only [opW, stepA]
  generalize evA env x = v
  cases v <;> simp [lenSlW]
theorem opW_append {esz bytes : Nat} {s x : Operand} : opW P (.append esz bytes s x) env m K = optW (m.sliceCells esz (evA env x)) (fun r => optW (appendA m esz bytes (evA env s) r.1 r.2) (fun q => K q.1 q.2)) := by
  simp only [opW, stepA, optW]
  cases m.sliceCells esz (evA env x) with
  | none => simp
  | some r => obtain ⟨n, cs⟩ := r; simp only [Option.some.injEq, exists_eq_left']; cases appendA m esz bytes (evA env s) n cs <;> simp
def strW : Value → (ByteArray → Prop) → Prop
  | .string s, K => K s
  | _, _ => False
theorem opW_appStr {s x : Operand} : opW P (.appStr s x) env m K = strW (evA env x) (fun t => optW (appendA m 1 1 (evA env s) t.size (t.data.toList.map fun b => .int .u8 b.toNat)) (fun q => K q.1 q.2)) := by
  simp only [opW, stepA]
  generalize evA env x = v
  cases v <;> simp only [strW] <;> first | (simp; done) | skip
  rename_i t
  simp only [optW]
  cases appendA m 1 1 (evA env s) t.size (t.data.toList.map fun b => Value.int .u8 b.toNat) <;> simp
def callW (P : Program) : Value → List Value → Mem → (Value → Mem → Prop) → Prop
  | .func (.func g) first cap, args, m, K => enters P g = true ∧ ACalls P g (first.toList ++ args ++ cap.toList) m K
  | _, _, _, _ => False
theorem opW_call {f : Operand} {args : List Operand} : opW P (.call f args) env m K = callW P (evA env f) (args.map (evA env)) m K := by
  simp only [opW, stepA]
  generalize evA env f = v
  unfold callW
  split
  · rename_i g first cap
    by_cases h : enters P g = true
    · simp [h]
    · simp [h]
  · split <;> simp_all
end

theorem ACalls_congr {P : Program} {f f' : FuncId} {args args' : List Value} {m m' : Mem} {Q : Value → Mem → Prop} (h1 : f = f') (h2 : args = args') (h3 : m = m') : ACalls P f args m Q = ACalls P f' args' m' Q := by subst h1; subst h2; subst h3; rfl
theorem loopW_congr {F : (Exit → List Value → Mem → Prop) → List Value → Mem → Prop} {Q : Exit → List Value → Mem → Prop} {env env' : List Value} {m m' : Mem} (h2 : env = env') (h3 : m = m') : loopW F Q env m = loopW F Q env' m' := by subst h2; subst h3; rfl

end Go.AM
