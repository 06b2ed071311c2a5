/-
  The abstract machine, fifteenth part: rules of one constructor each, for walks that stop at what is not known yet.
-/
import Derived.Test.YtnfncjodmkhafaaAm14
set_option linter.all false
set_option linter.unusedSimpArgs false
set_option linter.unusedVariables false
namespace Go.AM
universe u v w x
section
variable {K : Value → Prop} {A B : Prop} {t w : Bool} {k k' : IntKind} {n i : Int}
theorem guardW_b : guardW (.bool t) w A B = if t = w then A else B := rfl
theorem guardW_u : guardW undef w A B = B := rfl
theorem condA_b : condA (.bool t) A B = if t = true then A else B := rfl
theorem pickW_b {a b : Value} : pickW (.bool t) a b K = K (if t = true then a else b) := rfl
theorem ptrW_p {K : Addr → Prop} {a : Addr} : ptrW (.pointer (some a)) K = K a := rfl
theorem nilW_p {a : Addr} : nilW (.pointer (some a)) K = K (.pointer (some a)) := rfl
theorem nilW_f {f : FuncId} {a c : Array Value} : nilW (.func (.func f) a c) K = K (.func (.func f) a c) := rfl
theorem tupW_t {vs : Array Value} {i : Nat} : tupW (.tuple vs) i K = optW (vs.toList[i]?) K := rfl
theorem aggW_a {K : List Value → Prop} {cs : Array Value} : aggW (.agg cs) K = K cs.toList := rfl
theorem idxW_s {esz : Nat} {a : Addr} {len e : Nat} : idxW esz (.slice (some a) len e) (.int k n) K = ((0 ≤ n ∧ n < len ∧ e = esz) ∧ K (.pointer (some ⟨a.block, a.off + n.toNat * esz, a.spot⟩))) := rfl
theorem idxStrW_s {s : ByteArray} : idxStrW (.string s) (.int k n) K = (0 ≤ n ∧ optW (s.data.toList[n.toNat]?) (fun b => K (.int .u8 b.toNat))) := rfl
theorem slStrW_s {s : ByteArray} {lo hi : Nat → Option Int} : slStrW (.string s) lo hi K = optW (lo 0) (fun l => optW (hi s.size) (fun h => (0 ≤ l ∧ l ≤ h ∧ h ≤ s.size) ∧ K (.string (s.extract l.toNat h.toNat)))) := rfl
theorem slSlW_n {esz : Nat} {lo hi : Nat → Option Int} : slSlW esz (.slice none 0 0) lo hi K = optW (lo 0) (fun l => optW (hi 0) (fun h => (l = 0 ∧ h = 0) ∧ K (.slice none 0 0))) := rfl
theorem slSlW_s {esz : Nat} {a : Addr} {len e : Nat} {lo hi : Nat → Option Int} :
    slSlW esz (.slice (some a) len e) lo hi K = optW (lo 0) (fun l => optW (hi len) (fun h => (0 ≤ l ∧ l ≤ h ∧ h ≤ len ∧ e = esz) ∧ K (.slice (some ⟨a.block, a.off + l.toNat * esz, a.spot⟩) (h.toNat - l.toNat) esz))) := rfl
theorem makeW_i {esz bytes : Nat} {z : List Value} {m : Mem} {l c : Int} {K : Value → Mem → Prop} :
    makeW esz bytes z m (.int k l) (.int k' c) K = ((0 ≤ l ∧ l ≤ c ∧ c * bytes ≤ 281474976710656 ∧ c ≤ 9223372036854775807) ∧ K (.slice (some ⟨m.heap.length, 0, some 0⟩) l.toNat esz) (m.push (List.replicate l.toNat z).flatten)) := rfl
theorem lenStrW_s {s : ByteArray} : lenStrW (.string s) K = K (.int .i64 s.size) := rfl
theorem lenSlW_s {a : Option Addr} {n e : Nat} : lenSlW (.slice a n e) K = K (.int .i64 n) := rfl
theorem strW_s {K : ByteArray → Prop} {s : ByteArray} : strW (.string s) K = K s := rfl
theorem callW_f {P : Program} {g : FuncId} {a c : Array Value} {args : List Value} {m : Mem} {K : Value → Mem → Prop} : callW P (.func (.func g) a c) args m K = (enters P g = true ∧ ACalls P g (a.toList ++ args ++ c.toList) m K) := rfl
theorem boundA_n {env : List Value} {d : Nat} : boundA env d none = some (d : Int) := rfl
theorem boundA_s {env : List Value} {d : Nat} {x : Operand} : boundA env d (some x) = intOf (evA env x) := rfl
theorem intOf_i : intOf (.int k n) = some n := rfl
theorem unA_neg : unA .neg (.int k n) = some (.int k (k.wrap (0 - n))) := rfl
theorem unA_not : unA .not (.bool t) = some (.bool !t) := rfl
theorem isNilA_0n {b : Option Addr} : isNilA 0 (.pointer none) (.pointer b) = some b.isNone := rfl
theorem isNilA_0s {a : Addr} : isNilA 0 (.pointer (some a)) (.pointer none) = some false := rfl
theorem isNilA_2n : isNilA 2 .nilFunc .nilFunc = some true := rfl
theorem isNilA_2f {f : Fn} {a c : Array Value} : isNilA 2 .nilFunc (.func f a c) = some false := rfl
theorem isNilA_2g {f : Fn} {a c : Array Value} : isNilA 2 (.func f a c) .nilFunc = some false := rfl
theorem evA_t {env : List Value} {t : Nat} : evA env (.tmp t) = env.getD t undef := rfl
theorem evA_c {env : List Value} {v : Value} : evA env (.const v) = v := rfl
theorem evA_f {env : List Value} {f : FuncId} : evA env (.func f) = .func (.func f) #[] #[] := rfl
theorem retS_r {P : Program} {res : List ResultVar} {n : Nat} {Q : Value → Mem → Prop} {env : List Value} {m : Mem} :
    retS P res n Q .ret env m = ∃ vs, res.mapM (resOne P env m) = some vs ∧ okV n (tup1 vs) = true ∧ Q (tup1 vs) { m with stk := m.stk.take n } := rfl
theorem retS_n {P : Program} {res : List ResultVar} {n : Nat} {Q : Value → Mem → Prop} {env : List Value} {m : Mem} :
    retS P res n Q .normal env m = ∃ vs, res.mapM (resOne P env m) = some vs ∧ okV n (tup1 vs) = true ∧ Q (tup1 vs) { m with stk := m.stk.take n } := rfl
section
variable {N : Nat}
theorem okV_b : okV N (.bool t) = true := rfl
theorem okV_i : okV N (.int k n) = true := rfl
theorem okV_fl {k : FloatKind} {b : Nat} : okV N (.float k b) = true := rfl
theorem okV_s {s : ByteArray} : okV N (.string s) = true := rfl
theorem okV_pn : okV N (.pointer none) = true := rfl
theorem okV_sn : okV N (.slice none 0 0) = true := rfl
theorem okV_p {b o v : Nat} : okV N (.pointer (some ⟨b, o, some v⟩)) = true := rfl
theorem okV_pl {b o : Nat} : okV N (.pointer (some ⟨b, o, none⟩)) = decide (b < N) := rfl
theorem okV_sl {b o v l e : Nat} : okV N (.slice (some ⟨b, o, some v⟩) l e) = true := rfl
theorem okV_nf : okV N .nilFunc = true := rfl
theorem okV_f {f : Fn} {a c : Array Value} : okV N (.func f a c) = (a.toList.all (okC0 N) && c.toList.all (okC0 N)) := rfl
theorem okV_a {cs : Array Value} : okV N (.agg cs) = cs.toList.all (okC N) := rfl
theorem okV_t {vs : Array Value} : okV N (.tuple vs) = vs.toList.all (okA N) := rfl
theorem okA_b : okA N (.bool t) = true := rfl
theorem okA_i : okA N (.int k n) = true := rfl
theorem okA_fl {k : FloatKind} {b : Nat} : okA N (.float k b) = true := rfl
theorem okA_s {s : ByteArray} : okA N (.string s) = true := rfl
theorem okA_pn : okA N (.pointer none) = true := rfl
theorem okA_sn : okA N (.slice none 0 0) = true := rfl
theorem okA_p {b o v : Nat} : okA N (.pointer (some ⟨b, o, some v⟩)) = true := rfl
theorem okA_sl {b o v l e : Nat} : okA N (.slice (some ⟨b, o, some v⟩) l e) = true := rfl
theorem okA_a {cs : Array Value} : okA N (.agg cs) = cs.toList.all (okC N) := rfl
theorem okC_b : okC N (.bool t) = true := rfl
theorem okC_i : okC N (.int k n) = true := rfl
theorem okC_fl {k : FloatKind} {b : Nat} : okC N (.float k b) = true := rfl
theorem okC_s {s : ByteArray} : okC N (.string s) = true := rfl
theorem okC_pn : okC N (.pointer none) = true := rfl
theorem okC_sn : okC N (.slice none 0 0) = true := rfl
theorem okC_p {b o v : Nat} : okC N (.pointer (some ⟨b, o, some v⟩)) = true := rfl
theorem okC_pl {b o : Nat} : okC N (.pointer (some ⟨b, o, none⟩)) = decide (b < N) := rfl
theorem okC_sl {b o v l e : Nat} : okC N (.slice (some ⟨b, o, some v⟩) l e) = true := rfl
theorem okC_nf : okC N .nilFunc = true := rfl
theorem okC_f {f : Fn} {a c : Array Value} : okC N (.func f a c) = (a.toList.all (okC0 N) && c.toList.all (okC0 N)) := rfl
theorem okC0_b : okC0 N (.bool t) = true := rfl
theorem okC0_i : okC0 N (.int k n) = true := rfl
theorem okC0_s {s : ByteArray} : okC0 N (.string s) = true := rfl
theorem okC0_p {b o v : Nat} : okC0 N (.pointer (some ⟨b, o, some v⟩)) = true := rfl
theorem okC0_pl {b o : Nat} : okC0 N (.pointer (some ⟨b, o, none⟩)) = decide (b < N) := rfl
end
section
theorem thenA_n {K : List Value → Mem → Prop} {Q : Exit → List Value → Mem → Prop} {env : List Value} {m : Mem} : thenA K Q .normal env m = K env m := rfl
theorem thenA_r {K : List Value → Mem → Prop} {Q : Exit → List Value → Mem → Prop} {env : List Value} {m : Mem} : thenA K Q .ret env m = Q .ret env m := rfl
theorem thenA_e {K : List Value → Mem → Prop} {Q : Exit → List Value → Mem → Prop} {env : List Value} {m : Mem} {id : Nat} : thenA K Q (.exit id) env m = Q (.exit id) env m := rfl
theorem blockA_n {Q : Exit → List Value → Mem → Prop} {env : List Value} {m : Mem} {id : Nat} : blockA id Q .normal env m = Q .normal env m := rfl
theorem blockA_r {Q : Exit → List Value → Mem → Prop} {env : List Value} {m : Mem} {id : Nat} : blockA id Q .ret env m = Q .ret env m := rfl
theorem blockA_e {Q : Exit → List Value → Mem → Prop} {env : List Value} {m : Mem} {id id' : Nat} : blockA id Q (.exit id') env m = if id' = id then Q .normal env m else Q (.exit id') env m := rfl
end
section
variable {P : Program} {Q : Exit → List Value → Mem → Prop} {env : List Value} {m : Mem}
theorem wpS_skip : wpS P .skip Q env m = Q .normal env m := rfl
theorem wpS_ops {l : List AI} : wpS P (.ops l) Q env m = iA P (Q .normal) l env m := rfl
theorem wpS_draw {t : DT} : wpS P (.draw t) Q env m = ∃ M, wpDT P M t env m ∧ ∀ env' m', M env' m' → Q .normal env' m' := rfl
theorem wpS_seq {a b : AC} : wpS P (.seq a b) Q env m = wpS P a (thenA (wpS P b Q) Q) env m := rfl
theorem wpS_cond {c : Operand} {a b : AC} : wpS P (.cond c a b) Q env m = condA (evA env c) (wpS P a Q env m) (wpS P b Q env m) := rfl
theorem wpS_block {id : Nat} {a : AC} : wpS P (.block id a) Q env m = wpS P a (blockA id Q) env m := rfl
theorem wpS_exit {id : Nat} : wpS P (.exit id) Q env m = Q (.exit id) env m := rfl
theorem wpS_ret : wpS P .ret Q env m = Q .ret env m := rfl
theorem resOne_t {t : Nat} : resOne P env m (.tmp t) = some (env.getD t undef) := rfl
theorem tup1_1 {v : Value} : tup1 [v] = v := rfl
theorem tup1_2 {v u : Value} {vs : List Value} : tup1 (v :: u :: vs) = .tuple (v :: u :: vs).toArray := rfl
def cellR (a : Bool) (n : Nat) (m : Mem) : Value → Option Value
  | .pointer (some p) => if a then (m.loads p n).map fun cs => .agg cs.toArray else m.load p
  | _ => none
theorem resOne_cell {a : Nat} {t : TypeId} : resOne P env m (.cell a t) = cellR (resOne.aggB P t) (resOne.sizeB P t) m (env.getD a undef) := by
  simp only [resOne, cellR]
  split <;> simp_all
theorem cellR_t {n : Nat} {p : Addr} : cellR true n m (.pointer (some p)) = (m.loads p n).map fun cs => .agg cs.toArray := rfl
theorem cellR_f {n : Nat} {p : Addr} : cellR false n m (.pointer (some p)) = m.load p := rfl
theorem cells_b {b : Bool} : (Value.bool b).cells = #[.bool b] := rfl
theorem cells_i {k : IntKind} {n : Int} : (Value.int k n).cells = #[.int k n] := rfl
theorem cells_f {k : FloatKind} {n : Nat} : (Value.float k n).cells = #[.float k n] := rfl
theorem cells_s {s : ByteArray} : (Value.string s).cells = #[.string s] := rfl
theorem cells_p {a : Option Addr} : (Value.pointer a).cells = #[.pointer a] := rfl
theorem cells_sl {a : Option Addr} {n e : Nat} : (Value.slice a n e).cells = #[.slice a n e] := rfl
theorem cells_nf : Value.nilFunc.cells = #[.nilFunc] := rfl
theorem cells_fn {f : Fn} {a c : Array Value} : (Value.func f a c).cells = #[.func f a c] := rfl
theorem cells_a {cs : Array Value} : (Value.agg cs).cells = cs := rfl
theorem putA_s {t : Nat} {v : Value} : putA env (some t) v = env.set t v := rfl
theorem putA_n {v : Value} : putA env none v = env := rfl
end
section
variable {v v' : Value}
theorem opW_congr {P : Program} {o : AOp} {env env' : List Value} {m m' : Mem} {K : Value → Mem → Prop} (h : env = env') (h2 : m = m') : opW P o env m K = opW P o env' m' K := by rw [h, h2]
theorem iA_congr {P : Program} {l : List AI} {env env' : List Value} {m m' : Mem} {K : List Value → Mem → Prop} (h : env = env') (h2 : m = m') : iA P K l env m = iA P K l env' m' := by rw [h, h2]
theorem wpS_congr {P : Program} {a : AC} {env env' : List Value} {m m' : Mem} {Q : Exit → List Value → Mem → Prop} (h : env = env') (h2 : m = m') : wpS P a Q env m = wpS P a Q env' m' := by rw [h, h2]
theorem guardW_congr (h : v = v') : guardW v w A B = guardW v' w A B := by rw [h]
theorem pickW_congr {a b : Value} (h : v = v') : pickW v a b K = pickW v' a b K := by rw [h]
theorem slStrW_congr {lo hi : Nat → Option Int} (h : v = v') : slStrW v lo hi K = slStrW v' lo hi K := by rw [h]
theorem slSlW_congr {esz : Nat} {lo hi : Nat → Option Int} (h : v = v') : slSlW esz v lo hi K = slSlW esz v' lo hi K := by rw [h]
theorem makeW_congr {esz b : Nat} {z : List Value} {m : Mem} {u u' : Value} {K : Value → Mem → Prop} (h : v = v') (h2 : u = u') : makeW esz b z m v u K = makeW esz b z m v' u' K := by rw [h, h2]
theorem lenSlW_congr (h : v = v') : lenSlW v K = lenSlW v' K := by rw [h]
theorem lenStrW_congr (h : v = v') : lenStrW v K = lenStrW v' K := by rw [h]
theorem strW_congr {K : ByteArray → Prop} (h : v = v') : strW v K = strW v' K := by rw [h]
theorem ptrW_congr {K : Addr → Prop} (h : v = v') : ptrW v K = ptrW v' K := by rw [h]
theorem nilW_congr (h : v = v') : nilW v K = nilW v' K := by rw [h]
theorem aggW_congr {K : List Value → Prop} (h : v = v') : aggW v K = aggW v' K := by rw [h]
theorem tupW_congr {i : Nat} (h : v = v') : tupW v i K = tupW v' i K := by rw [h]
theorem idxW_congr {esz : Nat} {i i' : Value} (h : v = v') (h2 : i = i') : idxW esz v i K = idxW esz v' i' K := by rw [h, h2]
theorem idxStrW_congr {i i' : Value} (h : v = v') (h2 : i = i') : idxStrW v i K = idxStrW v' i' K := by rw [h, h2]
theorem condA_congr (h : v = v') : condA v A B = condA v' A B := by rw [h]
theorem optW_congr {α : Type} {x x' : Option α} {K : α → Prop} (h : x = x') : optW x K = optW x' K := by rw [h]
theorem callW_congr {P : Program} {xs xs' : List Value} {m m' : Mem} {K : Value → Mem → Prop} (h : v = v') (h2 : xs = xs') (h3 : m = m') : callW P v xs m K = callW P v' xs' m' K := by rw [h, h2, h3]
theorem andW_congr0 {A A' : Prop} (h : A = A') : (A ∧ B) = (A' ∧ B) := by rw [h]
theorem iteW_congr {c c' : Prop} [Decidable c] [Decidable c'] (h : c = c') : (if c then A else B) = (if c' then A else B) := by subst h; congr
end
end
section
variable {P : Program} {t : TypeId} {x y : Operand} {k : IntKind} {a b : Int}
theorem bin_rem (h : b ≠ 0) : binA P .rem t x y (.int k a) (.int k b) = some (.int k (a.tmod b)) := by
  simp [binA, flat, flat1, eqGuard_rem, binOp_rem, Op.intDiv, pureRun, plainOnly, okK.plain, bind, Sem.bind, pure, h]
theorem bin_quo (h : b ≠ 0) : binA P .quo t x y (.int k a) (.int k b) = some (.int k (k.wrap (a.tdiv b))) := by
  simp [binA, flat, flat1, eqGuard_quo, binOp_quo, Op.intDiv, pureRun, plainOnly, okK.plain, bind, Sem.bind, pure, h]
theorem bin_addS {a b : ByteArray} (h : a.size + b.size ≤ 9223372036854775807) : binA P .add t x y (.string a) (.string b) = some (.string (a ++ b)) := by
  have h' : ¬ ((9223372036854775807 : Int) < a.size + b.size) := by omega
  simp [binA, flat, flat1, eqGuard_add, binOp_string_add, Op.stringOp, pureRun, plainOnly, okK.plain, bind, Sem.bind, pure, h']
end
/-- A term that no walk looks into: the type of its second part leans on it. -/
abbrev Dep {α : Sort u} (_ : α) : Type := Unit
def hold {α : Sort u} (x : α) (_ : Dep x) : α := x
theorem hold_eq {α : Sort u} (x : α) (u : Dep x) : hold x u = x := rfl
theorem hold_top {A : Prop} {u : Dep A} (h : A) : hold A u := h
theorem ifP_t {A B : Prop} {d : Decidable True} : (if True then A else B) = A := by simp
theorem ifP_f {A B : Prop} {d : Decidable False} : (if False then A else B) = B := by simp
theorem hold_1 {α : Sort u} {β : Sort v} {f : α → β} {u : Dep f} {a : α} : hold f u a = f a := rfl
theorem hold_2 {α : Sort u} {β : Sort v} {γ : Sort w} {f : α → β → γ} {u : Dep f} {a : α} {b : β} : hold f u a b = f a b := rfl
theorem hold_3 {α : Sort u} {β : Sort v} {γ : Sort w} {δ : Sort x} {f : α → β → γ → δ} {u : Dep f} {a : α} {b : β} {c : γ} : hold f u a b c = f a b c := rfl
def andW (A B : Prop) : Prop := A ∧ B
theorem andW_t {B : Prop} {u : Dep B} : andW True (hold B u) = B := by simp [andW, hold]
theorem andW_i {A B : Prop} {u : Dep B} (h : A) (h' : B) : andW A (hold B u) := ⟨h, h'⟩
theorem iteH_t {A B : Prop} {u : Dep A} {d : Decidable True} : (if True then hold A u else B) = A := by simp [hold]
theorem iteH_f {A B : Prop} {u : Dep B} {d : Decidable False} : (if False then A else hold B u) = B := by simp [hold]
theorem iteV_t {d : Decidable True} {a b : Value} : (if True then a else b) = a := by simp
theorem iteV_f {d : Decidable False} {a b : Value} : (if False then a else b) = b := by simp
theorem iteO_t {d : Decidable True} {α : Type} {a b : Option α} : (if True then a else b) = a := by simp
theorem iteO_f {d : Decidable False} {α : Type} {a b : Option α} : (if False then a else b) = b := by simp
section
variable {P : Program} {env : List Value} {m : Mem} {K : Value → Mem → Prop}
theorem opW_mov_h {x : Operand} : opW P (.mov x) env m K = K (evA env x) m := opW_mov
theorem opW_pick_h {c a b : Operand} : opW P (.pick c a b) env m K = pickW (evA env c) (evA env a) (evA env b) (hold (fun v => K v m) ()) := opW_pick
theorem opW_newS_h {z : List Value} : opW P (.new false z) env m K = K (.pointer (some ⟨m.stk.length, 0, none⟩)) (m.box z) := opW_newS
theorem opW_newH_h {z : List Value} : opW P (.new true z) env m K = K (.pointer (some ⟨m.heap.length, 0, some 0⟩)) (m.push z) := opW_newH
theorem opW_boxS_h {x : Operand} : opW P (.box false x) env m K = boxW (m.stk.length + 1) (evA env x).cells.toList (hold (K (.pointer (some ⟨m.stk.length, 0, none⟩)) (m.box (evA env x).cells.toList)) ()) := opW_boxS
theorem opW_boxH_h {x : Operand} : opW P (.box true x) env m K = boxW 0 (evA env x).cells.toList (hold (K (.pointer (some ⟨m.heap.length, 0, some 0⟩)) (m.push (evA env x).cells.toList)) ()) := opW_boxH
theorem opW_build_h {z : List Value} {ps : List (Nat × Nat × Operand)} : opW P (.build z ps) env m K = optW (fillA z (partsA env ps)) (hold (fun cs => K (.agg cs.toArray) m) ()) := opW_build
theorem opW_mkSlice_h {e n : Nat} {z : List Value} {ps : List (Nat × Nat × Operand)} :
    opW P (.mkSlice e n z ps) env m K = optW (fillA (List.replicate n z).flatten (partsA env ps)) (hold (fun cs => boxW 0 cs (hold (K (.slice (some ⟨m.heap.length, 0, some 0⟩) n e) (m.push cs)) ())) ()) := opW_mkSlice
theorem opW_load_h {x : Operand} : opW P (.load x) env m K = ptrW (evA env x) (hold (fun a => optW (m.load a) (hold (fun v => K v m) ())) ()) := opW_load
theorem opW_loadN_h {x : Operand} {n : Nat} : opW P (.loadN x n) env m K = ptrW (evA env x) (hold (fun a => optW (m.loads a n) (hold (fun cs => K (.agg cs.toArray) m) ())) ()) := opW_loadN
theorem opW_store_h {x v : Operand} {n : Nat} : opW P (.store n x v) env m K = ptrW (evA env x) (hold (fun a => stW n (evA env v) (hold (optW (m.stores a (evA env v).cells.toList) (hold (fun m' => K undef m') ())) ())) ()) := opW_store
theorem opW_nilCheck_h {x : Operand} : opW P (.nilCheck x) env m K = nilW (evA env x) (hold (fun v => K v m) ()) := opW_nilCheck
theorem opW_bin_h {op : BinOp} {t : TypeId} {x y : Operand} : opW P (.bin op t x y) env m K = optW (binA P op t x y (evA env x) (evA env y)) (hold (fun v => K v m) ()) := opW_bin
theorem opW_isNil_h {kd : Nat} {neg : Bool} {x y : Operand} : opW P (.isNil kd neg x y) env m K = optW (isNilA kd (evA env x) (evA env y)) (hold (fun b => K (.bool (b != neg)) m) ()) := opW_isNil
theorem opW_un_h {op : UnOp} {x : Operand} : opW P (.un op x) env m K = optW (unA op (evA env x)) (hold (fun v => K v m) ()) := opW_un
theorem opW_convI_h {k : IntKind} {x : Operand} : opW P (.convI k x) env m K = optW (intOf (evA env x)) (hold (fun n => K (.int k (k.wrap n)) m) ()) := opW_convI
theorem opW_convP_h {src dst : TypeId} {x : Operand} : opW P (.convP src dst x) env m K = andW (flat (evA env x) = true) (hold (optW (plainOnly (pureRun P (convert src dst (evA env x)))) (hold (fun v => K v m) ())) ()) := opW_convP
theorem opW_convBS_h {x : Operand} : opW P (.convBS x) env m K = optW (m.sliceCells 1 (evA env x)) (hold (fun r => optW (r.2.mapM byteA) (hold (fun bs => K (.string ⟨bs.toArray⟩) m) ())) ()) := opW_convBS
theorem opW_extract_h {x : Operand} {i : Nat} : opW P (.extract x i) env m K = tupW (evA env x) i (hold (fun v => K v m) ()) := opW_extract
theorem opW_fieldAddr_h {x : Operand} {off : Nat} : opW P (.fieldAddr x off) env m K = ptrW (evA env x) (hold (fun a => K (.pointer (some ⟨a.block, a.off + off, a.spot⟩)) m) ()) := opW_fieldAddr
theorem opW_field1_h {x : Operand} {off : Nat} : opW P (.field x off none) env m K = aggW (evA env x) (hold (fun cs => optW (cs[off]?) (hold (fun v => K v m) ())) ()) := opW_field1
theorem opW_fieldN_h {x : Operand} {off n : Nat} : opW P (.field x off (some n)) env m K = aggW (evA env x) (hold (fun cs => andW (off + n ≤ cs.length) (hold (K (.agg ((cs.drop off).take n).toArray) m) ())) ()) := opW_fieldN
theorem opW_idxSl_h {x i : Operand} {esz : Nat} : opW P (.idxSl x i esz) env m K = idxW esz (evA env x) (evA env i) (hold (fun v => K v m) ()) := opW_idxSl
theorem opW_idxStr_h {x i : Operand} : opW P (.idxStr x i) env m K = idxStrW (evA env x) (evA env i) (hold (fun v => K v m) ()) := opW_idxStr
theorem opW_slStr_h {x : Operand} {lo hi : Option Operand} : opW P (.slStr x lo hi) env m K = slStrW (evA env x) (fun d => boundA env d lo) (fun d => boundA env d hi) (hold (fun v => K v m) ()) := opW_slStr
theorem opW_slSl_h {x : Operand} {lo hi : Option Operand} {esz : Nat} : opW P (.slSl x lo hi esz) env m K = slSlW esz (evA env x) (fun d => boundA env d lo) (fun d => boundA env d hi) (hold (fun v => K v m) ()) := opW_slSl
theorem opW_fn_h {f : FuncId} {first cap : List Operand} : opW P (.fn f first cap) env m K = K (.func (.func f) (first.map (evA env)).toArray (cap.map (evA env)).toArray) m := opW_fn
theorem opW_make_h {esz bytes : Nat} {z : List Value} {l c : Operand} : opW P (.make esz bytes z l c) env m K = makeW esz bytes z m (evA env l) (evA env c) K := opW_make
theorem opW_lenSl_h {x : Operand} : opW P (.lenSl x) env m K = lenSlW (evA env x) (hold (fun v => K v m) ()) := opW_lenSl
theorem opW_append_h {esz bytes : Nat} {s x : Operand} : opW P (.append esz bytes s x) env m K = optW (m.sliceCells esz (evA env x)) (hold (fun r => optW (appendA m esz bytes (evA env s) r.1 r.2) (hold (fun q => K q.1 q.2) ())) ()) := opW_append
theorem opW_appStr_h {s x : Operand} : opW P (.appStr s x) env m K = strW (evA env x) (hold (fun t => optW (appendA m 1 1 (evA env s) t.size (t.data.toList.map fun b => .int .u8 b.toNat)) (hold (fun q => K q.1 q.2) ())) ()) := opW_appStr
theorem opW_call_h {f : Operand} {args : List Operand} : opW P (.call f args) env m K = callW P (evA env f) (args.map (evA env)) m K := opW_call
theorem opW_lenStr_h {x : Operand} : opW P (.lenStr x) env m K = lenStrW (evA env x) (hold (fun v => K v m) ()) := opW_lenStr'
end
section
variable {P : Program} {K : List Value → Mem → Prop} {d : Option Tmp} {o : AOp} {t : Nat} {w : Bool} {rest : List AI} {env : List Value} {m : Mem}
theorem iA_cons_h : iA P K (⟨d, none, o⟩ :: rest) env m = opW P o env m (hold (fun v m' => iA P K rest (putA env d v) m') ()) := iA_cons
theorem iA_guard_h : iA P K (⟨d, some (t, w), o⟩ :: rest) env m =
    guardW (env.getD t undef) w (hold (opW P o env m (hold (fun v m' => iA P K rest (putA env d v) m') ())) ()) (hold (iA P K rest (putA env d undef) m) ()) := iA_guard
end
section
variable {A B : Prop}
theorem guardW_tt {u : Dep A} : guardW (.bool true) true (hold A u) B = A := by simp [hold, guardW]
theorem guardW_tf {u : Dep B} : guardW (.bool true) false A (hold B u) = B := by simp [hold, guardW]
theorem guardW_ft {u : Dep B} : guardW (.bool false) true A (hold B u) = B := by simp [hold, guardW]
theorem guardW_ff {u : Dep A} : guardW (.bool false) false (hold A u) B = A := by simp [hold, guardW]
theorem guardW_uh {w : Bool} {u : Dep B} : guardW undef w A (hold B u) = B := rfl
theorem condA_t {u : Dep A} : condA (.bool true) (hold A u) B = A := by simp [hold, condA]
theorem condA_f {u : Dep B} : condA (.bool false) A (hold B u) = B := by simp [hold, condA]
theorem boxW_h {n : Nat} {cells : List Value} : boxW n cells A = andW (cells.all (okC n) = true) A := rfl
theorem stW_h {n : Nat} {v : Value} : stW n v A = andW (v.cells.size = n) A := rfl
end
section
variable {P : Program} {Q : Exit → List Value → Mem → Prop} {env : List Value} {m : Mem}
theorem blockA_same {id : Nat} : blockA id Q (.exit id) env m = Q .normal env m := by simp [blockA]
theorem blockA_ne {id id' : Nat} (h : ¬ id' = id) : blockA id Q (.exit id') env m = Q (.exit id') env m := by simp [blockA, h]
theorem blockA_eh {id id' : Nat} : blockA id Q (.exit id') env m = if id' = id then hold (Q .normal env m) () else hold (Q (.exit id') env m) () := rfl
theorem wpS_ops_h {l : List AI} : wpS P (.ops l) Q env m = iA P (hold (Q .normal) ()) l env m := rfl
theorem wpS_seq_h {a b : AC} : wpS P (.seq a b) Q env m = wpS P a (hold (thenA (wpS P b Q) Q) ()) env m := rfl
theorem wpS_cond_h {c : Operand} {a b : AC} : wpS P (.cond c a b) Q env m = condA (evA env c) (hold (wpS P a Q env m) ()) (hold (wpS P b Q env m) ()) := rfl
theorem wpS_block_h {id : Nat} {a : AC} : wpS P (.block id a) Q env m = wpS P a (hold (blockA id Q) ()) env m := rfl
theorem wpS_loop_h {a : AC} : wpS P (.loop a) Q env m = loopS P a (hold Q ()) env m := rfl
end
section
variable {K : Value → Prop} {k : IntKind} {n : Int}
theorem idxW_sh {esz : Nat} {a : Addr} {len e : Nat} : idxW esz (.slice (some a) len e) (.int k n) K = andW (0 ≤ n ∧ n < len ∧ e = esz) (hold (K (.pointer (some ⟨a.block, a.off + n.toNat * esz, a.spot⟩))) ()) := rfl
theorem idxStrW_sh {s : ByteArray} : idxStrW (.string s) (.int k n) K = andW (0 ≤ n) (hold (optW (s.data.toList[n.toNat]?) (hold (fun b => K (.int .u8 b.toNat)) ())) ()) := rfl
theorem slStrW_sh {s : ByteArray} {lo hi : Nat → Option Int} :
    slStrW (.string s) lo hi K = optW (lo 0) (hold (fun l => optW (hi s.size) (hold (fun h => andW (0 ≤ l ∧ l ≤ h ∧ h ≤ s.size) (hold (K (.string (s.extract l.toNat h.toNat))) ())) ())) ()) := rfl
theorem slSlW_sh {esz : Nat} {a : Addr} {len e : Nat} {lo hi : Nat → Option Int} :
    slSlW esz (.slice (some a) len e) lo hi K = optW (lo 0) (hold (fun l => optW (hi len) (hold (fun h => andW (0 ≤ l ∧ l ≤ h ∧ h ≤ len ∧ e = esz) (hold (K (.slice (some ⟨a.block, a.off + l.toNat * esz, a.spot⟩) (h.toNat - l.toNat) esz)) ())) ())) ()) := rfl
theorem makeW_ih {esz bytes : Nat} {z : List Value} {m : Mem} {l c : Int} {k' : IntKind} {K : Value → Mem → Prop} :
    makeW esz bytes z m (.int k l) (.int k' c) K = andW (0 ≤ l ∧ l ≤ c ∧ c * bytes ≤ 281474976710656 ∧ c ≤ 9223372036854775807) (hold (K (.slice (some ⟨m.heap.length, 0, some 0⟩) l.toNat esz) (m.push (List.replicate l.toNat z).flatten)) ()) := rfl
theorem callW_fh {P : Program} {g : FuncId} {a c : Array Value} {args : List Value} {m : Mem} {K : Value → Mem → Prop} :
    callW P (.func (.func g) a c) args m K = andW (enters P g = true) (hold (ACalls P g (a.toList ++ args ++ c.toList) m K) ()) := rfl
theorem ite_h {c A B : Prop} [Decidable c] {u : Dep A} {v : Dep B} (h1 : c → A) (h2 : ¬ c → B) : if c then hold A u else hold B v := by
  by_cases h : c
  · rw [if_pos h]; exact h1 h
  · rw [if_neg h]; exact h2 h
end
end Go.AM
