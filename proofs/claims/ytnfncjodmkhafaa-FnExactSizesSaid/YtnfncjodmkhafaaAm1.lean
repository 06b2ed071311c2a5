/-
  The abstract machine, first part: abstract memory, the relation between abstract and concrete values, and what it means that a concrete world backs an abstract memory.
-/
import Derived.Calls
import Derived.Orders
import Derived.Laws.World
import Derived.Laws.Sem
import Derived.Laws.Entries
set_option linter.all false
set_option linter.unusedSimpArgs false
set_option linter.unusedVariables false
namespace Go.AM

/-- A block of the abstract heap: its cells; its version (each append makes a new one); may it be written? -/
structure Blk where
  cells : List Value
  ver : Nat
  rw : Bool

/-- Abstract memory: heap blocks by number; blocks of locals by number. -/
structure Mem where
  heap : List Blk
  stk : List (List Value)

/-- A place in the concrete heap: block, offset in it, the block's size. -/
structure Loc where
  blk : Nat
  off : Nat
  size : Nat

/-- Where an abstract block lies: its number; 'none' for a local, 'some version' for a heap block. -/
abbrev Rho := Nat → Option Nat → Option Loc

def nan64 (b : Nat) : Prop := (b / 2 ^ 52) % 2048 = 2047 ∧ b % 2 ^ 52 ≠ 0

inductive VRel (ρ : Rho) : Value → Value → Prop where
  | bool (b : Bool) : VRel ρ (.bool b) (.bool b)
  | int (k : IntKind) (n : Int) : VRel ρ (.int k n) (.int k n)
  | float (k : FloatKind) (b b' : Nat) (h : b = b' ∨ (nan64 b ∧ nan64 b')) : VRel ρ (.float k b) (.float k b')
  | string (s : ByteArray) : VRel ρ (.string s) (.string s)
  | ptrNil : VRel ρ (.pointer none) (.pointer none)
  | ptr (b off : Nat) (sp : Option Nat) (L : Loc) (h : ρ b sp = some L) : VRel ρ (.pointer (some ⟨b, off, sp⟩)) (.pointer (some ⟨L.blk, L.off + off, none⟩))
  | sliceNil (x : Option Addr) : VRel ρ (.slice none 0 0) (.slice x 0 0)
  | slice (b off : Nat) (sp : Option Nat) (len esz : Nat) (L : Loc) (o' cap' : Nat) (h : ρ b sp = some L) (ho : 0 < cap' → o' = L.off + off)
      (hl : len ≤ cap') (hs : L.off + off + cap' * esz ≤ L.size) :
      VRel ρ (.slice (some ⟨b, off, sp⟩) len esz) (.slice (some ⟨L.blk, o', none⟩) len cap')
  | nilFunc : VRel ρ .nilFunc .nilFunc
  | nilIface : VRel ρ .nilIface .nilIface
  | func (fn : Fn) (xs ys us vs : Array Value) (h1 : xs.toList.length = ys.toList.length)
      (h2 : ∀ (i : Nat) (x y : Value), xs.toList[i]? = some x → ys.toList[i]? = some y → VRel ρ x y)
      (h3 : us.toList.length = vs.toList.length)
      (h4 : ∀ (i : Nat) (x y : Value), us.toList[i]? = some x → vs.toList[i]? = some y → VRel ρ x y) : VRel ρ (.func fn xs us) (.func fn ys vs)
  | agg (xs ys : Array Value) (h1 : xs.toList.length = ys.toList.length)
      (h2 : ∀ (i : Nat) (x y : Value), xs.toList[i]? = some x → ys.toList[i]? = some y → VRel ρ x y) : VRel ρ (.agg xs) (.agg ys)
  | tuple (xs ys : Array Value) (h1 : xs.toList.length = ys.toList.length)
      (h2 : ∀ (i : Nat) (x y : Value), xs.toList[i]? = some x → ys.toList[i]? = some y → VRel ρ x y) : VRel ρ (.tuple xs) (.tuple ys)

/-- Two lists of values, one by one. -/
def LRel (ρ : Rho) (xs ys : List Value) : Prop :=
  xs.length = ys.length ∧ ∀ (i : Nat) (x y : Value), xs[i]? = some x → ys[i]? = some y → VRel ρ x y

theorem VRel.aggL {ρ : Rho} {xs ys : List Value} (h : LRel ρ xs ys) : VRel ρ (.agg xs.toArray) (.agg ys.toArray) := .agg _ _ h.1 h.2
theorem VRel.tupleL {ρ : Rho} {xs ys : List Value} (h : LRel ρ xs ys) : VRel ρ (.tuple xs.toArray) (.tuple ys.toArray) := .tuple _ _ h.1 h.2
theorem VRel.undef (ρ : Rho) : VRel ρ undef undef := .tuple _ _ rfl (by simp)

theorem LRel.nil (ρ : Rho) : LRel ρ [] [] := ⟨rfl, by simp⟩
theorem LRel.cons {ρ : Rho} {x y : Value} {xs ys : List Value} (h : VRel ρ x y) (hs : LRel ρ xs ys) : LRel ρ (x :: xs) (y :: ys) := by
  refine ⟨by simp [hs.1], fun i a b ha hb => ?_⟩
  cases i with
  | zero => simp at ha hb; subst ha; subst hb; exact h
  | succ i => exact hs.2 i a b (by simpa using ha) (by simpa using hb)
theorem LRel.of_get {ρ : Rho} {xs ys : List Value} (hl : xs.length = ys.length) (h : ∀ (i : Nat) (x : Value), xs[i]? = some x → ∃ y, ys[i]? = some y ∧ VRel ρ x y) : LRel ρ xs ys :=
  ⟨hl, fun i x y hx hy => by obtain ⟨z, hz, hv⟩ := h i x hx; rw [hy] at hz; cases hz; exact hv⟩
theorem LRel.get {ρ : Rho} {xs ys : List Value} (h : LRel ρ xs ys) {i : Nat} {x : Value} (hx : xs[i]? = some x) : ∃ y, ys[i]? = some y ∧ VRel ρ x y := by
  have hi : i < ys.length := by
    rw [← h.1]; exact (List.getElem?_eq_some_iff.1 hx).1
  exact ⟨ys[i], List.getElem?_eq_getElem hi, h.2 i x _ hx (List.getElem?_eq_getElem hi)⟩
theorem LRel.getD {ρ : Rho} {xs ys : List Value} (h : LRel ρ xs ys) (i : Nat) {d d' : Value} (hd : VRel ρ d d') : VRel ρ (xs.getD i d) (ys.getD i d') := by
  cases hx : xs[i]? with
  | none =>
    have : ys[i]? = none := by
      rw [List.getElem?_eq_none_iff] at hx ⊢; rw [← h.1]; exact hx
    simp [List.getD, hx, this, hd]
  | some x =>
    obtain ⟨y, hy, hv⟩ := h.get hx
    simp [List.getD, hx, hy, hv]
theorem LRel.set {ρ : Rho} {xs ys : List Value} (h : LRel ρ xs ys) (i : Nat) {v v' : Value} (hv : VRel ρ v v') : LRel ρ (xs.set i v) (ys.set i v') := by
  refine ⟨by simp [h.1], fun j x y hx hy => ?_⟩
  rw [List.getElem?_set] at hx hy
  by_cases hij : i = j
  · subst hij
    simp only [if_true] at hx hy
    split at hx <;> split at hy <;> simp_all
  · simp only [hij, if_false] at hx hy
    exact h.2 j x y hx hy
theorem LRel.append {ρ : Rho} {xs ys us vs : List Value} (h : LRel ρ xs ys) (h' : LRel ρ us vs) : LRel ρ (xs ++ us) (ys ++ vs) := by
  refine .of_get (by simp [h.1, h'.1]) fun i x hx => ?_
  rw [List.getElem?_append] at hx
  rw [List.getElem?_append, ← h.1]
  split at hx
  · rename_i hi; simp only [hi, if_true]; exact h.get hx
  · rename_i hi; simp only [hi, if_false]; exact h'.get hx
theorem LRel.take {ρ : Rho} {xs ys : List Value} (h : LRel ρ xs ys) (n : Nat) : LRel ρ (xs.take n) (ys.take n) := by
  refine .of_get (by simp [h.1]) fun i x hx => ?_
  rw [List.getElem?_take] at hx ⊢
  split at hx
  · rename_i hi; simp only [hi, if_true]; exact h.get hx
  · cases hx
theorem LRel.drop {ρ : Rho} {xs ys : List Value} (h : LRel ρ xs ys) (n : Nat) : LRel ρ (xs.drop n) (ys.drop n) := by
  refine .of_get (by simp [h.1]) fun i x hx => ?_
  rw [List.getElem?_drop] at hx ⊢
  exact h.get hx

/-- One environment says at least what the other one says. -/
def Rho.le (ρ ρ' : Rho) : Prop := ∀ b sp L, ρ b sp = some L → ρ' b sp = some L
theorem Rho.le.refl (ρ : Rho) : ρ.le ρ := fun _ _ _ h => h
theorem Rho.le.trans {ρ ρ' ρ'' : Rho} (h : ρ.le ρ') (h' : ρ'.le ρ'') : ρ.le ρ'' := fun b sp L hb => h' b sp L (h b sp L hb)

theorem VRel.mono {ρ ρ' : Rho} (h : ρ.le ρ') {x y : Value} (hv : VRel ρ x y) : VRel ρ' x y := by
  induction hv with
  | bool b => exact .bool b
  | int k n => exact .int k n
  | float k b b' h => exact .float k b b' h
  | string s => exact .string s
  | ptrNil => exact .ptrNil
  | ptr b off sp L hb => exact .ptr b off sp L (h _ _ _ hb)
  | sliceNil x => exact .sliceNil x
  | slice b off sp len esz L o' cap' hb ho hl hs => exact .slice b off sp len esz L o' cap' (h _ _ _ hb) ho hl hs
  | nilFunc => exact .nilFunc
  | nilIface => exact .nilIface
  | func fn xs ys us vs h1 h2 h3 h4 ih2 ih4 => exact .func fn xs ys us vs h1 ih2 h3 ih4
  | agg xs ys h1 h2 ih => exact .agg xs ys h1 ih
  | tuple xs ys h1 h2 ih => exact .tuple xs ys h1 ih
theorem LRel.mono {ρ ρ' : Rho} (h : ρ.le ρ') {xs ys : List Value} (hv : LRel ρ xs ys) : LRel ρ' xs ys := ⟨hv.1, fun i x y hx hy => (hv.2 i x y hx hy).mono h⟩

/-- 'v' points to no local from the n-th on. -/
inductive Low (n : Nat) : Value → Prop where
  | bool (b : Bool) : Low n (.bool b)
  | int (k : IntKind) (i : Int) : Low n (.int k i)
  | float (k : FloatKind) (b : Nat) : Low n (.float k b)
  | string (s : ByteArray) : Low n (.string s)
  | ptrNil : Low n (.pointer none)
  | ptr (b off : Nat) (sp : Option Nat) (h : sp = none → b < n) : Low n (.pointer (some ⟨b, off, sp⟩))
  | sliceNil : Low n (.slice none 0 0)
  | slice (b off : Nat) (sp : Option Nat) (len esz : Nat) (h : sp = none → b < n) : Low n (.slice (some ⟨b, off, sp⟩) len esz)
  | nilFunc : Low n .nilFunc
  | nilIface : Low n .nilIface
  | func (fn : Fn) (xs us : Array Value) (h2 : ∀ x ∈ xs.toList, Low n x) (h4 : ∀ x ∈ us.toList, Low n x) : Low n (.func fn xs us)
  | agg (xs : Array Value) (h2 : ∀ x ∈ xs.toList, Low n x) : Low n (.agg xs)
  | tuple (xs : Array Value) (h2 : ∀ x ∈ xs.toList, Low n x) : Low n (.tuple xs)

theorem Low.mono {n m : Nat} (h : n ≤ m) {v : Value} (hv : Low n v) : Low m v := by
  induction hv with
  | ptr b off sp hb => exact .ptr b off sp fun e => Nat.lt_of_lt_of_le (hb e) h
  | slice b off sp len esz hb => exact .slice b off sp len esz fun e => Nat.lt_of_lt_of_le (hb e) h
  | func fn xs us h2 h4 ih2 ih4 => exact .func fn xs us ih2 ih4
  | agg xs h2 ih => exact .agg xs ih
  | tuple xs h2 ih => exact .tuple xs ih
  | bool b => exact .bool b
  | int k i => exact .int k i
  | float k b => exact .float k b
  | string s => exact .string s
  | ptrNil => exact .ptrNil
  | sliceNil => exact .sliceNil
  | nilFunc => exact .nilFunc
  | nilIface => exact .nilIface

/-- The environment without the locals from the n-th on. -/
def Rho.cut (ρ : Rho) (n : Nat) : Rho := fun b sp => if sp = none ∧ n ≤ b then none else ρ b sp
theorem Rho.cut_le (ρ : Rho) (n : Nat) : (ρ.cut n).le ρ := by
  intro b sp L h
  unfold Rho.cut at h
  split at h
  · cases h
  · exact h
theorem Rho.cut_some {ρ : Rho} {n b : Nat} {sp : Option Nat} {L : Loc} (h : ρ b sp = some L) (hb : sp = none → b < n) : ρ.cut n b sp = some L := by
  unfold Rho.cut
  split
  · rename_i hc; have := hb hc.1; omega
  · exact h
/-- Where a value has a counterpart, it has it in each smaller environment that knows all that it points to. -/
theorem VRel.restrict {ρ ρ' : Rho} {n : Nat} (hle : ∀ b sp L, ρ b sp = some L → (sp = none → b < n) → ρ' b sp = some L) {x y : Value} (hv : VRel ρ x y) (hx : Low n x) : VRel ρ' x y := by
  induction hv with
  | bool b => exact .bool b
  | int k n => exact .int k n
  | float k b b' h => exact .float k b b' h
  | string s => exact .string s
  | ptrNil => exact .ptrNil
  | ptr b off sp L hb => cases hx with | ptr _ _ _ hl => exact .ptr b off sp L (hle _ _ _ hb hl)
  | sliceNil x => exact .sliceNil x
  | slice b off sp len esz L o' cap' hb ho hl hs => cases hx with | slice _ _ _ _ _ hl' => exact .slice b off sp len esz L o' cap' (hle _ _ _ hb hl') ho hl hs
  | nilFunc => exact .nilFunc
  | nilIface => exact .nilIface
  | func fn xs ys us vs h1 h2 h3 h4 ih2 ih4 =>
    cases hx with
    | func _ _ _ l2 l4 =>
      exact .func fn xs ys us vs h1 (fun i x y hx hy => ih2 i x y hx hy (l2 x (List.mem_of_getElem? hx))) h3 (fun i x y hx hy => ih4 i x y hx hy (l4 x (List.mem_of_getElem? hx)))
  | agg xs ys h1 h2 ih =>
    cases hx with | agg _ l2 => exact .agg xs ys h1 fun i x y hx hy => ih i x y hx hy (l2 x (List.mem_of_getElem? hx))
  | tuple xs ys h1 h2 ih =>
    cases hx with | tuple _ l2 => exact .tuple xs ys h1 fun i x y hx hy => ih i x y hx hy (l2 x (List.mem_of_getElem? hx))
/-- The same concrete value relation in a smaller environment in which the abstract value had a counterpart before. -/
theorem VRel.back {ρ ρ' : Rho} (hle : ρ.le ρ') {x y : Value} (hv : VRel ρ x y) : ∀ {y' : Value}, VRel ρ' x y' → VRel ρ x y' := by
  induction hv with
  | bool b => intro y' h; cases h; exact .bool b
  | int k n => intro y' h; cases h; exact .int k n
  | float k b b' h => intro y' h; cases h with | float _ _ _ h => exact .float _ _ _ h
  | string s => intro y' h; cases h; exact .string s
  | ptrNil => intro y' h; cases h; exact .ptrNil
  | ptr b off sp L hb =>
    intro y' h; cases h with
    | ptr _ _ _ L' hb' => have := hle _ _ _ hb; rw [this] at hb'; cases hb'; exact .ptr b off sp L hb
  | sliceNil x => intro y' h; cases h; exact .sliceNil _
  | slice b off sp len esz L o' cap' hb ho hl hs =>
    intro y' h; cases h with
    | slice _ _ _ _ _ L' o'' cap'' hb' ho' hl' hs' => have := hle _ _ _ hb; rw [this] at hb'; cases hb'; exact .slice b off sp len esz L o'' cap'' hb ho' hl' hs'
  | nilFunc => intro y' h; cases h; exact .nilFunc
  | nilIface => intro y' h; cases h; exact .nilIface
  | func fn xs ys us vs h1 h2 h3 h4 ih2 ih4 =>
    intro y' h; cases h with
    | func _ _ ys' _ vs' g1 g2 g3 g4 =>
      refine .func fn xs ys' us vs' g1 (fun i x y hx hy => ?_) g3 (fun i x y hx hy => ?_)
      · obtain ⟨z, hz⟩ : ∃ z, ys.toList[i]? = some z := ⟨_, List.getElem?_eq_getElem (by rw [← h1]; exact (List.getElem?_eq_some_iff.1 hx).1)⟩
        exact ih2 i x z hx hz (g2 i x y hx hy)
      · obtain ⟨z, hz⟩ : ∃ z, vs.toList[i]? = some z := ⟨_, List.getElem?_eq_getElem (by rw [← h3]; exact (List.getElem?_eq_some_iff.1 hx).1)⟩
        exact ih4 i x z hx hz (g4 i x y hx hy)
  | agg xs ys h1 h2 ih =>
    intro y' h; cases h with
    | agg _ ys' g1 g2 =>
      refine .agg xs ys' g1 (fun i x y hx hy => ?_)
      obtain ⟨z, hz⟩ : ∃ z, ys.toList[i]? = some z := ⟨_, List.getElem?_eq_getElem (by rw [← h1]; exact (List.getElem?_eq_some_iff.1 hx).1)⟩
      exact ih i x z hx hz (g2 i x y hx hy)
  | tuple xs ys h1 h2 ih =>
    intro y' h; cases h with
    | tuple _ ys' g1 g2 =>
      refine .tuple xs ys' g1 (fun i x y hx hy => ?_)
      obtain ⟨z, hz⟩ : ∃ z, ys.toList[i]? = some z := ⟨_, List.getElem?_eq_getElem (by rw [← h1]; exact (List.getElem?_eq_some_iff.1 hx).1)⟩
      exact ih i x z hx hz (g2 i x y hx hy)
end Go.AM
