/-
  The abstract machine, second part: what it means that a concrete world backs an abstract memory; loads, stores and new blocks.
-/
import Derived.Test.YtnfncjodmkhafaaAm1
import Derived.Laws.Cells
set_option linter.all false
set_option linter.unusedSimpArgs false
set_option linter.unusedVariables false
namespace Go.AM

/-- The cells of an abstract block under a key; may it be written? -/
def Mem.at (m : Mem) (b : Nat) : Option Nat → Option (List Value × Bool)
  | none => (m.stk[b]?).map fun c => (c, true)
  | some v => (m.heap[b]?).bind fun blk => if blk.ver = v then some (blk.cells, blk.rw) else none

def Mem.known (m : Mem) (b : Nat) : Option Nat → Prop
  | none => b < m.stk.length
  | some v => ∃ blk, m.heap[b]? = some blk ∧ v ≤ blk.ver

/-- May a value lie in a cell of a block that sees the locals below n? -/
def okC0 (n : Nat) : Value → Bool
  | .bool _ | .int _ _ | .float _ _ | .string _ | .pointer none | .slice none 0 0 | .nilFunc | .nilIface => true
  | .pointer (some ⟨b, _, none⟩) => decide (b < n)
  | .pointer (some ⟨_, _, some _⟩) => true
  | .slice (some ⟨b, _, none⟩) _ _ => decide (b < n)
  | .slice (some ⟨_, _, some _⟩) _ _ => true
  | _ => false
def okC (n : Nat) : Value → Bool
  | .func _ f c => f.toList.all (okC0 n) && c.toList.all (okC0 n)
  | v => okC0 n v
def okA (n : Nat) : Value → Bool
  | .agg cs => cs.toList.all (okC n)
  | v => okC n v
def okV (n : Nat) : Value → Bool
  | .tuple vs => vs.toList.all (okA n)
  | v => okA n v

theorem okC0_low {n : Nat} {v : Value} (h : okC0 n v = true) : Low n v ∧ v.oneCell' = true := by
  unfold okC0 at h
  split at h <;> first
    | (exact ⟨.bool _, rfl⟩) | (exact ⟨.int _ _, rfl⟩) | (exact ⟨.float _ _, rfl⟩) | (exact ⟨.string _, rfl⟩) | (exact ⟨.ptrNil, rfl⟩) | (exact ⟨.sliceNil, rfl⟩)
    | (exact ⟨.nilFunc, rfl⟩) | (exact ⟨.nilIface, rfl⟩)
    | (exact ⟨.ptr _ _ _ fun _ => of_decide_eq_true h, rfl⟩)
    | (exact ⟨.slice _ _ _ _ _ fun _ => of_decide_eq_true h, rfl⟩)
    | (exact ⟨.ptr _ _ _ fun e => absurd e (by simp), rfl⟩)
    | (exact ⟨.slice _ _ _ _ _ fun e => absurd e (by simp), rfl⟩)
    | (exact absurd h (by simp))
theorem okC_low {n : Nat} {v : Value} (h : okC n v = true) : Low n v ∧ v.oneCell' = true := by
  unfold okC at h
  split at h
  · simp only [Bool.and_eq_true, List.all_eq_true] at h
    exact ⟨.func _ _ _ (fun x hx => (okC0_low (h.1 x hx)).1) (fun x hx => (okC0_low (h.2 x hx)).1), rfl⟩
  · exact okC0_low h
theorem okA_low {n : Nat} {v : Value} (h : okA n v = true) : Low n v := by
  unfold okA at h
  split at h
  · simp only [List.all_eq_true] at h
    exact .agg _ fun x hx => (okC_low (h x hx)).1
  · exact (okC_low h).1
theorem okV_low {n : Nat} {v : Value} (h : okV n v = true) : Low n v := by
  unfold okV at h
  split at h
  · simp only [List.all_eq_true] at h
    exact .tuple _ fun x hx => okA_low (h x hx)
  · exact okA_low h
theorem okC0_mono {n k : Nat} (hk : n ≤ k) {v : Value} (h : okC0 n v = true) : okC0 k v = true := by
  unfold okC0 at h ⊢
  split at h <;> first | rfl | (simp at h ⊢; omega) | (cases h)
theorem okC_mono {n k : Nat} (hk : n ≤ k) {v : Value} (h : okC n v = true) : okC k v = true := by
  unfold okC at h ⊢
  split at h
  · simp only [Bool.and_eq_true, List.all_eq_true] at h ⊢
    exact ⟨fun x hx => okC0_mono hk (h.1 x hx), fun x hx => okC0_mono hk (h.2 x hx)⟩
  · exact okC0_mono hk h
/-- A value's counterpart is one cell where it is. -/
theorem VRel.one {ρ : Rho} {x y : Value} (h : VRel ρ x y) : y.oneCell' = x.oneCell' := by cases h <;> rfl

structure Mem.Wf (m : Mem) : Prop where
  heap : ∀ (b : Nat) (blk : Blk), m.heap[b]? = some blk → ∀ c ∈ blk.cells, okC 0 c = true
  stk : ∀ (s : Nat) (cells : List Value), m.stk[s]? = some cells → ∀ c ∈ cells, okC (s + 1) c = true

/-- The concrete block at a place holds the cells. -/
def Backs (ρ : Rho) (w : World) (L : Loc) (cells : List Value) (rw : Bool) : Prop :=
  ∃ (cs : Array Value) (e : TypeId) (fr : Nat × Nat), w.heap[L.blk]? = some (.cells cs e fr) ∧ cs.size = L.size ∧ L.off + cells.length ≤ L.size ∧
    (rw = true → ∀ i, i < L.size → ¬ (fr.1 ≤ i ∧ i < fr.2)) ∧ ∀ (i : Nat) (x : Value), cells[i]? = some x → ∃ y, cs[L.off + i]? = some y ∧ VRel ρ x y

theorem Backs.mono {ρ ρ' : Rho} {w w' : World} {L : Loc} {cells : List Value} {rw : Bool} (hle : ρ.le ρ') (hw : w'.heap[L.blk]? = w.heap[L.blk]?) (h : Backs ρ w L cells rw) :
    Backs ρ' w' L cells rw := by
  obtain ⟨cs, e, fr, h1, h2, h3, h4, h5⟩ := h
  exact ⟨cs, e, fr, hw.trans h1, h2, h3, h4, fun i x hx => let ⟨y, hy, hv⟩ := h5 i x hx; ⟨y, hy, hv.mono hle⟩⟩

structure Rel (ρ : Rho) (m : Mem) (w : World) : Prop where
  wf : m.Wf
  back : ∀ b sp cells rw L, m.at b sp = some (cells, rw) → ρ b sp = some L → Backs ρ w L cells rw
  apart : ∀ b sp b' sp' c c' r r' L L', m.at b sp = some (c, r) → m.at b' sp' = some (c', r') → ρ b sp = some L → ρ b' sp' = some L' → ¬ (b = b' ∧ sp = sp') →
    (r = true ∨ r' = true) → L.blk ≠ L'.blk
  dom : ∀ b sp L, ρ b sp = some L → m.known b sp ∧ L.blk < w.heap.size

def Owned (ρ : Rho) (m : Mem) (B : Nat) : Prop := ∃ b sp c L, m.at b sp = some (c, true) ∧ ρ b sp = some L ∧ L.blk = B

structure Ext (ρ : Rho) (m : Mem) (w : World) (ρ' : Rho) (m' : Mem) (w' : World) : Prop where
  size : w.heap.size ≤ w'.heap.size
  os : w'.os = w.os
  output : w'.output = w.output
  tape : w'.tape = w.tape
  old : ∀ B, B < w.heap.size → ¬ Owned ρ m B → w'.heap[B]? = w.heap[B]?
  own : ∀ B, B < w.heap.size → Owned ρ' m' B → Owned ρ m B

theorem Ext.refl (ρ : Rho) (m : Mem) (w : World) : Ext ρ m w ρ m w := ⟨Nat.le_refl _, rfl, rfl, rfl, fun _ _ _ => rfl, fun _ _ h => h⟩
theorem Ext.trans {ρ ρ' ρ'' : Rho} {m m' m'' : Mem} {w w' w'' : World} (h : Ext ρ m w ρ' m' w') (h' : Ext ρ' m' w' ρ'' m'' w'') : Ext ρ m w ρ'' m'' w'' :=
  ⟨Nat.le_trans h.size h'.size, h'.os.trans h.os, h'.output.trans h.output, h'.tape.trans h.tape,
    fun B hB ho => (h'.old B (Nat.lt_of_lt_of_le hB h.size) fun g => ho (h.own B hB g)).trans (h.old B hB ho),
    fun B hB ho => h.own B hB (h'.own B (Nat.lt_of_lt_of_le hB h.size) ho)⟩

/-- A draw changes no memory. -/
theorem Rel.drew {ρ : Rho} {m : Mem} {w : World} (h : Rel ρ m w) : Rel ρ m w.drew := ⟨h.wf, h.back, h.apart, h.dom⟩
theorem Ext.drew (ρ : Rho) (m : Mem) (w : World) : Ext ρ m w ρ m w.drew := ⟨Nat.le_refl _, rfl, rfl, rfl, fun _ _ _ => rfl, fun _ _ h => h⟩

def Mem.load (m : Mem) (a : Addr) : Option Value := (m.at a.block a.spot).bind fun c => c.1[a.off]?

theorem cell?_of_heap {w : World} {B i : Nat} {cs : Array Value} {e : TypeId} {fr : Nat × Nat} (h : w.heap[B]? = some (.cells cs e fr)) : w.cell? ⟨B, i, none⟩ = cs[i]? := by
  simp [World.cell?, h]

theorem Rel.load {ρ : Rho} {m : Mem} {w : World} (h : Rel ρ m w) {b off : Nat} {sp : Option Nat} {L : Loc} {x : Value} (hL : ρ b sp = some L) (hx : m.load ⟨b, off, sp⟩ = some x) :
    ∃ y, w.cell? ⟨L.blk, L.off + off, none⟩ = some y ∧ VRel ρ x y := by
  simp only [Mem.load, Option.bind_eq_some_iff] at hx
  obtain ⟨⟨cells, rw⟩, hc, hx⟩ := hx
  obtain ⟨cs, e, fr, h1, h2, h3, h4, h5⟩ := h.back b sp cells rw L hc hL
  obtain ⟨y, hy, hv⟩ := h5 off x hx
  exact ⟨y, by rw [cell?_of_heap h1]; exact hy, hv⟩

/-- One cell stored. -/
def Mem.store (m : Mem) (a : Addr) (v : Value) : Option Mem :=
  match a.spot with
  | none => (m.stk[a.block]?).bind fun cells => if a.off < cells.length ∧ okC (a.block + 1) v = true then some { m with stk := m.stk.set a.block (cells.set a.off v) } else none
  | some ver => (m.heap[a.block]?).bind fun blk => if blk.ver = ver ∧ blk.rw = true ∧ a.off < blk.cells.length ∧ okC 0 v = true then
      some { m with heap := m.heap.set a.block { blk with cells := blk.cells.set a.off v } } else none

/-- What a store does to the blocks: the one that is named has the cell; all others are as they were. -/
theorem Mem.store_at {m m' : Mem} {a : Addr} {v : Value} (h : m.store a v = some m') :
    ∃ cells, m.at a.block a.spot = some (cells, true) ∧ a.off < cells.length ∧ m'.at a.block a.spot = some (cells.set a.off v, true) ∧
      (∀ b sp, ¬ (b = a.block ∧ sp = a.spot) → m'.at b sp = m.at b sp) ∧ (∀ b sp, m'.known b sp ↔ m.known b sp) := by
  unfold Mem.store at h
  split at h
  · rename_i hsp
    simp only [Option.bind_eq_some_iff] at h
    obtain ⟨cells, hc, h⟩ := h
    split at h
    · rename_i hcond
      cases h
      have hb : a.block < m.stk.length := (List.getElem?_eq_some_iff.1 hc).1
      refine ⟨cells, by simp [Mem.at, hsp, hc], hcond.1, by simp [Mem.at, hsp, hb], fun b sp hne => ?_, fun b sp => by cases sp <;> simp [Mem.known]⟩
      cases sp with
      | none =>
        have : a.block ≠ b := fun e => hne ⟨e.symm, hsp.symm⟩
        simp [Mem.at, this]
      | some ver => simp [Mem.at]
    · cases h
  · rename_i ver hsp
    simp only [Option.bind_eq_some_iff] at h
    obtain ⟨blk, hc, h⟩ := h
    split at h
    · rename_i hcond
      cases h
      have hb : a.block < m.heap.length := (List.getElem?_eq_some_iff.1 hc).1
      refine ⟨blk.cells, by simp [Mem.at, hsp, hc, hcond.1, hcond.2.1], hcond.2.2.1, by simp [Mem.at, hsp, hb, hcond.1, hcond.2.1], fun b sp hne => ?_, fun b sp => ?_⟩
      · cases sp with
        | none => simp [Mem.at]
        | some ver' =>
          by_cases hbb : b = a.block
          · subst hbb
            have : ver' ≠ ver := fun e => hne ⟨rfl, by rw [hsp, e]⟩
            simp only [Mem.at, List.getElem?_set_self hb, Option.bind_some, hc, hcond.1]
            simp [Ne.symm this]
          · have : a.block ≠ b := fun e => hbb e.symm
            simp [Mem.at, this]
      · cases sp with
        | none => simp [Mem.known]
        | some ver' =>
          by_cases hbb : b = a.block
          · subst hbb; simp only [Mem.known, List.getElem?_set_self hb, hc, Option.some.injEq, exists_eq_left']
          · have : a.block ≠ b := fun e => hbb e.symm
            simp [Mem.known, this]
    · cases h

theorem mem_set {l : List Value} {i : Nat} {v c : Value} (h : c ∈ l.set i v) : c ∈ l ∨ c = v := List.mem_or_eq_of_mem_set h

theorem Mem.Wf.store {m m' : Mem} {a : Addr} {v : Value} (hw : m.Wf) (h : m.store a v = some m') : m'.Wf := by
  unfold Mem.store at h
  split at h
  · simp only [Option.bind_eq_some_iff] at h
    obtain ⟨cells, hc, h⟩ := h
    split at h
    · rename_i hcond
      cases h
      refine ⟨hw.heap, fun s cs hs c hcm => ?_⟩
      rw [List.getElem?_set] at hs
      split at hs
      · split at hs
        · rename_i e _; cases hs
          subst e
          rcases mem_set hcm with hm | rfl
          · exact hw.stk _ _ hc c hm
          · exact hcond.2
        · cases hs
      · exact hw.stk s cs hs c hcm
    · cases h
  · simp only [Option.bind_eq_some_iff] at h
    obtain ⟨blk, hc, h⟩ := h
    split at h
    · rename_i hcond
      cases h
      refine ⟨fun b bl hs c hcm => ?_, hw.stk⟩
      rw [List.getElem?_set] at hs
      split at hs
      · split at hs
        · cases hs
          rcases mem_set hcm with hm | rfl
          · exact hw.heap _ _ hc c hm
          · exact hcond.2.2.2
        · cases hs
      · exact hw.heap b bl hs c hcm
    · cases h

theorem Mem.store_one {m m' : Mem} {a : Addr} {v : Value} (h : m.store a v = some m') : v.oneCell' = true := by
  unfold Mem.store at h
  split at h <;> simp only [Option.bind_eq_some_iff] at h <;> obtain ⟨x, hc, h⟩ := h <;> split at h <;> first | (cases h; done) | skip
  · rename_i hcond; exact (okC_low hcond.2).2
  · rename_i hcond; exact (okC_low hcond.2.2.2).2

theorem setCell_heap {w : World} {B i : Nat} {cs : Array Value} {e : TypeId} {fr : Nat × Nat} (h : w.heap[B]? = some (.cells cs e fr)) (v : Value) :
    (w.setCell ⟨B, i, none⟩ v).heap[B]? = some (.cells (cs.setIfInBounds i v) e fr) := by
  simp only [World.setCell, Array.getElem?_modify]
  simp [h]
theorem setCell_heap_ne {w : World} {B B' i : Nat} (h : B' ≠ B) (v : Value) : (w.setCell ⟨B, i, none⟩ v).heap[B']? = w.heap[B']? := by
  simp only [World.setCell, Array.getElem?_modify]
  split
  · rename_i h'; exact absurd h'.symm h
  · rfl

theorem Rel.store {ρ : Rho} {m m' : Mem} {w : World} (h : Rel ρ m w) {b off : Nat} {sp : Option Nat} {L : Loc} {x y : Value} (hL : ρ b sp = some L) (hs : m.store ⟨b, off, sp⟩ x = some m')
    (hv : VRel ρ x y) : (∃ u, w.cell? ⟨L.blk, L.off + off, none⟩ = some u) ∧ w.frozen? ⟨L.blk, L.off + off, none⟩ = false ∧ Rel ρ m' (w.setCell ⟨L.blk, L.off + off, none⟩ y) ∧
      Ext ρ m w ρ m' (w.setCell ⟨L.blk, L.off + off, none⟩ y) := by
  obtain ⟨cells, hat, hoff, hat', hother, hknown⟩ := Mem.store_at hs
  simp only at hat hoff hat' hother
  obtain ⟨cs, e, fr, h1, h2, h3, h4, h5⟩ := h.back b sp cells true L hat hL
  obtain ⟨u, hu⟩ : ∃ u, cs[L.off + off]? = some u := ⟨_, Array.getElem?_eq_getElem (by omega)⟩
  have hin : L.off + off < L.size := by omega
  have hrel : Rel ρ m' (w.setCell ⟨L.blk, L.off + off, none⟩ y) := by
    refine ⟨h.wf.store hs, fun b' sp' cells' rw' L' hc hL' => ?_, fun b1 sp1 b2 sp2 c1 c2 r1 r2 L1 L2 ha1 ha2 hl1 hl2 hne hr => ?_, fun b' sp' L' hL' => ?_⟩
    · by_cases hk : b' = b ∧ sp' = sp
      · obtain ⟨rfl, rfl⟩ := hk
        rw [hat'] at hc; cases hc
        rw [hL] at hL'; cases hL'
        refine ⟨_, e, fr, setCell_heap h1 y, by simpa using h2, by simpa using h3, h4, fun i z hz => ?_⟩
        rw [List.getElem?_set] at hz
        rw [Array.getElem?_setIfInBounds]
        by_cases hi : off = i
        · subst hi
          have hlt : L.off + off < cs.size := by omega
          simp only [if_true, hoff] at hz
          cases hz
          exact ⟨y, by simp [hlt], hv⟩
        · have : L.off + off ≠ L.off + i := by omega
          simp only [hi, if_false] at hz
          simp only [this, if_false]
          exact h5 i z hz
      · rw [hother b' sp' hk] at hc
        have hne : L'.blk ≠ L.blk := h.apart b' sp' b sp _ _ _ _ L' L hc hat hL' hL hk (.inr rfl)
        exact (h.back b' sp' cells' rw' L' hc hL').mono (.refl ρ) (setCell_heap_ne hne y)
    · have key : ∀ b sp c r, m'.at b sp = some (c, r) → ∃ c0, m.at b sp = some (c0, r) := by
        intro b1 sp1 c1 r1 ha
        by_cases hk : b1 = b ∧ sp1 = sp
        · obtain ⟨rfl, rfl⟩ := hk; rw [hat'] at ha; cases ha; exact ⟨cells, hat⟩
        · rw [hother b1 sp1 hk] at ha; exact ⟨c1, ha⟩
      obtain ⟨d1, e1⟩ := key _ _ _ _ ha1
      obtain ⟨d2, e2⟩ := key _ _ _ _ ha2
      exact h.apart _ _ _ _ _ _ _ _ L1 L2 e1 e2 hl1 hl2 hne hr
    · have := h.dom b' sp' L' hL'
      exact ⟨(hknown b' sp').2 this.1, by simpa using this.2⟩
  refine ⟨⟨u, by rw [cell?_of_heap h1]; exact hu⟩, ?_, hrel, ⟨by simp, rfl, rfl, rfl, fun B hB ho => ?_, fun B hB ho => ?_⟩⟩
  · simp only [World.frozen?, h1]
    have := h4 rfl (L.off + off) hin
    simp only [Bool.and_eq_false_iff, decide_eq_false_iff_not]
    by_cases hf : fr.1 ≤ L.off + off
    · right; intro hg; exact this ⟨hf, hg⟩
    · left; exact hf
  · exact setCell_heap_ne (fun e => ho ⟨b, sp, cells, L, hat, hL, e.symm⟩) y
  · obtain ⟨b', sp', c', L', hc, hL', hB'⟩ := ho
    by_cases hk : b' = b ∧ sp' = sp
    · obtain ⟨rfl, rfl⟩ := hk; rw [hL] at hL'; cases hL'; exact ⟨_, _, cells, L, hat, hL, hB'⟩
    · rw [hother b' sp' hk] at hc; exact ⟨b', sp', c', L', hc, hL', hB'⟩

theorem heap_new (w : World) (o : Obj) : (w.alloc o).heap[w.heap.size]? = some o := by
  rw [← World.alloc_eq]; simp
theorem heap_old (w : World) (o : Obj) {r : Nat} (h : r < w.heap.size) : (w.alloc o).heap[r]? = w.heap[r]? := by
  rw [← World.alloc_eq]; simp only [Array.getElem?_push]; rw [if_neg (by omega)]
/-- The environment with one key more. -/
def Rho.put (ρ : Rho) (b : Nat) (sp : Option Nat) (L : Loc) : Rho := fun b' sp' => if b' = b ∧ sp' = sp then some L else ρ b' sp'
theorem Rho.put_self (ρ : Rho) (b : Nat) (sp : Option Nat) (L : Loc) : ρ.put b sp L b sp = some L := by simp [Rho.put]
theorem Rho.put_ne (ρ : Rho) {b b' : Nat} {sp sp' : Option Nat} (L : Loc) (h : ¬ (b' = b ∧ sp' = sp)) : ρ.put b sp L b' sp' = ρ b' sp' := by simp [Rho.put, h]
theorem Rho.le_put {ρ : Rho} {b : Nat} {sp : Option Nat} (L : Loc) (h : ρ b sp = none) : ρ.le (ρ.put b sp L) := by
  intro b' sp' L' h'
  by_cases hk : b' = b ∧ sp' = sp
  · obtain ⟨rfl, rfl⟩ := hk; rw [h] at h'; cases h'
  · rw [Rho.put_ne _ _ hk]; exact h'

def Mem.push (m : Mem) (cells : List Value) : Mem := { m with heap := m.heap ++ [{ cells, ver := 0, rw := true }] }
def Mem.box (m : Mem) (cells : List Value) : Mem := { m with stk := m.stk ++ [cells] }

/-- A new block, concrete and abstract. -/
theorem Rel.fresh {ρ : Rho} {m m' : Mem} {w : World} (h : Rel ρ m w) {b : Nat} {sp : Option Nat} {xs : List Value} {cs : Array Value} {e : TypeId} {fr : Nat × Nat}
    (hno : ρ b sp = none) (hk : m'.known b sp) (hat : m'.at b sp = some (xs, true)) (hoth : ∀ b' sp', ¬ (b' = b ∧ sp' = sp) → m'.at b' sp' = m.at b' sp') (hkn : ∀ b' sp', m.known b' sp' → m'.known b' sp')
    (hwf : m'.Wf) (hfr : ∀ i, i < cs.size → ¬ (fr.1 ≤ i ∧ i < fr.2)) (hl : xs.length ≤ cs.size) (hv : ∀ (i : Nat) (x : Value), xs[i]? = some x → ∃ y, cs[i]? = some y ∧ VRel ρ x y) :
    let L : Loc := ⟨w.heap.size, 0, cs.size⟩
    ρ.le (ρ.put b sp L) ∧ Rel (ρ.put b sp L) m' (w.alloc (.cells cs e fr)) ∧ Ext ρ m w (ρ.put b sp L) m' (w.alloc (.cells cs e fr)) := by
  intro L
  have hle : ρ.le (ρ.put b sp L) := Rho.le_put L hno
  have hold : ∀ B, B < w.heap.size → (w.alloc (.cells cs e fr)).heap[B]? = w.heap[B]? := fun B hB => by
    exact heap_old w _ hB
  refine ⟨hle, ⟨hwf, fun b' sp' cells' rw' L' hc hL' => ?_, fun b1 sp1 b2 sp2 c1 c2 r1 r2 L1 L2 ha1 ha2 hl1 hl2 hne hr => ?_, fun b' sp' L' hL' => ?_⟩, ⟨by simp, rfl, rfl, rfl, fun B hB _ => hold B hB, fun B hB ho => ?_⟩⟩
  · by_cases hk : b' = b ∧ sp' = sp
    · obtain ⟨rfl, rfl⟩ := hk
      rw [Rho.put_self] at hL'; cases hL'
      rw [hat] at hc; cases hc
      refine ⟨cs, e, fr, heap_new w _, rfl, by simpa [L] using hl, fun _ i hi => hfr i hi, fun i x hx => ?_⟩
      obtain ⟨y, hy, hvv⟩ := hv i x hx
      exact ⟨y, by simpa [L] using hy, hvv.mono hle⟩
    · rw [Rho.put_ne _ _ hk] at hL'
      rw [hoth b' sp' hk] at hc
      exact (h.back b' sp' cells' rw' L' hc hL').mono hle (hold _ (h.dom b' sp' L' hL').2)
  · by_cases hk1 : b1 = b ∧ sp1 = sp
    · obtain ⟨rfl, rfl⟩ := hk1
      rw [Rho.put_self] at hl1; cases hl1
      have hk2 : ¬ (b2 = b1 ∧ sp2 = sp1) := fun e => hne ⟨e.1.symm, e.2.symm⟩
      rw [Rho.put_ne _ _ hk2] at hl2
      have := (h.dom b2 sp2 L2 hl2).2
      simp only [L]; omega
    · rw [Rho.put_ne _ _ hk1] at hl1
      rw [hoth _ _ hk1] at ha1
      by_cases hk2 : b2 = b ∧ sp2 = sp
      · obtain ⟨rfl, rfl⟩ := hk2
        rw [Rho.put_self] at hl2; cases hl2
        have := (h.dom b1 sp1 L1 hl1).2
        simp only [L]; omega
      · rw [Rho.put_ne _ _ hk2] at hl2
        rw [hoth _ _ hk2] at ha2
        exact h.apart _ _ _ _ _ _ _ _ L1 L2 ha1 ha2 hl1 hl2 hne hr
  · by_cases hk' : b' = b ∧ sp' = sp
    · obtain ⟨rfl, rfl⟩ := hk'
      rw [Rho.put_self] at hL'; cases hL'
      exact ⟨hk, by simp [L]⟩
    · rw [Rho.put_ne _ _ hk'] at hL'
      have := h.dom b' sp' L' hL'
      exact ⟨hkn b' sp' this.1, by simp; omega⟩
  · obtain ⟨b', sp', c', L', hc, hL', hB'⟩ := ho
    by_cases hk : b' = b ∧ sp' = sp
    · obtain ⟨rfl, rfl⟩ := hk
      rw [Rho.put_self] at hL'; cases hL'
      simp only [L] at hB'; omega
    · rw [Rho.put_ne _ _ hk] at hL'
      rw [hoth b' sp' hk] at hc
      exact ⟨b', sp', c', L', hc, hL', hB'⟩

theorem Rel.no_heap {ρ : Rho} {m : Mem} {w : World} (h : Rel ρ m w) (v : Nat) : ρ m.heap.length (some v) = none := by
  cases hL : ρ m.heap.length (some v) with
  | none => rfl
  | some L =>
    obtain ⟨blk, hb, _⟩ := (h.dom _ _ L hL).1
    have := (List.getElem?_eq_some_iff.1 hb).1
    omega
theorem Rel.no_stk {ρ : Rho} {m : Mem} {w : World} (h : Rel ρ m w) : ρ m.stk.length none = none := by
  cases hL : ρ m.stk.length none with
  | none => rfl
  | some L => have := (h.dom _ _ L hL).1; simp [Mem.known] at this

/-- A new block of the heap. -/
theorem Rel.push {ρ : Rho} {m : Mem} {w : World} (h : Rel ρ m w) {xs : List Value} {cs : Array Value} {e : TypeId} {fr : Nat × Nat} (hok : ∀ c ∈ xs, okC 0 c = true)
    (hfr : ∀ i, i < cs.size → ¬ (fr.1 ≤ i ∧ i < fr.2)) (hl : xs.length ≤ cs.size) (hv : ∀ (i : Nat) (x : Value), xs[i]? = some x → ∃ y, cs[i]? = some y ∧ VRel ρ x y) :
    ∃ ρ', ρ' m.heap.length (some 0) = some ⟨w.heap.size, 0, cs.size⟩ ∧ ρ.le ρ' ∧ Rel ρ' (m.push xs) (w.alloc (.cells cs e fr)) ∧ Ext ρ m w ρ' (m.push xs) (w.alloc (.cells cs e fr)) := by
  have := h.fresh (m' := m.push xs) (b := m.heap.length) (sp := some 0) (xs := xs) (cs := cs) (e := e) (fr := fr) (h.no_heap 0)
    ⟨_, by simp [Mem.push]; rfl, Nat.zero_le _⟩ (by simp [Mem.at, Mem.push])
    (fun b' sp' hne => by
      cases sp' with
      | none => simp [Mem.at, Mem.push]
      | some v =>
        simp only [Mem.at, Mem.push, List.getElem?_append]
        split
        · rfl
        · rename_i hb
          have hn : m.heap[b']? = none := by rw [List.getElem?_eq_none_iff]; omega
          rw [hn]
          by_cases he : b' = m.heap.length
          · subst he
            have : v ≠ 0 := fun e => hne ⟨rfl, by rw [e]⟩
            simp [Ne.symm this]
          · have : [({ cells := xs, ver := 0, rw := true } : Blk)][b' - m.heap.length]? = none := by rw [List.getElem?_eq_none_iff]; simp; omega
            simp [this])
    (fun b' sp' hk => by
      cases sp' with
      | none => exact hk
      | some v =>
        obtain ⟨blk, hb, hv⟩ := hk
        refine ⟨blk, ?_, hv⟩
        have := (List.getElem?_eq_some_iff.1 hb).1
        show (m.heap ++ _)[b']? = some blk
        rw [List.getElem?_append_left this]; exact hb)
    ⟨fun b blk hb c hc => by
      simp only [Mem.push, List.getElem?_append] at hb
      split at hb
      · exact h.wf.heap b blk hb c hc
      · have hm := List.mem_of_getElem? hb
        simp at hm; subst hm; exact hok c hc, h.wf.stk⟩ hfr hl hv
  exact ⟨_, Rho.put_self _ _ _ _, this⟩

/-- A new local. -/
theorem Rel.box {ρ : Rho} {m : Mem} {w : World} (h : Rel ρ m w) {xs : List Value} {cs : Array Value} {e : TypeId} {fr : Nat × Nat} (hok : ∀ c ∈ xs, okC (m.stk.length + 1) c = true)
    (hfr : ∀ i, i < cs.size → ¬ (fr.1 ≤ i ∧ i < fr.2)) (hl : xs.length ≤ cs.size) (hv : ∀ (i : Nat) (x : Value), xs[i]? = some x → ∃ y, cs[i]? = some y ∧ VRel ρ x y) :
    ∃ ρ', ρ' m.stk.length none = some ⟨w.heap.size, 0, cs.size⟩ ∧ ρ.le ρ' ∧ Rel ρ' (m.box xs) (w.alloc (.cells cs e fr)) ∧ Ext ρ m w ρ' (m.box xs) (w.alloc (.cells cs e fr)) := by
  have := h.fresh (m' := m.box xs) (b := m.stk.length) (sp := none) (xs := xs) (cs := cs) (e := e) (fr := fr) h.no_stk
    (by simp [Mem.known, Mem.box]) (by simp [Mem.at, Mem.box])
    (fun b' sp' hne => by
      cases sp' with
      | some v => simp [Mem.at, Mem.box]
      | none =>
        have hb : b' ≠ m.stk.length := fun e => hne ⟨e, rfl⟩
        simp only [Mem.at, Mem.box, List.getElem?_append]
        split
        · rfl
        · have h1 : m.stk[b']? = none := by rw [List.getElem?_eq_none_iff]; omega
          have h2 : [xs][b' - m.stk.length]? = none := by rw [List.getElem?_eq_none_iff]; simp; omega
          rw [h1, h2])
    (fun b' sp' hk => by
      cases sp' with
      | none => simp only [Mem.known, Mem.box, List.length_append] at hk ⊢; omega
      | some v => exact hk)
    ⟨h.wf.heap, fun s cells hs c hc => by
      simp only [Mem.box, List.getElem?_append] at hs
      split at hs
      · exact h.wf.stk s cells hs c hc
      · have hm := List.mem_of_getElem? hs
        have hlt := (List.getElem?_eq_some_iff.1 hs).1
        simp at hm hlt; subst hm
        exact okC_mono (by omega) (hok c hc)⟩ hfr hl hv
  exact ⟨_, Rho.put_self _ _ _ _, this⟩

/-- Cells one behind the other. -/
def Mem.loads (m : Mem) (a : Addr) (n : Nat) : Option (List Value) :=
  (m.at a.block a.spot).bind fun c => if a.off + n ≤ c.1.length then some ((c.1.drop a.off).take n) else none
def Mem.stores (m : Mem) (a : Addr) : List Value → Option Mem
  | [] => some m
  | v :: vs => (m.store a v).bind fun m' => m'.stores { a with off := a.off + 1 } vs

theorem Rel.loads {ρ : Rho} {m : Mem} {w : World} (h : Rel ρ m w) {b off n : Nat} {sp : Option Nat} {L : Loc} {xs : List Value} (hL : ρ b sp = some L) (hx : m.loads ⟨b, off, sp⟩ n = some xs) :
    ∃ ys, LRel ρ xs ys ∧ xs.length = n ∧ ∀ (j : Nat) (u : Value), ys[j]? = some u → w.cell? ⟨L.blk, L.off + off + j, none⟩ = some u := by
  simp only [Mem.loads, Option.bind_eq_some_iff] at hx
  obtain ⟨⟨cells, rw⟩, hc, hx⟩ := hx
  simp only at hx
  split at hx
  · rename_i hle
    cases hx
    obtain ⟨cs, e, fr, h1, h2, h3, h4, h5⟩ := h.back b sp cells rw L hc hL
    refine ⟨(cs.toList.drop (L.off + off)).take n, .of_get (by simp; omega) fun i x hx => ?_, by simp; omega, fun j u hu => ?_⟩
    · rw [List.getElem?_take] at hx ⊢
      split at hx
      · rename_i hi
        simp only [hi, if_true]
        rw [List.getElem?_drop] at hx ⊢
        obtain ⟨y, hy, hv⟩ := h5 _ _ hx
        exact ⟨y, by rw [← hy, ← Nat.add_assoc]; simp, hv⟩
      · cases hx
    · rw [List.getElem?_take] at hu
      split at hu
      · rw [List.getElem?_drop] at hu
        rw [cell?_of_heap h1, ← hu]; simp
      · cases hu
  · cases hx

theorem Addr.add_none (b o n : Nat) : Addr.add ⟨b, o, none⟩ n = ⟨b, o + n, none⟩ := Addr.add_lit b o n

theorem run_loads {P : Program} {ρ : Rho} {m : Mem} {w : World} (h : Rel ρ m w) {b off n : Nat} {sp : Option Nat} {L : Loc} {xs : List Value} (hL : ρ b sp = some L) (hx : m.loads ⟨b, off, sp⟩ n = some xs) :
    ∃ ys, LRel ρ xs ys ∧ (loadCells ⟨L.blk, L.off + off, none⟩ n).run P w = .ok ys.toArray w := by
  obtain ⟨ys, hl, hn, hc⟩ := h.loads hL hx
  refine ⟨ys, hl, ?_⟩
  have := run_loadCells_list (P := P) w ⟨L.blk, L.off + off, none⟩ ys (fun j v hj => by rw [Addr.add_none]; exact hc j v hj)
  rw [← hn, hl.1]; exact this

theorem run_stores {P : Program} : ∀ (xs ys : List Value) (ρ : Rho) (m m' : Mem) (w : World) (b off : Nat) (sp : Option Nat) (L : Loc) (o i : Nat), Rel ρ m w → ρ b sp = some L → m.stores ⟨b, off, sp⟩ xs = some m' →
    LRel ρ xs ys → o + i = L.off + off → ∃ w', (storeCells ⟨L.blk, o, none⟩ ys i).run P w = .ok () w' ∧ Rel ρ m' w' ∧ Ext ρ m w ρ m' w' := by
  intro xs
  induction xs with
  | nil =>
    intro ys ρ m m' w b off sp L o i h hL hs hv ho
    have : ys = [] := List.eq_nil_of_length_eq_zero (by rw [← hv.1]; rfl)
    subst this
    simp only [Mem.stores, Option.some.injEq] at hs
    subst hs
    exact ⟨w, by simp [storeCells], h, .refl ρ m w⟩
  | cons x xs ih =>
    intro ys ρ m m' w b off sp L o i h hL hs hv ho
    cases ys with
    | nil => have := hv.1; simp at this
    | cons y ys =>
      simp only [Mem.stores, Option.bind_eq_some_iff] at hs
      obtain ⟨m1, h1, hs⟩ := hs
      have hxy : VRel ρ x y := hv.2 0 x y rfl rfl
      have hrest : LRel ρ xs ys := ⟨by have := hv.1; simpa using this, fun j u v hu hv' => hv.2 (j + 1) u v (by simpa using hu) (by simpa using hv')⟩
      obtain ⟨⟨u, hu⟩, hf, hr1, hx1⟩ := h.store hL h1 hxy
      have hone : y.oneCell' = true := by rw [hxy.one]; exact Mem.store_one h1
      obtain ⟨w', hw', hr', hx'⟩ := ih ys ρ m1 m' _ b (off + 1) sp L o (i + 1) hr1 hL hs hrest (by omega)
      refine ⟨w', ?_, hr', hx1.trans hx'⟩
      simp only [storeCells, Sem.run_bind]
      rw [run_store _ _ _ _ _ hone, Addr.add_none, ho, hu]
      simp only [hf, Bool.false_eq_true, if_false, Result.andThen_ok]
      exact hw'

end Go.AM
