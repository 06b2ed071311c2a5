/-
  The abstract machine, seventeenth part: blocks that are written; lists that lie in blocks of their own.
-/
import Derived.Test.YtnfncjodmkhafaaAm16
set_option linter.all false
set_option linter.unusedSimpArgs false
set_option linter.unusedVariables false
namespace Go.AM

/-- A block's cells anew. -/
def Mem.put (m : Mem) (b : Nat) (cells : List Value) : Mem := { m with heap := m.heap.modify b fun k => { k with cells := cells } }
/-- A block that may be written, with its cells. -/
def Mem.blk (m : Mem) (b ver : Nat) (cells : List Value) : Prop := m.heap[b]? = some ⟨cells, ver, true⟩
theorem Mem.put_stk {m : Mem} {b : Nat} {c : List Value} : (m.put b c).stk = m.stk := rfl
theorem Mem.put_len {m : Mem} {b : Nat} {c : List Value} : (m.put b c).heap.length = m.heap.length := by simp [Mem.put]
theorem Mem.put_same {m : Mem} {b ver : Nat} {c cells : List Value} (h : m.blk b ver cells) : (m.put b c).blk b ver c := by
  unfold Mem.blk Mem.put at *
  simp [h]
theorem Mem.put_ne {m : Mem} {b b' : Nat} {c : List Value} (h : b ≠ b') : (m.put b c).heap[b']? = m.heap[b']? := by
  unfold Mem.put
  simp [List.getElem?_modify, h]
theorem Mem.blk.at {m : Mem} {b ver : Nat} {cells : List Value} (h : m.blk b ver cells) : m.at b (some ver) = some (cells, true) := by
  unfold Mem.blk at h
  simp [Mem.at, h]
theorem Mem.blk.load {m : Mem} {b ver o : Nat} {cells : List Value} (h : m.blk b ver cells) : m.load ⟨b, o, some ver⟩ = cells[o]? := by simp [Mem.load, h.at]
theorem Mem.blk.loads {m : Mem} {b ver o n : Nat} {cells : List Value} (h : m.blk b ver cells) (hl : o + n ≤ cells.length) : m.loads ⟨b, o, some ver⟩ n = some ((cells.drop o).take n) := by simp [Mem.loads, h.at, hl]
theorem Mem.blk.lt {m : Mem} {b ver : Nat} {cells : List Value} (h : m.blk b ver cells) : b < m.heap.length := (List.getElem?_eq_some_iff.1 h).1
theorem Mem.blk.store {m : Mem} {b ver o : Nat} {cells : List Value} {v : Value} (h : m.blk b ver cells) (ho : o < cells.length) (hv : okC 0 v = true) : m.store ⟨b, o, some ver⟩ v = some (m.put b (cells.set o v)) := by
  unfold Mem.blk at h
  simp only [Mem.store, h, Option.bind_some, ho, hv, and_self, if_true, Mem.put, Option.some.injEq, Mem.mk.injEq, and_true]
  apply List.ext_getElem?
  intro i
  rw [List.getElem?_set, List.getElem?_modify]
  have hb := (List.getElem?_eq_some_iff.1 h).1
  by_cases e : b = i
  · subst e; simp [hb, h]
    have := (List.getElem?_eq_some_iff.1 h).2
    rw [this]; simp
  · simp [e]
theorem Mem.blk.ne {m m' : Mem} {b ver : Nat} {cells : List Value} (h : m.blk b ver cells) (e : m'.heap[b]? = m.heap[b]?) : m'.blk b ver cells := e.trans h
/-- Cells of which some are new. -/
def splice (cells : List Value) (o : Nat) (vs : List Value) : List Value := cells.take o ++ vs ++ cells.drop (o + vs.length)
theorem splice_len {cells vs : List Value} {o : Nat} (h : o + vs.length ≤ cells.length) : (splice cells o vs).length = cells.length := by simp [splice]; omega
theorem set_splice {cells vs : List Value} {o : Nat} {v : Value} (h : o + (v :: vs).length ≤ cells.length) : splice (cells.set o v) (o + 1) vs = splice cells o (v :: vs) := by
  simp at h
  unfold splice
  apply List.ext_getElem?
  intro i
  simp only [List.length_cons]
  rw [List.drop_set, if_pos (by omega)]
  have e1 : (cells.set o v).take (o + 1) = cells.take o ++ [v] := by
    rw [List.take_add_one]
    simp [List.take_set, show o < cells.length by omega]
    rw [List.set_eq_of_length_le (by simp; omega)]
  rw [e1]
  simp [Nat.add_assoc, Nat.add_comm 1]
theorem Mem.put_put {m : Mem} {b : Nat} {c d : List Value} : (m.put b c).put b d = m.put b d := by
  simp only [Mem.put]
  congr 1
  apply List.ext_getElem?
  intro i
  simp only [List.getElem?_modify]
  cases m.heap[i]? with
  | none => rfl
  | some k => by_cases h : b = i <;> simp [h]
theorem Mem.blk.stores {b ver : Nat} : ∀ (vs : List Value) {m : Mem} {o : Nat} {cells : List Value}, m.blk b ver cells → o + vs.length ≤ cells.length → vs.all (okC 0) = true → vs ≠ [] →
    m.stores ⟨b, o, some ver⟩ vs = some (m.put b (splice cells o vs)) := by
  intro vs
  induction vs with
  | nil => intro m o cells _ _ _ h; exact absurd rfl h
  | cons v vs ih =>
    intro m o cells h hl ho _
    simp only [List.all_cons, Bool.and_eq_true] at ho
    simp only [Mem.stores]
    rw [h.store (by simp at hl; omega) ho.1]
    simp only [Option.bind_some]
    by_cases hvs : vs = []
    · subst hvs
      simp only [Mem.stores]
      have := set_splice (vs := []) hl
      simp only [splice, List.append_nil, List.length_nil, Nat.add_zero, List.take_append_drop] at this ⊢
      rw [this]
    · rw [ih (Mem.put_same h) (by simp at hl ⊢; omega) ho.2 hvs, Mem.put_put, set_splice hl]
theorem Mem.le.put {m m' : Mem} {b : Nat} {c : List Value} (h : m.le m') (hb : m.heap.length ≤ b) : m.le (m'.put b c) := by
  obtain ⟨hs, e, he⟩ := h
  refine ⟨hs, e.modify (b - m.heap.length) fun k => { k with cells := c }, ?_⟩
  simp only [Mem.put, he]
  apply List.ext_getElem?
  intro i
  simp only [List.getElem?_modify, List.getElem?_append]
  by_cases hi : i < m.heap.length
  · simp only [hi, if_true, show b ≠ i by omega, if_false]; simp
  · simp only [hi, if_false, List.getElem?_modify]
    by_cases hb : b = i
    · subst hb; simp
    · simp only [hb, show b - m.heap.length ≠ i - m.heap.length by omega, if_false]
theorem Mem.blk.le {m m' : Mem} {b ver : Nat} {cells : List Value} (h : m.blk b ver cells) (hl : m.le m') : m'.blk b ver cells := by
  obtain ⟨hs, e, he⟩ := hl
  have hlt := h.lt
  unfold Mem.blk at *
  rw [he, List.getElem?_append_left hlt]; exact h
theorem Mem.push_blk (m : Mem) (c : List Value) : (m.push c).blk m.heap.length 0 c := by simp [Mem.push, Mem.blk]
theorem Mem.push_len (m : Mem) (c : List Value) : (m.push c).heap.length = m.heap.length + 1 := by simp [Mem.push]
theorem Mem.push_put {m : Mem} {c d : List Value} : (m.push c).put m.heap.length d = m.push d := by
  simp only [Mem.put, Mem.push]
  congr 1
  apply List.ext_getElem?
  intro i
  rw [List.getElem?_modify, List.getElem?_append, List.getElem?_append]
  by_cases hi : i < m.heap.length
  · simp [hi, show m.heap.length ≠ i by omega]
  · by_cases e : m.heap.length = i
    · subst e; simp
    · rw [if_neg hi, if_neg hi, List.getElem?_eq_none (by simp; omega), List.getElem?_eq_none (by simp; omega)]; rfl
theorem Mem.blk.ext {m : Mem} {b ver : Nat} {cells : List Value} (h : m.blk b ver cells) (l : List (List Value)) : (m.ext l).blk b ver cells := h
theorem Mem.ext_put {m : Mem} {b : Nat} {c : List Value} {l : List (List Value)} : (m.ext l).put b c = (m.put b c).ext l := rfl
/-- What lies in two places of cells. -/
theorem splice_at {cells vs : List Value} {o i : Nat} (h : o + vs.length ≤ cells.length) : (splice cells o vs)[i]? = if o ≤ i ∧ i < o + vs.length then vs[i - o]? else cells[i]? := by
  unfold splice
  rw [List.getElem?_append, List.getElem?_append]
  simp only [List.length_append, List.length_take, Nat.min_eq_left (show o ≤ cells.length by omega)]
  split
  · rename_i h1
    split
    · rename_i h2; rw [if_neg (by omega), List.getElem?_take_of_lt h2]
    · rename_i h2; rw [if_pos (by omega)]
  · rename_i h1
    rw [if_neg (by omega), List.getElem?_drop]
    congr 1; omega

/-- All blocks but some are as they were. -/
structure Mem.frame (S : Nat → Prop) (m m' : Mem) : Prop where
  stk : m'.stk = m.stk
  len : m.heap.length ≤ m'.heap.length
  old : ∀ b, b < m.heap.length → ¬ S b → m'.heap[b]? = m.heap[b]?
theorem Mem.frame.refl (S : Nat → Prop) (m : Mem) : m.frame S m := ⟨rfl, Nat.le_refl _, fun _ _ _ => rfl⟩
theorem Mem.frame.trans {S : Nat → Prop} {a b c : Mem} (h : a.frame S b) (h' : b.frame S c) : a.frame S c :=
  ⟨h'.stk.trans h.stk, Nat.le_trans h.len h'.len, fun i hi hs => (h'.old i (Nat.lt_of_lt_of_le hi h.len) hs).trans (h.old i hi hs)⟩
theorem Mem.frame.mono {S S' : Nat → Prop} {a b : Mem} (h : a.frame S b) (hs : ∀ i, S i → S' i) : a.frame S' b := ⟨h.stk, h.len, fun i hi hn => h.old i hi fun e => hn (hs i e)⟩
theorem Mem.frame.put {S : Nat → Prop} {m : Mem} {b : Nat} {c : List Value} (h : S b) : m.frame S (m.put b c) :=
  ⟨rfl, by rw [Mem.put_len]; exact Nat.le_refl _, fun i _ hs => Mem.put_ne fun e => hs (e ▸ h)⟩
theorem Mem.le.frame {a b : Mem} (h : a.le b) (S : Nat → Prop) : a.frame S b := by
  refine ⟨h.stk, h.len, fun i hi _ => ?_⟩
  obtain ⟨_, e, he⟩ := h
  rw [he, List.getElem?_append_left hi]
theorem Mem.frame.ext {S : Nat → Prop} {a b : Mem} (h : a.frame S b) (l : List (List Value)) : (a.ext l).frame S (b.ext l) := ⟨by simp [Mem.ext, h.stk], h.len, h.old⟩
theorem Mem.frame.at {S : Nat → Prop} {a b : Mem} (h : a.frame S b) {i v : Nat} {c : List Value × Bool} (hs : ¬ S i) (hc : a.at i (some v) = some c) : b.at i (some v) = some c := by
  simp only [Mem.at, Option.bind_eq_some_iff] at hc ⊢
  obtain ⟨blk, h1, h2⟩ := hc
  exact ⟨blk, by rw [h.old i (List.getElem?_eq_some_iff.1 h1).1 hs]; exact h1, h2⟩
theorem Mem.frame.blk {S : Nat → Prop} {a b : Mem} (h : a.frame S b) {i v : Nat} {c : List Value} (hs : ¬ S i) (hc : a.blk i v c) : b.blk i v c := by
  unfold Mem.blk at *
  rw [h.old i (List.getElem?_eq_some_iff.1 hc).1 hs]; exact hc
theorem drop_take_at {cells : List Value} {o e j : Nat} (hj : j < e) : ((cells.drop o).take e)[j]? = cells[o + j]? := by rw [List.getElem?_take_of_lt hj, List.getElem?_drop]
theorem drop_take_set {cells : List Value} {o e j : Nat} {v : Value} (hj : j < e) : ((cells.set (o + j) v).drop o).take e = ((cells.drop o).take e).set j v := by
  rw [List.drop_set, if_neg (by omega), Nat.add_sub_cancel_left, List.take_set]
theorem drop_take_set_ne {cells : List Value} {o o' e j : Nat} {v : Value} (hj : j < e) (h : o + e ≤ o' ∨ o' + e ≤ o) : ((cells.set (o' + j) v).drop o).take e = (cells.drop o).take e := by
  apply List.ext_getElem?
  intro k
  by_cases hk : k < e
  · rw [drop_take_at hk, drop_take_at hk, List.getElem?_set_ne (by omega)]
  · rw [List.getElem?_take_eq_none (by omega), List.getElem?_take_eq_none (by omega)]
theorem drop_take_set0 {cells : List Value} {o e : Nat} {v : Value} (hj : 0 < e) : ((cells.set o v).drop o).take e = ((cells.drop o).take e).set 0 v := drop_take_set (j := 0) hj
theorem drop_take_set0_ne {cells : List Value} {o o' e : Nat} {v : Value} (hj : 0 < e) (h : o + e ≤ o' ∨ o' + e ≤ o) : ((cells.set o' v).drop o).take e = (cells.drop o).take e := drop_take_set_ne (j := 0) hj h
end Go.AM
