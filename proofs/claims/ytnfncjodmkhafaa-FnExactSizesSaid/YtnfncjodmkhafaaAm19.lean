/-
  The abstract machine, nineteenth part: what is put behind a list that lies in a block of its own.
-/
import Derived.Test.YtnfncjodmkhafaaAm18
set_option linter.all false
set_option linter.unusedSimpArgs false
set_option linter.unusedVariables false
namespace Go.AM
section
variable {m : Mem} {b ver : Nat} {cells : List Value}
theorem Mem.blk.append {esz bytes n k : Nat} {news : List Value} {l : List (List Value)} (h : m.blk b ver cells) (hc : cells.length = n * esz) (ho : news.all (okC 0) = true) (h1 : (n + k) * bytes ≤ 140737488355328) (h2 : n + k ≤ 9223372036854775807) :
    appendA (m.ext l) esz bytes (.slice (some ⟨b, 0, some ver⟩) n esz) k news = some (.slice (some ⟨b, 0, some (ver + 1)⟩) (n + k) esz, (m.bump b (cells ++ news) (ver + 1)).ext l) := by
  unfold Mem.blk at h
  simp only [appendA, Mem.ext_heap, h, true_and]
  rw [if_pos ⟨by omega, ho, h1, h2⟩]
  simp only [if_true, Option.some.injEq, Prod.mk.injEq, true_and]
  rw [List.take_of_length_le (by omega)]
  rfl
theorem append_nil {esz bytes k : Nat} {news : List Value} {l : List (List Value)} (hk : k ≠ 0) (ho : news.all (okC 0) = true) (h1 : k * bytes ≤ 140737488355328) (h2 : k ≤ 9223372036854775807) :
    appendA (m.ext l) esz bytes (.slice none 0 0) k news = some (.slice (some ⟨m.heap.length, 0, some 0⟩) k esz, (m.push news).ext l) := by
  simp only [appendA, if_neg hk]
  rw [if_pos ⟨ho, h1, h2⟩]
  rfl
theorem Mem.ext_zero : m.ext [] = m := by simp [Mem.ext]
theorem Mem.bump_blk {c : List Value} {v : Nat} (h : b < m.heap.length) : (m.bump b c v).blk b v c := by simp [Mem.bump, Mem.blk, h]
theorem Mem.bump_ne {b' : Nat} {c : List Value} {v : Nat} (h : b ≠ b') : (m.bump b c v).heap[b']? = m.heap[b']? := by simp [Mem.bump, List.getElem?_set, h]
theorem Mem.bump_len {c : List Value} {v : Nat} : (m.bump b c v).heap.length = m.heap.length := by simp [Mem.bump]
theorem Mem.bump_stk {c : List Value} {v : Nat} : (m.bump b c v).stk = m.stk := rfl
theorem Mem.le.bump {k : Mem} {c : List Value} {v : Nat} (h : m.le k) (hb : m.heap.length ≤ b) : m.le (k.bump b c v) := by
  obtain ⟨hs, e, he⟩ := h
  refine ⟨hs, e.set (b - m.heap.length) ⟨c, v, true⟩, ?_⟩
  simp only [Mem.bump, he]
  rw [List.set_append_right _ _ hb]
theorem Mem.frame.bump {S : Nat → Prop} {k : Mem} {c : List Value} {v : Nat} (h : m.frame S k) (hb : S b ∨ m.heap.length ≤ b) : m.frame S (k.bump b c v) := by
  refine ⟨h.stk, by rw [Mem.bump_len]; exact h.len, fun i hi hs => ?_⟩
  rw [Mem.bump_ne, h.old i hi hs]
  rintro rfl
  rcases hb with hb | hb
  · exact hs hb
  · omega
theorem Mem.frame.push {S : Nat → Prop} {k : Mem} {c : List Value} (h : m.frame S k) : m.frame S (k.push c) := h.trans ((Mem.le_push k c).frame S)
theorem Mem.ext_sliceCells {l : List (List Value)} {esz o v n e : Nat} : (m.ext l).sliceCells esz (.slice (some ⟨b, o, some v⟩) n e) = m.sliceCells esz (.slice (some ⟨b, o, some v⟩) n e) := rfl
theorem Mem.blk.push (h : m.blk b ver cells) (c : List Value) : (m.push c).blk b ver cells := h.le (Mem.le_push _ _)
end
section
variable {m m1 : Mem} {l : List (List Value)} {c : List Value} {o n j : Nat} {v : Value} (h : m1.stk = m.stk)
include h
theorem Mem.st_load0 : (m1.ext (c :: l)).load ⟨m.stk.length, o, none⟩ = c[o]? := by rw [← h]; exact Mem.ext_load0
theorem Mem.st_loadj : (m1.ext l).load ⟨m.stk.length + j, o, none⟩ = (l[j]?).bind fun c => c[o]? := by rw [← h]; exact Mem.ext_loadj
theorem Mem.st_loads0 : (m1.ext (c :: l)).loads ⟨m.stk.length, o, none⟩ n = if o + n ≤ c.length then some ((c.drop o).take n) else none := by rw [← h]; exact Mem.ext_loads0
theorem Mem.st_loadsj : (m1.ext l).loads ⟨m.stk.length + j, o, none⟩ n = (l[j]?).bind fun c => if o + n ≤ c.length then some ((c.drop o).take n) else none := by rw [← h]; exact Mem.ext_loadsj
theorem Mem.st_store0 : (m1.ext (c :: l)).store ⟨m.stk.length, o, none⟩ v = if o < c.length ∧ okC (m.stk.length + 1) v = true then some (m1.ext (c.set o v :: l)) else none := by rw [← h]; exact Mem.ext_store0
theorem Mem.st_storej : (m1.ext l).store ⟨m.stk.length + j, o, none⟩ v = (l[j]?).bind fun c => if o < c.length ∧ okC (m.stk.length + j + 1) v = true then some (m1.ext (l.set j (c.set o v))) else none := by rw [← h]; exact Mem.ext_storej
theorem Mem.st_pop : (m1.ext l).pop m.stk.length = m1 := by rw [← h]; exact Mem.pop_ext
theorem Mem.st_pops : m1.pop m.stk.length = m1 := by rw [← h]; exact Mem.pop_self
end
/-- Whole numbers in a block of their own, as a value. -/
theorem IntsB {m : Mem} {b ver : Nat} {l : List Int} (h : m.blk b ver (l.map (.int .i64))) : Ints m (.slice (some ⟨b, 0, some ver⟩) l.length 1) l := by
  refine .inr ⟨b, 0, ver, rfl, fun i x hx => ?_, fun e => ?_⟩
  · have hi := (List.getElem?_eq_some_iff.1 hx).1
    refine ⟨[.int .i64 x], ?_, rfl⟩
    rw [h.loads (by simp; omega)]
    rw [Nat.zero_add, Nat.mul_one, List.take_one, List.head?_drop]
    simp [hx]
  · rw [h.loads (by simp)]; simp
end Go.AM
