/-
  The abstract machine, sixteenth part: memories with a call's own locals on top.
-/
import Derived.Test.YtnfncjodmkhafaaAm15
set_option linter.all false
set_option linter.unusedSimpArgs false
set_option linter.unusedVariables false
namespace Go.AM
/-- Locals on top. -/
def Mem.ext (m : Mem) (l : List (List Value)) : Mem := { heap := m.heap, stk := m.stk ++ l }
section
variable {m : Mem} {l : List (List Value)} {c : List Value}
theorem getElem?_over {α : Type} (a l : List α) (j : Nat) : (a ++ l)[a.length + j]? = l[j]? := by rw [List.getElem?_append_right (by omega)]; congr 1; omega
theorem set_over {α : Type} (a l : List α) (j : Nat) (x : α) : (a ++ l).set (a.length + j) x = a ++ l.set j x := by rw [List.set_append_right _ _ (by omega)]; congr 2; omega
theorem Mem.box_ext (m : Mem) (c : List Value) : m.box c = m.ext [c] := rfl
theorem Mem.ext_box : (m.ext l).box c = m.ext (l ++ [c]) := by simp [Mem.ext, Mem.box]
theorem Mem.ext_ext {k : List (List Value)} : (m.ext l).ext k = m.ext (l ++ k) := by simp [Mem.ext]
theorem Mem.ext_heap : (m.ext l).heap = m.heap := rfl
theorem Mem.ext_len : (m.ext l).stk.length = m.stk.length + l.length := by simp [Mem.ext]
theorem Mem.ext_len1 {c0 : List Value} : (m.ext [c0]).stk.length = m.stk.length + 1 := by simp [Mem.ext]
theorem Mem.ext_len2 {c0 c1 : List Value} : (m.ext [c0, c1]).stk.length = m.stk.length + 2 := by simp [Mem.ext]
theorem Mem.ext_len3 {c0 c1 c2 : List Value} : (m.ext [c0, c1, c2]).stk.length = m.stk.length + 3 := by simp [Mem.ext]
theorem Mem.ext_len4 {c0 c1 c2 c3 : List Value} : (m.ext [c0, c1, c2, c3]).stk.length = m.stk.length + 4 := by simp [Mem.ext]
theorem Mem.ext_len5 {c0 c1 c2 c3 c4 : List Value} : (m.ext [c0, c1, c2, c3, c4]).stk.length = m.stk.length + 5 := by simp [Mem.ext]
theorem Mem.ext_len6 {c0 c1 c2 c3 c4 c5 : List Value} : (m.ext [c0, c1, c2, c3, c4, c5]).stk.length = m.stk.length + 6 := by simp [Mem.ext]
theorem Mem.ext_len7 {c0 c1 c2 c3 c4 c5 c6 : List Value} : (m.ext [c0, c1, c2, c3, c4, c5, c6]).stk.length = m.stk.length + 7 := by simp [Mem.ext]
theorem Mem.ext_len8 {c0 c1 c2 c3 c4 c5 c6 c7 : List Value} : (m.ext [c0, c1, c2, c3, c4, c5, c6, c7]).stk.length = m.stk.length + 8 := by simp [Mem.ext]
theorem Mem.ext_len9 {c0 c1 c2 c3 c4 c5 c6 c7 c8 : List Value} : (m.ext [c0, c1, c2, c3, c4, c5, c6, c7, c8]).stk.length = m.stk.length + 9 := by simp [Mem.ext]
theorem Mem.ext_len10 {c0 c1 c2 c3 c4 c5 c6 c7 c8 c9 : List Value} : (m.ext [c0, c1, c2, c3, c4, c5, c6, c7, c8, c9]).stk.length = m.stk.length + 10 := by simp [Mem.ext]
theorem Mem.ext_len11 {c0 c1 c2 c3 c4 c5 c6 c7 c8 c9 c10 : List Value} : (m.ext [c0, c1, c2, c3, c4, c5, c6, c7, c8, c9, c10]).stk.length = m.stk.length + 11 := by simp [Mem.ext]
theorem Mem.ext_len12 {c0 c1 c2 c3 c4 c5 c6 c7 c8 c9 c10 c11 : List Value} : (m.ext [c0, c1, c2, c3, c4, c5, c6, c7, c8, c9, c10, c11]).stk.length = m.stk.length + 12 := by simp [Mem.ext]
theorem Mem.ext_pop : ({ heap := m.heap, stk := (m.ext l).stk.take m.stk.length } : Mem) = m := by simp [Mem.ext]
theorem Mem.self_pop : ({ heap := m.heap, stk := m.stk.take m.stk.length } : Mem) = m := by simp
theorem Mem.ext_push : (m.ext l).push c = (m.push c).ext l := rfl
theorem Mem.push_stk : (m.push c).stk = m.stk := rfl
theorem Mem.push_heap : (m.push c).heap = m.heap ++ [⟨c, 0, true⟩] := rfl
theorem Mem.ext_load {b o v : Nat} : (m.ext l).load ⟨b, o, some v⟩ = m.load ⟨b, o, some v⟩ := rfl
theorem Mem.ext_loads {b o v n : Nat} : (m.ext l).loads ⟨b, o, some v⟩ n = m.loads ⟨b, o, some v⟩ n := rfl
theorem Mem.ext_at0 : (m.ext (c :: l)).at m.stk.length none = some (c, true) := by simp [Mem.ext, Mem.at]
theorem Mem.ext_at {j : Nat} : (m.ext l).at (m.stk.length + j) none = (l[j]?).map fun c => (c, true) := by simp [Mem.ext, Mem.at, getElem?_over]
theorem Mem.ext_load0 {o : Nat} : (m.ext (c :: l)).load ⟨m.stk.length, o, none⟩ = c[o]? := by simp [Mem.load, Mem.ext_at0]
theorem Mem.ext_loadj {o j : Nat} : (m.ext l).load ⟨m.stk.length + j, o, none⟩ = (l[j]?).bind fun c => c[o]? := by
  simp only [Mem.load, Mem.ext_at]
  cases l[j]? <;> simp
theorem Mem.ext_loads0 {o n : Nat} : (m.ext (c :: l)).loads ⟨m.stk.length, o, none⟩ n = if o + n ≤ c.length then some ((c.drop o).take n) else none := by simp [Mem.loads, Mem.ext_at0]
theorem Mem.ext_loadsj {o n j : Nat} : (m.ext l).loads ⟨m.stk.length + j, o, none⟩ n = (l[j]?).bind fun c => if o + n ≤ c.length then some ((c.drop o).take n) else none := by
  simp only [Mem.loads, Mem.ext_at]
  cases l[j]? <;> simp
theorem Mem.ext_store0 {o : Nat} {v : Value} : (m.ext (c :: l)).store ⟨m.stk.length, o, none⟩ v = if o < c.length ∧ okC (m.stk.length + 1) v = true then some (m.ext (c.set o v :: l)) else none := by
  simp [Mem.store, Mem.ext]
theorem Mem.ext_storej {o j : Nat} {v : Value} : (m.ext l).store ⟨m.stk.length + j, o, none⟩ v = (l[j]?).bind fun c => if o < c.length ∧ okC (m.stk.length + j + 1) v = true then some (m.ext (l.set j (c.set o v))) else none := by
  simp only [Mem.store, Mem.ext]
  rw [getElem?_over]
  cases l[j]? with
  | none => rfl
  | some c => simp only [Option.bind_some, set_over]
theorem Mem.stores_nil {a : Addr} : m.stores a [] = some m := rfl
theorem Mem.stores_cons {a : Addr} {v : Value} {vs : List Value} : m.stores a (v :: vs) = (m.store a v).bind fun m' => m'.stores ⟨a.block, a.off + 1, a.spot⟩ vs := rfl
theorem Mem.le_ext {k : Mem} (h : (m.ext l).le k) : ∃ m2, m.le m2 ∧ k = m2.ext l := by
  obtain ⟨hs, e, he⟩ := h
  refine ⟨{ heap := k.heap, stk := m.stk }, ⟨rfl, e, he⟩, ?_⟩
  cases k
  simp only [Mem.ext] at hs ⊢
  rw [hs]
theorem Mem.le.pop {k : Mem} (h : m.le k) : ({ heap := k.heap, stk := k.stk.take m.stk.length } : Mem) = k := by
  rw [h.stk]; cases k; have := h.stk; simp only at this; rw [this]; simp
theorem Mem.le.ext {k : Mem} (h : m.le k) : (m.ext l).le (k.ext l) := by
  obtain ⟨hs, e, he⟩ := h
  exact ⟨by simp [Mem.ext, hs], e, he⟩
end
/-- A memory without the locals from a number on. -/
def Mem.pop (m : Mem) (n : Nat) : Mem := { heap := m.heap, stk := m.stk.take n }
theorem retS_rp {P : Program} {res : List ResultVar} {n : Nat} {Q : Value → Mem → Prop} {env : List Value} {m : Mem} :
    retS P res n Q .ret env m = ∃ vs, res.mapM (resOne P env m) = some vs ∧ okV n (tup1 vs) = true ∧ Q (tup1 vs) (m.pop n) := rfl
theorem retS_np {P : Program} {res : List ResultVar} {n : Nat} {Q : Value → Mem → Prop} {env : List Value} {m : Mem} :
    retS P res n Q .normal env m = ∃ vs, res.mapM (resOne P env m) = some vs ∧ okV n (tup1 vs) = true ∧ Q (tup1 vs) (m.pop n) := rfl
theorem Mem.pop_push_ext {m : Mem} {l : List (List Value)} {c : List Value} {n : Nat} : ((m.push c).ext l).pop n = ((m.ext l).pop n).push c := rfl
theorem Mem.pop_push {m : Mem} {c : List Value} {n : Nat} : (m.push c).pop n = (m.pop n).push c := rfl
theorem Mem.pop_ext {m : Mem} {l : List (List Value)} : (m.ext l).pop m.stk.length = m := by simp [Mem.pop, Mem.ext]
theorem Mem.pop_self {m : Mem} : m.pop m.stk.length = m := by simp [Mem.pop]
theorem Mem.le.pop_ext {m k : Mem} (h : m.le k) (l : List (List Value)) : (k.ext l).pop m.stk.length = k := by rw [← h.stk]; exact Mem.pop_ext
theorem Mem.le.pop_same {m k : Mem} (h : m.le k) : k.pop m.stk.length = k := by rw [← h.stk]; exact Mem.pop_self
theorem ite_intro {c A B : Prop} [Decidable c] (h1 : c → A) (h2 : ¬ c → B) : if c then A else B := by split <;> simp_all
theorem Sl.ext {α : Type} {m : Mem} {l : List (List Value)} {esz : Nat} {R : Mem → List Value → α → Prop} (hR : ∀ cs x, R m cs x → R (m.ext l) cs x) {v : Value} {xs : List α} (h : Sl m esz R v xs) : Sl (m.ext l) esz R v xs := by
  rcases h with h | ⟨b, off, sp, hv, h1, h2⟩
  · exact .inl h
  · exact .inr ⟨b, off, sp, hv, fun i x hx => let ⟨cs, hc, hr⟩ := h1 i x hx; ⟨cs, hc, hR _ _ hr⟩, h2⟩
theorem Ints.ext {m : Mem} {v : Value} {xs : List Int} (h : Ints m v xs) (l : List (List Value)) : Ints (m.ext l) v xs := Sl.ext (fun _ _ h => h) h
theorem Sl.okC {α : Type} {m : Mem} {esz : Nat} {R : Mem → List Value → α → Prop} {v : Value} {l : List α} (h : Sl m esz R v l) (n : Nat) : okC n v = true := by
  rcases h with ⟨_, rfl⟩ | ⟨b, off, sp, rfl, _⟩ <;> rfl
theorem Sl.cells {α : Type} {m : Mem} {esz : Nat} {R : Mem → List Value → α → Prop} {v : Value} {l : List α} (h : Sl m esz R v l) : v.cells = #[v] := by
  rcases h with ⟨_, rfl⟩ | ⟨b, off, sp, rfl, _⟩ <;> rfl
theorem Sl.okA {α : Type} {m : Mem} {esz : Nat} {R : Mem → List Value → α → Prop} {v : Value} {l : List α} (h : Sl m esz R v l) (n : Nat) : okA n v = true := by
  rcases h with ⟨_, rfl⟩ | ⟨b, off, sp, rfl, _⟩ <;> rfl
theorem Sl.okV {α : Type} {m : Mem} {esz : Nat} {R : Mem → List Value → α → Prop} {v : Value} {l : List α} (h : Sl m esz R v l) (n : Nat) : okV n v = true := by
  rcases h with ⟨_, rfl⟩ | ⟨b, off, sp, rfl, _⟩ <;> rfl
theorem fillA_nil {c : List Value} : fillA c [] = some c := rfl
theorem fillA_cons {c : List Value} {off size : Nat} {v : Value} {rest : List (Nat × Nat × Value)} :
    fillA c ((off, size, v) :: rest) = if v.cells.size = size ∧ off + size ≤ c.length then fillA (c.take off ++ v.cells.toList ++ c.drop (off + size)) rest else none := rfl
theorem partsA_nil {env : List Value} : partsA env [] = [] := rfl
theorem partsA_cons {env : List Value} {a b : Nat} {x : Operand} {r : List (Nat × Nat × Operand)} : partsA env ((a, b, x) :: r) = (a, b, evA env x) :: partsA env r := rfl
theorem push_sliceCells {m : Mem} {cs : List Value} {n esz : Nat} : (m.push cs).sliceCells esz (.slice (some ⟨m.heap.length, 0, some 0⟩) n esz) = if n * esz ≤ cs.length then some (n, cs.take (n * esz)) else none := by
  simp only [Mem.sliceCells, Mem.loads, Mem.at, Mem.push, if_true]
  simp only [List.getElem?_concat_length, Option.bind_some, if_true, Nat.zero_add, List.drop_zero]
  split <;> rfl
theorem byteA_i {z : Int} : byteA (.int .u8 z) = some (UInt8.ofNat z.toNat) := rfl
theorem noPtr_b {b : Bool} : noPtr (.bool b) = true := rfl
theorem noPtr_i {k : IntKind} {n : Int} : noPtr (.int k n) = true := rfl
theorem noPtr_f {k : FloatKind} {n : Nat} : noPtr (.float k n) = true := rfl
theorem noPtr_s {s : ByteArray} : noPtr (.string s) = true := rfl
theorem noPtr_t {vs : Array Value} : noPtr (.tuple vs) = vs.toList.all noPtrA := rfl
theorem noPtr_a {vs : Array Value} : noPtr (.agg vs) = vs.toList.all noPtr1 := rfl
theorem u8_id {n : Int} (h1 : 0 ≤ n) (h2 : n < 256) : IntKind.u8.wrap n = n := by
  simp only [IntKind.wrap, IntKind.signed, IntKind.bits]
  simp
  omega
end Go.AM
