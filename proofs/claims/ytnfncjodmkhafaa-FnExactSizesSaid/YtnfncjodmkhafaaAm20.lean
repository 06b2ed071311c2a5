/-
  The abstract machine, twentieth part: what comes in: arguments are read into blocks that may not be written.
-/
import Derived.Test.YtnfncjodmkhafaaAm18
import Derived.Test.YtnfncjodmkhafaaAm19
import Derived.ChangeShapes
import Derived.ChangeArms
import Derived.ChangeSame
import Derived.SizedLaws
set_option linter.all false
set_option linter.unusedSimpArgs false
set_option linter.unusedVariables false
namespace Go.AM
/-- A block that may not be written. -/
def Mem.pushR (m : Mem) (cells : List Value) : Mem := { m with heap := m.heap ++ [{ cells, ver := 0, rw := false }] }
theorem Mem.le_pushR (m : Mem) (c : List Value) : m.le (m.pushR c) := ⟨rfl, _, rfl⟩
/-- No block may be written, and there are no locals. -/
structure Mem.still (m : Mem) : Prop where
  heap : ∀ blk ∈ m.heap, blk.rw = false
  stk : m.stk = []
theorem Mem.still.at {m : Mem} (h : m.still) {b : Nat} {sp : Option Nat} {c : List Value} {r : Bool} (hc : m.at b sp = some (c, r)) : r = false := by
  cases sp with
  | none => simp [Mem.at, h.stk] at hc
  | some v =>
    simp only [Mem.at, Option.bind_eq_some_iff] at hc
    obtain ⟨blk, hb, hc⟩ := hc
    have := h.heap blk (List.mem_of_getElem? hb)
    split at hc
    · cases hc; exact this
    · cases hc
theorem Mem.still.push {m : Mem} (h : m.still) (c : List Value) : (m.pushR c).still := by
  refine ⟨fun blk hb => ?_, h.stk⟩
  rcases List.mem_append.1 hb with hb | hb
  · exact h.heap blk hb
  · simp at hb; subst hb; rfl
theorem Rel.pushR {ρ : Rho} {m : Mem} {w : World} (h : Rel ρ m w) (hs : m.still) {xs : List Value} {B o : Nat} {cs : Array Value} {e : TypeId} {fr : Nat × Nat} (hB : w.heap[B]? = some (.cells cs e fr)) (hok : ∀ c ∈ xs, okC 0 c = true)
    (hl : o + xs.length ≤ cs.size) (hv : ∀ (i : Nat) (x : Value), xs[i]? = some x → ∃ y, cs[o + i]? = some y ∧ VRel ρ x y) :
    ∃ ρ', ρ' m.heap.length (some 0) = some ⟨B, o, cs.size⟩ ∧ ρ.le ρ' ∧ Rel ρ' (m.pushR xs) w := by
  have hno := h.no_heap 0
  have hle : ρ.le (ρ.put m.heap.length (some 0) ⟨B, o, cs.size⟩) := Rho.le_put _ hno
  have hoth : ∀ b' sp', ¬ (b' = m.heap.length ∧ sp' = some 0) → (m.pushR xs).at b' sp' = m.at b' sp' := by
    intro b' sp' hne
    cases sp' with
    | none => simp [Mem.at, Mem.pushR]
    | some v =>
      simp only [Mem.at, Mem.pushR, List.getElem?_append]
      split
      · rfl
      · rename_i hb
        have hn : m.heap[b']? = none := by rw [List.getElem?_eq_none_iff]; omega
        rw [hn]
        by_cases he : b' = m.heap.length
        · subst he
          have : v ≠ 0 := fun e => hne ⟨rfl, by rw [e]⟩
          simp [Ne.symm this]
        · have : [({ cells := xs, ver := 0, rw := false } : Blk)][b' - m.heap.length]? = none := by rw [List.getElem?_eq_none_iff]; simp; omega
          simp [this]
  refine ⟨_, Rho.put_self _ _ _ _, hle, ⟨⟨fun b blk hb c hc => ?_, h.wf.stk⟩, fun b' sp' cells' rw' L' hc hL' => ?_, fun b1 sp1 b2 sp2 c1 c2 r1 r2 L1 L2 ha1 ha2 hl1 hl2 hne hr => ?_, fun b' sp' L' hL' => ?_⟩⟩
  · simp only [Mem.pushR, List.getElem?_append] at hb
    split at hb
    · exact h.wf.heap b blk hb c hc
    · have hm := List.mem_of_getElem? hb
      simp at hm; subst hm; exact hok c hc
  · by_cases hk : b' = m.heap.length ∧ sp' = some 0
    · obtain ⟨rfl, rfl⟩ := hk
      rw [Rho.put_self] at hL'; cases hL'
      have hat : (m.pushR xs).at m.heap.length (some 0) = some (xs, false) := by simp [Mem.at, Mem.pushR]
      rw [hat] at hc; cases hc
      refine ⟨cs, e, fr, hB, rfl, hl, fun h => Bool.noConfusion h, fun i x hx => ?_⟩
      obtain ⟨y, hy, hvv⟩ := hv i x hx
      exact ⟨y, hy, hvv.mono hle⟩
    · rw [Rho.put_ne _ _ hk] at hL'
      rw [hoth b' sp' hk] at hc
      exact (h.back b' sp' cells' rw' L' hc hL').mono hle rfl
  · have h1 := (hs.push xs).at ha1
    have h2 := (hs.push xs).at ha2
    subst h1; subst h2
    simp at hr
  · by_cases hk' : b' = m.heap.length ∧ sp' = some 0
    · obtain ⟨rfl, rfl⟩ := hk'
      rw [Rho.put_self] at hL'; cases hL'
      refine ⟨⟨_, by simp [Mem.pushR]; rfl, Nat.zero_le _⟩, ?_⟩
      have := (Array.getElem?_eq_some_iff.1 hB).1
      exact this
    · rw [Rho.put_ne _ _ hk'] at hL'
      have := h.dom b' sp' L' hL'
      refine ⟨?_, this.2⟩
      cases sp' with
      | none => exact this.1
      | some v =>
        obtain ⟨blk, hb, hv⟩ := this.1
        refine ⟨blk, ?_, hv⟩
        have := (List.getElem?_eq_some_iff.1 hb).1
        show (m.heap ++ _)[b']? = some blk
        rw [List.getElem?_append_left this]; exact hb

/-- Cells can be read: there is an abstract memory, more than the one that is there, with abstract cells of which something holds. -/
def CanRead (w : World) (cs : List Value) (R : Mem → List Value → Prop) : Prop :=
  ∀ ρ m, Rel ρ m w → m.still → ∃ ρ' m' acs, ρ.le ρ' ∧ m.le m' ∧ Rel ρ' m' w ∧ m'.still ∧ LRel ρ' acs cs ∧ (∀ c ∈ acs, okC 0 c = true) ∧ R m' acs
theorem CanRead.mono {w : World} {cs : List Value} {R R' : Mem → List Value → Prop} (h : CanRead w cs R) (hr : ∀ m acs, acs.length = cs.length → R m acs → R' m acs) : CanRead w cs R' := by
  intro ρ m h1 h2
  obtain ⟨ρ', m', acs, a1, a2, a3, a4, a5, a6, a7⟩ := h ρ m h1 h2
  exact ⟨ρ', m', acs, a1, a2, a3, a4, a5, a6, hr _ _ a5.1 a7⟩
theorem read_int {w : World} {k : IntKind} {n : Int} : CanRead w [.int k n] (fun _ acs => acs = [.int k n]) :=
  fun ρ m h1 h2 => ⟨ρ, m, _, .refl ρ, .refl m, h1, h2, .cons (.int k n) (.nil ρ), by simp [okC, okC0], rfl⟩
theorem read_str {w : World} {s : ByteArray} : CanRead w [.string s] (fun _ acs => acs = [.string s]) :=
  fun ρ m h1 h2 => ⟨ρ, m, _, .refl ρ, .refl m, h1, h2, .cons (.string s) (.nil ρ), by simp [okC, okC0], rfl⟩
theorem read_bool {w : World} {b : Bool} : CanRead w [.bool b] (fun _ acs => acs = [.bool b]) :=
  fun ρ m h1 h2 => ⟨ρ, m, _, .refl ρ, .refl m, h1, h2, .cons (.bool b) (.nil ρ), by simp [okC, okC0], rfl⟩
theorem read_float {w : World} {k : FloatKind} {b : Nat} : CanRead w [.float k b] (fun _ acs => acs = [.float k b]) :=
  fun ρ m h1 h2 => ⟨ρ, m, _, .refl ρ, .refl m, h1, h2, .cons (.float k b b (.inl rfl)) (.nil ρ), by simp [okC, okC0], rfl⟩
theorem LRel.app {ρ : Rho} {a b c d : List Value} (h : LRel ρ a b) (h' : LRel ρ c d) : LRel ρ (a ++ c) (b ++ d) := h.append h'
/-- Cells behind cells. -/
theorem read_app {w : World} {c1 c2 : List Value} {R1 R2 : Mem → List Value → Prop} (h1 : CanRead w c1 R1) (h2 : CanRead w c2 R2) (hm : ∀ m m' acs, m.le m' → R1 m acs → R1 m' acs) :
    CanRead w (c1 ++ c2) (fun m acs => ∃ a1 a2, acs = a1 ++ a2 ∧ a1.length = c1.length ∧ R1 m a1 ∧ R2 m a2) := by
  intro ρ m hr hs
  obtain ⟨ρ1, m1, a1, p1, p2, p3, p4, p5, p6, p7⟩ := h1 ρ m hr hs
  obtain ⟨ρ2, m2, a2, q1, q2, q3, q4, q5, q6, q7⟩ := h2 ρ1 m1 p3 p4
  exact ⟨ρ2, m2, a1 ++ a2, p1.trans q1, p2.trans q2, q3, q4, (p5.mono q1).append q5, fun c hc => by
    rcases List.mem_append.1 hc with hc | hc
    · exact p6 c hc
    · exact q6 c hc, a1, a2, rfl, p5.1, hm _ _ _ q2 p7, q7⟩
/-- Many rows of cells, one after the other. -/
theorem read_rows {α : Type} {w : World} {n : Nat} {R : Mem → List Value → α → Prop} (hm : ∀ m m' acs x, m.le m' → R m acs x → R m' acs x) : ∀ (rows : List (List Value)) (l : List α), rows.length = l.length →
    (∀ (i : Nat) (c : List Value) (x : α), rows[i]? = some c → l[i]? = some x → c.length = n ∧ CanRead w c (fun m acs => R m acs x)) →
    CanRead w rows.flatten (fun m acs => acs.length = l.length * n ∧ ∀ (i : Nat) (x : α), l[i]? = some x → R m ((acs.drop (i * n)).take n) x) := by
  intro rows
  induction rows with
  | nil =>
    intro l hl _ ρ m h1 h2
    have : l = [] := List.eq_nil_of_length_eq_zero hl.symm
    subst this
    exact ⟨ρ, m, [], .refl ρ, .refl m, h1, h2, .nil ρ, by simp, by simp, by simp⟩
  | cons c rows ih =>
    intro l hl h
    cases l with
    | nil => simp at hl
    | cons x l =>
      obtain ⟨hn, hc⟩ := h 0 c x rfl rfl
      have hrest := ih l (by simpa using hl) fun i c' x' h1 h2 => h (i + 1) c' x' h1 h2
      refine (read_app hc hrest (fun m m' acs hle hr => hm m m' acs x hle hr)).mono ?_
      rintro m acs - ⟨a1, a2, rfl, hl1, hr1, hl2, hr2⟩
      rw [hn] at hl1
      refine ⟨by simp [hl1, hl2, Nat.add_mul]; omega, fun i y hy => ?_⟩
      cases i with
      | zero => simp at hy; subst hy; simpa [← hl1] using hr1
      | succ i =>
        have e : ((a1 ++ a2).drop ((i + 1) * n)).take n = (a2.drop (i * n)).take n := by
          rw [List.drop_append, List.drop_of_length_le (by rw [hl1, Nat.add_mul]; omega), List.nil_append, hl1, Nat.add_mul, Nat.one_mul, Nat.add_sub_cancel]
        rw [e]
        exact hr2 i y (by simpa using hy)
theorem mul_lt_succ' {i n e : Nat} (h : i < n) : i * e + e ≤ n * e := by
  have := Nat.mul_le_mul_right e (show i + 1 ≤ n from h)
  rw [Nat.add_mul, Nat.one_mul] at this
  exact this
theorem choose_list {α : Type} {n : Nat} {Q : Nat → α → Prop} (h : ∀ i, i < n → ∃ x, Q i x) : ∃ l : List α, l.length = n ∧ ∀ i x, l[i]? = some x → Q i x := by
  induction n with
  | zero => exact ⟨[], rfl, by simp⟩
  | succ n ih =>
    obtain ⟨l, hl, hq⟩ := ih fun i hi => h i (by omega)
    obtain ⟨x, hx⟩ := h n (by omega)
    refine ⟨l ++ [x], by simp [hl], fun i y hy => ?_⟩
    rw [List.getElem?_append] at hy
    split at hy
    · exact hq i y hy
    · rename_i hi
      have : i = l.length := by
        by_cases e : i = l.length
        · exact e
        · rw [List.getElem?_eq_none (by simp; omega)] at hy; cases hy
      subst this
      simp at hy; subst hy; rw [hl]; exact hx
theorem flatten_rows {n : Nat} : ∀ (rows : List (List Value)) (L : List Value), rows.length * n ≤ L.length → (∀ i c, rows[i]? = some c → c = (L.drop (i * n)).take n) → rows.flatten = L.take (rows.length * n) := by
  intro rows
  induction rows with
  | nil => intro L _ _; simp
  | cons c rows ih =>
    intro L hl h
    have h0 := h 0 c rfl
    simp only [Nat.zero_mul, List.drop_zero] at h0
    simp only [List.length_cons, Nat.add_mul, Nat.one_mul] at hl ⊢
    rw [List.flatten_cons, ih (L.drop n) (by simp; omega) (fun i c' hc => by
      have := h (i + 1) c' hc
      rw [this, List.drop_drop]; congr 2; rw [Nat.add_mul]; omega), h0, Nat.add_comm, List.take_add]
theorem spot_none {w : World} {a : Addr} {v : Value} (h : w.cell? (a.add 0) = some v) : a.spot = none := by
  unfold World.cell? at h
  split at h
  · split at h
    · cases h
    · rename_i hs
      obtain ⟨b, o, s⟩ := a
      cases s with
      | none => rfl
      | some s => simp [Addr.add] at hs
  · cases h
theorem cells_block {w : World} {B o k : Nat} {v : Value} (h : w.cell? ⟨B, o + k, none⟩ = some v) : ∃ cs e fr, w.heap[B]? = some (.cells cs e fr) ∧ cs[o + k]? = some v := by
  unfold World.cell? at h
  split at h
  · rename_i c e fr hc
    simp at h
    exact ⟨c, e, fr, hc, h⟩
  · cases h
theorem weights_elem {H : Type} {P : Program} {e : TypeId} {d : DataW H} : ∀ {l : List (DataW H)}, d ∈ l → ∀ n ∈ d.weights P e, n ∈ DataW.weightsAll P e l := by
  intro l
  induction l with
  | nil => intro h; cases h
  | cons x l ih =>
    intro h n hn
    simp only [DataW.weightsAll, List.mem_append]
    rcases List.mem_cons.1 h with rfl | h
    · exact .inl hn
    · exact .inr (ih h n hn)
section
variable {α : Type} {H : Type} {enc : TypeId × Value → H} {P : Program} {w : World} {t e : TypeId} {R : Mem → List Value → α → Prop} {F : α → Prop}
/-- A slice is read, element by element. -/
theorem read_slice (hm : ∀ m m' acs x, m.le m' → R m acs x → R m' acs x) (hu : P.underlying t = some (.slice e)) (hpos : 0 < P.cellsOf e) (hbytes : 0 < P.bytesOf e)
    (el : ∀ fuel cs d ps, DataW.trod enc P w 0 (fun _ => true) true fuel e cs = some (d, ps) → (∀ n ∈ d.weights P e, n ≤ reachBytes) → ∃ x, F x ∧ CanRead w cs (fun m acs => R m acs x))
    {fuel : Nat} {cs : List Value} {d : DataW H} {ps : List MemPlace} (h : DataW.trod enc P w 0 (fun _ => true) true fuel t cs = some (d, ps)) (hw : ∀ n ∈ d.weights P t, n ≤ reachBytes) :
    ∃ l : List α, l.length < 2 ^ 48 ∧ (∀ x ∈ l, F x) ∧ CanRead w cs (fun m acs => ∃ v, acs = [v] ∧ Sl m (P.cellsOf e) R v l) := by
  rcases DataW.trod_slice hu h with ⟨rfl, _⟩ | ⟨a, len, cap, elems, rest, n, _, rfl, hx, _, hl, _, hlen, hel, hsp, _⟩
  · exact ⟨[], by simp, by simp, fun ρ m h1 h2 => ⟨ρ, m, _, .refl ρ, .refl m, h1, h2, .cons (.sliceNil none) (.nil ρ), by simp [okC, okC0], .slice none 0 0, rfl, .inl ⟨rfl, rfl⟩⟩⟩
  cases hx
  have hwt : ∀ n ∈ DataW.weights P t (.slice (elems.map (·.1)) (rest.map (·.1)) : DataW H), n ≤ reachBytes := hw
  simp only [DataW.weights, hu, List.length_map] at hwt
  have hlen48 : len < 2 ^ 48 := by
    have h1 := hwt _ (List.mem_cons_self ..)
    have h2 := reachBytes_lt
    have h3 : (elems.length + rest.length) * 1 ≤ (elems.length + rest.length) * P.bytesOf e := Nat.mul_le_mul_left _ hbytes
    omega
  obtain ⟨hrl, hr⟩ := hsp rfl
  by_cases hc0 : cap = 0
  · have hl0 : len = 0 := by omega
    subst hc0; subst hl0
    exact ⟨[], by simp, by simp, fun ρ m h1 h2 => ⟨ρ, m, _, .refl ρ, .refl m, h1, h2, .cons (.sliceNil (some a)) (.nil ρ), by simp [okC, okC0], .slice none 0 0, rfl, .inl ⟨rfl, rfl⟩⟩⟩
  have hcell : ∀ i, i < cap → ∃ c, w.cells? 0 (a.add (i * P.cellsOf e)) (P.cellsOf e) = some c ∧ (∀ q, elems[i]? = some q → DataW.trod enc P w 0 (fun _ => true) true n e c = some q) := by
    intro i hi
    by_cases hil : i < len
    · have h1 := hel i hil
      rw [List.getElem?_eq_getElem (by omega), Option.bind_eq_some_iff] at h1
      obtain ⟨c, h2, h3⟩ := h1
      exact ⟨c, h2, fun q hq => by rw [List.getElem?_eq_getElem (by omega)] at hq; cases hq; exact h3⟩
    · have h1 := hr (i - len) (by omega)
      rw [show len + (i - len) = i by omega, List.getElem?_eq_getElem (by omega), Option.bind_eq_some_iff] at h1
      obtain ⟨c, h2, _⟩ := h1
      exact ⟨c, h2, fun q hq => by rw [List.getElem?_eq_none (by omega)] at hq; cases hq⟩
  have hsn : a.spot = none := by
    obtain ⟨c, h1, _⟩ := hcell 0 (by omega)
    obtain ⟨_, h3, h4⟩ := World.cells?_some h1
    have h5 := h4 0 hpos
    rw [Nat.zero_mul] at h5
    have h6 : (a.add 0).add 0 = a.add 0 := by obtain ⟨b, o, s⟩ := a; simp [Addr.add]
    rw [h6, List.getElem?_eq_getElem (by omega)] at h5
    exact spot_none h5
  obtain ⟨B, o, s⟩ := a
  simp only at hsn
  subst hsn
  have hone : ∀ i, i < cap → ∀ r, r < P.cellsOf e → ∀ c, w.cells? 0 ((⟨B, o, none⟩ : Addr).add (i * P.cellsOf e)) (P.cellsOf e) = some c → w.cell? ⟨B, o + (i * P.cellsOf e + r), none⟩ = c[r]? := by
    intro i hi r hr c hc
    have := (World.cells?_some hc).2.2 r hr
    rw [Addr.add_none, Addr.add_none, Nat.add_assoc] at this
    exact this
  obtain ⟨Ccs, Ce, Cfr, hB, hCsz⟩ : ∃ cs e' fr, w.heap[B]? = some (.cells cs e' fr) ∧ o + cap * P.cellsOf e ≤ cs.size := by
    obtain ⟨c, h1, _⟩ := hcell (cap - 1) (by omega)
    have h2 := hone (cap - 1) (by omega) (P.cellsOf e - 1) (by omega) c h1
    rw [List.getElem?_eq_getElem (by rw [(World.cells?_some h1).2.1]; omega)] at h2
    obtain ⟨cs, e', fr, h3, h4⟩ := cells_block h2
    refine ⟨cs, e', fr, h3, ?_⟩
    have h5 := (Array.getElem?_eq_some_iff.1 h4).1
    have h6 : cap * P.cellsOf e = (cap - 1) * P.cellsOf e + P.cellsOf e := by
      conv => lhs; rw [show cap = cap - 1 + 1 by omega, Nat.add_mul, Nat.one_mul]
    omega
  have hcs : ∀ i, i < cap → ∀ r, r < P.cellsOf e → ∀ c, w.cells? 0 ((⟨B, o, none⟩ : Addr).add (i * P.cellsOf e)) (P.cellsOf e) = some c → Ccs[o + (i * P.cellsOf e + r)]? = c[r]? := by
    intro i hi r hr c hc
    rw [← hone i hi r hr c hc]
    simp [World.cell?, hB]
  obtain ⟨both, hbl, hbq⟩ := choose_list (n := len) (Q := fun i (q : List Value × α) => w.cells? 0 ((⟨B, o, none⟩ : Addr).add (i * P.cellsOf e)) (P.cellsOf e) = some q.1 ∧ F q.2 ∧ CanRead w q.1 (fun m acs => R m acs q.2)) fun i hi => by
    obtain ⟨c, h1, h2⟩ := hcell i (by omega)
    have h3 := h2 elems[i] (List.getElem?_eq_getElem (by omega))
    obtain ⟨x, hx, hcr⟩ := el n c (elems[i]).1 (elems[i]).2 h3 (fun k hk => hwt k (List.mem_cons_of_mem _ (List.mem_append_left _ (weights_elem (List.mem_map.2 ⟨elems[i], List.getElem_mem _, rfl⟩) k hk))))
    exact ⟨(c, x), h1, hx, hcr⟩
  refine ⟨both.map (·.2), by simp [hbl]; exact hlen48, fun x hx => ?_, ?_⟩
  · obtain ⟨q, hq, rfl⟩ := List.mem_map.1 hx
    obtain ⟨i, hi⟩ := List.getElem?_of_mem hq
    exact (hbq i q hi).2.1
  have hlc : len * P.cellsOf e ≤ cap * P.cellsOf e := Nat.mul_le_mul_right _ hl
  have hrows := read_rows (w := w) (n := P.cellsOf e) (R := R) hm (both.map (·.1)) (both.map (·.2)) (by simp) fun i c x h1 h2 => by
    rw [List.getElem?_map] at h1 h2
    cases hq : both[i]? with
    | none => rw [hq] at h1; cases h1
    | some q =>
      rw [hq] at h1 h2
      cases h1; cases h2
      exact ⟨(World.cells?_some (hbq i q hq).1).2.1, (hbq i q hq).2.2⟩
  have hflat : (both.map (·.1)).flatten = (Ccs.toList.drop o).take (len * P.cellsOf e) := by
    have := flatten_rows (n := P.cellsOf e) (both.map (·.1)) (Ccs.toList.drop o) (by simp [hbl]; omega) fun i c hc => by
      rw [List.getElem?_map] at hc
      cases hq : both[i]? with
      | none => rw [hq] at hc; cases hc
      | some q =>
        rw [hq] at hc; cases hc
        have hi : i < len := by rw [← hbl]; exact (List.getElem?_eq_some_iff.1 hq).1
        obtain ⟨k1, k2, _⟩ := World.cells?_some (hbq i q hq).1
        show q.1 = _
        apply List.ext_getElem?
        intro r
        by_cases hr : r < P.cellsOf e
        · rw [List.getElem?_take_of_lt hr, List.getElem?_drop, List.getElem?_drop, ← hcs i (by omega) r hr q.1 (hbq i q hq).1]
          simp
        · rw [List.getElem?_eq_none (by omega), List.getElem?_eq_none (by simp; omega)]
    rw [this]; simp [hbl]
  rw [hflat] at hrows
  intro ρ m hr1 hs1
  obtain ⟨ρ1, m1, acs, p1, p2, p3, p4, p5, p6, p7, p8⟩ := hrows ρ m hr1 hs1
  have hal : acs.length = len * P.cellsOf e := by rw [p7]; simp [hbl]
  obtain ⟨ρ2, q1, q2, q3⟩ := p3.pushR p4 (xs := acs) (o := o) hB p6 (by omega) fun i x hx => by
    obtain ⟨y, hy, hv⟩ := p5.get hx
    have hi := (List.getElem?_eq_some_iff.1 hx).1
    rw [List.getElem?_take_of_lt (by omega), List.getElem?_drop] at hy
    exact ⟨y, by simpa using hy, hv⟩
  refine ⟨ρ2, _, [.slice (some ⟨m1.heap.length, 0, some 0⟩) len (P.cellsOf e)], p1.trans q2, p2.trans (Mem.le_pushR _ _), q3, p4.push _, .cons (.slice _ 0 (some 0) len _ _ o cap q1 (fun _ => rfl) hl (by simp only [Nat.add_zero]; exact hCsz)) (.nil _), by simp [okC, okC0], _, rfl, ?_⟩
  refine .inr ⟨m1.heap.length, 0, 0, by simp [hbl], fun i x hx => ?_, fun hnil => ?_⟩
  · refine ⟨(acs.drop (i * P.cellsOf e)).take (P.cellsOf e), ?_, hm _ _ _ _ (Mem.le_pushR _ _) (p8 i x hx)⟩
    have hi : i < len := by have := (List.getElem?_eq_some_iff.1 hx).1; simp [hbl] at this; exact this
    have := mul_lt_succ' (e := P.cellsOf e) hi
    simp only [Mem.loads, Mem.at, Mem.pushR, List.getElem?_concat_length, Option.bind_some, if_true, Nat.zero_add]
    rw [if_pos (by omega)]
  · simp only [Mem.loads, Mem.at, Mem.pushR, List.getElem?_concat_length, Option.bind_some, if_true, Nat.zero_add]
    rw [if_pos (by omega)]; simp
end
end Go.AM
