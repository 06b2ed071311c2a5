/-
  The abstract machine, eighteenth part: memories that hold all of another one, with locals on top; tests that are noted where they fall; elements by place.
-/
import Derived.Test.YtnfncjodmkhafaaAm17
set_option linter.all false
set_option linter.unusedSimpArgs false
set_option linter.unusedVariables false
namespace Go.AM
universe u
section
variable {A B : Prop}
/-- A test by a Bool: noted as an equation. -/
theorem ite_hB {b : Bool} {x y : Prop} {u : Dep x} {v : Dep y} (h1 : b = true → x) (h2 : b = false → y) : if b = true then hold x u else hold y v := by
  cases b
  · exact h2 rfl
  · exact h1 rfl
theorem ite_hF {b : Bool} {x y : Prop} {u : Dep x} {v : Dep y} (h1 : b = false → x) (h2 : b = true → y) : if b = false then hold x u else hold y v := by
  cases b
  · exact h1 rfl
  · exact h2 rfl
/-- A test by a proposition: noted as such and as an equation of its Bool. -/
theorem ite_hd {c x y : Prop} [Decidable c] {u : Dep x} {v : Dep y} (h1 : c → decide c = true → x) (h2 : ¬ c → decide c = false → y) : if c then hold x u else hold y v := by
  by_cases h : c
  · rw [if_pos h]; exact h1 h (decide_eq_true h)
  · rw [if_neg h]; exact h2 h (decide_eq_false h)
theorem ite_hn {c x y : Prop} [Decidable c] {d : Decidable (¬ c)} {u : Dep x} {v : Dep y} (h1 : ¬ c → decide c = false → @decide (¬ c) d = true → x) (h2 : c → decide c = true → @decide (¬ c) d = false → y) : @ite Prop (¬ c) d (hold x u) (hold y v) := by
  by_cases h : c
  · rw [if_neg (by simp [h])]; exact h2 h (decide_eq_true h) (decide_eq_false (by simp [h]))
  · rw [if_pos h]; exact h1 h (decide_eq_false h) (decide_eq_true h)
theorem optW_get {α : Type} {l : List α} {i : Nat} {K : α → Prop} (h : i < l.length) (hk : K l[i]) : optW (l[i]?) K := ⟨l[i], List.getElem?_eq_getElem h, hk⟩
end

theorem flat_i {k : IntKind} {n : Int} : flat (.int k n) = true := rfl
/-- A byte of a list, as a whole number. -/
def bt (l : List UInt8) (i : Nat) : Int := ((l.getD i 0).toNat : Int)
theorem bt_get {l : List UInt8} {i : Nat} (h : i < l.length) : (l[i].toNat : Int) = bt l i := by simp [bt, h]
theorem bt_get? {l : List UInt8} {i : Nat} {b : UInt8} (h : l[i]? = some b) : bt l i = b.toNat := by simp [bt, h]
/-- Two roads, both to be walked. -/
def altW (A B : Prop) : Prop := A ∧ B
theorem altW_i {A B : Prop} {u : Dep A} {v : Dep B} (h : A) (h' : B) : altW (hold A u) (hold B v) := ⟨h, h'⟩
section
variable {P : Program} {K : List Value → Mem → Prop} {Q : Exit → List Value → Mem → Prop} {env : List Value} {m : Mem}
theorem wpS_draw_h {t : DT} : wpS P (.draw t) Q env m = wpDT P (hold (Q .normal) ()) t env m := by
  rw [wpS_draw, hold_eq]
  apply propext
  exact ⟨fun ⟨M, h, hm⟩ => wpDT_mono hm t _ _ h, fun h => ⟨_, h, fun _ _ h => h⟩⟩
theorem wpDT_done : wpDT P K .done env m = K env m := rfl
theorem wpDT_step {i : AI} {t : DT} : wpDT P K (.step i t) env m = iA P (hold (wpDT P K t) ()) [i] env m := by
  apply propext
  simp only [wpDT, iA, absOp, hold_eq]
theorem wpDT_alt {a b : DT} : wpDT P K (.alt a b) env m = altW (hold (wpDT P K a env m) ()) (hold (wpDT P K b env m) ()) := rfl
theorem wpDT_congr {t : DT} {env' : List Value} {m' : Mem} (h : env = env') (h2 : m = m') : wpDT P K t env m = wpDT P K t env' m' := by rw [h, h2]
end
theorem thenA_thenA {A B : List Value → Mem → Prop} {Q : Exit → List Value → Mem → Prop} : thenA A (thenA B Q) = thenA A Q := by
  funext e env m
  cases e <;> rfl
theorem wpS_assoc {P : Program} {a b c : AC} {Q : Exit → List Value → Mem → Prop} {env : List Value} {m : Mem} : wpS P (.seq a (.seq b c)) Q env m = wpS P (.seq (.seq a b) c) Q env m := by
  show wpS P a (thenA (wpS P b (thenA (wpS P c Q) Q)) Q) env m = wpS P a (thenA (wpS P b (thenA (wpS P c Q) Q)) (thenA (wpS P c Q) Q)) env m
  rw [thenA_thenA]
/-- What holds between two statements: the frame 'E' of a state and of what lies about. -/
theorem wpS_cut {P : Program} {a b : AC} {Q : Exit → List Value → Mem → Prop} {env : List Value} {m : Mem} {σ : Type} (E : σ → (Nat → Value) → List Value) (I : σ → Mem → Prop)
    (h1 : wpS P a (thenA (fun env' m' => ∃ s, env' = E s (fun i => env'.getD i undef) ∧ I s m') Q) env m) (h2 : ∀ s g m, I s m → wpS P b Q (E s g) m) : wpS P (.seq a b) Q env m := by
  refine wpS_mono a (fun e env m hh => ?_) env m h1
  cases e with
  | normal =>
    obtain ⟨s, he, hI⟩ := hh
    simp only [thenA]
    rw [he]
    exact h2 s _ _ hI
  | _ => exact hh
/-- A memory with all that another one has; locals on top. -/
structure Mem.sub (m m' : Mem) : Prop where
  heap : ∃ e, m'.heap = m.heap ++ e
  stk : ∃ s, m'.stk = m.stk ++ s
theorem Mem.sub.refl (m : Mem) : m.sub m := ⟨⟨[], by simp⟩, ⟨[], by simp⟩⟩
theorem Mem.sub.trans {a b c : Mem} (h : a.sub b) (h' : b.sub c) : a.sub c := by
  obtain ⟨⟨e, he⟩, ⟨s, hs⟩⟩ := h
  obtain ⟨⟨e', he'⟩, ⟨s', hs'⟩⟩ := h'
  exact ⟨⟨e ++ e', by rw [he', he, List.append_assoc]⟩, ⟨s ++ s', by rw [hs', hs, List.append_assoc]⟩⟩
theorem Mem.le.sub {a b : Mem} (h : a.le b) : a.sub b := ⟨h.heap, ⟨[], by simp [h.stk]⟩⟩
theorem Mem.sub_ext (m : Mem) (l : List (List Value)) : m.sub (m.ext l) := ⟨⟨[], by simp [Mem.ext]⟩, ⟨l, rfl⟩⟩
theorem Mem.sub_push (m : Mem) (l : List Value) : m.sub (m.push l) := (Mem.le_push m l).sub
theorem Mem.sub_push_ext (m : Mem) (l : List Value) (k : List (List Value)) : m.sub ((m.push l).ext k) := (m.sub_push l).trans (Mem.sub_ext _ _)
theorem Mem.sub.at {m m' : Mem} (h : m.sub m') {b : Nat} {sp : Option Nat} {c : List Value × Bool} (hc : m.at b sp = some c) : m'.at b sp = some c := by
  obtain ⟨⟨e, he⟩, ⟨s, hs⟩⟩ := h
  cases sp with
  | none =>
    simp only [Mem.at, Option.map_eq_some_iff] at hc ⊢
    obtain ⟨a, h1, h2⟩ := hc
    exact ⟨a, by rw [hs, List.getElem?_append_left (List.getElem?_eq_some_iff.1 h1).1]; exact h1, h2⟩
  | some v =>
    simp only [Mem.at, Option.bind_eq_some_iff] at hc ⊢
    obtain ⟨blk, hb, hc⟩ := hc
    exact ⟨blk, by rw [he, List.getElem?_append_left (List.getElem?_eq_some_iff.1 hb).1]; exact hb, hc⟩
theorem Mem.sub.loads {m m' : Mem} (h : m.sub m') {a : Addr} {n : Nat} {cs : List Value} (hc : m.loads a n = some cs) : m'.loads a n = some cs := by
  simp only [Mem.loads, Option.bind_eq_some_iff] at hc ⊢
  obtain ⟨c, h1, h2⟩ := hc
  exact ⟨c, h.at h1, h2⟩
theorem Mem.sub.load {m m' : Mem} (h : m.sub m') {a : Addr} {c : Value} (hc : m.load a = some c) : m'.load a = some c := by
  simp only [Mem.load, Option.bind_eq_some_iff] at hc ⊢
  obtain ⟨c, h1, h2⟩ := hc
  exact ⟨c, h.at h1, h2⟩
theorem Sl.sub {α : Type} {m m' : Mem} {esz : Nat} {R : Mem → List Value → α → Prop} (hle : m.sub m') (hR : ∀ cs x, R m cs x → R m' cs x) {v : Value} {l : List α} (h : Sl m esz R v l) : Sl m' esz R v l := by
  rcases h with h | ⟨b, off, sp, hv, h1, h2⟩
  · exact .inl h
  · exact .inr ⟨b, off, sp, hv, fun i x hx => let ⟨cs, hc, hr⟩ := h1 i x hx; ⟨cs, hle.loads hc, hR _ _ hr⟩, fun e => hle.loads (h2 e)⟩
theorem Ints.sub {m m' : Mem} (hle : m.sub m') {v : Value} {l : List Int} (h : Ints m v l) : Ints m' v l := Sl.sub hle (fun _ _ h => h) h
/-- A call's result that is known: memory as before. -/
abbrev Same (m : Mem) (x : Value) (r : Value) (m' : Mem) : Prop := m' = m ∧ r = x
theorem Mem.push_ext_loadS {m : Mem} {c : List Value} {l : List (List Value)} {b o : Nat} : ((m.push c).ext l).load ⟨b, o, none⟩ = (m.ext l).load ⟨b, o, none⟩ := rfl
theorem Mem.push_ext_loadsS {m : Mem} {c : List Value} {l : List (List Value)} {b o n : Nat} : ((m.push c).ext l).loads ⟨b, o, none⟩ n = (m.ext l).loads ⟨b, o, none⟩ n := rfl
theorem Mem.push_ext_storeS {m : Mem} {c : List Value} {l : List (List Value)} {b o : Nat} {v : Value} : ((m.push c).ext l).store ⟨b, o, none⟩ v = ((m.ext l).store ⟨b, o, none⟩ v).map fun k => k.push c := by
  simp only [Mem.store, Mem.ext, Mem.push]
  cases (m.stk ++ l)[b]? with
  | none => rfl
  | some k => simp only [Option.bind_some]; split <;> rfl
theorem Mem.push_ext_store0 {m : Mem} {c k : List Value} {l : List (List Value)} {o : Nat} {v : Value} : ((m.push c).ext (k :: l)).store ⟨m.stk.length, o, none⟩ v = if o < k.length ∧ okC (m.stk.length + 1) v = true then some ((m.push c).ext (k.set o v :: l)) else none := Mem.ext_store0 (m := m.push c)
theorem Mem.push_ext_storej {m : Mem} {c : List Value} {l : List (List Value)} {o j : Nat} {v : Value} : ((m.push c).ext l).store ⟨m.stk.length + j, o, none⟩ v = (l[j]?).bind fun k => if o < k.length ∧ okC (m.stk.length + j + 1) v = true then some ((m.push c).ext (l.set j (k.set o v))) else none := Mem.ext_storej (m := m.push c)
theorem Mem.sub.to_ext {a b : Mem} {l : List (List Value)} (h : a.sub b) : a.sub (b.ext l) := h.trans (Mem.sub_ext _ _)
theorem Mem.sub.to_push {a b : Mem} {l : List Value} (h : a.sub b) : a.sub (b.push l) := h.trans (Mem.sub_push _ _)
theorem Mem.le.to_push {a b : Mem} {l : List Value} (h : a.le b) : a.le (b.push l) := h.trans (Mem.le_push _ _)
theorem Mem.blk.sub {m m' : Mem} {b ver : Nat} {cells : List Value} (h : m.blk b ver cells) (hl : m.sub m') : m'.blk b ver cells := by
  obtain ⟨⟨e, he⟩, _⟩ := hl
  have hlt := h.lt
  unfold Mem.blk at *
  rw [he, List.getElem?_append_left hlt]; exact h
end Go.AM
