/-
  The abstract machine, fourteenth part: loops by a measure; memories that only grow; lists that lie in slices; garbage is dropped.
-/
import Derived.Test.YtnfncjodmkhafaaAm13
set_option linter.all false
set_option linter.unusedSimpArgs false
set_option linter.unusedVariables false
namespace Go.AM

/-- One memory has all that another one has. -/
structure Mem.le (m m' : Mem) : Prop where
  stk : m'.stk = m.stk
  heap : ∃ ext, m'.heap = m.heap ++ ext
theorem Mem.le.refl (m : Mem) : m.le m := ⟨rfl, [], by simp⟩
theorem Mem.le.trans {a b c : Mem} (h : a.le b) (h' : b.le c) : a.le c := by
  obtain ⟨s, e, he⟩ := h
  obtain ⟨s', e', he'⟩ := h'
  exact ⟨s'.trans s, e ++ e', by rw [he', he, List.append_assoc]⟩
theorem Mem.le_push (m : Mem) (c : List Value) : m.le (m.push c) := ⟨rfl, _, rfl⟩
theorem Mem.le.at {m m' : Mem} (h : m.le m') {b : Nat} {sp : Option Nat} {c : List Value × Bool} (hc : m.at b sp = some c) : m'.at b sp = some c := by
  obtain ⟨hs, ext, he⟩ := h
  cases sp with
  | none => simpa [Mem.at, hs] using hc
  | some v =>
    simp only [Mem.at, Option.bind_eq_some_iff] at hc ⊢
    obtain ⟨blk, hb, hc⟩ := hc
    exact ⟨blk, by rw [he, List.getElem?_append_left (List.getElem?_eq_some_iff.1 hb).1]; exact hb, hc⟩
theorem Mem.le.loads {m m' : Mem} (h : m.le m') {a : Addr} {n : Nat} {cs : List Value} (hc : m.loads a n = some cs) : m'.loads a n = some cs := by
  simp only [Mem.loads, Option.bind_eq_some_iff] at hc ⊢
  obtain ⟨c, h1, h2⟩ := hc
  exact ⟨c, h.at h1, h2⟩
theorem Mem.le.load {m m' : Mem} (h : m.le m') {a : Addr} {c : Value} (hc : m.load a = some c) : m'.load a = some c := by
  simp only [Mem.load, Option.bind_eq_some_iff] at hc ⊢
  obtain ⟨c, h1, h2⟩ := hc
  exact ⟨c, h.at h1, h2⟩
theorem Mem.le.len {m m' : Mem} (h : m.le m') : m.heap.length ≤ m'.heap.length := by
  obtain ⟨_, e, he⟩ := h; rw [he]; simp

/-- A value that points nowhere. -/
def noPtr1 : Value → Bool
  | .bool _ | .int _ _ | .float _ _ | .string _ | .nilIface | .nilFunc | .pointer none | .slice none 0 0 => true
  | _ => false
def noPtrA : Value → Bool
  | .agg cs => cs.toList.all noPtr1
  | v => noPtr1 v
def noPtr : Value → Bool
  | .tuple vs => vs.toList.all noPtrA
  | v => noPtrA v
theorem noPtr1_rel {ρ ρ' : Rho} {v y : Value} (h : noPtr1 v = true) (hv : VRel ρ v y) : VRel ρ' v y := by
  unfold noPtr1 at h
  split at h <;> first | (cases h; done) | skip
  · cases hv; exact .bool _
  · cases hv; exact .int _ _
  · cases hv with | float _ _ b' h => exact .float _ _ b' h
  · cases hv; exact .string _
  · cases hv; exact .nilIface
  · cases hv; exact .nilFunc
  · cases hv; exact .ptrNil
  · cases hv; exact .sliceNil _
theorem noPtrA_rel {ρ ρ' : Rho} {v y : Value} (h : noPtrA v = true) (hv : VRel ρ v y) : VRel ρ' v y := by
  unfold noPtrA at h
  split at h
  · rename_i xs
    cases hv with
    | agg _ ys h1 h2 =>
      simp only [List.all_eq_true] at h
      exact .agg xs ys h1 fun i x y hx hy => noPtr1_rel (h x (List.mem_of_getElem? hx)) (h2 i x y hx hy)
  · exact noPtr1_rel h hv
theorem noPtr_rel {ρ ρ' : Rho} {v y : Value} (h : noPtr v = true) (hv : VRel ρ v y) : VRel ρ' v y := by
  unfold noPtr at h
  split at h
  · rename_i xs
    cases hv with
    | tuple _ ys h1 h2 =>
      simp only [List.all_eq_true] at h
      exact .tuple xs ys h1 fun i x y hx hy => noPtrA_rel (h x (List.mem_of_getElem? hx)) (h2 i x y hx hy)
  · exact noPtrA_rel h hv

theorem Rel.forget {ρ ρ' : Rho} {m m' : Mem} {w w' : World} (h : Rel ρ m w) (hle : ρ.le ρ') (hr : Rel ρ' m' w') (hm : m.le m') (hs : w.heap.size ≤ w'.heap.size) : Rel ρ m w' := by
  refine ⟨h.wf, fun b sp cells rw L hc hL => ?_, h.apart, fun b sp L hL => ⟨(h.dom b sp L hL).1, Nat.lt_of_lt_of_le (h.dom b sp L hL).2 hs⟩⟩
  obtain ⟨cs, e, fr, h1, h2, h3, h4, h5⟩ := hr.back b sp cells rw L (hm.at hc) (hle _ _ _ hL)
  obtain ⟨cs0, e0, fr0, g1, g2, g3, g4, g5⟩ := h.back b sp cells rw L hc hL
  refine ⟨cs, e, fr, h1, h2, h3, h4, fun i x hx => ?_⟩
  obtain ⟨y, hy, hv⟩ := h5 i x hx
  obtain ⟨y0, hy0, hv0⟩ := g5 i x hx
  exact ⟨y, hy, hv0.back hle hv⟩

/-- What a call has made and does not give out is gone. -/
theorem ACalls.gc {P : Program} {f : FuncId} {args : List Value} {m : Mem} {Q : Value → Prop} (h : ACalls P f args m fun v m' => m.le m' ∧ noPtr v = true ∧ Q v) :
    ACalls P f args m fun v m' => m' = m ∧ Q v := by
  intro ρ w cargs hr ha
  refine (h ρ w cargs hr ha).mono fun e w' h => ?_
  obtain ⟨x, v, m', ρ', he, ⟨hm, hn, hq⟩, hle, hr', hv, hx⟩ := h
  exact ⟨x, v, m, ρ, he, ⟨rfl, hq⟩, .refl ρ, hr.forget hle hr' hm hx.size, noPtr_rel hn hv, ⟨hx.size, hx.os, hx.output, hx.tape, hx.old, fun B hB h => h⟩⟩

theorem retS_mono {P : Program} {res : List ResultVar} {n : Nat} {Q Q' : Value → Mem → Prop} (h : ∀ v m, Q v m → Q' v m) : ∀ e env m, retS P res n Q e env m → retS P res n Q' e env m := by
  intro e env m hr
  cases e <;> first | exact hr.elim | (obtain ⟨vs, h1, h2, h3⟩ := hr; exact ⟨vs, h1, h2, h _ _ h3⟩)

/-- A loop over stripped code. -/
def loopS (P : Program) (a : AC) (Q : Exit → List Value → Mem → Prop) (env : List Value) (m : Mem) : Prop := loopW (fun Q' => wpS P a Q') Q env m
theorem wpS_loop {P : Program} {a : AC} {Q : Exit → List Value → Mem → Prop} {env : List Value} {m : Mem} : wpS P (.loop a) Q env m = loopS P a Q env m := rfl
theorem loopS_congr {P : Program} {a : AC} {Q : Exit → List Value → Mem → Prop} {env env' : List Value} {m m' : Mem} (h2 : env = env') (h3 : m = m') : loopS P a Q env m = loopS P a Q env' m' := by subst h2; subst h3; rfl
theorem roundsA_mono {P : Program} {a : AC} {Q Q' : Exit → List Value → Mem → Prop} (h : ∀ e env m, Q e env m → Q' e env m) : ∀ n env m, roundsA (fun Q' => wpS P a Q') Q n env m → roundsA (fun Q' => wpS P a Q') Q' n env m := by
  intro n
  induction n with
  | zero => intro env m hn; exact hn.elim
  | succ n ih =>
    intro env m hn
    refine wpS_mono a (fun e env m hh => ?_) env m hn
    cases e <;> first | exact ih _ _ hh | exact h _ _ _ hh
theorem roundsA_more {P : Program} {a : AC} {Q : Exit → List Value → Mem → Prop} : ∀ n k, n ≤ k → ∀ env m, roundsA (fun Q' => wpS P a Q') Q n env m → roundsA (fun Q' => wpS P a Q') Q k env m := by
  intro n
  induction n with
  | zero => intro k _ env m hn; exact hn.elim
  | succ n ih =>
    intro k hk env m hn
    obtain ⟨k, rfl⟩ : ∃ j, k = j + 1 := ⟨k - 1, by omega⟩
    refine wpS_mono a (fun e env m hh => ?_) env m hn
    cases e <;> first | exact ih k (by omega) _ _ hh | exact hh
/-- A loop: its head's frame 'E' of a state and of what lies about, an invariant, a measure. -/
theorem loopS_rule {P : Program} {a : AC} {Q : Exit → List Value → Mem → Prop} {env : List Value} {m : Mem} {σ : Type} (E : σ → (Nat → Value) → List Value) (I : σ → Mem → Prop) (μ : σ → Nat) (s0 : σ)
    (henv : env = E s0 (fun i => env.getD i undef)) (h0 : I s0 m)
    (step : ∀ s g m, I s m → wpS P a (thenA (fun env' m' => ∃ s', env' = E s' (fun i => env'.getD i undef) ∧ μ s' < μ s ∧ I s' m') Q) (E s g) m) : loopS P a Q env m := by
  have key : ∀ n s g m, I s m → μ s < n → roundsA (fun Q' => wpS P a Q') Q n (E s g) m := by
    intro n
    induction n with
    | zero => intro s g m _ h; omega
    | succ n ih =>
      intro s g m hI hn
      refine wpS_mono a (fun e env m hh => ?_) _ _ (step s g m hI)
      cases e with
      | normal =>
        obtain ⟨s', he, hl, hI'⟩ := hh
        simp only [thenA]
        rw [he]
        exact ih s' _ _ hI' (by omega)
      | _ => exact hh
  rw [henv]
  exact ⟨μ s0 + 1, key _ s0 _ m h0 (by omega)⟩

theorem pop_self (m : Mem) : ({ heap := m.heap, stk := m.stk.take m.stk.length } : Mem) = m := by simp
theorem pop_mem (h : List Blk) (s : List (List Value)) (n : Nat) (hn : s.length ≤ n) : ({ heap := h, stk := s.take n } : Mem) = { heap := h, stk := s } := by rw [List.take_of_length_le hn]

/-- A list lies in a slice, element by element in 'esz' cells. -/
def Sl {α : Type} (m : Mem) (esz : Nat) (R : Mem → List Value → α → Prop) (v : Value) (l : List α) : Prop :=
  (l = [] ∧ v = .slice none 0 0) ∨ ∃ b off ver, v = .slice (some ⟨b, off, some ver⟩) l.length esz ∧
    (∀ (i : Nat) (x : α), l[i]? = some x → ∃ cs, m.loads ⟨b, off + i * esz, some ver⟩ esz = some cs ∧ R m cs x) ∧ (l = [] → m.loads ⟨b, off, some ver⟩ 0 = some [])
theorem Sl.nil {α : Type} {m : Mem} {esz : Nat} {R : Mem → List Value → α → Prop} : Sl m esz R (.slice none 0 0) [] := .inl ⟨rfl, rfl⟩
theorem Sl.mono {α : Type} {m m' : Mem} {esz : Nat} {R : Mem → List Value → α → Prop} (hle : m.le m') (hR : ∀ cs x, R m cs x → R m' cs x) {v : Value} {l : List α} (h : Sl m esz R v l) : Sl m' esz R v l := by
  rcases h with h | ⟨b, off, sp, hv, h1, h2⟩
  · exact .inl h
  · exact .inr ⟨b, off, sp, hv, fun i x hx => let ⟨cs, hc, hr⟩ := h1 i x hx; ⟨cs, hle.loads hc, hR _ _ hr⟩, fun e => hle.loads (h2 e)⟩
theorem Mem.loads_load {m : Mem} {b off n : Nat} {sp : Option Nat} {cs : List Value} (h : m.loads ⟨b, off, sp⟩ n = some cs) : cs.length = n ∧ ∀ j, j < n → m.load ⟨b, off + j, sp⟩ = cs[j]? := by
  simp only [Mem.loads, Option.bind_eq_some_iff] at h
  obtain ⟨c, h1, h2⟩ := h
  split at h2
  · rename_i hl
    cases h2
    refine ⟨by simp; omega, fun j hj => ?_⟩
    simp only [Mem.load, h1, Option.bind_some]
    rw [List.getElem?_take_of_lt hj, List.getElem?_drop]
  · cases h2
/-- One element of a list in a slice. -/
theorem Sl.get {α : Type} {m : Mem} {esz : Nat} {R : Mem → List Value → α → Prop} {v : Value} {l : List α} (h : Sl m esz R v l) {i : Nat} (hi : i < l.length) :
    ∃ b off ver cs, v = .slice (some ⟨b, off, some ver⟩) l.length esz ∧ m.loads ⟨b, off + i * esz, some ver⟩ esz = some cs ∧ R m cs l[i] ∧ cs.length = esz ∧ ∀ j, j < esz → m.load ⟨b, off + i * esz + j, some ver⟩ = cs[j]? := by
  rcases h with ⟨rfl, _⟩ | ⟨b, off, sp, hv, h1, h2⟩
  · simp at hi
  · obtain ⟨cs, hc, hr⟩ := h1 i l[i] (List.getElem?_eq_getElem hi)
    obtain ⟨g1, g2⟩ := Mem.loads_load hc
    exact ⟨b, off, sp, cs, hv, hc, hr, g1, g2⟩
theorem Sl.lenW {α : Type} {m : Mem} {esz : Nat} {R : Mem → List Value → α → Prop} {v : Value} {l : List α} (h : Sl m esz R v l) (K : Value → Prop) : lenSlW v K = K (.int .i64 l.length) := by
  rcases h with ⟨rfl, rfl⟩ | ⟨b, off, sp, rfl, _⟩ <;> rfl

abbrev w64 (n : Int) : Int := IntKind.i64.wrap n
theorem w64_id {n : Int} (h1 : -9223372036854775808 ≤ n) (h2 : n < 9223372036854775808) : IntKind.i64.wrap n = n := by
  simp only [IntKind.wrap, IntKind.signed, IntKind.bits]
  simp
  omega

def isI (_ : Mem) (cs : List Value) (n : Int) : Prop := cs = [.int .i64 n]
/-- Whole numbers in a slice. -/
abbrev Ints (m : Mem) (v : Value) (l : List Int) : Prop := Sl m 1 isI v l
theorem Ints.get {m : Mem} {v : Value} {l : List Int} (h : Ints m v l) {i : Nat} (hi : i < l.length) :
    ∃ b off ver, v = .slice (some ⟨b, off, some ver⟩) l.length 1 ∧ m.load ⟨b, off + i, some ver⟩ = some (.int .i64 l[i]) := by
  obtain ⟨b, off, sp, cs, hv, _, hr, _, hl⟩ := Sl.get h hi
  have := hl 0 (by omega)
  rw [hr] at this
  exact ⟨b, off, sp, hv, by simpa using this⟩
theorem Ints.mono {m m' : Mem} (hle : m.le m') {v : Value} {l : List Int} (h : Ints m v l) : Ints m' v l := Sl.mono hle (fun _ _ h => h) h
end Go.AM
