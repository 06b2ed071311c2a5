/-
  The abstract machine, eighth part: the last operations.
-/
import Derived.Test.YtnfncjodmkhafaaAm7
import Derived.Laws.BytesArg
import Derived.Laws.MakeOwn
set_option linter.all false
set_option linter.unusedSimpArgs false
set_option linter.unusedVariables false
namespace Go.AM
section
variable {P : Program} {env : List Value} {m : Mem} {o : Oper}

/-- The cells of a slice, in both machines. -/
theorem sliceCells_rel {ρ : Rho} {w : World} (h : Rel ρ m w) {esz : Nat} {v v' : Value} (hv : VRel ρ v v') {n : Nat} {cs : List Value} (hs : m.sliceCells esz v = some (n, cs)) :
    ∃ cs', LRel ρ cs cs' ∧ cs.length = n * esz ∧ Builtin.lenOf v' = pure n ∧ (∀ w1 : World, w1.heap = w.heap → (Builtin.firstCells esz n v').run P w1 = .ok cs'.toArray w1) ∧
      ((v' = .slice none 0 0 ∧ n = 0) ∨ ∃ a c, v' = .slice (some a) n c ∧ ∀ w1 : World, w1.heap = w.heap → (loadCells a (n * esz)).run P w1 = .ok cs'.toArray w1) := by
  unfold Mem.sliceCells at hs
  split at hs
  · cases hs
    cases hv with
    | sliceNil x0 =>
    cases x0 with
    | none => exact ⟨[], .nil ρ, by simp, rfl, fun w1 _ => rfl, .inl ⟨rfl, rfl⟩⟩
    | some a0 =>
      have hload : ∀ w1 : World, w1.heap = w.heap → (loadCells a0 (0 * esz)).run P w1 = .ok ([] : List Value).toArray w1 := fun w1 _ => by
        rw [Nat.zero_mul]; exact run_loadCells_list (P := P) w1 a0 [] (fun _ _ h => by simp at h)
      exact ⟨[], .nil ρ, by simp, rfl, hload, .inr ⟨a0, 0, rfl, hload⟩⟩
  · rename_i a k e
    split at hs
    · rename_i he
      subst he
      simp only [Option.map_eq_some_iff] at hs
      obtain ⟨ds, hds, hcs⟩ := hs
      cases hcs
      cases hv with
      | slice b off sp _ _ L o' cap' hL ho hl hsz =>
        obtain ⟨ys, hl1, hl2, hl3⟩ := h.loads hL hds
        have hload : ∀ w1 : World, w1.heap = w.heap → (loadCells ⟨L.blk, o', none⟩ (n * e)).run P w1 = .ok ys.toArray w1 := by
          intro w1 hw1
          have hol : ys.length = n * e := by rw [← hl1.1]; exact hl2
          have := run_loadCells_list (P := P) w1 ⟨L.blk, o', none⟩ ys (fun j u hj => by
            have hjl := (List.getElem?_eq_some_iff.1 hj).1
            have hn : 0 < n := by
              rcases Nat.eq_zero_or_pos n with h | h
              · subst h; simp at hol; rw [hol] at hjl; simp at hjl
              · exact h
            have ho' : o' = L.off + off := ho (by omega)
            rw [Addr.add_none, ho']
            have := hl3 j u hj
            simpa [World.cell?, hw1] using this)
          rw [hol] at this; exact this
        exact ⟨ys, hl1, hl2, rfl, fun w1 hw1 => by simp only [Builtin.firstCells]; exact hload w1 hw1, .inr ⟨_, _, rfl, hload⟩⟩
    · cases hs
  · cases hs

theorem step_append {t t' e : TypeId} {s x : Operand} {c : Call} {i : TypeInfo} {z : Value} (ho : o.op = .call c) (hc : c = { callee := .builtin .append, args := #[s, x], argTypes := #[t, t'] }) (hs : okK s = true) (hx : okK x = true)
    (ht : P.underlying t = some (.slice e)) (ht' : P.underlying t' = some (.slice e)) (hi : P.info? e = some i) (hz : i.zero = some z) (hzs : z.cells.size = i.size) {r : AR}
    (hst : stepA P (.append i.size i.bytes s x) env m = some r) : OpOk P o env m r := by
  subst hc
  simp only [stepA] at hst
  split at hst
  · rename_i n2 news hn
    simp only [Option.map_eq_some_iff] at hst
    obtain ⟨⟨v, m'⟩, hap, rfl⟩ := hst
    intro ρ w a hr ha
    obtain ⟨news', h1, h2, h3, h4, _⟩ := sliceCells_rel (P := P) hr (eval_rel ha hx) hn
    obtain ⟨y, w', ρ', hrun, hle, hr', hv, hx'⟩ := append_sound (ty := o.type) hr ht ⟨_, ht', by simp⟩ hi hz hzs (eval_rel ha hs) h3 h2 h4 h1 hap
    refine ⟨_, y, w', ρ', ?_, .inl rfl, hle, hr', hv, hx'⟩
    simp only [execOp, ho, resolve, List.map_toArray, List.map_cons, List.map_nil, Sem.run_bind, Sem.run_pure, Result.andThen_ok, invoke, builtin]
    rw [hrun]; rfl
  · cases hst

theorem step_appStr {t t' e : TypeId} {s x : Operand} {c : Call} {i : TypeInfo} {z : Value} (ho : o.op = .call c) (hc : c = { callee := .builtin .append, args := #[s, x], argTypes := #[t, t'] }) (hs : okK s = true) (hx : okK x = true)
    (ht : P.underlying t = some (.slice e)) (ht' : P.underlying t' = some .string) (hi : P.info? e = some i) (hz : i.zero = some z) (hzs : z.cells.size = i.size) (h1 : i.size = 1) (hb : i.bytes = 1) {r : AR}
    (hst : stepA P (.appStr s x) env m = some r) : OpOk P o env m r := by
  subst hc
  simp only [stepA] at hst
  split at hst
  · rename_i str hn
    simp only [Option.map_eq_some_iff] at hst
    obtain ⟨⟨v, m'⟩, hap, rfl⟩ := hst
    intro ρ w a hr ha
    have e1 := eval_rel ha hx
    rw [hn] at e1
    generalize hq : a.eval x = q at e1
    cases e1
    have hfc : ∀ w1 : World, w1.heap = w.heap → (Builtin.firstCells i.size str.size (.string str)).run P w1 = .ok (str.data.toList.map fun b => Value.int .u8 b.toNat).toArray w1 := by
      intro w1 _
      simp only [Builtin.firstCells, Sem.run_pure]
      congr 1
      apply Array.toList_inj.1
      have : (str.extract 0 str.size) = str := ByteArray.extract_zero_size
      rw [this]; simp
    have hself : LRel ρ (str.data.toList.map fun b => Value.int .u8 b.toNat) (str.data.toList.map fun b => Value.int .u8 b.toNat) := .of_get rfl fun j u hu => ⟨u, hu, by
      simp only [List.getElem?_map, Option.map_eq_some_iff] at hu
      obtain ⟨b, _, rfl⟩ := hu
      exact .int _ _⟩
    have hlen0 : (str.data.toList.map fun b => Value.int .u8 b.toNat).length = str.size * i.size := by rw [h1]; simp
    obtain ⟨y, w', ρ', hrun, hle, hr', hv, hx'⟩ := append_sound (ty := o.type) hr ht ⟨_, ht', by simp⟩ hi hz hzs (eval_rel ha hs) (x' := .string str) (n2 := str.size) rfl hlen0 hfc hself (by rw [h1, hb]; exact hap)
    refine ⟨_, y, w', ρ', ?_, .inl rfl, hle, hr', hv, hx'⟩
    simp only [execOp, ho, resolve, List.map_toArray, List.map_cons, List.map_nil, hq, Sem.run_bind, Sem.run_pure, Result.andThen_ok, invoke, builtin]
    rw [hrun]; rfl
  · cases hst

theorem step_convBS {src dst e : TypeId} {x : Operand} (ho : o.op = .convert src dst x) (hx : okK x = true) (h1 : P.underlying src = some (.slice e)) (h2 : P.underlying dst = some .string) (h3 : P.underlying e = some (.int .u8)) {r : AR}
    (hs : stepA P (.convBS x) env m = some r) : OpOk P o env m r := by
  simp only [stepA] at hs
  split at hs
  · rename_i n cs hn
    simp only [Option.map_eq_some_iff] at hs
    obtain ⟨bs, hbs, rfl⟩ := hs
    intro ρ w a hr ha
    obtain ⟨cs', l1, l2, _, _, l3⟩ := sliceCells_rel (P := P) hr (eval_rel ha hx) hn
    -- the cells are bytes, the same in both machines
    have hsame : ∀ (cs cs' : List Value) (bs : List UInt8), LRel ρ cs cs' → cs.mapM byteA = some bs → ∃ xs : List Int, cs' = xs.map (Value.int .u8) ∧ bs = xs.map fun n => UInt8.ofNat n.toNat := by
      intro cs
      induction cs with
      | nil => intro cs' bs hl hb; have : cs' = [] := List.eq_nil_of_length_eq_zero (by rw [← hl.1]; rfl); subst this; simp at hb; subst hb; exact ⟨[], rfl, rfl⟩
      | cons c cs ih =>
        intro cs' bs hl hb
        cases cs' with
        | nil => exact absurd hl.1 (by simp)
        | cons c' cs' =>
          simp only [List.mapM_cons, Option.bind_eq_bind, Option.bind_eq_some_iff] at hb
          obtain ⟨b, hb1, bs', hb2, hb3⟩ := hb
          simp only [Option.pure_def, Option.some.injEq] at hb3
          subst hb3
          obtain ⟨xs, e1, e2⟩ := ih cs' bs' ⟨by have := hl.1; simpa using this, fun j u v hu hv => hl.2 (j + 1) u v (by simpa using hu) (by simpa using hv)⟩ hb2
          have hc := hl.2 0 c c' rfl rfl
          unfold byteA at hb1
          split at hb1
          · rename_i k
            cases hb1
            cases hc
            exact ⟨k :: xs, by simp [e1], by simp [e2]⟩
          · cases hb1
    obtain ⟨xs, e1, e2⟩ := hsame cs cs' bs l1 hbs
    refine ok_here hr (y := .string ⟨bs.toArray⟩) ?_ (.string _)
    have hxl : xs.length = n := by
      have := l1.1; rw [l2, e1] at this; simpa using this.symm
    rcases l3 with ⟨hv', hn0⟩ | ⟨ad, c, hv', hload⟩
    · have : xs = [] := List.eq_nil_of_length_eq_zero (by omega)
      subst this
      subst e2
      simp only [execOp, ho, hv', Sem.run_bind]
      rw [run_convert_bytes_nil (P := P) w src e h1 h3 0 0 dst h2]; rfl
    · have hl := hload w rfl
      simp only [Nat.mul_one] at hl
      rw [e1] at hl
      simp only [execOp, ho, hv', Sem.run_bind]
      rw [run_convert_bytes_string w src dst e _ n c h1 h3 h2, run_bytesToString w _ n c xs hl, foldl_push_bytes]
      subst e2
      simp [ByteArray.empty, ByteArray.emptyWithCapacity]
      rfl
  · cases hs

theorem bound_rel {ρ : Rho} {a : Act} (ha : LRel ρ env a.tmps.toList) {d : Nat} {lo : Option Operand} (hlo : ∀ x, lo = some x → okK x = true) {l : Int} (h : boundA env d lo = some l) :
    (lo = none ∧ l = d) ∨ ∃ x k, lo = some x ∧ a.eval x = .int k l := by
  cases lo with
  | none => simp only [boundA, Option.some.injEq] at h; exact .inl ⟨rfl, h.symm⟩
  | some x =>
    simp only [boundA] at h
    unfold intOf at h
    split at h
    · rename_i k n hx
      cases h
      have := eval_rel ha (hlo x rfl)
      rw [hx] at this
      refine .inr ⟨x, k, rfl, ?_⟩
      generalize hq : a.eval x = q at this
      cases this; rfl
    · cases h

theorem step_slStr {t : TypeId} {x : Operand} {lo hi : Option Operand} (ho : o.op = .slice t x lo hi none) (hx : okK x = true) (hlo : ∀ y, lo = some y → okK y = true) (hhi : ∀ y, hi = some y → okK y = true)
    (hu : P.underlying t = some .string) {r : AR} (hs : stepA P (.slStr x lo hi) env m = some r) : OpOk P o env m r := by
  simp only [stepA] at hs
  split at hs
  · rename_i s hp
    split at hs
    · rename_i l h hl hh
      split at hs
      · rename_i hc
        obtain ⟨c1, c2, c3⟩ := hc
        cases hs
        intro ρ w a hr ha
        have e1 := eval_rel ha hx
        rw [hp] at e1
        generalize hq : a.eval x = q at e1
        cases e1
        have bl := bound_rel ha hlo hl
        have bh := bound_rel ha hhi hh
        refine ok_here hr (y := .string (s.extract l.toNat h.toNat)) ?_ (.string _)
        have hrun : (Instr.sliceAt t (.string s) (lo.map a.eval) (hi.map a.eval) none).run P w = .ok (.string (s.extract l.toNat h.toNat)) w := by
          simp only [Instr.sliceAt, Sem.run_bind, run_underlying hu, Result.andThen_ok, Instr.slice, Instr.sliceBounds, Instr.sliceBound]
          rcases bl with ⟨rfl, rfl⟩ | ⟨x1, k1, rfl, q1⟩ <;> rcases bh with ⟨rfl, rfl⟩ | ⟨x2, k2, rfl, q2⟩
          · simp
          · simp [q2, asIntOf, c3]
            intro h0; omega
          · simp [q1, asIntOf, c1, c2]
          · have h0 : 0 ≤ h := by omega
            simp [q1, q2, asIntOf, c1, c3, h0]
            intro h1; omega
        simp only [execOp, ho, hq, Sem.run_bind, Option.map_none]
        rw [hrun]; rfl
      · cases hs
    · cases hs
  · cases hs

theorem step_slSl {t e : TypeId} {x : Operand} {lo hi : Option Operand} {j : TypeInfo} (ho : o.op = .slice t x lo hi none) (hx : okK x = true) (hlo : ∀ y, lo = some y → okK y = true) (hhi : ∀ y, hi = some y → okK y = true)
    (hu : P.underlying t = some (.slice e)) (hj : P.info? e = some j) {r : AR} (hs : stepA P (.slSl x lo hi j.size) env m = some r) : OpOk P o env m r := by
  have run : ∀ (a : Act) (w : World) (ρ : Rho), LRel ρ env a.tmps.toList → ∀ (base : Option Addr) (n c : Nat) (l h : Int), n ≤ c → boundA env 0 lo = some l → boundA env n hi = some h → 0 ≤ l → l ≤ h → h ≤ n →
      (Instr.sliceAt t (.slice base n c) (lo.map a.eval) (hi.map a.eval) none).run P w = .ok (.slice (if c = l.toNat then base else base.map (·.add (l.toNat * j.size))) (h.toNat - l.toNat) (c - l.toNat)) w := by
    intro a w ρ ha base n c l h hnc hl hh c1 c2 c3
    have bl := bound_rel ha hlo hl
    have bh := bound_rel ha hhi hh
    have hh0 : 0 ≤ h := by omega
    have hhc : h ≤ c := by omega
    simp only [Instr.sliceAt, Sem.run_bind, run_underlying hu, Result.andThen_ok, Instr.slice, Instr.sliceBounds, Instr.sliceBound, run_sizeOf (P := P) (t := e) (by simp [hj])]
    have hsz : resOne.sizeB P e = j.size := by simp [resOne.sizeB, hj]
    rcases bl with ⟨rfl, rfl⟩ | ⟨x1, k1, rfl, q1⟩ <;> rcases bh with ⟨rfl, rfl⟩ | ⟨x2, k2, rfl, q2⟩
    · simp [hsz]
    · simp [q2, asIntOf, hsz, hh0, hhc]
    · have : l ≤ n := by omega
      simp [q1, asIntOf, c1, this, hsz]
    · simp [q1, q2, asIntOf, c1, hh0, hhc, hsz]
      intro h1; omega
  simp only [stepA] at hs
  split at hs
  · rename_i hp
    split at hs
    · rename_i l h hl hh
      split at hs
      · rename_i hc
        obtain ⟨rfl, rfl⟩ := hc
        cases hs
        intro ρ w a hr ha
        have e1 := eval_rel ha hx
        rw [hp] at e1
        generalize hq : a.eval x = q at e1
        cases e1 with
        | sliceNil x0 =>
        have hr1 := run a w ρ ha x0 0 0 0 0 (Nat.le_refl _) hl hh (by omega) (by omega) (by omega)
        refine ok_here hr (y := .slice x0 0 0) ?_ (.sliceNil x0)
        simp only [execOp, ho, hq, Sem.run_bind, Option.map_none]
        rw [hr1]; rfl
      · cases hs
    · cases hs
  · rename_i p n es hp
    split at hs
    · rename_i l h hl hh
      split at hs
      · rename_i hc
        obtain ⟨c1, c2, c3, rfl⟩ := hc
        cases hs
        intro ρ w a hr ha
        have e1 := eval_rel ha hx
        rw [hp] at e1
        generalize hq : a.eval x = q at e1
        cases e1 with
        | slice b off sp _ _ L o' cap' hL ho' hl' hsz =>
          have hr1 := run a w ρ ha (some ⟨L.blk, o', none⟩) n cap' l h hl' hl hh c1 c2 c3
          refine ok_here hr (y := .slice (some ⟨L.blk, (if cap' = l.toNat then o' else o' + l.toNat * j.size), none⟩) (h.toNat - l.toNat) (cap' - l.toNat)) ?_ ?_
          · simp only [execOp, ho, hq, Sem.run_bind, Option.map_none]
            rw [hr1]
            by_cases hcl : cap' = l.toNat
            · simp [hcl]
            · simp [hcl, Addr.add_none]
          · refine .slice _ _ _ _ _ L _ _ hL (fun hpos => ?_) (by omega) ?_
            · rw [if_neg (by omega), ho' (by omega)]; simp only; omega
            · have : (cap' - l.toNat) * j.size + l.toNat * j.size ≤ cap' * j.size := by rw [← Nat.add_mul]; exact Nat.mul_le_mul_right _ (by omega)
              simp only; omega
      · cases hs
    · cases hs
  · cases hs

theorem flatten_replicate_get {α : Type} (z : List α) (hz : 0 < z.length) : ∀ (n j : Nat), (List.replicate n z).flatten[j]? = if j < n * z.length then z[j % z.length]? else none := by
  intro n
  induction n with
  | zero => intro j; simp
  | succ n ih =>
    intro j
    rw [List.replicate_succ, List.flatten_cons, List.getElem?_append]
    by_cases h : j < z.length
    · rw [if_pos h, if_pos (by rw [Nat.add_mul]; omega), Nat.mod_eq_of_lt h]
    · rw [if_neg h, ih]
      have : (j - z.length) % z.length = j % z.length := (Nat.mod_eq_sub_mod (by omega)).symm
      rw [this]
      by_cases h2 : j < (n + 1) * z.length
      · rw [if_pos h2, if_pos (by rw [Nat.add_mul] at h2; omega)]
      · rw [if_neg h2, if_neg (by rw [Nat.add_mul] at h2; omega)]

/-- Zero cells, in both machines. -/
theorem made_get {z : Value} (hpos : 0 < z.cells.size) {n k j : Nat} (hnk : n * z.cells.size ≤ k) {x : Value} (h : (List.replicate n z.cells.toList).flatten[j]? = some x) :
    ((Array.range k).map (z.cells[· % z.cells.size]!))[j]? = some x ∧ x ∈ z.cells.toList := by
  rw [flatten_replicate_get _ (by simpa using hpos)] at h
  simp only [Array.length_toList] at h
  split at h
  · rename_i hj
    refine ⟨?_, List.mem_of_getElem? h⟩
    have hlt : j % z.cells.size < z.cells.size := Nat.mod_lt _ hpos
    have hx : z.cells[j % z.cells.size]? = some x := by simpa using h
    have hget : z.cells[j % z.cells.size]! = x := by
      rw [getElem!_pos z.cells _ hlt]
      rw [Array.getElem?_eq_getElem hlt] at hx
      exact Option.some.inj hx
    simp only [Array.getElem?_map, Array.getElem?_range]
    rw [if_pos (by omega)]
    simp [hget]
  · cases h

theorem step_make {t e : TypeId} {len cap : Operand} {i : TypeInfo} {z : Value} (ho : o.op = .makeSlice t len cap) (hl : okK len = true) (hc : okK cap = true) (ht : P.underlying t = some (.slice e)) (hi : P.info? e = some i) (hz : i.zero = some z)
    (hzs : z.cells.size = i.size) (hpos : 0 < i.size) (hp : z.cells.toList.all okK.plain = true) {r : AR} (hs : stepA P (.make i.size i.bytes z.cells.toList len cap) env m = some r) : OpOk P o env m r := by
  have hpl := List.all_eq_true.1 hp
  simp only [stepA] at hs
  split at hs
  · rename_i kl l kc c h1 h2
    split at hs
    · rename_i hcnd
      obtain ⟨c1, c2, c3, c4⟩ := hcnd
      cases hs
      intro ρ w a hr ha
      have e1 := eval_rel ha hl
      have e2 := eval_rel ha hc
      rw [h1] at e1; rw [h2] at e2
      generalize hq : a.eval len = q at e1
      generalize hq2 : a.eval cap = q2 at e2
      cases e1; cases e2
      have hrun := run_make (P := P) w t e i z ht hi hz kl kc l c c1 c2 (by rw [Int.mul_comm]; exact c3) c4
      have hle : l.toNat * z.cells.size ≤ c.toNat * i.size := by rw [hzs]; exact Nat.mul_le_mul_right _ (by omega)
      have hg : ∀ (j : Nat) (x : Value), (List.replicate l.toNat z.cells.toList).flatten[j]? = some x → (madeCells z.cells (c.toNat * i.size))[j]? = some x ∧ x ∈ z.cells.toList := fun j x hx =>
        made_get (by rw [hzs]; exact hpos) hle hx
      obtain ⟨ρ', r1, r2, r3, r4⟩ := hr.push (xs := (List.replicate l.toNat z.cells.toList).flatten) (cs := madeCells z.cells (c.toNat * i.size)) (e := e) (fr := (0, 0))
        (fun x hx => by
          obtain ⟨j, hj⟩ := List.mem_iff_getElem?.1 hx
          exact plain_okC (hpl x (hg j x hj).2)) (by simp) (by simp [size_madeCells]; omega) (fun j x hx => ⟨x, (hg j x hx).1, .plain (hpl x (hg j x hx).2)⟩)
      refine ⟨_, .slice (some ⟨w.heap.size, 0, none⟩) l.toNat c.toNat, _, ρ', ?_, .inl rfl, r2, r3, .slice _ _ _ _ _ _ 0 c.toNat r1 (fun _ => rfl) (by omega) (by simp [size_madeCells]), r4⟩
      simp only [execOp, ho, hq, hq2, Sem.run_bind]
      rw [hrun]; rfl
    · cases hs
  · cases hs

/-- Cells laid over others. -/
theorem splice_get : ∀ (l : List Value) (off k : Nat) (cs : Array Value), off + k + l.length ≤ cs.size →
    ((l.zipIdx k).foldl (fun cs p => cs.setIfInBounds (off + p.2) p.1) cs).toList = cs.toList.take (off + k) ++ l ++ cs.toList.drop (off + k + l.length) := by
  intro l
  induction l with
  | nil => intro off k cs _; simp
  | cons c l ih =>
    intro off k cs h
    simp only [List.length_cons] at h
    simp only [List.zipIdx_cons, List.foldl_cons]
    rw [ih off (k + 1) _ (by simp; omega)]
    simp only [Array.toList_setIfInBounds, List.length_cons]
    apply List.ext_getElem?
    intro j
    simp only [List.append_assoc, List.getElem?_append, List.length_take, List.length_set, Array.length_toList, List.getElem?_take, List.getElem?_drop, List.getElem?_set, List.length_cons, List.cons_append]
    have hm1 : min (off + (k + 1)) cs.size = off + (k + 1) := by omega
    have hm2 : min (off + k) cs.size = off + k := by omega
    rw [hm1, hm2]
    by_cases h1 : j < off + k
    · rw [if_pos (by omega), if_pos h1, if_pos (by omega), if_pos h1, if_neg (by omega)]
    · rw [if_neg h1]
      by_cases h2 : j = off + k
      · subst h2
        rw [if_pos (by omega), if_pos (by omega), if_pos (by omega), if_pos (by omega)]
        simp
      · rw [if_neg (by omega)]
        obtain ⟨d, hd⟩ : ∃ d, j - (off + k) = d + 1 := ⟨j - (off + k) - 1, by omega⟩
        rw [hd, List.getElem?_cons_succ, List.getElem?_append]
        have hd2 : j - (off + (k + 1)) = d := by omega
        rw [hd2]
        by_cases h3 : d < l.length
        · rw [if_pos h3, if_pos h3]
        · rw [if_neg h3, if_neg h3, List.getElem?_drop]
          rw [if_neg (by omega)]
          congr 1
          omega

/-- The parts of a build, in both machines. -/
theorem fill_rel {ρ : Rho} {place : Nat → Option (Nat × Nat)} : ∀ (ps : List (Nat × Nat × Value)) (qs : List (Nat × Value)) (xs xs' : List Value) (ys : Array Value), ps.length = qs.length →
    (∀ (j : Nat) (p : Nat × Nat × Value) (q : Nat × Value), ps[j]? = some p → qs[j]? = some q → place q.1 = some (p.1, p.2.1) ∧ VRel ρ p.2.2 q.2) → LRel ρ xs ys.toList → fillA xs ps = some xs' →
    ∃ ys', Instr.fill place ys qs = some ys' ∧ LRel ρ xs' ys'.toList := by
  intro ps
  induction ps with
  | nil =>
    intro qs xs xs' ys hlen _ hl hf
    have : qs = [] := List.eq_nil_of_length_eq_zero (by rw [← hlen]; rfl)
    subst this
    simp only [fillA, Option.some.injEq] at hf
    subst hf
    exact ⟨ys, rfl, hl⟩
  | cons p ps ih =>
    intro qs xs xs' ys hlen hpq hl hf
    cases qs with
    | nil => simp at hlen
    | cons q qs =>
      obtain ⟨off, size, v⟩ := p
      obtain ⟨idx, u⟩ := q
      obtain ⟨hpl, hv⟩ := hpq 0 _ _ rfl rfl
      simp only at hpl hv
      simp only [fillA] at hf
      split at hf
      · rename_i hc
        have hcl := cells_rel hv
        have hsz : u.cells.size = size := by have := hcl.1; simp only [Array.length_toList] at this; omega
        have hys : xs.length = ys.size := by have := hl.1; simpa using this
        have hsp := splice_get u.cells.toList off 0 ys (by simp only [Array.length_toList]; omega)
        obtain ⟨ys', h1, h2⟩ := ih qs _ xs' ((u.cells.toList.zipIdx 0).foldl (fun cs p => cs.setIfInBounds (off + p.2) p.1) ys) (by simpa using hlen)
          (fun j p q hp hq => hpq (j + 1) p q (by simpa using hp) (by simpa using hq)) (by
            rw [hsp]
            have := ((hl.take off).append hcl).append (hl.drop (off + size))
            simpa [hsz] using this) hf
        refine ⟨ys', ?_, h2⟩
        simp only [Instr.fill, hpl]
        rw [if_neg (by rw [hsz]; simp; omega)]
        rw [← h1]
        congr 1
        rw [← Array.foldl_toList]
        simp
      · cases hf

theorem mapM_get {α β : Type} {f : α → Option β} : ∀ {l : List α} {l' : List β}, l.mapM f = some l' → l'.length = l.length ∧ ∀ (j : Nat) (a : α), l[j]? = some a → ∃ b, l'[j]? = some b ∧ f a = some b := by
  intro l
  induction l with
  | nil => intro l' h; simp at h; subst h; exact ⟨rfl, by simp⟩
  | cons a l ih =>
    intro l' h
    simp only [List.mapM_cons, Option.bind_eq_bind, Option.bind_eq_some_iff] at h
    obtain ⟨b, hb, l2, hl2, he⟩ := h
    simp only [Option.pure_def, Option.some.injEq] at he
    subst he
    obtain ⟨h1, h2⟩ := ih hl2
    refine ⟨by simp [h1], fun j x hx => ?_⟩
    cases j with
    | zero => simp at hx; subst hx; exact ⟨b, rfl, hb⟩
    | succ j => exact h2 j x (by simpa using hx)

theorem run_places {w : World} : ∀ (fs : List Field), fs.all (fun f => (P.info? f.type).isSome) = true →
    (fs.mapM (fun f => do pure (f.offset, ← sizeOf f.type) : Field → Sem (Nat × Nat))).run P w = .ok (fs.map fun f => (f.offset, resOne.sizeB P f.type)) w := by
  intro fs
  induction fs with
  | nil => intro _; simp
  | cons f fs ih =>
    intro h
    simp only [List.all_cons, Bool.and_eq_true] at h
    simp only [List.mapM_cons, Sem.run_bind, run_sizeOf h.1, Result.andThen_ok, Sem.run_pure, ih h.2, List.map_cons]

theorem step_build {t : TypeId} {parts : Array (Nat × Operand)} {fs : Array Field} {i : TypeInfo} {z : Value} {ps : List (Nat × Nat × Operand)} (ho : o.op = .build t parts) (hok : ∀ p ∈ parts.toList, okK p.2 = true)
    (hi : P.info? t = some i) (hz : i.zero = some z) (hfs : fieldsOf P t = some fs) (hps : parts.toList.mapM (fun p => do let f ← fs[p.1]?; let j ← P.info? f.type; some (f.offset, j.size, p.2)) = some ps)
    (hall : fs.toList.all (fun f => (P.info? f.type).isSome) = true) (hzp : z.cells.toList.all okK.plain = true) {r : AR} (hs : stepA P (.build z.cells.toList ps) env m = some r) : OpOk P o env m r := by
  have hu : P.underlying t = some (.struct fs) := by
    unfold fieldsOf at hfs
    split at hfs
    · rename_i h; cases hfs; exact h
    · cases hfs
  simp only [stepA, Option.map_eq_some_iff] at hs
  obtain ⟨cs, hcs, rfl⟩ := hs
  intro ρ w a hr ha
  obtain ⟨hl1, hl2⟩ := mapM_get hps
  obtain ⟨ys', hfill, hrel⟩ := fill_rel (ρ := ρ) (place := ((fs.map fun f => (f.offset, resOne.sizeB P f.type))[·]?)) (partsA env ps) (parts.toList.map fun p => (p.1, a.eval p.2)) z.cells.toList cs z.cells (by simp [partsA, hl1])
    (fun j p q hp hq => by
      simp only [partsA, List.getElem?_map, Option.map_eq_some_iff] at hp hq
      obtain ⟨p0, hp0, rfl⟩ := hp
      obtain ⟨q0, hq0, rfl⟩ := hq
      obtain ⟨b, hb, hf⟩ := hl2 j q0 hq0
      rw [hp0] at hb; cases hb
      simp only [Option.bind_eq_bind, Option.bind_eq_some_iff] at hf
      obtain ⟨fd, hfd, jj, hjj, he⟩ := hf
      cases he
      refine ⟨?_, eval_rel ha (hok q0 (List.mem_of_getElem? hq0))⟩
      simp [hfd, resOne.sizeB, hjj]) (LRel.plain hzp) hcs
  refine ok_here hr (y := .agg ys') ?_ ?_
  · have hpl : (fs.mapM (fun f => do pure (f.offset, ← sizeOf f.type) : Field → Sem (Nat × Nat))).run P w = .ok (fs.map fun f => (f.offset, resOne.sizeB P f.type)) w := by
      rw [← Array.toArray_toList (xs := fs), List.mapM_toArray]
      simp only [Sem.run_map, run_places fs.toList hall, Result.andThen_ok]
      congr 1
      apply Array.toList_inj.1
      simp only [Array.toList_map]
    simp only [execOp, ho, Instr.build, zeroValue, typeInfo, Sem.run_bind, run_program, Result.andThen_ok, hi, Sem.run_pure, hz, run_underlying hu, hpl]
    simp only [Array.toList_map]
    rw [hfill]
    rfl
  · exact .agg _ _ (by simpa using hrel.1) (by simpa using hrel.2)

theorem step_mkSlice {t e : TypeId} {len : Nat} {parts : Array (Nat × Operand)} {i : TypeInfo} {z : Value} (ho : o.op = .buildSlice t len parts) (hok : ∀ p ∈ parts.toList, okK p.2 = true) (ht : P.underlying t = some (.slice e))
    (hi : P.info? e = some i) (hz : i.zero = some z) (hzs : z.cells.size = i.size) (hpos : 0 < i.size) (hlen : 0 < len) (h24 : len * i.size ≤ 2 ^ 24) (hzp : z.cells.toList.all okK.plain = true) {r : AR}
    (hs : stepA P (.mkSlice i.size len z.cells.toList (parts.toList.map fun p => (p.1 * i.size, i.size, p.2))) env m = some r) : OpOk P o env m r := by
  have hpl := List.all_eq_true.1 hzp
  simp only [stepA] at hs
  split at hs
  · rename_i cs hcs
    split at hs
    · rename_i hall
      cases hs
      intro ρ w a hr ha
      have hne : ¬ (len * i.size = 0) := by have := Nat.mul_pos hlen hpos; omega
      have hbase : LRel ρ (List.replicate len z.cells.toList).flatten (((Array.range (len * i.size)).map (z.cells[· % z.cells.size]!)).toList) := by
        refine .of_get (by simp [hzs]) fun j x hx => ?_
        have := made_get (z := z) (k := len * i.size) (by rw [hzs]; exact hpos) (by rw [hzs]; exact Nat.le_refl _) hx
        exact ⟨x, by rw [Array.getElem?_toList]; exact this.1, .plain (hpl x this.2)⟩
      obtain ⟨ys', hfill, hrel⟩ := fill_rel (ρ := ρ) (place := fun k => some (k * i.size, i.size)) (partsA env (parts.toList.map fun p => (p.1 * i.size, i.size, p.2))) (parts.toList.map fun p => (p.1, a.eval p.2)) _ cs
        ((Array.range (len * i.size)).map (z.cells[· % z.cells.size]!)) (by simp [partsA])
        (fun j p q hp hq => by
          simp only [partsA, List.getElem?_map, List.map_map, Option.map_eq_some_iff] at hp hq
          obtain ⟨p0, hp0, rfl⟩ := hp
          obtain ⟨q0, hq0, rfl⟩ := hq
          rw [hp0] at hq0; cases hq0
          exact ⟨rfl, eval_rel ha (hok p0 (List.mem_of_getElem? hp0))⟩) hbase hcs
      have hcl : cs.length = ys'.size := by have := hrel.1; simpa using this
      obtain ⟨ρ', r1, r2, r3, r4⟩ := hr.push (xs := cs) (cs := ys') (e := e) (fr := (0, 0)) (List.all_eq_true.1 hall) (by simp) (by omega) (fun j x hx => by obtain ⟨y, hy, hv⟩ := hrel.get hx; exact ⟨y, by simpa using hy, hv⟩)
      refine ⟨_, .slice (some ⟨w.heap.size, 0, none⟩) len len, _, ρ', ?_, .inl rfl, r2, r3, .slice _ _ _ _ _ _ 0 len r1 (fun _ => rfl) (Nat.le_refl _) ?_, r4⟩
      · simp only [execOp, ho, Instr.buildSlice, Sem.run_bind, run_underlying ht, Result.andThen_ok, run_sizeOf (P := P) (t := e) (by simp [hi]), resOne.sizeB, hi, Option.map_some, Option.getD_some]
        rw [if_neg (by omega)]
        simp only [hne, if_false, zeroValue, typeInfo, Sem.run_bind, run_program, Result.andThen_ok, hi, Sem.run_pure, hz, Array.toList_map]
        rw [hfill]
        rfl
      · have h2 : (List.replicate len z.cells.toList).flatten.length = len * i.size := by simp [hzs]
        have h3 := fillA_length _ _ _ hcs
        simp only; omega
    · cases hs
  · cases hs
where
  fillA_length : ∀ (ps : List (Nat × Nat × Value)) (xs xs' : List Value), fillA xs ps = some xs' → xs'.length = xs.length := by
    intro ps
    induction ps with
    | nil => intro xs xs' h; simp only [fillA, Option.some.injEq] at h; subst h; rfl
    | cons p ps ih =>
      intro xs xs' h
      obtain ⟨off, size, v⟩ := p
      simp only [fillA] at h
      split at h
      · rename_i hc
        rw [ih _ _ h]
        simp only [List.length_append, List.length_take, List.length_drop, Array.length_toList]
        omega
      · cases h

theorem step_mkSlice0 {t e : TypeId} {parts : Array (Nat × Operand)} {i : TypeInfo} {sz : Nat} (ho : o.op = .buildSlice t 0 parts) (hemp : parts.toList.isEmpty = true) (ht : P.underlying t = some (.slice e))
    (hi : P.info? e = some i) {r : AR} (hs : stepA P (.mkSlice sz 0 [] []) env m = some r) : OpOk P o env m r := by
  have hp0 : parts.toList = [] := by simpa using hemp
  simp only [stepA, partsA, fillA, List.replicate_zero, List.flatten_nil, List.map_nil] at hs
  simp only [List.all_nil, if_true, Option.some.injEq] at hs
  subst hs
  intro ρ w a hr ha
  obtain ⟨ρ', r1, r2, r3, r4⟩ := hr.push (xs := []) (cs := #[]) (e := e) (fr := (0, 0)) (by simp) (by simp) (by simp) (by simp)
  refine ⟨_, .slice (some ⟨w.heap.size, 0, none⟩) 0 0, _, ρ', ?_, .inl rfl, r2, r3, .slice _ _ _ _ _ _ 0 0 r1 (fun _ => rfl) (Nat.le_refl _) (by simp), r4⟩
  simp only [execOp, ho, Instr.buildSlice, Sem.run_bind, run_underlying ht, Result.andThen_ok, run_sizeOf (P := P) (t := e) (by simp [hi]), Nat.zero_mul]
  rw [if_neg (by omega)]
  simp [hp0, Instr.fill, newRow, Array.range_zero']
end
end Go.AM
