/-
  The abstract machine, seventh part: append.
-/
import Derived.Test.YtnfncjodmkhafaaAm6
set_option linter.all false
set_option linter.unusedSimpArgs false
set_option linter.unusedVariables false
namespace Go.AM

/-- A block that goes on under a new key: where it was, or in a new place. -/
theorem Rel.moved {ρ : Rho} {m m' : Mem} {w w' : World} (h : Rel ρ m w) {b v b' v' : Nat} {cells cells' : List Value} {L L' : Loc} (hat : m.at b (some v) = some (cells, true)) (hL : ρ b (some v) = some L)
    (hno : ρ b' (some v') = none) (hat' : m'.at b' (some v') = some (cells', true)) (hk' : m'.known b' (some v')) (hdead : m'.at b (some v) = none)
    (hoth : ∀ b2 sp2 L2, ρ b2 sp2 = some L2 → ¬ (b2 = b ∧ sp2 = some v) → m'.at b2 sp2 = m.at b2 sp2) (hkn : ∀ b2 sp2, m.known b2 sp2 → m'.known b2 sp2) (hwf : m'.Wf)
    (hblk : L'.blk = L.blk ∨ L'.blk = w.heap.size) (hin : L'.blk < w'.heap.size) (hB : Backs ρ w' L' cells' true) (hsame : ∀ B, B < w.heap.size → B ≠ L.blk → w'.heap[B]? = w.heap[B]?)
    (hsz : w.heap.size ≤ w'.heap.size) (hos : w'.os = w.os) (hout : w'.output = w.output) (htape : w'.tape = w.tape) :
    ρ.le (ρ.put b' (some v') L') ∧ Rel (ρ.put b' (some v') L') m' w' ∧ Ext ρ m w (ρ.put b' (some v') L') m' w' := by
  have hle : ρ.le (ρ.put b' (some v') L') := Rho.le_put L' hno
  have hne : ∀ b2 sp2 c2 r2 L2, ρ b2 sp2 = some L2 → m'.at b2 sp2 = some (c2, r2) → ¬ (b2 = b ∧ sp2 = some v) ∧ m.at b2 sp2 = some (c2, r2) ∧ L2.blk ≠ L.blk := by
    intro b2 sp2 c2 r2 L2 h2 hc
    have hk : ¬ (b2 = b ∧ sp2 = some v) := by
      rintro ⟨rfl, rfl⟩; rw [hdead] at hc; cases hc
    rw [hoth b2 sp2 L2 h2 hk] at hc
    exact ⟨hk, hc, h.apart b2 sp2 b (some v) c2 cells r2 true L2 L hc hat h2 hL hk (.inr rfl)⟩
  refine ⟨hle, ⟨hwf, fun b2 sp2 c2 r2 L2 hc hl2 => ?_, fun b1 sp1 b2 sp2 c1 c2 r1 r2 L1 L2 ha1 ha2 hl1 hl2 hne' hr => ?_, fun b2 sp2 L2 hl2 => ?_⟩, ⟨hsz, hos, hout, htape, fun B hB ho => ?_, fun B hB ho => ?_⟩⟩
  · by_cases hk : b2 = b' ∧ sp2 = some v'
    · obtain ⟨rfl, rfl⟩ := hk
      rw [Rho.put_self] at hl2; cases hl2
      rw [hat'] at hc; cases hc
      exact hB.mono hle rfl
    · rw [Rho.put_ne _ _ hk] at hl2
      obtain ⟨_, hc', hnb⟩ := hne b2 sp2 c2 r2 L2 hl2 hc
      exact (h.back b2 sp2 c2 r2 L2 hc' hl2).mono hle (hsame _ (h.dom b2 sp2 L2 hl2).2 hnb)
  · have key : ∀ b2 sp2 c2 r2 L2, ¬ (b2 = b' ∧ sp2 = some v') → ρ b2 sp2 = some L2 → m'.at b2 sp2 = some (c2, r2) → L2.blk ≠ L'.blk := by
      intro b2 sp2 c2 r2 L2 _ hl hc
      obtain ⟨_, _, hnb⟩ := hne b2 sp2 c2 r2 L2 hl hc
      have := (h.dom b2 sp2 L2 hl).2
      rcases hblk with e | e <;> rw [e] <;> first | exact hnb | omega
    by_cases hk1 : b1 = b' ∧ sp1 = some v'
    · obtain ⟨rfl, rfl⟩ := hk1
      rw [Rho.put_self] at hl1; cases hl1
      have hk2 : ¬ (b2 = b1 ∧ sp2 = some v') := fun e => hne' ⟨e.1.symm, e.2.symm⟩
      rw [Rho.put_ne _ _ hk2] at hl2
      exact (key b2 sp2 c2 r2 L2 hk2 hl2 ha2).symm
    · rw [Rho.put_ne _ _ hk1] at hl1
      by_cases hk2 : b2 = b' ∧ sp2 = some v'
      · obtain ⟨rfl, rfl⟩ := hk2
        rw [Rho.put_self] at hl2; cases hl2
        exact key b1 sp1 c1 r1 L1 hk1 hl1 ha1
      · rw [Rho.put_ne _ _ hk2] at hl2
        exact h.apart _ _ _ _ _ _ _ _ L1 L2 (hne _ _ _ _ _ hl1 ha1).2.1 (hne _ _ _ _ _ hl2 ha2).2.1 hl1 hl2 hne' hr
  · by_cases hk : b2 = b' ∧ sp2 = some v'
    · obtain ⟨rfl, rfl⟩ := hk
      rw [Rho.put_self] at hl2; cases hl2
      exact ⟨hk', hin⟩
    · rw [Rho.put_ne _ _ hk] at hl2
      have := h.dom b2 sp2 L2 hl2
      exact ⟨hkn _ _ this.1, Nat.lt_of_lt_of_le this.2 hsz⟩
  · exact hsame B hB fun e => ho ⟨b, some v, cells, L, hat, hL, e.symm⟩
  · obtain ⟨b2, sp2, c2, L2, hc, hl2, hB2⟩ := ho
    by_cases hk : b2 = b' ∧ sp2 = some v'
    · obtain ⟨rfl, rfl⟩ := hk
      rw [Rho.put_self] at hl2; cases hl2
      rcases hblk with e | e
      · exact ⟨b, some v, cells, L, hat, hL, by rw [← e]; exact hB2⟩
      · omega
    · rw [Rho.put_ne _ _ hk] at hl2
      exact ⟨b2, sp2, c2, L2, (hne _ _ _ _ _ hl2 hc).2.1, hl2, hB2⟩

/-- Cells stored one behind the other into one block. -/
theorem run_storeRaw {P : Program} {B o : Nat} {e : TypeId} {fr : Nat × Nat} : ∀ (vs : List Value) (i : Nat) (w : World) (cs : Array Value), w.heap[B]? = some (.cells cs e fr) → o + i + vs.length ≤ cs.size →
    (∀ j, j < cs.size → ¬ (fr.1 ≤ j ∧ j < fr.2)) → (∀ v ∈ vs, v.oneCell' = true) →
    ∃ w' cs', (storeCells ⟨B, o, none⟩ vs i).run P w = .ok () w' ∧ w'.heap[B]? = some (.cells cs' e fr) ∧ cs'.size = cs.size ∧
      (∀ j, cs'[j]? = if o + i ≤ j ∧ j < o + i + vs.length then vs[j - (o + i)]? else cs[j]?) ∧ (∀ B', B' ≠ B → w'.heap[B']? = w.heap[B']?) ∧ w'.heap.size = w.heap.size ∧ w'.os = w.os ∧ w'.output = w.output ∧ w'.tape = w.tape := by
  intro vs
  induction vs with
  | nil => intro i w cs h _ _ _; exact ⟨w, cs, by simp [storeCells], h, rfl, fun j => by rw [if_neg (by simp)], fun _ _ => rfl, rfl, rfl, rfl, rfl⟩
  | cons v vs ih =>
    intro i w cs h hfit hfr hone
    simp only [List.length_cons] at hfit
    have h1 : v.oneCell' = true := hone v (List.mem_cons_self ..)
    have hu : ∃ u, cs[o + i]? = some u := ⟨_, Array.getElem?_eq_getElem (by omega)⟩
    obtain ⟨u, hu⟩ := hu
    have hf : w.frozen? ⟨B, o + i, none⟩ = false := by
      simp only [World.frozen?, h]
      have := hfr (o + i) (by omega)
      simp only [Bool.and_eq_false_iff, decide_eq_false_iff_not]
      by_cases hf : fr.1 ≤ o + i
      · right; intro hg; exact this ⟨hf, hg⟩
      · left; exact hf
    obtain ⟨w', cs', hrun, hh, hs, hj, hB, hsz, e1, e2, e3⟩ := ih (i + 1) (w.setCell ⟨B, o + i, none⟩ v) (cs.setIfInBounds (o + i) v) (setCell_heap h v) (by simp; omega) (by simpa using hfr) (fun x hx => hone x (List.mem_cons_of_mem _ hx))
    refine ⟨w', cs', ?_, hh, by simpa using hs, fun j => ?_, fun B' hB' => (hB B' hB').trans (setCell_heap_ne hB' v), by simpa using hsz, e1, e2, e3⟩
    · simp only [storeCells, Sem.run_bind]
      rw [run_store _ _ _ _ _ h1, Addr.add_none, cell?_of_heap h, hu]
      simp only [hf, Bool.false_eq_true, if_false, Result.andThen_ok]
      exact hrun
    · rw [hj j]
      by_cases hc : o + (i + 1) ≤ j ∧ j < o + (i + 1) + vs.length
      · rw [if_pos hc, if_pos (by simp; omega)]
        rw [show j - (o + i) = (j - (o + (i + 1))) + 1 from by omega]; rfl
      · rw [if_neg hc]
        rw [Array.getElem?_setIfInBounds]
        by_cases hji : o + i = j
        · subst hji
          rw [if_pos rfl, if_pos (by omega), if_pos (by simp)]
          simp
        · rw [if_neg hji, if_neg (by simp; omega)]

section
variable {P : Program} {w : World} {t t' ty e : TypeId} {i : TypeInfo} {z : Value}

/-- 'append' with room, whatever is appended. -/
theorem run_append_in (ht : P.underlying t = some (.slice e)) (ht' : ∃ d, P.underlying t' = some d ∧ ∀ k, d ≠ .int k) (hi : P.info? e = some i)
    {x : Value} {n2 : Nat} {news : List Value} (hlen : Builtin.lenOf x = pure n2) (hfc : (Builtin.firstCells i.size n2 x).run P w = .ok news.toArray w) {base : Option Addr} {n c : Nat} (hroom : n + n2 ≤ c) :
    (Builtin.append_ #[t, t'] ty #[.slice base n c, x]).run P w = ((match base with | some a => storeCells (a.add (n * i.size)) news | none => pure () : Sem Unit).run P w).andThen fun _ w' => .ok (.slice base (n + n2) c) w' := by
  obtain ⟨d, hd, _⟩ := ht'
  cases base with
  | none => simp [Builtin.append_, run_underlying ht, run_underlying hd, sizeOf, typeInfo, hi, hlen, hroom, hfc]
  | some a => simp [Builtin.append_, run_underlying ht, run_underlying hd, sizeOf, typeInfo, hi, hlen, hroom, hfc]

/-- 'append' without room. -/
theorem run_append_out (ht : P.underlying t = some (.slice e)) (ht' : ∃ d, P.underlying t' = some d ∧ ∀ k, d ≠ .int k) (hi : P.info? e = some i) (hz0 : i.zero = some z)
    {x : Value} {n2 : Nat} {news olds : List Value} (hlen : Builtin.lenOf x = pure n2) (hfc : (Builtin.firstCells i.size n2 x).run P w.drew = .ok news.toArray w.drew) {base : Option Addr} {n c : Nat} (hroom : c < n + n2)
    (hold : (Builtin.firstCells i.size n (.slice base n c)).run P w.drew = .ok olds.toArray w.drew) (h63 : (n + n2 : Nat) ≤ 9223372036854775807) (hfit : Builtin.nextslicecap (n + n2) c * i.bytes ≤ 281474976710656) :
    (Builtin.append_ #[t, t'] ty #[.slice base n c, x]).run P w = .ok (.slice (some ⟨w.heap.size, 0, none⟩) (n + n2) (grownCap w (n + n2) c e))
      (w.drew.alloc (.cells (olds.toArray ++ news.toArray ++ Builtin.zeroCells z.cells (grownCap w (n + n2) c e - (n + n2))) e)) := by
  obtain ⟨d, hd, _⟩ := ht'
  have hn : ¬ (n + n2 ≤ c) := by omega
  have h63' : ¬ (9223372036854775807 < ((n : Int) + (n2 : Int))) := by omega
  have h48' : ¬ (281474976710656 < Builtin.nextslicecap (n + n2) c * i.bytes) := by omega
  simp [Builtin.append_, run_underlying ht, run_underlying hd, sizeOf, typeInfo, zeroValue, hi, hz0, hlen, hn, h63', h48', hfc, hold, Question.forced, newRow, grownCap]
  simp only [← Array.append_assoc, List.append_toArray]
end

theorem Mem.bump_at {m : Mem} {b : Nat} (hb : b < m.heap.length) (cells : List Value) (v : Nat) :
    (m.bump b cells v).at b (some v) = some (cells, true) ∧ (∀ v2, v2 ≠ v → (m.bump b cells v).at b (some v2) = none) ∧ (∀ b2 sp2, b2 ≠ b ∨ sp2 = none → (m.bump b cells v).at b2 sp2 = m.at b2 sp2) := by
  refine ⟨by simp [Mem.bump, Mem.at, hb], fun v2 hv => ?_, fun b2 sp2 h => ?_⟩
  · simp only [Mem.bump, Mem.at, List.getElem?_set_self hb, Option.bind_some]
    rw [if_neg (Ne.symm hv)]
  · cases sp2 with
    | none => rfl
    | some v2 =>
      have hne : b ≠ b2 := by rcases h with h | h <;> first | exact fun e => h e.symm | cases h
      simp [Mem.bump, Mem.at, hne]
theorem Mem.bump_known {m : Mem} {b : Nat} {blk : Blk} (hb : m.heap[b]? = some blk) (cells : List Value) {v : Nat} (hv : blk.ver ≤ v) (b2 : Nat) (sp2 : Option Nat) (h : m.known b2 sp2) : (m.bump b cells v).known b2 sp2 := by
  cases sp2 with
  | none => exact h
  | some v2 =>
    obtain ⟨bl, h1, h2⟩ := h
    by_cases e : b2 = b
    · subst e
      rw [hb] at h1; cases h1
      exact ⟨_, by simp only [Mem.bump]; rw [List.getElem?_set_self (List.getElem?_eq_some_iff.1 hb).1], by simp; omega⟩
    · exact ⟨bl, by simp only [Mem.bump]; rw [List.getElem?_set_ne (fun h => e h.symm)]; exact h1, h2⟩
theorem Mem.Wf.bump {m : Mem} (h : m.Wf) (b : Nat) {cells : List Value} (hc : ∀ c ∈ cells, okC 0 c = true) (v : Nat) : (m.bump b cells v).Wf := by
  refine ⟨fun b2 bl h2 c hcm => ?_, h.stk⟩
  simp only [Mem.bump, List.getElem?_set] at h2
  split at h2
  · split at h2
    · cases h2; exact hc c hcm
    · cases h2
  · exact h.heap b2 bl h2 c hcm
theorem Mem.push_at {m : Mem} (cells : List Value) : (m.push cells).at m.heap.length (some 0) = some (cells, true) ∧ ∀ b2 sp2, b2 < m.heap.length ∨ sp2 = none → (m.push cells).at b2 sp2 = m.at b2 sp2 := by
  refine ⟨by simp [Mem.at, Mem.push], fun b2 sp2 h => ?_⟩
  cases sp2 with
  | none => rfl
  | some v =>
    have : b2 < m.heap.length := by rcases h with h | h <;> first | exact h | cases h
    simp only [Mem.at, Mem.push]
    rw [List.getElem?_append_left this]
theorem Mem.push_known {m : Mem} (cells : List Value) (b2 : Nat) (sp2 : Option Nat) (h : m.known b2 sp2) : (m.push cells).known b2 sp2 := by
  cases sp2 with
  | none => exact h
  | some v =>
    obtain ⟨bl, h1, h2⟩ := h
    exact ⟨bl, by simp only [Mem.push]; rw [List.getElem?_append_left (List.getElem?_eq_some_iff.1 h1).1]; exact h1, h2⟩
theorem Mem.Wf.push {m : Mem} (h : m.Wf) {cells : List Value} (hc : ∀ c ∈ cells, okC 0 c = true) : (m.push cells).Wf := by
  refine ⟨fun b2 bl h2 c hcm => ?_, h.stk⟩
  simp only [Mem.push, List.getElem?_append] at h2
  split at h2
  · exact h.heap b2 bl h2 c hcm
  · have := List.mem_of_getElem? h2
    simp at this; subst this; exact hc c hcm

/-- What an abstract append comes to, given what the source gives. -/
theorem append_sound {P : Program} {m m' : Mem} {ρ : Rho} {w : World} (hr : Rel ρ m w) {t t' ty e : TypeId} {i : TypeInfo} {z : Value} (ht : P.underlying t = some (.slice e)) (ht' : ∃ d, P.underlying t' = some d ∧ ∀ k, d ≠ .int k)
    (hi : P.info? e = some i) (hz0 : i.zero = some z) (hzs : z.cells.size = i.size) {s s' x' : Value} (hs : VRel ρ s s') {n2 : Nat} {news news' : List Value} (hlen : Builtin.lenOf x' = pure n2) (hnl : news.length = n2 * i.size)
    (hfc : ∀ w1 : World, w1.heap = w.heap → (Builtin.firstCells i.size n2 x').run P w1 = .ok news'.toArray w1) (hnews : LRel ρ news news') {v : Value} (ha : appendA m i.size i.bytes s n2 news = some (v, m')) :
    ∃ y w' ρ', (Builtin.append_ #[t, t'] ty #[s', x']).run P w = .ok y w' ∧ ρ.le ρ' ∧ Rel ρ' m' w' ∧ VRel ρ' v y ∧ Ext ρ m w ρ' m' w' := by
  have hnl' : news'.length = n2 * i.size := by rw [← hnews.1]; exact hnl
  have hone : ∀ (hall : news.all (okC 0) = true), ∀ u ∈ news', u.oneCell' = true := by
    intro hall u hu
    obtain ⟨j, hj⟩ := List.mem_iff_getElem?.1 hu
    obtain ⟨x, hx⟩ : ∃ x, news[j]? = some x := ⟨_, List.getElem?_eq_getElem (by rw [hnews.1]; exact (List.getElem?_eq_some_iff.1 hj).1)⟩
    rw [(hnews.2 j x u hx hj).one]
    exact (okC_low (List.all_eq_true.1 hall x (List.mem_of_getElem? hx))).2
  have hgs : ∀ c, (Builtin.zeroCells z.cells c).size = c * i.size := fun c => by rw [size_zeroCells, hzs]
  unfold appendA at ha
  split at ha
  · -- nil
    cases hs with
    | sliceNil x0 =>
      split at ha
      · rename_i h0
        cases ha
        subst h0
        have hn0 : news' = [] := List.eq_nil_of_length_eq_zero (by simpa using hnl')
        subst hn0
        refine ⟨.slice x0 0 0, w, ρ, ?_, .refl ρ, hr, .sliceNil x0, .refl ρ m w⟩
        rw [run_append_in ht ht' hi hlen (hfc w rfl) (by omega)]
        cases x0 <;> rfl
      · rename_i h0
        split at ha
        · rename_i hc
          obtain ⟨hall, hb, h63⟩ := hc
          cases ha
          have hrun := run_append_out (ty := ty) (base := x0) (n := 0) (c := 0) (olds := []) ht ht' hi hz0 hlen (hfc w.drew rfl) (by omega) (by cases x0 with | none => rfl | some a0 => show (loadCells a0 (0 * i.size)).run P w.drew = _; rw [Nat.zero_mul]; exact run_loadCells_list (P := P) _ _ [] (fun _ _ h => by simp at h)) (by omega) (growslice_fits (by omega) (by simpa using hb))
          have hge := grownCap_ge w (0 + n2) 0 e
          obtain ⟨ρ', h1, h2, h3, h4⟩ := hr.drew.push (xs := news) (cs := (news'.toArray ++ Builtin.zeroCells z.cells (grownCap w (0 + n2) 0 e - (0 + n2)))) (e := e) (fr := (0, 0)) (List.all_eq_true.1 hall) (by simp) (by simp [hnews.1])
            (fun j x hx => by
              obtain ⟨y, hy, hv⟩ := hnews.get hx
              refine ⟨y, ?_, hv⟩
              have hlt := (List.getElem?_eq_some_iff.1 hy).1
              rw [Array.getElem?_append_left (by simpa using hlt)]; simpa using hy)
          refine ⟨_, _, ρ', ?_, h2, h3, .slice _ _ _ _ _ _ 0 (grownCap w (0 + n2) 0 e) h1 (fun _ => rfl) (by omega) ?_, (Ext.drew ρ m w).trans h4⟩
          · rw [hrun]; simp
          · simp only [Array.size_append, List.size_toArray, hgs, hnl']
            have : (n2 + (grownCap w (0 + n2) 0 e - (0 + n2))) * i.size = grownCap w (0 + n2) 0 e * i.size := by congr 1; omega
            rw [Nat.add_mul] at this
            omega
        · cases ha
  · rename_i b off v0 n esz
    split at ha
    · rename_i blk hblk
      split at ha
      · rename_i hc
        obtain ⟨hver, hrw, rfl, hfit, hall, hb, h63⟩ := hc
        cases hs with
        | slice _ _ _ _ _ L o' cap' hL ho hl hsz =>
        have hbl : b < m.heap.length := (List.getElem?_eq_some_iff.1 hblk).1
        have hat : m.at b (some v0) = some (blk.cells, true) := by simp [Mem.at, hblk, hver, hrw]
        obtain ⟨cs, e', fr, g1, g2, g3, g4, g5⟩ := hr.back b (some v0) blk.cells true L hat hL
        have hwfb : ∀ c ∈ blk.cells, okC 0 c = true := hr.wf.heap b blk hblk
        have hall' := List.all_eq_true.1 hall
        have hcells : ∀ c ∈ (blk.cells.drop off).take (n * i.size) ++ news, okC 0 c = true := by
          intro c hc
          rcases List.mem_append.1 hc with h | h
          · exact hwfb c (List.mem_of_mem_drop (List.mem_of_mem_take h))
          · exact hall' c h
        have hv1 : ρ b (some (v0 + 1)) = none := by
          cases h : ρ b (some (v0 + 1)) with
          | none => rfl
          | some L2 =>
            obtain ⟨bl, h1, h2⟩ := (hr.dom _ _ _ h).1
            rw [hblk] at h1; cases h1; omega
        -- the abstract side, both ways in one
        obtain ⟨b', v', hno, hat', hk', hdead, hoth, hkn, hwf', hval⟩ : ∃ b' v', ρ b' (some v') = none ∧ m'.at b' (some v') = some ((blk.cells.drop off).take (n * i.size) ++ news, true) ∧ m'.known b' (some v') ∧
            m'.at b (some v0) = none ∧ (∀ b2 sp2 L2, ρ b2 sp2 = some L2 → ¬ (b2 = b ∧ sp2 = some v0) → m'.at b2 sp2 = m.at b2 sp2) ∧ (∀ b2 sp2, m.known b2 sp2 → m'.known b2 sp2) ∧ m'.Wf ∧
            v = .slice (some ⟨b', 0, some v'⟩) (n + n2) i.size := by
          split at ha
          · rename_i h0
            subst h0
            cases ha
            obtain ⟨q1, q2, q3⟩ := Mem.bump_at hbl (blk.cells.take (n * i.size) ++ news) (v0 + 1)
            refine ⟨b, v0 + 1, hv1, by simpa using q1, ⟨_, by simp only [Mem.bump]; rw [List.getElem?_set_self hbl], Nat.le_refl _⟩, q2 v0 (by omega), fun b2 sp2 L2 h2 hne => ?_, Mem.bump_known hblk _ (by omega), hr.wf.bump b (by simpa using hcells) _, rfl⟩
            by_cases eb : b2 = b
            · subst eb
              cases sp2 with
              | none => exact q3 _ _ (.inr rfl)
              | some v2 =>
                have hv2 : v2 ≠ v0 := fun e => hne ⟨rfl, by rw [e]⟩
                obtain ⟨bl, h1, h3⟩ := (hr.dom _ _ _ h2).1
                rw [hblk] at h1; cases h1
                rw [q2 v2 (by omega)]
                simp only [Mem.at, hblk, Option.bind_some]
                rw [if_neg (by omega)]
            · exact q3 _ _ (.inl eb)
          · rename_i h0
            cases ha
            obtain ⟨q1, q2, q3⟩ := Mem.bump_at hbl [] (v0 + 1)
            have hlen : (m.bump b [] (v0 + 1)).heap.length = m.heap.length := by simp [Mem.bump]
            obtain ⟨p1, p2⟩ := Mem.push_at (m := m.bump b [] (v0 + 1)) ((blk.cells.drop off).take (n * i.size) ++ news)
            rw [hlen] at p1 p2
            have hlt2 : ∀ b2 sp2 L2, ρ b2 sp2 = some L2 → b2 < m.heap.length ∨ sp2 = none := by
              intro b2 sp2 L2 h2
              cases sp2 with
              | none => exact .inr rfl
              | some v2 => obtain ⟨bl, h1, _⟩ := (hr.dom _ _ _ h2).1; exact .inl (List.getElem?_eq_some_iff.1 h1).1
            refine ⟨m.heap.length, 0, hr.no_heap 0, p1, ⟨_, by simp only [Mem.push]; rw [← hlen, List.getElem?_concat_length], Nat.zero_le _⟩, by rw [p2 b _ (.inl hbl)]; exact q2 v0 (by omega), fun b2 sp2 L2 h2 hne => ?_,
              fun b2 sp2 h2 => Mem.push_known _ _ _ (Mem.bump_known hblk _ (by omega) _ _ h2), (hr.wf.bump b (by simp) _).push hcells, rfl⟩
            rw [p2 _ _ (hlt2 _ _ _ h2)]
            by_cases eb : b2 = b
            · subst eb
              cases sp2 with
              | none => exact q3 _ _ (.inr rfl)
              | some v2 =>
                have hv2 : v2 ≠ v0 := fun e => hne ⟨rfl, by rw [e]⟩
                obtain ⟨bl, h1, h3⟩ := (hr.dom _ _ _ h2).1
                rw [hblk] at h1; cases h1
                rw [q2 v2 (by omega)]
                simp only [Mem.at, hblk, Option.bind_some]
                rw [if_neg (by omega)]
            · exact q3 _ _ (.inl eb)
        have hlenc : ((blk.cells.drop off).take (n * i.size)).length = n * i.size := by simp; omega
        by_cases hroom : n + n2 ≤ cap'
        · -- in place
          have hmul : n * i.size + n2 * i.size ≤ cap' * i.size := by rw [← Nat.add_mul]; exact Nat.mul_le_mul_right _ hroom
          obtain ⟨w', cs', k1, k2, k3, k4, k5, k6, k7, k8, k9⟩ : ∃ w' cs', (storeCells (Addr.add ⟨L.blk, o', none⟩ (n * i.size)) news').run P w = .ok () w' ∧ w'.heap[L.blk]? = some (.cells cs' e' fr) ∧ cs'.size = cs.size ∧
              (∀ j, cs'[j]? = if L.off + off + n * i.size ≤ j ∧ j < L.off + off + n * i.size + news'.length then news'[j - (L.off + off + n * i.size)]? else cs[j]?) ∧ (∀ B', B' ≠ L.blk → w'.heap[B']? = w.heap[B']?) ∧
              w'.heap.size = w.heap.size ∧ w'.os = w.os ∧ w'.output = w.output ∧ w'.tape = w.tape := by
            by_cases hn2 : n2 = 0
            · subst hn2
              have hn0 : news' = [] := List.eq_nil_of_length_eq_zero (by simpa using hnl')
              subst hn0
              exact ⟨w, cs, by simp [storeCells], g1, rfl, fun j => by rw [if_neg (by simp)], fun _ _ => rfl, rfl, rfl, rfl, rfl⟩
            · have ho' : o' = L.off + off := ho (by omega)
              subst ho'
              rw [Addr.add_none]
              have := run_storeRaw (P := P) (o := L.off + off + n * i.size) news' 0 w cs g1 (by rw [hnl', g2]; omega) (by rw [g2]; exact g4 rfl) (hone hall)
              simpa using this
          obtain ⟨r1, r2, r3⟩ := hr.moved (w' := w') (L' := ⟨L.blk, L.off + off, L.size⟩) hat hL hno hat' hk' hdead hoth hkn hwf' (.inl rfl) (by simp only; have := (hr.dom _ _ _ hL).2; omega)
            ⟨cs', e', fr, k2, by simp only; omega, by simp only [List.length_append, hlenc, hnl]; omega, by simpa using g4, fun j x hx => by
              simp only
              rw [k4]
              rw [List.getElem?_append] at hx
              split at hx
              · rename_i hj
                rw [hlenc] at hj
                rw [if_neg (by omega)]
                rw [List.getElem?_take, if_pos hj, List.getElem?_drop] at hx
                obtain ⟨y, hy, hv⟩ := g5 _ _ hx
                exact ⟨y, by rw [Nat.add_assoc]; exact hy, hv⟩
              · rename_i hj
                rw [hlenc] at hj hx
                obtain ⟨y, hy, hv⟩ := hnews.get hx
                have := (List.getElem?_eq_some_iff.1 hy).1
                rw [if_pos (by omega)]
                exact ⟨y, by rw [show L.off + off + j - (L.off + off + n * i.size) = j - n * i.size from by omega]; exact hy, hv⟩⟩
            (fun B _ hne => k5 B hne) (by omega) k7 k8 k9
          refine ⟨.slice (some ⟨L.blk, o', none⟩) (n + n2) cap', w', _, ?_, r1, r2, ?_, r3⟩
          · rw [run_append_in ht ht' hi hlen (hfc w rfl) hroom]
            simp only [k1, Result.andThen_ok]
          · rw [hval]
            exact .slice b' 0 (some v') (n + n2) i.size ⟨L.blk, L.off + off, L.size⟩ o' cap' (Rho.put_self _ _ _ _) ho hroom hsz
        · -- a new block
          obtain ⟨olds, q1, q2, q3⟩ := hr.loads (n := n * i.size) (xs := (blk.cells.drop off).take (n * i.size)) hL (by
            simp only [Mem.loads, hat, Option.bind_some]; rw [if_pos hfit])
          have holds : (Builtin.firstCells i.size n (.slice (some ⟨L.blk, o', none⟩) n cap')).run P w.drew = .ok olds.toArray w.drew := by
            simp only [Builtin.firstCells]
            have hol : olds.length = n * i.size := by rw [← q1.1]; exact q2
            have := run_loadCells_list (P := P) w.drew ⟨L.blk, o', none⟩ olds (fun j u hj => by
              have hjl := (List.getElem?_eq_some_iff.1 hj).1
              have hn : 0 < n := by
                rcases Nat.eq_zero_or_pos n with h | h
                · subst h; simp at hol; rw [hol] at hjl; simp at hjl
                · exact h
              have ho' : o' = L.off + off := ho (by omega)
              rw [Addr.add_none, ho', World.cell?_drew]; exact q3 j u hj)
            rw [hol] at this; exact this
          have hrun := run_append_out (ty := ty) (base := some ⟨L.blk, o', none⟩) (n := n) (c := cap') ht ht' hi hz0 hlen (hfc w.drew rfl) (by omega) holds (by omega) (growslice_fits (by omega) hb)
          have hge := grownCap_ge w (n + n2) cap' e
          have hol : olds.length = n * i.size := by rw [← q1.1]; exact q2
          have hsize : (olds.toArray ++ news'.toArray ++ Builtin.zeroCells z.cells (grownCap w (n + n2) cap' e - (n + n2))).size = grownCap w (n + n2) cap' e * i.size := by
            simp only [Array.size_append, List.size_toArray, hgs, hol, hnl']
            rw [← Nat.add_mul, ← Nat.add_mul]; congr 1; omega
          have hmul : n * i.size + n2 * i.size ≤ grownCap w (n + n2) cap' e * i.size := by rw [← Nat.add_mul]; exact Nat.mul_le_mul_right _ hge
          obtain ⟨r1, r2, r3⟩ := hr.drew.moved (w' := w.drew.alloc (.cells (olds.toArray ++ news'.toArray ++ Builtin.zeroCells z.cells (grownCap w (n + n2) cap' e - (n + n2))) e))
            (L' := ⟨w.heap.size, 0, grownCap w (n + n2) cap' e * i.size⟩) hat hL hno hat' hk' hdead hoth hkn hwf' (.inr rfl) (by simp)
            ⟨_, e, (0, 0), heap_new w.drew _, hsize, by simp only [List.length_append, hlenc, hnl]; omega, by simp, fun j x hx => by
              obtain ⟨y, hy, hv⟩ := (q1.append hnews).get hx
              refine ⟨y, ?_, hv⟩
              have hlt := (List.getElem?_eq_some_iff.1 hy).1
              rw [Array.getElem?_append_left (by simpa using hlt)]
              simpa using hy⟩
            (fun B hB _ => heap_old w.drew _ hB) (by simp) rfl rfl rfl
          refine ⟨_, _, _, hrun, r1, r2, ?_, (Ext.drew ρ m w).trans r3⟩
          rw [hval]
          exact .slice _ _ _ _ _ _ 0 _ (Rho.put_self _ _ _ _) (fun _ => rfl) hge (by simp)
      · cases ha
    · cases ha
  · cases ha
end Go.AM
