/-
  The abstract machine, ninth part: stripped code and what is asked along it.
-/
import Derived.Test.YtnfncjodmkhafaaAm8
set_option linter.all false
set_option linter.unusedSimpArgs false
set_option linter.unusedVariables false
namespace Go.AM

theorem isAggT_some {P : Program} {t : TypeId} {g : Bool} (h : isAggT P t = some g) : ∃ d, P.underlying t = some d := by
  unfold isAggT at h
  cases hd : P.underlying t with
  | none => rw [hd] at h; cases h
  | some d => exact ⟨d, rfl⟩

theorem strip_sound {P : Program} {esc : Bool} {o : Oper} {ao : AOp} (h : stripOp P esc o = some ao) {env : List Value} {m : Mem} {r : AR} (hs : stepA P ao env m = some r) : OpOk P o env m r := by
  unfold stripOp at h
  split at h
  · cases h
  rename_i hok
  have hop : ∀ x ∈ o.op.operands.toList, okK x = true := okL_all (by simpa using hok)
  clear hok
  split at h
  · rename_i x hx; cases h; exact (by cases hs; exact step_mov (.inl hx) (hop x (by simp [hx, Op.operands])))
  · rename_i x hx; cases h; exact (by cases hs; exact step_mov (.inr hx) (hop x (by simp [hx, Op.operands])))
  · rename_i c a b hx
    cases h
    simp only [stepA] at hs
    split at hs
    · rename_i t ht
      cases hs
      exact step_pick hx (hop c (by simp [hx, Op.operands])) (hop a (by simp [hx, Op.operands])) (hop b (by simp [hx, Op.operands])) ht
    · cases hs
  · rename_i t hx
    simp only [Option.bind_eq_bind, Option.bind_eq_some_iff] at h
    obtain ⟨i, hi, z, hz, h⟩ := h
    split at h
    · rename_i hp; cases h; exact step_new esc hx hi hz hp hs
    · cases h
  · rename_i t x hx; cases h; exact step_box esc hx (hop x (by simp [hx, Op.operands])) hs
  · rename_i t parts hx
    simp only [Option.bind_eq_bind, Option.bind_eq_some_iff] at h
    obtain ⟨i, hi, z, hz, fs, hfs, ps, hps, h⟩ := h
    split at h
    · rename_i hc
      cases h
      simp only [Bool.and_eq_true] at hc
      exact step_build hx (fun p hp => hop p.2 (by simp only [hx, Op.operands]; exact List.mem_map.2 ⟨p, hp, rfl⟩)) hi hz hfs (by simpa using hps) hc.1 hc.2 hs
    · cases h
  · rename_i t len parts hx
    simp only [Option.bind_eq_bind, Option.bind_eq_some_iff] at h
    obtain ⟨e, he, i, hi, z, hz, h⟩ := h
    split at h
    · rename_i hc
      cases h
      obtain ⟨c1, c2, c3, c4, c5⟩ := hc
      exact step_mkSlice hx (fun p hp => hop p.2 (by simp only [hx, Op.operands]; exact List.mem_map.2 ⟨p, hp, rfl⟩)) (sliceOf_spec he) hi hz c1 c2 c3 c4 c5 hs
    · split at h
      · rename_i hc
        obtain ⟨rfl, hc⟩ := hc
        cases h
        exact step_mkSlice0 hx hc (sliceOf_spec he) hi hs
      · cases h
  · rename_i t x hx
    simp only [Option.bind_eq_bind, Option.bind_eq_some_iff] at h
    obtain ⟨g, hg, i, hi, h⟩ := h
    cases h
    exact step_load hx (hop x (by simp [hx, Op.operands])) hg hi hs
  · rename_i t x v hx
    simp only [Option.bind_eq_bind, Option.bind_eq_some_iff] at h
    obtain ⟨i, hi, h⟩ := h
    cases h
    exact step_store hx (hop x (by simp [hx, Op.operands])) (hop v (by simp [hx, Op.operands])) hi hs
  · rename_i x hx; cases h; exact step_nilCheck hx (hop x (by simp [hx, Op.operands])) hs
  · rename_i op t x y t' hx
    have ox := hop x (by simp [hx, Op.operands])
    have oy := hop y (by simp [hx, Op.operands])
    split at h
    · rename_i e he; cases h; exact step_isNil hx ox oy rfl (.inl ⟨rfl, _, he⟩) hs
    · rename_i e he; cases h; exact step_isNil hx ox oy rfl (.inr (.inl ⟨rfl, _, he⟩)) hs
    · rename_i a b c he; cases h; exact step_isNil hx ox oy rfl (.inr (.inr ⟨rfl, _, _, _, he⟩)) hs
    · rename_i e he; cases h; exact step_isNil hx ox oy rfl (.inl ⟨rfl, _, he⟩) hs
    · rename_i e he; cases h; exact step_isNil hx ox oy rfl (.inr (.inl ⟨rfl, _, he⟩)) hs
    · rename_i a b c he; cases h; exact step_isNil hx ox oy rfl (.inr (.inr ⟨rfl, _, _, _, he⟩)) hs
    · cases h; exact step_bin hx ox oy hs
  · rename_i op t x hx; cases h; exact step_un hx (hop x (by simp [hx, Op.operands])) hs
  · rename_i src dst x hx
    have ox := hop x (by simp [hx, Op.operands])
    split at h
    · rename_i k' k h1 h2; cases h; exact step_convI hx ox h1 h2 hs
    · cases h
    · rename_i e h1 h2
      split at h
      · rename_i h3; cases h; exact step_convBS hx ox h1 h2 h3 hs
      · cases h
    · cases h; exact step_convP hx ox hs
  · rename_i x i hx; cases h; exact step_extract hx (hop x (by simp [hx, Op.operands])) hs
  · rename_i t x f hx
    simp only [Option.bind_eq_bind, Option.bind_eq_some_iff] at h
    obtain ⟨fs, hfs, fd, hfd, i, hi, h⟩ := h
    split at h
    · cases h
    · rename_i hz; cases h; exact step_fieldAddr hx (hop x (by simp [hx, Op.operands])) hfs hfd hi hz hs
  · rename_i t x f hx
    simp only [Option.bind_eq_bind, Option.bind_eq_some_iff] at h
    obtain ⟨fs, hfs, fd, hfd, g, hg, i, hi, h⟩ := h
    cases h
    exact step_field hx (hop x (by simp [hx, Op.operands])) hfs hfd hg hi hs
  · rename_i t x i hx
    simp only [Option.bind_eq_bind, Option.bind_eq_some_iff] at h
    obtain ⟨e, he, j, hj, h⟩ := h
    cases h
    exact step_idxSl hx (hop x (by simp [hx, Op.operands])) (hop i (by simp [hx, Op.operands])) he hj hs
  · rename_i t x i hx
    split at h
    · rename_i hu; cases h; exact step_idxStr hx (hop x (by simp [hx, Op.operands])) (hop i (by simp [hx, Op.operands])) hu hs
    · cases h
  · rename_i t x lo hi hx
    have ox := hop x (by simp [hx, Op.operands])
    have olo : ∀ y, lo = some y → okK y = true := fun y hy => hop y (by simp [hx, Op.operands, hy])
    have ohi : ∀ y, hi = some y → okK y = true := fun y hy => hop y (by simp [hx, Op.operands, hy])
    split at h
    · rename_i hu; cases h; exact step_slStr hx ox olo ohi hu hs
    · rename_i e hu
      simp only [Option.map_eq_some_iff] at h
      obtain ⟨j, hj, rfl⟩ := h
      exact step_slSl hx ox olo ohi hu hj hs
    · cases h
  · rename_i f first cap hx
    cases h
    exact step_fn hx (fun x hm => hop x (by simp only [hx, Op.operands, Array.toList_append]; exact List.mem_append.2 (.inl hm))) (fun x hm => hop x (by simp only [hx, Op.operands, Array.toList_append]; exact List.mem_append.2 (.inr hm))) hs
  · rename_i t len cap hx
    simp only [Option.bind_eq_bind, Option.bind_eq_some_iff] at h
    obtain ⟨e, he, i, hi, z, hz, h⟩ := h
    split at h
    · rename_i hc
      obtain ⟨c1, c2, c3⟩ := hc
      cases h
      exact step_make hx (hop len (by simp [hx, Op.operands])) (hop cap (by simp [hx, Op.operands])) (sliceOf_spec he) hi hz c1 c2 c3 hs
    · cases h
  · rename_i f args ats hx
    cases h
    exact step_call hx rfl (hop f (by simp [hx, Op.operands, Call.operands])) (fun x hm => hop x (by simp only [hx, Op.operands, Call.operands, Array.toList_append]; exact List.mem_append.2 (.inr hm))) hs
  · rename_i x t hx
    have ox := hop x (by simp [hx, Op.operands, Call.operands])
    split at h
    · rename_i hu; cases h; exact step_lenStr hx rfl ox hu hs
    · rename_i e hu; cases h; exact step_lenSl hx rfl ox hu hs
    · cases h
  · rename_i s x t t' hx
    have os := hop s (by simp [hx, Op.operands, Call.operands])
    have ox := hop x (by simp [hx, Op.operands, Call.operands])
    simp only [Option.bind_eq_bind, Option.bind_eq_some_iff] at h
    obtain ⟨e, he, i, hi, z, hz, h⟩ := h
    split at h
    · rename_i hc
      split at h
      · rename_i e' he'
        split at h
        · rename_i hee; subst hee; cases h; exact step_append hx rfl os ox (sliceOf_spec he) he' hi hz hc.1 hs
        · cases h
      · rename_i hstr
        split at h
        · split at h
          · rename_i h1; cases h; exact step_appStr hx rfl os ox (sliceOf_spec he) hstr hi hz hc.1 h1.1 h1.2 hs
          · cases h
        · cases h
      · cases h
    · cases h
  · cases h

/-- One instruction: where its value goes, its guard (a frame slot and what it must be), the operation. -/
def stripI (P : Program) (ops : Array Oper) (esc : List Tmp) (o : Oper) : Option AI :=
  match o.guard with
  | none => (stripOp P ((o.dst.map (esc.contains ·)).getD false) o).map fun op => { dst := o.dst, guard := none, op }
  | some (j, want) => ((ops[j]?).bind (·.dst)).bind fun t => (stripOp P ((o.dst.map (esc.contains ·)).getD false) o).map fun op => { dst := o.dst, guard := some (t, want), op }

def wantedI (env : List Value) (i : AI) : Bool :=
  match i.guard with
  | none => true
  | some (t, want) => match env[t]? with
    | some (.bool b) => b == want
    | _ => false

end Go.AM
