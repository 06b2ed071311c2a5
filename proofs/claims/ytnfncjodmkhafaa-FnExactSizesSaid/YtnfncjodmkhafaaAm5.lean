/-
  The abstract machine, fifth part: each stripped operation comes to what the model's own operation comes to (first half).
-/
import Derived.Test.YtnfncjodmkhafaaAm4
import Derived.Laws.Slices
import Derived.Laws.Strings
set_option linter.all false
set_option linter.unusedSimpArgs false
set_option linter.unusedVariables false
namespace Go.AM
section
variable {P : Program} {env : List Value} {m : Mem} {o : Oper}

/-- A value that is there, memory as it is. -/
theorem ok_here {ρ : Rho} {w : World} {s : Sem Next} {v y : Value} (hr : Rel ρ m w) (hrun : s.run P w = .ok (.value y) w) (hv : VRel ρ v y) :
    ∃ nx v' w' ρ', s.run P w = .ok nx w' ∧ (nx = .value v' ∨ nx = .skip ∧ v' = undef) ∧ ρ.le ρ' ∧ Rel ρ' m w' ∧ VRel ρ' v v' ∧ Ext ρ m w ρ' m w' :=
  ⟨_, y, w, ρ, hrun, .inl rfl, .refl ρ, hr, hv, .refl ρ m w⟩

theorem plain_okC {n : Nat} {v : Value} (h : okK.plain v = true) : okC n v = true := by
  unfold okK.plain at h
  split at h <;> first | rfl | (cases h; done)
theorem plain_one {v : Value} (h : okK.plain v = true) : v.oneCell' = true := by
  unfold okK.plain at h
  split at h <;> first | rfl | (cases h; done)

theorem cells_rel {ρ : Rho} {v v' : Value} (hv : VRel ρ v v') : LRel ρ v.cells.toList v'.cells.toList := by
  cases hv with
  | agg xs ys h1 h2 => exact ⟨h1, h2⟩
  | bool b => exact .cons (.bool b) (.nil ρ)
  | int k n => exact .cons (.int k n) (.nil ρ)
  | float k b b' h => exact .cons (.float k b b' h) (.nil ρ)
  | string s => exact .cons (.string s) (.nil ρ)
  | ptrNil => exact .cons .ptrNil (.nil ρ)
  | ptr b off sp L h => exact .cons (.ptr b off sp L h) (.nil ρ)
  | sliceNil x => exact .cons (.sliceNil x) (.nil ρ)
  | slice b off sp len esz L o' cap' h ho hl hs => exact .cons (.slice b off sp len esz L o' cap' h ho hl hs) (.nil ρ)
  | nilFunc => exact .cons .nilFunc (.nil ρ)
  | nilIface => exact .cons .nilIface (.nil ρ)
  | func fn xs ys us vs h1 h2 h3 h4 => exact .cons (.func fn xs ys us vs h1 h2 h3 h4) (.nil ρ)
  | tuple xs ys h1 h2 => exact .cons (.tuple xs ys h1 h2) (.nil ρ)

theorem okL_all {xs : List Operand} (h : okL xs = true) : ∀ x ∈ xs, okK x = true := by simpa [okL] using h

theorem step_mov {x : Operand} (ho : o.op = .move x ∨ o.op = .assign x) (hx : okK x = true) : OpOk P o env m (.val (evA env x) m) := by
  intro ρ w a hr ha
  exact ok_here hr (by rcases ho with ho | ho <;> simp [execOp, ho]) (eval_rel ha hx)

theorem step_pick {c x y : Operand} {t : Bool} (ho : o.op = .pick c x y) (hc : okK c = true) (hx : okK x = true) (hy : okK y = true) (hb : evA env c = .bool t) :
    OpOk P o env m (.val (if t then evA env x else evA env y) m) := by
  intro ρ w a hr ha
  have hv := eval_rel ha hc
  rw [hb] at hv
  refine ok_here hr (y := if t then a.eval x else a.eval y) ?_ ?_
  · generalize hq : a.eval c = q at hv
    cases hv
    simp [execOp, ho, hq, asBool]
  · cases t
    · exact eval_rel ha hy
    · exact eval_rel ha hx

theorem step_new {t : TypeId} {i : TypeInfo} {z : Value} (esc : Bool) (ho : o.op = .alloc t) (hi : P.info? t = some i) (hz : i.zero = some z) (hp : z.cells.toList.all okK.plain = true) {r : AR}
    (hs : stepA P (.new esc z.cells.toList) env m = some r) : OpOk P o env m r := by
  have hpl : ∀ c ∈ z.cells.toList, okK.plain c = true := List.all_eq_true.1 hp
  have hall : ∀ (ρ : Rho) (j : Nat) (x : Value), z.cells.toList[j]? = some x → ∃ y, z.cells[j]? = some y ∧ VRel ρ x y := fun ρ j x hx =>
    ⟨x, by simpa using hx, .plain (hpl x (List.mem_of_getElem? hx))⟩
  have hrun : ∀ (a : Act) (w : World), (execOp a.eval o).run P w = .ok (.value (.pointer (some ⟨w.heap.size, 0, none⟩))) (w.alloc (.cells z.cells t)) := fun a w => by
    simp [execOp, ho, Instr.alloc, zeroValue, typeInfo, hi, hz, newVar, newRow]
  simp only [stepA] at hs
  split at hs <;> cases hs <;> intro ρ w a hr ha
  · obtain ⟨ρ', h1, h2, h3, h4⟩ := hr.push (xs := z.cells.toList) (cs := z.cells) (e := t) (fr := (0, 0)) (fun c hc => plain_okC (hpl c hc)) (by simp) (by simp) (hall ρ)
    exact ⟨_, _, _, ρ', hrun a w, .inl rfl, h2, h3, .ptr _ _ _ _ h1, h4⟩
  · obtain ⟨ρ', h1, h2, h3, h4⟩ := hr.box (xs := z.cells.toList) (cs := z.cells) (e := t) (fr := (0, 0)) (fun c hc => plain_okC (hpl c hc)) (by simp) (by simp) (hall ρ)
    exact ⟨_, _, _, ρ', hrun a w, .inl rfl, h2, h3, .ptr _ _ _ _ h1, h4⟩

theorem step_box {t : TypeId} {x : Operand} (esc : Bool) (ho : o.op = .box t x) (hx : okK x = true) {r : AR} (hs : stepA P (.box esc x) env m = some r) : OpOk P o env m r := by
  have hrun : ∀ (a : Act) (w : World), (execOp a.eval o).run P w = .ok (.value (.pointer (some ⟨w.heap.size, 0, none⟩))) (w.alloc (.cells (a.eval x).cells t)) := fun a w => by
    simp [execOp, ho, Instr.box, newVar, newRow]
  simp only [stepA] at hs
  split at hs <;> split at hs <;> first | (cases hs; done) | skip
  · rename_i hok
    cases hs
    intro ρ w a hr ha
    have hl := cells_rel (eval_rel ha hx)
    obtain ⟨ρ', h1, h2, h3, h4⟩ := hr.push (xs := (evA env x).cells.toList) (cs := (a.eval x).cells) (e := t) (fr := (0, 0)) (List.all_eq_true.1 hok) (by simp) (by rw [hl.1]; simp)
      (fun j u hu => by obtain ⟨y, hy, hv⟩ := hl.get hu; exact ⟨y, by simpa using hy, hv⟩)
    exact ⟨_, _, _, ρ', hrun a w, .inl rfl, h2, h3, .ptr _ _ _ _ h1, h4⟩
  · rename_i hok
    cases hs
    intro ρ w a hr ha
    have hl := cells_rel (eval_rel ha hx)
    obtain ⟨ρ', h1, h2, h3, h4⟩ := hr.box (xs := (evA env x).cells.toList) (cs := (a.eval x).cells) (e := t) (fr := (0, 0)) (List.all_eq_true.1 hok) (by simp) (by rw [hl.1]; simp)
      (fun j u hu => by obtain ⟨y, hy, hv⟩ := hl.get hu; exact ⟨y, by simpa using hy, hv⟩)
    exact ⟨_, _, _, ρ', hrun a w, .inl rfl, h2, h3, .ptr _ _ _ _ h1, h4⟩

theorem step_load {t : TypeId} {x : Operand} {g : Bool} {i : TypeInfo} (ho : o.op = .load t x) (hx : okK x = true) (hg : isAggT P t = some g) (hi : P.info? t = some i) {r : AR}
    (hs : stepA P (if g then .loadN x i.size else .load x) env m = some r) : OpOk P o env m r := by
  have hu : (P.underlying t).isSome = true := by
    unfold isAggT at hg; cases h : P.underlying t with
    | none => rw [h] at hg; cases hg
    | some d => rfl
  have hagg : resOne.aggB P t = g := by
    unfold isAggT at hg; unfold resOne.aggB
    cases h : P.underlying t with
    | none => rw [h] at hg; cases hg
    | some d => rw [h] at hg; simp only [Option.map_some, Option.some.injEq] at hg; subst hg; cases d <;> rfl
  have hsz : resOne.sizeB P t = i.size := by simp [resOne.sizeB, hi]
  have key : ∀ p v, evA env x = .pointer (some p) → (if resOne.aggB P t then (m.loads p (resOne.sizeB P t)).map fun cs => .agg cs.toArray else m.load p) = some v → OpOk P o env m (.val v m) := by
    intro p v hp hv ρ w a hr ha
    have he := eval_rel ha hx
    rw [hp] at he
    generalize hq : a.eval x = q at he
    cases he with
    | ptr b off sp L hL =>
      obtain ⟨y, hy, hvv⟩ := run_loadVar (p := ⟨b, off, sp⟩) hr hL hu (by simp [hi]) hv
      refine ok_here hr ?_ hvv
      simp only [execOp, ho, hq, Instr.loadAt, Instr.sureAddr, Sem.run_bind, Sem.run_pure, Result.andThen_ok]
      rw [hy]; rfl
  rw [hagg, hsz] at key
  cases g
  · simp only [Bool.false_eq_true, if_false, stepA] at hs key
    split at hs
    · rename_i p hp
      simp only [Option.map_eq_some_iff] at hs
      obtain ⟨v, hv, rfl⟩ := hs
      exact key p v hp hv
    · cases hs
  · simp only [if_true, stepA] at hs key
    split at hs
    · rename_i p hp
      simp only [Option.map_eq_some_iff] at hs
      obtain ⟨cs, hcs, rfl⟩ := hs
      exact key p _ hp (by rw [hcs]; rfl)
    · cases hs

theorem step_store {t : TypeId} {x v : Operand} {i : TypeInfo} (ho : o.op = .store t x v) (hx : okK x = true) (hv : okK v = true) (hi : P.info? t = some i) {r : AR}
    (hs : stepA P (.store i.size x v) env m = some r) : OpOk P o env m r := by
  simp only [stepA] at hs
  split at hs
  · rename_i p hp
    split at hs
    · rename_i hsz
      simp only [Option.map_eq_some_iff] at hs
      obtain ⟨m', hm, rfl⟩ := hs
      intro ρ w a hr ha
      have he := eval_rel ha hx
      rw [hp] at he
      have hc := cells_rel (eval_rel ha hv)
      generalize hq : a.eval x = q at he
      cases he with
      | ptr b off sp L hL =>
        obtain ⟨w', hw, hr', hx'⟩ := run_stores (P := P) _ _ ρ m m' w b off sp L (L.off + off) 0 hr hL hm hc rfl
        refine ⟨.skip, undef, w', ρ, ?_, .inr ⟨rfl, rfl⟩, .refl ρ, hr', .undef ρ, hx'⟩
        have hsz' : (a.eval v).cells.size = i.size := by
          have := hc.1; simp only [Array.length_toList] at this; omega
        simp only [execOp, ho, hq, Instr.storeAt, Instr.sureAddr, storeVar, Sem.run_bind, Sem.run_pure, Result.andThen_ok, run_sizeOf (P := P) (t := t) (by simp [hi])]
        simp only [resOne.sizeB, hi, Option.map_some, Option.getD_some, hsz', ne_eq, not_true, if_false, hw, Result.andThen_ok]
    · cases hs
  · cases hs

theorem step_nilCheck {x : Operand} (ho : o.op = .nilCheck x) (hx : okK x = true) {r : AR} (hs : stepA P (.nilCheck x) env m = some r) : OpOk P o env m r := by
  simp only [stepA] at hs
  split at hs
  · rename_i p hp
    cases hs
    intro ρ w a hr ha
    have he := eval_rel ha hx
    rw [hp] at he
    refine ok_here hr (y := a.eval x) ?_ he
    generalize hq : a.eval x = q at he
    cases he with
    | ptr b off sp L hL => simp [execOp, ho, hq]
  · rename_i f fs cs hp
    cases hs
    intro ρ w a hr ha
    have he := eval_rel ha hx
    rw [hp] at he
    refine ok_here hr (y := a.eval x) ?_ he
    generalize hq : a.eval x = q at he
    cases he with
    | func fn xs ys us vs h1 h2 h3 h4 => simp [execOp, ho, hq]
  · cases hs

theorem step_extract {x : Operand} {i : Nat} (ho : o.op = .extract x i) (hx : okK x = true) {r : AR} (hs : stepA P (.extract x i) env m = some r) : OpOk P o env m r := by
  simp only [stepA] at hs
  split at hs
  · rename_i vs hp
    simp only [Option.map_eq_some_iff] at hs
    obtain ⟨v, hv, rfl⟩ := hs
    intro ρ w a hr ha
    have he := eval_rel ha hx
    rw [hp] at he
    generalize hq : a.eval x = q at he
    cases he with
    | tuple _ ys h1 h2 =>
      obtain ⟨y, hy, hvv⟩ := LRel.get ⟨h1, h2⟩ hv
      refine ok_here hr (y := y) ?_ hvv
      have : ys[i]? = some y := by simpa using hy
      simp [execOp, ho, hq, Instr.extract, this]
  · cases hs

theorem step_fieldAddr {t : TypeId} {x : Operand} {f : Nat} {fs : Array Field} {fd : Field} {i : TypeInfo} (ho : o.op = .fieldAddr t x f) (hx : okK x = true) (hfs : fieldsOf P t = some fs) (hf : fs[f]? = some fd)
    (hi : P.info? fd.type = some i) (hz : ¬ i.size = 0) {r : AR} (hs : stepA P (.fieldAddr x fd.offset) env m = some r) : OpOk P o env m r := by
  have hu : P.underlying t = some (.struct fs) := by
    unfold fieldsOf at hfs
    split at hfs
    · rename_i h; cases hfs; exact h
    · cases hfs
  simp only [stepA] at hs
  split at hs
  · rename_i p hp
    cases hs
    intro ρ w a hr ha
    have he := eval_rel ha hx
    rw [hp] at he
    generalize hq : a.eval x = q at he
    cases he with
    | ptr b off sp L hL =>
      refine ok_here hr (y := .pointer (some ⟨L.blk, L.off + (off + fd.offset), none⟩)) ?_ (.ptr _ _ _ L hL)
      simp only [execOp, ho, hq, Instr.fieldAt, Sem.run_bind, run_underlying hu, Result.andThen_ok, hf, Instr.sureAddr, Sem.run_pure, fieldPlace, run_sizeOf (P := P) (t := fd.type) (by simp [hi])]
      simp [resOne.sizeB, hi, hz, Addr.add_none, Nat.add_assoc]
  · cases hs

theorem step_field {t : TypeId} {x : Operand} {f : Nat} {fs : Array Field} {fd : Field} {g : Bool} {i : TypeInfo} (ho : o.op = .field t x f) (hx : okK x = true) (hfs : fieldsOf P t = some fs) (hf : fs[f]? = some fd)
    (hg : isAggT P fd.type = some g) (hi : P.info? fd.type = some i) {r : AR} (hs : stepA P (.field x fd.offset (if g then some i.size else none)) env m = some r) : OpOk P o env m r := by
  have hu : P.underlying t = some (.struct fs) := by
    unfold fieldsOf at hfs
    split at hfs
    · rename_i h; cases hfs; exact h
    · cases hfs
  have hu2 : (P.underlying fd.type).isSome = true := by
    unfold isAggT at hg; cases h : P.underlying fd.type with
    | none => rw [h] at hg; cases hg
    | some d => rfl
  have hagg : resOne.aggB P fd.type = g := by
    unfold isAggT at hg; unfold resOne.aggB
    cases h : P.underlying fd.type with
    | none => rw [h] at hg; cases hg
    | some d => rw [h] at hg; simp only [Option.map_some, Option.some.injEq] at hg; subst hg; cases d <;> rfl
  have hsz : resOne.sizeB P fd.type = i.size := by simp [resOne.sizeB, hi]
  simp only [stepA] at hs
  split at hs
  · rename_i cs hp
    have base : ∀ (ρ : Rho) (w : World) (a : Act) (ys : Array Value), a.eval x = .agg ys → (execOp a.eval o).run P w = ((part fd.type ys fd.offset).run P w).andThen fun v w' => .ok (.value v) w' := by
      intro ρ w a ys hq
      simp only [execOp, ho, hq, Instr.field, Sem.run_bind, run_underlying hu, Result.andThen_ok, hf, asAgg, Sem.run_pure]
    cases g
    · simp only [Bool.false_eq_true, if_false, Option.map_eq_some_iff] at hs
      obtain ⟨v, hv, rfl⟩ := hs
      intro ρ w a hr ha
      have he := eval_rel ha hx
      rw [hp] at he
      generalize hq : a.eval x = q at he
      cases he with
      | agg _ ys h1 h2 =>
        obtain ⟨y, hy, hvv⟩ := LRel.get ⟨h1, h2⟩ hv
        have hy' : ys[fd.offset]? = some y := by simpa using hy
        refine ok_here hr (y := y) ?_ hvv
        rw [base ρ w a ys hq]
        simp [part, run_isAgg (P := P) hu2, hagg, hy']
    · simp only [if_true] at hs
      split at hs
      · rename_i hlen
        cases hs
        intro ρ w a hr ha
        have he := eval_rel ha hx
        rw [hp] at he
        generalize hq : a.eval x = q at he
        cases he with
        | agg _ ys h1 h2 =>
          refine ok_here hr (y := .agg (ys.extract fd.offset (fd.offset + i.size))) ?_ ?_
          · rw [base ρ w a ys hq]
            simp [part, run_isAgg (P := P) hu2, hagg, run_sizeOf (P := P) (t := fd.type) (by simp [hi]), hsz]
          · have := (LRel.drop ⟨h1, h2⟩ fd.offset).take i.size
            refine .agg _ _ ?_ ?_
            · have := this.1; simp at this ⊢; omega
            · intro j u v hu hv
              refine this.2 j u v (by simpa using hu) ?_
              simpa [Array.toList_extract, List.extract] using hv
      · cases hs
  · cases hs
end
end Go.AM
