/-
  The abstract machine, sixth part: the operations (second half).
-/
import Derived.Test.YtnfncjodmkhafaaAm5
import Derived.Laws.AppendOwn
set_option linter.all false
set_option linter.unusedSimpArgs false
set_option linter.unusedVariables false
namespace Go.AM
section
variable {P : Program} {env : List Value} {m : Mem} {o : Oper}

theorem step_bin {op : BinOp} {t t' : TypeId} {x y : Operand} (ho : o.op = .binOp op t x y t') (hx : okK x = true) (hy : okK y = true) {r : AR} (hs : stepA P (.bin op t x y) env m = some r) : OpOk P o env m r := by
  simp only [stepA, Option.map_eq_some_iff] at hs
  obtain ⟨v, hv, rfl⟩ := hs
  unfold binA at hv
  split at hv
  · rename_i hf
    simp only [Bool.and_eq_true] at hf
    obtain ⟨hv, hp⟩ := plainOnly_some hv
    intro ρ w a hr ha
    have e1 := flat_eq hf.1 (eval_rel ha hx)
    have e2 := flat_eq hf.2 (eval_rel ha hy)
    have hrun := pureRun_sound _ _ hv w
    refine ok_here hr (y := v) ?_ (.plain hp)
    simp only [execOp, ho, e1, e2]
    simp only [Sem.run_bind] at hrun ⊢
    rw [hrun]; rfl
  · cases hv

theorem step_convP {src dst : TypeId} {x : Operand} (ho : o.op = .convert src dst x) (hx : okK x = true) {r : AR} (hs : stepA P (.convP src dst x) env m = some r) : OpOk P o env m r := by
  simp only [stepA] at hs
  split at hs
  · rename_i hf
    simp only [Option.map_eq_some_iff] at hs
    obtain ⟨v, hv, rfl⟩ := hs
    obtain ⟨hv, hp⟩ := plainOnly_some hv
    intro ρ w a hr ha
    have e1 := flat_eq hf (eval_rel ha hx)
    have hrun := pureRun_sound _ _ hv w
    refine ok_here hr (y := v) ?_ (.plain hp)
    simp only [execOp, ho, e1, Sem.run_bind]
    rw [hrun]; rfl
  · cases hs

theorem step_convI {src dst : TypeId} {x : Operand} {k k' : IntKind} (ho : o.op = .convert src dst x) (hx : okK x = true) (h1 : P.underlying src = some (.int k')) (h2 : P.underlying dst = some (.int k)) {r : AR}
    (hs : stepA P (.convI k x) env m = some r) : OpOk P o env m r := by
  simp only [stepA, Option.map_eq_some_iff] at hs
  obtain ⟨n, hn, rfl⟩ := hs
  unfold intOf at hn
  split at hn
  · rename_i k0 n0 hx0
    cases hn
    intro ρ w a hr ha
    have he := eval_rel ha hx
    rw [hx0] at he
    refine ok_here hr (y := .int k (k.wrap n)) ?_ (.int _ _)
    generalize hq : a.eval x = q at he
    cases he
    simp only [execOp, ho, hq, convert, Sem.run_bind, run_underlying h1, run_underlying h2, Result.andThen_ok]
    rfl
  · cases hn

theorem step_un {op : UnOp} {t : TypeId} {x : Operand} (ho : o.op = .unOp op t x) (hx : okK x = true) {r : AR} (hs : stepA P (.un op x) env m = some r) : OpOk P o env m r := by
  simp only [stepA, Option.map_eq_some_iff] at hs
  obtain ⟨v, hv, rfl⟩ := hs
  unfold unA at hv
  split at hv
  · rename_i k n hx0
    cases hv
    intro ρ w a hr ha
    have he := eval_rel ha hx
    rw [hx0] at he
    refine ok_here hr (y := .int k (k.wrap (0 - n))) ?_ (.int _ _)
    generalize hq : a.eval x = q at he
    cases he
    simp [execOp, ho, hq, Op.unary, Op.intArith]
  · rename_i b hx0
    cases hv
    intro ρ w a hr ha
    have he := eval_rel ha hx
    rw [hx0] at he
    refine ok_here hr (y := .bool !b) ?_ (.bool _)
    generalize hq : a.eval x = q at he
    cases he
    simp [execOp, ho, hq, Op.unary]
  · cases hv

section
variable {t : TypeId} {w : World} {d : Nat}
theorem equalIn_ptr {e : TypeId} (he : P.underlying t = some (.pointer e)) (b : Option Addr) : (Op.equalIn (d + 1) t (.pointer none) (.pointer b)).run P w = .ok b.isNone w := by
  unfold Op.equalIn; simp only [Sem.run_bind, run_underlying he, Result.andThen_ok]; rfl
theorem equalIn_ptr' {e : TypeId} (he : P.underlying t = some (.pointer e)) (b : Addr) : (Op.equalIn (d + 1) t (.pointer (some b)) (.pointer none)).run P w = .ok false w := by
  unfold Op.equalIn; simp only [Sem.run_bind, run_underlying he, Result.andThen_ok]; rfl
theorem equalIn_sl {e : TypeId} (he : P.underlying t = some (.slice e)) (b : Option Addr) (n c n' c' : Nat) : (Op.equalIn (d + 1) t (.slice none n c) (.slice b n' c')).run P w = .ok b.isNone w := by
  unfold Op.equalIn; simp only [Sem.run_bind, run_underlying he, Result.andThen_ok]; rfl
theorem equalIn_sl' {e : TypeId} (he : P.underlying t = some (.slice e)) (b : Addr) (n c n' c' : Nat) : (Op.equalIn (d + 1) t (.slice (some b) n c) (.slice none n' c')).run P w = .ok false w := by
  unfold Op.equalIn; simp only [Sem.run_bind, run_underlying he, Result.andThen_ok]; rfl
theorem equalIn_fn {x y : Array TypeId} {z : Bool} (he : P.underlying t = some (.func x y z)) : (Op.equalIn (d + 1) t .nilFunc .nilFunc).run P w = .ok true w := by
  unfold Op.equalIn; simp only [Sem.run_bind, run_underlying he, Result.andThen_ok]; rfl
theorem equalIn_fn' {x y : Array TypeId} {z : Bool} (he : P.underlying t = some (.func x y z)) (f : Fn) (a c : Array Value) : (Op.equalIn (d + 1) t .nilFunc (.func f a c)).run P w = .ok false w := by
  unfold Op.equalIn; simp only [Sem.run_bind, run_underlying he, Result.andThen_ok]; rfl
theorem equalIn_fn'' {x y : Array TypeId} {z : Bool} (he : P.underlying t = some (.func x y z)) (f : Fn) (a c : Array Value) : (Op.equalIn (d + 1) t (.func f a c) .nilFunc).run P w = .ok false w := by
  unfold Op.equalIn; simp only [Sem.run_bind, run_underlying he, Result.andThen_ok]; rfl
end

theorem equal_nil {kd : Nat} {t : TypeId} {vx vy u v : Value} {b : Bool} {ρ : Rho} (ht : (kd = 0 ∧ ∃ e, P.underlying t = some (.pointer e)) ∨ (kd = 1 ∧ ∃ e, P.underlying t = some (.slice e)) ∨ (kd = 2 ∧ ∃ a b c, P.underlying t = some (.func a b c)))
    (hb : isNilA kd vx vy = some b) (hvx : VRel ρ vx u) (hvy : VRel ρ vy v) (w : World) :
    (Op.equal t u v).run P w = .ok b w ∧ (∀ op x y, (eqGuard op t x y u v).run P w = .ok () w) ∧ binOp .eql t u v = (do pure (.bool (← Op.equal t u v))) ∧ binOp .neq t u v = (do pure (.bool (!(← Op.equal t u v)))) := by
  have hmax : ∀ u v, Op.equal t u v = Op.equalIn (9999 + 1) t u v := fun _ _ => rfl
  have guard : ∀ op x y, (¬ u = .nilIface) → (∀ z, ¬ u = .agg z) → (eqGuard op t x y u v).run P w = .ok () w := by
    intro op x y h1 h2
    unfold eqGuard
    cases u <;> first | (exact absurd rfl h1) | (exact absurd rfl (h2 _)) | (cases op <;> rfl)
  rw [hmax]
  unfold isNilA at hb
  split at hb
  · have he := (show ∃ e, P.underlying t = some (.pointer e) by rcases ht with ⟨_, h⟩ | ⟨h, _⟩ | ⟨h, _⟩ <;> first | exact h | cases h)
    obtain ⟨e, he⟩ := he
    cases hb; cases hvx; cases hvy <;> exact ⟨equalIn_ptr he _, fun op x y => guard op x y (by simp) (by simp), rfl, rfl⟩
  · have he := (show ∃ e, P.underlying t = some (.pointer e) by rcases ht with ⟨_, h⟩ | ⟨h, _⟩ | ⟨h, _⟩ <;> first | exact h | cases h)
    obtain ⟨e, he⟩ := he
    cases hb; cases hvx; cases hvy; exact ⟨equalIn_ptr' he _, fun op x y => guard op x y (by simp) (by simp), rfl, rfl⟩
  · have he := (show ∃ a b c, P.underlying t = some (.func a b c) by rcases ht with ⟨h, _⟩ | ⟨h, _⟩ | ⟨_, h⟩ <;> first | exact h | cases h)
    obtain ⟨_, _, _, he⟩ := he
    cases hb; cases hvx; cases hvy; exact ⟨equalIn_fn he, fun op x y => guard op x y (by simp) (by simp), rfl, rfl⟩
  · have he := (show ∃ a b c, P.underlying t = some (.func a b c) by rcases ht with ⟨h, _⟩ | ⟨h, _⟩ | ⟨_, h⟩ <;> first | exact h | cases h)
    obtain ⟨_, _, _, he⟩ := he
    cases hb; cases hvx; cases hvy; exact ⟨equalIn_fn' he _ _ _, fun op x y => guard op x y (by simp) (by simp), rfl, rfl⟩
  · have he := (show ∃ a b c, P.underlying t = some (.func a b c) by rcases ht with ⟨h, _⟩ | ⟨h, _⟩ | ⟨_, h⟩ <;> first | exact h | cases h)
    obtain ⟨_, _, _, he⟩ := he
    cases hb; cases hvx; cases hvy; exact ⟨equalIn_fn'' he _ _ _, fun op x y => guard op x y (by simp) (by simp), rfl, rfl⟩
  · cases hb

theorem step_isNil {kd : Nat} {op : BinOp} {neg : Bool} {t t' : TypeId} {x y : Operand} (ho : o.op = .binOp op t x y t') (hx : okK x = true) (hy : okK y = true)
    (hop : op = (if neg then .neq else .eql)) (ht : (kd = 0 ∧ ∃ e, P.underlying t = some (.pointer e)) ∨ (kd = 1 ∧ ∃ e, P.underlying t = some (.slice e)) ∨ (kd = 2 ∧ ∃ a b c, P.underlying t = some (.func a b c)))
    {r : AR} (hs : stepA P (.isNil kd neg x y) env m = some r) : OpOk P o env m r := by
  simp only [stepA, Option.map_eq_some_iff] at hs
  obtain ⟨b, hb, rfl⟩ := hs
  intro ρ w a hr ha
  obtain ⟨h1, h2, h3, h4⟩ := equal_nil ht hb (eval_rel ha hx) (eval_rel ha hy) w
  refine ok_here hr (y := .bool (b != neg)) ?_ (.bool _)
  simp only [execOp, ho, Sem.run_bind, h2, Result.andThen_ok]
  cases neg
  · simp only [Bool.false_eq_true, if_false] at hop
    subst hop
    rw [h3]
    simp [h1]
  · simp only [if_true] at hop
    subst hop
    rw [h4]
    simp [h1]

theorem sliceOf_spec {t e : TypeId} (h : sliceOf P t = some e) : P.underlying t = some (.slice e) := by
  unfold sliceOf at h
  split at h
  · rename_i h'; cases h; exact h'
  · cases h

theorem step_idxSl {t e : TypeId} {x i : Operand} {j : TypeInfo} (ho : o.op = .indexAddr t x i) (hx : okK x = true) (hi : okK i = true) (he : sliceOf P t = some e) (hj : P.info? e = some j) {r : AR}
    (hs : stepA P (.idxSl x i j.size) env m = some r) : OpOk P o env m r := by
  have hu := sliceOf_spec he
  simp only [stepA] at hs
  split at hs
  · rename_i p len esz k n hp hn
    split at hs
    · rename_i hc
      obtain ⟨h0, h1, h2⟩ := hc
      cases hs
      intro ρ w a hr ha
      have e1 := eval_rel ha hx
      have e2 := eval_rel ha hi
      rw [hp] at e1; rw [hn] at e2
      generalize hq : a.eval x = q at e1
      generalize hq2 : a.eval i = q2 at e2
      cases e2
      cases e1 with
      | slice b off sp _ _ L o' cap' hL ho' hl hsz =>
        have hpos : o' = L.off + off := ho' (by omega)
        subst hpos
        refine ok_here hr (y := .pointer (some ⟨L.blk, L.off + (off + n.toNat * j.size), none⟩)) ?_ (.ptr _ _ _ L hL)
        simp only [execOp, ho, hq, hq2, Instr.indexAt, Sem.run_bind, asIntOf, Sem.run_pure, Result.andThen_ok, run_underlying hu]
        simp [h0, h1, sizeOf, typeInfo, hj, Addr.add_none, Nat.add_assoc]
    · cases hs
  · cases hs

theorem step_idxStr {t : TypeId} {x i : Operand} (ho : o.op = .index t x i) (hx : okK x = true) (hi : okK i = true) (hu : P.underlying t = some .string) {r : AR}
    (hs : stepA P (.idxStr x i) env m = some r) : OpOk P o env m r := by
  simp only [stepA] at hs
  split at hs
  · rename_i s k n hp hn
    split at hs
    · rename_i h0
      simp only [Option.map_eq_some_iff] at hs
      obtain ⟨b, hb, rfl⟩ := hs
      intro ρ w a hr ha
      have e1 := eval_rel ha hx
      have e2 := eval_rel ha hi
      rw [hp] at e1; rw [hn] at e2
      generalize hq : a.eval x = q at e1
      generalize hq2 : a.eval i = q2 at e2
      cases e2
      cases e1
      have hlt : n.toNat < s.size := by
        have h' := (List.getElem?_eq_some_iff.1 hb).1
        rw [Array.length_toList] at h'
        exact h'
      have hcond : 0 ≤ n ∧ n < (s.size : Int) := ⟨h0, by omega⟩
      have hrun : (Instr.index t (.string s) (.int k n)).run P w = .ok (.int .u8 b.toNat) w := by
        rw [run_index_string w t s k n hu, dif_pos hcond]
        have := (List.getElem?_eq_some_iff.1 hb).2
        rw [← this]; rfl
      refine ok_here hr (y := .int .u8 b.toNat) ?_ (.int _ _)
      simp only [execOp, ho, hq, hq2, Sem.run_bind]
      rw [hrun]; rfl
    · cases hs
  · cases hs

theorem step_fn {f : FuncId} {first cap : Array Operand} (ho : o.op = .makeFunc (.func f) first cap) (h1 : ∀ x ∈ first.toList, okK x = true) (h2 : ∀ x ∈ cap.toList, okK x = true) {r : AR}
    (hs : stepA P (.fn f first.toList cap.toList) env m = some r) : OpOk P o env m r := by
  simp only [stepA, Option.some.injEq] at hs
  subst hs
  intro ρ w a hr ha
  have hmap : ∀ l : List Operand, (∀ x ∈ l, okK x = true) → LRel ρ (l.map (evA env)) (l.map a.eval) := by
    intro l hl
    refine .of_get (by simp) fun i x hx => ?_
    simp only [List.getElem?_map, Option.map_eq_some_iff] at hx ⊢
    obtain ⟨y, hy, rfl⟩ := hx
    exact ⟨_, ⟨y, hy, rfl⟩, eval_rel ha (hl y (List.mem_of_getElem? hy))⟩
  have m1 := hmap _ h1
  have m2 := hmap _ h2
  refine ok_here hr (y := .func (.func f) (first.map a.eval) (cap.map a.eval)) ?_ (.func _ _ _ _ _ ?_ ?_ ?_ ?_)
  · simp [execOp, ho, Instr.makeFunc]
  · simp
  · intro i x y hx hy; exact m1.2 i x y (by simpa using hx) (by simpa using hy)
  · simp
  · intro i x y hx hy; exact m2.2 i x y (by simpa using hx) (by simpa using hy)

theorem step_lenStr {t : TypeId} {x : Operand} {c : Call} (ho : o.op = .call c) (hc : c = { callee := .builtin .len, args := #[x], argTypes := #[t] }) (hx : okK x = true)
    (ht : P.underlying t = some .string) {r : AR} (hs : stepA P (.lenStr x) env m = some r) : OpOk P o env m r := by
  subst hc
  simp only [stepA] at hs
  split at hs
  · rename_i s hp
    cases hs
    intro ρ w a hr ha
    have e1 := eval_rel ha hx
    rw [hp] at e1
    generalize hq : a.eval x = q at e1
    cases e1
    refine ok_here hr (y := .int .i64 s.size) ?_ (.int _ _)
    simp only [execOp, ho, resolve, List.map_toArray, List.map_cons, List.map_nil, hq, Sem.run_bind, Sem.run_pure, Result.andThen_ok, invoke, builtin, Builtin.len_]
    simp [run_underlying ht, goInt]
  · cases hs

theorem step_lenSl {t e : TypeId} {x : Operand} {c : Call} (ho : o.op = .call c) (hc : c = { callee := .builtin .len, args := #[x], argTypes := #[t] }) (hx : okK x = true)
    (ht : P.underlying t = some (.slice e)) {r : AR} (hs : stepA P (.lenSl x) env m = some r) : OpOk P o env m r := by
  subst hc
  simp only [stepA] at hs
  split at hs
  · rename_i p n cap hp
    cases hs
    intro ρ w a hr ha
    have e1 := eval_rel ha hx
    rw [hp] at e1
    generalize hq : a.eval x = q at e1
    refine ok_here hr (y := .int .i64 n) ?_ (.int _ _)
    cases e1 <;>
    · simp only [execOp, ho, resolve, List.map_toArray, List.map_cons, List.map_nil, hq, Sem.run_bind, Sem.run_pure, Result.andThen_ok, invoke, builtin, Builtin.len_]
      simp [run_underlying ht, goInt]
  · cases hs

theorem step_call {f : Operand} {c : Call} (ho : o.op = .call c) (hc : c.callee = .value f) (hf : okK f = true) (ha' : ∀ x ∈ c.args.toList, okK x = true) {r : AR}
    (hs : stepA P (.call f c.args.toList) env m = some r) : OpOk P o env m r := by
  simp only [stepA] at hs
  split at hs
  · rename_i g first cap hp
    split at hs
    · rename_i hen
      cases hs
      intro ρ w a hr ha
      have e1 := eval_rel ha hf
      rw [hp] at e1
      have hmap : LRel ρ (c.args.toList.map (evA env)) (c.args.toList.map a.eval) := by
        refine .of_get (by simp) fun i x hx => ?_
        simp only [List.getElem?_map, Option.map_eq_some_iff] at hx ⊢
        obtain ⟨y, hy, rfl⟩ := hx
        exact ⟨_, ⟨y, hy, rfl⟩, eval_rel ha (ha' y (List.mem_of_getElem? hy))⟩
      generalize hq : a.eval f = q at e1
      cases e1 with
      | func _ xs ys us vs h1 h2 h3 h4 =>
        unfold enters at hen
        split at hen
        · rename_i fn hfn
          simp only [Bool.and_eq_true, bne_iff_ne, ne_eq] at hen
          refine ⟨ys ++ c.args.map a.eval ++ vs, w, ρ, ?_, .refl ρ, hr, ?_, .refl ρ m w⟩
          · simp only [execOp, ho, resolve, hc, hq, Deferred.ofValue, Sem.run_bind, Sem.run_pure, Result.andThen_ok, invoke, callFunc, run_program, hfn]
            obtain ⟨b, hb⟩ := Option.isSome_iff_exists.1 hen.1
            simp [hen.2, hb]
          · simp only [Array.toList_append, Array.toList_map]
            exact (LRel.append (LRel.append ⟨h1, h2⟩ hmap) ⟨h3, h4⟩)
        · cases hen
    · cases hs
  · cases hs
end
end Go.AM
