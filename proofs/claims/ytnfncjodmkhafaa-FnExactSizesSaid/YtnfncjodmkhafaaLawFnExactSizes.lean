/-
  Proved here: for every input, the law FnExactSizes returns true and leaves its argument as it was; there are no further conditions.
-/
import Derived.Test.YtnfncjodmkhafaaRows
import Derived.Test.YtnfncjodmkhafaaLsz
import Derived.Test.YtnfncjodmkhafaaRd1
import Derived.WalkKit
import Derived.ProofKit
import Derived.OpenShut
import Derived.ShutString
import Derived.ChangeOld
import Derived.Below
import Derived.SizedLaws
import Derived.Carry
set_option linter.all false
set_option linter.unusedSimpArgs false
set_option linter.unusedVariables false
namespace Go.Proofs.Ytnfncjodmkhafaa.fnExactSizes
open Go.ChangeShapes Go.WideShapes Go.ChangeAt Go.RowKit
open Go.ChangeMaps (open_string shut_string)
open Go.AM
theorem own : ownKnob Try.prog.godebug = none := by kernel_rfl
theorem laidOut : laidOutB Try.prog = true := by kernel_rfl
theorem rel0 (w : World) : Rel (fun _ _ => none) ⟨[], []⟩ w := by
  refine ⟨⟨?_, ?_⟩, ?_, ?_, ?_⟩
  · intro b blk h; simp at h
  · intro s c h; simp at h
  · intro b sp c r L _ h; cases h
  · intro b sp b' sp' c c' r r' L L' _ _ h; cases h
  · intro b sp L h; cases h
theorem below_of {ρ ρ' : Rho} {m m' : Mem} {w w' : World} (h : Ext ρ m w ρ' m' w') (hs : m.still) : Below w.heap.size w w' := by
  refine ⟨h.os, h.tape, h.output, h.size, fun k hk => h.old k hk ?_⟩
  rintro ⟨b, sp, c, L, hc, _, _⟩
  have := hs.at hc
  cases this
set_option maxRecDepth 100000 in
theorem lifted (os : Os) (started : os.Started) (H : Type) (enc : TypeId × Value → H) :
    ReturnsInHanded {} Try.checked os 4 .any (Rows.fnExactSizesSpec.pre6 enc Try.prog Try.f4 Rows.fnExactSizesRow.domain false) (Rows.fnExactSizesSpec.post enc Try.prog Try.f4 false true false false) := by
  refine returnsInHanded_of_change_sized (C := Try.checked) own started (by kernel_rfl) Try.func4
    (ChangeSpec.witness6 (enc := enc) (C := Try.checked) false ⟨#[], #[.agg #[.slice none 0 0, .slice none 0 0]], []⟩ 8 (by kernel_rfl) (by kernel_rfl) (by kernel_rfl) (by kernel_rfl)) ?_
  intro W base args ds gs before hval0 hW hcnd hsz0 _
  have hsz : (DataW.weightsEach Try.prog (Try.f4.params.toList ++ Rows.fnExactSizesSpec.plain.varTypes Try.prog) (ds ++ gs)).all (· ≤ reachBytes) = true := hsz0
  have hval : ∀ (j : Nat) t v, Try.f4.params[j]? = some t → args[j]? = some v → Value.okWide Try.prog W .any base t v := hval0
  have hW' := hW
  obtain ⟨p, q, hA0, hV, rfl, hfz, hnd⟩ := hW
  have hA : DataW.TrodAll enc Try.prog W 0 (fun _ => true) true Try.f4.params.toList args.toList ds p := hA0
  rw [Try.params4] at hA hval hsz
  obtain ⟨v0, vs0, d0, ds0, p0, q0, hargs, rfl, rfl, h0, r0⟩ := trodAll_cons hA
  obtain ⟨rfl, rfl, rfl⟩ := trodAll_nil r0
  obtain rfl : args = #[v0] := by cases args; simp_all
  obtain ⟨rfl, rfl⟩ := trodVars_none hV
  have hv := hval 0 34 v0 rfl rfl
  unfold Value.okWide at hv
  rw [Try.underlying34] at hv
  obtain ⟨cs, rfl, _, _⟩ := hv
  have k0 := h0
  have lt0 : ∀ x ∈ p0, x.block < W.heap.size := by obtain ⟨m, hm⟩ := k0; exact DataW.trod_lt m _ _ _ hm
  obtain ⟨fuel, hf⟩ := h0
  obtain ⟨t, hfine, hread⟩ := readTree hf (fun n hn => by
    have := List.all_eq_true.1 hsz n (by simp [DataW.weightsEach, hn])
    simpa using this)
  obtain ⟨ρ, m, acs, _, _, hr, hs, hl, _, ht⟩ := hread _ _ (rel0 W) ⟨by simp, rfl⟩
  have hcall := lawSizes_c hfine ht ρ W #[.agg cs] hr (.cons (by have := VRel.aggL hl; simpa [Value.cells] using this) (.nil ρ))
  refine hcall.mono fun e W' he => ?_
  obtain ⟨x, v, m', ρ', rfl, ⟨_, rfl⟩, _, _, hx, hext⟩ := he
  cases hx
  have bel := below_of hext hs
  clear hA0 hval0 hsz0 hsz
  exact ⟨_, rfl, _, _, _, [], _, [], hW', trodAll_mk1 (shut_bool Try.underlying4 _), (trodAll_cons_mk (Below.trod laidOut (by kernel_rfl) (of_decide_eq_true (by kernel_rfl)) k0 bel lt0) trodAll_mk0), rfl, bel.frame _, fun h => by cases h⟩
theorem over : Rows.fnExactSizesRow.holds Try.pinned (OpenSpec.ofChange Rows.fnExactSizesSpec) :=
  OpenClaim.holds_of_wide 4 Try.f4 rfl rfl rfl rfl rfl rfl rfl ⟨rfl, rfl, rfl, rfl, rfl⟩ rfl rfl rfl rfl rfl (by kernel_rfl) Try.func4 (by kernel_rfl)
    (of_decide_eq_true (by kernel_rfl)) (by unfold Func.isWrapper; first | (rw [if_pos (by decide +kernel)]; kernel_rfl) | (rw [if_neg (by decide +kernel)]; exact ⟨rfl, rfl⟩))
    (fun os started H enc _ => lifted os started H enc)
theorem proved : Rows.FnExactSizesSaid := over
end Go.Proofs.Ytnfncjodmkhafaa.fnExactSizes
namespace Go.Proofs.Ytnfncjodmkhafaa
theorem fnExactSizes_holds : Rows.FnExactSizesSaid := fnExactSizes.proved
#print axioms fnExactSizes_holds
end Go.Proofs.Ytnfncjodmkhafaa
