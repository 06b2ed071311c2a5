/-
  Floats: a word that is written from a number is no NaN.
-/
import Derived.Test.YtnfncjodmkhafaaAm17
set_option linter.all false
set_option linter.unusedSimpArgs false
set_option linter.unusedVariables false
namespace Go.AM
open Ieee
theorem read_word {neg : Bool} {rung : Nat} (h : rung ≤ double.infRung) : (double.read (double.word neg rung)).isNaN = false := by
  have e1 : double.signWeight = 2 ^ 63 := rfl
  have e2 : double.infRung = 2047 * 2 ^ 52 := rfl
  have hr : double.word neg rung % double.signWeight = rung := by
    rw [e2] at h
    unfold Format.word
    rw [e1]
    split <;> omega
  unfold Format.read
  simp only [hr]
  split
  · rfl
  · split
    · rfl
    · rw [if_pos (by omega)]; rfl
theorem read_nearest {neg : Bool} {mag : Nat} {place : Int} : (double.read (double.nearest neg mag place)).isNaN = false := by
  unfold Format.nearest
  split
  · exact read_word (Nat.zero_le _)
  · exact read_word (Nat.min_le_right _ _)
theorem flat1_read {k : FloatKind} {b : Nat} (h : (double.read b).isNaN = false) : flat1 (.float k b) = true := by
  have e1 : double.signWeight = 2 ^ 63 := rfl
  have e2 : double.infRung = 2047 * 2 ^ 52 := rfl
  have e3 : double.binade = 2 ^ 52 := rfl
  have hle : b % 2 ^ 63 ≤ 2047 * 2 ^ 52 := by
    unfold Format.read at h
    rw [e1, e2, e3] at h
    dsimp only at h
    split at h
    · omega
    · split at h
      · omega
      · split at h
        · omega
        · cases h
  simp only [flat1, Bool.not_eq_true', Bool.and_eq_false_iff, beq_eq_false_iff_ne, bne_eq_false_iff_eq]
  omega
theorem div_some {x y : Nat} {t : Bool} {n : Nat} {j : Int} (hx : (double.read x).isNaN = false) (hy : double.read y = .number t n j) (hn : n ≠ 0) : ∃ r, double.div x y = some r := by
  unfold Format.div
  rw [hy]
  cases hd : double.read x with
  | nan a b => rw [hd] at hx; cases hx
  | infinity s => exact ⟨_, rfl⟩
  | number s m i =>
    simp only [Datum.quotient, if_neg hn]
    exact ⟨_, rfl⟩
section
variable {P : Program} {t : TypeId} {x y : Operand} {a b r : Nat}
theorem bin_mulF (ha : flat1 (.float .f64 a) = true) (hb : flat1 (.float .f64 b) = true) (h : double.mul a b = some r) : binA P .mul t x y (.float .f64 a) (.float .f64 b) = some (.float .f64 r) := by
  have h' : FloatKind.f64.format.mul a b = some r := h
  simp only [binA, flat, ha, hb, Bool.and_self, if_true, eqGuard_at_float, binOp, Op.floatArith]
  simp [h', pureRun, plainOnly, okK.plain, bind, Sem.bind, pure]
theorem bin_quoF (ha : flat1 (.float .f64 a) = true) (hb : flat1 (.float .f64 b) = true) (h : double.div a b = some r) : binA P .quo t x y (.float .f64 a) (.float .f64 b) = some (.float .f64 r) := by
  have h' : FloatKind.f64.format.div a b = some r := h
  simp only [binA, flat, ha, hb, Bool.and_self, if_true, eqGuard_at_float, binOp, Op.floatArith]
  simp [h', pureRun, plainOnly, okK.plain, bind, Sem.bind, pure]
end
theorem convF {P : Program} {src dst : TypeId} {n : Int} {k : IntKind} (h1 : P.underlying src = some (.int k)) (h2 : P.underlying dst = some (.float .f64)) :
    plainOnly (pureRun P (convert src dst (.int k n))) = some (.float .f64 (FloatKind.f64.nearest n)) := by
  simp [convert, underlying, program, h1, h2, pureRun, Conv.intToFloat, plainOnly, okK.plain, bind, Sem.bind, pure]
theorem nearest_ok {n : Int} : (double.read (FloatKind.f64.nearest n)).isNaN = false := read_nearest
end Go.AM
