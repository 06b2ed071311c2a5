/-
  Plain laws: the two ways to tell a real number's text agree; the two ways to tell what a node has agree.
-/
import Derived.Test.YtnfncjodmkhafaaTs2
set_option linter.all false
set_option linter.unusedSimpArgs false
set_option linter.unusedVariables false
namespace Go.AM
theorem bytes_extract (s : ByteArray) (i j : Nat) (h : j ≤ s.size) : (s.extract i j).data.toList = (s.data.toList.drop i).take (j - i) := by
  simp [ByteArray.data_extract, Array.toList_extract, List.extract_eq_take_drop]
theorem runP_drop {p : UInt8 → Bool} {l : List UInt8} {a : Nat} : runP p l a = a + runP p (l.drop a) 0 := by simp [runP]
theorem takeWhile_take {p : UInt8 → Bool} {l : List UInt8} : ((l.take (l.takeWhile p).length).takeWhile p).length = (l.takeWhile p).length := by
  induction l with
  | nil => rfl
  | cons x l ih =>
    by_cases h : p x = true
    · simp [h, ih]
    · simp [h]
theorem runP_all {p : UInt8 → Bool} {l : List UInt8} : runP p (l.take (runP p l 0)) 0 = runP p l 0 := by
  simp only [runP, Nat.zero_add, List.drop_zero]
  exact takeWhile_take
theorem get46 {l : List UInt8} {a : Nat} {c : UInt8} : decide (l[a]? = some c) = (decide (a < l.length) && decide (bt l a = c.toNat)) := by
  by_cases h : a < l.length
  · rw [List.getElem?_eq_getElem h, ← bt_get h, decide_eq_true h, Bool.true_and]
    apply decide_eq_decide.2
    rw [Option.some.injEq, ← UInt8.toNat_inj]
    omega
  · rw [List.getElem?_eq_none (by omega), decide_eq_false h]; simp
theorem realOk_same (s : ByteArray) : realOkP s = specRealOkP s := by
  have hlen : s.data.toList.length = s.size := Array.length_toList
  have hle := runP_le (p := isDigitP) (l := s.data.toList) (a := 0) (Nat.zero_le _)
  unfold realOkP specRealOkP specHeadP plainP wholeP partP
  have e1 : (s.extract 0 (runP isDigitP s.data.toList 0)).data.toList = s.data.toList.take (runP isDigitP s.data.toList 0) := by
    rw [bytes_extract _ _ _ (by omega)]; simp
  have e2 : (s.extract (runP isDigitP s.data.toList 0 + 1) s.size).data.toList = s.data.toList.drop (runP isDigitP s.data.toList 0 + 1) := by
    rw [bytes_extract _ _ _ (Nat.le_refl _), List.take_of_length_le (by simp)]
  have e3 : (s.extract 0 (runP isDigitP s.data.toList 0)).size = runP isDigitP s.data.toList 0 := by rw [ByteArray.size_extract]; omega
  have e4 : (s.extract (runP isDigitP s.data.toList 0 + 1) s.size).size = s.size - (runP isDigitP s.data.toList 0 + 1) := by rw [ByteArray.size_extract]; omega
  have e5 := runP_drop (p := isDigitP) (l := s.data.toList) (a := runP isDigitP s.data.toList 0 + 1)
  rw [e1, e2, e3, e4, runP_all, get46]
  generalize runP isDigitP (s.data.toList.drop (runP isDigitP s.data.toList 0 + 1)) 0 = c at *
  rw [e5]
  generalize ha : runP isDigitP s.data.toList 0 = a at *
  by_cases h1 : a < s.size
  · by_cases h0 : 0 < a
    · have hb0 : (s.data.toList.take a)[0]? = some s.data.toList[0] := by rw [List.getElem?_take_of_lt h0, List.getElem?_eq_getElem (by omega)]
      have e6 : decide ((s.data.toList.take a)[0]? ≠ some 48) = !decide (bt s.data.toList 0 = 48) := by
        have := get46 (l := s.data.toList.take a) (a := 0) (c := 48)
        have e7 : bt (s.data.toList.take a) 0 = bt s.data.toList 0 := (bt_get? hb0).trans (bt_get _)
        rw [e7] at this
        rw [show decide ((s.data.toList.take a)[0]? ≠ some 48) = !decide ((s.data.toList.take a)[0]? = some 48) by simp, this]
        have : (s.data.toList.take a).length = a := by simp; omega
        rw [this, decide_eq_true h0]; rfl
      rw [e6, show ((46 : UInt8).toNat : Int) = 46 from rfl]
      generalize decide (bt s.data.toList 0 = 48) = x
      generalize decide (bt s.data.toList a = 46) = y
      rw [Bool.eq_iff_iff]
      simp only [Bool.and_eq_true, Bool.or_eq_true, Bool.not_eq_true', Bool.and_eq_false_iff, decide_eq_true_eq, decide_eq_false_iff_not]
      cases x <;> cases y <;> simp <;> omega
    · have : a = 0 := by omega
      subst this
      simp
  · rw [decide_eq_false (by omega : ¬ a < s.data.toList.length), Bool.false_and, Bool.false_and]
    symm
    rw [Bool.and_eq_false_iff]
    left
    simp
    intros
    omega
theorem has_same (n : PNode) : hasP n = (textOkP n && numberOkP n) := by
  have hd : ∀ k : Int, hasName k → ¬ k = 2 := fun k h => by unfold hasName at h; omega
  have hnum : numHasP n = numberOkP n := by
    unfold numHasP numberOkP
    repeat' split
    all_goals first | rfl | skip
    rw [Bool.eq_iff_iff]; simp; omega
  unfold hasP hasQ textOkP
  rw [← realOk_same, hnum]
  by_cases hn : hasName n.kind
  · have h2 := hd _ hn
    simp [hn, h2]
  · by_cases h2 : n.kind = 2
    · have : numberOkP n = decide (n.i = 0) := by unfold numberOkP; simp [h2]
      rw [this]; simp [h2, hasName]
    · simp [hn, h2]
end Go.AM
