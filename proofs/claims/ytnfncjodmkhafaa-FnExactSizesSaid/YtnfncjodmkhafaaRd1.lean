/-
  What comes in: trees are read.
-/
import Derived.Test.YtnfncjodmkhafaaAm20
import Derived.Test.YtnfncjodmkhafaaEx1
set_option linter.all false
set_option linter.unusedSimpArgs false
set_option linter.unusedVariables false
namespace Go.AM
open Go.Proofs
theorem list2 {α : Type} {l : List α} (h : l.length = 2) : ∃ a b, l = [a, b] := by
  match l, h with
  | [a, b], _ => exact ⟨a, b, rfl⟩
theorem list4 {α : Type} {l : List α} (h : l.length = 4) : ∃ a b c d, l = [a, b, c, d] := by
  match l, h with
  | [a, b, c, d], _ => exact ⟨a, b, c, d, rfl⟩
section
variable {H : Type} {enc : TypeId × Value → H} {w : World}
theorem readInts {fuel : Nat} {cs : List Value} {d : DataW H} {ps : List MemPlace} (h : DataW.trod enc Try.prog w 0 (fun _ => true) true fuel 25 cs = some (d, ps)) (hw : ∀ n ∈ d.weights Try.prog 25, n ≤ reachBytes) :
    ∃ l : List Int, l.length < 2 ^ 48 ∧ CanRead w cs (fun m acs => ∃ v, acs = [v] ∧ Ints m v l) := by
  have hc : Try.prog.cellsOf 3 = 1 := by kernel_rfl
  obtain ⟨l, h1, _, h3⟩ := read_slice (R := isI) (F := fun _ => True) (t := 25) (e := 3) (fun _ _ _ _ _ h => h) Try.underlying25 (by rw [hc]; omega) (of_decide_eq_true (by kernel_rfl))
    (fun fuel cs d ps h _ => by
      obtain ⟨n, rfl, _, _⟩ := DataW.trod_int Try.underlying3 h
      exact ⟨n, trivial, read_int⟩) h hw
  rw [hc] at h3
  exact ⟨l, h1, h3⟩
theorem readNode {fuel : Nat} {cs : List Value} {d : DataW H} {ps : List MemPlace} (h : DataW.trod enc Try.prog w 0 (fun _ => true) true fuel 121 cs = some (d, ps)) (hw : ∀ n ∈ d.weights Try.prog 121, n ≤ reachBytes) :
    ∃ x : PNode, x.size < 2 ^ 61 ∧ CanRead w cs (fun m acs => isNode m acs x) := by
  obtain ⟨xs, n, _, hx, hl, hxl, hf⟩ := DataW.trod_struct Try.underlying121 h
  have hc : Try.prog.cellsOf 121 = 4 := by kernel_rfl
  rw [hc] at hl
  have c1 : Try.prog.cellsOf 3 = 1 := by kernel_rfl
  have c2 : Try.prog.cellsOf 9 = 1 := by kernel_rfl
  have c3 : Try.prog.cellsOf 25 = 1 := by kernel_rfl
  obtain ⟨y0, y1, y2, y3, rfl⟩ := list4 (hxl.trans rfl)
  obtain ⟨v0, v1, v2, v3, rfl⟩ := list4 hl
  have f0 : DataW.trod enc Try.prog w 0 (fun _ => true) true n 3 (List.take (Try.prog.cellsOf 3) (List.drop 0 [v0, v1, v2, v3])) = some y0 := hf 0 _ rfl
  rw [c1] at f0
  have f1 : DataW.trod enc Try.prog w 0 (fun _ => true) true n 9 (List.take (Try.prog.cellsOf 9) (List.drop 1 [v0, v1, v2, v3])) = some y1 := hf 1 _ rfl
  rw [c2] at f1
  have f2 : DataW.trod enc Try.prog w 0 (fun _ => true) true n 3 (List.take (Try.prog.cellsOf 3) (List.drop 2 [v0, v1, v2, v3])) = some y2 := hf 2 _ rfl
  rw [c1] at f2
  have f3 : DataW.trod enc Try.prog w 0 (fun _ => true) true n 25 (List.take (Try.prog.cellsOf 25) (List.drop 3 [v0, v1, v2, v3])) = some y3 := hf 3 _ rfl
  rw [c3] at f3
  cases hx
  simp only [DataW.weights, Try.underlying121, List.map_cons, List.map_nil, DataW.weightsEach, List.append_nil, List.mem_append] at hw
  have hr := reachBytes_lt
  obtain ⟨n0, e0, _⟩ := DataW.trod_int Try.underlying3 f0
  obtain ⟨s1, e1, z1, _⟩ := DataW.trod_string Try.underlying9 f1
  obtain ⟨n2, e2, _⟩ := DataW.trod_int Try.underlying3 f2
  cases e0; cases e1; cases e2
  obtain ⟨l, l1, l2⟩ := readInts (d := y3.1) (ps := y3.2) f3 (fun k hk => hw k (by simp [hk]))
  have hs : s1.size < 2 ^ 47 := by
    have : s1.data.toList.length ≤ reachBytes := hw _ (by rw [z1]; simp [DataW.weights])
    rw [Array.length_toList] at this
    have e : s1.size = s1.data.size := rfl
    omega
  have hsz : s1.size + l.length < 2 ^ 61 := by omega
  refine ⟨⟨n0, s1, n2, l⟩, hsz, ?_⟩
  refine (read_app read_int (read_app read_str (read_app read_int l2 (fun _ _ _ _ h => h)) (fun _ _ _ _ h => h)) (fun _ _ _ _ h => h)).mono ?_
  rintro m acs - ⟨a1, a2, rfl, -, rfl, a3, a4, rfl, -, rfl, a5, a6, rfl, -, rfl, v, rfl, hv⟩
  exact ⟨v, rfl, hv⟩
theorem readTree {fuel : Nat} {cs : List Value} {d : DataW H} {ps : List MemPlace} (h : DataW.trod enc Try.prog w 0 (fun _ => true) true fuel 34 cs = some (d, ps)) (hw : ∀ n ∈ d.weights Try.prog 34, n ≤ reachBytes) :
    ∃ x : PTree, x.fine ∧ CanRead w cs (fun m acs => isTree m acs x) := by
  obtain ⟨xs, n, _, hx, hl, hxl, hf⟩ := DataW.trod_struct Try.underlying34 h
  have hc : Try.prog.cellsOf 34 = 2 := by kernel_rfl
  rw [hc] at hl
  have c1 : Try.prog.cellsOf 32 = 1 := by kernel_rfl
  have c3 : Try.prog.cellsOf 25 = 1 := by kernel_rfl
  have c4 : Try.prog.cellsOf 121 = 4 := by kernel_rfl
  obtain ⟨y0, y1, rfl⟩ := list2 (hxl.trans rfl)
  obtain ⟨v0, v1, rfl⟩ := list2 hl
  have f0 : DataW.trod enc Try.prog w 0 (fun _ => true) true n 32 (List.take (Try.prog.cellsOf 32) (List.drop 0 [v0, v1])) = some y0 := hf 0 _ rfl
  rw [c1] at f0
  have f1 : DataW.trod enc Try.prog w 0 (fun _ => true) true n 25 (List.take (Try.prog.cellsOf 25) (List.drop 1 [v0, v1])) = some y1 := hf 1 _ rfl
  rw [c3] at f1
  cases hx
  simp only [DataW.weights, Try.underlying34, List.map_cons, List.map_nil, DataW.weightsEach, List.append_nil, List.mem_append] at hw
  obtain ⟨l, l1, lf, l2⟩ := read_slice (R := isNode) (F := fun x => x.size < 2 ^ 61) (fun _ _ _ _ hle h => h.mono hle) Try.underlying32 (by rw [c4]; omega) (of_decide_eq_true (by kernel_rfl))
    (fun fuel cs d ps h hw => readNode h hw) (d := y0.1) (ps := y0.2) f0 (fun k hk => hw k (by simp [hk]))
  rw [c4] at l2
  obtain ⟨k, k1, k2⟩ := readInts (d := y1.1) (ps := y1.2) f1 (fun k hk => hw k (by simp [hk]))
  have hz1 : l.length < 2 ^ 61 := by omega
  have hz2 : k.length < 2 ^ 61 := by omega
  refine ⟨⟨l, k⟩, ⟨hz1, hz2, lf⟩, ?_⟩
  have hra := read_app l2 k2 (fun m m' acs hle hh => by obtain ⟨v, h1, h2⟩ := hh; exact ⟨v, h1, Nodes.mono hle h2⟩)
  refine CanRead.mono (cs := [v0] ++ [v1]) hra ?_
  rintro m acs - ⟨a1, a2, rfl, -, ⟨v, rfl, hv⟩, u, rfl, hu⟩
  exact ⟨v, u, rfl, hv, hu⟩
end
end Go.AM
