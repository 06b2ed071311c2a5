/-
  Contracts of the reference: shapes.
-/
import Derived.Test.YtnfncjodmkhafaaAm18
import Derived.Test.YtnfncjodmkhafaaAm19
import Derived.Test.YtnfncjodmkhafaaTs1
set_option linter.all false
set_option linter.unusedSimpArgs false
set_option linter.unusedVariables false
namespace Go.AM
open Go.Proofs
attribute [local congr] ACalls_congr loopS_congr lenSlW_congr lenStrW_congr strW_congr ptrW_congr nilW_congr aggW_congr tupW_congr idxW_congr idxStrW_congr condA_congr optW_congr callW_congr iteW_congr opW_congr iA_congr wpS_congr guardW_congr pickW_congr slStrW_congr slSlW_congr makeW_congr
attribute [local push_cast] wpS_skip wpS_ops_h wpS_seq_h wpS_cond_h wpS_block_h wpS_exit wpS_ret wpS_loop_h thenA_n thenA_r thenA_e blockA_n blockA_r blockA_same blockA_ne retS_rp retS_np Mem.pop_push_ext Mem.pop_push Mem.pop_ext Mem.pop_self resOne_t resOne_cell cellR_t cellR_f Option.map_some tup1_1 tup1_2 iA_nil iA_cons_h iA_guard_h guardW_b condA_b putA_s putA_n evA_t evA_c evA_f List.set_cons_zero List.set_cons_succ List.getD_cons_zero List.getD_cons_succ List.map_cons List.map_nil List.mapM_cons List.mapM_nil List.cons_append List.nil_append List.append_nil List.length_cons List.length_nil List.replicate List.append_eq List.foldr_cons List.foldr_nil opW_mov_h opW_pick_h opW_newS_h opW_newH_h opW_boxS_h opW_boxH_h opW_build_h opW_mkSlice_h opW_load_h opW_loadN_h opW_store_h opW_nilCheck_h opW_bin_h opW_isNil_h opW_un_h opW_convI_h opW_convP_h opW_convBS_h opW_extract_h opW_fieldAddr_h opW_field1_h opW_fieldN_h opW_idxSl_h opW_idxStr_h opW_slStr_h opW_slSl_h opW_fn_h opW_make_h opW_lenStr_h opW_lenSl_h opW_append_h opW_appStr_h opW_call_h pickW_b optW_some boxW_h ptrW_p stW_h nilW_p nilW_f tupW_t aggW_a idxW_sh idxStrW_sh slStrW_sh slSlW_n slSlW_sh makeW_ih lenStrW_s lenSlW_s strW_s callW_fh boundA_n boundA_s intOf_i unA_neg unA_not isNilA_0n isNilA_0s isNilA_2n isNilA_2f isNilA_2g bin_add bin_sub bin_mul bin_lss bin_leq bin_gtr bin_geq bin_eql bin_neq bin_eqlS bin_neqS cells_b cells_i cells_f cells_s cells_p cells_sl cells_nf cells_fn cells_a List.all_cons List.all_nil okV_b okV_i okV_fl okV_s okV_pn okV_sn okV_p okV_pl okV_sl okV_nf okV_f okV_a okV_t okA_b okA_i okA_fl okA_s okA_pn okA_sn okA_p okA_sl okA_a okC_b okC_i okC_fl okC_s okC_pn okC_sn okC_p okC_pl okC_sl okC_nf okC_f okC0_b okC0_i okC0_s okC0_p okC0_pl List.toList_toArray Array.toList_empty decide_eq_true_eq decide_eq_false_iff_not Bool.not_eq_true' Bool.false_eq_true Bool.and_true Bool.true_and bne_self_eq_false Bool.bne_false Bool.bne_true true_and and_true Option.bind_eq_bind Option.bind_some Option.pure_def Option.some.injEq exists_eq_left' Option.isNone_none Option.isNone_some decide_true decide_false Mem.box_ext Mem.ext_box Mem.ext_ext Mem.ext_heap Mem.ext_len1 Mem.ext_len2 Mem.ext_len3 Mem.ext_len4 Mem.ext_len5 Mem.ext_len6 Mem.ext_len7 Mem.ext_len8 Mem.ext_len9 Mem.ext_len10 Mem.ext_len11 Mem.ext_len12 Mem.ext_pop Mem.self_pop Mem.ext_push Mem.ext_load Mem.ext_loads Mem.ext_load0 Mem.ext_loadj Mem.ext_loads0 Mem.ext_loadsj Mem.ext_store0 Mem.ext_storej Mem.stores_nil Mem.stores_cons List.getElem?_cons_zero List.getElem?_cons_succ List.getElem?_nil Nat.zero_add List.drop_zero List.drop_succ_cons List.take_succ_cons List.take_zero List.size_toArray Option.bind_fun_some Nat.add_assoc fillA_nil fillA_cons partsA_nil partsA_cons push_sliceCells byteA_i noPtr_b noPtr_i noPtr_f noPtr_s List.flatten_cons List.flatten_nil bin_rem bin_quo ne_eq not_false_eq_true and_self Nat.one_mul Nat.mul_one Nat.le_refl List.take_nil List.drop_nil Nat.add_zero Bool.not_true Bool.not_false Bool.true_eq_false false_and and_false Bool.false_and Bool.and_false Bool.false_or Bool.or_false Bool.true_or Bool.or_true guardW_tt guardW_tf guardW_ft guardW_ff guardW_uh condA_t condA_f hold_1 hold_2 hold_3 iteV_t iteV_f iteO_t iteO_f not_true_eq_false Int.toNat_natCast Int.toNat_natCast_add_one Int.toNat_zero Nat.sub_zero en35 en76 en34 en11 en60 en115 en116 en94 en95 en97 en96 en92 en131 en93 en142 en117 en77 en36 en12 en38 rt73a rt73s en78 en37 rt27a rt27s en13 en80 en48 en90 en129 en130 en128 en88 en89 en143 en118 en144 en119 en120 en145 en146 en162 en147 en121 en122 en123 en124 en79 en81 en39 en40 en14 en15 en82 en41 en16 en18 en83 en42 en17 en19 en4
attribute [local push_cast] andW_t iteH_t iteH_f
attribute [local congr] wpDT_congr
attribute [local push_cast] wpS_draw_h wpDT_done wpDT_step wpDT_alt Mem.push_ext_loadS Mem.push_ext_loadsS Mem.push_ext_store0 Mem.push_ext_storej
attribute [local push_cast] Mem.ext_sliceCells
def isPlainK (k : Int) : Prop := k = 1 ∨ k = 2 ∨ k = 3 ∨ k = 4 ∨ k = 5 ∨ k = 6 ∨ k = 22 ∨ k = 24 ∨ k = 31 ∨ k = 32
def isOneK (k : Int) : Prop := k = 9 ∨ k = 12 ∨ k = 13 ∨ k = 14 ∨ k = 15 ∨ k = 19 ∨ k = 23 ∨ k = 26 ∨ k = 28
instance (k : Int) : Decidable (isPlainK k) := by unfold isPlainK; infer_instance
instance (k : Int) : Decidable (isOneK k) := by unfold isOneK; infer_instance
def shape0P (n : PNode) : List Int :=
  if isPlainK n.kind then [] else if n.kind = 7 then [] else if n.kind = 8 ∨ n.kind = 10 then [1, 1] else if isOneK n.kind then [1] else if n.kind = 11 then [1, 6] ++ List.replicate (n.kids.length - 2) 6
  else if n.kind = 16 then (if (n.kids.length : Int) = 3 then [1, 3, 3] else [1, 3]) else if n.kind = 17 then [1, 3] else if n.kind = 18 then [4, 5, 3] else if n.kind = 20 then [6, 3] else if n.kind = 21 then []
  else if n.kind = 25 then [10] else if n.kind = 27 then [] else if n.kind = 29 then [6] ++ List.replicate (n.kids.length - 1) 6 else if n.kind = 30 then [] else if n.kind = 33 then List.replicate (n.kids.length - 1) 7 ++ [3] else if n.kind = 34 then [3] else []
def allP (n : PNode) : Int := if n.kind = 7 then 1 else if n.kind = 21 then 8 else if n.kind = 27 then 2 else if n.kind = 30 then 6 else 0
def shapeP (n : PNode) : List Int := if ¬ allP n = 0 then shape0P n ++ List.replicate n.kids.length (allP n) else shape0P n
theorem ite_len {c : Prop} [Decidable c] {a b : List Int} {k : Nat} (h1 : a.length ≤ k) (h2 : b.length ≤ k) : (if c then a else b).length ≤ k := by split <;> assumption
theorem shape0P_len {n : PNode} : (shape0P n).length ≤ n.kids.length + 5 := by
  unfold shape0P
  repeat' apply ite_len
  all_goals (try simp only [List.length_nil, List.length_cons, List.length_append, List.length_replicate])
  all_goals omega
def CShape (x4 x5 x6 : Value) (g : Nat → Value) : List Value := [g 0, g 1, g 2, g 3, x4, x5, x6, g 7, g 8, g 9, g 10, g 11, g 12, g 13, g 14, g 15, g 16, g 17, g 18, g 19, g 20, g 21, g 22, g 23, g 24, g 25, g 26, g 27, g 28, g 29, g 30, g 31, g 32, g 33, g 34, g 35, g 36, g 37, g 38, g 39, g 40, g 41, g 42, g 43, g 44, g 45, g 46, g 47, g 48, g 49, g 50, g 51, g 52, g 53, g 54, g 55, g 56, g 57, g 58, g 59, g 60, g 61, g 62, g 63, g 64, g 65, g 66, g 67, g 68, g 69, g 70, g 71, g 72, g 73, g 74, g 75, g 76, g 77, g 78, g 79, g 80, g 81, g 82, g 83, g 84, g 85, g 86, g 87, g 88, g 89, g 90, g 91, g 92, g 93, g 94, g 95, g 96, g 97, g 98, g 99, g 100, g 101, g 102, g 103, g 104, g 105, g 106, g 107, g 108, g 109, g 110, g 111, g 112, g 113, g 114, g 115, g 116, g 117]
set_option maxHeartbeats 1000000 in
theorem l8Shape_c {m : Mem} {n : PNode} {cs : List Value} (hn : isNode m cs n) (hl : n.kids.length < 2 ^ 40) :
    ACalls Try.prog 116 [.agg cs.toArray] m (fun r m' => m.le m' ∧ ∃ b ver, m.heap.length ≤ b ∧ r = .tuple #[.slice (some ⟨b, 0, some ver⟩) (shapeP n).length 1, .bool (decide (((shapeP n).length : Int) = n.kids.length))] ∧ m'.blk b ver ((shapeP n).map (.int .i64))) := by
  obtain ⟨kv, rfl, hk⟩ := id hn
  refine acalls_of Try.func116 s116 ?_
  have hs := Sl.lenW hk
  rw [A116]; dsimp only; rw [wpS_assoc]; rw [wpS_assoc]; rw [wpS_assoc]; rw [wpS_assoc]
  refine wpS_cut (σ := Nat × Nat × List Int × Int) (fun s g => CShape (.int .i64 n.kids.length) (.slice (some ⟨s.1, 0, some s.2.1⟩) s.2.2.1.length 1) (.int .i64 s.2.2.2) g)
    (fun s m' => (s.2.2.1 = shape0P n ∧ s.2.2.2 = allP n) ∧ ∃ m1, m' = m1.ext [[.int .i64 n.kind, .string n.text, .int .i64 n.i, kv]] ∧ m.le m1 ∧ m.heap.length ≤ s.1 ∧ m1.blk s.1 s.2.1 (s.2.2.1.map (.int .i64))) ?_ ?_
  · ((try refine hold_top ?_); (try simp only [hk.okC, hs, push_cast, Nat.reduceAdd, Nat.reduceMul, Nat.reduceLT, Nat.reduceLeDiff, Int.reduceEq, Nat.reduceEqDiff, reduceCtorEq]); (try (refine hold_top ?_; simp only [hk.okC, hs, push_cast, Nat.reduceAdd, Nat.reduceMul, Nat.reduceLT, Nat.reduceLeDiff, Int.reduceEq, Nat.reduceEqDiff, reduceCtorEq])))
    repeat' (first | (with_reducible refine altW_i ?_ ?_ <;> ((try refine hold_top ?_); (try simp only [hk.okC, hs, push_cast, Nat.reduceAdd, Nat.reduceMul, Nat.reduceLT, Nat.reduceLeDiff, Int.reduceEq, Nat.reduceEqDiff, reduceCtorEq]); (try (refine hold_top ?_; simp only [hk.okC, hs, push_cast, Nat.reduceAdd, Nat.reduceMul, Nat.reduceLT, Nat.reduceLeDiff, Int.reduceEq, Nat.reduceEqDiff, reduceCtorEq])))) | (with_reducible refine andW_i ?_ ?_; (focus (first | omega | (with_reducible assumption) | (with_reducible exact flat_i) | (with_reducible rfl))); ((try refine hold_top ?_); (try simp only [hk.okC, hs, push_cast, Nat.reduceAdd, Nat.reduceMul, Nat.reduceLT, Nat.reduceLeDiff, Int.reduceEq, Nat.reduceEqDiff, reduceCtorEq]); (try (refine hold_top ?_; simp only [hk.okC, hs, push_cast, Nat.reduceAdd, Nat.reduceMul, Nat.reduceLT, Nat.reduceLeDiff, Int.reduceEq, Nat.reduceEqDiff, reduceCtorEq])))) | (with_reducible refine optW_get ?_ ?_; (focus omega); ((try refine hold_top ?_); (try simp only [hk.okC, hs, push_cast, Nat.reduceAdd, Nat.reduceMul, Nat.reduceLT, Nat.reduceLeDiff, Int.reduceEq, Nat.reduceEqDiff, reduceCtorEq]); (try (refine hold_top ?_; simp only [hk.okC, hs, push_cast, Nat.reduceAdd, Nat.reduceMul, Nat.reduceLT, Nat.reduceLeDiff, Int.reduceEq, Nat.reduceEqDiff, reduceCtorEq])))) | (with_reducible refine ite_hB (fun h => ?_) (fun h => ?_) <;> ((try rw [h]); (try simp only [Bool.and_eq_true, Bool.or_eq_true, Bool.not_eq_true', Bool.not_eq_false', Bool.and_eq_false_iff, Bool.or_eq_false_iff, decide_eq_true_eq, decide_eq_false_iff_not] at h); ((try refine hold_top ?_); (try simp only [hk.okC, hs, push_cast, Nat.reduceAdd, Nat.reduceMul, Nat.reduceLT, Nat.reduceLeDiff, Int.reduceEq, Nat.reduceEqDiff, reduceCtorEq]); (try (refine hold_top ?_; simp only [hk.okC, hs, push_cast, Nat.reduceAdd, Nat.reduceMul, Nat.reduceLT, Nat.reduceLeDiff, Int.reduceEq, Nat.reduceEqDiff, reduceCtorEq]))))) | (with_reducible refine ite_hF (fun h => ?_) (fun h => ?_) <;> ((try rw [h]); (try simp only [Bool.and_eq_true, Bool.or_eq_true, Bool.not_eq_true', Bool.not_eq_false', Bool.and_eq_false_iff, Bool.or_eq_false_iff, decide_eq_true_eq, decide_eq_false_iff_not] at h); ((try refine hold_top ?_); (try simp only [hk.okC, hs, push_cast, Nat.reduceAdd, Nat.reduceMul, Nat.reduceLT, Nat.reduceLeDiff, Int.reduceEq, Nat.reduceEqDiff, reduceCtorEq]); (try (refine hold_top ?_; simp only [hk.okC, hs, push_cast, Nat.reduceAdd, Nat.reduceMul, Nat.reduceLT, Nat.reduceLeDiff, Int.reduceEq, Nat.reduceEqDiff, reduceCtorEq]))))) | (with_reducible refine ite_hn (fun h hd he => ?_) (fun h hd he => ?_) <;> ((try rw [he]); (try rw [hd]); (try clear he hd); ((try refine hold_top ?_); (try simp only [hk.okC, hs, push_cast, Nat.reduceAdd, Nat.reduceMul, Nat.reduceLT, Nat.reduceLeDiff, Int.reduceEq, Nat.reduceEqDiff, reduceCtorEq]); (try (refine hold_top ?_; simp only [hk.okC, hs, push_cast, Nat.reduceAdd, Nat.reduceMul, Nat.reduceLT, Nat.reduceLeDiff, Int.reduceEq, Nat.reduceEqDiff, reduceCtorEq]))))) | (with_reducible refine ite_hd (fun h hd => ?_) (fun h hd => ?_) <;> ((try rw [hd]); (try clear hd); ((try refine hold_top ?_); (try simp only [hk.okC, hs, push_cast, Nat.reduceAdd, Nat.reduceMul, Nat.reduceLT, Nat.reduceLeDiff, Int.reduceEq, Nat.reduceEqDiff, reduceCtorEq]); (try (refine hold_top ?_; simp only [hk.okC, hs, push_cast, Nat.reduceAdd, Nat.reduceMul, Nat.reduceLT, Nat.reduceLeDiff, Int.reduceEq, Nat.reduceEqDiff, reduceCtorEq]))))) | exact ⟨rfl, rfl⟩ | fail)
    all_goals try (first | (refine ⟨(_, 0, [], _), rfl, ⟨by simp [shape0P, isPlainK, isOneK, *], by simp [allP, *]⟩, _, rfl, (by repeat (first | exact Mem.le.refl _ | apply Mem.le.to_push | with_reducible assumption)), ?_, by exact Mem.push_blk _ _⟩; simp only [Mem.push_len]; omega) | (refine ⟨(_, 0, [1], _), rfl, ⟨by simp [shape0P, isPlainK, isOneK, *], by simp [allP, *]⟩, _, rfl, (by repeat (first | exact Mem.le.refl _ | apply Mem.le.to_push | with_reducible assumption)), ?_, by exact Mem.push_blk _ _⟩; simp only [Mem.push_len]; omega) | (refine ⟨(_, 0, [1, 1], _), rfl, ⟨by simp [shape0P, isPlainK, isOneK, *], by simp [allP, *]⟩, _, rfl, (by repeat (first | exact Mem.le.refl _ | apply Mem.le.to_push | with_reducible assumption)), ?_, by exact Mem.push_blk _ _⟩; simp only [Mem.push_len]; omega) | (refine ⟨(_, 0, [1, 3], _), rfl, ⟨by simp [shape0P, isPlainK, isOneK, *], by simp [allP, *]⟩, _, rfl, (by repeat (first | exact Mem.le.refl _ | apply Mem.le.to_push | with_reducible assumption)), ?_, by exact Mem.push_blk _ _⟩; simp only [Mem.push_len]; omega) | (refine ⟨(_, 0, [1, 3, 3], _), rfl, ⟨by simp [shape0P, isPlainK, isOneK, *], by simp [allP, *]⟩, _, rfl, (by repeat (first | exact Mem.le.refl _ | apply Mem.le.to_push | with_reducible assumption)), ?_, by exact Mem.push_blk _ _⟩; simp only [Mem.push_len]; omega) | (refine ⟨(_, 0, [4, 5, 3], _), rfl, ⟨by simp [shape0P, isPlainK, isOneK, *], by simp [allP, *]⟩, _, rfl, (by repeat (first | exact Mem.le.refl _ | apply Mem.le.to_push | with_reducible assumption)), ?_, by exact Mem.push_blk _ _⟩; simp only [Mem.push_len]; omega) | (refine ⟨(_, 0, [6, 3], _), rfl, ⟨by simp [shape0P, isPlainK, isOneK, *], by simp [allP, *]⟩, _, rfl, (by repeat (first | exact Mem.le.refl _ | apply Mem.le.to_push | with_reducible assumption)), ?_, by exact Mem.push_blk _ _⟩; simp only [Mem.push_len]; omega) | (refine ⟨(_, 0, [10], _), rfl, ⟨by simp [shape0P, isPlainK, isOneK, *], by simp [allP, *]⟩, _, rfl, (by repeat (first | exact Mem.le.refl _ | apply Mem.le.to_push | with_reducible assumption)), ?_, by exact Mem.push_blk _ _⟩; simp only [Mem.push_len]; omega) | (refine ⟨(_, 0, [3], _), rfl, ⟨by simp [shape0P, isPlainK, isOneK, *], by simp [allP, *]⟩, _, rfl, (by repeat (first | exact Mem.le.refl _ | apply Mem.le.to_push | with_reducible assumption)), ?_, by exact Mem.push_blk _ _⟩; simp only [Mem.push_len]; omega))
    · refine loopS_rule (σ := Nat × Nat) (fun s g' => E116_0 (.int .i64 n.kids.length) (.slice (some ⟨(m.push []).heap.length, 0, some s.2⟩) s.1 1) (.int .i64 0) g')
        (fun s m' => ∃ m1, m' = m1.ext [[.int .i64 n.kind, .string n.text, .int .i64 n.i, kv]] ∧ m.le m1 ∧ 2 ≤ s.1 ∧ (s.1 ≤ n.kids.length ∨ s.1 = 2) ∧ m1.blk (m.push []).heap.length s.2 ((([1, 6] : List Int) ++ List.replicate (s.1 - 2) 6).map (.int .i64))) (fun s => n.kids.length - s.1) (2, 0) rfl ⟨_, rfl, (by repeat (first | exact Mem.le.refl _ | apply Mem.le.to_push | with_reducible assumption)), by simp, .inr rfl, by exact Mem.push_blk _ _⟩ ?_
      rintro ⟨j, ver⟩ gg m' ⟨m1, rfl, hle, hj0, hj, hblk⟩
      simp only at hj hj0 hblk
      by_cases hlt : j < n.kids.length
      · have hlt' : ((j : Int) < (n.kids.length : Int)) = True := eq_true (by omega)
        have happ := fun c x l => (hblk.push c).append (esz := 1) (bytes := 8) (n := j) (k := 1) (news := [.int .i64 x]) (l := l) (by simp; omega) rfl (by omega) (by omega)
        simp only [E116_0, hk.okC, hs, hlt', happ, push_cast, Nat.reduceAdd, Nat.reduceMul, Nat.reduceLT, Nat.reduceLeDiff, Int.reduceEq, Nat.reduceEqDiff, reduceCtorEq]
        refine ⟨(j + 1, ver + 1), rfl, by simp only; omega, _, rfl, hle.to_push.bump (by simp only [Mem.push_len]; omega), by simp only; omega, by simp only; omega, ?_⟩
        simp only
        rw [show j + 1 - 2 = j - 2 + 1 by omega, List.replicate_succ', List.map_append]
        exact Mem.bump_blk (Nat.lt_of_lt_of_le hblk.lt (Mem.le_push _ _).len)
      · have hlt' : ((j : Int) < (n.kids.length : Int)) = False := eq_false (by omega)
        have hj1 : j - 2 = n.kids.length - 2 := by omega
        have hj2 : j = 2 + (n.kids.length - 2) := by omega
        rw [hj1] at hblk
        simp only [E116_0, hk.okC, hs, hlt', push_cast, Nat.reduceAdd, Nat.reduceMul, Nat.reduceLT, Nat.reduceLeDiff, Int.reduceEq, Nat.reduceEqDiff, reduceCtorEq]
        refine ⟨(_, ver, [1, 6] ++ List.replicate (n.kids.length - 2) 6, 0), ?_, ⟨by simp [shape0P, isPlainK, isOneK, *], by simp [allP, *]⟩, _, rfl, hle, ?_, hblk⟩
        · rw [show (([1, 6] : List Int) ++ List.replicate (n.kids.length - 2) (6 : Int)).length = j by rw [hj2]; simp; try omega]; rfl
        · simp only [Mem.push_len]; omega
    · refine loopS_rule (σ := Nat × Nat) (fun s g' => E116_1 (.int .i64 n.kids.length) (.slice (some ⟨(m.push []).heap.length, 0, some s.2⟩) s.1 1) (.int .i64 0) g')
        (fun s m' => ∃ m1, m' = m1.ext [[.int .i64 n.kind, .string n.text, .int .i64 n.i, kv]] ∧ m.le m1 ∧ 1 ≤ s.1 ∧ (s.1 ≤ n.kids.length ∨ s.1 = 1) ∧ m1.blk (m.push []).heap.length s.2 ((([6] : List Int) ++ List.replicate (s.1 - 1) 6).map (.int .i64))) (fun s => n.kids.length - s.1) (1, 0) rfl ⟨_, rfl, (by repeat (first | exact Mem.le.refl _ | apply Mem.le.to_push | with_reducible assumption)), by simp, .inr rfl, by exact Mem.push_blk _ _⟩ ?_
      rintro ⟨j, ver⟩ gg m' ⟨m1, rfl, hle, hj0, hj, hblk⟩
      simp only at hj hj0 hblk
      by_cases hlt : j < n.kids.length
      · have hlt' : ((j : Int) < (n.kids.length : Int)) = True := eq_true (by omega)
        have happ := fun c x l => (hblk.push c).append (esz := 1) (bytes := 8) (n := j) (k := 1) (news := [.int .i64 x]) (l := l) (by simp; omega) rfl (by omega) (by omega)
        simp only [E116_1, hk.okC, hs, hlt', happ, push_cast, Nat.reduceAdd, Nat.reduceMul, Nat.reduceLT, Nat.reduceLeDiff, Int.reduceEq, Nat.reduceEqDiff, reduceCtorEq]
        refine ⟨(j + 1, ver + 1), rfl, by simp only; omega, _, rfl, hle.to_push.bump (by simp only [Mem.push_len]; omega), by simp only; omega, by simp only; omega, ?_⟩
        simp only
        rw [show j + 1 - 1 = j - 1 + 1 by omega, List.replicate_succ', List.map_append]
        exact Mem.bump_blk (Nat.lt_of_lt_of_le hblk.lt (Mem.le_push _ _).len)
      · have hlt' : ((j : Int) < (n.kids.length : Int)) = False := eq_false (by omega)
        have hj1 : j - 1 = n.kids.length - 1 := by omega
        have hj2 : j = 1 + (n.kids.length - 1) := by omega
        rw [hj1] at hblk
        simp only [E116_1, hk.okC, hs, hlt', push_cast, Nat.reduceAdd, Nat.reduceMul, Nat.reduceLT, Nat.reduceLeDiff, Int.reduceEq, Nat.reduceEqDiff, reduceCtorEq]
        refine ⟨(_, ver, [6] ++ List.replicate (n.kids.length - 1) 6, 0), ?_, ⟨by simp [shape0P, isPlainK, isOneK, *], by simp [allP, *]⟩, _, rfl, hle, ?_, hblk⟩
        · rw [show (([6] : List Int) ++ List.replicate (n.kids.length - 1) (6 : Int)).length = j by rw [hj2]; simp; try omega]; rfl
        · simp only [Mem.push_len]; omega
    · refine loopS_rule (σ := Nat × Nat) (fun s g' => E116_2 (.int .i64 n.kids.length) (.slice (some ⟨m.heap.length, 0, some s.2⟩) s.1 1) (.int .i64 0) g')
        (fun s m' => ∃ m1, m' = m1.ext [[.int .i64 n.kind, .string n.text, .int .i64 n.i, kv]] ∧ m.le m1 ∧ (s.1 ≤ n.kids.length - 1 ∨ s.1 = 0) ∧ m1.blk m.heap.length s.2 ((List.replicate s.1 (7 : Int)).map (.int .i64))) (fun s => n.kids.length - (s.1)) (0, 0) rfl ⟨_, rfl, (by repeat (first | exact Mem.le.refl _ | apply Mem.le.to_push | with_reducible assumption)), .inr rfl, by exact Mem.push_blk _ _⟩ ?_
      rintro ⟨j, ver⟩ gg m' ⟨m1, rfl, hle, hj, hblk⟩
      simp only at hj hblk
      have hw : IntKind.i64.wrap ((j : Int) + 1) = (j : Int) + 1 := w64_id (by omega) (by omega)
      by_cases hlt : j < n.kids.length - 1
      · have hlt' : ((j : Int) + 1 < (n.kids.length : Int)) = True := eq_true (by omega)
        have happ := fun c x l => (hblk.push c).append (esz := 1) (bytes := 8) (n := j) (k := 1) (news := [.int .i64 x]) (l := l) (by simp; try omega) rfl (by omega) (by omega)
        simp only [E116_2, hk.okC, hs, hlt', happ, hw, push_cast, Nat.reduceAdd, Nat.reduceMul, Nat.reduceLT, Nat.reduceLeDiff, Int.reduceEq, Nat.reduceEqDiff, reduceCtorEq]
        refine ⟨(j + 1, ver + 1), rfl, by simp only; omega, _, rfl, hle.to_push.bump (Nat.le_refl _), by simp only; omega, ?_⟩
        rw [List.replicate_succ', List.map_append]
        exact Mem.bump_blk (Nat.lt_of_lt_of_le hblk.lt (Mem.le_push _ _).len)
      · have hlt' : ((j : Int) + 1 < (n.kids.length : Int)) = False := eq_false (by omega)
        have hj : j = n.kids.length - 1 := by omega
        subst hj
        have happ := fun c x l => (hblk.push c).append (esz := 1) (bytes := 8) (n := n.kids.length - 1) (k := 1) (news := [.int .i64 x]) (l := l) (by simp) rfl (by omega) (by omega)
        simp only [E116_2, hk.okC, hs, hlt', hw, happ, push_cast, Nat.reduceAdd, Nat.reduceMul, Nat.reduceLT, Nat.reduceLeDiff, Int.reduceEq, Nat.reduceEqDiff, reduceCtorEq]
        refine ⟨(m.heap.length, ver + 1, List.replicate (n.kids.length - 1) 7 ++ [3], 0), ?_, ⟨by simp [shape0P, isPlainK, isOneK, *], by simp [allP, *]⟩, _, rfl, hle.to_push.bump (Nat.le_refl _), ?_, ?_⟩
        · rw [show (List.replicate (n.kids.length - 1) (7 : Int) ++ [(3 : Int)]).length = n.kids.length - 1 + 1 by simp]; rfl
        · exact Nat.le_refl _
        · rw [List.map_append]; exact Mem.bump_blk (Nat.lt_of_lt_of_le hblk.lt (Mem.le_push _ _).len)
  · rintro ⟨b, ver, l, al⟩ g m' ⟨⟨h1, h2⟩, m1, rfl, hle, hb, hblk⟩
    simp only at h1 h2 hb hblk
    simp only [CShape, hk.okC, hs, push_cast, Nat.reduceAdd, Nat.reduceMul, Nat.reduceLT, Nat.reduceLeDiff, Int.reduceEq, Nat.reduceEqDiff, reduceCtorEq]
    repeat' (first | (with_reducible refine altW_i ?_ ?_ <;> ((try refine hold_top ?_); (try simp only [hk.okC, hs, push_cast, Nat.reduceAdd, Nat.reduceMul, Nat.reduceLT, Nat.reduceLeDiff, Int.reduceEq, Nat.reduceEqDiff, reduceCtorEq]); (try (refine hold_top ?_; simp only [hk.okC, hs, push_cast, Nat.reduceAdd, Nat.reduceMul, Nat.reduceLT, Nat.reduceLeDiff, Int.reduceEq, Nat.reduceEqDiff, reduceCtorEq])))) | (with_reducible refine andW_i ?_ ?_; (focus (first | omega | (with_reducible assumption) | (with_reducible exact flat_i) | (with_reducible rfl))); ((try refine hold_top ?_); (try simp only [hk.okC, hs, push_cast, Nat.reduceAdd, Nat.reduceMul, Nat.reduceLT, Nat.reduceLeDiff, Int.reduceEq, Nat.reduceEqDiff, reduceCtorEq]); (try (refine hold_top ?_; simp only [hk.okC, hs, push_cast, Nat.reduceAdd, Nat.reduceMul, Nat.reduceLT, Nat.reduceLeDiff, Int.reduceEq, Nat.reduceEqDiff, reduceCtorEq])))) | (with_reducible refine optW_get ?_ ?_; (focus omega); ((try refine hold_top ?_); (try simp only [hk.okC, hs, push_cast, Nat.reduceAdd, Nat.reduceMul, Nat.reduceLT, Nat.reduceLeDiff, Int.reduceEq, Nat.reduceEqDiff, reduceCtorEq]); (try (refine hold_top ?_; simp only [hk.okC, hs, push_cast, Nat.reduceAdd, Nat.reduceMul, Nat.reduceLT, Nat.reduceLeDiff, Int.reduceEq, Nat.reduceEqDiff, reduceCtorEq])))) | (with_reducible refine ite_hB (fun h => ?_) (fun h => ?_) <;> ((try rw [h]); (try simp only [Bool.and_eq_true, Bool.or_eq_true, Bool.not_eq_true', Bool.not_eq_false', Bool.and_eq_false_iff, Bool.or_eq_false_iff, decide_eq_true_eq, decide_eq_false_iff_not] at h); ((try refine hold_top ?_); (try simp only [hk.okC, hs, push_cast, Nat.reduceAdd, Nat.reduceMul, Nat.reduceLT, Nat.reduceLeDiff, Int.reduceEq, Nat.reduceEqDiff, reduceCtorEq]); (try (refine hold_top ?_; simp only [hk.okC, hs, push_cast, Nat.reduceAdd, Nat.reduceMul, Nat.reduceLT, Nat.reduceLeDiff, Int.reduceEq, Nat.reduceEqDiff, reduceCtorEq]))))) | (with_reducible refine ite_hF (fun h => ?_) (fun h => ?_) <;> ((try rw [h]); (try simp only [Bool.and_eq_true, Bool.or_eq_true, Bool.not_eq_true', Bool.not_eq_false', Bool.and_eq_false_iff, Bool.or_eq_false_iff, decide_eq_true_eq, decide_eq_false_iff_not] at h); ((try refine hold_top ?_); (try simp only [hk.okC, hs, push_cast, Nat.reduceAdd, Nat.reduceMul, Nat.reduceLT, Nat.reduceLeDiff, Int.reduceEq, Nat.reduceEqDiff, reduceCtorEq]); (try (refine hold_top ?_; simp only [hk.okC, hs, push_cast, Nat.reduceAdd, Nat.reduceMul, Nat.reduceLT, Nat.reduceLeDiff, Int.reduceEq, Nat.reduceEqDiff, reduceCtorEq]))))) | (with_reducible refine ite_hn (fun h hd he => ?_) (fun h hd he => ?_) <;> ((try rw [he]); (try rw [hd]); (try clear he hd); ((try refine hold_top ?_); (try simp only [hk.okC, hs, push_cast, Nat.reduceAdd, Nat.reduceMul, Nat.reduceLT, Nat.reduceLeDiff, Int.reduceEq, Nat.reduceEqDiff, reduceCtorEq]); (try (refine hold_top ?_; simp only [hk.okC, hs, push_cast, Nat.reduceAdd, Nat.reduceMul, Nat.reduceLT, Nat.reduceLeDiff, Int.reduceEq, Nat.reduceEqDiff, reduceCtorEq]))))) | (with_reducible refine ite_hd (fun h hd => ?_) (fun h hd => ?_) <;> ((try rw [hd]); (try clear hd); ((try refine hold_top ?_); (try simp only [hk.okC, hs, push_cast, Nat.reduceAdd, Nat.reduceMul, Nat.reduceLT, Nat.reduceLeDiff, Int.reduceEq, Nat.reduceEqDiff, reduceCtorEq]); (try (refine hold_top ?_; simp only [hk.okC, hs, push_cast, Nat.reduceAdd, Nat.reduceMul, Nat.reduceLT, Nat.reduceLeDiff, Int.reduceEq, Nat.reduceEqDiff, reduceCtorEq]))))) | exact ⟨rfl, rfl⟩ | fail)
    · refine loopS_rule (σ := Nat × Nat) (fun s g' => E116_3 (.int .i64 n.kids.length) (.slice (some ⟨b, 0, some s.2⟩) (l.length + s.1) 1) (.int .i64 al) (.int .i64 s.1) g')
        (fun s m' => ∃ m1, m' = m1.ext [[.int .i64 n.kind, .string n.text, .int .i64 n.i, kv]] ∧ m.le m1 ∧ s.1 ≤ n.kids.length ∧ m1.blk b s.2 ((l ++ List.replicate s.1 al).map (.int .i64))) (fun s => n.kids.length - s.1) (0, ver) rfl ⟨_, rfl, hle, by simp, by simpa using hblk⟩ ?_
      clear hle hblk
      rintro ⟨j, ver⟩ gg m' ⟨m2, rfl, hle, hj, hblk⟩
      simp only at hj hblk
      have hll : l.length ≤ n.kids.length + 5 := by rw [h1]; exact shape0P_len
      have hw : IntKind.i64.wrap ((j : Int) + 1) = (j : Int) + 1 := w64_id (by omega) (by omega)
      by_cases hlt : j < n.kids.length
      · have hlt' : ((j : Int) < (n.kids.length : Int)) = True := eq_true (by omega)
        have happ := fun c x l' => (hblk.push c).append (esz := 1) (bytes := 8) (n := l.length + j) (k := 1) (news := [.int .i64 x]) (l := l') (by simp) rfl (by omega) (by omega)
        simp only [E116_3, hk.okC, hs, hlt', happ, hw, push_cast, Nat.reduceAdd, Nat.reduceMul, Nat.reduceLT, Nat.reduceLeDiff, Int.reduceEq, Nat.reduceEqDiff, reduceCtorEq]
        refine ⟨(j + 1, ver + 1), rfl, by simp only; omega, _, rfl, hle.to_push.bump hb, by simp only; omega, ?_⟩
        simp only
        simp only [List.replicate_succ', ← List.append_assoc, List.map_append, List.map_cons, List.map_nil]
        exact Mem.bump_blk (Nat.lt_of_lt_of_le hblk.lt (Mem.le_push _ _).len)
      · have hlt' : ((j : Int) < (n.kids.length : Int)) = False := eq_false (by omega)
        have hjk : j = n.kids.length := by omega
        subst hjk
        simp only [E116_3, hk.okC, hs, hlt', hle.pop_ext, push_cast, Nat.reduceAdd, Nat.reduceMul, Nat.reduceLT, Nat.reduceLeDiff, Int.reduceEq, Nat.reduceEqDiff, reduceCtorEq]
        have hsp : shapeP n = l ++ List.replicate n.kids.length al := by rw [shapeP, ← h1, ← h2, if_pos (by assumption)]
        rw [hsp]
        exact ⟨hle, b, ver, hb, by simp, by simpa only [List.map_append] using hblk⟩
    · rw [hle.pop_ext]
      have hsp : shapeP n = l := by rw [shapeP, ← h1, ← h2, if_neg (fun e => e (by assumption))]
      rw [hsp]
      exact ⟨hle, b, ver, hb, rfl, hblk⟩
end Go.AM
