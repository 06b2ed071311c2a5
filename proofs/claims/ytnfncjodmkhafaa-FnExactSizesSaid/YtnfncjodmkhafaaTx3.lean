/-
  Contracts: numbers' texts.
-/
import Derived.Test.YtnfncjodmkhafaaTx2
set_option linter.all false
set_option linter.unusedSimpArgs false
set_option linter.unusedVariables false
namespace Go.AM
open Go.Proofs
attribute [local congr] ACalls_congr loopS_congr lenSlW_congr lenStrW_congr strW_congr ptrW_congr nilW_congr aggW_congr tupW_congr idxW_congr idxStrW_congr condA_congr optW_congr callW_congr iteW_congr opW_congr iA_congr wpS_congr guardW_congr pickW_congr slStrW_congr slSlW_congr makeW_congr
attribute [local push_cast] wpS_skip wpS_ops_h wpS_seq_h wpS_cond_h wpS_block_h wpS_exit wpS_ret wpS_loop_h thenA_n thenA_r thenA_e blockA_n blockA_r blockA_same blockA_ne retS_rp retS_np Mem.pop_push_ext Mem.pop_push Mem.pop_ext Mem.pop_self resOne_t resOne_cell cellR_t cellR_f Option.map_some tup1_1 tup1_2 iA_nil iA_cons_h iA_guard_h guardW_b condA_b putA_s putA_n evA_t evA_c evA_f List.set_cons_zero List.set_cons_succ List.getD_cons_zero List.getD_cons_succ List.map_cons List.map_nil List.mapM_cons List.mapM_nil List.cons_append List.nil_append List.append_nil List.length_cons List.length_nil List.replicate List.append_eq List.foldr_cons List.foldr_nil opW_mov_h opW_pick_h opW_newS_h opW_newH_h opW_boxS_h opW_boxH_h opW_build_h opW_mkSlice_h opW_load_h opW_loadN_h opW_store_h opW_nilCheck_h opW_bin_h opW_isNil_h opW_un_h opW_convI_h opW_convP_h opW_convBS_h opW_extract_h opW_fieldAddr_h opW_field1_h opW_fieldN_h opW_idxSl_h opW_idxStr_h opW_slStr_h opW_slSl_h opW_fn_h opW_make_h opW_lenStr_h opW_lenSl_h opW_append_h opW_appStr_h opW_call_h pickW_b optW_some boxW_h ptrW_p stW_h nilW_p nilW_f tupW_t aggW_a idxW_sh idxStrW_sh slStrW_sh slSlW_n slSlW_sh makeW_ih lenStrW_s lenSlW_s strW_s callW_fh boundA_n boundA_s intOf_i unA_neg unA_not isNilA_0n isNilA_0s isNilA_2n isNilA_2f isNilA_2g bin_add bin_sub bin_mul bin_lss bin_leq bin_gtr bin_geq bin_eql bin_neq bin_eqlS bin_neqS cells_b cells_i cells_f cells_s cells_p cells_sl cells_nf cells_fn cells_a List.all_cons List.all_nil okV_b okV_i okV_fl okV_s okV_pn okV_sn okV_p okV_pl okV_sl okV_nf okV_f okV_a okV_t okA_b okA_i okA_fl okA_s okA_pn okA_sn okA_p okA_sl okA_a okC_b okC_i okC_fl okC_s okC_pn okC_sn okC_p okC_pl okC_sl okC_nf okC_f okC0_b okC0_i okC0_s okC0_p okC0_pl List.toList_toArray Array.toList_empty decide_eq_true_eq decide_eq_false_iff_not Bool.not_eq_true' Bool.false_eq_true Bool.and_true Bool.true_and bne_self_eq_false Bool.bne_false Bool.bne_true true_and and_true Option.bind_eq_bind Option.bind_some Option.pure_def Option.some.injEq exists_eq_left' Option.isNone_none Option.isNone_some decide_true decide_false Mem.box_ext Mem.ext_box Mem.ext_ext Mem.ext_heap Mem.ext_len1 Mem.ext_len2 Mem.ext_len3 Mem.ext_len4 Mem.ext_len5 Mem.ext_len6 Mem.ext_len7 Mem.ext_len8 Mem.ext_len9 Mem.ext_len10 Mem.ext_len11 Mem.ext_len12 Mem.ext_pop Mem.self_pop Mem.ext_push Mem.ext_load Mem.ext_loads Mem.ext_load0 Mem.ext_loadj Mem.ext_loads0 Mem.ext_loadsj Mem.ext_store0 Mem.ext_storej Mem.stores_nil Mem.stores_cons List.getElem?_cons_zero List.getElem?_cons_succ List.getElem?_nil Nat.zero_add List.drop_zero List.drop_succ_cons List.take_succ_cons List.take_zero List.size_toArray Option.bind_fun_some Nat.add_assoc fillA_nil fillA_cons partsA_nil partsA_cons push_sliceCells byteA_i noPtr_b noPtr_i noPtr_f noPtr_s List.flatten_cons List.flatten_nil bin_rem bin_quo ne_eq not_false_eq_true and_self Nat.one_mul Nat.mul_one Nat.le_refl List.take_nil List.drop_nil Nat.add_zero Bool.not_true Bool.not_false Bool.true_eq_false false_and and_false Bool.false_and Bool.and_false Bool.false_or Bool.or_false Bool.true_or Bool.or_true guardW_tt guardW_tf guardW_ft guardW_ff guardW_uh condA_t condA_f hold_1 hold_2 hold_3 iteV_t iteV_f iteO_t iteO_f not_true_eq_false Int.toNat_natCast Int.toNat_natCast_add_one Int.toNat_zero Nat.sub_zero en35 en76 en34 en11 en60 en115 en116 en94 en95 en97 en96 en92 en131 en93 en142 en117 en77 en36 en12 en38 rt73a rt73s en78 en37 rt27a rt27s en13 en80 en48 en90 en129 en130 en128 en88 en89 en143 en118 en144 en119 en120 en145 en146 en162 en147 en121 en122 en123 en124 en79 en81 en39 en40 en14 en15 en82 en41 en16 en18 en83 en42 en17 en19 en4
attribute [local push_cast] andW_t iteH_t iteH_f
/-- Digits, at most so many, without a nought ahead of others. -/
def plainP (s : ByteArray) (most : Int) : Bool :=
  (decide ((1 : Int) ≤ s.size) && decide ((s.size : Int) ≤ most)) && decide ((runP isDigitP s.data.toList 0 : Int) = s.size) && (decide ((s.size : Int) = 1) || decide (s.data.toList[0]? ≠ some 48))
theorem plain_c {s : ByteArray} {most : Int} {m : Mem} (hs : s.size < 2 ^ 62) : ACalls Try.prog 129 [.string s, .int .i64 most] m (fun r m' => m' = m ∧ r = .bool (plainP s most)) := by
  refine acalls_of Try.func129 s129 ?_
  simp only [A129, push_cast, Nat.reduceAdd, Nat.reduceMul, Nat.reduceLT, Nat.reduceLeDiff, Int.reduceEq, Nat.reduceEqDiff, reduceCtorEq]
  refine within_c.mono ?_
  rintro r m1 ⟨rfl, rfl⟩
  cases hb : (decide ((1 : Int) ≤ s.size) && decide ((s.size : Int) ≤ most))
  · ((try refine hold_top ?_); (try simp only [push_cast, Nat.reduceAdd, Nat.reduceMul, Nat.reduceLT, Nat.reduceLeDiff, Int.reduceEq, Nat.reduceEqDiff, reduceCtorEq]); (try (refine hold_top ?_; simp only [push_cast, Nat.reduceAdd, Nat.reduceMul, Nat.reduceLT, Nat.reduceLeDiff, Int.reduceEq, Nat.reduceEqDiff, reduceCtorEq])))
    rw [plainP, hb]; rfl
  ((try refine hold_top ?_); (try simp only [push_cast, Nat.reduceAdd, Nat.reduceMul, Nat.reduceLT, Nat.reduceLeDiff, Int.reduceEq, Nat.reduceEqDiff, reduceCtorEq]); (try (refine hold_top ?_; simp only [push_cast, Nat.reduceAdd, Nat.reduceMul, Nat.reduceLT, Nat.reduceLeDiff, Int.reduceEq, Nat.reduceEqDiff, reduceCtorEq])))
  refine (run_c (a := 0) (x := #[]) (c := #[]) (p := isDigitP) hs (by omega) en90 fun b m => isDigit_c).mono ?_
  rintro r m2 ⟨rfl, rfl⟩
  by_cases h1 : (runP isDigitP s.data.toList 0 : Int) = s.size
  · by_cases h2 : (s.size : Int) = 1
    · have h2 := h2
      ((try refine hold_top ?_); (try simp only [h1, h2, push_cast, Nat.reduceAdd, Nat.reduceMul, Nat.reduceLT, Nat.reduceLeDiff, Int.reduceEq, Nat.reduceEqDiff, reduceCtorEq]); (try (refine hold_top ?_; simp only [h1, h2, push_cast, Nat.reduceAdd, Nat.reduceMul, Nat.reduceLT, Nat.reduceLeDiff, Int.reduceEq, Nat.reduceEqDiff, reduceCtorEq])))
      rw [plainP, hb, decide_eq_true h1, decide_eq_true h2]; rfl
    · have h2 := h2
      ((try refine hold_top ?_); (try simp only [h1, eq_false h2, push_cast, Nat.reduceAdd, Nat.reduceMul, Nat.reduceLT, Nat.reduceLeDiff, Int.reduceEq, Nat.reduceEqDiff, reduceCtorEq]); (try (refine hold_top ?_; simp only [h1, eq_false h2, push_cast, Nat.reduceAdd, Nat.reduceMul, Nat.reduceLT, Nat.reduceLeDiff, Int.reduceEq, Nat.reduceEqDiff, reduceCtorEq])))
      refine andW_i (by omega) ?_
      have hlen : s.data.toList.length = s.size := Array.length_toList
      have h3 : (1 : Int) ≤ s.size := by
        rw [Bool.and_eq_true] at hb
        exact of_decide_eq_true hb.1
      have hget : s.data.toList[(0 : Int).toNat]? = some s.data.toList[0] := List.getElem?_eq_getElem (by omega)
      have hget' : s.data.toList[0]? = some s.data.toList[0] := hget
      ((try refine hold_top ?_); (try simp only [h1, eq_false h2, hget', push_cast, Nat.reduceAdd, Nat.reduceMul, Nat.reduceLT, Nat.reduceLeDiff, Int.reduceEq, Nat.reduceEqDiff, reduceCtorEq]); (try (refine hold_top ?_; simp only [h1, eq_false h2, hget', push_cast, Nat.reduceAdd, Nat.reduceMul, Nat.reduceLT, Nat.reduceLeDiff, Int.reduceEq, Nat.reduceEqDiff, reduceCtorEq])))
      rw [plainP, hb, decide_eq_true h1, decide_eq_false h2, hget']
      congr 1
      simp only [Bool.true_and, Bool.false_or]
      apply decide_eq_decide.2
      rw [ne_eq, Option.some.injEq]
      generalize s.data.toList[0] = c
      refine not_congr ⟨fun e => ?_, fun e => by subst e; rfl⟩
      apply UInt8.toNat_inj.1
      show c.toNat = 48
      omega
  · have h1 := h1
    ((try refine hold_top ?_); (try simp only [eq_false h1, push_cast, Nat.reduceAdd, Nat.reduceMul, Nat.reduceLT, Nat.reduceLeDiff, Int.reduceEq, Nat.reduceEqDiff, reduceCtorEq]); (try (refine hold_top ?_; simp only [eq_false h1, push_cast, Nat.reduceAdd, Nat.reduceMul, Nat.reduceLT, Nat.reduceLeDiff, Int.reduceEq, Nat.reduceEqDiff, reduceCtorEq])))
    rw [plainP, hb, decide_eq_false h1]; rfl
end Go.AM
