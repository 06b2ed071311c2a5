/-
  Contracts: a tree marked.
-/
import Derived.Test.YtnfncjodmkhafaaEx4
set_option linter.all false
set_option linter.unusedSimpArgs false
set_option linter.unusedVariables false
namespace Go.AM
open Go.Proofs
attribute [local congr] ACalls_congr loopS_congr lenSlW_congr lenStrW_congr strW_congr ptrW_congr nilW_congr aggW_congr tupW_congr idxW_congr idxStrW_congr condA_congr optW_congr callW_congr iteW_congr opW_congr iA_congr wpS_congr guardW_congr pickW_congr slStrW_congr slSlW_congr makeW_congr
attribute [local push_cast] wpS_skip wpS_ops_h wpS_seq_h wpS_cond_h wpS_block_h wpS_exit wpS_ret wpS_loop_h thenA_n thenA_r thenA_e blockA_n blockA_r blockA_same blockA_ne retS_rp retS_np Mem.pop_push_ext Mem.pop_push Mem.pop_ext Mem.pop_self resOne_t resOne_cell cellR_t cellR_f Option.map_some tup1_1 tup1_2 iA_nil iA_cons_h iA_guard_h guardW_b condA_b putA_s putA_n evA_t evA_c evA_f List.set_cons_zero List.set_cons_succ List.getD_cons_zero List.getD_cons_succ List.map_cons List.map_nil List.mapM_cons List.mapM_nil List.cons_append List.nil_append List.append_nil List.length_cons List.length_nil List.replicate List.append_eq List.foldr_cons List.foldr_nil opW_mov_h opW_pick_h opW_newS_h opW_newH_h opW_boxS_h opW_boxH_h opW_build_h opW_mkSlice_h opW_load_h opW_loadN_h opW_store_h opW_nilCheck_h opW_bin_h opW_isNil_h opW_un_h opW_convI_h opW_convP_h opW_convBS_h opW_extract_h opW_fieldAddr_h opW_field1_h opW_fieldN_h opW_idxSl_h opW_idxStr_h opW_slStr_h opW_slSl_h opW_fn_h opW_make_h opW_lenStr_h opW_lenSl_h opW_append_h opW_appStr_h opW_call_h pickW_b optW_some boxW_h ptrW_p stW_h nilW_p nilW_f tupW_t aggW_a idxW_sh idxStrW_sh slStrW_sh slSlW_n slSlW_sh makeW_ih lenStrW_s lenSlW_s strW_s callW_fh boundA_n boundA_s intOf_i unA_neg unA_not isNilA_0n isNilA_0s isNilA_2n isNilA_2f isNilA_2g bin_add bin_sub bin_mul bin_lss bin_leq bin_gtr bin_geq bin_eql bin_neq bin_eqlS bin_neqS cells_b cells_i cells_f cells_s cells_p cells_sl cells_nf cells_fn cells_a List.all_cons List.all_nil okV_b okV_i okV_fl okV_s okV_pn okV_sn okV_p okV_pl okV_sl okV_nf okV_f okV_a okV_t okA_b okA_i okA_fl okA_s okA_pn okA_sn okA_p okA_sl okA_a okC_b okC_i okC_fl okC_s okC_pn okC_sn okC_p okC_pl okC_sl okC_nf okC_f okC0_b okC0_i okC0_s okC0_p okC0_pl List.toList_toArray Array.toList_empty decide_eq_true_eq decide_eq_false_iff_not Bool.not_eq_true' Bool.false_eq_true Bool.and_true Bool.true_and bne_self_eq_false Bool.bne_false Bool.bne_true true_and and_true Option.bind_eq_bind Option.bind_some Option.pure_def Option.some.injEq exists_eq_left' Option.isNone_none Option.isNone_some decide_true decide_false Mem.box_ext Mem.ext_box Mem.ext_ext Mem.ext_heap Mem.ext_len1 Mem.ext_len2 Mem.ext_len3 Mem.ext_len4 Mem.ext_len5 Mem.ext_len6 Mem.ext_len7 Mem.ext_len8 Mem.ext_len9 Mem.ext_len10 Mem.ext_len11 Mem.ext_len12 Mem.ext_pop Mem.self_pop Mem.ext_push Mem.ext_load Mem.ext_loads Mem.ext_load0 Mem.ext_loadj Mem.ext_loads0 Mem.ext_loadsj Mem.ext_store0 Mem.ext_storej Mem.stores_nil Mem.stores_cons List.getElem?_cons_zero List.getElem?_cons_succ List.getElem?_nil Nat.zero_add List.drop_zero List.drop_succ_cons List.take_succ_cons List.take_zero List.size_toArray Option.bind_fun_some Nat.add_assoc fillA_nil fillA_cons partsA_nil partsA_cons push_sliceCells byteA_i noPtr_b noPtr_i noPtr_f noPtr_s List.flatten_cons List.flatten_nil bin_rem bin_quo ne_eq not_false_eq_true and_self Nat.one_mul Nat.mul_one Nat.le_refl List.take_nil List.drop_nil Nat.add_zero Bool.not_true Bool.not_false Bool.true_eq_false false_and and_false Bool.false_and Bool.and_false Bool.false_or Bool.or_false Bool.true_or Bool.or_true guardW_tt guardW_tf guardW_ft guardW_ff guardW_uh condA_t condA_f hold_1 hold_2 hold_3 iteV_t iteV_f iteO_t iteO_f not_true_eq_false Int.toNat_natCast Int.toNat_natCast_add_one Int.toNat_zero Nat.sub_zero en35 en76 en34 en11 en60 en115 en116 en94 en95 en97 en96 en92 en131 en93 en142 en117 en77 en36 en12 en38 rt73a rt73s en78 en37 rt27a rt27s en13 en80 en48 en90 en129 en130 en128 en88 en89 en143 en118 en144 en119 en120 en145 en146 en162 en147 en121 en122 en123 en124 en79 en81 en39 en40 en14 en15 en82 en41 en16 en18 en83 en42 en17 en19 en4
attribute [local push_cast] andW_t iteH_t iteH_f
def PTree.marks (t : PTree) : Nat := sumAll PNode.marks t.nodes + t.tops.length
/-- A tree of its own, marked: all else stays. -/
theorem markTree_c {t : PTree} {cs : List Value} {fp : List Nat} {k : Int} {m : Mem} (hl : t.nodes.length + t.marks < 2 ^ 59) (h1 : 0 ≤ k) (h2 : k < 2 ^ 59) (h : isTreeO m cs t fp) (hnd : fp.Nodup) :
    ACalls Try.prog 17 [.agg cs.toArray, .int .i64 k] m (fun r m' => m.frame (· ∈ fp) m' ∧ m'.heap.length = m.heap.length ∧ r = .int .i64 (k + t.marks)) := by
  obtain ⟨a, b, f, g, rfl, ha, hb, rfl⟩ := h
  unfold PTree.marks at hl ⊢
  obtain ⟨n1, n2, n3⟩ := List.nodup_append.1 hnd
  refine acalls_of Try.func17 s17 ?_
  simp only [A17, ha.nodes.okC, hb.ints.okC, push_cast, Nat.reduceAdd, Nat.reduceMul, Nat.reduceLT, Nat.reduceLeDiff, Int.reduceEq, Nat.reduceEqDiff, reduceCtorEq]
  have ha' : NodesO (m.ext [[a, b]]) a t.nodes f := ha
  refine (markNodeS_c (by omega) h1 (by omega) ha' n1).mono ?_
  rintro r m' ⟨hfr, hlen, -, rfl⟩
  have hst : m' = ({ heap := m'.heap, stk := m.stk } : Mem).ext [[a, b]] := by
    have := hfr.stk
    cases m'
    simp only [Mem.ext] at this ⊢
    rw [this]
  generalize hm2 : ({ heap := m'.heap, stk := m.stk } : Mem) = m2 at hst
  have hfr2 : m.frame (· ∈ f) m2 := by
    subst hm2
    exact ⟨rfl, hfr.len, hfr.old⟩
  have hs2 : m2.stk = m.stk := by subst hm2; rfl
  subst hst
  have hb2 : IntsO m2 b t.tops g := hb.frame hfr2 fun c hc hc' => n3 c hc' c hc rfl
  rw [← hs2]
  ((try refine hold_top ?_); (try simp only [push_cast, Nat.reduceAdd, Nat.reduceMul, Nat.reduceLT, Nat.reduceLeDiff, Int.reduceEq, Nat.reduceEqDiff, reduceCtorEq]); (try (refine hold_top ?_; simp only [push_cast, Nat.reduceAdd, Nat.reduceMul, Nat.reduceLT, Nat.reduceLeDiff, Int.reduceEq, Nat.reduceEqDiff, reduceCtorEq])))
  have hb3 : IntsO (m2.ext [[a, b]]) b t.tops g := hb2
  refine (markIntS_c (by omega) (by omega) (by omega) hb3).mono ?_
  rintro r m3 ⟨hfr3, hlen3, -, rfl⟩
  ((try refine hold_top ?_); (try simp only [push_cast, Nat.reduceAdd, Nat.reduceMul, Nat.reduceLT, Nat.reduceLeDiff, Int.reduceEq, Nat.reduceEqDiff, reduceCtorEq]); (try (refine hold_top ?_; simp only [push_cast, Nat.reduceAdd, Nat.reduceMul, Nat.reduceLT, Nat.reduceLeDiff, Int.reduceEq, Nat.reduceEqDiff, reduceCtorEq])))
  refine ⟨⟨?_, ?_, ?_⟩, ?_, ?_⟩
  · show m3.stk.take _ = _
    rw [hfr3.stk, ← hs2]; simp [Mem.ext]
  · exact Nat.le_trans hfr2.len hfr3.len
  · intro i hi hn
    have e1 := hfr2.old i hi fun hc => hn (List.mem_append_left _ hc)
    have e2 := hfr3.old i (Nat.lt_of_lt_of_le hi hfr2.len) fun hc => hn (List.mem_append_right _ hc)
    exact e2.trans e1
  · exact hlen3.trans hlen
  · congr 1; omega
end Go.AM
