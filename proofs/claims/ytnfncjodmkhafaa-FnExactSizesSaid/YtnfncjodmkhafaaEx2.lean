/-
  Contracts: equality of what an exact law compares.
-/
import Derived.Test.YtnfncjodmkhafaaEx1
set_option linter.all false
set_option linter.unusedSimpArgs false
set_option linter.unusedVariables false
namespace Go.AM
open Go.Proofs
attribute [local congr] ACalls_congr loopS_congr lenSlW_congr lenStrW_congr strW_congr ptrW_congr nilW_congr aggW_congr tupW_congr idxW_congr idxStrW_congr condA_congr optW_congr callW_congr iteW_congr opW_congr iA_congr wpS_congr guardW_congr pickW_congr slStrW_congr slSlW_congr makeW_congr
attribute [local push_cast] wpS_skip wpS_ops_h wpS_seq_h wpS_cond_h wpS_block_h wpS_exit wpS_ret wpS_loop_h thenA_n thenA_r thenA_e blockA_n blockA_r blockA_same blockA_ne retS_rp retS_np Mem.pop_push_ext Mem.pop_push Mem.pop_ext Mem.pop_self resOne_t resOne_cell cellR_t cellR_f Option.map_some tup1_1 tup1_2 iA_nil iA_cons_h iA_guard_h guardW_b condA_b putA_s putA_n evA_t evA_c evA_f List.set_cons_zero List.set_cons_succ List.getD_cons_zero List.getD_cons_succ List.map_cons List.map_nil List.mapM_cons List.mapM_nil List.cons_append List.nil_append List.append_nil List.length_cons List.length_nil List.replicate List.append_eq List.foldr_cons List.foldr_nil opW_mov_h opW_pick_h opW_newS_h opW_newH_h opW_boxS_h opW_boxH_h opW_build_h opW_mkSlice_h opW_load_h opW_loadN_h opW_store_h opW_nilCheck_h opW_bin_h opW_isNil_h opW_un_h opW_convI_h opW_convP_h opW_convBS_h opW_extract_h opW_fieldAddr_h opW_field1_h opW_fieldN_h opW_idxSl_h opW_idxStr_h opW_slStr_h opW_slSl_h opW_fn_h opW_make_h opW_lenStr_h opW_lenSl_h opW_append_h opW_appStr_h opW_call_h pickW_b optW_some boxW_h ptrW_p stW_h nilW_p nilW_f tupW_t aggW_a idxW_sh idxStrW_sh slStrW_sh slSlW_n slSlW_sh makeW_ih lenStrW_s lenSlW_s strW_s callW_fh boundA_n boundA_s intOf_i unA_neg unA_not isNilA_0n isNilA_0s isNilA_2n isNilA_2f isNilA_2g bin_add bin_sub bin_mul bin_lss bin_leq bin_gtr bin_geq bin_eql bin_neq bin_eqlS bin_neqS cells_b cells_i cells_f cells_s cells_p cells_sl cells_nf cells_fn cells_a List.all_cons List.all_nil okV_b okV_i okV_fl okV_s okV_pn okV_sn okV_p okV_pl okV_sl okV_nf okV_f okV_a okV_t okA_b okA_i okA_fl okA_s okA_pn okA_sn okA_p okA_sl okA_a okC_b okC_i okC_fl okC_s okC_pn okC_sn okC_p okC_pl okC_sl okC_nf okC_f okC0_b okC0_i okC0_s okC0_p okC0_pl List.toList_toArray Array.toList_empty decide_eq_true_eq decide_eq_false_iff_not Bool.not_eq_true' Bool.false_eq_true Bool.and_true Bool.true_and bne_self_eq_false Bool.bne_false Bool.bne_true true_and and_true Option.bind_eq_bind Option.bind_some Option.pure_def Option.some.injEq exists_eq_left' Option.isNone_none Option.isNone_some decide_true decide_false Mem.box_ext Mem.ext_box Mem.ext_ext Mem.ext_heap Mem.ext_len1 Mem.ext_len2 Mem.ext_len3 Mem.ext_len4 Mem.ext_len5 Mem.ext_len6 Mem.ext_len7 Mem.ext_len8 Mem.ext_len9 Mem.ext_len10 Mem.ext_len11 Mem.ext_len12 Mem.ext_pop Mem.self_pop Mem.ext_push Mem.ext_load Mem.ext_loads Mem.ext_load0 Mem.ext_loadj Mem.ext_loads0 Mem.ext_loadsj Mem.ext_store0 Mem.ext_storej Mem.stores_nil Mem.stores_cons List.getElem?_cons_zero List.getElem?_cons_succ List.getElem?_nil Nat.zero_add List.drop_zero List.drop_succ_cons List.take_succ_cons List.take_zero List.size_toArray Option.bind_fun_some Nat.add_assoc fillA_nil fillA_cons partsA_nil partsA_cons push_sliceCells byteA_i noPtr_b noPtr_i noPtr_f noPtr_s List.flatten_cons List.flatten_nil bin_rem bin_quo ne_eq not_false_eq_true and_self Nat.one_mul Nat.mul_one Nat.le_refl List.take_nil List.drop_nil Nat.add_zero Bool.not_true Bool.not_false Bool.true_eq_false false_and and_false Bool.false_and Bool.and_false Bool.false_or Bool.or_false Bool.true_or Bool.or_true guardW_tt guardW_tf guardW_ft guardW_ff guardW_uh condA_t condA_f hold_1 hold_2 hold_3 iteV_t iteV_f iteO_t iteO_f not_true_eq_false Int.toNat_natCast Int.toNat_natCast_add_one Int.toNat_zero Nat.sub_zero en35 en76 en34 en11 en60 en115 en116 en94 en95 en97 en96 en92 en131 en93 en142 en117 en77 en36 en12 en38 rt73a rt73s en78 en37 rt27a rt27s en13 en80 en48 en90 en129 en130 en128 en88 en89 en143 en118 en144 en119 en120 en145 en146 en162 en147 en121 en122 en123 en124 en79 en81 en39 en40 en14 en15 en82 en41 en16 en18 en83 en42 en17 en19 en4
attribute [local push_cast] andW_t iteH_t iteH_f

theorem take_succ_eq {α : Type} {l k : List α} {i : Nat} (h1 : i < l.length) (h2 : i < k.length) (h : l.take i = k.take i) (h3 : l[i] = k[i]) : l.take (i + 1) = k.take (i + 1) := by
  rw [List.take_add_one, List.take_add_one, List.getElem?_eq_getElem h1, List.getElem?_eq_getElem h2, h, h3]
theorem eqIntS_c {l k : List Int} {v u : Value} {m : Mem} (hl : l.length < 2 ^ 62) (h : Ints m v l) (h' : Ints m u k) :
    ACalls Try.prog 15 [v, u] m (fun r m' => m' = m ∧ r = .bool (decide (l = k))) := by
  refine acalls_of Try.func15 s15 ?_
  have hs := Sl.lenW h
  have hs' := Sl.lenW h'
  simp only [A15, hs, hs', hs, hs, hs', hs', push_cast, Nat.reduceAdd, Nat.reduceMul, Nat.reduceLT, Nat.reduceLeDiff, Int.reduceEq, Nat.reduceEqDiff, reduceCtorEq]
  refine ite_h (fun h0 => ?_) fun h0 => ?_
  · ((try refine hold_top ?_); (try simp only [hs, hs, hs', hs', push_cast, Nat.reduceAdd, Nat.reduceMul, Nat.reduceLT, Nat.reduceLeDiff, Int.reduceEq, Nat.reduceEqDiff, reduceCtorEq]); (try (refine hold_top ?_; simp only [hs, hs, hs', hs', push_cast, Nat.reduceAdd, Nat.reduceMul, Nat.reduceLT, Nat.reduceLeDiff, Int.reduceEq, Nat.reduceEqDiff, reduceCtorEq])))
    congr 1
    rw [eq_comm, decide_eq_false_iff_not]
    rintro rfl
    exact h0 rfl
  · ((try refine hold_top ?_); (try simp only [hs, hs, hs', hs', push_cast, Nat.reduceAdd, Nat.reduceMul, Nat.reduceLT, Nat.reduceLeDiff, Int.reduceEq, Nat.reduceEqDiff, reduceCtorEq]); (try (refine hold_top ?_; simp only [hs, hs, hs', hs', push_cast, Nat.reduceAdd, Nat.reduceMul, Nat.reduceLT, Nat.reduceLeDiff, Int.reduceEq, Nat.reduceEqDiff, reduceCtorEq])))
    have hlen : l.length = k.length := by omega
    refine loopS_rule (σ := Int) (fun s g => E15_0 v u (.int .i64 s) g)
      (fun s m' => m' = m ∧ 0 ≤ s ∧ s ≤ l.length ∧ l.take s.toNat = k.take s.toNat) (fun s => l.length - s.toNat) 0 rfl ⟨rfl, by simp, by simp, by simp⟩ ?_
    rintro i g m' ⟨rfl, hi0, hi, ht⟩
    obtain ⟨i, rfl⟩ := Int.eq_ofNat_of_zero_le hi0
    rw [Int.toNat_natCast] at ht
    simp only [E15_0, push_cast, Nat.reduceAdd, Nat.reduceMul, Nat.reduceLT, Nat.reduceLeDiff, Int.reduceEq, Nat.reduceEqDiff, reduceCtorEq, hs]
    refine ite_h (fun hlt => ?_) fun hge => ?_
    · ((try refine hold_top ?_); (try simp only [hs, hs, hs', hs', push_cast, Nat.reduceAdd, Nat.reduceMul, Nat.reduceLT, Nat.reduceLeDiff, Int.reduceEq, Nat.reduceEqDiff, reduceCtorEq]); (try (refine hold_top ?_; simp only [hs, hs, hs', hs', push_cast, Nat.reduceAdd, Nat.reduceMul, Nat.reduceLT, Nat.reduceLeDiff, Int.reduceEq, Nat.reduceEqDiff, reduceCtorEq])))
      have hil : i < l.length := by omega
      have hik : i < k.length := by omega
      obtain ⟨b, off, ver, rfl, hld⟩ := Ints.get h hil
      obtain ⟨b', off', ver', rfl, hld'⟩ := Ints.get h' hik
      have hwi : IntKind.i64.wrap ((i : Int) + 1) = (i : Int) + 1 := w64_id (by omega) (by omega)
      have hti : ((i : Int) + 1).toNat = i + 1 := by omega
      ((try refine hold_top ?_); (try simp only [Int.toNat_natCast, Nat.mul_one, hld, hs, hs, hs', hs', Int.toNat_natCast, hld, hld', hwi, push_cast, Nat.reduceAdd, Nat.reduceMul, Nat.reduceLT, Nat.reduceLeDiff, Int.reduceEq, Nat.reduceEqDiff, reduceCtorEq]); (try (refine hold_top ?_; simp only [Int.toNat_natCast, Nat.mul_one, hld, hs, hs, hs', hs', Int.toNat_natCast, hld, hld', hwi, push_cast, Nat.reduceAdd, Nat.reduceMul, Nat.reduceLT, Nat.reduceLeDiff, Int.reduceEq, Nat.reduceEqDiff, reduceCtorEq])))
      refine andW_i (by omega) ?_
      ((try refine hold_top ?_); (try simp only [Int.toNat_natCast, Nat.mul_one, hld', hs, hs, hs', hs', Int.toNat_natCast, hld, hld', hwi, push_cast, Nat.reduceAdd, Nat.reduceMul, Nat.reduceLT, Nat.reduceLeDiff, Int.reduceEq, Nat.reduceEqDiff, reduceCtorEq]); (try (refine hold_top ?_; simp only [Int.toNat_natCast, Nat.mul_one, hld', hs, hs, hs', hs', Int.toNat_natCast, hld, hld', hwi, push_cast, Nat.reduceAdd, Nat.reduceMul, Nat.reduceLT, Nat.reduceLeDiff, Int.reduceEq, Nat.reduceEqDiff, reduceCtorEq])))
      refine andW_i (by omega) ?_
      ((try refine hold_top ?_); (try simp only [Int.toNat_natCast, Nat.mul_one, hld', hwi, hs, hs, hs', hs', Int.toNat_natCast, hld, hld', hwi, push_cast, Nat.reduceAdd, Nat.reduceMul, Nat.reduceLT, Nat.reduceLeDiff, Int.reduceEq, Nat.reduceEqDiff, reduceCtorEq]); (try (refine hold_top ?_; simp only [Int.toNat_natCast, Nat.mul_one, hld', hwi, hs, hs, hs', hs', Int.toNat_natCast, hld, hld', hwi, push_cast, Nat.reduceAdd, Nat.reduceMul, Nat.reduceLT, Nat.reduceLeDiff, Int.reduceEq, Nat.reduceEqDiff, reduceCtorEq])))
      refine ite_h (fun h1 => ?_) fun h1 => ?_
      · ((try refine hold_top ?_); (try simp only [hs, hs, hs', hs', Int.toNat_natCast, hld, hld', hwi, push_cast, Nat.reduceAdd, Nat.reduceMul, Nat.reduceLT, Nat.reduceLeDiff, Int.reduceEq, Nat.reduceEqDiff, reduceCtorEq]); (try (refine hold_top ?_; simp only [hs, hs, hs', hs', Int.toNat_natCast, hld, hld', hwi, push_cast, Nat.reduceAdd, Nat.reduceMul, Nat.reduceLT, Nat.reduceLeDiff, Int.reduceEq, Nat.reduceEqDiff, reduceCtorEq])))
        congr 1
        rw [eq_comm, decide_eq_false_iff_not]
        rintro rfl
        exact h1 rfl
      · ((try refine hold_top ?_); (try simp only [hs, hs, hs', hs', Int.toNat_natCast, hld, hld', hwi, push_cast, Nat.reduceAdd, Nat.reduceMul, Nat.reduceLT, Nat.reduceLeDiff, Int.reduceEq, Nat.reduceEqDiff, reduceCtorEq]); (try (refine hold_top ?_; simp only [hs, hs, hs', hs', Int.toNat_natCast, hld, hld', hwi, push_cast, Nat.reduceAdd, Nat.reduceMul, Nat.reduceLT, Nat.reduceLeDiff, Int.reduceEq, Nat.reduceEqDiff, reduceCtorEq])))
        refine ⟨(i : Int) + 1, rfl, by omega, by omega, by omega, ?_⟩
        rw [hti]
        exact take_succ_eq hil hik ht (by simpa using h1)
    · ((try refine hold_top ?_); (try simp only [hs, hs, hs', hs', push_cast, Nat.reduceAdd, Nat.reduceMul, Nat.reduceLT, Nat.reduceLeDiff, Int.reduceEq, Nat.reduceEqDiff, reduceCtorEq]); (try (refine hold_top ?_; simp only [hs, hs, hs', hs', push_cast, Nat.reduceAdd, Nat.reduceMul, Nat.reduceLT, Nat.reduceLeDiff, Int.reduceEq, Nat.reduceEqDiff, reduceCtorEq])))
      congr 1
      rw [List.take_of_length_le (by omega), List.take_of_length_le (by omega)] at ht
      simp [ht]

theorem eqNode_c {n n' : PNode} {cs cs' : List Value} {m : Mem} (hl : n.kids.length < 2 ^ 61) (h : isNode m cs n) (h' : isNode m cs' n') :
    ACalls Try.prog 82 [.agg cs.toArray, .agg cs'.toArray] m (fun r m' => m' = m ∧ r = .bool (decide (n.kind = n'.kind ∧ n.text = n'.text ∧ n.i = n'.i ∧ n.kids = n'.kids))) := by
  obtain ⟨k, rfl, hk⟩ := h
  obtain ⟨k', rfl, hk'⟩ := h'
  refine acalls_of Try.func82 s82 ?_
  simp only [A82, hk.okC, hk'.okC, push_cast, Nat.reduceAdd, Nat.reduceMul, Nat.reduceLT, Nat.reduceLeDiff, Int.reduceEq, Nat.reduceEqDiff, reduceCtorEq]
  refine ite_h (fun h0 => ?_) fun h0 => ?_
  · ((try refine hold_top ?_); (try simp only [push_cast, Nat.reduceAdd, Nat.reduceMul, Nat.reduceLT, Nat.reduceLeDiff, Int.reduceEq, Nat.reduceEqDiff, reduceCtorEq]); (try (refine hold_top ?_; simp only [push_cast, Nat.reduceAdd, Nat.reduceMul, Nat.reduceLT, Nat.reduceLeDiff, Int.reduceEq, Nat.reduceEqDiff, reduceCtorEq])))
    simp [h0]
  ((try refine hold_top ?_); (try simp only [push_cast, Nat.reduceAdd, Nat.reduceMul, Nat.reduceLT, Nat.reduceLeDiff, Int.reduceEq, Nat.reduceEqDiff, reduceCtorEq]); (try (refine hold_top ?_; simp only [push_cast, Nat.reduceAdd, Nat.reduceMul, Nat.reduceLT, Nat.reduceLeDiff, Int.reduceEq, Nat.reduceEqDiff, reduceCtorEq])))
  refine ite_h (fun h1 => ?_) fun h1 => ?_
  · ((try refine hold_top ?_); (try simp only [push_cast, Nat.reduceAdd, Nat.reduceMul, Nat.reduceLT, Nat.reduceLeDiff, Int.reduceEq, Nat.reduceEqDiff, reduceCtorEq]); (try (refine hold_top ?_; simp only [push_cast, Nat.reduceAdd, Nat.reduceMul, Nat.reduceLT, Nat.reduceLeDiff, Int.reduceEq, Nat.reduceEqDiff, reduceCtorEq])))
    simp [h1]
  ((try refine hold_top ?_); (try simp only [push_cast, Nat.reduceAdd, Nat.reduceMul, Nat.reduceLT, Nat.reduceLeDiff, Int.reduceEq, Nat.reduceEqDiff, reduceCtorEq]); (try (refine hold_top ?_; simp only [push_cast, Nat.reduceAdd, Nat.reduceMul, Nat.reduceLT, Nat.reduceLeDiff, Int.reduceEq, Nat.reduceEqDiff, reduceCtorEq])))
  refine ite_h (fun h2 => ?_) fun h2 => ?_
  · ((try refine hold_top ?_); (try simp only [push_cast, Nat.reduceAdd, Nat.reduceMul, Nat.reduceLT, Nat.reduceLeDiff, Int.reduceEq, Nat.reduceEqDiff, reduceCtorEq]); (try (refine hold_top ?_; simp only [push_cast, Nat.reduceAdd, Nat.reduceMul, Nat.reduceLT, Nat.reduceLeDiff, Int.reduceEq, Nat.reduceEqDiff, reduceCtorEq])))
    simp [h2]
  ((try refine hold_top ?_); (try simp only [push_cast, Nat.reduceAdd, Nat.reduceMul, Nat.reduceLT, Nat.reduceLeDiff, Int.reduceEq, Nat.reduceEqDiff, reduceCtorEq]); (try (refine hold_top ?_; simp only [push_cast, Nat.reduceAdd, Nat.reduceMul, Nat.reduceLT, Nat.reduceLeDiff, Int.reduceEq, Nat.reduceEqDiff, reduceCtorEq])))
  refine (eqIntS_c (by omega) (hk.ext _) (hk'.ext _)).mono ?_
  rintro r m' ⟨rfl, rfl⟩
  ((try refine hold_top ?_); (try simp only [push_cast, Nat.reduceAdd, Nat.reduceMul, Nat.reduceLT, Nat.reduceLeDiff, Int.reduceEq, Nat.reduceEqDiff, reduceCtorEq]); (try (refine hold_top ?_; simp only [push_cast, Nat.reduceAdd, Nat.reduceMul, Nat.reduceLT, Nat.reduceLeDiff, Int.reduceEq, Nat.reduceEqDiff, reduceCtorEq])))
  simp at h0 h1 h2
  refine ite_h (fun h9 => ?_) fun h9 => ?_
  all_goals ((try refine hold_top ?_); (try simp only [push_cast, Nat.reduceAdd, Nat.reduceMul, Nat.reduceLT, Nat.reduceLeDiff, Int.reduceEq, Nat.reduceEqDiff, reduceCtorEq]); (try (refine hold_top ?_; simp only [push_cast, Nat.reduceAdd, Nat.reduceMul, Nat.reduceLT, Nat.reduceLeDiff, Int.reduceEq, Nat.reduceEqDiff, reduceCtorEq])))
  · have h9 : ¬ n.kids = n'.kids := by simpa using h9
    simp [h9]
  · have h9 : n.kids = n'.kids := by simpa using h9
    simp [h0, h1, h2, h9]

def PNode.same (n n' : PNode) : Bool := decide (n.kind = n'.kind ∧ n.text = n'.text ∧ n.i = n'.i ∧ n.kids = n'.kids)
theorem PNode.same_iff {n n' : PNode} : n.same n' = true ↔ n = n' := by
  cases n; cases n'; simp [PNode.same]
instance : DecidableEq PNode := fun a b => if h : a.same b = true then .isTrue (PNode.same_iff.1 h) else .isFalse fun e => h (PNode.same_iff.2 e)
theorem eqNode_c' {n n' : PNode} {cs cs' : List Value} {m : Mem} (hl : n.kids.length < 2 ^ 61) (h : isNode m cs n) (h' : isNode m cs' n') :
    ACalls Try.prog 82 [.agg cs.toArray, .agg cs'.toArray] m (fun r m' => m' = m ∧ r = .bool (decide (n = n'))) := by
  refine (eqNode_c hl h h').mono ?_
  rintro r m' ⟨rfl, rfl⟩
  refine ⟨rfl, ?_⟩
  congr 1
  cases n; cases n'; simp
theorem eqNodeS_c {l k : List PNode} {v u : Value} {m : Mem} (hl : nodesSize l < 2 ^ 61) (h : Nodes m v l) (h' : Nodes m u k) :
    ACalls Try.prog 41 [v, u] m (fun r m' => m' = m ∧ r = .bool (decide (l = k))) := by
  unfold nodesSize at hl
  refine acalls_of Try.func41 s41 ?_
  have hs := Sl.lenW h
  have hs' := Sl.lenW h'
  simp only [A41, hs, hs', hs, hs, hs', hs', push_cast, Nat.reduceAdd, Nat.reduceMul, Nat.reduceLT, Nat.reduceLeDiff, Int.reduceEq, Nat.reduceEqDiff, reduceCtorEq]
  refine ite_h (fun h0 => ?_) fun h0 => ?_
  · ((try refine hold_top ?_); (try simp only [hs, hs, hs', hs', push_cast, Nat.reduceAdd, Nat.reduceMul, Nat.reduceLT, Nat.reduceLeDiff, Int.reduceEq, Nat.reduceEqDiff, reduceCtorEq]); (try (refine hold_top ?_; simp only [hs, hs, hs', hs', push_cast, Nat.reduceAdd, Nat.reduceMul, Nat.reduceLT, Nat.reduceLeDiff, Int.reduceEq, Nat.reduceEqDiff, reduceCtorEq])))
    congr 1
    rw [eq_comm, decide_eq_false_iff_not]
    rintro rfl
    exact h0 rfl
  · ((try refine hold_top ?_); (try simp only [hs, hs, hs', hs', push_cast, Nat.reduceAdd, Nat.reduceMul, Nat.reduceLT, Nat.reduceLeDiff, Int.reduceEq, Nat.reduceEqDiff, reduceCtorEq]); (try (refine hold_top ?_; simp only [hs, hs, hs', hs', push_cast, Nat.reduceAdd, Nat.reduceMul, Nat.reduceLT, Nat.reduceLeDiff, Int.reduceEq, Nat.reduceEqDiff, reduceCtorEq])))
    have hlen : l.length = k.length := by omega
    refine loopS_rule (σ := Int) (fun s g => E41_0 v u (.int .i64 s) g)
      (fun s m' => m' = m ∧ 0 ≤ s ∧ s ≤ l.length ∧ l.take s.toNat = k.take s.toNat) (fun s => l.length - s.toNat) 0 rfl ⟨rfl, by simp, by simp, by simp⟩ ?_
    rintro i g m' ⟨rfl, hi0, hi, ht⟩
    obtain ⟨i, rfl⟩ := Int.eq_ofNat_of_zero_le hi0
    rw [Int.toNat_natCast] at ht
    simp only [E41_0, hs, hs, hs, hs', hs', push_cast, Nat.reduceAdd, Nat.reduceMul, Nat.reduceLT, Nat.reduceLeDiff, Int.reduceEq, Nat.reduceEqDiff, reduceCtorEq]
    refine ite_h (fun hlt => ?_) fun hge => ?_
    · ((try refine hold_top ?_); (try simp only [hs, hs, hs', hs', push_cast, Nat.reduceAdd, Nat.reduceMul, Nat.reduceLT, Nat.reduceLeDiff, Int.reduceEq, Nat.reduceEqDiff, reduceCtorEq]); (try (refine hold_top ?_; simp only [hs, hs, hs', hs', push_cast, Nat.reduceAdd, Nat.reduceMul, Nat.reduceLT, Nat.reduceLeDiff, Int.reduceEq, Nat.reduceEqDiff, reduceCtorEq])))
      have hil : i < l.length := by omega
      have hik : i < k.length := by omega
      obtain ⟨b, off, ver, cs, rfl, hld, hr, hcl, _⟩ := Sl.get h hil
      obtain ⟨b', off', ver', cs', rfl, hld', hr', hcl', _⟩ := Sl.get h' hik
      have hwi : IntKind.i64.wrap ((i : Int) + 1) = (i : Int) + 1 := w64_id (by omega) (by omega)
      have hti : ((i : Int) + 1).toNat = i + 1 := by omega
      ((try refine hold_top ?_); (try simp only [Int.toNat_natCast, Nat.mul_one, hld, hs, hs, hs', hs', Int.toNat_natCast, hld, hld', hwi, push_cast, Nat.reduceAdd, Nat.reduceMul, Nat.reduceLT, Nat.reduceLeDiff, Int.reduceEq, Nat.reduceEqDiff, reduceCtorEq]); (try (refine hold_top ?_; simp only [Int.toNat_natCast, Nat.mul_one, hld, hs, hs, hs', hs', Int.toNat_natCast, hld, hld', hwi, push_cast, Nat.reduceAdd, Nat.reduceMul, Nat.reduceLT, Nat.reduceLeDiff, Int.reduceEq, Nat.reduceEqDiff, reduceCtorEq])))
      refine andW_i (by omega) ?_
      ((try refine hold_top ?_); (try simp only [Int.toNat_natCast, Nat.mul_one, hld, hs, hs, hs', hs', Int.toNat_natCast, hld, hld', hwi, push_cast, Nat.reduceAdd, Nat.reduceMul, Nat.reduceLT, Nat.reduceLeDiff, Int.reduceEq, Nat.reduceEqDiff, reduceCtorEq]); (try (refine hold_top ?_; simp only [Int.toNat_natCast, Nat.mul_one, hld, hs, hs, hs', hs', Int.toNat_natCast, hld, hld', hwi, push_cast, Nat.reduceAdd, Nat.reduceMul, Nat.reduceLT, Nat.reduceLeDiff, Int.reduceEq, Nat.reduceEqDiff, reduceCtorEq])))
      refine andW_i (by omega) ?_
      ((try refine hold_top ?_); (try simp only [Int.toNat_natCast, Nat.mul_one, hld', hwi, hs, hs, hs', hs', Int.toNat_natCast, hld, hld', hwi, push_cast, Nat.reduceAdd, Nat.reduceMul, Nat.reduceLT, Nat.reduceLeDiff, Int.reduceEq, Nat.reduceEqDiff, reduceCtorEq]); (try (refine hold_top ?_; simp only [Int.toNat_natCast, Nat.mul_one, hld', hwi, hs, hs, hs', hs', Int.toNat_natCast, hld, hld', hwi, push_cast, Nat.reduceAdd, Nat.reduceMul, Nat.reduceLT, Nat.reduceLeDiff, Int.reduceEq, Nat.reduceEqDiff, reduceCtorEq])))
      have hsz := sumTo_le PNode.size l (i + 1)
      rw [sumTo_succ _ _ _ hil] at hsz
      refine (eqNode_c' (by have : l[i].size = l[i].text.size + l[i].kids.length := rfl; omega) hr hr').mono ?_
      rintro r m'' ⟨rfl, rfl⟩
      ((try refine hold_top ?_); (try simp only [hwi, hs, hs, hs', hs', Int.toNat_natCast, hld, hld', hwi, push_cast, Nat.reduceAdd, Nat.reduceMul, Nat.reduceLT, Nat.reduceLeDiff, Int.reduceEq, Nat.reduceEqDiff, reduceCtorEq]); (try (refine hold_top ?_; simp only [hwi, hs, hs, hs', hs', Int.toNat_natCast, hld, hld', hwi, push_cast, Nat.reduceAdd, Nat.reduceMul, Nat.reduceLT, Nat.reduceLeDiff, Int.reduceEq, Nat.reduceEqDiff, reduceCtorEq])))
      refine ite_h (fun h1 => ?_) fun h1 => ?_
      · ((try refine hold_top ?_); (try simp only [hs, hs, hs', hs', Int.toNat_natCast, hld, hld', hwi, push_cast, Nat.reduceAdd, Nat.reduceMul, Nat.reduceLT, Nat.reduceLeDiff, Int.reduceEq, Nat.reduceEqDiff, reduceCtorEq]); (try (refine hold_top ?_; simp only [hs, hs, hs', hs', Int.toNat_natCast, hld, hld', hwi, push_cast, Nat.reduceAdd, Nat.reduceMul, Nat.reduceLT, Nat.reduceLeDiff, Int.reduceEq, Nat.reduceEqDiff, reduceCtorEq])))
        congr 1
        rw [eq_comm, decide_eq_false_iff_not]
        rintro rfl
        simp at h1
      · ((try refine hold_top ?_); (try simp only [hs, hs, hs', hs', Int.toNat_natCast, hld, hld', hwi, push_cast, Nat.reduceAdd, Nat.reduceMul, Nat.reduceLT, Nat.reduceLeDiff, Int.reduceEq, Nat.reduceEqDiff, reduceCtorEq]); (try (refine hold_top ?_; simp only [hs, hs, hs', hs', Int.toNat_natCast, hld, hld', hwi, push_cast, Nat.reduceAdd, Nat.reduceMul, Nat.reduceLT, Nat.reduceLeDiff, Int.reduceEq, Nat.reduceEqDiff, reduceCtorEq])))
        refine ⟨(i : Int) + 1, rfl, by omega, by omega, by omega, ?_⟩
        rw [hti]
        exact take_succ_eq hil hik ht (by simpa using h1)
    · ((try refine hold_top ?_); (try simp only [hs, hs, hs', hs', push_cast, Nat.reduceAdd, Nat.reduceMul, Nat.reduceLT, Nat.reduceLeDiff, Int.reduceEq, Nat.reduceEqDiff, reduceCtorEq]); (try (refine hold_top ?_; simp only [hs, hs, hs', hs', push_cast, Nat.reduceAdd, Nat.reduceMul, Nat.reduceLT, Nat.reduceLeDiff, Int.reduceEq, Nat.reduceEqDiff, reduceCtorEq])))
      congr 1
      rw [List.take_of_length_le (by omega), List.take_of_length_le (by omega)] at ht
      simp [ht]
instance : DecidableEq PTree := fun a b => if h : a.nodes = b.nodes ∧ a.tops = b.tops then .isTrue (by cases a; cases b; simp_all) else .isFalse fun e => h (by simp [e])
theorem eqTree_c {t t' : PTree} {cs cs' : List Value} {m : Mem} (hl : t.size < 2 ^ 61) (h : isTree m cs t) (h' : isTree m cs' t') :
    ACalls Try.prog 16 [.agg cs.toArray, .agg cs'.toArray] m (fun r m' => m' = m ∧ r = .bool (decide (t = t'))) := by
  obtain ⟨a, b, rfl, ha, hb⟩ := h
  obtain ⟨a', b', rfl, ha', hb'⟩ := h'
  unfold PTree.size at hl
  refine acalls_of Try.func16 s16 ?_
  simp only [A16, ha.okC, hb.okC, ha'.okC, hb'.okC, push_cast, Nat.reduceAdd, Nat.reduceMul, Nat.reduceLT, Nat.reduceLeDiff, Int.reduceEq, Nat.reduceEqDiff, reduceCtorEq]
  refine (eqNodeS_c (by omega) (ha.ext _) (ha'.ext _)).mono ?_
  rintro r m' ⟨rfl, rfl⟩
  ((try refine hold_top ?_); (try simp only [push_cast, Nat.reduceAdd, Nat.reduceMul, Nat.reduceLT, Nat.reduceLeDiff, Int.reduceEq, Nat.reduceEqDiff, reduceCtorEq]); (try (refine hold_top ?_; simp only [push_cast, Nat.reduceAdd, Nat.reduceMul, Nat.reduceLT, Nat.reduceLeDiff, Int.reduceEq, Nat.reduceEqDiff, reduceCtorEq])))
  refine ite_h (fun h1 => ?_) fun h1 => ?_
  · ((try refine hold_top ?_); (try simp only [push_cast, Nat.reduceAdd, Nat.reduceMul, Nat.reduceLT, Nat.reduceLeDiff, Int.reduceEq, Nat.reduceEqDiff, reduceCtorEq]); (try (refine hold_top ?_; simp only [push_cast, Nat.reduceAdd, Nat.reduceMul, Nat.reduceLT, Nat.reduceLeDiff, Int.reduceEq, Nat.reduceEqDiff, reduceCtorEq])))
    cases t; cases t'; simp_all
  ((try refine hold_top ?_); (try simp only [push_cast, Nat.reduceAdd, Nat.reduceMul, Nat.reduceLT, Nat.reduceLeDiff, Int.reduceEq, Nat.reduceEqDiff, reduceCtorEq]); (try (refine hold_top ?_; simp only [push_cast, Nat.reduceAdd, Nat.reduceMul, Nat.reduceLT, Nat.reduceLeDiff, Int.reduceEq, Nat.reduceEqDiff, reduceCtorEq])))
  refine (eqIntS_c (by omega) (hb.ext _) (hb'.ext _)).mono ?_
  rintro r m' ⟨rfl, rfl⟩
  ((try refine hold_top ?_); (try simp only [push_cast, Nat.reduceAdd, Nat.reduceMul, Nat.reduceLT, Nat.reduceLeDiff, Int.reduceEq, Nat.reduceEqDiff, reduceCtorEq]); (try (refine hold_top ?_; simp only [push_cast, Nat.reduceAdd, Nat.reduceMul, Nat.reduceLT, Nat.reduceLeDiff, Int.reduceEq, Nat.reduceEqDiff, reduceCtorEq])))
  refine ite_h (fun h9 => ?_) fun h9 => ?_
  all_goals ((try refine hold_top ?_); (try simp only [push_cast, Nat.reduceAdd, Nat.reduceMul, Nat.reduceLT, Nat.reduceLeDiff, Int.reduceEq, Nat.reduceEqDiff, reduceCtorEq]); (try (refine hold_top ?_; simp only [push_cast, Nat.reduceAdd, Nat.reduceMul, Nat.reduceLT, Nat.reduceLeDiff, Int.reduceEq, Nat.reduceEqDiff, reduceCtorEq])))
  · have h9 : ¬ t.tops = t'.tops := by simpa using h9
    congr 1
    rw [eq_comm, decide_eq_false_iff_not]
    rintro rfl
    exact h9 rfl
  · have h9 : t.tops = t'.tops := by simpa using h9
    have h1 : t.nodes = t'.nodes := by simpa using h1
    cases t; cases t'; simp_all
end Go.AM
