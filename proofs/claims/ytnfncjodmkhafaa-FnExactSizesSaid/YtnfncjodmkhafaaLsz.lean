/-
  The law of the sizes: what it comes to.
-/
import Derived.Test.YtnfncjodmkhafaaAm18
import Derived.Test.YtnfncjodmkhafaaAm19
import Derived.Test.YtnfncjodmkhafaaTs5
import Derived.Test.YtnfncjodmkhafaaTsz
import Derived.Test.YtnfncjodmkhafaaEx5
import Derived.Test.YtnfncjodmkhafaaPz3
set_option linter.all false
set_option linter.unusedSimpArgs false
set_option linter.unusedVariables false
namespace Go.AM
open Go.Proofs
attribute [local congr] ACalls_congr loopS_congr lenSlW_congr lenStrW_congr strW_congr ptrW_congr nilW_congr aggW_congr tupW_congr idxW_congr idxStrW_congr condA_congr optW_congr callW_congr iteW_congr opW_congr iA_congr wpS_congr guardW_congr pickW_congr slStrW_congr slSlW_congr makeW_congr
attribute [local push_cast] wpS_skip wpS_ops_h wpS_seq_h wpS_cond_h wpS_block_h wpS_exit wpS_ret wpS_loop_h thenA_n thenA_r thenA_e blockA_n blockA_r blockA_same blockA_ne retS_rp retS_np Mem.pop_push_ext Mem.pop_push Mem.pop_ext Mem.pop_self resOne_t resOne_cell cellR_t cellR_f Option.map_some tup1_1 tup1_2 iA_nil iA_cons_h iA_guard_h guardW_b condA_b putA_s putA_n evA_t evA_c evA_f List.set_cons_zero List.set_cons_succ List.getD_cons_zero List.getD_cons_succ List.map_cons List.map_nil List.mapM_cons List.mapM_nil List.cons_append List.nil_append List.append_nil List.length_cons List.length_nil List.replicate List.append_eq List.foldr_cons List.foldr_nil opW_mov_h opW_pick_h opW_newS_h opW_newH_h opW_boxS_h opW_boxH_h opW_build_h opW_mkSlice_h opW_load_h opW_loadN_h opW_store_h opW_nilCheck_h opW_bin_h opW_isNil_h opW_un_h opW_convI_h opW_convP_h opW_convBS_h opW_extract_h opW_fieldAddr_h opW_field1_h opW_fieldN_h opW_idxSl_h opW_idxStr_h opW_slStr_h opW_slSl_h opW_fn_h opW_make_h opW_lenStr_h opW_lenSl_h opW_append_h opW_appStr_h opW_call_h pickW_b optW_some boxW_h ptrW_p stW_h nilW_p nilW_f tupW_t aggW_a idxW_sh idxStrW_sh slStrW_sh slSlW_n slSlW_sh makeW_ih lenStrW_s lenSlW_s strW_s callW_fh boundA_n boundA_s intOf_i unA_neg unA_not isNilA_0n isNilA_0s isNilA_2n isNilA_2f isNilA_2g bin_add bin_sub bin_mul bin_lss bin_leq bin_gtr bin_geq bin_eql bin_neq bin_eqlS bin_neqS cells_b cells_i cells_f cells_s cells_p cells_sl cells_nf cells_fn cells_a List.all_cons List.all_nil okV_b okV_i okV_fl okV_s okV_pn okV_sn okV_p okV_pl okV_sl okV_nf okV_f okV_a okV_t okA_b okA_i okA_fl okA_s okA_pn okA_sn okA_p okA_sl okA_a okC_b okC_i okC_fl okC_s okC_pn okC_sn okC_p okC_pl okC_sl okC_nf okC_f okC0_b okC0_i okC0_s okC0_p okC0_pl List.toList_toArray Array.toList_empty decide_eq_true_eq decide_eq_false_iff_not Bool.not_eq_true' Bool.false_eq_true Bool.and_true Bool.true_and bne_self_eq_false Bool.bne_false Bool.bne_true true_and and_true Option.bind_eq_bind Option.bind_some Option.pure_def Option.some.injEq exists_eq_left' Option.isNone_none Option.isNone_some decide_true decide_false Mem.box_ext Mem.ext_box Mem.ext_ext Mem.ext_heap Mem.ext_len1 Mem.ext_len2 Mem.ext_len3 Mem.ext_len4 Mem.ext_len5 Mem.ext_len6 Mem.ext_len7 Mem.ext_len8 Mem.ext_len9 Mem.ext_len10 Mem.ext_len11 Mem.ext_len12 Mem.ext_pop Mem.self_pop Mem.ext_push Mem.ext_load Mem.ext_loads Mem.ext_load0 Mem.ext_loadj Mem.ext_loads0 Mem.ext_loadsj Mem.ext_store0 Mem.ext_storej Mem.stores_nil Mem.stores_cons List.getElem?_cons_zero List.getElem?_cons_succ List.getElem?_nil Nat.zero_add List.drop_zero List.drop_succ_cons List.take_succ_cons List.take_zero List.size_toArray Option.bind_fun_some Nat.add_assoc fillA_nil fillA_cons partsA_nil partsA_cons push_sliceCells byteA_i noPtr_b noPtr_i noPtr_f noPtr_s List.flatten_cons List.flatten_nil bin_rem bin_quo ne_eq not_false_eq_true and_self Nat.one_mul Nat.mul_one Nat.le_refl List.take_nil List.drop_nil Nat.add_zero Bool.not_true Bool.not_false Bool.true_eq_false false_and and_false Bool.false_and Bool.and_false Bool.false_or Bool.or_false Bool.true_or Bool.or_true guardW_tt guardW_tf guardW_ft guardW_ff guardW_uh condA_t condA_f hold_1 hold_2 hold_3 iteV_t iteV_f iteO_t iteO_f not_true_eq_false Int.toNat_natCast Int.toNat_natCast_add_one Int.toNat_zero Nat.sub_zero en35 en76 en34 en11 en60 en115 en116 en94 en95 en97 en96 en92 en131 en93 en142 en117 en77 en36 en12 en38 rt73a rt73s en78 en37 rt27a rt27s en13 en80 en48 en90 en129 en130 en128 en88 en89 en143 en118 en144 en119 en120 en145 en146 en162 en147 en121 en122 en123 en124 en79 en81 en39 en40 en14 en15 en82 en41 en16 en18 en83 en42 en17 en19 en4
attribute [local push_cast] andW_t iteH_t iteH_f
attribute [local congr] wpDT_congr
attribute [local push_cast] wpS_draw_h wpDT_done wpDT_step wpDT_alt Mem.push_ext_loadS Mem.push_ext_loadsS Mem.push_ext_store0 Mem.push_ext_storej
attribute [local push_cast] Mem.ext_sliceCells
theorem Mem.sub.frameS {m0 m m' : Mem} {S : Nat → Prop} (h : m0.sub m) (hf : m.frame S m') (hb : ∀ b, S b → m0.heap.length ≤ b) : m0.sub m' := by
  obtain ⟨⟨e, he⟩, ⟨s, hs⟩⟩ := h
  refine ⟨⟨m'.heap.drop m0.heap.length, ?_⟩, ⟨s, by rw [hf.stk, hs]⟩⟩
  have hl : m0.heap.length ≤ m'.heap.length := by have := hf.len; rw [he] at this; simp at this; omega
  apply List.ext_getElem?
  intro i
  rw [List.getElem?_append]
  split
  · rename_i hi
    rw [hf.old i (by rw [he]; simp; omega) (fun h => by have := hb i h; omega), he, List.getElem?_append_left hi]
  · rename_i hi
    rw [List.getElem?_drop]; congr 1; omega
theorem szR_ok {n : Nat} (h : ¬ szR 1048576 n < 0) : n ≤ 1048576 := by
  unfold szR at h
  split at h <;> omega
theorem isTreeO.len2 {m : Mem} {cs : List Value} {t : PTree} {fp : List Nat} (h : isTreeO m cs t fp) : ∃ a b, cs = [a, b] ∧ a.cells = #[a] ∧ b.cells = #[b] ∧ (∀ n, okC n a = true) ∧ ∀ n, okC n b = true := by
  obtain ⟨a, b, f, g, rfl, h1, h2, _⟩ := h
  exact ⟨a, b, rfl, h1.nodes.cells, h2.ints.cells, h1.nodes.okC, h2.ints.okC⟩
theorem marks_le {t : PTree} : t.nodes.length + t.marks ≤ 4 * t.size + 4 := by
  have key : ∀ l : List PNode, l.length + sumAll PNode.marks l ≤ 4 * nodesSize l := by
    intro l
    induction l with
    | nil => simp [sumAll, nodesSize]
    | cons n l ih =>
      simp only [sumAll, nodesSize, List.map_cons, List.sum_cons, List.length_cons, PNode.marks, PNode.size] at ih ⊢
      omega
  have := key t.nodes
  unfold PTree.marks PTree.size
  omega
theorem sizesP_len {t : PTree} : (sizesP t).length ≤ t.size := by
  unfold sizesP PTree.size
  split <;> simp
  try omega
theorem Mem.sub_ext_ext (m : Mem) (l k : List (List Value)) : (m.ext l).sub (m.ext (l ++ k)) := ⟨⟨[], by simp [Mem.ext]⟩, ⟨k, by simp [Mem.ext]⟩⟩
set_option maxHeartbeats 2000000 in
theorem lawSizes_c {m : Mem} {cs : List Value} {t : PTree} (hsz : t.fine) (h : isTree m cs t) :
    ACalls Try.prog 4 [.agg cs.toArray] m (Same m (.bool true)) := by
  have same := sizes_same t
  refine ACalls.gc ?_
  obtain ⟨a, b, rfl, hn, ht⟩ := id h
  have htree : ∀ {k : Mem}, m.sub k → isTree k [a, b] t := fun hk => h.sub hk
  refine acalls_of Try.func4 s4 ?_
  simp only [A4, hn.okC, ht.okC, push_cast, Nat.reduceAdd, Nat.reduceMul, Nat.reduceLT, Nat.reduceLeDiff, Int.reduceEq, Nat.reduceEqDiff, reduceCtorEq]
  refine (szTree_c hsz (by omega) (by omega) (htree (by repeat (first | exact Mem.sub.refl _ | apply Mem.sub.to_ext | apply Mem.sub.to_push | with_reducible assumption)))).mono ?_
  rintro _ _ ⟨rfl, rfl⟩
  ((try refine hold_top ?_); (try simp only [hn.okC, ht.okC, push_cast, Nat.reduceAdd, Nat.reduceMul, Nat.reduceLT, Nat.reduceLeDiff, Int.reduceEq, Nat.reduceEqDiff, reduceCtorEq]); (try (refine hold_top ?_; simp only [hn.okC, ht.okC, push_cast, Nat.reduceAdd, Nat.reduceMul, Nat.reduceLT, Nat.reduceLeDiff, Int.reduceEq, Nat.reduceEqDiff, reduceCtorEq])))
  repeat' (first | (with_reducible refine altW_i ?_ ?_ <;> ((try refine hold_top ?_); (try simp only [hn.okC, ht.okC, push_cast, Nat.reduceAdd, Nat.reduceMul, Nat.reduceLT, Nat.reduceLeDiff, Int.reduceEq, Nat.reduceEqDiff, reduceCtorEq]); (try (refine hold_top ?_; simp only [hn.okC, ht.okC, push_cast, Nat.reduceAdd, Nat.reduceMul, Nat.reduceLT, Nat.reduceLeDiff, Int.reduceEq, Nat.reduceEqDiff, reduceCtorEq])))) | (with_reducible refine andW_i ?_ ?_; (focus (first | omega | (with_reducible assumption) | (with_reducible exact flat_i) | (with_reducible rfl))); ((try refine hold_top ?_); (try simp only [hn.okC, ht.okC, push_cast, Nat.reduceAdd, Nat.reduceMul, Nat.reduceLT, Nat.reduceLeDiff, Int.reduceEq, Nat.reduceEqDiff, reduceCtorEq]); (try (refine hold_top ?_; simp only [hn.okC, ht.okC, push_cast, Nat.reduceAdd, Nat.reduceMul, Nat.reduceLT, Nat.reduceLeDiff, Int.reduceEq, Nat.reduceEqDiff, reduceCtorEq])))) | (with_reducible refine optW_get ?_ ?_; (focus omega); ((try refine hold_top ?_); (try simp only [hn.okC, ht.okC, push_cast, Nat.reduceAdd, Nat.reduceMul, Nat.reduceLT, Nat.reduceLeDiff, Int.reduceEq, Nat.reduceEqDiff, reduceCtorEq]); (try (refine hold_top ?_; simp only [hn.okC, ht.okC, push_cast, Nat.reduceAdd, Nat.reduceMul, Nat.reduceLT, Nat.reduceLeDiff, Int.reduceEq, Nat.reduceEqDiff, reduceCtorEq])))) | (with_reducible refine ite_hB (fun h => ?_) (fun h => ?_) <;> ((try rw [h]); (try simp only [Bool.and_eq_true, Bool.or_eq_true, Bool.not_eq_true', Bool.not_eq_false', Bool.and_eq_false_iff, Bool.or_eq_false_iff, decide_eq_true_eq, decide_eq_false_iff_not] at h); ((try refine hold_top ?_); (try simp only [hn.okC, ht.okC, push_cast, Nat.reduceAdd, Nat.reduceMul, Nat.reduceLT, Nat.reduceLeDiff, Int.reduceEq, Nat.reduceEqDiff, reduceCtorEq]); (try (refine hold_top ?_; simp only [hn.okC, ht.okC, push_cast, Nat.reduceAdd, Nat.reduceMul, Nat.reduceLT, Nat.reduceLeDiff, Int.reduceEq, Nat.reduceEqDiff, reduceCtorEq]))))) | (with_reducible refine ite_hF (fun h => ?_) (fun h => ?_) <;> ((try rw [h]); (try simp only [Bool.and_eq_true, Bool.or_eq_true, Bool.not_eq_true', Bool.not_eq_false', Bool.and_eq_false_iff, Bool.or_eq_false_iff, decide_eq_true_eq, decide_eq_false_iff_not] at h); ((try refine hold_top ?_); (try simp only [hn.okC, ht.okC, push_cast, Nat.reduceAdd, Nat.reduceMul, Nat.reduceLT, Nat.reduceLeDiff, Int.reduceEq, Nat.reduceEqDiff, reduceCtorEq]); (try (refine hold_top ?_; simp only [hn.okC, ht.okC, push_cast, Nat.reduceAdd, Nat.reduceMul, Nat.reduceLT, Nat.reduceLeDiff, Int.reduceEq, Nat.reduceEqDiff, reduceCtorEq]))))) | (with_reducible refine ite_hn (fun h hd he => ?_) (fun h hd he => ?_) <;> ((try rw [he]); (try rw [hd]); (try clear he hd); ((try refine hold_top ?_); (try simp only [hn.okC, ht.okC, push_cast, Nat.reduceAdd, Nat.reduceMul, Nat.reduceLT, Nat.reduceLeDiff, Int.reduceEq, Nat.reduceEqDiff, reduceCtorEq]); (try (refine hold_top ?_; simp only [hn.okC, ht.okC, push_cast, Nat.reduceAdd, Nat.reduceMul, Nat.reduceLT, Nat.reduceLeDiff, Int.reduceEq, Nat.reduceEqDiff, reduceCtorEq]))))) | (with_reducible refine ite_hd (fun h hd => ?_) (fun h hd => ?_) <;> ((try rw [hd]); (try clear hd); ((try refine hold_top ?_); (try simp only [hn.okC, ht.okC, push_cast, Nat.reduceAdd, Nat.reduceMul, Nat.reduceLT, Nat.reduceLeDiff, Int.reduceEq, Nat.reduceEqDiff, reduceCtorEq]); (try (refine hold_top ?_; simp only [hn.okC, ht.okC, push_cast, Nat.reduceAdd, Nat.reduceMul, Nat.reduceLT, Nat.reduceLeDiff, Int.reduceEq, Nat.reduceEqDiff, reduceCtorEq]))))) | exact ⟨rfl, rfl⟩ | fail)
  · exact .refl _
  have hs : t.size ≤ 1048576 := szR_ok (by assumption)
  refine (toTree_c (by omega) (htree (by repeat (first | exact Mem.sub.refl _ | apply Mem.sub.to_ext | apply Mem.sub.to_push | with_reducible assumption)))).mono ?_
  rintro _ k2 ⟨hl2, cs2, fp2, rfl, ho2, -, hfp2⟩
  obtain ⟨m2, hle2, rfl⟩ := Mem.le_ext hl2
  have hst2 : m2.stk = m.stk := hle2.stk
  ((try refine hold_top ?_); (try simp only [hst2, Mem.st_load0 hst2, Mem.st_loadj hst2, Mem.st_loads0 hst2, Mem.st_loadsj hst2, Mem.st_store0 hst2, Mem.st_storej hst2, Mem.st_pop hst2, Mem.st_pops hst2, hn.okC, ht.okC, push_cast, Nat.reduceAdd, Nat.reduceMul, Nat.reduceLT, Nat.reduceLeDiff, Int.reduceEq, Nat.reduceEqDiff, reduceCtorEq]); (try (refine hold_top ?_; simp only [hst2, Mem.st_load0 hst2, Mem.st_loadj hst2, Mem.st_loads0 hst2, Mem.st_loadsj hst2, Mem.st_store0 hst2, Mem.st_storej hst2, Mem.st_pop hst2, Mem.st_pops hst2, hn.okC, ht.okC, push_cast, Nat.reduceAdd, Nat.reduceMul, Nat.reduceLT, Nat.reduceLeDiff, Int.reduceEq, Nat.reduceEqDiff, reduceCtorEq])))
  refine (specSizes_c (by omega) ho2.tree).mono ?_
  rintro w0 k3 ⟨hl3, hw0⟩
  obtain ⟨m3, hle3', rfl⟩ := Mem.le_ext hl3
  have hle3 : m.le m3 := hle2.trans hle3'
  have hst3 : m3.stk = m.stk := hle3.stk
  have hsub3 : m.sub m3 := hle3.sub
  have hw0' : Ints m3 w0 (specSizesP t) := by
    rcases hw0 with ⟨h1, h2⟩ | ⟨bw, vw, h1, h2, h3⟩
    · exact .inl ⟨h1, h2⟩
    · rw [h2]; exact IntsB h3
  ((try refine hold_top ?_); (try simp only [hst3, Mem.st_load0 hst3, Mem.st_loadj hst3, Mem.st_loads0 hst3, Mem.st_loadsj hst3, Mem.st_store0 hst3, Mem.st_storej hst3, Mem.st_pop hst3, Mem.st_pops hst3, hn.okC, ht.okC, push_cast, Nat.reduceAdd, Nat.reduceMul, Nat.reduceLT, Nat.reduceLeDiff, Int.reduceEq, Nat.reduceEqDiff, reduceCtorEq]); (try (refine hold_top ?_; simp only [hst3, Mem.st_load0 hst3, Mem.st_loadj hst3, Mem.st_loads0 hst3, Mem.st_loadsj hst3, Mem.st_store0 hst3, Mem.st_storej hst3, Mem.st_pop hst3, Mem.st_pops hst3, hn.okC, ht.okC, push_cast, Nat.reduceAdd, Nat.reduceMul, Nat.reduceLT, Nat.reduceLeDiff, Int.reduceEq, Nat.reduceEqDiff, reduceCtorEq])))
  refine (toTree_c (by omega) (htree (by repeat (first | exact Mem.sub.refl _ | apply Mem.sub.to_ext | apply Mem.sub.to_push | with_reducible assumption)))).mono ?_
  rintro _ k4 ⟨hl4, cs4, fp4, rfl, ho4, hnd4, hfp4⟩
  obtain ⟨m4, hle4, rfl⟩ := Mem.le_ext hl4
  have hst4 : m4.stk = m.stk := hle4.stk.trans hst3
  have hsub34 : m3.sub m4 := hle4.sub
  obtain ⟨a0, b0, rfl, hca, hcb, hoa, hob⟩ := ho4.len2
  ((try refine hold_top ?_); (try simp only [hst4, Mem.st_load0 hst4, Mem.st_loadj hst4, Mem.st_loads0 hst4, Mem.st_loadsj hst4, Mem.st_store0 hst4, Mem.st_storej hst4, Mem.st_pop hst4, Mem.st_pops hst4, hca, hcb, hoa, hob, hn.okC, ht.okC, push_cast, Nat.reduceAdd, Nat.reduceMul, Nat.reduceLT, Nat.reduceLeDiff, Int.reduceEq, Nat.reduceEqDiff, reduceCtorEq]); (try (refine hold_top ?_; simp only [hst4, Mem.st_load0 hst4, Mem.st_loadj hst4, Mem.st_loads0 hst4, Mem.st_loadsj hst4, Mem.st_store0 hst4, Mem.st_storej hst4, Mem.st_pop hst4, Mem.st_pops hst4, hca, hcb, hoa, hob, hn.okC, ht.okC, push_cast, Nat.reduceAdd, Nat.reduceMul, Nat.reduceLT, Nat.reduceLeDiff, Int.reduceEq, Nat.reduceEqDiff, reduceCtorEq])))
  refine (Sizes_c (by omega) (ho4.tree.sub (Mem.sub_ext_ext _ _ _))).mono ?_
  rintro _ k5 ⟨hl5, bg, vg, hbg, rfl, hg⟩
  obtain ⟨m5, hle5, rfl⟩ := Mem.le_ext hl5
  have hst5 : m5.stk = m.stk := hle5.stk.trans hst4
  have hsub45 : m4.sub m5 := hle5.sub
  have hsub35 : m3.sub m5 := hsub34.trans hsub45
  have hsub5 : m.sub m5 := hsub3.trans hsub35
  have hg : m5.blk bg vg ((sizesP t).map (.int .i64)) := hg
  have hbg : m4.heap.length ≤ bg := hbg
  ((try refine hold_top ?_); (try simp only [hst5, Mem.st_load0 hst5, Mem.st_loadj hst5, Mem.st_loads0 hst5, Mem.st_loadsj hst5, Mem.st_store0 hst5, Mem.st_storej hst5, Mem.st_pop hst5, Mem.st_pops hst5, hn.okC, ht.okC, push_cast, Nat.reduceAdd, Nat.reduceMul, Nat.reduceLT, Nat.reduceLeDiff, Int.reduceEq, Nat.reduceEqDiff, reduceCtorEq]); (try (refine hold_top ?_; simp only [hst5, Mem.st_load0 hst5, Mem.st_loadj hst5, Mem.st_loads0 hst5, Mem.st_loadsj hst5, Mem.st_store0 hst5, Mem.st_storej hst5, Mem.st_pop hst5, Mem.st_pops hst5, hn.okC, ht.okC, push_cast, Nat.reduceAdd, Nat.reduceMul, Nat.reduceLT, Nat.reduceLeDiff, Int.reduceEq, Nat.reduceEqDiff, reduceCtorEq])))
  refine (eqIntS_c (by have := sizesP_len (t := t); omega) ((IntsB hg).ext _) ((hw0'.sub hsub35).ext _)).mono ?_
  rintro _ _ ⟨rfl, rfl⟩
  rw [decide_eq_true same]
  ((try refine hold_top ?_); (try simp only [hst5, Mem.st_load0 hst5, Mem.st_loadj hst5, Mem.st_loads0 hst5, Mem.st_loadsj hst5, Mem.st_store0 hst5, Mem.st_storej hst5, Mem.st_pop hst5, Mem.st_pops hst5, hn.okC, ht.okC, push_cast, Nat.reduceAdd, Nat.reduceMul, Nat.reduceLT, Nat.reduceLeDiff, Int.reduceEq, Nat.reduceEqDiff, reduceCtorEq]); (try (refine hold_top ?_; simp only [hst5, Mem.st_load0 hst5, Mem.st_loadj hst5, Mem.st_loads0 hst5, Mem.st_loadsj hst5, Mem.st_store0 hst5, Mem.st_storej hst5, Mem.st_pop hst5, Mem.st_pops hst5, hn.okC, ht.okC, push_cast, Nat.reduceAdd, Nat.reduceMul, Nat.reduceLT, Nat.reduceLeDiff, Int.reduceEq, Nat.reduceEqDiff, reduceCtorEq])))
  refine altW_i ?_ ?_
  all_goals
    ((try refine hold_top ?_); (try simp only [hst5, Mem.st_load0 hst5, Mem.st_loadj hst5, Mem.st_loads0 hst5, Mem.st_loadsj hst5, Mem.st_store0 hst5, Mem.st_storej hst5, Mem.st_pop hst5, Mem.st_pops hst5, hn.okC, ht.okC, push_cast, Nat.reduceAdd, Nat.reduceMul, Nat.reduceLT, Nat.reduceLeDiff, Int.reduceEq, Nat.reduceEqDiff, reduceCtorEq]); (try (refine hold_top ?_; simp only [hst5, Mem.st_load0 hst5, Mem.st_loadj hst5, Mem.st_loads0 hst5, Mem.st_loadsj hst5, Mem.st_store0 hst5, Mem.st_storej hst5, Mem.st_pop hst5, Mem.st_pops hst5, hn.okC, ht.okC, push_cast, Nat.reduceAdd, Nat.reduceMul, Nat.reduceLT, Nat.reduceLeDiff, Int.reduceEq, Nat.reduceEqDiff, reduceCtorEq])))
    refine (toTree_c (by omega) (htree (by repeat (first | exact Mem.sub.refl _ | apply Mem.sub.to_ext | apply Mem.sub.to_push | with_reducible assumption)))).mono ?_
    rintro _ k6 ⟨hl6, cs6, fp6, rfl, ho6, -, hfp6⟩
    obtain ⟨m6, hle6, rfl⟩ := Mem.le_ext hl6
    have hst6 : m6.stk = m.stk := hle6.stk.trans hst5
    have hsub56 : m5.sub m6 := hle6.sub
    have hsub46 : m4.sub m6 := hsub45.trans hsub56
    have ho4'' : isTreeO m4 [a0, b0] t fp4 := ho4
    have ho4' : isTreeO m6 [a0, b0] t fp4 := ho4''.frame ((show m4.le m6 from (hle5.trans hle6)).frame fun _ => False) (fun _ _ h => h)
    ((try refine hold_top ?_); (try simp only [hst6, Mem.st_load0 hst6, Mem.st_loadj hst6, Mem.st_loads0 hst6, Mem.st_loadsj hst6, Mem.st_store0 hst6, Mem.st_storej hst6, Mem.st_pop hst6, Mem.st_pops hst6, hn.okC, ht.okC, push_cast, Nat.reduceAdd, Nat.reduceMul, Nat.reduceLT, Nat.reduceLeDiff, Int.reduceEq, Nat.reduceEqDiff, reduceCtorEq]); (try (refine hold_top ?_; simp only [hst6, Mem.st_load0 hst6, Mem.st_loadj hst6, Mem.st_loads0 hst6, Mem.st_loadsj hst6, Mem.st_store0 hst6, Mem.st_storej hst6, Mem.st_pop hst6, Mem.st_pops hst6, hn.okC, ht.okC, push_cast, Nat.reduceAdd, Nat.reduceMul, Nat.reduceLT, Nat.reduceLeDiff, Int.reduceEq, Nat.reduceEqDiff, reduceCtorEq])))
    refine (eqTree_c (by omega) (ho4'.tree.sub (by repeat (first | exact Mem.sub.refl _ | apply Mem.sub.to_ext | apply Mem.sub.to_push | with_reducible assumption))) ho6.tree).mono ?_
    rintro _ _ ⟨rfl, rfl⟩
    rw [decide_eq_true rfl]
    ((try refine hold_top ?_); (try simp only [hst6, Mem.st_load0 hst6, Mem.st_loadj hst6, Mem.st_loads0 hst6, Mem.st_loadsj hst6, Mem.st_store0 hst6, Mem.st_storej hst6, Mem.st_pop hst6, Mem.st_pops hst6, hn.okC, ht.okC, push_cast, Nat.reduceAdd, Nat.reduceMul, Nat.reduceLT, Nat.reduceLeDiff, Int.reduceEq, Nat.reduceEqDiff, reduceCtorEq]); (try (refine hold_top ?_; simp only [hst6, Mem.st_load0 hst6, Mem.st_loadj hst6, Mem.st_loads0 hst6, Mem.st_loadsj hst6, Mem.st_store0 hst6, Mem.st_storej hst6, Mem.st_pop hst6, Mem.st_pops hst6, hn.okC, ht.okC, push_cast, Nat.reduceAdd, Nat.reduceMul, Nat.reduceLT, Nat.reduceLeDiff, Int.reduceEq, Nat.reduceEqDiff, reduceCtorEq])))
    have hml := marks_le (t := t)
    refine (markTree_c (by omega) (by omega) (by omega) (show isTreeO (m6.ext _) [a0, b0] t fp4 from ho4') hnd4).mono ?_
    rintro _ k7 ⟨hf7, hlen7, rfl⟩
    obtain ⟨m7, hf7', rfl⟩ := Mem.frame_ext hf7
    have hst7 : m7.stk = m.stk := hf7'.stk.trans hst6
    have hlt4 := ho4''.lt
    have hge4 : ∀ b ∈ fp4, m3.heap.length ≤ b := hfp4
    have hsub37 : m3.sub m7 := (hsub34.trans hsub46).frameS hf7' hge4
    have hsub7 : m.sub m7 := hsub3.trans hsub37
    have hg7 : m7.blk bg vg ((sizesP t).map (.int .i64)) := hf7'.blk (fun h => by have := hlt4 bg h; omega) (hg.le hle6)
    have hneg : ((1 + (t.marks : Int)) < 0) = False := eq_false (by omega)
    have hsl := sizesP_len (t := t)
    ((try refine hold_top ?_); (try simp only [hst7, Mem.st_load0 hst7, Mem.st_loadj hst7, Mem.st_loads0 hst7, Mem.st_loadsj hst7, Mem.st_store0 hst7, Mem.st_storej hst7, Mem.st_pop hst7, Mem.st_pops hst7, hneg, hn.okC, ht.okC, push_cast, Nat.reduceAdd, Nat.reduceMul, Nat.reduceLT, Nat.reduceLeDiff, Int.reduceEq, Nat.reduceEqDiff, reduceCtorEq]); (try (refine hold_top ?_; simp only [hst7, Mem.st_load0 hst7, Mem.st_loadj hst7, Mem.st_loads0 hst7, Mem.st_loadsj hst7, Mem.st_store0 hst7, Mem.st_storej hst7, Mem.st_pop hst7, Mem.st_pops hst7, hneg, hn.okC, ht.okC, push_cast, Nat.reduceAdd, Nat.reduceMul, Nat.reduceLT, Nat.reduceLeDiff, Int.reduceEq, Nat.reduceEqDiff, reduceCtorEq])))
    refine (eqIntS_c (by omega) ((IntsB hg7).ext _) ((hw0'.sub hsub37).ext _)).mono ?_
    rintro _ _ ⟨rfl, rfl⟩
    rw [decide_eq_true same]
    ((try refine hold_top ?_); (try simp only [hst7, Mem.st_load0 hst7, Mem.st_loadj hst7, Mem.st_loads0 hst7, Mem.st_loadsj hst7, Mem.st_store0 hst7, Mem.st_storej hst7, Mem.st_pop hst7, Mem.st_pops hst7, hneg, hn.okC, ht.okC, push_cast, Nat.reduceAdd, Nat.reduceMul, Nat.reduceLT, Nat.reduceLeDiff, Int.reduceEq, Nat.reduceEqDiff, reduceCtorEq]); (try (refine hold_top ?_; simp only [hst7, Mem.st_load0 hst7, Mem.st_loadj hst7, Mem.st_loads0 hst7, Mem.st_loadsj hst7, Mem.st_store0 hst7, Mem.st_storej hst7, Mem.st_pop hst7, Mem.st_pops hst7, hneg, hn.okC, ht.okC, push_cast, Nat.reduceAdd, Nat.reduceMul, Nat.reduceLT, Nat.reduceLeDiff, Int.reduceEq, Nat.reduceEqDiff, reduceCtorEq])))
    refine (markIntS_c (fp := [bg]) (by omega) (by omega) (by omega) (show IntsO (m7.ext _) _ (sizesP t) [bg] from .inr ⟨bg, vg, rfl, hg7, rfl⟩)).mono ?_
    rintro _ k8 ⟨hf8, hlen8, ho8, rfl⟩
    obtain ⟨m8, hf8', rfl⟩ := Mem.frame_ext hf8
    have hst8 : m8.stk = m.stk := hf8'.stk.trans hst7
    have hlm4 : m3.heap.length ≤ m4.heap.length := hle4.len
    have hsub38 : m3.sub m8 := hsub37.frameS hf8' (fun b hb => by rw [List.mem_singleton] at hb; omega)
    have hsub8 : m.sub m8 := hsub3.trans hsub38
    have ho8 : IntsO m8 _ (marksL 1 (sizesP t).length) [bg] := ho8
    ((try refine hold_top ?_); (try simp only [hst8, Mem.st_load0 hst8, Mem.st_loadj hst8, Mem.st_loads0 hst8, Mem.st_loadsj hst8, Mem.st_store0 hst8, Mem.st_storej hst8, Mem.st_pop hst8, Mem.st_pops hst8, hn.okC, ht.okC, push_cast, Nat.reduceAdd, Nat.reduceMul, Nat.reduceLT, Nat.reduceLeDiff, Int.reduceEq, Nat.reduceEqDiff, reduceCtorEq]); (try (refine hold_top ?_; simp only [hst8, Mem.st_load0 hst8, Mem.st_loadj hst8, Mem.st_loads0 hst8, Mem.st_loadsj hst8, Mem.st_store0 hst8, Mem.st_storej hst8, Mem.st_pop hst8, Mem.st_pops hst8, hn.okC, ht.okC, push_cast, Nat.reduceAdd, Nat.reduceMul, Nat.reduceLT, Nat.reduceLeDiff, Int.reduceEq, Nat.reduceEqDiff, reduceCtorEq])))
    refine (heldIntS_c (n := (sizesP t).length) (k := 1) (by omega) (by omega) (by omega) (ho8.ints.ext _)).mono ?_
    rintro _ _ ⟨rfl, rfl⟩
    have hneg2 : ((1 + ((sizesP t).length : Int)) < 0) = False := eq_false (by omega)
    ((try refine hold_top ?_); (try simp only [hst8, Mem.st_load0 hst8, Mem.st_loadj hst8, Mem.st_loads0 hst8, Mem.st_loadsj hst8, Mem.st_store0 hst8, Mem.st_storej hst8, Mem.st_pop hst8, Mem.st_pops hst8, hneg2, hn.okC, ht.okC, push_cast, Nat.reduceAdd, Nat.reduceMul, Nat.reduceLT, Nat.reduceLeDiff, Int.reduceEq, Nat.reduceEqDiff, reduceCtorEq]); (try (refine hold_top ?_; simp only [hst8, Mem.st_load0 hst8, Mem.st_loadj hst8, Mem.st_loads0 hst8, Mem.st_loadsj hst8, Mem.st_store0 hst8, Mem.st_storej hst8, Mem.st_pop hst8, Mem.st_pops hst8, hneg2, hn.okC, ht.okC, push_cast, Nat.reduceAdd, Nat.reduceMul, Nat.reduceLT, Nat.reduceLeDiff, Int.reduceEq, Nat.reduceEqDiff, reduceCtorEq])))
    refine (toTree_c (by omega) (htree (by repeat (first | exact Mem.sub.refl _ | apply Mem.sub.to_ext | apply Mem.sub.to_push | with_reducible assumption)))).mono ?_
    rintro _ k9 ⟨hl9, cs9, fp9, rfl, ho9, -, -⟩
    obtain ⟨m9, hle9, rfl⟩ := Mem.le_ext hl9
    have hst9 : m9.stk = m.stk := hle9.stk.trans hst8
    ((try refine hold_top ?_); (try simp only [hst9, Mem.st_load0 hst9, Mem.st_loadj hst9, Mem.st_loads0 hst9, Mem.st_loadsj hst9, Mem.st_store0 hst9, Mem.st_storej hst9, Mem.st_pop hst9, Mem.st_pops hst9, hn.okC, ht.okC, push_cast, Nat.reduceAdd, Nat.reduceMul, Nat.reduceLT, Nat.reduceLeDiff, Int.reduceEq, Nat.reduceEqDiff, reduceCtorEq]); (try (refine hold_top ?_; simp only [hst9, Mem.st_load0 hst9, Mem.st_loadj hst9, Mem.st_loads0 hst9, Mem.st_loadsj hst9, Mem.st_store0 hst9, Mem.st_storej hst9, Mem.st_pop hst9, Mem.st_pops hst9, hn.okC, ht.okC, push_cast, Nat.reduceAdd, Nat.reduceMul, Nat.reduceLT, Nat.reduceLeDiff, Int.reduceEq, Nat.reduceEqDiff, reduceCtorEq])))
    refine (Sizes_c (by omega) ho9.tree).mono ?_
    rintro _ k10 ⟨hl10, bh, vh, hbh, rfl, hh⟩
    obtain ⟨m10, hle10, rfl⟩ := Mem.le_ext hl10
    have hst10 : m10.stk = m.stk := hle10.stk.trans hst9
    have hle810 : m8.le m10 := hle9.trans hle10
    ((try refine hold_top ?_); (try simp only [hst10, Mem.st_load0 hst10, Mem.st_loadj hst10, Mem.st_loads0 hst10, Mem.st_loadsj hst10, Mem.st_store0 hst10, Mem.st_storej hst10, Mem.st_pop hst10, Mem.st_pops hst10, hn.okC, ht.okC, push_cast, Nat.reduceAdd, Nat.reduceMul, Nat.reduceLT, Nat.reduceLeDiff, Int.reduceEq, Nat.reduceEqDiff, reduceCtorEq]); (try (refine hold_top ?_; simp only [hst10, Mem.st_load0 hst10, Mem.st_loadj hst10, Mem.st_loads0 hst10, Mem.st_loadsj hst10, Mem.st_store0 hst10, Mem.st_storej hst10, Mem.st_pop hst10, Mem.st_pops hst10, hn.okC, ht.okC, push_cast, Nat.reduceAdd, Nat.reduceMul, Nat.reduceLT, Nat.reduceLeDiff, Int.reduceEq, Nat.reduceEqDiff, reduceCtorEq])))
    refine (eqIntS_c (by omega) (IntsB hh) ((hw0'.sub (hsub38.trans hle810.sub)).ext _)).mono ?_
    rintro _ _ ⟨rfl, rfl⟩
    rw [decide_eq_true same]
    ((try refine hold_top ?_); (try simp only [hst10, Mem.st_load0 hst10, Mem.st_loadj hst10, Mem.st_loads0 hst10, Mem.st_loadsj hst10, Mem.st_store0 hst10, Mem.st_storej hst10, Mem.st_pop hst10, Mem.st_pops hst10, hn.okC, ht.okC, push_cast, Nat.reduceAdd, Nat.reduceMul, Nat.reduceLT, Nat.reduceLeDiff, Int.reduceEq, Nat.reduceEqDiff, reduceCtorEq]); (try (refine hold_top ?_; simp only [hst10, Mem.st_load0 hst10, Mem.st_loadj hst10, Mem.st_loads0 hst10, Mem.st_loadsj hst10, Mem.st_store0 hst10, Mem.st_storej hst10, Mem.st_pop hst10, Mem.st_pops hst10, hn.okC, ht.okC, push_cast, Nat.reduceAdd, Nat.reduceMul, Nat.reduceLT, Nat.reduceLeDiff, Int.reduceEq, Nat.reduceEqDiff, reduceCtorEq])))
    refine (heldIntS_c (n := (sizesP t).length) (k := 1) (by omega) (by omega) (by omega) ((ho8.ints.sub hle810.sub).ext _)).mono ?_
    rintro _ _ ⟨rfl, rfl⟩
    ((try refine hold_top ?_); (try simp only [hst10, Mem.st_load0 hst10, Mem.st_loadj hst10, Mem.st_loads0 hst10, Mem.st_loadsj hst10, Mem.st_store0 hst10, Mem.st_storej hst10, Mem.st_pop hst10, Mem.st_pops hst10, hneg2, hn.okC, ht.okC, push_cast, Nat.reduceAdd, Nat.reduceMul, Nat.reduceLT, Nat.reduceLeDiff, Int.reduceEq, Nat.reduceEqDiff, reduceCtorEq]); (try (refine hold_top ?_; simp only [hst10, Mem.st_load0 hst10, Mem.st_loadj hst10, Mem.st_loads0 hst10, Mem.st_loadsj hst10, Mem.st_store0 hst10, Mem.st_storej hst10, Mem.st_pop hst10, Mem.st_pops hst10, hneg2, hn.okC, ht.okC, push_cast, Nat.reduceAdd, Nat.reduceMul, Nat.reduceLT, Nat.reduceLeDiff, Int.reduceEq, Nat.reduceEqDiff, reduceCtorEq])))
    exact (hsub8.trans hle810.sub).le hst10
end Go.AM
