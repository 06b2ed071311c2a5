/-
  Contracts: which nodes are right.
-/
import Derived.Test.YtnfncjodmkhafaaAm18
import Derived.Test.YtnfncjodmkhafaaTr1
set_option linter.all false
set_option linter.unusedSimpArgs false
set_option linter.unusedVariables false
namespace Go.AM
open Go.Proofs
attribute [local congr] ACalls_congr loopS_congr lenSlW_congr lenStrW_congr strW_congr ptrW_congr nilW_congr aggW_congr tupW_congr idxW_congr idxStrW_congr condA_congr optW_congr callW_congr iteW_congr opW_congr iA_congr wpS_congr guardW_congr pickW_congr slStrW_congr slSlW_congr makeW_congr
attribute [local push_cast] wpS_skip wpS_ops_h wpS_seq_h wpS_cond_h wpS_block_h wpS_exit wpS_ret wpS_loop_h thenA_n thenA_r thenA_e blockA_n blockA_r blockA_same blockA_ne retS_rp retS_np Mem.pop_push_ext Mem.pop_push Mem.pop_ext Mem.pop_self resOne_t resOne_cell cellR_t cellR_f Option.map_some tup1_1 tup1_2 iA_nil iA_cons_h iA_guard_h guardW_b condA_b putA_s putA_n evA_t evA_c evA_f List.set_cons_zero List.set_cons_succ List.getD_cons_zero List.getD_cons_succ List.map_cons List.map_nil List.mapM_cons List.mapM_nil List.cons_append List.nil_append List.append_nil List.length_cons List.length_nil List.replicate List.append_eq List.foldr_cons List.foldr_nil opW_mov_h opW_pick_h opW_newS_h opW_newH_h opW_boxS_h opW_boxH_h opW_build_h opW_mkSlice_h opW_load_h opW_loadN_h opW_store_h opW_nilCheck_h opW_bin_h opW_isNil_h opW_un_h opW_convI_h opW_convP_h opW_convBS_h opW_extract_h opW_fieldAddr_h opW_field1_h opW_fieldN_h opW_idxSl_h opW_idxStr_h opW_slStr_h opW_slSl_h opW_fn_h opW_make_h opW_lenStr_h opW_lenSl_h opW_append_h opW_appStr_h opW_call_h pickW_b optW_some boxW_h ptrW_p stW_h nilW_p nilW_f tupW_t aggW_a idxW_sh idxStrW_sh slStrW_sh slSlW_n slSlW_sh makeW_ih lenStrW_s lenSlW_s strW_s callW_fh boundA_n boundA_s intOf_i unA_neg unA_not isNilA_0n isNilA_0s isNilA_2n isNilA_2f isNilA_2g bin_add bin_sub bin_mul bin_lss bin_leq bin_gtr bin_geq bin_eql bin_neq bin_eqlS bin_neqS cells_b cells_i cells_f cells_s cells_p cells_sl cells_nf cells_fn cells_a List.all_cons List.all_nil okV_b okV_i okV_fl okV_s okV_pn okV_sn okV_p okV_pl okV_sl okV_nf okV_f okV_a okV_t okA_b okA_i okA_fl okA_s okA_pn okA_sn okA_p okA_sl okA_a okC_b okC_i okC_fl okC_s okC_pn okC_sn okC_p okC_pl okC_sl okC_nf okC_f okC0_b okC0_i okC0_s okC0_p okC0_pl List.toList_toArray Array.toList_empty decide_eq_true_eq decide_eq_false_iff_not Bool.not_eq_true' Bool.false_eq_true Bool.and_true Bool.true_and bne_self_eq_false Bool.bne_false Bool.bne_true true_and and_true Option.bind_eq_bind Option.bind_some Option.pure_def Option.some.injEq exists_eq_left' Option.isNone_none Option.isNone_some decide_true decide_false Mem.box_ext Mem.ext_box Mem.ext_ext Mem.ext_heap Mem.ext_len1 Mem.ext_len2 Mem.ext_len3 Mem.ext_len4 Mem.ext_len5 Mem.ext_len6 Mem.ext_len7 Mem.ext_len8 Mem.ext_len9 Mem.ext_len10 Mem.ext_len11 Mem.ext_len12 Mem.ext_pop Mem.self_pop Mem.ext_push Mem.ext_load Mem.ext_loads Mem.ext_load0 Mem.ext_loadj Mem.ext_loads0 Mem.ext_loadsj Mem.ext_store0 Mem.ext_storej Mem.stores_nil Mem.stores_cons List.getElem?_cons_zero List.getElem?_cons_succ List.getElem?_nil Nat.zero_add List.drop_zero List.drop_succ_cons List.take_succ_cons List.take_zero List.size_toArray Option.bind_fun_some Nat.add_assoc fillA_nil fillA_cons partsA_nil partsA_cons push_sliceCells byteA_i noPtr_b noPtr_i noPtr_f noPtr_s List.flatten_cons List.flatten_nil bin_rem bin_quo ne_eq not_false_eq_true and_self Nat.one_mul Nat.mul_one Nat.le_refl List.take_nil List.drop_nil Nat.add_zero Bool.not_true Bool.not_false Bool.true_eq_false false_and and_false Bool.false_and Bool.and_false Bool.false_or Bool.or_false Bool.true_or Bool.or_true guardW_tt guardW_tf guardW_ft guardW_ff guardW_uh condA_t condA_f hold_1 hold_2 hold_3 iteV_t iteV_f iteO_t iteO_f not_true_eq_false Int.toNat_natCast Int.toNat_natCast_add_one Int.toNat_zero Nat.sub_zero en35 en76 en34 en11 en60 en115 en116 en94 en95 en97 en96 en92 en131 en93 en142 en117 en77 en36 en12 en38 rt73a rt73s en78 en37 rt27a rt27s en13 en80 en48 en90 en129 en130 en128 en88 en89 en143 en118 en144 en119 en120 en145 en146 en162 en147 en121 en122 en123 en124 en79 en81 en39 en40 en14 en15 en82 en41 en16 en18 en83 en42 en17 en19 en4
attribute [local push_cast] andW_t iteH_t iteH_f
attribute [local congr] wpDT_congr
attribute [local push_cast] wpS_draw_h wpDT_done wpDT_step wpDT_alt Mem.push_ext_loadS Mem.push_ext_loadsS Mem.push_ext_store0 Mem.push_ext_storej
theorem preds_v {m : Mem} {b n : Nat} {fs : List Value} {ps : List (Int → Bool)} (hb : m.blk b 0 fs) (hl : fs.length = ps.length) (hn : ps.length = n) (hne : ps ≠ []) (h : ∀ (i : Nat) (f : Value) (p : Int → Bool), fs[i]? = some f → ps[i]? = some p → PredV m f p) : PredsV m (.slice (some ⟨b, 0, some 0⟩) n 1) ps := by
  subst hn
  refine .inr ⟨b, 0, 0, rfl, fun i p hp => ?_, fun e => absurd e hne⟩
  have hi := (List.getElem?_eq_some_iff.1 hp).1
  refine ⟨[fs[i]], ?_, fs[i], rfl, h i _ _ (List.getElem?_eq_getElem (by omega)) hp⟩
  rw [hb.loads (by omega)]
  simp [List.take_one, List.head?_drop, hl, hi]
theorem preds1 {m : Mem} {b : Nat} {f1 : Value} {p1 : Int → Bool} (hb : m.blk b 0 [f1]) (h1 : PredV m f1 p1) : PredsV m (.slice (some ⟨b, 0, some 0⟩) 1 1) [p1] := by
  refine preds_v hb rfl rfl (by simp) fun i f p hf hp => ?_
  match i with
  | 0 => simp at hf hp; subst hf; subst hp; exact h1
  | i + 1 => simp at hf
theorem preds2 {m : Mem} {b : Nat} {f1 f2 : Value} {p1 p2 : Int → Bool} (hb : m.blk b 0 [f1, f2]) (h1 : PredV m f1 p1) (h2 : PredV m f2 p2) : PredsV m (.slice (some ⟨b, 0, some 0⟩) 2 1) [p1, p2] := by
  refine preds_v hb rfl rfl (by simp) fun i f p hf hp => ?_
  match i with
  | 0 => simp at hf hp; subst hf; subst hp; exact h1
  | 1 => simp at hf hp; subst hf; subst hp; exact h2
  | i + 2 => simp at hf
theorem preds3 {m : Mem} {b : Nat} {f1 f2 f3 : Value} {p1 p2 p3 : Int → Bool} (hb : m.blk b 0 [f1, f2, f3]) (h1 : PredV m f1 p1) (h2 : PredV m f2 p2) (h3 : PredV m f3 p3) : PredsV m (.slice (some ⟨b, 0, some 0⟩) 3 1) [p1, p2, p3] := by
  refine preds_v hb rfl rfl (by simp) fun i f p hf hp => ?_
  match i with
  | 0 => simp at hf hp; subst hf; subst hp; exact h1
  | 1 => simp at hf hp; subst hf; subst hp; exact h2
  | 2 => simp at hf hp; subst hf; subst hp; exact h3
  | i + 3 => simp at hf
theorem isNode.sub {m m' : Mem} (hle : m.sub m') {cs : List Value} {n : PNode} (h : isNode m cs n) : isNode m' cs n := let ⟨k, h1, h2⟩ := h; ⟨k, h1, h2.sub hle⟩
theorem kidsIn.drop {t : PTree} {kids : List Int} (h : kidsIn t kids) (n : Nat) : kidsIn t (kids.drop n) := fun k hk => h k (List.mem_of_mem_drop hk)
theorem kidsIn.take {t : PTree} {kids : List Int} (h : kidsIn t kids) (n : Nat) : kidsIn t (kids.take n) := fun k hk => h k (List.mem_of_mem_take hk)
/-- The end of a list in a slice. -/
theorem Ints.drop {m : Mem} {b off ver : Nat} {l : List Int} (h : Ints m (.slice (some ⟨b, off, some ver⟩) l.length 1) l) (hne : l ≠ []) {n k : Nat} (hn : n ≤ l.length) (hk : k = l.length - n) : Ints m (.slice (some ⟨b, off + n, some ver⟩) k 1) (l.drop n) := by
  subst hk
  rcases h with ⟨h1, h2⟩ | ⟨b', off', ver', hv, h1, h2⟩
  · cases h2
  · cases hv
    refine .inr ⟨b, off + n, ver, by rw [List.length_drop], fun i x hx => ?_, fun e => ?_⟩
    · rw [List.getElem?_drop] at hx
      obtain ⟨cs, h3, h4⟩ := h1 _ _ hx
      exact ⟨cs, by rw [show off + n + i * 1 = off + (n + i) * 1 by omega]; exact h3, h4⟩
    · obtain ⟨x, hx⟩ : ∃ x, l[n - 1]? = some x := ⟨l[n - 1]'(by have := List.length_pos_iff.2 hne; omega), List.getElem?_eq_getElem _⟩
      obtain ⟨cs, h3, h4⟩ := h1 _ _ hx
      have hl : l.length = n := by have := congrArg List.length e; simp at this; omega
      have hp := List.length_pos_iff.2 hne
      simp only [Mem.loads, Option.bind_eq_some_iff] at h3 ⊢
      obtain ⟨c, h5, h6⟩ := h3
      refine ⟨c, h5, ?_⟩
      split at h6
      · rw [if_pos (by omega)]; simp
      · cases h6
/-- The beginning of a list in a slice. -/
theorem Ints.take {m : Mem} {b off ver : Nat} {l : List Int} (h : Ints m (.slice (some ⟨b, off, some ver⟩) l.length 1) l) (hne : l ≠ []) {k : Nat} (hk : k ≤ l.length) : Ints m (.slice (some ⟨b, off, some ver⟩) k 1) (l.take k) := by
  rcases h with ⟨h1, h2⟩ | ⟨b', off', ver', hv, h1, h2⟩
  · cases h2
  · cases hv
    refine .inr ⟨b, off, ver, by rw [List.length_take, Nat.min_eq_left hk], fun i x hx => ?_, fun e => ?_⟩
    · rw [List.getElem?_take] at hx
      split at hx
      · exact h1 _ _ hx
      · cases hx
    · obtain ⟨x, hx⟩ : ∃ x, l[0]? = some x := ⟨l[0]'(List.length_pos_iff.2 hne), List.getElem?_eq_getElem _⟩
      obtain ⟨cs, h3, h4⟩ := h1 _ _ hx
      simp only [Mem.loads, Option.bind_eq_some_iff] at h3 ⊢
      obtain ⟨c, h5, h6⟩ := h3
      refine ⟨c, h5, ?_⟩
      split at h6
      · rw [if_pos (by omega)]; simp
      · cases h6
theorem Ints.shape {m : Mem} {v : Value} {l : List Int} (h : Ints m v l) (hne : 0 < l.length) : ∃ b off ver, v = .slice (some ⟨b, off, some ver⟩) l.length 1 := by
  obtain ⟨b, off, ver, h1, _⟩ := Ints.get h hne
  exact ⟨b, off, ver, h1⟩
def justP (k : Int) : Int → Bool := fun x => decide (x = k)
theorem justP_def {k : Int} : justP k = fun x => decide (x = k) := rfl
end Go.AM
