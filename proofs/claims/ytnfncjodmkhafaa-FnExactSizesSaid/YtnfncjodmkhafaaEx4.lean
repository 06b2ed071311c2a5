/-
  Contracts: the marks that an exact law sets and looks for.
-/
import Derived.Test.YtnfncjodmkhafaaEx3
set_option linter.all false
set_option linter.unusedSimpArgs false
set_option linter.unusedVariables false
namespace Go.AM
open Go.Proofs
attribute [local congr] ACalls_congr loopS_congr lenSlW_congr lenStrW_congr strW_congr ptrW_congr nilW_congr aggW_congr tupW_congr idxW_congr idxStrW_congr condA_congr optW_congr callW_congr iteW_congr opW_congr iA_congr wpS_congr guardW_congr pickW_congr slStrW_congr slSlW_congr makeW_congr
attribute [local push_cast] wpS_skip wpS_ops_h wpS_seq_h wpS_cond_h wpS_block_h wpS_exit wpS_ret wpS_loop_h thenA_n thenA_r thenA_e blockA_n blockA_r blockA_same blockA_ne retS_rp retS_np Mem.pop_push_ext Mem.pop_push Mem.pop_ext Mem.pop_self resOne_t resOne_cell cellR_t cellR_f Option.map_some tup1_1 tup1_2 iA_nil iA_cons_h iA_guard_h guardW_b condA_b putA_s putA_n evA_t evA_c evA_f List.set_cons_zero List.set_cons_succ List.getD_cons_zero List.getD_cons_succ List.map_cons List.map_nil List.mapM_cons List.mapM_nil List.cons_append List.nil_append List.append_nil List.length_cons List.length_nil List.replicate List.append_eq List.foldr_cons List.foldr_nil opW_mov_h opW_pick_h opW_newS_h opW_newH_h opW_boxS_h opW_boxH_h opW_build_h opW_mkSlice_h opW_load_h opW_loadN_h opW_store_h opW_nilCheck_h opW_bin_h opW_isNil_h opW_un_h opW_convI_h opW_convP_h opW_convBS_h opW_extract_h opW_fieldAddr_h opW_field1_h opW_fieldN_h opW_idxSl_h opW_idxStr_h opW_slStr_h opW_slSl_h opW_fn_h opW_make_h opW_lenStr_h opW_lenSl_h opW_append_h opW_appStr_h opW_call_h pickW_b optW_some boxW_h ptrW_p stW_h nilW_p nilW_f tupW_t aggW_a idxW_sh idxStrW_sh slStrW_sh slSlW_n slSlW_sh makeW_ih lenStrW_s lenSlW_s strW_s callW_fh boundA_n boundA_s intOf_i unA_neg unA_not isNilA_0n isNilA_0s isNilA_2n isNilA_2f isNilA_2g bin_add bin_sub bin_mul bin_lss bin_leq bin_gtr bin_geq bin_eql bin_neq bin_eqlS bin_neqS cells_b cells_i cells_f cells_s cells_p cells_sl cells_nf cells_fn cells_a List.all_cons List.all_nil okV_b okV_i okV_fl okV_s okV_pn okV_sn okV_p okV_pl okV_sl okV_nf okV_f okV_a okV_t okA_b okA_i okA_fl okA_s okA_pn okA_sn okA_p okA_sl okA_a okC_b okC_i okC_fl okC_s okC_pn okC_sn okC_p okC_pl okC_sl okC_nf okC_f okC0_b okC0_i okC0_s okC0_p okC0_pl List.toList_toArray Array.toList_empty decide_eq_true_eq decide_eq_false_iff_not Bool.not_eq_true' Bool.false_eq_true Bool.and_true Bool.true_and bne_self_eq_false Bool.bne_false Bool.bne_true true_and and_true Option.bind_eq_bind Option.bind_some Option.pure_def Option.some.injEq exists_eq_left' Option.isNone_none Option.isNone_some decide_true decide_false Mem.box_ext Mem.ext_box Mem.ext_ext Mem.ext_heap Mem.ext_len1 Mem.ext_len2 Mem.ext_len3 Mem.ext_len4 Mem.ext_len5 Mem.ext_len6 Mem.ext_len7 Mem.ext_len8 Mem.ext_len9 Mem.ext_len10 Mem.ext_len11 Mem.ext_len12 Mem.ext_pop Mem.self_pop Mem.ext_push Mem.ext_load Mem.ext_loads Mem.ext_load0 Mem.ext_loadj Mem.ext_loads0 Mem.ext_loadsj Mem.ext_store0 Mem.ext_storej Mem.stores_nil Mem.stores_cons List.getElem?_cons_zero List.getElem?_cons_succ List.getElem?_nil Nat.zero_add List.drop_zero List.drop_succ_cons List.take_succ_cons List.take_zero List.size_toArray Option.bind_fun_some Nat.add_assoc fillA_nil fillA_cons partsA_nil partsA_cons push_sliceCells byteA_i noPtr_b noPtr_i noPtr_f noPtr_s List.flatten_cons List.flatten_nil bin_rem bin_quo ne_eq not_false_eq_true and_self Nat.one_mul Nat.mul_one Nat.le_refl List.take_nil List.drop_nil Nat.add_zero Bool.not_true Bool.not_false Bool.true_eq_false false_and and_false Bool.false_and Bool.and_false Bool.false_or Bool.or_false Bool.true_or Bool.or_true guardW_tt guardW_tf guardW_ft guardW_ff guardW_uh condA_t condA_f hold_1 hold_2 hold_3 iteV_t iteV_f iteO_t iteO_f not_true_eq_false Int.toNat_natCast Int.toNat_natCast_add_one Int.toNat_zero Nat.sub_zero en35 en76 en34 en11 en60 en115 en116 en94 en95 en97 en96 en92 en131 en93 en142 en117 en77 en36 en12 en38 rt73a rt73s en78 en37 rt27a rt27s en13 en80 en48 en90 en129 en130 en128 en88 en89 en143 en118 en144 en119 en120 en145 en146 en162 en147 en121 en122 en123 en124 en79 en81 en39 en40 en14 en15 en82 en41 en16 en18 en83 en42 en17 en19 en4
attribute [local push_cast] andW_t iteH_t iteH_f

def marksL (k : Int) (n : Nat) : List Int := (List.range n).map fun (i : Nat) => k + (i : Int)
theorem marksL_len {k : Int} {n : Nat} : (marksL k n).length = n := by simp [marksL]
theorem marksL_get {k : Int} {n i : Nat} (h : i < (marksL k n).length) : (marksL k n)[i] = k + i := by simp [marksL]
theorem mark_cells {k : Int} {l : List Int} {i : Nat} (h : i < l.length) :
    ((marksL k i ++ l.drop i).map (Value.int .i64)).set i (.int .i64 (k + i)) = (marksL k (i + 1) ++ l.drop (i + 1)).map (Value.int .i64) := by
  rw [List.map_append, List.set_append_right _ _ (by simp [marksL_len])]
  rw [List.drop_eq_getElem_cons h, List.map_cons]
  simp only [List.length_map, marksL_len, Nat.sub_self, List.set_cons_zero]
  simp only [marksL, List.range_succ, List.map_append, List.map_cons, List.map_nil, List.append_assoc, List.cons_append, List.nil_append]
theorem markIntS_c {l : List Int} {v : Value} {fp : List Nat} {k : Int} {m : Mem} (hl : l.length < 2 ^ 61) (h1 : 0 ≤ k) (h2 : k < 2 ^ 61) (h : IntsO m v l fp) :
    ACalls Try.prog 18 [v, .int .i64 k] m (fun r m' => m.frame (· ∈ fp) m' ∧ m'.heap.length = m.heap.length ∧ IntsO m' v (marksL k l.length) fp ∧ r = .int .i64 (k + l.length)) := by
  refine acalls_of Try.func18 s18 ?_
  have hs := Sl.lenW h.ints
  simp only [A18, hs, hs, push_cast, Nat.reduceAdd, Nat.reduceMul, Nat.reduceLT, Nat.reduceLeDiff, Int.reduceEq, Nat.reduceEqDiff, reduceCtorEq]
  refine loopS_rule (σ := Int × Int) (fun s g => E18_0 v (.int .i64 s.1) (.int .i64 s.2) g)
    (fun s m' => 0 ≤ s.2 ∧ s.2 ≤ l.length ∧ s.1 = k + s.2 ∧ m.frame (· ∈ fp) m' ∧ m'.heap.length = m.heap.length ∧ (l = [] ∧ v = .slice none 0 0 ∧ fp = [] ∨ ∃ b ver, v = .slice (some ⟨b, 0, some ver⟩) l.length 1 ∧ m'.blk b ver ((marksL k s.2.toNat ++ l.drop s.2.toNat).map (.int .i64)) ∧ fp = [b]))
    (fun s => l.length - s.2.toNat) (k, 0) rfl ?_ ?_
  · refine ⟨by simp, by simp, by simp, Mem.frame.refl _ _, rfl, ?_⟩
    rcases h with h | ⟨b, ver, hv, hb, hf⟩
    · exact .inl h
    · exact .inr ⟨b, ver, hv, by simpa [marksL] using hb, hf⟩
  rintro ⟨ki, i⟩ g m' ⟨hi0, hi, hk, hfr, hlen, hb⟩
  simp only at hi0 hi hk hb
  obtain ⟨i, rfl⟩ := Int.eq_ofNat_of_zero_le hi0
  subst hk
  rw [Int.toNat_natCast] at hb
  simp only [E18_0, hs, hs, hs, push_cast, Nat.reduceAdd, Nat.reduceMul, Nat.reduceLT, Nat.reduceLeDiff, Int.reduceEq, Nat.reduceEqDiff, reduceCtorEq]
  refine ite_h (fun hlt => ?_) fun hge => ?_
  · ((try refine hold_top ?_); (try simp only [hs, hs, push_cast, Nat.reduceAdd, Nat.reduceMul, Nat.reduceLT, Nat.reduceLeDiff, Int.reduceEq, Nat.reduceEqDiff, reduceCtorEq]); (try (refine hold_top ?_; simp only [hs, hs, push_cast, Nat.reduceAdd, Nat.reduceMul, Nat.reduceLT, Nat.reduceLeDiff, Int.reduceEq, Nat.reduceEqDiff, reduceCtorEq])))
    have hil : i < l.length := by omega
    rcases hb with ⟨rfl, _⟩ | ⟨b, ver, rfl, hb, rfl⟩
    · simp at hil
    have hwi : IntKind.i64.wrap ((i : Int) + 1) = (i : Int) + 1 := w64_id (by omega) (by omega)
    have hwk : IntKind.i64.wrap (k + (i : Int) + 1) = k + (i : Int) + 1 := w64_id (by omega) (by omega)
    have hti : ((i : Int) + 1).toNat = i + 1 := by omega
    ((try refine hold_top ?_); (try simp only [hs, hs, hwi, hwk, push_cast, Nat.reduceAdd, Nat.reduceMul, Nat.reduceLT, Nat.reduceLeDiff, Int.reduceEq, Nat.reduceEqDiff, reduceCtorEq]); (try (refine hold_top ?_; simp only [hs, hs, hwi, hwk, push_cast, Nat.reduceAdd, Nat.reduceMul, Nat.reduceLT, Nat.reduceLeDiff, Int.reduceEq, Nat.reduceEqDiff, reduceCtorEq])))
    refine andW_i (by omega) ?_
    ((try refine hold_top ?_); (try simp only [Int.toNat_natCast, Nat.mul_one, hb.store (o := i) (v := .int .i64 (k + i)) (by simp [marksL_len]; omega) rfl, hwi, hwk, hs, hs, hwi, hwk, push_cast, Nat.reduceAdd, Nat.reduceMul, Nat.reduceLT, Nat.reduceLeDiff, Int.reduceEq, Nat.reduceEqDiff, reduceCtorEq]); (try (refine hold_top ?_; simp only [Int.toNat_natCast, Nat.mul_one, hb.store (o := i) (v := .int .i64 (k + i)) (by simp [marksL_len]; omega) rfl, hwi, hwk, hs, hs, hwi, hwk, push_cast, Nat.reduceAdd, Nat.reduceMul, Nat.reduceLT, Nat.reduceLeDiff, Int.reduceEq, Nat.reduceEqDiff, reduceCtorEq])))
    refine ⟨(k + (i : Int) + 1, (i : Int) + 1), rfl, by simp only [hti, Int.toNat_natCast]; omega, by simp only; omega, by simp only; omega, by simp only; omega, hfr.trans (Mem.frame.put (by simp)), by rw [Mem.put_len]; exact hlen, .inr ⟨b, ver, rfl, ?_, rfl⟩⟩
    simp only [hti]
    rw [← mark_cells hil]
    exact Mem.put_same hb
  · ((try refine hold_top ?_); (try simp only [hs, hs, push_cast, Nat.reduceAdd, Nat.reduceMul, Nat.reduceLT, Nat.reduceLeDiff, Int.reduceEq, Nat.reduceEqDiff, reduceCtorEq]); (try (refine hold_top ?_; simp only [hs, hs, push_cast, Nat.reduceAdd, Nat.reduceMul, Nat.reduceLT, Nat.reduceLeDiff, Int.reduceEq, Nat.reduceEqDiff, reduceCtorEq])))
    have hi' : i = l.length := by omega
    have hpop : m'.pop m.stk.length = m' := by rw [← hfr.stk]; exact Mem.pop_self
    rw [hpop]
    refine ⟨hfr, hlen, ?_, by rw [hi']⟩
    rcases hb with ⟨rfl, rfl, rfl⟩ | ⟨b, ver, rfl, hb, rfl⟩
    · exact .inl ⟨by simp [marksL], rfl, rfl⟩
    · refine .inr ⟨b, ver, by rw [marksL_len], ?_, rfl⟩
      rw [hi'] at hb
      simpa using hb
theorem heldIntS_c {n : Nat} {v : Value} {k : Int} {m : Mem} (hl : n < 2 ^ 61) (h1 : 0 ≤ k) (h2 : k < 2 ^ 61) (h : Ints m v (marksL k n)) :
    ACalls Try.prog 19 [v, .int .i64 k] m (fun r m' => m' = m ∧ r = .int .i64 (k + n)) := by
  refine acalls_of Try.func19 s19 ?_
  have hs := Sl.lenW h
  rw [marksL_len] at hs
  simp only [A19, hs, hs, push_cast, Nat.reduceAdd, Nat.reduceMul, Nat.reduceLT, Nat.reduceLeDiff, Int.reduceEq, Nat.reduceEqDiff, reduceCtorEq]
  refine loopS_rule (σ := Int × Int) (fun s g => E19_0 v (.int .i64 s.1) (.int .i64 s.2) g) (fun s m' => m' = m ∧ 0 ≤ s.2 ∧ s.2 ≤ n ∧ s.1 = k + s.2) (fun s => n - s.2.toNat) (k, 0) rfl ⟨rfl, by simp, by simp, by simp⟩ ?_
  rintro ⟨ki, i⟩ g m' ⟨rfl, hi0, hi, hk⟩
  simp only at hi0 hi hk
  obtain ⟨i, rfl⟩ := Int.eq_ofNat_of_zero_le hi0
  subst hk
  simp only [E19_0, hs, hs, hs, push_cast, Nat.reduceAdd, Nat.reduceMul, Nat.reduceLT, Nat.reduceLeDiff, Int.reduceEq, Nat.reduceEqDiff, reduceCtorEq]
  refine ite_h (fun hlt => ?_) fun hge => ?_
  · ((try refine hold_top ?_); (try simp only [hs, hs, push_cast, Nat.reduceAdd, Nat.reduceMul, Nat.reduceLT, Nat.reduceLeDiff, Int.reduceEq, Nat.reduceEqDiff, reduceCtorEq]); (try (refine hold_top ?_; simp only [hs, hs, push_cast, Nat.reduceAdd, Nat.reduceMul, Nat.reduceLT, Nat.reduceLeDiff, Int.reduceEq, Nat.reduceEqDiff, reduceCtorEq])))
    have hil : i < (marksL k n).length := by rw [marksL_len]; omega
    obtain ⟨b, off, ver, rfl, hld⟩ := Ints.get h hil
    rw [marksL_get] at hld
    have hwi : IntKind.i64.wrap ((i : Int) + 1) = (i : Int) + 1 := w64_id (by omega) (by omega)
    have hwk : IntKind.i64.wrap (k + (i : Int) + 1) = k + (i : Int) + 1 := w64_id (by omega) (by omega)
    have hti : ((i : Int) + 1).toNat = i + 1 := by omega
    ((try refine hold_top ?_); (try simp only [Int.toNat_natCast, Nat.mul_one, hld, hs, hs, Int.toNat_natCast, hld, hwi, hwk, push_cast, Nat.reduceAdd, Nat.reduceMul, Nat.reduceLT, Nat.reduceLeDiff, Int.reduceEq, Nat.reduceEqDiff, reduceCtorEq]); (try (refine hold_top ?_; simp only [Int.toNat_natCast, Nat.mul_one, hld, hs, hs, Int.toNat_natCast, hld, hwi, hwk, push_cast, Nat.reduceAdd, Nat.reduceMul, Nat.reduceLT, Nat.reduceLeDiff, Int.reduceEq, Nat.reduceEqDiff, reduceCtorEq])))
    refine ⟨by rw [marksL_len]; omega, ?_⟩
    ((try refine hold_top ?_); (try simp only [Int.toNat_natCast, Nat.mul_one, hld, hwi, hwk, hs, hs, Int.toNat_natCast, hld, hwi, hwk, push_cast, Nat.reduceAdd, Nat.reduceMul, Nat.reduceLT, Nat.reduceLeDiff, Int.reduceEq, Nat.reduceEqDiff, reduceCtorEq]); (try (refine hold_top ?_; simp only [Int.toNat_natCast, Nat.mul_one, hld, hwi, hwk, hs, hs, Int.toNat_natCast, hld, hwi, hwk, push_cast, Nat.reduceAdd, Nat.reduceMul, Nat.reduceLT, Nat.reduceLeDiff, Int.reduceEq, Nat.reduceEqDiff, reduceCtorEq])))
    refine ⟨(k + (i : Int) + 1, (i : Int) + 1), rfl, by simp only [hti, Int.toNat_natCast]; omega, by simp only; omega, by simp only; omega, by simp only; omega⟩
  · ((try refine hold_top ?_); (try simp only [hs, hs, push_cast, Nat.reduceAdd, Nat.reduceMul, Nat.reduceLT, Nat.reduceLeDiff, Int.reduceEq, Nat.reduceEqDiff, reduceCtorEq]); (try (refine hold_top ?_; simp only [hs, hs, push_cast, Nat.reduceAdd, Nat.reduceMul, Nat.reduceLT, Nat.reduceLeDiff, Int.reduceEq, Nat.reduceEqDiff, reduceCtorEq])))
    have hi' : i = n := by omega
    rw [hi']

def decB (n : Nat) : List UInt8 := if h : n = 0 then [] else decB (n / 10) ++ [UInt8.ofNat (48 + n % 10)]
termination_by n
def markTextP (k : Int) : ByteArray := if k ≤ 0 then ⟨#[109, 48]⟩ else ⟨#[109]⟩ ++ ⟨(decB k.toNat).toArray⟩
theorem decB_pos {n : Nat} (h : n ≠ 0) : decB n = decB (n / 10) ++ [UInt8.ofNat (48 + n % 10)] := by
  rw [decB]; simp [h]
theorem bytes_add_list (a b : ByteArray) : (a ++ b).data.toList = a.data.toList ++ b.data.toList := by simp
theorem markText_c {k : Int} {m : Mem} (h2 : k < 2 ^ 61) :
    ACalls Try.prog 83 [.int .i64 k] m (fun r m' => m' = m ∧ r = .string (markTextP k)) := by
  refine ACalls.gc ?_
  refine acalls_of Try.func83 s83 ?_
  simp only [A83, push_cast, Nat.reduceAdd, Nat.reduceMul, Nat.reduceLT, Nat.reduceLeDiff, Int.reduceEq, Nat.reduceEqDiff, reduceCtorEq]
  refine ite_h (fun h0 => ?_) fun h0 => ?_
  · ((try refine hold_top ?_); (try simp only [push_cast, Nat.reduceAdd, Nat.reduceMul, Nat.reduceLT, Nat.reduceLeDiff, Int.reduceEq, Nat.reduceEqDiff, reduceCtorEq]); (try (refine hold_top ?_; simp only [push_cast, Nat.reduceAdd, Nat.reduceMul, Nat.reduceLT, Nat.reduceLeDiff, Int.reduceEq, Nat.reduceEqDiff, reduceCtorEq])))
    exact ⟨Mem.le.refl _, by simp [markTextP, h0]⟩
  ((try refine hold_top ?_); (try simp only [push_cast, Nat.reduceAdd, Nat.reduceMul, Nat.reduceLT, Nat.reduceLeDiff, Int.reduceEq, Nat.reduceEqDiff, reduceCtorEq]); (try (refine hold_top ?_; simp only [push_cast, Nat.reduceAdd, Nat.reduceMul, Nat.reduceLT, Nat.reduceLeDiff, Int.reduceEq, Nat.reduceEqDiff, reduceCtorEq])))
  refine loopS_rule (σ := Int × ByteArray) (fun s g => E83_0 (.int .i64 s.1) (.string s.2) g)
    (fun s m' => m.le m' ∧ 0 ≤ s.1 ∧ s.1.toNat * 10 ^ s.2.size ≤ k.toNat ∧ s.2.size ≤ 2 ^ 61 ∧ decB s.1.toNat ++ s.2.data.toList = decB k.toNat) (fun s => s.1.toNat) (k, ⟨#[]⟩) rfl ⟨Mem.le.refl _, by simp; omega, by simp [ByteArray.size], by simp [ByteArray.size], by simp⟩ ?_
  rintro ⟨n, out⟩ g m' ⟨hle, hn0, hsz, hs61, hd⟩
  simp only at hn0 hsz hd hs61
  obtain ⟨n, rfl⟩ := Int.eq_ofNat_of_zero_le hn0
  rw [Int.toNat_natCast] at hd hsz
  have hlt : out.size < 10 ^ out.size := Nat.lt_pow_self (by omega)
  simp only [E83_0, push_cast, Nat.reduceAdd, Nat.reduceMul, Nat.reduceLT, Nat.reduceLeDiff, Int.reduceEq, Nat.reduceEqDiff, reduceCtorEq]
  refine ite_h (fun hlt' => ?_) fun hge => ?_
  · have e1 : (n : Int).tmod 10 = ((n % 10 : Nat) : Int) := by rw [Int.tmod_eq_emod_of_nonneg (by omega)]; rfl
    have e2 : (n : Int).tdiv 10 = ((n / 10 : Nat) : Int) := by rw [Int.tdiv_eq_ediv_of_nonneg (by omega)]; rfl
    have hnk : n ≤ k.toNat := Nat.le_trans (Nat.le_mul_of_pos_right n (by omega)) hsz
    have hpk : 10 ^ out.size ≤ k.toNat := Nat.le_trans (Nat.le_mul_of_pos_left _ (by omega)) hsz
    have e3 : IntKind.i64.wrap (48 + ((n % 10 : Nat) : Int)) = ((48 + n % 10 : Nat) : Int) := by rw [w64_id (by omega) (by omega)]; omega
    have e4 : IntKind.u8.wrap ((48 + n % 10 : Nat) : Int) = ((48 + n % 10 : Nat) : Int) := u8_id (by omega) (by omega)
    have e5 : IntKind.i64.wrap ((n / 10 : Nat) : Int) = ((n / 10 : Nat) : Int) := w64_id (by omega) (by omega)
    have hb := bin_addS (P := Try.prog) (t := 9) (x := .tmp 13) (y := .tmp 14) (a := ⟨#[UInt8.ofNat (48 + n % 10)]⟩) (b := out) (by show 1 + out.size ≤ _; omega)
    ((try refine hold_top ?_); (try simp only [push_cast, Nat.reduceAdd, Nat.reduceMul, Nat.reduceLT, Nat.reduceLeDiff, Int.reduceEq, Nat.reduceEqDiff, reduceCtorEq]); (try (refine hold_top ?_; simp only [push_cast, Nat.reduceAdd, Nat.reduceMul, Nat.reduceLT, Nat.reduceLeDiff, Int.reduceEq, Nat.reduceEqDiff, reduceCtorEq])))
    rw [e1, e3, e4, Int.toNat_natCast, hb, optW_some]
    ((try refine hold_top ?_); (try simp only [push_cast, Nat.reduceAdd, Nat.reduceMul, Nat.reduceLT, Nat.reduceLeDiff, Int.reduceEq, Nat.reduceEqDiff, reduceCtorEq]); (try (refine hold_top ?_; simp only [push_cast, Nat.reduceAdd, Nat.reduceMul, Nat.reduceLT, Nat.reduceLeDiff, Int.reduceEq, Nat.reduceEqDiff, reduceCtorEq])))
    rw [e2, e5]
    refine ⟨(((n / 10 : Nat) : Int), ⟨#[UInt8.ofNat (48 + n % 10)]⟩ ++ out), rfl, ?_, hle.trans (Mem.le_push _ _), by simp only; omega, ?_, ?_, ?_⟩
    · simp only [Int.toNat_natCast]; omega
    · simp only [Int.toNat_natCast]
      refine Nat.le_trans ?_ hsz
      have hs : (⟨#[UInt8.ofNat (48 + n % 10)]⟩ ++ out : ByteArray).size = out.size + 1 := by rw [ByteArray.size_append]; show 1 + out.size = _; omega
      rw [hs, Nat.pow_succ, show n / 10 * (10 ^ out.size * 10) = (n / 10 * 10) * 10 ^ out.size by rw [Nat.mul_comm (10 ^ out.size) 10, Nat.mul_assoc]]
      exact Nat.mul_le_mul_right (10 ^ out.size) (Nat.div_mul_le_self n 10)
    · simp only [ByteArray.size_append]
      show 1 + out.size ≤ _
      omega
    · simp only [Int.toNat_natCast, bytes_add_list]
      rw [← hd, decB_pos (show n ≠ 0 by omega)]
      simp
  · have hn : n = 0 := by omega
    subst hn
    have hb := bin_addS (P := Try.prog) (t := 9) (x := .const (.string ⟨#[109]⟩)) (y := .tmp 18) (a := ⟨#[109]⟩) (b := out) (by show 1 + out.size ≤ _; omega)
    ((try refine hold_top ?_); (try simp only [hb, hle.pop_same, push_cast, Nat.reduceAdd, Nat.reduceMul, Nat.reduceLT, Nat.reduceLeDiff, Int.reduceEq, Nat.reduceEqDiff, reduceCtorEq]); (try (refine hold_top ?_; simp only [hb, hle.pop_same, push_cast, Nat.reduceAdd, Nat.reduceMul, Nat.reduceLT, Nat.reduceLeDiff, Int.reduceEq, Nat.reduceEqDiff, reduceCtorEq])))
    refine ⟨hle, ?_⟩
    rw [markTextP, if_neg h0, ← hd]
    simp [decB]

theorem nodup_flatten_apart {ls : List (List Nat)} (h : ls.flatten.Nodup) {i j : Nat} {a b : List Nat} (ha : ls[i]? = some a) (hb : ls[j]? = some b) (hij : i ≠ j) {c : Nat} (h1 : c ∈ a) (h2 : c ∈ b) : False := by
  unfold List.Nodup at h
  rw [List.pairwise_flatten] at h
  obtain ⟨hi, ea⟩ := List.getElem?_eq_some_iff.1 ha
  obtain ⟨hj, eb⟩ := List.getElem?_eq_some_iff.1 hb
  have := List.pairwise_iff_getElem.1 h.2
  rcases Nat.lt_or_gt_of_ne hij with hlt | hgt
  · ((try refine hold_top ?_); (try simp only [push_cast, Nat.reduceAdd, Nat.reduceMul, Nat.reduceLT, Nat.reduceLeDiff, Int.reduceEq, Nat.reduceEqDiff, reduceCtorEq]); (try (refine hold_top ?_; simp only [push_cast, Nat.reduceAdd, Nat.reduceMul, Nat.reduceLT, Nat.reduceLeDiff, Int.reduceEq, Nat.reduceEqDiff, reduceCtorEq])))
    have hd := this i j hi hj hlt
    rw [ea, eb] at hd
    exact hd c h1 c h2 rfl
  · have hd := this j i hj hi hgt
    rw [ea, eb] at hd
    exact hd c h2 c h1 rfl
def PNode.mark (k : Int) (n : PNode) : PNode := ⟨k, markTextP (k + 1), k + 2, marksL (k + 3) n.kids.length⟩
def PNode.marks (n : PNode) : Nat := 3 + n.kids.length
/-- What the j-th of some nodes is, of which i are marked. -/
def markAt (k : Int) (l : List PNode) (i j : Nat) (n : PNode) : PNode := if j < i then n.mark (k + sumTo PNode.marks l j) else n
theorem markNodeS_c {l : List PNode} {v : Value} {fp : List Nat} {k : Int} {m : Mem} (hl : l.length + sumAll PNode.marks l < 2 ^ 60) (h1 : 0 ≤ k) (h2 : k < 2 ^ 60) (h : NodesO m v l fp) (hnd : fp.Nodup) :
    ACalls Try.prog 42 [v, .int .i64 k] m (fun r m' => m.frame (· ∈ fp) m' ∧ m'.heap.length = m.heap.length ∧ NodesO m' v (l.mapIdx fun j n => markAt k l l.length j n) fp ∧ r = .int .i64 (k + sumAll PNode.marks l)) := by
  refine acalls_of Try.func42 s42 ?_
  have hs := Sl.lenW h.nodes
  rcases h with ⟨rfl, rfl, rfl⟩ | ⟨b, ver, cells, fps, rfl, hb, hcl, hfl, rfl, hr⟩
  · simp only [A42, hs, hs, push_cast, Nat.reduceAdd, Nat.reduceMul, Nat.reduceLT, Nat.reduceLeDiff, Int.reduceEq, Nat.reduceEqDiff, reduceCtorEq]
    refine loopS_rule (σ := Int) (fun s g => E42_0 (.slice none 0 0) (.int .i64 s) (.int .i64 0) g) (fun s m' => s = k ∧ m' = m) (fun _ => 0) k rfl ⟨rfl, rfl⟩ ?_
    rintro s g m' ⟨rfl, rfl⟩
    simp only [E42_0, hs, hs, push_cast, Nat.reduceAdd, Nat.reduceMul, Nat.reduceLT, Nat.reduceLeDiff, Int.reduceEq, Nat.reduceEqDiff, reduceCtorEq]
    refine ite_h (fun hlt => by simp at hlt) fun _ => ?_
    ((try refine hold_top ?_); (try simp only [hs, hs, push_cast, Nat.reduceAdd, Nat.reduceMul, Nat.reduceLT, Nat.reduceLeDiff, Int.reduceEq, Nat.reduceEqDiff, reduceCtorEq]); (try (refine hold_top ?_; simp only [hs, hs, push_cast, Nat.reduceAdd, Nat.reduceMul, Nat.reduceLT, Nat.reduceLeDiff, Int.reduceEq, Nat.reduceEqDiff, reduceCtorEq])))
    exact ⟨Mem.frame.refl _ _, .inl ⟨rfl, rfl, rfl⟩, by simp [sumAll]⟩
  rw [List.nodup_cons] at hnd
  simp only [A42, hs, hs, push_cast, Nat.reduceAdd, Nat.reduceMul, Nat.reduceLT, Nat.reduceLeDiff, Int.reduceEq, Nat.reduceEqDiff, reduceCtorEq]
  refine loopS_rule (σ := Int × Int) (fun s g => E42_0 (.slice (some ⟨b, 0, some ver⟩) l.length 4) (.int .i64 s.1) (.int .i64 s.2) g)
    (fun s m' => 0 ≤ s.2 ∧ s.2 ≤ l.length ∧ s.1 = k + sumTo PNode.marks l s.2.toNat ∧ m.frame (· ∈ b :: fps.flatten) m' ∧ m'.heap.length = m.heap.length ∧ ∃ cells : List Value, m'.blk b ver cells ∧ cells.length = l.length * 4 ∧
      ∀ i x f, l[i]? = some x → fps[i]? = some f → isNodeO m' ((cells.drop (i * 4)).take 4) (markAt k l s.2.toNat i x) f)
    (fun s => l.length - s.2.toNat) (k, 0) rfl ?_ ?_
  · refine ⟨by simp, by simp, by simp [sumTo_zero], Mem.frame.refl _ _, rfl, cells, hb, hcl, ?_⟩
    simpa [markAt] using hr
  clear hr hcl hb cells
  rintro ⟨ki, i⟩ g m' ⟨hi0, hi, hk, hfr, hlen, cells, hb, hcl, hr⟩
  simp only at hi0 hi hk hr
  obtain ⟨i, rfl⟩ := Int.eq_ofNat_of_zero_le hi0
  rw [Int.toNat_natCast] at hk hr
  subst hk
  simp only [E42_0, hs, hs, push_cast, Nat.reduceAdd, Nat.reduceMul, Nat.reduceLT, Nat.reduceLeDiff, Int.reduceEq, Nat.reduceEqDiff, reduceCtorEq]
  have hsl := sumTo_le PNode.marks l i
  refine ite_h (fun hlt => ?_) fun hge => ?_
  · ((try refine hold_top ?_); (try simp only [hs, hs, push_cast, Nat.reduceAdd, Nat.reduceMul, Nat.reduceLT, Nat.reduceLeDiff, Int.reduceEq, Nat.reduceEqDiff, reduceCtorEq]); (try (refine hold_top ?_; simp only [hs, hs, push_cast, Nat.reduceAdd, Nat.reduceMul, Nat.reduceLT, Nat.reduceLeDiff, Int.reduceEq, Nat.reduceEqDiff, reduceCtorEq])))
    have hil : i < l.length := by omega
    have hsl' := sumTo_le PNode.marks l (i + 1)
    rw [sumTo_succ _ _ _ hil] at hsl'
    have hmk : l[i].marks = 3 + l[i].kids.length := rfl
    obtain ⟨f, hf⟩ : ∃ f, fps[i]? = some f := ⟨_, List.getElem?_eq_getElem (by omega)⟩
    obtain ⟨kv, hcs, hkv⟩ := hr i l[i] f (List.getElem?_eq_getElem hil) hf
    have hma : markAt k l i i l[i] = l[i] := by simp [markAt]
    rw [hma] at hcs hkv
    have hmul := mul_lt_succ (e := 4) hil
    generalize hkk : k + (sumTo PNode.marks l i : Int) = kk at *
    have hwi : IntKind.i64.wrap ((i : Int) + 1) = (i : Int) + 1 := w64_id (by omega) (by omega)
    have hw1 : IntKind.i64.wrap (kk + 1) = kk + 1 := w64_id (by omega) (by omega)
    have hw2 : IntKind.i64.wrap (kk + 1 + 1) = kk + 2 := by rw [w64_id (by omega) (by omega)]; omega
    have hw3 : IntKind.i64.wrap (kk + 2 + 1) = kk + 3 := by rw [w64_id (by omega) (by omega)]; omega
    have hti : ((i : Int) + 1).toNat = i + 1 := by omega
    have hidx : (0 : Int) ≤ i ∧ (i : Int) < l.length := by omega
    have hb1 := Mem.put_same (c := cells.set (i * 4) (.int .i64 kk)) hb
    ((try refine hold_top ?_); (try simp only [Int.toNat_natCast, hb.store (o := i * 4) (v := .int .i64 kk) (by omega) rfl, hw1, hidx, hs, hs, hwi, hw1, hw2, hw3, hidx, Int.toNat_natCast, push_cast, Nat.reduceAdd, Nat.reduceMul, Nat.reduceLT, Nat.reduceLeDiff, Int.reduceEq, Nat.reduceEqDiff, reduceCtorEq]); (try (refine hold_top ?_; simp only [Int.toNat_natCast, hb.store (o := i * 4) (v := .int .i64 kk) (by omega) rfl, hw1, hidx, hs, hs, hwi, hw1, hw2, hw3, hidx, Int.toNat_natCast, push_cast, Nat.reduceAdd, Nat.reduceMul, Nat.reduceLT, Nat.reduceLeDiff, Int.reduceEq, Nat.reduceEqDiff, reduceCtorEq])))
    refine (markText_c (k := kk + 1) (by omega)).mono ?_
    rintro r m2 ⟨rfl, rfl⟩
    ((try refine hold_top ?_); (try simp only [Int.toNat_natCast, hb1.store (o := i * 4 + 1) (v := .string (markTextP (kk + 1))) (by simp; omega) rfl, hw1, hw2, hidx, hs, hs, hwi, hw1, hw2, hw3, hidx, Int.toNat_natCast, push_cast, Nat.reduceAdd, Nat.reduceMul, Nat.reduceLT, Nat.reduceLeDiff, Int.reduceEq, Nat.reduceEqDiff, reduceCtorEq]); (try (refine hold_top ?_; simp only [Int.toNat_natCast, hb1.store (o := i * 4 + 1) (v := .string (markTextP (kk + 1))) (by simp; omega) rfl, hw1, hw2, hidx, hs, hs, hwi, hw1, hw2, hw3, hidx, Int.toNat_natCast, push_cast, Nat.reduceAdd, Nat.reduceMul, Nat.reduceLT, Nat.reduceLeDiff, Int.reduceEq, Nat.reduceEqDiff, reduceCtorEq])))
    rw [Mem.put_put]
    have hb2 := Mem.put_same (c := (cells.set (i * 4) (.int .i64 kk)).set (i * 4 + 1) (.string (markTextP (kk + 1)))) hb
    ((try refine hold_top ?_); (try simp only [hb2.store (o := i * 4 + 2) (v := .int .i64 (kk + 2)) (by simp; omega) rfl, hs, hs, hwi, hw1, hw2, hw3, hidx, Int.toNat_natCast, push_cast, Nat.reduceAdd, Nat.reduceMul, Nat.reduceLT, Nat.reduceLeDiff, Int.reduceEq, Nat.reduceEqDiff, reduceCtorEq]); (try (refine hold_top ?_; simp only [hb2.store (o := i * 4 + 2) (v := .int .i64 (kk + 2)) (by simp; omega) rfl, hs, hs, hwi, hw1, hw2, hw3, hidx, Int.toNat_natCast, push_cast, Nat.reduceAdd, Nat.reduceMul, Nat.reduceLT, Nat.reduceLeDiff, Int.reduceEq, Nat.reduceEqDiff, reduceCtorEq])))
    rw [Mem.put_put]
    generalize hc3 : ((cells.set (i * 4) (.int .i64 kk)).set (i * 4 + 1) (.string (markTextP (kk + 1)))).set (i * 4 + 2) (.int .i64 (kk + 2)) = c3
    have hb3 := Mem.put_same (c := c3) hb
    have hl3 : c3.length = cells.length := by rw [← hc3]; simp
    have hsl3 : (c3.drop (i * 4)).take 4 = [.int .i64 kk, .string (markTextP (kk + 1)), .int .i64 (kk + 2), kv] := by
      rw [← hc3, drop_take_set (by omega), drop_take_set (by omega), drop_take_set0 (by omega), hcs]
      rfl
    have hkv3 : c3[i * 4 + 3]? = some kv := by rw [← drop_take_at (e := 4) (by omega), hsl3]; rfl
    have hne : ∀ j, j ≠ i → (c3.drop (j * 4)).take 4 = (cells.drop (j * 4)).take 4 := by
      intro j hj
      have hji : j * 4 + 4 ≤ i * 4 ∨ i * 4 + 4 ≤ j * 4 := by omega
      rw [← hc3, drop_take_set_ne (by omega) hji, drop_take_set_ne (by omega) hji, drop_take_set0_ne (by omega) hji]
    have hkvm : IntsO (m'.put b c3) kv l[i].kids f := hkv.frame (S := (· = b)) (Mem.frame.put rfl) fun c hc e => hnd.1 (e ▸ List.mem_flatten.2 ⟨f, List.mem_of_getElem? hf, hc⟩)
    ((try refine hold_top ?_); (try simp only [hb3.load, hkv3, hw3, hs, hs, hwi, hw1, hw2, hw3, hidx, Int.toNat_natCast, push_cast, Nat.reduceAdd, Nat.reduceMul, Nat.reduceLT, Nat.reduceLeDiff, Int.reduceEq, Nat.reduceEqDiff, reduceCtorEq]); (try (refine hold_top ?_; simp only [hb3.load, hkv3, hw3, hs, hs, hwi, hw1, hw2, hw3, hidx, Int.toNat_natCast, push_cast, Nat.reduceAdd, Nat.reduceMul, Nat.reduceLT, Nat.reduceLeDiff, Int.reduceEq, Nat.reduceEqDiff, reduceCtorEq])))
    refine (markIntS_c (k := kk + 3) (by omega) (by omega) (by omega) hkvm).mono ?_
    rintro r m4 ⟨hfr4, hlen4, hk4, rfl⟩
    ((try refine hold_top ?_); (try simp only [hs, hs, hwi, hw1, hw2, hw3, hidx, Int.toNat_natCast, push_cast, Nat.reduceAdd, Nat.reduceMul, Nat.reduceLT, Nat.reduceLeDiff, Int.reduceEq, Nat.reduceEqDiff, reduceCtorEq]); (try (refine hold_top ?_; simp only [hs, hs, hwi, hw1, hw2, hw3, hidx, Int.toNat_natCast, push_cast, Nat.reduceAdd, Nat.reduceMul, Nat.reduceLT, Nat.reduceLeDiff, Int.reduceEq, Nat.reduceEqDiff, reduceCtorEq])))
    refine ⟨(kk + 3 + l[i].kids.length, (i : Int) + 1), rfl, by simp only [hti]; omega, by simp only; omega, by simp only; omega, ?_, ?_, ?_, c3, ?_, by omega, ?_⟩
    · simp only [hti, sumTo_succ _ _ _ hil]; omega
    · exact (hfr.trans (Mem.frame.put (by simp))).trans (hfr4.mono fun c hc => List.mem_cons_of_mem _ (List.mem_flatten.2 ⟨f, List.mem_of_getElem? hf, hc⟩))
    · rw [hlen4, Mem.put_len]; exact hlen
    · exact hfr4.blk (fun hc => hnd.1 (List.mem_flatten.2 ⟨f, List.mem_of_getElem? hf, hc⟩)) hb3
    · intro j x f' hx hf'
      by_cases hj : j = i
      · subst hj
        rw [hf] at hf'
        cases hf'
        rw [List.getElem?_eq_getElem hil] at hx
        cases hx
        rw [hsl3]
        refine ⟨kv, ?_, ?_⟩
        · simp [markAt, hti, PNode.mark, hkk]
        · simpa [markAt, hti, PNode.mark, hkk] using hk4
      · rw [hne j hj]
        have hmk' : markAt k l ((i : Int) + 1).toNat j x = markAt k l i j x := by
          unfold markAt
          rw [hti]
          by_cases hji : j < i
          · rw [if_pos hji, if_pos (by omega)]
          · rw [if_neg hji, if_neg (by omega)]
        rw [hmk']
        have hjm : ∀ c ∈ f', c ∈ fps.flatten := fun c hc => List.mem_flatten.2 ⟨f', List.mem_of_getElem? hf', hc⟩
        refine ((hr j x f' hx hf').frame (S := (· = b)) (Mem.frame.put rfl) fun c hc e => hnd.1 (e ▸ hjm c hc)).frame hfr4 fun c hc hc' => ?_
        exact nodup_flatten_apart hnd.2 hf' hf hj hc hc'
  · ((try refine hold_top ?_); (try simp only [hs, hs, push_cast, Nat.reduceAdd, Nat.reduceMul, Nat.reduceLT, Nat.reduceLeDiff, Int.reduceEq, Nat.reduceEqDiff, reduceCtorEq]); (try (refine hold_top ?_; simp only [hs, hs, push_cast, Nat.reduceAdd, Nat.reduceMul, Nat.reduceLT, Nat.reduceLeDiff, Int.reduceEq, Nat.reduceEqDiff, reduceCtorEq])))
    have hi' : i = l.length := by omega
    have hpop : m'.pop m.stk.length = m' := by rw [← hfr.stk]; exact Mem.pop_self
    rw [hpop]
    refine ⟨hfr, hlen, .inr ⟨b, ver, cells, fps, by simp, hb, by simpa using hcl, by simpa using hfl, rfl, ?_⟩, ?_⟩
    · ((try refine hold_top ?_); (try simp only [hs, hs, push_cast, Nat.reduceAdd, Nat.reduceMul, Nat.reduceLT, Nat.reduceLeDiff, Int.reduceEq, Nat.reduceEqDiff, reduceCtorEq]); (try (refine hold_top ?_; simp only [hs, hs, push_cast, Nat.reduceAdd, Nat.reduceMul, Nat.reduceLT, Nat.reduceLeDiff, Int.reduceEq, Nat.reduceEqDiff, reduceCtorEq])))
      intro j x f hx hf
      rw [List.getElem?_mapIdx] at hx
      simp only [Option.map_eq_some_iff] at hx
      obtain ⟨n, hn, rfl⟩ := hx
      rw [hi'] at hr
      exact hr j n f hn hf
    · ((try refine hold_top ?_); (try simp only [hs, hs, push_cast, Nat.reduceAdd, Nat.reduceMul, Nat.reduceLT, Nat.reduceLeDiff, Int.reduceEq, Nat.reduceEqDiff, reduceCtorEq]); (try (refine hold_top ?_; simp only [hs, hs, push_cast, Nat.reduceAdd, Nat.reduceMul, Nat.reduceLT, Nat.reduceLeDiff, Int.reduceEq, Nat.reduceEqDiff, reduceCtorEq])))
      rw [sumTo_all _ _ _ (by omega)]
end Go.AM
