/-
  Contracts: RealOf.
-/
import Derived.Test.YtnfncjodmkhafaaTx3
import Derived.Test.YtnfncjodmkhafaaFl1
set_option linter.all false
set_option linter.unusedSimpArgs false
set_option linter.unusedVariables false
namespace Go.AM
open Go.Proofs
attribute [local congr] ACalls_congr loopS_congr lenSlW_congr lenStrW_congr strW_congr ptrW_congr nilW_congr aggW_congr tupW_congr idxW_congr idxStrW_congr condA_congr optW_congr callW_congr iteW_congr opW_congr iA_congr wpS_congr guardW_congr pickW_congr slStrW_congr slSlW_congr makeW_congr
attribute [local push_cast] wpS_skip wpS_ops_h wpS_seq_h wpS_cond_h wpS_block_h wpS_exit wpS_ret wpS_loop_h thenA_n thenA_r thenA_e blockA_n blockA_r blockA_same blockA_ne retS_rp retS_np Mem.pop_push_ext Mem.pop_push Mem.pop_ext Mem.pop_self resOne_t resOne_cell cellR_t cellR_f Option.map_some tup1_1 tup1_2 iA_nil iA_cons_h iA_guard_h guardW_b condA_b putA_s putA_n evA_t evA_c evA_f List.set_cons_zero List.set_cons_succ List.getD_cons_zero List.getD_cons_succ List.map_cons List.map_nil List.mapM_cons List.mapM_nil List.cons_append List.nil_append List.append_nil List.length_cons List.length_nil List.replicate List.append_eq List.foldr_cons List.foldr_nil opW_mov_h opW_pick_h opW_newS_h opW_newH_h opW_boxS_h opW_boxH_h opW_build_h opW_mkSlice_h opW_load_h opW_loadN_h opW_store_h opW_nilCheck_h opW_bin_h opW_isNil_h opW_un_h opW_convI_h opW_convP_h opW_convBS_h opW_extract_h opW_fieldAddr_h opW_field1_h opW_fieldN_h opW_idxSl_h opW_idxStr_h opW_slStr_h opW_slSl_h opW_fn_h opW_make_h opW_lenStr_h opW_lenSl_h opW_append_h opW_appStr_h opW_call_h pickW_b optW_some boxW_h ptrW_p stW_h nilW_p nilW_f tupW_t aggW_a idxW_sh idxStrW_sh slStrW_sh slSlW_n slSlW_sh makeW_ih lenStrW_s lenSlW_s strW_s callW_fh boundA_n boundA_s intOf_i unA_neg unA_not isNilA_0n isNilA_0s isNilA_2n isNilA_2f isNilA_2g bin_add bin_sub bin_mul bin_lss bin_leq bin_gtr bin_geq bin_eql bin_neq bin_eqlS bin_neqS cells_b cells_i cells_f cells_s cells_p cells_sl cells_nf cells_fn cells_a List.all_cons List.all_nil okV_b okV_i okV_fl okV_s okV_pn okV_sn okV_p okV_pl okV_sl okV_nf okV_f okV_a okV_t okA_b okA_i okA_fl okA_s okA_pn okA_sn okA_p okA_sl okA_a okC_b okC_i okC_fl okC_s okC_pn okC_sn okC_p okC_pl okC_sl okC_nf okC_f okC0_b okC0_i okC0_s okC0_p okC0_pl List.toList_toArray Array.toList_empty decide_eq_true_eq decide_eq_false_iff_not Bool.not_eq_true' Bool.false_eq_true Bool.and_true Bool.true_and bne_self_eq_false Bool.bne_false Bool.bne_true true_and and_true Option.bind_eq_bind Option.bind_some Option.pure_def Option.some.injEq exists_eq_left' Option.isNone_none Option.isNone_some decide_true decide_false Mem.box_ext Mem.ext_box Mem.ext_ext Mem.ext_heap Mem.ext_len1 Mem.ext_len2 Mem.ext_len3 Mem.ext_len4 Mem.ext_len5 Mem.ext_len6 Mem.ext_len7 Mem.ext_len8 Mem.ext_len9 Mem.ext_len10 Mem.ext_len11 Mem.ext_len12 Mem.ext_pop Mem.self_pop Mem.ext_push Mem.ext_load Mem.ext_loads Mem.ext_load0 Mem.ext_loadj Mem.ext_loads0 Mem.ext_loadsj Mem.ext_store0 Mem.ext_storej Mem.stores_nil Mem.stores_cons List.getElem?_cons_zero List.getElem?_cons_succ List.getElem?_nil Nat.zero_add List.drop_zero List.drop_succ_cons List.take_succ_cons List.take_zero List.size_toArray Option.bind_fun_some Nat.add_assoc fillA_nil fillA_cons partsA_nil partsA_cons push_sliceCells byteA_i noPtr_b noPtr_i noPtr_f noPtr_s List.flatten_cons List.flatten_nil bin_rem bin_quo ne_eq not_false_eq_true and_self Nat.one_mul Nat.mul_one Nat.le_refl List.take_nil List.drop_nil Nat.add_zero Bool.not_true Bool.not_false Bool.true_eq_false false_and and_false Bool.false_and Bool.and_false Bool.false_or Bool.or_false Bool.true_or Bool.or_true guardW_tt guardW_tf guardW_ft guardW_ff guardW_uh condA_t condA_f hold_1 hold_2 hold_3 iteV_t iteV_f iteO_t iteO_f not_true_eq_false Int.toNat_natCast Int.toNat_natCast_add_one Int.toNat_zero Nat.sub_zero en35 en76 en34 en11 en60 en115 en116 en94 en95 en97 en96 en92 en131 en93 en142 en117 en77 en36 en12 en38 rt73a rt73s en78 en37 rt27a rt27s en13 en80 en48 en90 en129 en130 en128 en88 en89 en143 en118 en144 en119 en120 en145 en146 en162 en147 en121 en122 en123 en124 en79 en81 en39 en40 en14 en15 en82 en41 en16 en18 en83 en42 en17 en19 en4
attribute [local push_cast] andW_t iteH_t iteH_f
def tens : List Nat := [4607182418800017408, 4621819117588971520, 4636737291354636288, 4652007308841189376, 4666723172467343360, 4681608360884174848, 4696837146684686336]
theorem tens_mul : ∀ i, i < 6 → Ieee.double.mul 4621819117588971520 (tens.getD i 0) = some (tens.getD (i + 1) 0) := by
  intro i hi
  match i, hi with
  | 0, _ => decide +kernel
  | 1, _ => decide +kernel
  | 2, _ => decide +kernel
  | 3, _ => decide +kernel
  | 4, _ => decide +kernel
  | 5, _ => decide +kernel
theorem flat1_tens : ∀ i, i ≤ 6 → flat1 (.float .f64 (tens.getD i 0)) = true := by
  intro i hi
  match i, hi with
  | 0, _ => decide +kernel
  | 1, _ => decide +kernel
  | 2, _ => decide +kernel
  | 3, _ => decide +kernel
  | 4, _ => decide +kernel
  | 5, _ => decide +kernel
  | 6, _ => decide +kernel
def isNum (d : Ieee.Datum) : Bool := match d with | .number _ n _ => n != 0 | _ => false
theorem isNum_iff {d : Ieee.Datum} (h : isNum d = true) : ∃ t n j, d = .number t n j ∧ n ≠ 0 := by
  unfold isNum at h
  split at h
  · exact ⟨_, _, _, rfl, by simpa using h⟩
  · cases h
theorem tens_num : ∀ i, i ≤ 6 → isNum (Ieee.double.read (tens.getD i 0)) = true := by
  intro i hi
  match i, hi with
  | 0, _ => decide +kernel
  | 1, _ => decide +kernel
  | 2, _ => decide +kernel
  | 3, _ => decide +kernel
  | 4, _ => decide +kernel
  | 5, _ => decide +kernel
  | 6, _ => decide +kernel
theorem tens_div {i : Nat} (hi : i ≤ 6) {x : Nat} (hx : (Ieee.double.read x).isNaN = false) : ∃ r, Ieee.double.div x (tens.getD i 0) = some r := by
  obtain ⟨t, n, j, h, hn⟩ := isNum_iff (tens_num i hi)
  exact div_some hx h hn
theorem runP_le {p : UInt8 → Bool} {l : List UInt8} {a : Nat} (h : a ≤ l.length) : runP p l a ≤ l.length := by
  unfold runP
  have := List.takeWhile_sublist p (l := l.drop a)
  have := this.length_le
  simp at this
  omega
def wholeP (s : ByteArray) : ByteArray := s.extract 0 (runP isDigitP s.data.toList 0)
def partP (s : ByteArray) : ByteArray := s.extract (runP isDigitP s.data.toList 0 + 1) s.size
def realOkP (s : ByteArray) : Bool :=
  decide (s.data.toList[runP isDigitP s.data.toList 0]? = some 46) && (plainP (wholeP s) 9 && ((decide ((1 : Int) ≤ (partP s).size) && decide (((partP s).size : Int) ≤ 6)) && decide ((runP isDigitP (partP s).data.toList 0 : Int) = (partP s).size)))
theorem extract_size_le (s : ByteArray) (i j : Nat) : (s.extract i j).size ≤ s.size := by
  rw [ByteArray.size_extract]; omega
theorem RealOf_c {s : ByteArray} {m : Mem} (hs : s.size < 2 ^ 61) : ACalls Try.prog 128 [.string s] m (fun r m' => m' = m ∧ ∃ x, r = .tuple #[.float .f64 x, .bool (realOkP s)]) := by
  refine acalls_of Try.func128 s128 ?_
  simp only [A128, push_cast, Nat.reduceAdd, Nat.reduceMul, Nat.reduceLT, Nat.reduceLeDiff, Int.reduceEq, Nat.reduceEqDiff, reduceCtorEq]
  refine (run_c (a := 0) (x := #[]) (c := #[]) (p := isDigitP) (by omega) (by omega) en90 fun b m => isDigit_c).mono ?_
  rintro r m1 ⟨rfl, rfl⟩
  have hlen : s.data.toList.length = s.size := Array.length_toList
  have hle := runP_le (p := isDigitP) (l := s.data.toList) (a := 0) (Nat.zero_le _)
  generalize ha : runP isDigitP s.data.toList 0 = a at *
  have hwp : wholeP s = s.extract 0 a := by rw [wholeP, ha]
  have hpp : partP s = s.extract (a + 1) s.size := by rw [partP, ha]
  have hok : realOkP s = (decide (s.data.toList[a]? = some 46) && (plainP (wholeP s) 9 && ((decide ((1 : Int) ≤ (partP s).size) && decide (((partP s).size : Int) ≤ 6)) && decide ((runP isDigitP (partP s).data.toList 0 : Int) = (partP s).size)))) := by
    unfold realOkP; rw [ha]
  have hw1 := extract_size_le s 0 a
  have hp1 := extract_size_le s (a + 1) s.size
  rw [← hwp] at hw1
  rw [← hpp] at hp1
  have hza : (0 : Int).toNat = 0 := rfl
  by_cases h1 : (s.size : Int) ≤ a
  · have h1 := h1
    ((try refine hold_top ?_); (try simp only [h1, push_cast, Nat.reduceAdd, Nat.reduceMul, Nat.reduceLT, Nat.reduceLeDiff, Int.reduceEq, Nat.reduceEqDiff, reduceCtorEq]); (try (refine hold_top ?_; simp only [h1, push_cast, Nat.reduceAdd, Nat.reduceMul, Nat.reduceLT, Nat.reduceLeDiff, Int.reduceEq, Nat.reduceEqDiff, reduceCtorEq])))
    rw [hok, List.getElem?_eq_none (by omega)]
    exact ⟨0, rfl⟩
  have hal : a < s.data.toList.length := by omega
  have hget : s.data.toList[a]? = some s.data.toList[a] := List.getElem?_eq_getElem hal
  ((try refine hold_top ?_); (try simp only [eq_false h1, Int.toNat_natCast, hget, push_cast, Nat.reduceAdd, Nat.reduceMul, Nat.reduceLT, Nat.reduceLeDiff, Int.reduceEq, Nat.reduceEqDiff, reduceCtorEq]); (try (refine hold_top ?_; simp only [eq_false h1, Int.toNat_natCast, hget, push_cast, Nat.reduceAdd, Nat.reduceMul, Nat.reduceLT, Nat.reduceLeDiff, Int.reduceEq, Nat.reduceEqDiff, reduceCtorEq])))
  refine andW_i (by omega) ?_
  ((try refine hold_top ?_); (try simp only [eq_false h1, Int.toNat_natCast, hget, push_cast, Nat.reduceAdd, Nat.reduceMul, Nat.reduceLT, Nat.reduceLeDiff, Int.reduceEq, Nat.reduceEqDiff, reduceCtorEq]); (try (refine hold_top ?_; simp only [eq_false h1, Int.toNat_natCast, hget, push_cast, Nat.reduceAdd, Nat.reduceMul, Nat.reduceLT, Nat.reduceLeDiff, Int.reduceEq, Nat.reduceEqDiff, reduceCtorEq])))
  by_cases h2 : (s.data.toList[a].toNat : Int) = 46
  rotate_left
  · have h2 := h2
    ((try refine hold_top ?_); (try simp only [eq_false h1, Int.toNat_natCast, hget, eq_false h2, push_cast, Nat.reduceAdd, Nat.reduceMul, Nat.reduceLT, Nat.reduceLeDiff, Int.reduceEq, Nat.reduceEqDiff, reduceCtorEq]); (try (refine hold_top ?_; simp only [eq_false h1, Int.toNat_natCast, hget, eq_false h2, push_cast, Nat.reduceAdd, Nat.reduceMul, Nat.reduceLT, Nat.reduceLeDiff, Int.reduceEq, Nat.reduceEqDiff, reduceCtorEq])))
    rw [hok, hget, decide_eq_false (fun e => h2 (by rw [Option.some.injEq] at e; rw [e]; rfl))]
    exact ⟨0, rfl⟩
  have h46 : decide (s.data.toList[a]? = some 46) = true := by
    rw [hget]
    apply decide_eq_true
    congr 1
    apply UInt8.toNat_inj.1
    show _ = 46
    omega
  have hwa : IntKind.i64.wrap ((a : Int) + 1) = (a : Int) + 1 := w64_id (by omega) (by omega)
  have hta : ((a : Int) + 1).toNat = a + 1 := by omega
  ((try refine hold_top ?_); (try simp only [eq_false h1, Int.toNat_natCast, hget, eq_true h2, hza, hwa, hta, push_cast, Nat.reduceAdd, Nat.reduceMul, Nat.reduceLT, Nat.reduceLeDiff, Int.reduceEq, Nat.reduceEqDiff, reduceCtorEq]); (try (refine hold_top ?_; simp only [eq_false h1, Int.toNat_natCast, hget, eq_true h2, hza, hwa, hta, push_cast, Nat.reduceAdd, Nat.reduceMul, Nat.reduceLT, Nat.reduceLeDiff, Int.reduceEq, Nat.reduceEqDiff, reduceCtorEq])))
  refine andW_i (by omega) ?_
  ((try refine hold_top ?_); (try simp only [eq_false h1, Int.toNat_natCast, hget, eq_true h2, hza, hwa, hta, push_cast, Nat.reduceAdd, Nat.reduceMul, Nat.reduceLT, Nat.reduceLeDiff, Int.reduceEq, Nat.reduceEqDiff, reduceCtorEq]); (try (refine hold_top ?_; simp only [eq_false h1, Int.toNat_natCast, hget, eq_true h2, hza, hwa, hta, push_cast, Nat.reduceAdd, Nat.reduceMul, Nat.reduceLT, Nat.reduceLeDiff, Int.reduceEq, Nat.reduceEqDiff, reduceCtorEq])))
  refine andW_i (by omega) ?_
  ((try refine hold_top ?_); (try simp only [eq_false h1, Int.toNat_natCast, hget, eq_true h2, hza, hwa, hta, push_cast, Nat.reduceAdd, Nat.reduceMul, Nat.reduceLT, Nat.reduceLeDiff, Int.reduceEq, Nat.reduceEqDiff, reduceCtorEq]); (try (refine hold_top ?_; simp only [eq_false h1, Int.toNat_natCast, hget, eq_true h2, hza, hwa, hta, push_cast, Nat.reduceAdd, Nat.reduceMul, Nat.reduceLT, Nat.reduceLeDiff, Int.reduceEq, Nat.reduceEqDiff, reduceCtorEq])))
  rw [← hwp, ← hpp]
  refine (plain_c (by omega)).mono ?_
  rintro r m2 ⟨rfl, rfl⟩
  cases h3 : plainP (wholeP s) 9
  · ((try refine hold_top ?_); (try simp only [eq_false h1, Int.toNat_natCast, hget, eq_true h2, hza, hwa, hta, push_cast, Nat.reduceAdd, Nat.reduceMul, Nat.reduceLT, Nat.reduceLeDiff, Int.reduceEq, Nat.reduceEqDiff, reduceCtorEq]); (try (refine hold_top ?_; simp only [eq_false h1, Int.toNat_natCast, hget, eq_true h2, hza, hwa, hta, push_cast, Nat.reduceAdd, Nat.reduceMul, Nat.reduceLT, Nat.reduceLeDiff, Int.reduceEq, Nat.reduceEqDiff, reduceCtorEq])))
    rw [hok, h3, h46]
    exact ⟨0, rfl⟩
  ((try refine hold_top ?_); (try simp only [eq_false h1, Int.toNat_natCast, hget, eq_true h2, hza, hwa, hta, push_cast, Nat.reduceAdd, Nat.reduceMul, Nat.reduceLT, Nat.reduceLeDiff, Int.reduceEq, Nat.reduceEqDiff, reduceCtorEq]); (try (refine hold_top ?_; simp only [eq_false h1, Int.toNat_natCast, hget, eq_true h2, hza, hwa, hta, push_cast, Nat.reduceAdd, Nat.reduceMul, Nat.reduceLT, Nat.reduceLeDiff, Int.reduceEq, Nat.reduceEqDiff, reduceCtorEq])))
  refine within_c.mono ?_
  rintro r m2 ⟨rfl, rfl⟩
  cases h4 : (decide ((1 : Int) ≤ (partP s).size) && decide (((partP s).size : Int) ≤ 6))
  · ((try refine hold_top ?_); (try simp only [eq_false h1, Int.toNat_natCast, hget, eq_true h2, hza, hwa, hta, push_cast, Nat.reduceAdd, Nat.reduceMul, Nat.reduceLT, Nat.reduceLeDiff, Int.reduceEq, Nat.reduceEqDiff, reduceCtorEq]); (try (refine hold_top ?_; simp only [eq_false h1, Int.toNat_natCast, hget, eq_true h2, hza, hwa, hta, push_cast, Nat.reduceAdd, Nat.reduceMul, Nat.reduceLT, Nat.reduceLeDiff, Int.reduceEq, Nat.reduceEqDiff, reduceCtorEq])))
    rw [hok, h3, h4, h46]
    exact ⟨0, rfl⟩
  ((try refine hold_top ?_); (try simp only [eq_false h1, Int.toNat_natCast, hget, eq_true h2, hza, hwa, hta, push_cast, Nat.reduceAdd, Nat.reduceMul, Nat.reduceLT, Nat.reduceLeDiff, Int.reduceEq, Nat.reduceEqDiff, reduceCtorEq]); (try (refine hold_top ?_; simp only [eq_false h1, Int.toNat_natCast, hget, eq_true h2, hza, hwa, hta, push_cast, Nat.reduceAdd, Nat.reduceMul, Nat.reduceLT, Nat.reduceLeDiff, Int.reduceEq, Nat.reduceEqDiff, reduceCtorEq])))
  refine (run_c (a := 0) (x := #[]) (c := #[]) (p := isDigitP) (by omega) (by omega) en90 fun b m => isDigit_c).mono ?_
  rintro r m2 ⟨rfl, rfl⟩
  by_cases h5 : (runP isDigitP (partP s).data.toList 0 : Int) = (partP s).size
  rotate_left
  · have h5 := h5
    ((try refine hold_top ?_); (try simp only [eq_false h1, Int.toNat_natCast, hget, eq_true h2, hza, hwa, hta, eq_false h5, push_cast, Nat.reduceAdd, Nat.reduceMul, Nat.reduceLT, Nat.reduceLeDiff, Int.reduceEq, Nat.reduceEqDiff, reduceCtorEq]); (try (refine hold_top ?_; simp only [eq_false h1, Int.toNat_natCast, hget, eq_true h2, hza, hwa, hta, eq_false h5, push_cast, Nat.reduceAdd, Nat.reduceMul, Nat.reduceLT, Nat.reduceLeDiff, Int.reduceEq, Nat.reduceEqDiff, reduceCtorEq])))
    rw [hok, h3, h4, h46, decide_eq_false h5]
    exact ⟨0, rfl⟩
  rw [hok, h3, h4, h46, decide_eq_true h5]
  ((try refine hold_top ?_); (try simp only [eq_false h1, Int.toNat_natCast, hget, eq_true h2, hza, hwa, hta, eq_true h5, push_cast, Nat.reduceAdd, Nat.reduceMul, Nat.reduceLT, Nat.reduceLeDiff, Int.reduceEq, Nat.reduceEqDiff, reduceCtorEq]); (try (refine hold_top ?_; simp only [eq_false h1, Int.toNat_natCast, hget, eq_true h2, hza, hwa, hta, eq_true h5, push_cast, Nat.reduceAdd, Nat.reduceMul, Nat.reduceLT, Nat.reduceLeDiff, Int.reduceEq, Nat.reduceEqDiff, reduceCtorEq])))
  rw [Bool.and_eq_true] at h4
  have h6 := of_decide_eq_true h4.2
  refine loopS_rule (σ := Nat × Int) (fun i gg => E128_0 (.string (wholeP s)) (.string (partP s)) (.float .f64 i.1) (.int .i64 (partP s).size) (.int .i64 i.2) gg)
    (fun i m' => m' = m2 ∧ 0 ≤ i.2 ∧ i.2 ≤ (partP s).size ∧ i.1 = tens.getD i.2.toNat 0) (fun i => (partP s).size - i.2.toNat) (4607182418800017408, 0) rfl ⟨rfl, by simp, by simp, rfl⟩ ?_
  rintro ⟨te, i⟩ gg m' ⟨rfl, hi0, hi, hr⟩
  simp only at hi0 hi hr
  obtain ⟨i, rfl⟩ := Int.eq_ofNat_of_zero_le hi0
  rw [Int.toNat_natCast] at hr
  subst hr
  have hmul := fun (u : i < 6) t x y => bin_mulF (P := Try.prog) (t := t) (x := x) (y := y) (by decide) (flat1_tens i (by omega)) (tens_mul i u)
  by_cases hlt : (i : Int) < (partP s).size
  · have hlt := hlt
    have hmul := hmul (by omega)
    have hwi : IntKind.i64.wrap ((i : Int) + 1) = (i : Int) + 1 := w64_id (by omega) (by omega)
    simp only [E128_0, eq_false h1, Int.toNat_natCast, hget, eq_true h2, hza, hwa, hta, eq_true h5, hlt, hmul, hwi, push_cast, Nat.reduceAdd, Nat.reduceMul, Nat.reduceLT, Nat.reduceLeDiff, Int.reduceEq, Nat.reduceEqDiff, reduceCtorEq]
    exact ⟨(tens.getD (i + 1) 0, (i : Int) + 1), rfl, by simp only; omega, by simp only; omega, by simp only; omega, by simp only; rw [show ((i : Int) + 1).toNat = i + 1 by omega]⟩
  · have hlt := hlt
    simp only [E128_0, eq_false h1, Int.toNat_natCast, hget, eq_true h2, hza, hwa, hta, eq_true h5, eq_false hlt, push_cast, Nat.reduceAdd, Nat.reduceMul, Nat.reduceLT, Nat.reduceLeDiff, Int.reduceEq, Nat.reduceEqDiff, reduceCtorEq]
    rw [bin_addS (by omega)]
    ((try refine hold_top ?_); (try simp only [eq_false h1, Int.toNat_natCast, hget, eq_true h2, hza, hwa, hta, eq_true h5, eq_false hlt, push_cast, Nat.reduceAdd, Nat.reduceMul, Nat.reduceLT, Nat.reduceLeDiff, Int.reduceEq, Nat.reduceEqDiff, reduceCtorEq]); (try (refine hold_top ?_; simp only [eq_false h1, Int.toNat_natCast, hget, eq_true h2, hza, hwa, hta, eq_true h5, eq_false hlt, push_cast, Nat.reduceAdd, Nat.reduceMul, Nat.reduceLT, Nat.reduceLeDiff, Int.reduceEq, Nat.reduceEqDiff, reduceCtorEq])))
    refine (number_c (by rw [ByteArray.size_append]; omega)).mono ?_
    rintro r m2 ⟨rfl, rfl⟩
    ((try refine hold_top ?_); (try simp only [eq_false h1, Int.toNat_natCast, hget, eq_true h2, hza, hwa, hta, eq_true h5, eq_false hlt, push_cast, Nat.reduceAdd, Nat.reduceMul, Nat.reduceLT, Nat.reduceLeDiff, Int.reduceEq, Nat.reduceEqDiff, reduceCtorEq]); (try (refine hold_top ?_; simp only [eq_false h1, Int.toNat_natCast, hget, eq_true h2, hza, hwa, hta, eq_true h5, eq_false hlt, push_cast, Nat.reduceAdd, Nat.reduceMul, Nat.reduceLT, Nat.reduceLeDiff, Int.reduceEq, Nat.reduceEqDiff, reduceCtorEq])))
    have hcv := fun n => convF (P := Try.prog) (src := 3) (dst := 46) (n := n) (k := .i64) (by kernel_rfl) (by kernel_rfl)
    ((try refine hold_top ?_); (try simp only [eq_false h1, Int.toNat_natCast, hget, eq_true h2, hza, hwa, hta, eq_true h5, eq_false hlt, hcv, push_cast, Nat.reduceAdd, Nat.reduceMul, Nat.reduceLT, Nat.reduceLeDiff, Int.reduceEq, Nat.reduceEqDiff, reduceCtorEq]); (try (refine hold_top ?_; simp only [eq_false h1, Int.toNat_natCast, hget, eq_true h2, hza, hwa, hta, eq_true h5, eq_false hlt, hcv, push_cast, Nat.reduceAdd, Nat.reduceMul, Nat.reduceLT, Nat.reduceLeDiff, Int.reduceEq, Nat.reduceEqDiff, reduceCtorEq])))
    refine ⟨rfl, ?_⟩
    ((try refine hold_top ?_); (try simp only [eq_false h1, Int.toNat_natCast, hget, eq_true h2, hza, hwa, hta, eq_true h5, eq_false hlt, hcv, push_cast, Nat.reduceAdd, Nat.reduceMul, Nat.reduceLT, Nat.reduceLeDiff, Int.reduceEq, Nat.reduceEqDiff, reduceCtorEq]); (try (refine hold_top ?_; simp only [eq_false h1, Int.toNat_natCast, hget, eq_true h2, hza, hwa, hta, eq_true h5, eq_false hlt, hcv, push_cast, Nat.reduceAdd, Nat.reduceMul, Nat.reduceLT, Nat.reduceLeDiff, Int.reduceEq, Nat.reduceEqDiff, reduceCtorEq])))
    obtain ⟨q, hq⟩ := tens_div (i := i) (by omega) (nearest_ok (n := numW (wholeP s ++ partP s).data.toList))
    rw [bin_quoF (flat1_read nearest_ok) (flat1_tens i (by omega)) hq]
    ((try refine hold_top ?_); (try simp only [eq_false h1, Int.toNat_natCast, hget, eq_true h2, hza, hwa, hta, eq_true h5, eq_false hlt, hcv, push_cast, Nat.reduceAdd, Nat.reduceMul, Nat.reduceLT, Nat.reduceLeDiff, Int.reduceEq, Nat.reduceEqDiff, reduceCtorEq]); (try (refine hold_top ?_; simp only [eq_false h1, Int.toNat_natCast, hget, eq_true h2, hza, hwa, hta, eq_true h5, eq_false hlt, hcv, push_cast, Nat.reduceAdd, Nat.reduceMul, Nat.reduceLT, Nat.reduceLeDiff, Int.reduceEq, Nat.reduceEqDiff, reduceCtorEq])))
    exact ⟨_, rfl⟩
end Go.AM
