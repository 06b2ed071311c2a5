/-
  Contracts: bytes, runs of bytes, numbers.
-/
import Derived.Test.YtnfncjodmkhafaaAm17
import Derived.Test.YtnfncjodmkhafaaFn0
set_option linter.all false
set_option linter.unusedSimpArgs false
set_option linter.unusedVariables false
namespace Go.AM
open Go.Proofs
attribute [local congr] ACalls_congr loopS_congr lenSlW_congr lenStrW_congr strW_congr ptrW_congr nilW_congr aggW_congr tupW_congr idxW_congr idxStrW_congr condA_congr optW_congr callW_congr iteW_congr opW_congr iA_congr wpS_congr guardW_congr pickW_congr slStrW_congr slSlW_congr makeW_congr
attribute [local push_cast] wpS_skip wpS_ops_h wpS_seq_h wpS_cond_h wpS_block_h wpS_exit wpS_ret wpS_loop_h thenA_n thenA_r thenA_e blockA_n blockA_r blockA_same blockA_ne retS_rp retS_np Mem.pop_push_ext Mem.pop_push Mem.pop_ext Mem.pop_self resOne_t resOne_cell cellR_t cellR_f Option.map_some tup1_1 tup1_2 iA_nil iA_cons_h iA_guard_h guardW_b condA_b putA_s putA_n evA_t evA_c evA_f List.set_cons_zero List.set_cons_succ List.getD_cons_zero List.getD_cons_succ List.map_cons List.map_nil List.mapM_cons List.mapM_nil List.cons_append List.nil_append List.append_nil List.length_cons List.length_nil List.replicate List.append_eq List.foldr_cons List.foldr_nil opW_mov_h opW_pick_h opW_newS_h opW_newH_h opW_boxS_h opW_boxH_h opW_build_h opW_mkSlice_h opW_load_h opW_loadN_h opW_store_h opW_nilCheck_h opW_bin_h opW_isNil_h opW_un_h opW_convI_h opW_convP_h opW_convBS_h opW_extract_h opW_fieldAddr_h opW_field1_h opW_fieldN_h opW_idxSl_h opW_idxStr_h opW_slStr_h opW_slSl_h opW_fn_h opW_make_h opW_lenStr_h opW_lenSl_h opW_append_h opW_appStr_h opW_call_h pickW_b optW_some boxW_h ptrW_p stW_h nilW_p nilW_f tupW_t aggW_a idxW_sh idxStrW_sh slStrW_sh slSlW_n slSlW_sh makeW_ih lenStrW_s lenSlW_s strW_s callW_fh boundA_n boundA_s intOf_i unA_neg unA_not isNilA_0n isNilA_0s isNilA_2n isNilA_2f isNilA_2g bin_add bin_sub bin_mul bin_lss bin_leq bin_gtr bin_geq bin_eql bin_neq bin_eqlS bin_neqS cells_b cells_i cells_f cells_s cells_p cells_sl cells_nf cells_fn cells_a List.all_cons List.all_nil okV_b okV_i okV_fl okV_s okV_pn okV_sn okV_p okV_pl okV_sl okV_nf okV_f okV_a okV_t okA_b okA_i okA_fl okA_s okA_pn okA_sn okA_p okA_sl okA_a okC_b okC_i okC_fl okC_s okC_pn okC_sn okC_p okC_pl okC_sl okC_nf okC_f okC0_b okC0_i okC0_s okC0_p okC0_pl List.toList_toArray Array.toList_empty decide_eq_true_eq decide_eq_false_iff_not Bool.not_eq_true' Bool.false_eq_true Bool.and_true Bool.true_and bne_self_eq_false Bool.bne_false Bool.bne_true true_and and_true Option.bind_eq_bind Option.bind_some Option.pure_def Option.some.injEq exists_eq_left' Option.isNone_none Option.isNone_some decide_true decide_false Mem.box_ext Mem.ext_box Mem.ext_ext Mem.ext_heap Mem.ext_len1 Mem.ext_len2 Mem.ext_len3 Mem.ext_len4 Mem.ext_len5 Mem.ext_len6 Mem.ext_len7 Mem.ext_len8 Mem.ext_len9 Mem.ext_len10 Mem.ext_len11 Mem.ext_len12 Mem.ext_pop Mem.self_pop Mem.ext_push Mem.ext_load Mem.ext_loads Mem.ext_load0 Mem.ext_loadj Mem.ext_loads0 Mem.ext_loadsj Mem.ext_store0 Mem.ext_storej Mem.stores_nil Mem.stores_cons List.getElem?_cons_zero List.getElem?_cons_succ List.getElem?_nil Nat.zero_add List.drop_zero List.drop_succ_cons List.take_succ_cons List.take_zero List.size_toArray Option.bind_fun_some Nat.add_assoc fillA_nil fillA_cons partsA_nil partsA_cons push_sliceCells byteA_i noPtr_b noPtr_i noPtr_f noPtr_s List.flatten_cons List.flatten_nil bin_rem bin_quo ne_eq not_false_eq_true and_self Nat.one_mul Nat.mul_one Nat.le_refl List.take_nil List.drop_nil Nat.add_zero Bool.not_true Bool.not_false Bool.true_eq_false false_and and_false Bool.false_and Bool.and_false Bool.false_or Bool.or_false Bool.true_or Bool.or_true guardW_tt guardW_tf guardW_ft guardW_ff guardW_uh condA_t condA_f hold_1 hold_2 hold_3 iteV_t iteV_f iteO_t iteO_f not_true_eq_false Int.toNat_natCast Int.toNat_natCast_add_one Int.toNat_zero Nat.sub_zero en35 en76 en34 en11 en60 en115 en116 en94 en95 en97 en96 en92 en131 en93 en142 en117 en77 en36 en12 en38 rt73a rt73s en78 en37 rt27a rt27s en13 en80 en48 en90 en129 en130 en128 en88 en89 en143 en118 en144 en119 en120 en145 en146 en162 en147 en121 en122 en123 en124 en79 en81 en39 en40 en14 en15 en82 en41 en16 en18 en83 en42 en17 en19 en4
attribute [local push_cast] andW_t iteH_t iteH_f

def isDigitP (b : UInt8) : Bool := decide (48 ≤ b.toNat) && decide (b.toNat ≤ 57)
def isLetterP (b : UInt8) : Bool := (decide (97 ≤ b.toNat) && decide (b.toNat ≤ 122)) || (decide (65 ≤ b.toNat) && decide (b.toNat ≤ 90))
abbrev U8 (b : UInt8) : Value := .int .u8 b.toNat
theorem within_c {x lo hi : Int} {m : Mem} : ACalls Try.prog 80 [.int .i64 x, .int .i64 lo, .int .i64 hi] m (fun r m' => m' = m ∧ r = .bool (decide (lo ≤ x) && decide (x ≤ hi))) := by
  refine acalls_of Try.func80 s80 ?_
  by_cases h1 : lo ≤ x <;> by_cases h2 : x ≤ hi <;> (simp only [A80, h1, h2, push_cast, Nat.reduceAdd, Nat.reduceMul, Nat.reduceLT, Nat.reduceLeDiff, Int.reduceEq, Nat.reduceEqDiff, reduceCtorEq])
theorem l1In_c {x lo hi : Int} {m : Mem} : ACalls Try.prog 60 [.int .i64 x, .int .i64 lo, .int .i64 hi] m (fun r m' => m' = m ∧ r = .bool (decide (lo ≤ x) && decide (x ≤ hi))) := by
  refine acalls_of Try.func60 s60 ?_
  by_cases h1 : lo ≤ x <;> by_cases h2 : x ≤ hi <;> (simp only [A60, h1, h2, push_cast, Nat.reduceAdd, Nat.reduceMul, Nat.reduceLT, Nat.reduceLeDiff, Int.reduceEq, Nat.reduceEqDiff, reduceCtorEq])
theorem isDigit_c {b : UInt8} {m : Mem} : ACalls Try.prog 90 [U8 b] m (fun r m' => m' = m ∧ r = .bool (isDigitP b)) := by
  refine acalls_of Try.func90 s90 ?_
  have e1 : ((48 : Int) ≤ b.toNat) = (48 ≤ b.toNat) := propext ⟨by omega, by omega⟩
  have e2 : ((b.toNat : Int) ≤ 57) = (b.toNat ≤ 57) := propext ⟨by omega, by omega⟩
  unfold isDigitP
  by_cases h1 : 48 ≤ b.toNat <;> by_cases h2 : b.toNat ≤ 57 <;> (simp only [A90, e1, e2, h1, h2, push_cast, Nat.reduceAdd, Nat.reduceMul, Nat.reduceLT, Nat.reduceLeDiff, Int.reduceEq, Nat.reduceEqDiff, reduceCtorEq])
theorem l7Digit_c {b : UInt8} {m : Mem} : ACalls Try.prog 94 [U8 b] m (fun r m' => m' = m ∧ r = .bool (isDigitP b)) := by
  refine acalls_of Try.func94 s94 ?_
  have e1 : ((48 : Int) ≤ b.toNat) = (48 ≤ b.toNat) := propext ⟨by omega, by omega⟩
  have e2 : ((b.toNat : Int) ≤ 57) = (b.toNat ≤ 57) := propext ⟨by omega, by omega⟩
  unfold isDigitP
  by_cases h1 : 48 ≤ b.toNat <;> by_cases h2 : b.toNat ≤ 57 <;> (simp only [A94, e1, e2, h1, h2, push_cast, Nat.reduceAdd, Nat.reduceMul, Nat.reduceLT, Nat.reduceLeDiff, Int.reduceEq, Nat.reduceEqDiff, reduceCtorEq])
theorem isLetter_c {b : UInt8} {m : Mem} : ACalls Try.prog 88 [U8 b] m (fun r m' => m' = m ∧ r = .bool (isLetterP b)) := by
  refine acalls_of Try.func88 s88 ?_
  have e1 : ((97 : Int) ≤ b.toNat) = (97 ≤ b.toNat) := propext ⟨by omega, by omega⟩
  have e2 : ((b.toNat : Int) ≤ 122) = (b.toNat ≤ 122) := propext ⟨by omega, by omega⟩
  have e3 : ((65 : Int) ≤ b.toNat) = (65 ≤ b.toNat) := propext ⟨by omega, by omega⟩
  have e4 : ((b.toNat : Int) ≤ 90) = (b.toNat ≤ 90) := propext ⟨by omega, by omega⟩
  unfold isLetterP
  by_cases h1 : 97 ≤ b.toNat <;> by_cases h2 : b.toNat ≤ 122 <;> by_cases h3 : 65 ≤ b.toNat <;> by_cases h4 : b.toNat ≤ 90 <;> (simp only [A88, e1, e2, e3, e4, h1, h2, h3, h4, push_cast, Nat.reduceAdd, Nat.reduceMul, Nat.reduceLT, Nat.reduceLeDiff, Int.reduceEq, Nat.reduceEqDiff, reduceCtorEq]) <;> simp
theorem l3Letter_c {b : UInt8} {m : Mem} : ACalls Try.prog 92 [U8 b] m (fun r m' => m' = m ∧ r = .bool (isLetterP b)) := by
  refine acalls_of Try.func92 s92 ?_
  have e1 : ((97 : Int) ≤ b.toNat) = (97 ≤ b.toNat) := propext ⟨by omega, by omega⟩
  have e2 : ((b.toNat : Int) ≤ 122) = (b.toNat ≤ 122) := propext ⟨by omega, by omega⟩
  have e3 : ((65 : Int) ≤ b.toNat) = (65 ≤ b.toNat) := propext ⟨by omega, by omega⟩
  have e4 : ((b.toNat : Int) ≤ 90) = (b.toNat ≤ 90) := propext ⟨by omega, by omega⟩
  unfold isLetterP
  by_cases h1 : 97 ≤ b.toNat <;> by_cases h2 : b.toNat ≤ 122 <;> by_cases h3 : 65 ≤ b.toNat <;> by_cases h4 : b.toNat ≤ 90 <;> (simp only [A92, e1, e2, e3, e4, h1, h2, h3, h4, push_cast, Nat.reduceAdd, Nat.reduceMul, Nat.reduceLT, Nat.reduceLeDiff, Int.reduceEq, Nat.reduceEqDiff, reduceCtorEq]) <;> simp

/-- Where the longest run of bytes of a kind ends. -/
def runP (p : UInt8 → Bool) (l : List UInt8) (a : Nat) : Nat := a + ((l.drop a).takeWhile p).length
theorem runP_end {p : UInt8 → Bool} {l : List UInt8} {a : Nat} (h : l.length ≤ a) : runP p l a = a := by simp [runP, List.drop_eq_nil_of_le h]
theorem runP_yes {p : UInt8 → Bool} {l : List UInt8} {a : Nat} (h : a < l.length) (hp : p l[a] = true) : runP p l a = runP p l (a + 1) := by
  unfold runP
  rw [List.drop_eq_getElem_cons h, List.takeWhile_cons, if_pos hp, List.length_cons]
  omega
theorem runP_no {p : UInt8 → Bool} {l : List UInt8} {a : Nat} (h : a < l.length) (hp : ¬ p l[a] = true) : runP p l a = a := by
  unfold runP
  rw [List.drop_eq_getElem_cons h, List.takeWhile_cons, if_neg hp]
  simp
theorem run_c {s : ByteArray} {a : Nat} {p : UInt8 → Bool} {g : FuncId} {x c : Array Value} {m : Mem} (hs : s.size < 2 ^ 62) (ha : a < 2 ^ 62) (hen : enters Try.prog g = true)
    (hp : ∀ b m, ACalls Try.prog g (x.toList ++ [U8 b] ++ c.toList) m (fun r m' => m' = m ∧ r = .bool (p b))) :
    ACalls Try.prog 48 [.string s, .int .i64 a, .func (.func g) x c] m (fun r m' => m' = m ∧ r = .int .i64 (runP p s.data.toList a)) := by
  refine acalls_of Try.func48 s48 ?_
  simp only [A48, push_cast, Nat.reduceAdd, Nat.reduceMul, Nat.reduceLT, Nat.reduceLeDiff, Int.reduceEq, Nat.reduceEqDiff, reduceCtorEq]
  have hlen : s.data.toList.length = s.size := Array.length_toList
  refine loopS_rule (σ := Int) (fun i gg => E48_0 (.string s) (.int .i64 i) (.func (.func g) x c) gg)
    (fun i m' => m' = m ∧ 0 ≤ i ∧ i < 2 ^ 62 ∧ runP p s.data.toList i.toNat = runP p s.data.toList a) (fun i => s.size - i.toNat) a rfl ⟨rfl, by omega, by omega, by simp⟩ ?_
  rintro i gg m' ⟨rfl, hi0, hi, hr⟩
  obtain ⟨i, rfl⟩ := Int.eq_ofNat_of_zero_le hi0
  rw [Int.toNat_natCast] at hr
  by_cases hlt : (i : Int) < s.size
  · have hil : i < s.data.toList.length := by omega
    have hget : s.data.toList[i]? = some s.data.toList[i] := List.getElem?_eq_getElem hil
    have hwi : IntKind.i64.wrap ((i : Int) + 1) = (i : Int) + 1 := w64_id (by omega) (by omega)
    simp only [E48_0, hlt, hget, Int.toNat_natCast, hwi, hen, push_cast, Nat.reduceAdd, Nat.reduceMul, Nat.reduceLT, Nat.reduceLeDiff, Int.reduceEq, Nat.reduceEqDiff, reduceCtorEq]
    refine andW_i (by omega) ?_
    ((try refine hold_top ?_); (try simp only [hlt, hget, Int.toNat_natCast, hwi, hen, push_cast, Nat.reduceAdd, Nat.reduceMul, Nat.reduceLT, Nat.reduceLeDiff, Int.reduceEq, Nat.reduceEqDiff, reduceCtorEq]); (try (refine hold_top ?_; simp only [hlt, hget, Int.toNat_natCast, hwi, hen, push_cast, Nat.reduceAdd, Nat.reduceMul, Nat.reduceLT, Nat.reduceLeDiff, Int.reduceEq, Nat.reduceEqDiff, reduceCtorEq])))
    refine (hp _ _).mono ?_
    rintro r m'' ⟨rfl, rfl⟩
    cases hpb : p s.data.toList[i]
    · ((try refine hold_top ?_); (try simp only [hlt, hget, Int.toNat_natCast, hwi, hen, push_cast, Nat.reduceAdd, Nat.reduceMul, Nat.reduceLT, Nat.reduceLeDiff, Int.reduceEq, Nat.reduceEqDiff, reduceCtorEq]); (try (refine hold_top ?_; simp only [hlt, hget, Int.toNat_natCast, hwi, hen, push_cast, Nat.reduceAdd, Nat.reduceMul, Nat.reduceLT, Nat.reduceLeDiff, Int.reduceEq, Nat.reduceEqDiff, reduceCtorEq])))
      rw [← hr, runP_no hil (by rw [hpb]; exact Bool.false_ne_true)]
    · ((try refine hold_top ?_); (try simp only [hlt, hget, Int.toNat_natCast, hwi, hen, push_cast, Nat.reduceAdd, Nat.reduceMul, Nat.reduceLT, Nat.reduceLeDiff, Int.reduceEq, Nat.reduceEqDiff, reduceCtorEq]); (try (refine hold_top ?_; simp only [hlt, hget, Int.toNat_natCast, hwi, hen, push_cast, Nat.reduceAdd, Nat.reduceMul, Nat.reduceLT, Nat.reduceLeDiff, Int.reduceEq, Nat.reduceEqDiff, reduceCtorEq])))
      refine ⟨(i : Int) + 1, rfl, by omega, by omega, by omega, ?_⟩
      rw [← hr, show ((i : Int) + 1).toNat = i + 1 by omega, runP_yes hil hpb]
  · have hlt := hlt
    simp only [E48_0, hlt, push_cast, Nat.reduceAdd, Nat.reduceMul, Nat.reduceLT, Nat.reduceLeDiff, Int.reduceEq, Nat.reduceEqDiff, reduceCtorEq]
    rw [← hr, runP_end (by omega)]
theorem l7Run_c {s : ByteArray} {a : Nat} {m : Mem} (hs : s.size < 2 ^ 62) (ha : a < 2 ^ 62) :
    ACalls Try.prog 95 [.string s, .int .i64 a] m (fun r m' => m' = m ∧ r = .int .i64 (runP isDigitP s.data.toList a)) := by
  refine acalls_of Try.func95 s95 ?_
  simp only [A95, push_cast, Nat.reduceAdd, Nat.reduceMul, Nat.reduceLT, Nat.reduceLeDiff, Int.reduceEq, Nat.reduceEqDiff, reduceCtorEq]
  have hlen : s.data.toList.length = s.size := Array.length_toList
  refine loopS_rule (σ := Int) (fun i gg => E95_0 (.string s) (.int .i64 i) gg)
    (fun i m' => m' = m ∧ 0 ≤ i ∧ i < 2 ^ 62 ∧ runP isDigitP s.data.toList i.toNat = runP isDigitP s.data.toList a) (fun i => s.size - i.toNat) a rfl ⟨rfl, by omega, by omega, by simp⟩ ?_
  rintro i gg m' ⟨rfl, hi0, hi, hr⟩
  obtain ⟨i, rfl⟩ := Int.eq_ofNat_of_zero_le hi0
  rw [Int.toNat_natCast] at hr
  by_cases hlt : (i : Int) < s.size
  · have hil : i < s.data.toList.length := by omega
    have hget : s.data.toList[i]? = some s.data.toList[i] := List.getElem?_eq_getElem hil
    have hwi : IntKind.i64.wrap ((i : Int) + 1) = (i : Int) + 1 := w64_id (by omega) (by omega)
    simp only [E95_0, hlt, hget, Int.toNat_natCast, hwi, push_cast, Nat.reduceAdd, Nat.reduceMul, Nat.reduceLT, Nat.reduceLeDiff, Int.reduceEq, Nat.reduceEqDiff, reduceCtorEq]
    refine andW_i (by omega) ?_
    ((try refine hold_top ?_); (try simp only [hlt, hget, Int.toNat_natCast, hwi, push_cast, Nat.reduceAdd, Nat.reduceMul, Nat.reduceLT, Nat.reduceLeDiff, Int.reduceEq, Nat.reduceEqDiff, reduceCtorEq]); (try (refine hold_top ?_; simp only [hlt, hget, Int.toNat_natCast, hwi, push_cast, Nat.reduceAdd, Nat.reduceMul, Nat.reduceLT, Nat.reduceLeDiff, Int.reduceEq, Nat.reduceEqDiff, reduceCtorEq])))
    refine l7Digit_c.mono ?_
    rintro r m'' ⟨rfl, rfl⟩
    cases hpb : isDigitP s.data.toList[i]
    · ((try refine hold_top ?_); (try simp only [hlt, hget, Int.toNat_natCast, hwi, push_cast, Nat.reduceAdd, Nat.reduceMul, Nat.reduceLT, Nat.reduceLeDiff, Int.reduceEq, Nat.reduceEqDiff, reduceCtorEq]); (try (refine hold_top ?_; simp only [hlt, hget, Int.toNat_natCast, hwi, push_cast, Nat.reduceAdd, Nat.reduceMul, Nat.reduceLT, Nat.reduceLeDiff, Int.reduceEq, Nat.reduceEqDiff, reduceCtorEq])))
      rw [← hr, runP_no hil (by rw [hpb]; exact Bool.false_ne_true)]
    · ((try refine hold_top ?_); (try simp only [hlt, hget, Int.toNat_natCast, hwi, push_cast, Nat.reduceAdd, Nat.reduceMul, Nat.reduceLT, Nat.reduceLeDiff, Int.reduceEq, Nat.reduceEqDiff, reduceCtorEq]); (try (refine hold_top ?_; simp only [hlt, hget, Int.toNat_natCast, hwi, push_cast, Nat.reduceAdd, Nat.reduceMul, Nat.reduceLT, Nat.reduceLeDiff, Int.reduceEq, Nat.reduceEqDiff, reduceCtorEq])))
      refine ⟨(i : Int) + 1, rfl, by omega, by omega, by omega, ?_⟩
      rw [← hr, show ((i : Int) + 1).toNat = i + 1 by omega, runP_yes hil hpb]
  · have hlt := hlt
    simp only [E95_0, hlt, push_cast, Nat.reduceAdd, Nat.reduceMul, Nat.reduceLT, Nat.reduceLeDiff, Int.reduceEq, Nat.reduceEqDiff, reduceCtorEq]
    rw [← hr, runP_end (by omega)]
/-- The number of digits, as it is reckoned. -/
def numW (l : List UInt8) : Int := l.foldl (fun n b => IntKind.i64.wrap (IntKind.i64.wrap (10 * n) + IntKind.i64.wrap (IntKind.u8.wrap (b.toNat - 48)))) 0
theorem number_c {s : ByteArray} {m : Mem} (hs : s.size < 2 ^ 62) : ACalls Try.prog 130 [.string s] m (fun r m' => m' = m ∧ r = .int .i64 (numW s.data.toList)) := by
  refine acalls_of Try.func130 s130 ?_
  simp only [A130, push_cast, Nat.reduceAdd, Nat.reduceMul, Nat.reduceLT, Nat.reduceLeDiff, Int.reduceEq, Nat.reduceEqDiff, reduceCtorEq]
  have hlen : s.data.toList.length = s.size := Array.length_toList
  refine loopS_rule (σ := Int × Int) (fun i gg => E130_0 (.string s) (.int .i64 i.1) (.int .i64 i.2) gg)
    (fun i m' => m' = m ∧ 0 ≤ i.2 ∧ i.2 ≤ s.size ∧ i.1 = numW (s.data.toList.take i.2.toNat)) (fun i => s.size - i.2.toNat) (0, 0) rfl ⟨rfl, by simp, by simp, by simp [numW]⟩ ?_
  rintro ⟨n, i⟩ gg m' ⟨rfl, hi0, hi, hr⟩
  simp only at hi0 hi hr
  obtain ⟨i, rfl⟩ := Int.eq_ofNat_of_zero_le hi0
  rw [Int.toNat_natCast] at hr
  subst hr
  by_cases hlt : (i : Int) < s.size
  · have hil : i < s.data.toList.length := by omega
    have hget : s.data.toList[i]? = some s.data.toList[i] := List.getElem?_eq_getElem hil
    have hwi : IntKind.i64.wrap ((i : Int) + 1) = (i : Int) + 1 := w64_id (by omega) (by omega)
    simp only [E130_0, hlt, hget, Int.toNat_natCast, hwi, push_cast, Nat.reduceAdd, Nat.reduceMul, Nat.reduceLT, Nat.reduceLeDiff, Int.reduceEq, Nat.reduceEqDiff, reduceCtorEq]
    refine andW_i (by omega) ?_
    ((try refine hold_top ?_); (try simp only [hlt, hget, Int.toNat_natCast, hwi, push_cast, Nat.reduceAdd, Nat.reduceMul, Nat.reduceLT, Nat.reduceLeDiff, Int.reduceEq, Nat.reduceEqDiff, reduceCtorEq]); (try (refine hold_top ?_; simp only [hlt, hget, Int.toNat_natCast, hwi, push_cast, Nat.reduceAdd, Nat.reduceMul, Nat.reduceLT, Nat.reduceLeDiff, Int.reduceEq, Nat.reduceEqDiff, reduceCtorEq])))
    refine ⟨(_, (i : Int) + 1), rfl, by simp only; omega, by simp only; omega, by simp only; omega, ?_⟩
    rw [show ((i : Int) + 1).toNat = i + 1 by omega, List.take_add_one, hget, numW, numW, List.foldl_append]
    rfl
  · have hlt := hlt
    simp only [E130_0, hlt, push_cast, Nat.reduceAdd, Nat.reduceMul, Nat.reduceLT, Nat.reduceLeDiff, Int.reduceEq, Nat.reduceEqDiff, reduceCtorEq]
    rw [List.take_of_length_le (by omega)]
theorem l7Number_c {s : ByteArray} {m : Mem} (hs : s.size < 2 ^ 62) : ACalls Try.prog 97 [.string s] m (fun r m' => m' = m ∧ r = .int .i64 (numW s.data.toList)) := by
  refine acalls_of Try.func97 s97 ?_
  simp only [A97, push_cast, Nat.reduceAdd, Nat.reduceMul, Nat.reduceLT, Nat.reduceLeDiff, Int.reduceEq, Nat.reduceEqDiff, reduceCtorEq]
  have hlen : s.data.toList.length = s.size := Array.length_toList
  refine loopS_rule (σ := Int × Int) (fun i gg => E97_0 (.string s) (.int .i64 i.1) (.int .i64 i.2) gg)
    (fun i m' => m' = m ∧ 0 ≤ i.2 ∧ i.2 ≤ s.size ∧ i.1 = numW (s.data.toList.take i.2.toNat)) (fun i => s.size - i.2.toNat) (0, 0) rfl ⟨rfl, by simp, by simp, by simp [numW]⟩ ?_
  rintro ⟨n, i⟩ gg m' ⟨rfl, hi0, hi, hr⟩
  simp only at hi0 hi hr
  obtain ⟨i, rfl⟩ := Int.eq_ofNat_of_zero_le hi0
  rw [Int.toNat_natCast] at hr
  subst hr
  by_cases hlt : (i : Int) < s.size
  · have hil : i < s.data.toList.length := by omega
    have hget : s.data.toList[i]? = some s.data.toList[i] := List.getElem?_eq_getElem hil
    have hwi : IntKind.i64.wrap ((i : Int) + 1) = (i : Int) + 1 := w64_id (by omega) (by omega)
    have hmc : ∀ n : Int, n * 10 = 10 * n := fun n => Int.mul_comm _ _
    simp only [E97_0, hlt, hget, Int.toNat_natCast, hwi, hmc, push_cast, Nat.reduceAdd, Nat.reduceMul, Nat.reduceLT, Nat.reduceLeDiff, Int.reduceEq, Nat.reduceEqDiff, reduceCtorEq]
    refine andW_i (by omega) ?_
    ((try refine hold_top ?_); (try simp only [hlt, hget, Int.toNat_natCast, hwi, hmc, push_cast, Nat.reduceAdd, Nat.reduceMul, Nat.reduceLT, Nat.reduceLeDiff, Int.reduceEq, Nat.reduceEqDiff, reduceCtorEq]); (try (refine hold_top ?_; simp only [hlt, hget, Int.toNat_natCast, hwi, hmc, push_cast, Nat.reduceAdd, Nat.reduceMul, Nat.reduceLT, Nat.reduceLeDiff, Int.reduceEq, Nat.reduceEqDiff, reduceCtorEq])))
    refine ⟨(_, (i : Int) + 1), rfl, by simp only; omega, by simp only; omega, by simp only; omega, ?_⟩
    rw [show ((i : Int) + 1).toNat = i + 1 by omega, List.take_add_one, hget, numW, numW, List.foldl_append]
    rfl
  · have hlt := hlt
    simp only [E97_0, hlt, push_cast, Nat.reduceAdd, Nat.reduceMul, Nat.reduceLT, Nat.reduceLeDiff, Int.reduceEq, Nat.reduceEqDiff, reduceCtorEq]
    rw [List.take_of_length_le (by omega)]
end Go.AM
