/-
  Contracts: the sizes that an exact law takes of its arguments.
-/
import Derived.Test.YtnfncjodmkhafaaAm16
import Derived.Test.YtnfncjodmkhafaaFn0
set_option linter.all false
set_option linter.unusedSimpArgs false
set_option linter.unusedVariables false
namespace Go.AM
open Go.Proofs
attribute [local congr] ACalls_congr loopS_congr lenSlW_congr lenStrW_congr strW_congr ptrW_congr nilW_congr aggW_congr tupW_congr idxW_congr idxStrW_congr condA_congr optW_congr callW_congr iteW_congr opW_congr iA_congr wpS_congr guardW_congr pickW_congr slStrW_congr slSlW_congr makeW_congr
attribute [local push_cast] wpS_skip wpS_ops_h wpS_seq_h wpS_cond_h wpS_block_h wpS_exit wpS_ret wpS_loop_h thenA_n thenA_r thenA_e blockA_n blockA_r blockA_same blockA_ne retS_rp retS_np Mem.pop_push_ext Mem.pop_push Mem.pop_ext Mem.pop_self resOne_t resOne_cell cellR_t cellR_f Option.map_some tup1_1 tup1_2 iA_nil iA_cons_h iA_guard_h guardW_b condA_b putA_s putA_n evA_t evA_c evA_f List.set_cons_zero List.set_cons_succ List.getD_cons_zero List.getD_cons_succ List.map_cons List.map_nil List.mapM_cons List.mapM_nil List.cons_append List.nil_append List.append_nil List.length_cons List.length_nil List.replicate List.append_eq List.foldr_cons List.foldr_nil opW_mov_h opW_pick_h opW_newS_h opW_newH_h opW_boxS_h opW_boxH_h opW_build_h opW_mkSlice_h opW_load_h opW_loadN_h opW_store_h opW_nilCheck_h opW_bin_h opW_isNil_h opW_un_h opW_convI_h opW_convP_h opW_convBS_h opW_extract_h opW_fieldAddr_h opW_field1_h opW_fieldN_h opW_idxSl_h opW_idxStr_h opW_slStr_h opW_slSl_h opW_fn_h opW_make_h opW_lenStr_h opW_lenSl_h opW_append_h opW_appStr_h opW_call_h pickW_b optW_some boxW_h ptrW_p stW_h nilW_p nilW_f tupW_t aggW_a idxW_sh idxStrW_sh slStrW_sh slSlW_n slSlW_sh makeW_ih lenStrW_s lenSlW_s strW_s callW_fh boundA_n boundA_s intOf_i unA_neg unA_not isNilA_0n isNilA_0s isNilA_2n isNilA_2f isNilA_2g bin_add bin_sub bin_mul bin_lss bin_leq bin_gtr bin_geq bin_eql bin_neq bin_eqlS bin_neqS cells_b cells_i cells_f cells_s cells_p cells_sl cells_nf cells_fn cells_a List.all_cons List.all_nil okV_b okV_i okV_fl okV_s okV_pn okV_sn okV_p okV_pl okV_sl okV_nf okV_f okV_a okV_t okA_b okA_i okA_fl okA_s okA_pn okA_sn okA_p okA_sl okA_a okC_b okC_i okC_fl okC_s okC_pn okC_sn okC_p okC_pl okC_sl okC_nf okC_f okC0_b okC0_i okC0_s okC0_p okC0_pl List.toList_toArray Array.toList_empty decide_eq_true_eq decide_eq_false_iff_not Bool.not_eq_true' Bool.false_eq_true Bool.and_true Bool.true_and bne_self_eq_false Bool.bne_false Bool.bne_true true_and and_true Option.bind_eq_bind Option.bind_some Option.pure_def Option.some.injEq exists_eq_left' Option.isNone_none Option.isNone_some decide_true decide_false Mem.box_ext Mem.ext_box Mem.ext_ext Mem.ext_heap Mem.ext_len1 Mem.ext_len2 Mem.ext_len3 Mem.ext_len4 Mem.ext_len5 Mem.ext_len6 Mem.ext_len7 Mem.ext_len8 Mem.ext_len9 Mem.ext_len10 Mem.ext_len11 Mem.ext_len12 Mem.ext_pop Mem.self_pop Mem.ext_push Mem.ext_load Mem.ext_loads Mem.ext_load0 Mem.ext_loadj Mem.ext_loads0 Mem.ext_loadsj Mem.ext_store0 Mem.ext_storej Mem.stores_nil Mem.stores_cons List.getElem?_cons_zero List.getElem?_cons_succ List.getElem?_nil Nat.zero_add List.drop_zero List.drop_succ_cons List.take_succ_cons List.take_zero List.size_toArray Option.bind_fun_some Nat.add_assoc fillA_nil fillA_cons partsA_nil partsA_cons push_sliceCells byteA_i noPtr_b noPtr_i noPtr_f noPtr_s List.flatten_cons List.flatten_nil bin_rem bin_quo ne_eq not_false_eq_true and_self Nat.one_mul Nat.mul_one Nat.le_refl List.take_nil List.drop_nil Nat.add_zero Bool.not_true Bool.not_false Bool.true_eq_false false_and and_false Bool.false_and Bool.and_false Bool.false_or Bool.or_false Bool.true_or Bool.or_true guardW_tt guardW_tf guardW_ft guardW_ff guardW_uh condA_t condA_f hold_1 hold_2 hold_3 iteV_t iteV_f iteO_t iteO_f not_true_eq_false Int.toNat_natCast Int.toNat_natCast_add_one Int.toNat_zero Nat.sub_zero en35 en76 en34 en11 en60 en115 en116 en94 en95 en97 en96 en92 en131 en93 en142 en117 en77 en36 en12 en38 rt73a rt73s en78 en37 rt27a rt27s en13 en80 en48 en90 en129 en130 en128 en88 en89 en143 en118 en144 en119 en120 en145 en146 en162 en147 en121 en122 en123 en124 en79 en81 en39 en40 en14 en15 en82 en41 en16 en18 en83 en42 en17 en19 en4
attribute [local push_cast] andW_t iteH_t iteH_f

def szR (left : Int) (n : Nat) : Int := if left < n then -1 else left - n
theorem szR_neg {left : Int} {a : Nat} (h : left < a) : szR left a = -1 := if_pos h
theorem szR_pos {left : Int} {a : Nat} (h : ¬ left < a) : szR left a = left - a := if_neg h

theorem szIntS_c {l : List Int} {v : Value} {left : Int} {m : Mem} (hl : l.length < 2 ^ 62) (h1 : 0 ≤ left) (h2 : left < 2 ^ 62) (h : Ints m v l) : ACalls Try.prog 35 [v, .int .i64 left] m
    (fun r m' => m' = m ∧ r = .int .i64 (szR left l.length)) := by
  refine acalls_of Try.func35 s35 ?_
  have hw : IntKind.i64.wrap (left - l.length) = left - l.length := w64_id (by omega) (by omega)
  have hs := Sl.lenW h
  simp only [A35, hw, hs, pop_self, hw, hs, hs, push_cast, Nat.reduceAdd, Nat.reduceMul, Nat.reduceLT, Nat.reduceLeDiff, Int.reduceEq, Nat.reduceEqDiff, reduceCtorEq]
  refine ite_h (fun h0 => ?_) fun h0 => ?_
  · ((try refine hold_top ?_); (try simp only [hw, hs, hs, push_cast, Nat.reduceAdd, Nat.reduceMul, Nat.reduceLT, Nat.reduceLeDiff, Int.reduceEq, Nat.reduceEqDiff, reduceCtorEq]); (try (refine hold_top ?_; simp only [hw, hs, hs, push_cast, Nat.reduceAdd, Nat.reduceMul, Nat.reduceLT, Nat.reduceLeDiff, Int.reduceEq, Nat.reduceEqDiff, reduceCtorEq])))
    unfold szR
    split <;> simp <;> omega
  · ((try refine hold_top ?_); (try simp only [hw, hs, hs, push_cast, Nat.reduceAdd, Nat.reduceMul, Nat.reduceLT, Nat.reduceLeDiff, Int.reduceEq, Nat.reduceEqDiff, reduceCtorEq]); (try (refine hold_top ?_; simp only [hw, hs, hs, push_cast, Nat.reduceAdd, Nat.reduceMul, Nat.reduceLT, Nat.reduceLeDiff, Int.reduceEq, Nat.reduceEqDiff, reduceCtorEq])))
    unfold szR
    split <;> simp <;> omega

/-- A node, as plain data. -/
structure PNode where
  kind : Int
  text : ByteArray
  i : Int
  kids : List Int

def isNode (m : Mem) (cs : List Value) (n : PNode) : Prop := ∃ k, cs = [.int .i64 n.kind, .string n.text, .int .i64 n.i, k] ∧ Ints m k n.kids
abbrev Nodes (m : Mem) (v : Value) (l : List PNode) : Prop := Sl m 4 isNode v l
theorem isNode.mono {m m' : Mem} (hle : m.le m') {cs : List Value} {n : PNode} (h : isNode m cs n) : isNode m' cs n := let ⟨k, h1, h2⟩ := h; ⟨k, h1, h2.mono hle⟩
theorem Nodes.mono {m m' : Mem} (hle : m.le m') {v : Value} {l : List PNode} (h : Nodes m v l) : Nodes m' v l := Sl.mono hle (fun _ _ => isNode.mono hle) h

def PNode.size (n : PNode) : Nat := n.text.size + n.kids.length
theorem szR_add {left : Int} {a b : Nat} (h1 : 0 ≤ left) : szR left (a + b) = if szR left a < 0 then -1 else szR (szR left a) b := by
  unfold szR
  repeat' split
  all_goals omega
theorem szNode_c {n : PNode} {cs : List Value} {left : Int} {m : Mem} (hl : n.size < 2 ^ 61) (h1 : 0 ≤ left) (h2 : left < 2 ^ 62) (h : isNode m cs n) :
    ACalls Try.prog 76 [.agg cs.toArray, .int .i64 left] m (fun r m' => m' = m ∧ r = .int .i64 (szR left n.size)) := by
  obtain ⟨k, rfl, hk⟩ := h
  unfold PNode.size at hl ⊢
  refine acalls_of Try.func76 s76 ?_
  have hw : IntKind.i64.wrap (left - n.text.size) = left - n.text.size := w64_id (by omega) (by omega)
  simp only [A76, hk.okC, hw, hw, push_cast, Nat.reduceAdd, Nat.reduceMul, Nat.reduceLT, Nat.reduceLeDiff, Int.reduceEq, Nat.reduceEqDiff, reduceCtorEq]
  refine ite_h (fun h => ?_) fun h => ?_
  · ((try refine hold_top ?_); (try simp only [hw, push_cast, Nat.reduceAdd, Nat.reduceMul, Nat.reduceLT, Nat.reduceLeDiff, Int.reduceEq, Nat.reduceEqDiff, reduceCtorEq]); (try (refine hold_top ?_; simp only [hw, push_cast, Nat.reduceAdd, Nat.reduceMul, Nat.reduceLT, Nat.reduceLeDiff, Int.reduceEq, Nat.reduceEqDiff, reduceCtorEq])))
    simp only [szR]
    simp; omega
  · ((try refine hold_top ?_); (try simp only [hw, push_cast, Nat.reduceAdd, Nat.reduceMul, Nat.reduceLT, Nat.reduceLeDiff, Int.reduceEq, Nat.reduceEqDiff, reduceCtorEq]); (try (refine hold_top ?_; simp only [hw, push_cast, Nat.reduceAdd, Nat.reduceMul, Nat.reduceLT, Nat.reduceLeDiff, Int.reduceEq, Nat.reduceEqDiff, reduceCtorEq])))
    refine (szIntS_c (by omega) (by omega) (by omega) (hk.ext _)).mono ?_
    rintro r m' ⟨rfl, rfl⟩
    ((try refine hold_top ?_); (try simp only [hw, push_cast, Nat.reduceAdd, Nat.reduceMul, Nat.reduceLT, Nat.reduceLeDiff, Int.reduceEq, Nat.reduceEqDiff, reduceCtorEq]); (try (refine hold_top ?_; simp only [hw, push_cast, Nat.reduceAdd, Nat.reduceMul, Nat.reduceLT, Nat.reduceLeDiff, Int.reduceEq, Nat.reduceEqDiff, reduceCtorEq])))
    refine ite_h (fun h9 => ?_) fun h9 => ?_
    all_goals ((try refine hold_top ?_); (try simp only [hw, push_cast, Nat.reduceAdd, Nat.reduceMul, Nat.reduceLT, Nat.reduceLeDiff, Int.reduceEq, Nat.reduceEqDiff, reduceCtorEq]); (try (refine hold_top ?_; simp only [hw, push_cast, Nat.reduceAdd, Nat.reduceMul, Nat.reduceLT, Nat.reduceLeDiff, Int.reduceEq, Nat.reduceEqDiff, reduceCtorEq])))
    all_goals revert h9
    all_goals unfold szR
    all_goals repeat' split
    all_goals simp
    all_goals omega

def sumTo {α : Type} (f : α → Nat) (l : List α) (i : Nat) : Nat := ((l.map f).take i).sum
def sumAll {α : Type} (f : α → Nat) (l : List α) : Nat := (l.map f).sum
theorem sumTo_zero {α : Type} (f : α → Nat) (l : List α) : sumTo f l 0 = 0 := by simp [sumTo]
theorem sumTo_succ {α : Type} (f : α → Nat) (l : List α) (i : Nat) (h : i < l.length) : sumTo f l (i + 1) = sumTo f l i + f l[i] := by
  unfold sumTo
  rw [List.take_add_one, List.getElem?_eq_getElem (by simpa using h)]
  simp
theorem sum_take_le' (l : List Nat) (i : Nat) : (l.take i).sum ≤ l.sum := by
  induction l generalizing i with
  | nil => simp
  | cons x l ih => cases i with
    | zero => simp
    | succ i => simp only [List.take_succ_cons, List.sum_cons]; have := ih i; omega
theorem sumTo_le {α : Type} (f : α → Nat) (l : List α) (i : Nat) : sumTo f l i ≤ sumAll f l := sum_take_le' _ _
theorem sumTo_all {α : Type} (f : α → Nat) (l : List α) (i : Nat) (h : l.length ≤ i) : sumTo f l i = sumAll f l := by
  unfold sumTo sumAll
  rw [List.take_of_length_le (by simpa using h)]
def nodesSize (l : List PNode) : Nat := l.length + sumAll PNode.size l
theorem szNodeS_c {l : List PNode} {v : Value} {left : Int} {m : Mem} (hl : l.length < 2 ^ 61) (hn : ∀ n ∈ l, n.size < 2 ^ 61) (h1 : 0 ≤ left) (h2 : left < 2 ^ 62) (h : Nodes m v l) :
    ACalls Try.prog 34 [v, .int .i64 left] m (fun r m' => m' = m ∧ r = .int .i64 (szR left (nodesSize l))) := by
  unfold nodesSize
  refine acalls_of Try.func34 s34 ?_
  have hw : IntKind.i64.wrap (left - l.length) = left - l.length := w64_id (by omega) (by omega)
  have hs := Sl.lenW h
  simp only [A34, hs, hw, hw, hs, hs, push_cast, Nat.reduceAdd, Nat.reduceMul, Nat.reduceLT, Nat.reduceLeDiff, Int.reduceEq, Nat.reduceEqDiff, reduceCtorEq]
  refine ite_h (fun h0 => ?_) fun h0 => ?_
  · ((try refine hold_top ?_); (try simp only [hw, hs, hs, push_cast, Nat.reduceAdd, Nat.reduceMul, Nat.reduceLT, Nat.reduceLeDiff, Int.reduceEq, Nat.reduceEqDiff, reduceCtorEq]); (try (refine hold_top ?_; simp only [hw, hs, hs, push_cast, Nat.reduceAdd, Nat.reduceMul, Nat.reduceLT, Nat.reduceLeDiff, Int.reduceEq, Nat.reduceEqDiff, reduceCtorEq])))
    simp only [szR]
    simp; omega
  · ((try refine hold_top ?_); (try simp only [hw, hs, hs, push_cast, Nat.reduceAdd, Nat.reduceMul, Nat.reduceLT, Nat.reduceLeDiff, Int.reduceEq, Nat.reduceEqDiff, reduceCtorEq]); (try (refine hold_top ?_; simp only [hw, hs, hs, push_cast, Nat.reduceAdd, Nat.reduceMul, Nat.reduceLT, Nat.reduceLeDiff, Int.reduceEq, Nat.reduceEqDiff, reduceCtorEq])))
    refine loopS_rule (σ := Int × Int) (fun s g => E34_0 v (.int .i64 s.1) (.int .i64 s.2) g)
      (fun s m' => m' = m ∧ 0 ≤ s.2 ∧ s.2 ≤ l.length ∧ 0 ≤ s.1 ∧ s.1 = left - l.length - sumTo PNode.size l s.2.toNat) (fun s => l.length - s.2.toNat) (left - l.length, 0) rfl ⟨rfl, by simp, by simp, by simp; omega, by simp [sumTo_zero]⟩ ?_
    rintro ⟨lf, i⟩ g m' ⟨rfl, hi0, hi, hp, hlf⟩
    simp only at hi0 hi hp hlf
    obtain ⟨i, rfl⟩ := Int.eq_ofNat_of_zero_le hi0
    simp only [E34_0, push_cast, Nat.reduceAdd, Nat.reduceMul, Nat.reduceLT, Nat.reduceLeDiff, Int.reduceEq, Nat.reduceEqDiff, reduceCtorEq, hs]
    rw [Int.toNat_natCast] at hlf
    have hsl := sumTo_le PNode.size l i
    refine ite_h (fun hlt => ?_) fun hge => ?_
    · ((try refine hold_top ?_); (try simp only [hw, hs, hs, push_cast, Nat.reduceAdd, Nat.reduceMul, Nat.reduceLT, Nat.reduceLeDiff, Int.reduceEq, Nat.reduceEqDiff, reduceCtorEq]); (try (refine hold_top ?_; simp only [hw, hs, hs, push_cast, Nat.reduceAdd, Nat.reduceMul, Nat.reduceLT, Nat.reduceLeDiff, Int.reduceEq, Nat.reduceEqDiff, reduceCtorEq])))
      have hil : i < l.length := by omega
      obtain ⟨b, off, ver, cs, rfl, hld, hr, hcl, _⟩ := Sl.get h hil
      have hsl' := sumTo_le PNode.size l (i + 1)
      rw [sumTo_succ _ _ _ hil] at hsl'
      have hwi : IntKind.i64.wrap ((i : Int) + 1) = (i : Int) + 1 := w64_id (by omega) (by omega)
      have hti : ((i : Int) + 1).toNat = i + 1 := by omega
      ((try refine hold_top ?_); (try simp only [hw, hs, hs, Int.toNat_natCast, hld, hwi, push_cast, Nat.reduceAdd, Nat.reduceMul, Nat.reduceLT, Nat.reduceLeDiff, Int.reduceEq, Nat.reduceEqDiff, reduceCtorEq]); (try (refine hold_top ?_; simp only [hw, hs, hs, Int.toNat_natCast, hld, hwi, push_cast, Nat.reduceAdd, Nat.reduceMul, Nat.reduceLT, Nat.reduceLeDiff, Int.reduceEq, Nat.reduceEqDiff, reduceCtorEq])))
      refine andW_i (by omega) ?_
      ((try refine hold_top ?_); (try simp only [Int.toNat_natCast, hld, hw, hs, hs, Int.toNat_natCast, hld, hwi, push_cast, Nat.reduceAdd, Nat.reduceMul, Nat.reduceLT, Nat.reduceLeDiff, Int.reduceEq, Nat.reduceEqDiff, reduceCtorEq]); (try (refine hold_top ?_; simp only [Int.toNat_natCast, hld, hw, hs, hs, Int.toNat_natCast, hld, hwi, push_cast, Nat.reduceAdd, Nat.reduceMul, Nat.reduceLT, Nat.reduceLeDiff, Int.reduceEq, Nat.reduceEqDiff, reduceCtorEq])))
      refine (szNode_c (hn _ (List.getElem_mem hil)) (by omega) (by omega) hr).mono ?_
      rintro r m'' ⟨rfl, rfl⟩
      ((try refine hold_top ?_); (try simp only [hw, hs, hs, Int.toNat_natCast, hld, hwi, push_cast, Nat.reduceAdd, Nat.reduceMul, Nat.reduceLT, Nat.reduceLeDiff, Int.reduceEq, Nat.reduceEqDiff, reduceCtorEq]); (try (refine hold_top ?_; simp only [hw, hs, hs, Int.toNat_natCast, hld, hwi, push_cast, Nat.reduceAdd, Nat.reduceMul, Nat.reduceLT, Nat.reduceLeDiff, Int.reduceEq, Nat.reduceEqDiff, reduceCtorEq])))
      refine ite_h (fun h1 => ?_) fun h1 => ?_
      · ((try refine hold_top ?_); (try simp only [hw, hs, hs, Int.toNat_natCast, hld, hwi, push_cast, Nat.reduceAdd, Nat.reduceMul, Nat.reduceLT, Nat.reduceLeDiff, Int.reduceEq, Nat.reduceEqDiff, reduceCtorEq]); (try (refine hold_top ?_; simp only [hw, hs, hs, Int.toNat_natCast, hld, hwi, push_cast, Nat.reduceAdd, Nat.reduceMul, Nat.reduceLT, Nat.reduceLeDiff, Int.reduceEq, Nat.reduceEqDiff, reduceCtorEq])))
        revert h1
        unfold szR
        repeat' split
        all_goals simp
        all_goals omega
      · ((try refine hold_top ?_); (try simp only [hw, hs, hs, Int.toNat_natCast, hld, hwi, push_cast, Nat.reduceAdd, Nat.reduceMul, Nat.reduceLT, Nat.reduceLeDiff, Int.reduceEq, Nat.reduceEqDiff, reduceCtorEq]); (try (refine hold_top ?_; simp only [hw, hs, hs, Int.toNat_natCast, hld, hwi, push_cast, Nat.reduceAdd, Nat.reduceMul, Nat.reduceLT, Nat.reduceLeDiff, Int.reduceEq, Nat.reduceEqDiff, reduceCtorEq])))
        refine ⟨(szR lf l[i].size, (i : Int) + 1), rfl, ?_, by simp; omega, by simp; omega, by simp; omega, ?_⟩
        · simp; omega
        · revert h1
          simp only [szR, hti, sumTo_succ _ _ _ hil]
          repeat' split
          all_goals intro h1
          all_goals omega
    · ((try refine hold_top ?_); (try simp only [hw, hs, hs, push_cast, Nat.reduceAdd, Nat.reduceMul, Nat.reduceLT, Nat.reduceLeDiff, Int.reduceEq, Nat.reduceEqDiff, reduceCtorEq]); (try (refine hold_top ?_; simp only [hw, hs, hs, push_cast, Nat.reduceAdd, Nat.reduceMul, Nat.reduceLT, Nat.reduceLeDiff, Int.reduceEq, Nat.reduceEqDiff, reduceCtorEq])))
      have := sumTo_all PNode.size l i (by omega)
      simp only [szR]
      split
      all_goals simp
      all_goals omega

structure PTree where
  nodes : List PNode
  tops : List Int
def isTree (m : Mem) (cs : List Value) (t : PTree) : Prop := ∃ a b, cs = [a, b] ∧ Nodes m a t.nodes ∧ Ints m b t.tops
theorem isTree.mono {m m' : Mem} (hle : m.le m') {cs : List Value} {n : PTree} (h : isTree m cs n) : isTree m' cs n := let ⟨a, b, h1, h2, h3⟩ := h; ⟨a, b, h1, h2.mono hle, h3.mono hle⟩
theorem Nodes.ext {m : Mem} {v : Value} {xs : List PNode} (h : Nodes m v xs) (l : List (List Value)) : Nodes (m.ext l) v xs := Sl.ext (fun _ _ ⟨k, h1, h2⟩ => ⟨k, h1, h2.ext l⟩) h
/-- No part is longer than memory. -/
def PTree.fine (t : PTree) : Prop := t.nodes.length < 2 ^ 61 ∧ t.tops.length < 2 ^ 61 ∧ ∀ n ∈ t.nodes, n.size < 2 ^ 61
def PTree.size (t : PTree) : Nat := nodesSize t.nodes + t.tops.length
theorem szTree_c {n : PTree} {cs : List Value} {left : Int} {m : Mem} (hl : n.fine) (h1 : 0 ≤ left) (h2 : left < 2 ^ 62) (h : isTree m cs n) :
    ACalls Try.prog 11 [.agg cs.toArray, .int .i64 left] m (fun r m' => m' = m ∧ r = .int .i64 (szR left n.size)) := by
  obtain ⟨a, b, rfl, ha, hb⟩ := h
  obtain ⟨hl1, hl2, hl3⟩ := hl
  unfold PTree.size
  refine acalls_of Try.func11 s11 ?_
  simp only [A11, ha.okC, hb.okC, push_cast, Nat.reduceAdd, Nat.reduceMul, Nat.reduceLT, Nat.reduceLeDiff, Int.reduceEq, Nat.reduceEqDiff, reduceCtorEq]
  refine (szNodeS_c (by omega) hl3 (by omega) (by omega) (ha.ext _)).mono ?_
  rintro r m' ⟨rfl, rfl⟩
  ((try refine hold_top ?_); (try simp only [push_cast, Nat.reduceAdd, Nat.reduceMul, Nat.reduceLT, Nat.reduceLeDiff, Int.reduceEq, Nat.reduceEqDiff, reduceCtorEq]); (try (refine hold_top ?_; simp only [push_cast, Nat.reduceAdd, Nat.reduceMul, Nat.reduceLT, Nat.reduceLeDiff, Int.reduceEq, Nat.reduceEqDiff, reduceCtorEq])))
  refine ite_h (fun h => ?_) fun h => ?_
  · ((try refine hold_top ?_); (try simp only [push_cast, Nat.reduceAdd, Nat.reduceMul, Nat.reduceLT, Nat.reduceLeDiff, Int.reduceEq, Nat.reduceEqDiff, reduceCtorEq]); (try (refine hold_top ?_; simp only [push_cast, Nat.reduceAdd, Nat.reduceMul, Nat.reduceLT, Nat.reduceLeDiff, Int.reduceEq, Nat.reduceEqDiff, reduceCtorEq])))
    revert h
    unfold szR
    repeat' split
    all_goals simp
    all_goals omega
  · ((try refine hold_top ?_); (try simp only [push_cast, Nat.reduceAdd, Nat.reduceMul, Nat.reduceLT, Nat.reduceLeDiff, Int.reduceEq, Nat.reduceEqDiff, reduceCtorEq]); (try (refine hold_top ?_; simp only [push_cast, Nat.reduceAdd, Nat.reduceMul, Nat.reduceLT, Nat.reduceLeDiff, Int.reduceEq, Nat.reduceEqDiff, reduceCtorEq])))
    have := h
    refine (szIntS_c (by omega) (by omega) ?_ (hb.ext _)).mono ?_
    · unfold szR; split <;> omega
    rintro r m' ⟨rfl, rfl⟩
    ((try refine hold_top ?_); (try simp only [push_cast, Nat.reduceAdd, Nat.reduceMul, Nat.reduceLT, Nat.reduceLeDiff, Int.reduceEq, Nat.reduceEqDiff, reduceCtorEq]); (try (refine hold_top ?_; simp only [push_cast, Nat.reduceAdd, Nat.reduceMul, Nat.reduceLT, Nat.reduceLeDiff, Int.reduceEq, Nat.reduceEqDiff, reduceCtorEq])))
    refine ite_h (fun h9 => ?_) fun h9 => ?_
    all_goals ((try refine hold_top ?_); (try simp only [push_cast, Nat.reduceAdd, Nat.reduceMul, Nat.reduceLT, Nat.reduceLeDiff, Int.reduceEq, Nat.reduceEqDiff, reduceCtorEq]); (try (refine hold_top ?_; simp only [push_cast, Nat.reduceAdd, Nat.reduceMul, Nat.reduceLT, Nat.reduceLeDiff, Int.reduceEq, Nat.reduceEqDiff, reduceCtorEq])))
    all_goals revert h9
    all_goals revert h
    all_goals unfold szR
    all_goals repeat' split
    all_goals simp
    all_goals omega
end Go.AM
