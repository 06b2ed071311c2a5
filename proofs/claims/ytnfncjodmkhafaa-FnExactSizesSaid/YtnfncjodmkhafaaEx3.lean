/-
  Contracts: the copies that an exact law makes of its arguments.
-/
import Derived.Test.YtnfncjodmkhafaaAm17
import Derived.Test.YtnfncjodmkhafaaEx2
set_option linter.all false
set_option linter.unusedSimpArgs false
set_option linter.unusedVariables false
namespace Go.AM
open Go.Proofs
attribute [local congr] ACalls_congr loopS_congr lenSlW_congr lenStrW_congr strW_congr ptrW_congr nilW_congr aggW_congr tupW_congr idxW_congr idxStrW_congr condA_congr optW_congr callW_congr iteW_congr opW_congr iA_congr wpS_congr guardW_congr pickW_congr slStrW_congr slSlW_congr makeW_congr
attribute [local push_cast] wpS_skip wpS_ops_h wpS_seq_h wpS_cond_h wpS_block_h wpS_exit wpS_ret wpS_loop_h thenA_n thenA_r thenA_e blockA_n blockA_r blockA_same blockA_ne retS_rp retS_np Mem.pop_push_ext Mem.pop_push Mem.pop_ext Mem.pop_self resOne_t resOne_cell cellR_t cellR_f Option.map_some tup1_1 tup1_2 iA_nil iA_cons_h iA_guard_h guardW_b condA_b putA_s putA_n evA_t evA_c evA_f List.set_cons_zero List.set_cons_succ List.getD_cons_zero List.getD_cons_succ List.map_cons List.map_nil List.mapM_cons List.mapM_nil List.cons_append List.nil_append List.append_nil List.length_cons List.length_nil List.replicate List.append_eq List.foldr_cons List.foldr_nil opW_mov_h opW_pick_h opW_newS_h opW_newH_h opW_boxS_h opW_boxH_h opW_build_h opW_mkSlice_h opW_load_h opW_loadN_h opW_store_h opW_nilCheck_h opW_bin_h opW_isNil_h opW_un_h opW_convI_h opW_convP_h opW_convBS_h opW_extract_h opW_fieldAddr_h opW_field1_h opW_fieldN_h opW_idxSl_h opW_idxStr_h opW_slStr_h opW_slSl_h opW_fn_h opW_make_h opW_lenStr_h opW_lenSl_h opW_append_h opW_appStr_h opW_call_h pickW_b optW_some boxW_h ptrW_p stW_h nilW_p nilW_f tupW_t aggW_a idxW_sh idxStrW_sh slStrW_sh slSlW_n slSlW_sh makeW_ih lenStrW_s lenSlW_s strW_s callW_fh boundA_n boundA_s intOf_i unA_neg unA_not isNilA_0n isNilA_0s isNilA_2n isNilA_2f isNilA_2g bin_add bin_sub bin_mul bin_lss bin_leq bin_gtr bin_geq bin_eql bin_neq bin_eqlS bin_neqS cells_b cells_i cells_f cells_s cells_p cells_sl cells_nf cells_fn cells_a List.all_cons List.all_nil okV_b okV_i okV_fl okV_s okV_pn okV_sn okV_p okV_pl okV_sl okV_nf okV_f okV_a okV_t okA_b okA_i okA_fl okA_s okA_pn okA_sn okA_p okA_sl okA_a okC_b okC_i okC_fl okC_s okC_pn okC_sn okC_p okC_pl okC_sl okC_nf okC_f okC0_b okC0_i okC0_s okC0_p okC0_pl List.toList_toArray Array.toList_empty decide_eq_true_eq decide_eq_false_iff_not Bool.not_eq_true' Bool.false_eq_true Bool.and_true Bool.true_and bne_self_eq_false Bool.bne_false Bool.bne_true true_and and_true Option.bind_eq_bind Option.bind_some Option.pure_def Option.some.injEq exists_eq_left' Option.isNone_none Option.isNone_some decide_true decide_false Mem.box_ext Mem.ext_box Mem.ext_ext Mem.ext_heap Mem.ext_len1 Mem.ext_len2 Mem.ext_len3 Mem.ext_len4 Mem.ext_len5 Mem.ext_len6 Mem.ext_len7 Mem.ext_len8 Mem.ext_len9 Mem.ext_len10 Mem.ext_len11 Mem.ext_len12 Mem.ext_pop Mem.self_pop Mem.ext_push Mem.ext_load Mem.ext_loads Mem.ext_load0 Mem.ext_loadj Mem.ext_loads0 Mem.ext_loadsj Mem.ext_store0 Mem.ext_storej Mem.stores_nil Mem.stores_cons List.getElem?_cons_zero List.getElem?_cons_succ List.getElem?_nil Nat.zero_add List.drop_zero List.drop_succ_cons List.take_succ_cons List.take_zero List.size_toArray Option.bind_fun_some Nat.add_assoc fillA_nil fillA_cons partsA_nil partsA_cons push_sliceCells byteA_i noPtr_b noPtr_i noPtr_f noPtr_s List.flatten_cons List.flatten_nil bin_rem bin_quo ne_eq not_false_eq_true and_self Nat.one_mul Nat.mul_one Nat.le_refl List.take_nil List.drop_nil Nat.add_zero Bool.not_true Bool.not_false Bool.true_eq_false false_and and_false Bool.false_and Bool.and_false Bool.false_or Bool.or_false Bool.true_or Bool.or_true guardW_tt guardW_tf guardW_ft guardW_ff guardW_uh condA_t condA_f hold_1 hold_2 hold_3 iteV_t iteV_f iteO_t iteO_f not_true_eq_false Int.toNat_natCast Int.toNat_natCast_add_one Int.toNat_zero Nat.sub_zero en35 en76 en34 en11 en60 en115 en116 en94 en95 en97 en96 en92 en131 en93 en142 en117 en77 en36 en12 en38 rt73a rt73s en78 en37 rt27a rt27s en13 en80 en48 en90 en129 en130 en128 en88 en89 en143 en118 en144 en119 en120 en145 en146 en162 en147 en121 en122 en123 en124 en79 en81 en39 en40 en14 en15 en82 en41 en16 en18 en83 en42 en17 en19 en4
attribute [local push_cast] andW_t iteH_t iteH_f

/-- Whole numbers in a block of their own. -/
def IntsO (m : Mem) (v : Value) (l : List Int) (fp : List Nat) : Prop :=
  (l = [] ∧ v = .slice none 0 0 ∧ fp = []) ∨ ∃ b ver, v = .slice (some ⟨b, 0, some ver⟩) l.length 1 ∧ m.blk b ver (l.map (.int .i64)) ∧ fp = [b]
theorem IntsO.ints {m : Mem} {v : Value} {l : List Int} {fp : List Nat} (h : IntsO m v l fp) : Ints m v l := by
  rcases h with ⟨h1, h2, _⟩ | ⟨b, ver, hv, hb, _⟩
  · exact .inl ⟨h1, h2⟩
  · refine .inr ⟨b, 0, ver, hv, fun i x hx => ?_, fun e => ?_⟩
    · have hi := (List.getElem?_eq_some_iff.1 hx).1
      refine ⟨[.int .i64 x], ?_, rfl⟩
      rw [hb.loads (by simp; omega)]
      rw [Nat.zero_add, Nat.mul_one, List.take_one, List.head?_drop]
      simp [hx]
    · rw [hb.loads (by simp)]; simp
theorem IntsO.frame {m m' : Mem} {v : Value} {l : List Int} {fp : List Nat} {S : Nat → Prop} (h : IntsO m v l fp) (hf : m.frame S m') (hs : ∀ b ∈ fp, ¬ S b) : IntsO m' v l fp := by
  rcases h with h | ⟨b, ver, hv, hb, rfl⟩
  · exact .inl h
  · exact .inr ⟨b, ver, hv, hf.blk (hs b (by simp)) hb, rfl⟩
theorem IntsO.lt {m : Mem} {v : Value} {l : List Int} {fp : List Nat} (h : IntsO m v l fp) : ∀ b ∈ fp, b < m.heap.length := by
  rcases h with ⟨_, _, rfl⟩ | ⟨b, ver, hv, hb, rfl⟩
  · simp
  · simp [hb.lt]
theorem toIntS_c {l : List Int} {v : Value} {m : Mem} (hl : l.length < 2 ^ 40) (h : Ints m v l) :
    ACalls Try.prog 38 [v] m (fun r m' => m' = m.push (l.map (.int .i64)) ∧ r = .slice (some ⟨m.heap.length, 0, some 0⟩) l.length 1) := by
  refine acalls_of Try.func38 s38 ?_
  have hs := Sl.lenW h
  simp only [A38, hs, hs, hs, push_cast, Nat.reduceAdd, Nat.reduceMul, Nat.reduceLT, Nat.reduceLeDiff, Int.reduceEq, Nat.reduceEqDiff, reduceCtorEq]
  refine andW_i (by omega) ?_
  ((try refine hold_top ?_); (try simp only [Int.toNat_natCast, hs, hs, push_cast, Nat.reduceAdd, Nat.reduceMul, Nat.reduceLT, Nat.reduceLeDiff, Int.reduceEq, Nat.reduceEqDiff, reduceCtorEq]); (try (refine hold_top ?_; simp only [Int.toNat_natCast, hs, hs, push_cast, Nat.reduceAdd, Nat.reduceMul, Nat.reduceLT, Nat.reduceLeDiff, Int.reduceEq, Nat.reduceEqDiff, reduceCtorEq])))
  refine loopS_rule (σ := Int) (fun s g => E38_0 v (.slice (some ⟨m.heap.length, 0, some 0⟩) l.length 1) (.int .i64 s) g)
    (fun s m' => 0 ≤ s ∧ s ≤ l.length ∧ m' = m.push ((l.take s.toNat).map (.int .i64) ++ List.replicate (l.length - s.toNat) (.int .i64 0))) (fun s => l.length - s.toNat) 0 rfl ⟨by simp, by simp, by simp⟩ ?_
  rintro i g m' ⟨hi0, hi, hm⟩
  obtain ⟨i, rfl⟩ := Int.eq_ofNat_of_zero_le hi0
  rw [Int.toNat_natCast] at hm
  have hle : m.le m' := hm ▸ Mem.le_push m _
  have h' := h.mono hle
  simp only [E38_0, hs, hs, hs, push_cast, Nat.reduceAdd, Nat.reduceMul, Nat.reduceLT, Nat.reduceLeDiff, Int.reduceEq, Nat.reduceEqDiff, reduceCtorEq]
  refine ite_h (fun hlt => ?_) fun hge => ?_
  · ((try refine hold_top ?_); (try simp only [hs, hs, push_cast, Nat.reduceAdd, Nat.reduceMul, Nat.reduceLT, Nat.reduceLeDiff, Int.reduceEq, Nat.reduceEqDiff, reduceCtorEq]); (try (refine hold_top ?_; simp only [hs, hs, push_cast, Nat.reduceAdd, Nat.reduceMul, Nat.reduceLT, Nat.reduceLeDiff, Int.reduceEq, Nat.reduceEqDiff, reduceCtorEq])))
    have hil : i < l.length := by omega
    obtain ⟨b, off, ver, rfl, hld⟩ := Ints.get h' hil
    have hwi : IntKind.i64.wrap ((i : Int) + 1) = (i : Int) + 1 := w64_id (by omega) (by omega)
    have hti : ((i : Int) + 1).toNat = i + 1 := by omega
    ((try refine hold_top ?_); (try simp only [Int.toNat_natCast, Nat.mul_one, hld, hs, hs, Int.toNat_natCast, hld, hwi, push_cast, Nat.reduceAdd, Nat.reduceMul, Nat.reduceLT, Nat.reduceLeDiff, Int.reduceEq, Nat.reduceEqDiff, reduceCtorEq]); (try (refine hold_top ?_; simp only [Int.toNat_natCast, Nat.mul_one, hld, hs, hs, Int.toNat_natCast, hld, hwi, push_cast, Nat.reduceAdd, Nat.reduceMul, Nat.reduceLT, Nat.reduceLeDiff, Int.reduceEq, Nat.reduceEqDiff, reduceCtorEq])))
    refine andW_i (by omega) ?_
    ((try refine hold_top ?_); (try simp only [Int.toNat_natCast, Nat.mul_one, hs, hs, Int.toNat_natCast, hld, hwi, push_cast, Nat.reduceAdd, Nat.reduceMul, Nat.reduceLT, Nat.reduceLeDiff, Int.reduceEq, Nat.reduceEqDiff, reduceCtorEq]); (try (refine hold_top ?_; simp only [Int.toNat_natCast, Nat.mul_one, hs, hs, Int.toNat_natCast, hld, hwi, push_cast, Nat.reduceAdd, Nat.reduceMul, Nat.reduceLT, Nat.reduceLeDiff, Int.reduceEq, Nat.reduceEqDiff, reduceCtorEq])))
    refine andW_i (by omega) ?_
    have hblk := Mem.push_blk m ((l.take i).map (.int .i64) ++ List.replicate (l.length - i) (.int .i64 0))
    rw [← hm] at hblk
    ((try refine hold_top ?_); (try simp only [Int.toNat_natCast, Nat.mul_one, hwi, hblk.store (v := .int .i64 l[i]) (o := i) (by simp; omega) rfl, hs, hs, Int.toNat_natCast, hld, hwi, push_cast, Nat.reduceAdd, Nat.reduceMul, Nat.reduceLT, Nat.reduceLeDiff, Int.reduceEq, Nat.reduceEqDiff, reduceCtorEq]); (try (refine hold_top ?_; simp only [Int.toNat_natCast, Nat.mul_one, hwi, hblk.store (v := .int .i64 l[i]) (o := i) (by simp; omega) rfl, hs, hs, Int.toNat_natCast, hld, hwi, push_cast, Nat.reduceAdd, Nat.reduceMul, Nat.reduceLT, Nat.reduceLeDiff, Int.reduceEq, Nat.reduceEqDiff, reduceCtorEq])))
    refine ⟨(i : Int) + 1, rfl, by omega, by omega, by omega, ?_⟩
    rw [hti, hm, Mem.push_put]
    congr 1
    obtain ⟨k, hk⟩ : ∃ k, l.length - i = k + 1 := ⟨l.length - i - 1, by omega⟩
    rw [hk, show l.length - (i + 1) = k by omega, List.replicate_succ, List.set_append_right _ _ (by simp; omega), List.take_add_one, List.getElem?_eq_getElem hil]
    simp only [List.length_map, List.length_take, show i - min i l.length = 0 by omega, List.set_cons_zero, List.map_append, List.map_cons, List.map_nil, Option.toList_some, List.append_assoc, List.cons_append, List.nil_append]
  · ((try refine hold_top ?_); (try simp only [hs, hs, push_cast, Nat.reduceAdd, Nat.reduceMul, Nat.reduceLT, Nat.reduceLeDiff, Int.reduceEq, Nat.reduceEqDiff, reduceCtorEq]); (try (refine hold_top ?_; simp only [hs, hs, push_cast, Nat.reduceAdd, Nat.reduceMul, Nat.reduceLT, Nat.reduceLeDiff, Int.reduceEq, Nat.reduceEqDiff, reduceCtorEq])))
    have e : l.length ≤ i := by omega
    rw [hm, List.take_of_length_le e, show l.length - i = 0 by omega]
    simp [Mem.push, Mem.pop]

/-- A list in a block of its own, with all that it reaches. -/
def SlO {α : Type} (m : Mem) (esz : Nat) (R : Mem → List Value → α → List Nat → Prop) (v : Value) (l : List α) (fp : List Nat) : Prop :=
  (l = [] ∧ v = .slice none 0 0 ∧ fp = []) ∨ ∃ (b ver : Nat) (cells : List Value) (fps : List (List Nat)), v = .slice (some ⟨b, 0, some ver⟩) l.length esz ∧ m.blk b ver cells ∧ cells.length = l.length * esz ∧ fps.length = l.length ∧ fp = b :: fps.flatten ∧
    ∀ i x f, l[i]? = some x → fps[i]? = some f → R m ((cells.drop (i * esz)).take esz) x f
theorem mul_lt_succ {i n e : Nat} (h : i < n) : i * e + e ≤ n * e := by
  have := Nat.mul_le_mul_right e (show i + 1 ≤ n from h)
  rw [Nat.add_mul, Nat.one_mul] at this
  exact this
theorem SlO.sl {α : Type} {m : Mem} {esz : Nat} {R : Mem → List Value → α → List Nat → Prop} {R' : Mem → List Value → α → Prop} (hR : ∀ cs x f, R m cs x f → R' m cs x) {v : Value} {l : List α} {fp : List Nat}
    (h : SlO m esz R v l fp) : Sl m esz R' v l := by
  rcases h with ⟨h1, h2, _⟩ | ⟨b, ver, cells, fps, hv, hb, hc, hf, _, hr⟩
  · exact .inl ⟨h1, h2⟩
  · refine .inr ⟨b, 0, ver, hv, fun i x hx => ?_, fun e => ?_⟩
    · have hi := (List.getElem?_eq_some_iff.1 hx).1
      refine ⟨_, hb.loads (by rw [hc]; have := mul_lt_succ (e := esz) hi; omega), ?_⟩
      rw [Nat.zero_add]
      exact hR _ _ _ (hr i x fps[i] hx (List.getElem?_eq_getElem (by omega)))
    · rw [hb.loads (by omega)]; simp
theorem SlO.frame {α : Type} {m m' : Mem} {esz : Nat} {R : Mem → List Value → α → List Nat → Prop} {v : Value} {l : List α} {fp : List Nat} {S : Nat → Prop} (h : SlO m esz R v l fp) (hf : m.frame S m')
    (hs : ∀ b ∈ fp, ¬ S b) (hR : ∀ cs x f, R m cs x f → (∀ b ∈ f, ¬ S b) → R m' cs x f) : SlO m' esz R v l fp := by
  rcases h with h | ⟨b, ver, cells, fps, hv, hb, hc, hl, rfl, hr⟩
  · exact .inl h
  · refine .inr ⟨b, ver, cells, fps, hv, hf.blk (hs b (by simp)) hb, hc, hl, rfl, fun i x f hx hf' => hR _ _ _ (hr i x f hx hf') fun c hc' => hs c ?_⟩
    exact List.mem_cons_of_mem _ (List.mem_flatten.2 ⟨f, List.mem_of_getElem? hf', hc'⟩)
theorem SlO.lt {α : Type} {m : Mem} {esz : Nat} {R : Mem → List Value → α → List Nat → Prop} {v : Value} {l : List α} {fp : List Nat} (h : SlO m esz R v l fp) (hR : ∀ cs x f, R m cs x f → ∀ b ∈ f, b < m.heap.length) :
    ∀ b ∈ fp, b < m.heap.length := by
  rcases h with ⟨_, _, rfl⟩ | ⟨b, ver, cells, fps, hv, hb, hc, hl, rfl, hr⟩
  · simp
  · intro c hc'
    rcases List.mem_cons.1 hc' with rfl | hc'
    · exact hb.lt
    · obtain ⟨f, hf, hcf⟩ := List.mem_flatten.1 hc'
      obtain ⟨i, hi⟩ := List.getElem?_of_mem hf
      have hil := (List.getElem?_eq_some_iff.1 hi).1
      exact hR _ _ _ (hr i l[i] f (List.getElem?_eq_getElem (by omega)) hi) c hcf
def isNodeO (m : Mem) (cs : List Value) (n : PNode) (fp : List Nat) : Prop := ∃ k, cs = [.int .i64 n.kind, .string n.text, .int .i64 n.i, k] ∧ IntsO m k n.kids fp
abbrev NodesO (m : Mem) (v : Value) (l : List PNode) (fp : List Nat) : Prop := SlO m 4 isNodeO v l fp
theorem isNodeO.node {m : Mem} {cs : List Value} {n : PNode} {fp : List Nat} (h : isNodeO m cs n fp) : isNode m cs n := let ⟨k, h1, h2⟩ := h; ⟨k, h1, h2.ints⟩
theorem isNodeO.frame {m m' : Mem} {cs : List Value} {n : PNode} {fp : List Nat} {S : Nat → Prop} (h : isNodeO m cs n fp) (hf : m.frame S m') (hs : ∀ b ∈ fp, ¬ S b) : isNodeO m' cs n fp :=
  let ⟨k, h1, h2⟩ := h; ⟨k, h1, h2.frame hf hs⟩
theorem isNodeO.lt {m : Mem} {cs : List Value} {n : PNode} {fp : List Nat} (h : isNodeO m cs n fp) : ∀ b ∈ fp, b < m.heap.length := let ⟨_, _, h2⟩ := h; h2.lt
theorem NodesO.nodes {m : Mem} {v : Value} {l : List PNode} {fp : List Nat} (h : NodesO m v l fp) : Nodes m v l := SlO.sl (fun _ _ _ h => h.node) h
theorem NodesO.frame {m m' : Mem} {v : Value} {l : List PNode} {fp : List Nat} {S : Nat → Prop} (h : NodesO m v l fp) (hf : m.frame S m') (hs : ∀ b ∈ fp, ¬ S b) : NodesO m' v l fp :=
  SlO.frame h hf hs fun _ _ _ h hs => h.frame hf hs
theorem NodesO.lt {m : Mem} {v : Value} {l : List PNode} {fp : List Nat} (h : NodesO m v l fp) : ∀ b ∈ fp, b < m.heap.length := SlO.lt h fun _ _ _ h => h.lt
theorem toIntS_c' {l : List Int} {v : Value} {m : Mem} (hl : l.length < 2 ^ 40) (h : Ints m v l) :
    ACalls Try.prog 38 [v] m (fun r m' => m.le m' ∧ ∃ fp, IntsO m' r l fp ∧ fp.Nodup ∧ ∀ b ∈ fp, m.heap.length ≤ b) := by
  refine (toIntS_c hl h).mono ?_
  rintro r m' ⟨rfl, rfl⟩
  exact ⟨Mem.le_push _ _, [m.heap.length], .inr ⟨_, _, rfl, Mem.push_blk _ _, rfl⟩, by simp, by simp⟩
theorem toNode_c {n : PNode} {cs : List Value} {m : Mem} (hl : n.kids.length < 2 ^ 40) (h : isNode m cs n) :
    ACalls Try.prog 78 [.agg cs.toArray] m (fun r m' => m.le m' ∧ ∃ cs' fp, r = .agg cs'.toArray ∧ isNodeO m' cs' n fp ∧ fp.Nodup ∧ ∀ b ∈ fp, m.heap.length ≤ b) := by
  obtain ⟨k, rfl, hk⟩ := h
  refine acalls_of Try.func78 s78 ?_
  simp only [A78, hk.okC, push_cast, Nat.reduceAdd, Nat.reduceMul, Nat.reduceLT, Nat.reduceLeDiff, Int.reduceEq, Nat.reduceEqDiff, reduceCtorEq]
  refine (toIntS_c' hl (hk.ext _)).mono ?_
  rintro r m' ⟨hle, fp, hr, hn, hb⟩
  obtain ⟨m2, hle2, rfl⟩ := Mem.le_ext hle
  have hr : IntsO m2 r n.kids fp := hr
  rw [← hle2.stk]
  ((try refine hold_top ?_); (try simp only [hr.ints.cells, hr.ints.okC, push_cast, Nat.reduceAdd, Nat.reduceMul, Nat.reduceLT, Nat.reduceLeDiff, Int.reduceEq, Nat.reduceEqDiff, reduceCtorEq]); (try (refine hold_top ?_; simp only [hr.ints.cells, hr.ints.okC, push_cast, Nat.reduceAdd, Nat.reduceMul, Nat.reduceLT, Nat.reduceLeDiff, Int.reduceEq, Nat.reduceEqDiff, reduceCtorEq])))
  exact ⟨hle2, _, fp, rfl, ⟨r, rfl, hr⟩, hn, hb⟩
theorem drop_take_splice_ne {cells vs : List Value} {i j e : Nat} (h : i * e + vs.length ≤ cells.length) (hv : vs.length = e) (hij : j ≠ i) : ((splice cells (i * e) vs).drop (j * e)).take e = (cells.drop (j * e)).take e := by
  apply List.ext_getElem?
  intro k
  rw [List.getElem?_take, List.getElem?_take]
  split
  · rename_i hk
    rw [List.getElem?_drop, List.getElem?_drop, splice_at h, if_neg]
    rintro ⟨h1, h2⟩
    rcases Nat.lt_or_gt_of_ne hij with hlt | hgt
    · have := mul_lt_succ (e := e) hlt; omega
    · have := mul_lt_succ (e := e) hgt; omega
  · rfl
theorem drop_take_splice {cells vs : List Value} {i e : Nat} (h : i * e + vs.length ≤ cells.length) (hv : vs.length = e) : ((splice cells (i * e) vs).drop (i * e)).take e = vs := by
  apply List.ext_getElem?
  intro k
  rw [List.getElem?_take]
  split
  · rename_i hk
    rw [List.getElem?_drop, splice_at h, if_pos (by omega)]
    congr 1; omega
  · rename_i hk
    rw [List.getElem?_eq_none (by omega)]
theorem isNodeO.len {m : Mem} {cs : List Value} {n : PNode} {fp : List Nat} (h : isNodeO m cs n fp) : cs.length = 4 := by obtain ⟨k, rfl, _⟩ := h; rfl
theorem isNodeO.ok {m : Mem} {cs : List Value} {n : PNode} {fp : List Nat} (h : isNodeO m cs n fp) : cs.all (okC 0) = true := by
  obtain ⟨k, rfl, h⟩ := h
  simp [h.ints.okC, okC_i, okC_s]
theorem toNodeS_c {l : List PNode} {v : Value} {m : Mem} (hl : nodesSize l < 2 ^ 40) (h : Nodes m v l) :
    ACalls Try.prog 37 [v] m (fun r m' => m.le m' ∧ ∃ fp, NodesO m' r l fp ∧ fp.Nodup ∧ ∀ b ∈ fp, m.heap.length ≤ b) := by
  unfold nodesSize at hl
  refine acalls_of Try.func37 s37 ?_
  have hs := Sl.lenW h
  simp only [A37, hs, hs, hs, push_cast, Nat.reduceAdd, Nat.reduceMul, Nat.reduceLT, Nat.reduceLeDiff, Int.reduceEq, Nat.reduceEqDiff, reduceCtorEq]
  refine andW_i (by omega) ?_
  ((try refine hold_top ?_); (try simp only [Int.toNat_natCast, hs, hs, push_cast, Nat.reduceAdd, Nat.reduceMul, Nat.reduceLT, Nat.reduceLeDiff, Int.reduceEq, Nat.reduceEqDiff, reduceCtorEq]); (try (refine hold_top ?_; simp only [Int.toNat_natCast, hs, hs, push_cast, Nat.reduceAdd, Nat.reduceMul, Nat.reduceLT, Nat.reduceLeDiff, Int.reduceEq, Nat.reduceEqDiff, reduceCtorEq])))
  refine loopS_rule (σ := Int) (fun s g => E37_0 v (.slice (some ⟨m.heap.length, 0, some 0⟩) l.length 4) (.int .i64 s) g)
    (fun s m' => 0 ≤ s ∧ s ≤ l.length ∧ m.le m' ∧ ∃ (cells : List Value) (fps : List (List Nat)), m'.blk m.heap.length 0 cells ∧ cells.length = l.length * 4 ∧ fps.length = s.toNat ∧ fps.flatten.Nodup ∧ (∀ b ∈ fps.flatten, m.heap.length < b ∧ b < m'.heap.length) ∧
      ∀ i x f, l[i]? = some x → fps[i]? = some f → isNodeO m' ((cells.drop (i * 4)).take 4) x f) (fun s => l.length - s.toNat) 0 rfl ?_ ?_
  · refine ⟨by simp, by simp, Mem.le_push _ _, _, [], Mem.push_blk _ _, ?_, rfl, by simp, by simp, by simp⟩
    simp
  rintro i g m' ⟨hi0, hi, hle, cells, fps, hblk, hcl, hfl, hnd, hfr, hnode⟩
  obtain ⟨i, rfl⟩ := Int.eq_ofNat_of_zero_le hi0
  rw [Int.toNat_natCast] at hfl
  have h' := h.mono hle
  simp only [E37_0, hs, hs, hs, push_cast, Nat.reduceAdd, Nat.reduceMul, Nat.reduceLT, Nat.reduceLeDiff, Int.reduceEq, Nat.reduceEqDiff, reduceCtorEq]
  refine ite_h (fun hlt => ?_) fun hge => ?_
  · ((try refine hold_top ?_); (try simp only [hs, hs, push_cast, Nat.reduceAdd, Nat.reduceMul, Nat.reduceLT, Nat.reduceLeDiff, Int.reduceEq, Nat.reduceEqDiff, reduceCtorEq]); (try (refine hold_top ?_; simp only [hs, hs, push_cast, Nat.reduceAdd, Nat.reduceMul, Nat.reduceLT, Nat.reduceLeDiff, Int.reduceEq, Nat.reduceEqDiff, reduceCtorEq])))
    have hil : i < l.length := by omega
    obtain ⟨b, off, ver, cs, rfl, hld, hr, hcsl, _⟩ := Sl.get h' hil
    have hwi : IntKind.i64.wrap ((i : Int) + 1) = (i : Int) + 1 := w64_id (by omega) (by omega)
    have hti : ((i : Int) + 1).toNat = i + 1 := by omega
    have hsz := sumTo_le PNode.size l (i + 1)
    rw [sumTo_succ _ _ _ hil] at hsz
    ((try refine hold_top ?_); (try simp only [Int.toNat_natCast, hld, hs, hs, Int.toNat_natCast, hld, hwi, push_cast, Nat.reduceAdd, Nat.reduceMul, Nat.reduceLT, Nat.reduceLeDiff, Int.reduceEq, Nat.reduceEqDiff, reduceCtorEq]); (try (refine hold_top ?_; simp only [Int.toNat_natCast, hld, hs, hs, Int.toNat_natCast, hld, hwi, push_cast, Nat.reduceAdd, Nat.reduceMul, Nat.reduceLT, Nat.reduceLeDiff, Int.reduceEq, Nat.reduceEqDiff, reduceCtorEq])))
    refine andW_i (by omega) ?_
    ((try refine hold_top ?_); (try simp only [Int.toNat_natCast, hld, hs, hs, Int.toNat_natCast, hld, hwi, push_cast, Nat.reduceAdd, Nat.reduceMul, Nat.reduceLT, Nat.reduceLeDiff, Int.reduceEq, Nat.reduceEqDiff, reduceCtorEq]); (try (refine hold_top ?_; simp only [Int.toNat_natCast, hld, hs, hs, Int.toNat_natCast, hld, hwi, push_cast, Nat.reduceAdd, Nat.reduceMul, Nat.reduceLT, Nat.reduceLeDiff, Int.reduceEq, Nat.reduceEqDiff, reduceCtorEq])))
    refine (toNode_c (by have : l[i].size = l[i].text.size + l[i].kids.length := rfl; omega) hr).mono ?_
    rintro r m2 ⟨hle2, cs', fp, rfl, hn, hnn, hfp⟩
    have hlen' := hn.len
    have hb2 := hblk.le hle2
    have hmul := mul_lt_succ (e := 4) hil
    ((try refine hold_top ?_); (try simp only [Int.toNat_natCast, hwi, hs, hs, Int.toNat_natCast, hld, hwi, push_cast, Nat.reduceAdd, Nat.reduceMul, Nat.reduceLT, Nat.reduceLeDiff, Int.reduceEq, Nat.reduceEqDiff, reduceCtorEq]); (try (refine hold_top ?_; simp only [Int.toNat_natCast, hwi, hs, hs, Int.toNat_natCast, hld, hwi, push_cast, Nat.reduceAdd, Nat.reduceMul, Nat.reduceLT, Nat.reduceLeDiff, Int.reduceEq, Nat.reduceEqDiff, reduceCtorEq])))
    refine andW_i (by omega) ?_
    have hst := hb2.stores (o := i * 4) cs' (by omega) hn.ok (by intro e; rw [e] at hlen'; simp at hlen')
    ((try refine hold_top ?_); (try simp only [hs, hs, Int.toNat_natCast, hld, hwi, hst, hlen', push_cast, Nat.reduceAdd, Nat.reduceMul, Nat.reduceLT, Nat.reduceLeDiff, Int.reduceEq, Nat.reduceEqDiff, reduceCtorEq]); (try (refine hold_top ?_; simp only [hs, hs, Int.toNat_natCast, hld, hwi, hst, hlen', push_cast, Nat.reduceAdd, Nat.reduceMul, Nat.reduceLT, Nat.reduceLeDiff, Int.reduceEq, Nat.reduceEqDiff, reduceCtorEq])))
    have hsl := splice_len (cells := cells) (vs := cs') (o := i * 4) (by omega)
    refine ⟨(i : Int) + 1, rfl, by omega, by omega, by omega, (hle.trans hle2).put (Nat.le_refl _), splice cells (i * 4) cs', fps ++ [fp], Mem.put_same hb2, by omega, by simp [hfl, hti], ?_, ?_, ?_⟩
    · rw [List.flatten_append, List.nodup_append]
      refine ⟨hnd, by simpa using hnn, fun a ha b hb e => ?_⟩
      subst e
      have h1 := (hfr a ha).2
      have h2 := hfp a (by simpa using hb)
      omega
    · intro b hb
      rw [Mem.put_len]
      simp only [List.flatten_append, List.mem_append] at hb
      rcases hb with hb | hb
      · exact ⟨(hfr b hb).1, Nat.lt_of_lt_of_le (hfr b hb).2 hle2.len⟩
      · have hb : b ∈ fp := by simpa using hb
        have := hfp b hb
        exact ⟨by have := hblk.lt; omega, hn.lt b hb⟩
    · intro j x f hx hf
      rw [List.getElem?_append] at hf
      split at hf
      · rename_i hj
        rw [drop_take_splice_ne (by omega) hlen' (by omega)]
        refine ((hnode j x f hx hf).frame (hle2.frame fun _ => False) (fun _ _ e => e)).frame (S := (· = m.heap.length)) (Mem.frame.put rfl) fun b hb e => ?_
        have := (hfr b (List.mem_flatten.2 ⟨f, List.mem_of_getElem? hf, hb⟩)).1
        omega
      · rename_i hj
        have hji : j = i := by
          rcases Nat.lt_or_ge i j with hlt' | hge'
          · rw [List.getElem?_eq_none (by simp; omega)] at hf; cases hf
          · omega
        subst hji
        simp only [hfl, Nat.sub_self, List.getElem?_cons_zero, Option.some.injEq] at hf
        subst hf
        rw [List.getElem?_eq_getElem hil] at hx
        cases hx
        rw [drop_take_splice (by omega) hlen']
        refine hn.frame (S := (· = m.heap.length)) (Mem.frame.put rfl) fun b hb e => ?_
        have := hfp b hb
        have := hblk.lt
        omega
  · ((try refine hold_top ?_); (try simp only [hs, hs, push_cast, Nat.reduceAdd, Nat.reduceMul, Nat.reduceLT, Nat.reduceLeDiff, Int.reduceEq, Nat.reduceEqDiff, reduceCtorEq]); (try (refine hold_top ?_; simp only [hs, hs, push_cast, Nat.reduceAdd, Nat.reduceMul, Nat.reduceLT, Nat.reduceLeDiff, Int.reduceEq, Nat.reduceEqDiff, reduceCtorEq])))
    rw [hle.pop_same]
    have hi' : i = l.length := by omega
    subst hi'
    refine ⟨hle, _, .inr ⟨_, _, cells, fps, rfl, hblk, hcl, hfl, rfl, hnode⟩, ?_, ?_⟩
    · rw [List.nodup_cons]
      exact ⟨fun hb => by have := (hfr _ hb).1; omega, hnd⟩
    · intro b hb
      rcases List.mem_cons.1 hb with rfl | hb
      · exact Nat.le_refl _
      · exact Nat.le_of_lt (hfr b hb).1
def isTreeO (m : Mem) (cs : List Value) (t : PTree) (fp : List Nat) : Prop := ∃ a b f g, cs = [a, b] ∧ NodesO m a t.nodes f ∧ IntsO m b t.tops g ∧ fp = f ++ g
theorem isTreeO.tree {m : Mem} {cs : List Value} {t : PTree} {fp : List Nat} (h : isTreeO m cs t fp) : isTree m cs t := by
  obtain ⟨a, b, f, g, h1, h2, h3, _⟩ := h
  exact ⟨a, b, h1, h2.nodes, h3.ints⟩
theorem isTreeO.frame {m m' : Mem} {cs : List Value} {t : PTree} {fp : List Nat} {S : Nat → Prop} (h : isTreeO m cs t fp) (hf : m.frame S m') (hs : ∀ b ∈ fp, ¬ S b) : isTreeO m' cs t fp := by
  obtain ⟨a, b, f, g, h1, h2, h3, rfl⟩ := h
  exact ⟨a, b, f, g, h1, h2.frame hf fun b hb => hs b (List.mem_append_left _ hb), h3.frame hf fun b hb => hs b (List.mem_append_right _ hb), rfl⟩
theorem isTreeO.lt {m : Mem} {cs : List Value} {t : PTree} {fp : List Nat} (h : isTreeO m cs t fp) : ∀ b ∈ fp, b < m.heap.length := by
  obtain ⟨a, b, f, g, h1, h2, h3, rfl⟩ := h
  intro c hc
  rcases List.mem_append.1 hc with hc | hc
  · exact h2.lt c hc
  · exact h3.lt c hc
theorem toTree_c {t : PTree} {cs : List Value} {m : Mem} (hl : t.size < 2 ^ 40) (h : isTree m cs t) :
    ACalls Try.prog 13 [.agg cs.toArray] m (fun r m' => m.le m' ∧ ∃ cs' fp, r = .agg cs'.toArray ∧ isTreeO m' cs' t fp ∧ fp.Nodup ∧ ∀ b ∈ fp, m.heap.length ≤ b) := by
  obtain ⟨a, b, rfl, ha, hb⟩ := h
  unfold PTree.size at hl
  refine acalls_of Try.func13 s13 ?_
  simp only [A13, ha.okC, hb.okC, push_cast, Nat.reduceAdd, Nat.reduceMul, Nat.reduceLT, Nat.reduceLeDiff, Int.reduceEq, Nat.reduceEqDiff, reduceCtorEq]
  refine (toNodeS_c (by omega) (ha.ext _)).mono ?_
  rintro r m' ⟨hle, fp, hr, hn, hfr⟩
  obtain ⟨m2, hle2, rfl⟩ := Mem.le_ext hle
  have hr : NodesO m2 r t.nodes fp := hr
  rw [← hle2.stk]
  ((try refine hold_top ?_); (try simp only [hr.nodes.cells, hr.nodes.okC, push_cast, Nat.reduceAdd, Nat.reduceMul, Nat.reduceLT, Nat.reduceLeDiff, Int.reduceEq, Nat.reduceEqDiff, reduceCtorEq]); (try (refine hold_top ?_; simp only [hr.nodes.cells, hr.nodes.okC, push_cast, Nat.reduceAdd, Nat.reduceMul, Nat.reduceLT, Nat.reduceLeDiff, Int.reduceEq, Nat.reduceEqDiff, reduceCtorEq])))
  refine (toIntS_c' (by omega) ((hb.mono hle2).ext _)).mono ?_
  rintro r2 m' ⟨hle', fp2, hr2, hn2, hfr2⟩
  obtain ⟨m3, hle3, rfl⟩ := Mem.le_ext hle'
  have hr2 : IntsO m3 r2 t.tops fp2 := hr2
  rw [← hle3.stk]
  ((try refine hold_top ?_); (try simp only [hr2.ints.cells, hr2.ints.okC, hr.nodes.okC, push_cast, Nat.reduceAdd, Nat.reduceMul, Nat.reduceLT, Nat.reduceLeDiff, Int.reduceEq, Nat.reduceEqDiff, reduceCtorEq]); (try (refine hold_top ?_; simp only [hr2.ints.cells, hr2.ints.okC, hr.nodes.okC, push_cast, Nat.reduceAdd, Nat.reduceMul, Nat.reduceLT, Nat.reduceLeDiff, Int.reduceEq, Nat.reduceEqDiff, reduceCtorEq])))
  rw [Mem.ext_heap] at hfr hfr2
  refine ⟨hle2.trans hle3, _, fp ++ fp2, rfl, ⟨r, r2, fp, fp2, rfl, hr.frame (hle3.frame fun _ => False) (fun _ _ e => e), hr2, rfl⟩, ?_, ?_⟩
  · rw [List.nodup_append]
    refine ⟨hn, hn2, fun a ha b hb e => ?_⟩
    have := hr.lt a ha
    have := hfr2 b hb
    omega
  · intro b hb
    rcases List.mem_append.1 hb with hb | hb
    · exact hfr b hb
    · exact Nat.le_trans hle2.len (hfr2 b hb)
end Go.AM
