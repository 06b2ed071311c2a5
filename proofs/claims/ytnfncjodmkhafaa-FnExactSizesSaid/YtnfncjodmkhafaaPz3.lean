/-
  Plain laws: the two ways to tell that a tree is right agree, and the two ways to tell sizes.
-/
import Derived.Test.YtnfncjodmkhafaaPz2
import Derived.Test.YtnfncjodmkhafaaTsz
set_option linter.all false
set_option linter.unusedSimpArgs false
set_option linter.unusedVariables false
namespace Go.AM
theorem fitK_cons {t : PTree} {k c : Int} {ks cs : List Int} : fitK t (k :: ks) (c :: cs) = (rightP c (nd t.nodes k).kind && fitK t ks cs) := rfl
theorem nodeOk_def {t : PTree} {i : Int} : nodeOkP t i = ((nd t.nodes i).kids.all (fun k => decide (0 ≤ k) && decide (k ≤ i - 1)) && textOkP (nd t.nodes i) && numberOkP (nd t.nodes i) && bodyP t (nd t.nodes i)) := rfl
/-- What fits is right, numbered as it should be. -/
theorem kids_fit {t : PTree} {d : Nat} {i : Int} (ih : ∀ {k cl nx : Int} {s : List Bool} {q : Int × List Bool}, fitsP t d k cl nx s = some q → nx ≤ k ∧ (∀ j, nx ≤ j → j ≤ k → nodeOkP t j = true) ∧ numbP t d k nx = k + 1 ∧ rightP cl (nd t.nodes k).kind = true) :
    ∀ {kids cs : List Int} {nx : Int} {s : List Bool} {q : Int × List Bool}, fitsKids (fitsP t d) i kids cs nx s = some q →
      nx ≤ q.1 ∧ (∀ j, nx ≤ j → j < q.1 → nodeOkP t j = true) ∧ overP (numbP t d) kids nx = q.1 ∧ fitK t kids cs = true ∧ (∀ k ∈ kids, 0 ≤ k ∧ k ≤ i - 1) := by
  intro kids
  induction kids with
  | nil => intro cs nx s q h; cases h; exact ⟨Int.le_refl _, fun j h1 h2 => by omega, rfl, by simp [fitK], by simp⟩
  | cons k ks ihk =>
    intro cs nx s q h
    cases cs with
    | nil => cases h
    | cons c cs =>
      simp only [fitsKids] at h
      split at h
      · cases h
      · rename_i hik
        rw [Option.bind_eq_some_iff] at h
        obtain ⟨p, h1, h2⟩ := h
        obtain ⟨a1, a2, a3, a4⟩ := ih h1
        obtain ⟨b1, b2, b3⟩ := fitsP_bound h1
        obtain ⟨c1, c2, c3, c4, c5⟩ := ihk h2
        refine ⟨by omega, fun j h1 h2 => ?_, ?_, ?_, ?_⟩
        · by_cases hj : j ≤ k
          · exact a2 j h1 hj
          · exact c2 j (by omega) h2
        · simp only [overP]
          rw [a3, if_neg (by omega), ← b1]; exact c3
        · rw [fitK_cons, a4, c4]; rfl
        · intro x hx
          rcases List.mem_cons.1 hx with rfl | hx
          · omega
          · exact c5 x hx
theorem fits_right {t : PTree} : ∀ {d : Nat} {i cl nx : Int} {s : List Bool} {q : Int × List Bool}, fitsP t d i cl nx s = some q → nx ≤ i ∧ (∀ j, nx ≤ j → j ≤ i → nodeOkP t j = true) ∧ numbP t d i nx = i + 1 ∧ rightP cl (nd t.nodes i).kind = true := by
  intro d
  induction d with
  | zero => intro i cl nx s q h; cases h
  | succ d ih =>
    intro i cl nx s q h
    simp only [fitsP] at h
    split at h
    · rename_i h1
      split at h
      · rename_i h2
        rw [Option.bind_eq_some_iff] at h
        obtain ⟨p, h3, h4⟩ := h
        split at h4
        · rename_i h5
          obtain ⟨a1, a2, a3, a4, a5⟩ := kids_fit ih h3
          simp only [Bool.and_eq_true, decide_eq_true_eq] at h2
          obtain ⟨h6, h7, h8⟩ := h2
          refine ⟨by omega, fun j hj1 hj2 => ?_, ?_, h6⟩
          · by_cases hj : j = i
            · subst hj
              rw [nodeOk_def, body_shape, a4, decide_eq_true (right_kind h6), decide_eq_true h7]
              rw [has_same, Bool.and_eq_true] at h8
              rw [h8.1, h8.2]
              simp
              intro k hk
              have := a5 k hk
              omega
            · exact a2 j hj1 (by omega)
          · simp only [numbP]
            rw [a3, if_neg (by omega), if_pos (by omega)]
        · cases h4
      · cases h
    · cases h
theorem overP_ge {f : Int → Int → Int} (hf : ∀ k x, f k x < 0 ∨ x < f k x) : ∀ (l : List Int) (x : Int), overP f l x < 0 ∨ x ≤ overP f l x := by
  intro l
  induction l with
  | nil => intro x; exact .inr (Int.le_refl _)
  | cons k l ih =>
    intro x
    simp only [overP]
    split
    · exact .inl (by omega)
    · rcases hf k x with h | h
      · omega
      · rcases ih (f k x) with h2 | h2
        · exact .inl h2
        · exact .inr (by omega)
theorem numbP_gt {t : PTree} : ∀ (d : Nat) (i x : Int), numbP t d i x < 0 ∨ x < numbP t d i x := by
  intro d
  induction d with
  | zero => intro i x; exact .inl (by simp [numbP])
  | succ d ih =>
    intro i x
    simp only [numbP]
    split
    · exact .inl (by omega)
    · split
      · rename_i h1 h2
        rcases overP_ge ih (nd t.nodes i).kids x with h | h
        · omega
        · exact .inr (by omega)
      · exact .inl (by omega)
theorem getD_set_ne {l : List Bool} {i j : Nat} (h : i ≠ j) : (l.set i true).getD j false = l.getD j false := by
  simp [List.getD_eq_getElem?_getD, List.getElem?_set, h]
/-- What is right fits. -/
theorem kids_right {t : PTree} {d : Nat} {i : Int} (hi : 0 ≤ i)
    (ih : ∀ {k cl nx : Int} {s : List Bool}, 0 ≤ k → k < t.nodes.length → k < d → 0 ≤ nx → numbP t d k nx = k + 1 → rightP cl (nd t.nodes k).kind = true → s.length = t.nodes.length → (∀ j, nx ≤ j → j ≤ k → s.getD j.toNat false = false) →
      ∃ s', fitsP t d k cl nx s = some (k + 1, s') ∧ s'.length = t.nodes.length ∧ ∀ j, 0 ≤ j → (j < nx ∨ k < j) → s'.getD j.toNat false = s.getD j.toNat false) :
    ∀ {kids cs : List Int} {nx : Int} {s : List Bool}, i ≤ t.nodes.length → i ≤ d → 0 ≤ nx → kids.length = cs.length → fitK t kids cs = true → (∀ k ∈ kids, 0 ≤ k ∧ k ≤ i - 1) → s.length = t.nodes.length → overP (numbP t d) kids nx = i → (∀ j, nx ≤ j → j < i → s.getD j.toNat false = false) →
      ∃ s', fitsKids (fitsP t d) i kids cs nx s = some (i, s') ∧ s'.length = t.nodes.length ∧ ∀ j, 0 ≤ j → (j < nx ∨ i ≤ j) → s'.getD j.toNat false = s.getD j.toNat false := by
  intro kids
  induction kids with
  | nil =>
    intro cs nx s h1 h2 h3 h4 h5 h6 h7 h8 h9
    cases cs with
    | nil => simp only [overP] at h8; subst h8; exact ⟨s, rfl, h7, fun _ _ _ => rfl⟩
    | cons c cs => simp at h4
  | cons k ks ihk =>
    intro cs nx s h1 h2 h3 h4 h5 h6 h7 h8 h9
    cases cs with
    | nil => simp at h4
    | cons c cs =>
      rw [fitK_cons, Bool.and_eq_true] at h5
      have hk := h6 k (List.mem_cons_self ..)
      simp only [overP] at h8
      split at h8
      · omega
      · rename_i hneg
        have hnk : numbP t d k nx = k + 1 := by
          rcases numbP_cases (t := t) (d := d) (i := k) (x := nx) with e | e
          · omega
          · exact e
        have hnxk : nx ≤ k := by have := numbP_gt (t := t) d k nx; rw [hnk] at this; omega
        obtain ⟨s1, e1, e2, e3⟩ := ih (cl := c) (s := s) hk.1 (by omega) (by omega) h3 hnk h5.1 h7 (fun j hj1 hj2 => h9 j hj1 (by omega))
        rw [hnk] at h8
        obtain ⟨s2, f1, f2, f3⟩ := ihk (cs := cs) (nx := k + 1) (s := s1) h1 h2 (by omega) (by simpa using h4) h5.2 (fun x hx => h6 x (List.mem_cons_of_mem _ hx)) e2 h8 (fun j hj1 hj2 => by
          rw [e3 j (by omega) (.inr (by omega))]
          exact h9 j (by omega) hj2)
        refine ⟨s2, ?_, f2, fun j hj hor => ?_⟩
        · simp only [fitsKids]
          rw [if_neg (by omega), e1]
          exact f1
        · rw [f3 j hj (by omega)]
          exact e3 j hj (by omega)
theorem right_fits {t : PTree} (hall : ∀ j : Int, 0 ≤ j → j < t.nodes.length → nodeOkP t j = true) : ∀ {d : Nat} {k cl nx : Int} {s : List Bool}, 0 ≤ k → k < t.nodes.length → k < d → 0 ≤ nx → numbP t d k nx = k + 1 → rightP cl (nd t.nodes k).kind = true → s.length = t.nodes.length → (∀ j, nx ≤ j → j ≤ k → s.getD j.toNat false = false) →
    ∃ s', fitsP t d k cl nx s = some (k + 1, s') ∧ s'.length = t.nodes.length ∧ ∀ j, 0 ≤ j → (j < nx ∨ k < j) → s'.getD j.toNat false = s.getD j.toNat false := by
  intro d
  induction d with
  | zero => intro k cl nx s h0 _ h1; omega
  | succ d ih =>
    intro k cl nx s h0 h1 h2 h3 h4 h5 h6 h7
    have hn := hall k h0 h1
    rw [nodeOk_def, body_shape] at hn
    simp only [Bool.and_eq_true, decide_eq_true_eq] at hn
    obtain ⟨⟨⟨hr, ht⟩, hnum⟩, hkk, hlen, hfit⟩ := hn
    have hkid : ∀ x ∈ (nd t.nodes k).kids, 0 ≤ x ∧ x ≤ k - 1 := by
      intro x hx
      have := List.all_eq_true.1 hr x hx
      simp at this
      omega
    simp only [numbP] at h4
    split at h4
    · omega
    split at h4
    · rename_i hneg heq
      have hnk : nx ≤ k := by rcases overP_ge (numbP_gt (t := t) d) (nd t.nodes k).kids nx with h | h <;> omega
      obtain ⟨s', e1, e2, e3⟩ := kids_right (t := t) (d := d) (i := k) h0 ih (kids := (nd t.nodes k).kids) (cs := shapeP (nd t.nodes k)) (nx := nx) (s := s.set k.toNat true) (by omega) (by omega) h3 (by omega) hfit hkid (by rw [List.length_set]; exact h6) heq.symm (fun j hj1 hj2 => by
        rw [getD_set_ne (by omega)]; exact h7 j hj1 (by omega))
      refine ⟨s', ?_, e2, fun j hj hor => ?_⟩
      · simp only [fitsP]
        rw [if_pos ⟨⟨h0, by omega⟩, h7 k hnk (Int.le_refl _)⟩, if_pos, e1]
        · simp
        · rw [h5, has_same, ht, hnum, decide_eq_true hlen]; rfl
      · rw [e3 j hj (by omega), getD_set_ne (by omega)]
    · omega
theorem tops_fit {t : PTree} : ∀ {l : List Int} {nx r : Int} {s : List Bool}, topsFits t l nx s = some r → topsP t l nx = r ∧ nx ≤ r ∧ (∀ j, nx ≤ j → j < r → nodeOkP t j = true) := by
  intro l
  induction l with
  | nil => intro nx r s h; cases h; exact ⟨rfl, Int.le_refl _, fun j h1 h2 => by omega⟩
  | cons k l ih =>
    intro nx r s h
    simp only [topsFits, Option.bind_eq_some_iff] at h
    obtain ⟨q, h1, h2⟩ := h
    obtain ⟨a1, a2, a3, a4⟩ := fits_right h1
    obtain ⟨b1, b2, b3⟩ := fitsP_bound h1
    obtain ⟨c1, c2, c3⟩ := ih h2
    have h9 := right_9.1 a4
    refine ⟨?_, by omega, fun j hj1 hj2 => ?_⟩
    · simp only [topsP]
      rw [if_pos ⟨⟨b2, b3⟩, by omega⟩, a3, if_neg (by omega), ← b1]; exact c1
    · by_cases hj : j ≤ k
      · exact a2 j hj1 hj
      · exact c3 j (by omega) hj2
theorem fit_tops {t : PTree} (hall : ∀ j : Int, 0 ≤ j → j < t.nodes.length → nodeOkP t j = true) : ∀ {l : List Int} {nx r : Int} {s : List Bool}, topsP t l nx = r → 0 ≤ r → 0 ≤ nx → s.length = t.nodes.length → (∀ j, nx ≤ j → s.getD j.toNat false = false) → topsFits t l nx s = some r ∧ nx + l.length ≤ r := by
  intro l
  induction l with
  | nil => intro nx r s h _ _ _ _; simp only [topsP] at h; subst h; exact ⟨rfl, by simp⟩
  | cons k l ih =>
    intro nx r s h hr hn hs hf
    simp only [topsP] at h
    split at h
    · rename_i h1
      split at h
      · omega
      · rename_i h2
        have hnk : numbP t (k.toNat + 1) k nx = k + 1 := by
          rcases numbP_cases (t := t) (d := k.toNat + 1) (i := k) (x := nx) with e | e
          · omega
          · exact e
        have hkind : (nd t.nodes k).kind ≤ 34 := by
          have hn := hall k h1.1.1 (by omega)
          rw [nodeOk_def, body_shape] at hn
          simp only [Bool.and_eq_true, decide_eq_true_eq] at hn
          exact hn.2.1.2
        obtain ⟨s1, e1, e2, e3⟩ := right_fits hall (d := k.toNat + 1) (k := k) (cl := 9) (nx := nx) (s := s) h1.1.1 (by omega) (by omega) hn hnk (right_9.2 (by omega)) hs (fun j hj _ => hf j hj)
        have hnxk : nx ≤ k := by have := numbP_gt (t := t) (k.toNat + 1) k nx; rw [hnk] at this; omega
        rw [hnk] at h
        obtain ⟨f1, f2⟩ := ih (s := s1) h hr (by omega) e2 (fun j hj => by rw [e3 j (by omega) (by omega)]; exact hf j (by omega))
        refine ⟨?_, by simp only [List.length_cons]; omega⟩
        simp only [topsFits]
        rw [e1]
        exact f1
    · omega
theorem treeOk_same (t : PTree) : treeOkP t = specTreeOkP t := by
  rw [Bool.eq_iff_iff]
  unfold treeOkP specTreeOkP
  simp only [Bool.and_eq_true, decide_eq_true_eq]
  constructor
  · rintro ⟨h1, h2, h3⟩
    have hall : ∀ j : Int, 0 ≤ j → j < t.nodes.length → nodeOkP t j = true := by
      intro j hj0 hj
      have := List.all_eq_true.1 h2 j.toNat (List.mem_range.2 (by omega))
      rwa [Int.toNat_of_nonneg hj0] at this
    obtain ⟨g1, g2⟩ := fit_tops hall (s := List.replicate t.nodes.length false) h3 (by omega) (by omega) (by simp) (fun j _ => by
      simp [List.getD_eq_getElem?_getD, List.getElem?_replicate]; split <;> rfl)
    exact ⟨⟨h1, by omega⟩, g1⟩
  · rintro ⟨⟨h1, h2⟩, h3⟩
    obtain ⟨g1, g2, g3⟩ := tops_fit h3
    refine ⟨h1, List.all_eq_true.2 fun j hj => ?_, g1⟩
    exact g3 j (by omega) (by have := List.mem_range.1 hj; omega)
/-- Tops rise. -/
def risesP : Int → List Int → Prop
  | _, [] => True
  | x, k :: ks => x ≤ k ∧ risesP (k + 1) ks
theorem tops_rise {t : PTree} : ∀ {l : List Int} {x : Int}, 0 ≤ topsP t l x → risesP x l := by
  intro l
  induction l with
  | nil => intro x _; trivial
  | cons k l ih =>
    intro x h
    simp only [topsP] at h
    split at h
    · split at h
      · omega
      · rename_i h1 h2
        have hnk : numbP t (k.toNat + 1) k x = k + 1 := by
          rcases numbP_cases (t := t) (d := k.toNat + 1) (i := k) (x := x) with e | e
          · omega
          · exact e
        have := numbP_gt (t := t) (k.toNat + 1) k x
        rw [hnk] at this h
        exact ⟨by omega, ih h⟩
    · omega
theorem first_above {k a : Int} : ∀ {l : List Int} {x : Int}, risesP x l → k ≤ x → l.foldl (fun a y => if y < k then y + 1 else a) a = a := by
  intro l
  induction l with
  | nil => intro x _ _; rfl
  | cons y l ih =>
    intro x h hk
    simp only [List.foldl_cons]
    rw [if_neg (by have := h.1; omega)]
    exact ih h.2 (by have := h.1; omega)
theorem rises_split : ∀ {l1 : List Int} {k x : Int} {l2 : List Int}, risesP x (l1 ++ k :: l2) → (∀ y ∈ l1, y < k) ∧ risesP (k + 1) l2 := by
  intro l1
  induction l1 with
  | nil => intro k x l2 h; exact ⟨by simp, h.2⟩
  | cons y l1 ih =>
    intro k x l2 h
    obtain ⟨h1, h2⟩ := ih h.2
    refine ⟨fun z hz => ?_, h2⟩
    rcases List.mem_cons.1 hz with rfl | hz
    · have key : ∀ {l : List Int} {x k : Int} {l2 : List Int}, risesP x (l ++ k :: l2) → x ≤ k := by
        intro l
        induction l with
        | nil => intro x k l2 h; exact h.1
        | cons y l ih => intro x k l2 h; have := ih h.2; have := h.1; omega
      have := key h.2
      omega
    · exact h1 z hz
theorem first_below {k : Int} : ∀ {l : List Int} {a : Int}, (∀ y ∈ l, y < k) → l.foldl (fun a y => if y < k then y + 1 else a) a = (match l.getLast? with | some y => y + 1 | none => a) := by
  intro l
  induction l with
  | nil => intro a _; rfl
  | cons y l ih =>
    intro a h
    simp only [List.foldl_cons]
    rw [if_pos (h y (List.mem_cons_self ..)), ih (fun z hz => h z (List.mem_cons_of_mem _ hz))]
    cases l with
    | nil => rfl
    | cons z l => simp [List.getLast?_cons_cons, List.getLast?_cons]
theorem sizes_steps {tops : List Int} (h : risesP 0 tops) : ∀ (l1 l2 : List Int), tops = l1 ++ l2 → l2.map (fun k => k - firstP tops k + 1) = stepsP (match l1.getLast? with | some y => y | none => -1) l2 := by
  intro l1 l2
  induction l2 generalizing l1 with
  | nil => intro _; rfl
  | cons k l2 ih =>
    intro e
    simp only [List.map_cons, stepsP]
    have hf : firstP tops k = (match l1.getLast? with | some y => y | none => -1) + 1 := by
      rw [e] at h
      obtain ⟨h1, h2⟩ := rises_split h
      unfold firstP
      rw [e, List.foldl_append, List.foldl_cons, if_neg (by omega), first_above h2 (by omega), first_below h1]
      cases l1.getLast? <;> rfl
    rw [hf, ih (l1 ++ [k]) (by rw [e]; simp)]
    simp
    omega
theorem sizes_same (t : PTree) : sizesP t = specSizesP t := by
  unfold sizesP specSizesP
  rw [← treeOk_same]
  split
  · rename_i h
    unfold treeOkP at h
    simp only [Bool.and_eq_true, decide_eq_true_eq] at h
    have hr := tops_rise (t := t) (l := t.tops) (x := 0) (by rw [h.2.2]; omega)
    exact sizes_steps hr [] t.tops rfl
  · rfl
end Go.AM
