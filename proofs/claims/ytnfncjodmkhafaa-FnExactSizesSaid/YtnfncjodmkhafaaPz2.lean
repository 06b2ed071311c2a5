/-
  Plain laws: the two ways to tell that a node is right agree.
-/
import Derived.Test.YtnfncjodmkhafaaPz1
import Derived.Test.YtnfncjodmkhafaaTs5
set_option linter.all false
set_option linter.unusedSimpArgs false
set_option linter.unusedVariables false
namespace Go.AM
theorem right_1 {k : Int} : rightP 1 k = isExprP k := by
  unfold rightP classP isExprP
  rw [if_neg (by omega)]
  repeat' split
  all_goals first | rfl | (rw [Bool.eq_iff_iff]; simp; done) | (rw [Bool.eq_iff_iff]; simp; omega)
theorem right_2 {k : Int} : rightP 2 k = isStatementP k := by
  unfold rightP classP isStatementP
  rw [if_neg (by omega)]
  repeat' split
  all_goals first | rfl | (rw [Bool.eq_iff_iff]; simp; done) | (rw [Bool.eq_iff_iff]; simp; omega)
theorem right_3 {k : Int} : rightP 3 k = justP 27 k := by
  unfold rightP classP justP
  repeat' split
  all_goals first | rfl | (rw [Bool.eq_iff_iff]; simp; done) | (rw [Bool.eq_iff_iff]; simp; omega)
theorem right_4 {k : Int} : rightP 4 k = justP 29 k := by
  unfold rightP classP justP
  repeat' split
  all_goals first | rfl | (rw [Bool.eq_iff_iff]; simp; done) | (rw [Bool.eq_iff_iff]; simp; omega)
theorem right_5 {k : Int} : rightP 5 k = justP 30 k := by
  unfold rightP classP justP
  repeat' split
  all_goals first | rfl | (rw [Bool.eq_iff_iff]; simp; done) | (rw [Bool.eq_iff_iff]; simp; omega)
theorem right_6 {k : Int} : rightP 6 k = justP 31 k := by
  unfold rightP classP justP
  repeat' split
  all_goals first | rfl | (rw [Bool.eq_iff_iff]; simp; done) | (rw [Bool.eq_iff_iff]; simp; omega)
theorem right_7 {k : Int} : rightP 7 k = justP 32 k := by
  unfold rightP classP justP
  repeat' split
  all_goals first | rfl | (rw [Bool.eq_iff_iff]; simp; done) | (rw [Bool.eq_iff_iff]; simp; omega)
theorem right_8 {k : Int} : rightP 8 k = justP 28 k := by
  unfold rightP classP justP
  repeat' split
  all_goals first | rfl | (rw [Bool.eq_iff_iff]; simp; done) | (rw [Bool.eq_iff_iff]; simp; omega)
theorem right_10 {k : Int} : rightP 10 k = justP 7 k := by
  unfold rightP classP justP
  repeat' split
  all_goals first | rfl | (rw [Bool.eq_iff_iff]; simp; done) | (rw [Bool.eq_iff_iff]; simp; omega)
theorem right_9 {k : Int} : rightP 9 k = true ↔ k = 33 ∨ k = 34 := by
  unfold rightP classP
  rw [if_neg (by omega)]
  repeat' split
  all_goals simp
  all_goals (try omega)
theorem right_kind {c k : Int} (h : rightP c k = true) : 1 ≤ k ∧ k ≤ 34 := by
  unfold rightP at h
  split at h
  · simp at h; omega
  · simp only [Bool.and_eq_true, decide_eq_true_eq] at h
    obtain ⟨h1, h2⟩ := h
    unfold classP at h1
    repeat' split at h1
    all_goals omega
/-- The kids are of the kinds that a shape tells. -/
def fitK (t : PTree) (kids shape : List Int) : Bool := (kids.zip shape).all fun q => rightP q.2 (nd t.nodes q.1).kind
theorem zip_map_all {t : PTree} {ps : List (Int → Bool)} : ∀ {kids cs : List Int}, ps = cs.map rightP → (kids.zip ps).all (fun q => q.2 (nd t.nodes q.1).kind) = fitK t kids cs := by
  intro kids cs h
  subst h
  unfold fitK
  induction kids generalizing cs with
  | nil => rfl
  | cons k ks ih =>
    cases cs with
    | nil => rfl
    | cons c cs => simp only [List.map_cons, List.zip_cons_cons, List.all_cons]; rw [ih]
theorem kidsAre_ok {t : PTree} {kids cs : List Int} {ps : List (Int → Bool)} (h : ps = cs.map rightP) : kidsAreP t kids ps = (decide ((cs.length : Int) = kids.length) && fitK t kids cs) := by
  unfold kidsAreP
  rw [zip_map_all h, h]
  congr 1
  apply decide_eq_decide.2
  simp
  omega
theorem areP_ok {t : PTree} {kids : List Int} {c : Int} {p : Int → Bool} (h : ∀ k, p k = rightP c k) {n : Nat} (hn : kids.length = n) : areP t kids p = fitK t kids (List.replicate n c) := by
  subst hn
  unfold areP fitK
  induction kids with
  | nil => rfl
  | cons k ks ih => simp only [List.length_cons, List.replicate_succ, List.zip_cons_cons, List.all_cons]; rw [ih, h]
def bodyP (t : PTree) (n : PNode) : Bool := if isExprP n.kind = true then exprOkP t n else if isStatementP n.kind = true then statementOkP t n else otherOkP t n
theorem r1e : isExprP = rightP 1 := by funext k; exact right_1.symm
theorem r2e : isStatementP = rightP 2 := by funext k; exact right_2.symm
theorem r3e : justP 27 = rightP 3 := by funext k; exact right_3.symm
theorem r4e : justP 29 = rightP 4 := by funext k; exact right_4.symm
theorem r5e : justP 30 = rightP 5 := by funext k; exact right_5.symm
theorem r6e : justP 31 = rightP 6 := by funext k; exact right_6.symm
theorem r7e : justP 32 = rightP 7 := by funext k; exact right_7.symm
theorem r8e : justP 28 = rightP 8 := by funext k; exact right_8.symm
theorem r10e : justP 7 = rightP 10 := by funext k; exact right_10.symm
theorem fitK_nil {t : PTree} {kids : List Int} : fitK t kids [] = true := by unfold fitK; simp
theorem len0 {n : Nat} : decide ((n : Int) = 0) = decide (((([] : List Int).length : Nat) : Int) = n) := by
  apply decide_eq_decide.2; simp; omega
def BodyOk (t : PTree) (n : PNode) : Prop := bodyP t n = (decide (((shapeP n).length : Int) = n.kids.length) && fitK t n.kids (shapeP n))
theorem body_1 {t : PTree} {n : PNode} (h : n.kind = 1) : BodyOk t n := by
  have hb : bodyP t n = decide ((n.kids.length : Int) = 0) := by simp [bodyP, isExprP, isStatementP, exprOkP, h]
  have hs : shapeP n = [] := by simp [shapeP, shape0P, allP, isPlainK, isOneK, h]
  rw [BodyOk, hb, hs, fitK_nil, Bool.and_true]; exact len0
theorem body_2 {t : PTree} {n : PNode} (h : n.kind = 2) : BodyOk t n := by
  have hb : bodyP t n = decide ((n.kids.length : Int) = 0) := by simp [bodyP, isExprP, isStatementP, exprOkP, h]
  have hs : shapeP n = [] := by simp [shapeP, shape0P, allP, isPlainK, isOneK, h]
  rw [BodyOk, hb, hs, fitK_nil, Bool.and_true]; exact len0
theorem body_3 {t : PTree} {n : PNode} (h : n.kind = 3) : BodyOk t n := by
  have hb : bodyP t n = decide ((n.kids.length : Int) = 0) := by simp [bodyP, isExprP, isStatementP, exprOkP, h]
  have hs : shapeP n = [] := by simp [shapeP, shape0P, allP, isPlainK, isOneK, h]
  rw [BodyOk, hb, hs, fitK_nil, Bool.and_true]; exact len0
theorem body_4 {t : PTree} {n : PNode} (h : n.kind = 4) : BodyOk t n := by
  have hb : bodyP t n = decide ((n.kids.length : Int) = 0) := by simp [bodyP, isExprP, isStatementP, exprOkP, h]
  have hs : shapeP n = [] := by simp [shapeP, shape0P, allP, isPlainK, isOneK, h]
  rw [BodyOk, hb, hs, fitK_nil, Bool.and_true]; exact len0
theorem body_5 {t : PTree} {n : PNode} (h : n.kind = 5) : BodyOk t n := by
  have hb : bodyP t n = decide ((n.kids.length : Int) = 0) := by simp [bodyP, isExprP, isStatementP, exprOkP, h]
  have hs : shapeP n = [] := by simp [shapeP, shape0P, allP, isPlainK, isOneK, h]
  rw [BodyOk, hb, hs, fitK_nil, Bool.and_true]; exact len0
theorem body_6 {t : PTree} {n : PNode} (h : n.kind = 6) : BodyOk t n := by
  have hb : bodyP t n = decide ((n.kids.length : Int) = 0) := by simp [bodyP, isExprP, isStatementP, exprOkP, h]
  have hs : shapeP n = [] := by simp [shapeP, shape0P, allP, isPlainK, isOneK, h]
  rw [BodyOk, hb, hs, fitK_nil, Bool.and_true]; exact len0
theorem body_7 {t : PTree} {n : PNode} (h : n.kind = 7) : BodyOk t n := by
  have hb : bodyP t n = areP t n.kids isExprP := by simp [bodyP, isExprP, isStatementP, exprOkP, h]
  have hs : shapeP n = List.replicate n.kids.length 1 := by simp [shapeP, shape0P, allP, isPlainK, isOneK, h]
  rw [BodyOk, hb, hs, areP_ok (c := 1) (fun k => right_1.symm) rfl, List.length_replicate, decide_eq_true rfl, Bool.true_and]
theorem body_8 {t : PTree} {n : PNode} (h : n.kind = 8) : BodyOk t n := by
  have hb : bodyP t n = kidsAreP t n.kids [isExprP, isExprP] := by simp [bodyP, isExprP, isStatementP, exprOkP, h]
  have hs : shapeP n = [1, 1] := by simp [shapeP, shape0P, allP, isPlainK, isOneK, h]
  rw [BodyOk, hb, hs, kidsAre_ok (cs := [1, 1]) (by rw [r1e]; rfl)]
theorem body_9 {t : PTree} {n : PNode} (h : n.kind = 9) : BodyOk t n := by
  have hb : bodyP t n = kidsAreP t n.kids [isExprP] := by simp [bodyP, isExprP, isStatementP, exprOkP, h]
  have hs : shapeP n = [1] := by simp [shapeP, shape0P, allP, isPlainK, isOneK, h]
  rw [BodyOk, hb, hs, kidsAre_ok (cs := [1]) (by rw [r1e]; rfl)]
theorem body_10 {t : PTree} {n : PNode} (h : n.kind = 10) : BodyOk t n := by
  have hb : bodyP t n = kidsAreP t n.kids [isExprP, isExprP] := by simp [bodyP, isExprP, isStatementP, exprOkP, h]
  have hs : shapeP n = [1, 1] := by simp [shapeP, shape0P, allP, isPlainK, isOneK, h]
  rw [BodyOk, hb, hs, kidsAre_ok (cs := [1, 1]) (by rw [r1e]; rfl)]
theorem body_11 {t : PTree} {n : PNode} (h : n.kind = 11) : BodyOk t n := by
  have hb : bodyP t n = (decide (1 < (n.kids.length : Int)) && (isExprP (nd t.nodes (n.kids.getD 0 0)).kind && areP t (n.kids.drop 1) (justP 31))) := by simp [bodyP, isExprP, isStatementP, exprOkP, h]
  have hs : shapeP n = [1, 6] ++ List.replicate (n.kids.length - 2) 6 := by simp [shapeP, shape0P, allP, isPlainK, isOneK, h]
  rw [BodyOk, hb, hs]
  generalize n.kids = l
  match l with
  | [] => simp
  | [_] => simp
  | x :: y :: l =>
    rw [areP_ok (c := 6) (n := l.length + 1) (fun k => right_6.symm) (by simp)]
    simp only [List.drop_succ_cons, List.drop_zero, List.length_cons, Nat.add_sub_cancel, show l.length + 1 + 1 - 2 = l.length by omega, List.replicate_succ, List.cons_append, List.nil_append, fitK, List.zip_cons_cons, List.all_cons, List.getD_cons_zero, ← right_1, List.length_replicate]
    have e1 : ∀ x : Nat, decide ((1 : Int) < ((x + 1 + 1 : Nat) : Int)) = true := fun x => decide_eq_true (by omega)
    have e2 : ∀ x : Nat, decide (((x + 1 + 1 : Nat) : Int) = ((x + 1 + 1 : Nat) : Int)) = true := fun x => decide_eq_true rfl
    rw [e1]; simp only [decide_true, Bool.true_and]
theorem body_12 {t : PTree} {n : PNode} (h : n.kind = 12) : BodyOk t n := by
  have hb : bodyP t n = kidsAreP t n.kids [isExprP] := by simp [bodyP, isExprP, isStatementP, statementOkP, h]
  have hs : shapeP n = [1] := by simp [shapeP, shape0P, allP, isPlainK, isOneK, h]
  rw [BodyOk, hb, hs, kidsAre_ok (cs := [1]) (by rw [r1e]; rfl)]
theorem body_13 {t : PTree} {n : PNode} (h : n.kind = 13) : BodyOk t n := by
  have hb : bodyP t n = kidsAreP t n.kids [isExprP] := by simp [bodyP, isExprP, isStatementP, statementOkP, h]
  have hs : shapeP n = [1] := by simp [shapeP, shape0P, allP, isPlainK, isOneK, h]
  rw [BodyOk, hb, hs, kidsAre_ok (cs := [1]) (by rw [r1e]; rfl)]
theorem body_14 {t : PTree} {n : PNode} (h : n.kind = 14) : BodyOk t n := by
  have hb : bodyP t n = kidsAreP t n.kids [isExprP] := by simp [bodyP, isExprP, isStatementP, statementOkP, h]
  have hs : shapeP n = [1] := by simp [shapeP, shape0P, allP, isPlainK, isOneK, h]
  rw [BodyOk, hb, hs, kidsAre_ok (cs := [1]) (by rw [r1e]; rfl)]
theorem body_15 {t : PTree} {n : PNode} (h : n.kind = 15) : BodyOk t n := by
  have hb : bodyP t n = kidsAreP t n.kids [isExprP] := by simp [bodyP, isExprP, isStatementP, statementOkP, h]
  have hs : shapeP n = [1] := by simp [shapeP, shape0P, allP, isPlainK, isOneK, h]
  rw [BodyOk, hb, hs, kidsAre_ok (cs := [1]) (by rw [r1e]; rfl)]
theorem body_16 {t : PTree} {n : PNode} (h : n.kind = 16) : BodyOk t n := by
  have hb : bodyP t n = (kidsAreP t n.kids [isExprP, justP 27] || kidsAreP t n.kids [isExprP, justP 27, justP 27]) := by simp [bodyP, isExprP, isStatementP, statementOkP, h]
  have hs : shapeP n = if (n.kids.length : Int) = 3 then [1, 3, 3] else [1, 3] := by simp [shapeP, shape0P, allP, isPlainK, isOneK, h]
  rw [BodyOk, hb, hs, kidsAre_ok (cs := [1, 3]) (by rw [r1e, r3e]; rfl), kidsAre_ok (cs := [1, 3, 3]) (by rw [r1e, r3e]; rfl)]
  by_cases h3 : (n.kids.length : Int) = 3
  · rw [if_pos h3, h3]; simp
  · rw [if_neg h3]
    have : decide ((([1, 3, 3] : List Int).length : Int) = n.kids.length) = false := decide_eq_false (by simp; omega)
    rw [this]; simp
theorem body_17 {t : PTree} {n : PNode} (h : n.kind = 17) : BodyOk t n := by
  have hb : bodyP t n = kidsAreP t n.kids [isExprP, justP 27] := by simp [bodyP, isExprP, isStatementP, statementOkP, h]
  have hs : shapeP n = [1, 3] := by simp [shapeP, shape0P, allP, isPlainK, isOneK, h]
  rw [BodyOk, hb, hs, kidsAre_ok (cs := [1, 3]) (by rw [r1e, r3e]; rfl)]
theorem body_18 {t : PTree} {n : PNode} (h : n.kind = 18) : BodyOk t n := by
  have hb : bodyP t n = kidsAreP t n.kids [justP 29, justP 30, justP 27] := by simp [bodyP, isExprP, isStatementP, statementOkP, h]
  have hs : shapeP n = [4, 5, 3] := by simp [shapeP, shape0P, allP, isPlainK, isOneK, h]
  rw [BodyOk, hb, hs, kidsAre_ok (cs := [4, 5, 3]) (by rw [r3e, r4e, r5e]; rfl)]
theorem body_19 {t : PTree} {n : PNode} (h : n.kind = 19) : BodyOk t n := by
  have hb : bodyP t n = kidsAreP t n.kids [isExprP] := by simp [bodyP, isExprP, isStatementP, statementOkP, h]
  have hs : shapeP n = [1] := by simp [shapeP, shape0P, allP, isPlainK, isOneK, h]
  rw [BodyOk, hb, hs, kidsAre_ok (cs := [1]) (by rw [r1e]; rfl)]
theorem body_20 {t : PTree} {n : PNode} (h : n.kind = 20) : BodyOk t n := by
  have hb : bodyP t n = kidsAreP t n.kids [justP 31, justP 27] := by simp [bodyP, isExprP, isStatementP, statementOkP, h]
  have hs : shapeP n = [6, 3] := by simp [shapeP, shape0P, allP, isPlainK, isOneK, h]
  rw [BodyOk, hb, hs, kidsAre_ok (cs := [6, 3]) (by rw [r3e, r6e]; rfl)]
theorem body_21 {t : PTree} {n : PNode} (h : n.kind = 21) : BodyOk t n := by
  have hb : bodyP t n = areP t n.kids (justP 28) := by simp [bodyP, isExprP, isStatementP, statementOkP, h]
  have hs : shapeP n = List.replicate n.kids.length 8 := by simp [shapeP, shape0P, allP, isPlainK, isOneK, h]
  rw [BodyOk, hb, hs, areP_ok (c := 8) (fun k => right_8.symm) rfl, List.length_replicate, decide_eq_true rfl, Bool.true_and]
theorem body_22 {t : PTree} {n : PNode} (h : n.kind = 22) : BodyOk t n := by
  have hb : bodyP t n = decide ((n.kids.length : Int) = 0) := by simp [bodyP, isExprP, isStatementP, statementOkP, h]
  have hs : shapeP n = [] := by simp [shapeP, shape0P, allP, isPlainK, isOneK, h]
  rw [BodyOk, hb, hs, fitK_nil, Bool.and_true]; exact len0
theorem body_23 {t : PTree} {n : PNode} (h : n.kind = 23) : BodyOk t n := by
  have hb : bodyP t n = kidsAreP t n.kids [isExprP] := by simp [bodyP, isExprP, isStatementP, statementOkP, h]
  have hs : shapeP n = [1] := by simp [shapeP, shape0P, allP, isPlainK, isOneK, h]
  rw [BodyOk, hb, hs, kidsAre_ok (cs := [1]) (by rw [r1e]; rfl)]
theorem body_24 {t : PTree} {n : PNode} (h : n.kind = 24) : BodyOk t n := by
  have hb : bodyP t n = decide ((n.kids.length : Int) = 0) := by simp [bodyP, isExprP, isStatementP, statementOkP, h]
  have hs : shapeP n = [] := by simp [shapeP, shape0P, allP, isPlainK, isOneK, h]
  rw [BodyOk, hb, hs, fitK_nil, Bool.and_true]; exact len0
theorem body_25 {t : PTree} {n : PNode} (h : n.kind = 25) : BodyOk t n := by
  have hb : bodyP t n = kidsAreP t n.kids [justP 7] := by simp [bodyP, isExprP, isStatementP, statementOkP, h]
  have hs : shapeP n = [10] := by simp [shapeP, shape0P, allP, isPlainK, isOneK, h]
  rw [BodyOk, hb, hs, kidsAre_ok (cs := [10]) (by rw [r10e]; rfl)]
theorem body_26 {t : PTree} {n : PNode} (h : n.kind = 26) : BodyOk t n := by
  have hb : bodyP t n = kidsAreP t n.kids [isExprP] := by simp [bodyP, isExprP, isStatementP, statementOkP, h]
  have hs : shapeP n = [1] := by simp [shapeP, shape0P, allP, isPlainK, isOneK, h]
  rw [BodyOk, hb, hs, kidsAre_ok (cs := [1]) (by rw [r1e]; rfl)]
theorem body_27 {t : PTree} {n : PNode} (h : n.kind = 27) : BodyOk t n := by
  have hb : bodyP t n = areP t n.kids isStatementP := by simp [bodyP, isExprP, isStatementP, otherOkP, h]
  have hs : shapeP n = List.replicate n.kids.length 2 := by simp [shapeP, shape0P, allP, isPlainK, isOneK, h]
  rw [BodyOk, hb, hs, areP_ok (c := 2) (fun k => right_2.symm) rfl, List.length_replicate, decide_eq_true rfl, Bool.true_and]
theorem body_28 {t : PTree} {n : PNode} (h : n.kind = 28) : BodyOk t n := by
  have hb : bodyP t n = kidsAreP t n.kids [isExprP] := by simp [bodyP, isExprP, isStatementP, otherOkP, h]
  have hs : shapeP n = [1] := by simp [shapeP, shape0P, allP, isPlainK, isOneK, h]
  rw [BodyOk, hb, hs, kidsAre_ok (cs := [1]) (by rw [r1e]; rfl)]
theorem body_29 {t : PTree} {n : PNode} (h : n.kind = 29) : BodyOk t n := by
  have hb : bodyP t n = (decide (0 < (n.kids.length : Int)) && areP t n.kids (justP 31)) := by simp [bodyP, isExprP, isStatementP, otherOkP, h]
  have hs : shapeP n = [6] ++ List.replicate (n.kids.length - 1) 6 := by simp [shapeP, shape0P, allP, isPlainK, isOneK, h]
  rw [BodyOk, hb, hs]
  generalize n.kids = l
  match l with
  | [] => simp
  | x :: l =>
    rw [areP_ok (c := 6) (n := l.length + 1) (fun k => right_6.symm) (by simp)]
    simp only [List.length_cons, Nat.add_sub_cancel, List.replicate_succ, List.cons_append, List.nil_append, List.length_replicate]
    have e1 : ∀ x : Nat, decide ((0 : Int) < ((x + 1 : Nat) : Int)) = true := fun x => decide_eq_true (by omega)
    have e2 : ∀ x : Nat, decide (((x + 1 : Nat) : Int) = ((x + 1 : Nat) : Int)) = true := fun x => decide_eq_true rfl
    rw [e1]; simp only [decide_true, Bool.true_and]
theorem body_30 {t : PTree} {n : PNode} (h : n.kind = 30) : BodyOk t n := by
  have hb : bodyP t n = areP t n.kids (justP 31) := by simp [bodyP, isExprP, isStatementP, otherOkP, h]
  have hs : shapeP n = List.replicate n.kids.length 6 := by simp [shapeP, shape0P, allP, isPlainK, isOneK, h]
  rw [BodyOk, hb, hs, areP_ok (c := 6) (fun k => right_6.symm) rfl, List.length_replicate, decide_eq_true rfl, Bool.true_and]
theorem body_31 {t : PTree} {n : PNode} (h : n.kind = 31) : BodyOk t n := by
  have hb : bodyP t n = decide ((n.kids.length : Int) = 0) := by simp [bodyP, isExprP, isStatementP, otherOkP, h]
  have hs : shapeP n = [] := by simp [shapeP, shape0P, allP, isPlainK, isOneK, h]
  rw [BodyOk, hb, hs, fitK_nil, Bool.and_true]; exact len0
theorem body_32 {t : PTree} {n : PNode} (h : n.kind = 32) : BodyOk t n := by
  have hb : bodyP t n = decide ((n.kids.length : Int) = 0) := by simp [bodyP, isExprP, isStatementP, otherOkP, h]
  have hs : shapeP n = [] := by simp [shapeP, shape0P, allP, isPlainK, isOneK, h]
  rw [BodyOk, hb, hs, fitK_nil, Bool.and_true]; exact len0
theorem body_33 {t : PTree} {n : PNode} (h : n.kind = 33) : BodyOk t n := by
  have hb : bodyP t n = (decide (0 ≤ (n.kids.length : Int) - 1) && (areP t n.kids.dropLast (justP 32) && decide ((nd t.nodes (n.kids.getD (n.kids.length - 1) 0)).kind = 27))) := by simp [bodyP, isExprP, isStatementP, otherOkP, h]
  have hs : shapeP n = List.replicate (n.kids.length - 1) 7 ++ [3] := by simp [shapeP, shape0P, allP, isPlainK, isOneK, h]
  rw [BodyOk, hb, hs]
  generalize n.kids = l
  rcases List.eq_nil_or_concat l with rfl | ⟨l, x, rfl⟩
  · simp
  · rw [List.concat_eq_append, List.dropLast_concat, areP_ok (c := 7) (fun k => right_7.symm) rfl]
    have e : (l ++ [x]).getD ((l ++ [x]).length - 1) 0 = x := by simp
    rw [e]
    simp only [List.length_append, List.length_cons, List.length_nil, Nat.add_sub_cancel, List.length_replicate]
    have e1 : ∀ x : Nat, decide ((0 : Int) ≤ ((x + (0 + 1) : Nat) : Int) - 1) = true := fun x => decide_eq_true (by omega)
    have e2 : ∀ x : Nat, decide (((x + (0 + 1) : Nat) : Int) = ((x + (0 + 1) : Nat) : Int)) = true := fun x => decide_eq_true rfl
    rw [e1]; simp only [decide_true, Bool.true_and]
    unfold fitK
    rw [List.zip_append (by simp), List.all_append]
    simp [right_3, justP]
theorem body_34 {t : PTree} {n : PNode} (h : n.kind = 34) : BodyOk t n := by
  have hb : bodyP t n = kidsAreP t n.kids [justP 27] := by simp [bodyP, isExprP, isStatementP, otherOkP, h]
  have hs : shapeP n = [3] := by simp [shapeP, shape0P, allP, isPlainK, isOneK, h]
  rw [BodyOk, hb, hs, kidsAre_ok (cs := [3]) (by rw [r3e]; rfl)]
theorem body_shape (t : PTree) (n : PNode) : bodyP t n = (decide (1 ≤ n.kind ∧ n.kind ≤ 34) && (decide (((shapeP n).length : Int) = n.kids.length) && fitK t n.kids (shapeP n))) := by
  by_cases hk : 1 ≤ n.kind ∧ n.kind ≤ 34
  · rw [decide_eq_true hk, Bool.true_and]
    show BodyOk t n
    have hc : n.kind = 1 ∨ n.kind = 2 ∨ n.kind = 3 ∨ n.kind = 4 ∨ n.kind = 5 ∨ n.kind = 6 ∨ n.kind = 7 ∨ n.kind = 8 ∨ n.kind = 9 ∨ n.kind = 10 ∨ n.kind = 11 ∨ n.kind = 12 ∨ n.kind = 13 ∨ n.kind = 14 ∨ n.kind = 15 ∨ n.kind = 16 ∨ n.kind = 17 ∨ n.kind = 18 ∨ n.kind = 19 ∨ n.kind = 20 ∨ n.kind = 21 ∨ n.kind = 22 ∨ n.kind = 23 ∨ n.kind = 24 ∨ n.kind = 25 ∨ n.kind = 26 ∨ n.kind = 27 ∨ n.kind = 28 ∨ n.kind = 29 ∨ n.kind = 30 ∨ n.kind = 31 ∨ n.kind = 32 ∨ n.kind = 33 ∨ n.kind = 34 := by omega
    rcases hc with h | h | h | h | h | h | h | h | h | h | h | h | h | h | h | h | h | h | h | h | h | h | h | h | h | h | h | h | h | h | h | h | h | h
    · exact body_1 h
    · exact body_2 h
    · exact body_3 h
    · exact body_4 h
    · exact body_5 h
    · exact body_6 h
    · exact body_7 h
    · exact body_8 h
    · exact body_9 h
    · exact body_10 h
    · exact body_11 h
    · exact body_12 h
    · exact body_13 h
    · exact body_14 h
    · exact body_15 h
    · exact body_16 h
    · exact body_17 h
    · exact body_18 h
    · exact body_19 h
    · exact body_20 h
    · exact body_21 h
    · exact body_22 h
    · exact body_23 h
    · exact body_24 h
    · exact body_25 h
    · exact body_26 h
    · exact body_27 h
    · exact body_28 h
    · exact body_29 h
    · exact body_30 h
    · exact body_31 h
    · exact body_32 h
    · exact body_33 h
    · exact body_34 h
  · rw [decide_eq_false hk, Bool.false_and]
    unfold bodyP
    rw [if_neg (by unfold isExprP; simp; omega), if_neg (by unfold isStatementP; simp; omega)]
    unfold otherOkP
    rw [if_neg (by omega), if_neg (by omega), if_neg (by omega), if_neg (by omega), if_neg (by omega), if_neg (by omega), if_neg (by omega)]
end Go.AM
