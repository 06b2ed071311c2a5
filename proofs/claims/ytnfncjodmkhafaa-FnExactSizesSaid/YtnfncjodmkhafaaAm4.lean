/-
  The abstract machine, fourth part: the operations, stripped of types and places, and what they come to.
-/
import Derived.Test.YtnfncjodmkhafaaAm3
set_option linter.all false
set_option linter.unusedSimpArgs false
set_option linter.unusedVariables false
namespace Go.AM

inductive AOp where
  | mov (x : Operand)
  | pick (c a b : Operand)
  | new (heap : Bool) (z : List Value)
  | box (heap : Bool) (x : Operand)
  | build (z : List Value) (parts : List (Nat × Nat × Operand))
  | mkSlice (esz len : Nat) (z : List Value) (parts : List (Nat × Nat × Operand))
  | load (x : Operand)
  | loadN (x : Operand) (n : Nat)
  | store (n : Nat) (x v : Operand)
  | nilCheck (x : Operand)
  | bin (op : BinOp) (t : TypeId) (x y : Operand)
  | isNil (kd : Nat) (neg : Bool) (x y : Operand)
  | un (op : UnOp) (x : Operand)
  | convI (k : IntKind) (x : Operand)
  | convP (src dst : TypeId) (x : Operand)
  | convBS (x : Operand)
  | extract (x : Operand) (i : Nat)
  | fieldAddr (x : Operand) (off : Nat)
  | field (x : Operand) (off : Nat) (n : Option Nat)
  | idxSl (x i : Operand) (esz : Nat)
  | idxStr (x i : Operand)
  | slStr (x : Operand) (lo hi : Option Operand)
  | slSl (x : Operand) (lo hi : Option Operand) (esz : Nat)
  | fn (f : FuncId) (first cap : List Operand)
  | make (esz bytes : Nat) (z : List Value) (len cap : Operand)
  | lenStr (x : Operand)
  | lenSl (x : Operand)
  | append (esz bytes : Nat) (s x : Operand)
  | appStr (s x : Operand)
  | call (f : Operand) (args : List Operand)
  deriving Inhabited

/-- A computation that asks of nothing but the program. -/
def pureRun {α : Type} (P : Program) : Sem α → Option α
  | .pure a => some a
  | .program k => pureRun P (k P)
  | .mark _ k => pureRun P k
  | _ => none

theorem pureRun_sound {α : Type} {P : Program} : ∀ (s : Sem α) (a : α), pureRun P s = some a → ∀ w, s.run P w = .ok a w := by
  intro s
  induction s with
  | pure a => intro b h w; simp only [pureRun, Option.some.injEq] at h; subst h; rfl
  | program k ih => intro b h w; simp only [pureRun] at h; exact ih P b h w
  | mark m k ih => intro b h w; simp only [pureRun] at h; exact ih b h w
  | _ => intro b h w; simp [pureRun] at h

/-- A value that is the same in both machines. -/
def flat1 : Value → Bool
  | .bool _ | .int _ _ | .string _ | .nilIface => true
  | .float _ b => !((b / 2 ^ 52) % 2048 == 2047 && b % 2 ^ 52 != 0)
  | _ => false
def flat : Value → Bool
  | .agg cs => cs.toList.all flat1
  | v => flat1 v
theorem flat1_eq {ρ : Rho} {v v' : Value} (h : flat1 v = true) (hv : VRel ρ v v') : v' = v := by
  unfold flat1 at h
  split at h <;> first | (cases h; done) | (cases hv; rfl) | skip
  rename_i k b
  cases hv with
  | float _ _ b' hb =>
    rcases hb with rfl | ⟨hn, _⟩
    · rfl
    · obtain ⟨h1, h2⟩ := hn
      simp [h1, h2] at h
theorem flat_eq {ρ : Rho} {v v' : Value} (h : flat v = true) (hv : VRel ρ v v') : v' = v := by
  unfold flat at h
  split at h
  · rename_i xs
    cases hv with
    | agg _ ys h1 h2 =>
      simp only [List.all_eq_true] at h
      congr 1
      apply Array.toList_inj.1
      apply List.ext_getElem? ; intro i
      cases hx : xs.toList[i]? with
      | none => rw [List.getElem?_eq_none_iff] at hx ⊢; omega
      | some x =>
        obtain ⟨y, hy⟩ : ∃ y, ys.toList[i]? = some y := ⟨_, List.getElem?_eq_getElem (by rw [← h1]; exact (List.getElem?_eq_some_iff.1 hx).1)⟩
        rw [hy, flat1_eq (h x (List.mem_of_getElem? hx)) (h2 i x y hx hy)]
  · exact flat1_eq h hv

/-- A result that is the same in both machines. -/
def plainOnly : Option Value → Option Value
  | some v => if okK.plain v then some v else none
  | none => none
theorem plainOnly_some {x : Option Value} {v : Value} (h : plainOnly x = some v) : x = some v ∧ okK.plain v = true := by
  unfold plainOnly at h
  split at h
  · split at h
    · rename_i hp; cases h; exact ⟨rfl, hp⟩
    · cases h
  · cases h

def binA (P : Program) (op : BinOp) (t : TypeId) (x y : Operand) (vx vy : Value) : Option Value :=
  if flat vx && flat vy then plainOnly (pureRun P (do eqGuard op t x y vx vy; binOp op t vx vy)) else none
/-- '==' with nil: of pointers (0), slices (1), functions (2). -/
def isNilA : Nat → Value → Value → Option Bool
  | 0, .pointer none, .pointer b => some b.isNone
  | 0, .pointer (some _), .pointer none => some false
  | 2, .nilFunc, .nilFunc => some true
  | 2, .nilFunc, .func _ _ _ => some false
  | 2, .func _ _ _, .nilFunc => some false
  | _, _, _ => none
def unA (op : UnOp) (v : Value) : Option Value :=
  match op, v with
  | .neg, .int k n => some (.int k (k.wrap (0 - n)))
  | .not, .bool b => some (.bool !b)
  | _, _ => none

/-- Cells that are filled in, part by part. -/
def fillA (cells : List Value) : List (Nat × Nat × Value) → Option (List Value)
  | [] => some cells
  | (off, size, v) :: rest =>
    if v.cells.size = size ∧ off + size ≤ cells.length then
      fillA (cells.take off ++ v.cells.toList ++ cells.drop (off + size)) rest
    else none

def intOf : Value → Option Int
  | .int _ n => some n
  | _ => none
def boundA (env : List Value) (d : Nat) : Option Operand → Option Int
  | none => some d
  | some x => intOf (evA env x)

/-- The cells of a slice that is read. -/
def Mem.sliceCells (m : Mem) (esz : Nat) : Value → Option (Nat × List Value)
  | .slice none 0 0 => some (0, [])
  | .slice (some a) n e => if e = esz then (m.loads a (n * esz)).map fun cs => (n, cs) else none
  | _ => none

def Mem.bump (m : Mem) (b : Nat) (cells : List Value) (v : Nat) : Mem := { m with heap := m.heap.set b { cells, ver := v, rw := true } }

/-- 'append': at a slice from its block's begin on the block goes on under a new version; else there is a new block, and the old one is gone. -/
def appendA (m : Mem) (esz bytes : Nat) (s : Value) (n2 : Nat) (news : List Value) : Option (Value × Mem) :=
  match s with
  | .slice none 0 0 =>
    if n2 = 0 then some (s, m)
    else if news.all (okC 0) ∧ n2 * bytes ≤ 140737488355328 ∧ n2 ≤ 9223372036854775807 then some (.slice (some ⟨m.heap.length, 0, some 0⟩) n2 esz, m.push news) else none
  | .slice (some ⟨b, off, some v⟩) n e =>
    match m.heap[b]? with
    | some blk =>
      if blk.ver = v ∧ blk.rw = true ∧ e = esz ∧ off + n * esz ≤ blk.cells.length ∧ news.all (okC 0) ∧ (n + n2) * bytes ≤ 140737488355328 ∧ n + n2 ≤ 9223372036854775807 then
        if off = 0 then some (.slice (some ⟨b, 0, some (v + 1)⟩) (n + n2) esz, m.bump b (blk.cells.take (n * esz) ++ news) (v + 1))
        else some (.slice (some ⟨m.heap.length, 0, some 0⟩) (n + n2) esz, (m.bump b [] (v + 1)).push ((blk.cells.drop off).take (n * esz) ++ news))
      else none
    | none => none
  | _ => none

def enters (P : Program) (f : FuncId) : Bool :=
  match P.funcs[f]? with
  | some fn => fn.body.isSome && fn.name != "runtime.NumGoroutine"
  | none => false

def partsA (env : List Value) (parts : List (Nat × Nat × Operand)) : List (Nat × Nat × Value) := parts.map fun p => (p.1, p.2.1, evA env p.2.2)

def byteA : Value → Option UInt8
  | .int .u8 n => some (UInt8.ofNat n.toNat)
  | _ => none

/-- What an operation comes to. -/
def stepA (P : Program) (o : AOp) (env : List Value) (m : Mem) : Option AR :=
  match o with
  | .mov x => some (.val (evA env x) m)
  | .pick c a b => match evA env c with
    | .bool t => some (.val (if t then evA env a else evA env b) m)
    | _ => none
  | .new heap z => if heap then some (.val (.pointer (some ⟨m.heap.length, 0, some 0⟩)) (m.push z)) else some (.val (.pointer (some ⟨m.stk.length, 0, none⟩)) (m.box z))
  | .box heap x =>
    if heap then (if (evA env x).cells.toList.all (okC 0) then some (.val (.pointer (some ⟨m.heap.length, 0, some 0⟩)) (m.push (evA env x).cells.toList)) else none)
    else (if (evA env x).cells.toList.all (okC (m.stk.length + 1)) then some (.val (.pointer (some ⟨m.stk.length, 0, none⟩)) (m.box (evA env x).cells.toList)) else none)
  | .build z parts => (fillA z (partsA env parts)).map fun cs => .val (.agg cs.toArray) m
  | .mkSlice esz len z parts => match fillA (List.replicate len z).flatten (partsA env parts) with
    | some cs => if cs.all (okC 0) then some (.val (.slice (some ⟨m.heap.length, 0, some 0⟩) len esz) (m.push cs)) else none
    | none => none
  | .load x => match evA env x with
    | .pointer (some a) => (m.load a).map fun v => .val v m
    | _ => none
  | .loadN x n => match evA env x with
    | .pointer (some a) => (m.loads a n).map fun cs => .val (.agg cs.toArray) m
    | _ => none
  | .store n x v => match evA env x with
    | .pointer (some a) => if (evA env v).cells.size = n then (m.stores a (evA env v).cells.toList).map fun m' => .val undef m' else none
    | _ => none
  | .nilCheck x => match evA env x with
    | .pointer (some a) => some (.val (.pointer (some a)) m)
    | .func (.func f) a c => some (.val (.func (.func f) a c) m)
    | _ => none
  | .bin op t x y => (binA P op t x y (evA env x) (evA env y)).map fun v => .val v m
  | .isNil kd neg x y => (isNilA kd (evA env x) (evA env y)).map fun b => .val (.bool (b != neg)) m
  | .un op x => (unA op (evA env x)).map fun v => .val v m
  | .convI k x => (intOf (evA env x)).map fun n => .val (.int k (k.wrap n)) m
  | .convP src dst x => if flat (evA env x) then (plainOnly (pureRun P (convert src dst (evA env x)))).map fun v => .val v m else none
  | .convBS x => match m.sliceCells 1 (evA env x) with
    | some (_, cs) => (cs.mapM byteA).map fun bs => .val (.string ⟨bs.toArray⟩) m
    | none => none
  | .extract x i => match evA env x with
    | .tuple vs => (vs.toList[i]?).map fun v => .val v m
    | _ => none
  | .fieldAddr x off => match evA env x with
    | .pointer (some a) => some (.val (.pointer (some ⟨a.block, a.off + off, a.spot⟩)) m)
    | _ => none
  | .field x off n => match evA env x with
    | .agg cs => match n with
      | none => (cs.toList[off]?).map fun v => .val v m
      | some n => if off + n ≤ cs.toList.length then some (.val (.agg ((cs.toList.drop off).take n).toArray) m) else none
    | _ => none
  | .idxSl x i esz => match evA env x, evA env i with
    | .slice (some a) len e, .int _ n => if 0 ≤ n ∧ n < len ∧ e = esz then some (.val (.pointer (some ⟨a.block, a.off + n.toNat * esz, a.spot⟩)) m) else none
    | _, _ => none
  | .idxStr x i => match evA env x, evA env i with
    | .string s, .int _ n => if 0 ≤ n then (s.data.toList[n.toNat]?).map fun b => .val (.int .u8 b.toNat) m else none
    | _, _ => none
  | .slStr x lo hi => match evA env x with
    | .string s => match boundA env 0 lo, boundA env s.size hi with
      | some l, some h => if 0 ≤ l ∧ l ≤ h ∧ h ≤ s.size then some (.val (.string (s.extract l.toNat h.toNat)) m) else none
      | _, _ => none
    | _ => none
  | .slSl x lo hi esz => match evA env x with
    | .slice none 0 0 => match boundA env 0 lo, boundA env 0 hi with
      | some l, some h => if l = 0 ∧ h = 0 then some (.val (.slice none 0 0) m) else none
      | _, _ => none
    | .slice (some a) len e => match boundA env 0 lo, boundA env len hi with
      | some l, some h => if 0 ≤ l ∧ l ≤ h ∧ h ≤ len ∧ e = esz then some (.val (.slice (some ⟨a.block, a.off + l.toNat * esz, a.spot⟩) (h.toNat - l.toNat) esz) m) else none
      | _, _ => none
    | _ => none
  | .fn f first cap => some (.val (.func (.func f) (first.map (evA env)).toArray (cap.map (evA env)).toArray) m)
  | .make esz bytes z len cap => match evA env len, evA env cap with
    | .int _ l, .int _ c => if 0 ≤ l ∧ l ≤ c ∧ c * bytes ≤ 281474976710656 ∧ c ≤ 9223372036854775807 then
        some (.val (.slice (some ⟨m.heap.length, 0, some 0⟩) l.toNat esz) (m.push (List.replicate l.toNat z).flatten)) else none
    | _, _ => none
  | .lenStr x => match evA env x with
    | .string s => some (.val (.int .i64 s.size) m)
    | _ => none
  | .lenSl x => match evA env x with
    | .slice _ n _ => some (.val (.int .i64 n) m)
    | _ => none
  | .append esz bytes s x => match m.sliceCells esz (evA env x) with
    | some (n2, news) => (appendA m esz bytes (evA env s) n2 news).map fun r => .val r.1 r.2
    | none => none
  | .appStr s x => match evA env x with
    | .string t => (appendA m 1 1 (evA env s) t.size (t.data.toList.map fun b => .int .u8 b.toNat)).map fun r => .val r.1 r.2
    | _ => none
  | .call f args => match evA env f with
    | .func (.func g) first cap => if enters P g then some (.call g (first.toList ++ args.map (evA env) ++ cap.toList) m) else none
    | _ => none

/-- One instruction: where its value goes, its guard (a frame slot and what it must be), the operation. -/
structure AI where
  dst : Option Tmp
  guard : Option (Nat × Bool)
  op : AOp

def okL (xs : List Operand) : Bool := xs.all okK

def fieldsOf (P : Program) (t : TypeId) : Option (Array Field) := match P.underlying t with | some (.struct fs) => some fs | _ => none
def sliceOf (P : Program) (t : TypeId) : Option TypeId := match P.underlying t with | some (.slice e) => some e | _ => none
def isAggT (P : Program) (t : TypeId) : Option Bool := (P.underlying t).map fun d => match d with | .struct _ | .array _ _ => true | _ => false

/-- The operation without types and places. 'esc': must what it makes lie in the heap? -/
def stripOp (P : Program) (esc : Bool) (o : Oper) : Option AOp :=
  if !okL o.op.operands.toList then none else
  match o.op with
  | .move x | .assign x => some (.mov x)
  | .pick c a b => some (.pick c a b)
  | .alloc t => do
    let i ← P.info? t
    let z ← i.zero
    if z.cells.toList.all okK.plain then some (.new esc z.cells.toList) else none
  | .box _ x => some (.box esc x)
  | .build t parts => do
    let i ← P.info? t
    let z ← i.zero
    let fs ← fieldsOf P t
    let ps ← parts.toList.mapM fun p => do
      let f ← fs[p.1]?
      let j ← P.info? f.type
      some (f.offset, j.size, p.2)
    if fs.toList.all (fun f => (P.info? f.type).isSome) && z.cells.toList.all okK.plain then some (.build z.cells.toList ps) else none
  | .buildSlice t len parts => do
    let e ← sliceOf P t
    let i ← P.info? e
    let z ← i.zero
    if z.cells.size = i.size ∧ 0 < i.size ∧ 0 < len ∧ len * i.size ≤ 2 ^ 24 ∧ z.cells.toList.all okK.plain then
      some (.mkSlice i.size len z.cells.toList (parts.toList.map fun p => (p.1 * i.size, i.size, p.2))) else if len = 0 ∧ parts.toList.isEmpty then some (.mkSlice i.size 0 [] []) else none
  | .load t x => do
    let g ← isAggT P t
    let i ← P.info? t
    some (if g then .loadN x i.size else .load x)
  | .store t x v => do
    let i ← P.info? t
    some (.store i.size x v)
  | .nilCheck x => some (.nilCheck x)
  | .binOp op t x y _ => match op, P.underlying t with
    | .eql, some (.pointer _) => some (.isNil 0 false x y)
    | .eql, some (.slice _) => some (.isNil 1 false x y)
    | .eql, some (.func _ _ _) => some (.isNil 2 false x y)
    | .neq, some (.pointer _) => some (.isNil 0 true x y)
    | .neq, some (.slice _) => some (.isNil 1 true x y)
    | .neq, some (.func _ _ _) => some (.isNil 2 true x y)
    | _, _ => some (.bin op t x y)
  | .unOp op _ x => some (.un op x)
  | .convert src dst x => match P.underlying src, P.underlying dst with
    | some (.int _), some (.int k) => some (.convI k x)
    | some .string, some (.slice _) => none
    | some (.slice e), some .string => match P.underlying e with
      | some (.int .u8) => some (.convBS x)
      | _ => none
    | _, _ => some (.convP src dst x)
  | .extract x i => some (.extract x i)
  | .fieldAddr t x f => do
    let fs ← fieldsOf P t
    let fd ← fs[f]?
    let i ← P.info? fd.type
    if i.size = 0 then none else some (.fieldAddr x fd.offset)
  | .field t x f => do
    let fs ← fieldsOf P t
    let fd ← fs[f]?
    let g ← isAggT P fd.type
    let i ← P.info? fd.type
    some (.field x fd.offset (if g then some i.size else none))
  | .indexAddr t x i => do
    let e ← sliceOf P t
    let j ← P.info? e
    some (.idxSl x i j.size)
  | .index t x i => match P.underlying t with
    | some .string => some (.idxStr x i)
    | _ => none
  | .slice t x lo hi none => match P.underlying t with
    | some .string => some (.slStr x lo hi)
    | some (.slice e) => (P.info? e).map fun j => .slSl x lo hi j.size
    | _ => none
  | .makeFunc (.func f) first cap => some (.fn f first.toList cap.toList)
  | .makeSlice t len cap => do
    let e ← sliceOf P t
    let i ← P.info? e
    let z ← i.zero
    if z.cells.size = i.size ∧ 0 < i.size ∧ z.cells.toList.all okK.plain then some (.make i.size i.bytes z.cells.toList len cap) else none
  | .call { callee := .value f, args, .. } => some (.call f args.toList)
  | .call { callee := .builtin .len, args := ⟨[x]⟩, argTypes := ⟨[t]⟩ } => match P.underlying t with
    | some .string => some (.lenStr x)
    | some (.slice _) => some (.lenSl x)
    | _ => none
  | .call { callee := .builtin .append, args := ⟨[s, x]⟩, argTypes := ⟨[t, t']⟩ } => do
    let e ← sliceOf P t
    let i ← P.info? e
    let z ← i.zero
    if z.cells.size = i.size ∧ 0 < i.size then
      match P.underlying t' with
      | some (.slice e') => if e' = e then some (.append i.size i.bytes s x) else none
      | some .string => match P.underlying e with
        | some (.int .u8) => if i.size = 1 ∧ i.bytes = 1 then some (.appStr s x) else none
        | _ => none
      | _ => none
    else none
  | _ => none

end Go.AM
