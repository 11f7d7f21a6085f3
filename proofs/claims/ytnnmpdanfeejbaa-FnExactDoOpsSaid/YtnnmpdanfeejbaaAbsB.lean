/- The abstract machine's operations: what each of the model's operations does to slots and objects. -/
import Derived.Test.YtnnmpdanfeejbaaAbsA
namespace Go.Proofs.Ytnnmpdanfeejbaa.Abs
open Go Go.RowKit
set_option linter.unusedVariables false

def upd {α : Type} (f : Nat → α) (k : Nat) (x : α) : Nat → α := fun j => if j = k then x else f j
theorem upd_same {α : Type} (f : Nat → α) (k : Nat) (x : α) : upd f k x k = x := if_pos rfl
theorem upd_ne {α : Type} (f : Nat → α) {k j : Nat} (x : α) (h : j ≠ k) : upd f k x j = f j := if_neg h
theorem upd_at {α : Type} (f : Nat → α) (k j : Nat) (x : α) : upd f k x j = if j = k then x else f j := rfl
theorem upd_comm {α : Type} (f : Nat → α) {k j : Nat} (x y : α) (h : k ≠ j) : upd (upd f k x) j y = upd (upd f j y) k x := by
  funext i; unfold upd; split <;> split <;> simp_all

/-- What is asked of a type. -/
structure TI where
  size : Nat
  agg : Bool
  fields : List (Nat × Nat)
  elem : Option (Nat × Nat × Nat)
  zero : List Value
  prim : Option IntKind
  isStr : Bool
  isPtr : Bool
  isBool : Bool
  isBytes : Bool

def sizeP (P : Program) (t : Nat) : Nat := ((P.info? t).map (·.size)).getD 0
def tiOf (P : Program) (t : Nat) : Option TI :=
  match P.info? t, P.underlying t with
  | some i, some d => some {
      size := i.size
      agg := match d with | .struct _ | .array _ _ => true | _ => false
      fields := match d with | .struct fs => fs.toList.map fun f => (f.offset, sizeP P f.type) | _ => []
      elem := match d with | .slice e => (match P.info? e with | some j => some (e, j.size, j.bytes) | none => none) | _ => none
      zero := match i.zero with | some z => z.cells.toList | none => []
      prim := match d with | .int k => some k | _ => none
      isStr := match d with | .string => true | _ => false
      isPtr := match d with | .pointer _ => true | _ => false
      isBool := match d with | .bool => true | _ => false
      isBytes := match d with | .slice e => (match P.underlying e with | some (.int .u8) => true | _ => false) | _ => false }
  | _, _ => none

def constA : Value → AV
  | .slice none 0 0 => .nul
  | x => if x.oneCell' then .c (.v x) else .any
def zeroC : Value → CV
  | .slice none 0 0 => .row true []
  | x => .v x

def cellsA : AV → List AV
  | .ag cs => cs
  | x => [x]

/-- One cell for sure. -/
def oneA (H : Hp) : AV → Bool
  | .c _ | .bw _ | .nul => true
  | .sl o _ | .pt o _ _ => (H o).isSome
  | _ => false
/-- The cells of a struct must each be one, too. -/
def okA (H : Hp) : AV → Bool
  | .ag cs => cs.all (oneA H)
  | x => oneA H x

def lift : CV → AV
  | .v x => .c (.v x)
  | .row true es => .bw (.row true es)
  | .hole => .any
  | x => .c x
def liftB : CV → AV
  | .v x => .c (.v x)
  | .hole => .any
  | x => .bw x
def liftC : CV → AV
  | .hole => .any
  | x => .c x

def toC (H : Hp) : AV → Option (CV × Option Nat)
  | .c x => some (x.im, none)
  | .bw (.v x) => some (.v x, none)
  | .nul => some (.row true [], none)
  | .sl o n => match H o with
    | some (.rw _ _ es) => if n = es.length then some (.row true es, some o) else none
    | _ => none
  | _ => none

/-- The cells of a value, each for a row; what is taken in stands with its place. -/
def toCs (H : Hp) (i : Nat) : Nat → List AV → Option (List CV × List (Nat × Nat × Nat))
  | _, [] => some ([], [])
  | j, x :: r => match toC H x, toCs H i (j + 1) r with
    | some (c, none), some (cs, ks) => some (c :: cs, ks)
    | some (c, some o), some (cs, ks) => some (c :: cs, (o, i, j) :: ks)
    | _, _ => none

def splice {α : Type} (l : List α) (j : Nat) (m : List α) : List α := l.take j ++ m ++ l.drop (j + m.length)

def gone (ks : List (Nat × Nat × Nat)) : List (Nat × Option Ob) := ks.map fun k => (k.1, none)
def distinct (o : Nat) (ks : List (Nat × Nat × Nat)) : Bool := (ks.map (·.1)).Nodup && ks.all (fun k => k.1 != o)

def pureV (x : Sem Value) : Option Value := match x with | .pure v => some v | _ => none

def binI (op : BinOp) (k : IntKind) (a b : Int) : Option Value :=
  match op with
  | .add => some (.int k (k.wrap (a + b)))
  | .sub => some (.int k (k.wrap (a - b)))
  | .mul => some (.int k (k.wrap (a * b)))
  | .quo => if b ≠ 0 then some (.int k (k.wrap (a.tdiv b))) else none
  | .rem => if b ≠ 0 then some (.int k (a.tmod b)) else none
  | .lss => some (.bool (decide (a < b)))
  | .leq => some (.bool (decide (a ≤ b)))
  | .gtr => some (.bool (decide (a > b)))
  | .geq => some (.bool (decide (a ≥ b)))
  | .eql => some (.bool (a == b))
  | .neq => some (.bool (a != b))
  | .and => pureV (Op.intBits .and k a b)
  | .or => pureV (Op.intBits .or k a b)
  | .xor => pureV (Op.intBits .xor k a b)
  | _ => none
def binS (op : BinOp) (a b : ByteArray) : Option Value :=
  match op with
  | .add => if a.size + b.size ≤ 9223372036854775807 then some (.string (a ++ b)) else none
  | .eql => some (.bool (a.toList == b.toList))
  | .neq => some (.bool (!(a.toList == b.toList)))
  | .lss => some (.bool (Op.bytesLess a.toList b.toList))
  | .leq => some (.bool (Op.bytesLess a.toList b.toList || a.toList == b.toList))
  | .gtr => some (.bool !(Op.bytesLess a.toList b.toList || a.toList == b.toList))
  | .geq => some (.bool !(Op.bytesLess a.toList b.toList))
  | _ => none
def binV (op : BinOp) : Value → Value → Option Value
  | .int k a, .int k' b => match op with
    | .shl => pureV (Op.shift .shl k a k' b)
    | .shr => pureV (Op.shift .shr k a k' b)
    | _ => if k = k' then binI op k a b else none
  | .string a, .string b => binS op a b
  | _, _ => none

/-- Is the value a pointer that is nil? -/
def nilA (H : Hp) : AV → Option Bool
  | .c (.v (.pointer none)) => some true
  | .c (.ptr _ _) | .bw (.ptr _ _) => some false
  | .pt o _ _ => if (H o).isSome then some false else none
  | _ => none

def rowOf (H : Hp) : AV → Option (List (List CV))
  | .c (.row _ es) | .bw (.row _ es) => some es
  | .nul => some []
  | .sl o n => match H o with
    | some (.rw _ _ es) => if n ≤ es.length then some (es.take n) else none
    | _ => none
  | _ => none

def bytesOf : List (List CV) → Option (List UInt8)
  | [] => some []
  | [.v (.int .u8 n)] :: r => (bytesOf r).map (UInt8.ofNat n.toNat :: ·)
  | _ => none

def CV.isV : CV → Bool
  | .v _ => true
  | _ => false
def allV (es : List (List CV)) : Bool := es.all fun e => e.all CV.isV

def fillA (cs : List AV) : List (Nat × Nat × AV) → Option (List AV)
  | [] => some cs
  | (off, sz, x) :: r => if (cellsA x).length = sz ∧ off + sz ≤ cs.length then fillA (splice cs off (cellsA x)) r else none

abbrev EvR := Option (AV × List (Nat × Option Ob))

def evLoad (H : Hp) (i : TI) : AV → EvR
  | .pt o ii j => match H o with
    | some (.box _ cs) => if ii = 0 then (if i.agg then (if j + i.size ≤ cs.length then some (.ag ((cs.drop j).take i.size), []) else none) else (cs[j]?).bind fun c => some (c, [])) else none
    | some (.rw _ _ es) => (es[ii]?).bind fun e => if i.agg then (if j + i.size ≤ e.length then some (.ag (((e.drop j).take i.size).map lift), []) else none) else (e[j]?).bind fun c => some (lift c, [])
    | none => none
  | .c (.ptr cs j) => if i.agg then (if j + i.size ≤ cs.length then some (.ag (((cs.drop j).take i.size).map liftC), []) else none) else (cs[j]?).bind fun c => some (liftC c, [])
  | .bw (.ptr cs j) => if i.agg then (if j + i.size ≤ cs.length then some (.ag (((cs.drop j).take i.size).map liftB), []) else none) else (cs[j]?).bind fun c => some (liftB c, [])
  | _ => none

def evStore (H : Hp) (i : TI) (x : AV) : AV → EvR
  | .pt o ii j => if okA H x ∧ (cellsA x).length = i.size then (match H o with
    | some (.box ty cs) => if ii = 0 ∧ j + i.size ≤ cs.length then some (.any, [(o, some (.box ty (splice cs j (cellsA x))))]) else none
    | some (.rw ty sz es) => (es[ii]?).bind fun e => if j + i.size ≤ e.length then (match toCs H ii j (cellsA x) with
        | some (cs, ks) => if distinct o ks then some (.any, (o, some (.rw ty sz (es.set ii (splice e j cs)))) :: gone ks) else none
        | none => none) else none
    | none => none) else none
  | _ => none

def evIndexAddr (H : Hp) (esz : Nat) (n : Int) : AV → EvR
  | .sl o m => match H o with
    | some (.rw _ sz es) => if 0 ≤ n ∧ n < m ∧ m ≤ es.length ∧ sz = esz then some (.pt o n.toNat 0, []) else none
    | _ => none
  | .c (.row _ es) => (es[n.toNat]?).bind fun e => if 0 ≤ n ∧ e.length = esz then some (.c (.ptr e 0), []) else none
  | .bw (.row _ es) => (es[n.toNat]?).bind fun e => if 0 ≤ n ∧ e.length = esz then some (.bw (.ptr e 0), []) else none
  | _ => none

def evField (H : Hp) (off : Nat) : AV → EvR
  | .pt o ii j => if (H o).isSome then some (.pt o ii (j + off), []) else none
  | .c (.ptr cs j) => some (.c (.ptr cs (j + off)), [])
  | .bw (.ptr cs j) => some (.bw (.ptr cs (j + off)), [])
  | _ => none

def evLen (H : Hp) : AV → Option Int
  | .c (.v (.string s)) => some s.size
  | .c (.row _ es) | .bw (.row _ es) => some es.length
  | .nul => some 0
  | .sl o n => if (H o).isSome then some n else none
  | _ => none

def isStrA : AV → Bool
  | .c (.v (.string _)) => true
  | _ => false

/-- The new cells of an append: what is copied (plain cells, or a row that is only read), or a row of one's own that is used up. -/
def evSrc (H : Hp) : AV → Option (List (List CV) × Option Nat)
  | .c (.row _ es) => some (es.map (·.map CV.im), none)
  | .bw (.row _ es) => if allV es then some (es, none) else none
  | .nul => some ([], none)
  | .c (.v (.string s)) => some (s.data.toList.map fun b => [.v (.int .u8 b.toNat)], none)
  | .sl o n => match H o with
    | some (.rw _ _ es) => if n = es.length then (if allV es then some (es, none) else some (es, some o)) else none
    | _ => none
  | _ => none

def goneO : Option Nat → List (Nat × Option Ob)
  | some q => [(q, none)]
  | none => []

def evAppend (id : Nat) (H : Hp) (e esz eb : Nat) (x y : AV) : EvR :=
  match evSrc H y with
  | some (new, src) => if ∀ c ∈ new, c.length = esz then (match x with
    | .nul => if new.length ≤ maxLen ∧ new.length * eb ≤ 140737488355328 then some (.sl id new.length, (id, some (.rw e esz new)) :: goneO src) else none
    | .sl o n => (match H o with
      | some (.rw ty sz es) => if n = es.length ∧ ty = e ∧ sz = esz ∧ src ≠ some o ∧ n + new.length ≤ maxLen ∧ (n + new.length) * eb ≤ 140737488355328 then
          some (.sl id (es.length + new.length), (id, some (.rw e esz (es ++ new))) :: (o, none) :: goneO src) else none
      | _ => none)
    | _ => none) else none
  | none => none

def boundA : Nat → AV → Option Nat
  | m, .c (.v (.int _ n)) => if 0 ≤ n ∧ n ≤ m then some n.toNat else none
  | _, _ => none
def loA : Option AV → Nat → Option Nat
  | none, _ => some 0
  | some v, h => boundA h v
def hiA : Option AV → Nat → Option Nat
  | none, m => some m
  | some v, m => boundA m v

def evSlice (H : Hp) (esz : Nat) (lo hi : Option AV) (x : AV) : EvR :=
  match x with
  | .c (.v (.string s)) => (hiA hi s.size).bind fun h => (loA lo h).bind fun l => some (.c (.v (.string (s.extract l h))), [])
  | .c (.row k es) => (hiA hi es.length).bind fun h => (loA lo h).bind fun l => if ∀ e ∈ es, e.length = esz then some (.c (.row k ((es.take h).drop l)), []) else none
  | .bw (.row k es) => (hiA hi es.length).bind fun h => (loA lo h).bind fun l => if ∀ e ∈ es, e.length = esz then some (.bw (.row k ((es.take h).drop l)), []) else none
  | _ => none


def unV (op : UnOp) : Value → Option Value
  | .bool b => match op with
    | .not => some (.bool (!b))
    | _ => none
  | .int k n => match op with
    | .neg => some (.int k (k.wrap (0 - n)))
    | _ => none
  | _ => none

def evConv (H : Hp) (id : Nat) (s d : TI) (x : AV) : EvR :=
  match d.prim, x with
  | some k, .c (.v (.int _ n)) => some (.c (.v (.int k (k.wrap n))), [])
  | _, _ => if d.isStr = true ∧ s.isBytes = true then ((rowOf H x).bind bytesOf).bind fun l => some (.c (.v (.string ⟨l.toArray⟩)), [])
    else match x with
    | .c (.v (.string b)) => if s.isStr = true ∧ d.isBytes = true ∧ b.size ≤ 9223372036854775807 then some (.c (.row false (b.data.toList.map fun u => [.v (.int .u8 u.toNat)])), []) else none
    | _ => none

def evBuild (H : Hp) (i : TI) (ps : List (Nat × AV)) : EvR :=
  (ps.mapM fun p => (i.fields[p.1]?).map fun f => (f.1, f.2, p.2)).bind fun l =>
    if ps.all (fun p => okA H p.2) ∧ i.agg = true ∧ i.fields ≠ [] ∧ i.zero ≠ [] ∧ (∀ f ∈ i.fields, f.2 ≠ 0) then (fillA (i.zero.map constA) l).bind fun cs => some (.ag cs, []) else none

/-- The elements of a literal row, out of its cells. -/
def evElems (H : Hp) (esz : Nat) (flat : List AV) : List Nat → Option (List (List CV) × List (Nat × Nat × Nat))
  | [] => some ([], [])
  | i :: r => match toCs H i 0 ((flat.drop (i * esz)).take esz), evElems H esz flat r with
    | some (e, ks), some (es, ks') => some (e :: es, ks ++ ks')
    | _, _ => none

def evBuildSlice (H : Hp) (id e esz : Nat) (zero : List Value) (n : Nat) (ps : List (Nat × AV)) : EvR :=
  if ps.all (fun p => okA H p.2) = true ∧ zero.length = esz ∧ zero.all (·.oneCell') = true ∧ 0 < esz ∧ n * esz ≤ 1000 then
    (fillA ((List.replicate n (zero.map constA)).flatten) (ps.map fun p => (p.1 * esz, esz, p.2))).bind fun flat =>
    (evElems H esz flat (List.range n)).bind fun r => if distinct id r.2 = true then some (.sl id n, (id, some (.rw e esz r.1)) :: gone r.2) else none
  else none

/-- Structs of strings (0), numbers (1), bools (2), one cell each, from offset k on. -/
def kindB (P : Program) (t c : Nat) : Bool := match P.underlying t with
  | some .string => c == 0
  | some (.int _) => c == 1
  | some .bool => c == 2
  | _ => false
def flatFs (P : Program) : Nat → List Field → List Nat → Bool
  | _, [], [] => true
  | k, f :: r, c :: q => f.offset == k && f.name != "_" && kindB P f.type c && flatFs P (k + 1) r q
  | _, _, _ => false
def flatB (P : Program) (t : Nat) (ks : List Nat) : Bool :=
  (match P.underlying t with | some (.struct fs) => flatFs P 0 fs.toList ks | _ => false) && !P.stoodInHeld t && !P.eqGuardType P.depth t
def kOf : AV → Nat
  | .c (.v (.string _)) => 0
  | .c (.v (.int _ _)) => 1
  | .c (.v (.bool _)) => 2
  | _ => 9
def valEq : Value → Value → Option Bool
  | .string a, .string b => some (a.toList == b.toList)
  | .int k a, .int k' b => if k = k' then some (a == b) else none
  | .bool a, .bool b => some (a == b)
  | _, _ => none
def celEq : List AV → List AV → Option Bool
  | [], [] => some true
  | .c (.v a) :: r, .c (.v b) :: q => (valEq a b).bind fun x => (celEq r q).bind fun y => some (x && y)
  | _, _ => none
/-- A copy into a row of one's own that has room. -/
def evCopy (H : Hp) (esz : Nat) (x y : AV) : EvR :=
  match x, evSrc H y with
  | .sl o n, some (new, none) => (match H o with
    | some (.rw ty sz es) => if n = es.length ∧ sz = 1 ∧ esz = 1 ∧ new.length ≤ es.length ∧ es.length ≤ maxLen ∧ (∀ c ∈ new, c.length = 1) then some (.c (.v (.int .i64 new.length)), [(o, some (.rw ty sz (new ++ es.drop new.length)))]) else none
    | _ => none)
  | _, _ => none
def evOp (P : Program) (id : Nat) (H : Hp) (g : Operand → AV) : Op → EvR
  | .move x | .assign x => some (g x, [])
  | .pick c a b => match g c with
    | .c (.v (.bool t)) => some (if t then g a else g b, [])
    | _ => none
  | .alloc e => (tiOf P e).bind fun i => if i.zero.isEmpty then none else some (.pt id 0 0, [(id, some (.box e (i.zero.map constA)))])
  | .box e x => if okA H (g x) then some (.pt id 0 0, [(id, some (.box e (cellsA (g x))))]) else none
  | .load t a => (tiOf P t).bind fun i => evLoad H i (g a)
  | .store t a x => (tiOf P t).bind fun i => evStore H i (g x) (g a)
  | .fieldAddr t x f => (tiOf P t).bind fun i => (i.fields[f]?).bind fun o => if o.2 ≠ 0 then evField H o.1 (g x) else none
  | .indexAddr t x ix => match g ix with
    | .c (.v (.int _ n)) => (tiOf P t).bind fun i => i.elem.bind fun e => evIndexAddr H e.2.1 n (g x)
    | _ => none
  | .nilCheck x => (nilA H (g x)).bind fun b => if b then none else some (g x, [])
  | .binOp op t x y _ => match g x, g y with
    | .c (.v a), .c (.v b) => match a, b with
      | .bool p, .bool q => (tiOf P t).bind fun i => if i.isBool then (match op with
        | .eql => some (.c (.v (.bool (p == q))), [])
        | .neq => some (.c (.v (.bool (!(p == q)))), [])
        | _ => none) else none
      | .pointer none, .pointer none => (tiOf P t).bind fun i => if i.isPtr then (match op with | .eql => some (.c (.v (.bool true)), []) | .neq => some (.c (.v (.bool false)), []) | _ => none) else none
      | _, _ => (binV op a b).bind fun r => some (.c (.v r), [])
    | .ag l, .ag m => if flatB P t (l.map kOf) = true then (celEq l m).bind fun r => (match op with
      | .eql => some (.c (.v (.bool r)), [])
      | .neq => some (.c (.v (.bool (!r))), [])
      | _ => none) else none
    | a, b => (tiOf P t).bind fun i => if i.isPtr then ((nilA H a).bind fun p => (nilA H b).bind fun q => if p != q then (match op with | .eql => some (.c (.v (.bool false)), []) | .neq => some (.c (.v (.bool true)), []) | _ => none) else none) else none
  | .unOp op _ x => match g x with
    | .c (.v a) => (unV op a).bind fun r => some (.c (.v r), [])
    | _ => none
  | .convert s d x => (tiOf P s).bind fun i => (tiOf P d).bind fun j => evConv H id i j (g x)
  | .index t x ix => match g x, g ix with
    | .c (.v (.string s)), .c (.v (.int _ n)) => (tiOf P t).bind fun i => (s.data.toList[n.toNat]?).bind fun b => if 0 ≤ n ∧ i.isStr = true then some (.c (.v (.int .u8 b.toNat)), []) else none
    | _, _ => none
  | .slice t x lo hi mx => match mx with
    | none => (tiOf P t).bind fun i => if i.isStr = true then (match g x with | .c (.v (.string _)) => evSlice H 0 (lo.map g) (hi.map g) (g x) | _ => none) else i.elem.bind fun e => (match g x with | .c (.v (.string _)) => none | y => evSlice H e.2.1 (lo.map g) (hi.map g) y)
    | some _ => none
  | .makeSlice t l c => (tiOf P t).bind fun i => i.elem.bind fun e => match g l, g c with
    | .c (.v (.int .i64 n)), .c (.v (.int .i64 m)) => if n = m ∧ 0 ≤ n ∧ n * e.2.2 ≤ 140737488355328 ∧ n ≤ 140737488355328 ∧ 0 < e.2.1 then (tiOf P e.1).bind fun z => if z.zero.length ≠ e.2.1 ∨ z.zero.all (·.oneCell') = false then none else some (.sl id n.toNat, [(id, some (.rw e.1 e.2.1 (List.replicate n.toNat (z.zero.map zeroC))))]) else none
    | _, _ => none
  | .build t ps => (tiOf P t).bind fun i => evBuild H i (ps.toList.map fun p => (p.1, g p.2))
  | .buildSlice t n ps => (tiOf P t).bind fun i => i.elem.bind fun e => (tiOf P e.1).bind fun z => evBuildSlice H id e.1 e.2.1 z.zero n (ps.toList.map fun p => (p.1, g p.2))
  | .extract x k => match g x with
    | .tu vs => (vs[k]?).bind fun v => some (v, [])
    | _ => none
  | .call { callee := .builtin b, args := args, argTypes := ts } => match b, args.toList, ts.toList with
    | .len, [x], [t] => (tiOf P t).bind fun i => (evLen H (g x)).bind fun n => if i.isStr = isStrA (g x) ∧ (i.isStr = true ∨ i.elem.isSome = true) then some (.c (.v (.int .i64 n)), []) else none
    | .append, [x, y], [t, u] => (tiOf P t).bind fun i => (tiOf P u).bind fun j => i.elem.bind fun e => (tiOf P e.1).bind fun z => if 0 < e.2.1 ∧ z.zero.length = e.2.1 ∧ j.prim = none then evAppend id H e.1 e.2.1 e.2.2 (g x) (g y) else none
    | .copy, [x, y], [t, _] => (tiOf P t).bind fun i => i.elem.bind fun e => evCopy H e.2.1 (g x) (g y)
    | .min, [x, y], _ => (match g x, g y with | .c (.v (.int .i64 a)), .c (.v (.int .i64 b)) => some (.c (.v (.int .i64 (if b < a then b else a))), []) | _, _ => none)
    | .max, [x, y], _ => (match g x, g y with | .c (.v (.int .i64 a)), .c (.v (.int .i64 b)) => some (.c (.v (.int .i64 (if b > a then b else a))), []) | _, _ => none)
    | _, _, _ => none
  | _ => none

end Go.Proofs.Ytnnmpdanfeejbaa.Abs
