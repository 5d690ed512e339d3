/- A part of the proof: the walk of functions of the program, or the rules of the walk. -/
import Derived.WalkKit
import Derived.KernelRfl
set_option linter.unusedSimpArgs false
set_option linter.unusedVariables false
namespace Go.Proofs.AM
open Go

inductive Fl where
  | o | a | n

inductive AV where
  | sc (v : Value)
  | nl
  | ud
  | un
  | uc
  | agg (cs : List AV)
  | tup (vs : List AV)
  | ls (fl : Fl) (E : TypeId) (xs : List (List AV))
  | rf (id off len : Nat)
  | pt (id i j : Nat)
  | vp (fl : Fl) (cs : List AV)
  | fn (f : FuncId) (caps : List AV)

instance : Inhabited AV := ⟨.un⟩

inductive TyD where
  | int (k : IntKind)
  | bool
  | str
  | slice (E : TypeId)
  | ptr (E : TypeId)
  | struct (fs : List (Nat × Nat))
  | other

structure TI where
  d : TyD
  size : Nat
  bytes : Nat
  zero : List AV

abbrev TT := List (TypeId × TI)
def TT.get : TT → TypeId → Option TI
  | [], _ => none
  | (k, i) :: r, t => if t = k then some i else TT.get r t

structure Row where
  E : TypeId
  bx : Bool
  xs : List (List AV)

structure St where
  tm : List AV
  hp : List (Nat × Row)
  nx : Nat
  kp : Nat
  ob : List (Nat × Obj)

def hget : List (Nat × Row) → Nat → Option Row
  | [], _ => none
  | (k, r) :: h, i => if i = k then some r else hget h i
def hset : List (Nat × Row) → Nat → Row → List (Nat × Row)
  | [], _, _ => []
  | (k, r) :: h, i, s => if i = k then (k, s) :: h else (k, r) :: hset h i s

def setFl (fl : Fl) : AV → AV
  | .ls _ E xs => .ls fl E xs
  | .vp _ cs => .vp fl cs
  | .fn _ _ => .uc
  | x => x
def setFls (fl : Fl) : List AV → List AV
  | [] => []
  | x :: l => setFl fl x :: setFls fl l
def setFlV (fl : Fl) : AV → AV
  | .agg cs => .agg (setFls fl cs)
  | x => setFl fl x

def chunk (n : Nat) : Nat → List AV → List (List AV)
  | 0, _ => []
  | k + 1, l => l.take n :: chunk n k (l.drop n)

/-- what names a row that is gone is not known any more -/
def sw1 (k : Nat → Bool) : AV → AV
  | .rf id off len => if k id then .uc else .rf id off len
  | .pt id i j => if k id then .uc else .pt id i j
  | .fn f [] => .fn f []
  | .fn f (_ :: _) => .uc
  | x => x
def sws (k : Nat → Bool) : List AV → List AV
  | [] => []
  | x :: l => sw1 k x :: sws k l
def sw3 (k : Nat → Bool) : AV → AV
  | .agg cs => .agg (sws k cs)
  | .tup _ => .un
  | x => sw1 k x
def sw3s (k : Nat → Bool) : List AV → List AV
  | [] => []
  | x :: l => sw3 k x :: sw3s k l
def sw2 (k : Nat → Bool) : AV → AV
  | .agg cs => .agg (sws k cs)
  | .tup cs => .tup (sw3s k cs)
  | x => sw1 k x
def sw2s (k : Nat → Bool) : List AV → List AV
  | [] => []
  | x :: l => sw2 k x :: sw2s k l
def swRow (k : Nat → Bool) (r : Row) : Row := if r.bx then { r with xs := r.xs.map (sws k) } else r
def swHp (k : Nat → Bool) : List (Nat × Row) → List (Nat × Row)
  | [] => []
  | (i, r) :: h => if k i then swHp k h else (i, swRow k r) :: swHp k h

def cst1 : Value → AV
  | .slice none 0 0 => .nl
  | .agg _ => .un
  | .tuple _ => .un
  | v => .sc v
def cstV : Value → AV
  | .agg cs => if cs.toList.all (·.oneCell') then .agg (cs.toList.map cst1) else .un
  | v => cst1 v

def tmGet (l : List AV) (i : Nat) : AV := l.getD i .un
def evo (st : St) : Operand → AV
  | .tmp t => tmGet st.tm t
  | .const v => cstV v
  | .func f => .fn f []
  | .global _ => .un

def St.put (st : St) : Option Tmp → AV → St
  | some d, v => { st with tm := st.tm.set d v }
  | none, _ => st

def AV.cells : AV → List AV
  | .agg cs => cs
  | x => [x]


def putAt : List AV → Nat → List AV → List AV
  | l, _, [] => l
  | l, j, v :: vs => putAt (l.set j v) (j + 1) vs

def fieldOff (i : TI) (f : Nat) : Option (Nat × Nat) :=
  match i.d with
  | .struct fs => fs[f]?
  | _ => none

/-- what lies in a row's own cell is looked at only -/
def ld1 : AV → AV
  | .ls .o E xs => .ls .n E xs
  | .fn _ _ => .uc
  | x => x
def lds : List AV → List AV
  | [] => []
  | x :: l => ld1 x :: lds l
def ldV (i : TI) (cs : List AV) : Option AV :=
  match i.d with
  | .struct _ => some (.agg cs)
  | .other => none
  | _ => match cs with
    | [x] => some x
    | _ => none

def evLoad (T : TT) (st : St) (t : TypeId) (x : AV) : Option AV :=
  match T.get t with
  | some i => match x with
    | .vp fl cs => if i.size ≤ cs.length then ldV i (setFls fl (cs.take i.size)) else none
    | .pt id e j => match hget st.hp id with
      | some r => match r.xs[e]? with
        | some cs => if j + i.size ≤ cs.length then ldV i (lds ((cs.drop j).take i.size)) else none
        | none => none
      | none => none
    | _ => none
  | none => none

/-- cells that go into a row: what they own goes along -/
def close1 (st : St) : AV → Option (AV × List Nat)
  | .rf id off len => match hget st.hp id with
    | some r => if r.bx then none else if id < st.kp then none else some (.ls .o r.E ((r.xs.drop off).take len), [id])
    | none => none
  | .pt _ _ _ => none
  | .fn _ _ => none
  | .agg _ => none
  | .tup _ => none
  | .ud => none
  | .un => none
  | x => some (x, [])
def close (st : St) : List AV → Option (List AV × List Nat)
  | [] => some ([], [])
  | x :: l => match close1 st x, close st l with
    | some (y, a), some (m, b) => some (y :: m, a ++ b)
    | _, _ => none
def isIn (l : List Nat) (i : Nat) : Bool :=
  match l with
  | [] => false
  | a :: l => if i = a then true else isIn l i
def dup : List Nat → Bool
  | [] => false
  | a :: l => if isIn l a then true else dup l
def St.sweep (st : St) (ks : List Nat) : St :=
  match ks with
  | [] => st
  | _ => { st with tm := sw2s (isIn ks) st.tm, hp := swHp (isIn ks) st.hp }

def leafB : AV → Bool
  | .agg _ => false
  | .tup _ => false
  | .ud => false
  | .un => false
  | _ => true

def evStore (T : TT) (st : St) (t : TypeId) (x v : AV) : Option St :=
  match T.get t with
  | some i => match x with
    | .pt id e j => match hget st.hp id with
      | some r => match r.xs[e]? with
        | some cs =>
          if v.cells.length = i.size ∧ j + i.size ≤ cs.length then
            if r.bx then
              if v.cells.all leafB then some { st with hp := hset st.hp id { r with xs := r.xs.set e (putAt cs j v.cells) } } else none
            else match close st v.cells with
              | some (ys, ks) => if dup (id :: ks) then none else
                let st2 := st.sweep ks
                some { st2 with hp := hset st2.hp id { r with xs := r.xs.set e (putAt cs j ys) } }
              | none => none
          else none
        | none => none
      | none => none
    | _ => none
  | none => none

def fillA (fs : List (Nat × Nat)) : List AV → List (Nat × AV) → Option (List AV)
  | cs, [] => some cs
  | cs, (f, v) :: r =>
    match fs[f]? with
    | some (off, sz) => if v.cells.length = sz ∧ off + sz ≤ cs.length ∧ v.cells.all leafB then fillA fs (putAt cs off v.cells) r else none
    | none => none

def cmpI : BinOp → Int → Int → Option Bool
  | .eql, a, b => some (a == b)
  | .neq, a, b => some (a != b)
  | .lss, a, b => some (decide (a < b))
  | .leq, a, b => some (decide (a ≤ b))
  | .gtr, a, b => some (decide (b < a))
  | .geq, a, b => some (decide (b ≤ a))
  | _, _, _ => none
def bitI (op : BinOp) (k : IntKind) (a b : Int) : Option Int :=
  match op with
  | .and => some (k.wrap (BitVec.ofInt k.bits a &&& BitVec.ofInt k.bits b).toNat)
  | .or => some (k.wrap (BitVec.ofInt k.bits a ||| BitVec.ofInt k.bits b).toNat)
  | .xor => some (k.wrap (BitVec.ofInt k.bits a ^^^ BitVec.ofInt k.bits b).toNat)
  | _ => none
def ariI (op : BinOp) (k : IntKind) (a b : Int) : Option AV :=
  match op with
  | .add => some (.sc (.int k (k.wrap (a + b))))
  | .sub => some (.sc (.int k (k.wrap (a - b))))
  | .mul => some (.sc (.int k (k.wrap (a * b))))
  | .quo => if b = 0 then none else some (.sc (.int k (k.wrap (a.tdiv b))))
  | .rem => if b = 0 then none else some (.sc (.int k (a.tmod b)))
  | .shl => none
  | .shr => none
  | _ => match bitI op k a b with
    | some x => some (.sc (.int k x))
    | none => (cmpI op a b).map fun x => .sc (.bool x)
def strS (op : BinOp) (a b : ByteArray) : Option AV :=
  match op with
  | .eql => some (.sc (.bool (a.toList == b.toList)))
  | .neq => some (.sc (.bool (!(a.toList == b.toList))))
  | .add => if a.size + b.size ≤ 9223372036854775807 then some (.sc (.string (a ++ b))) else none
  | _ => none
def binA (op : BinOp) : AV → AV → Option AV
  | .sc (.int k a), .sc (.int k' b) => if k = k' then ariI op k a b else none
  | .sc (.string a), .sc (.string b) => strS op a b
  | _, _ => none
def isB : TyD → Bool
  | .bool => true
  | _ => false
def binB (T : TT) (op : BinOp) (t : TypeId) : AV → AV → Option AV
  | .sc (.bool a), .sc (.bool b) => match T.get t with
    | some i => if isB i.d then (match op with
      | .eql => some (.sc (.bool (a == b)))
      | .neq => some (.sc (.bool (!(a == b))))
      | _ => none) else none
    | none => none
  | x, y => binA op x y

/-- a bound of a slice -/
def bndA (st : St) : Option Operand → Nat → Option Nat
  | none, d => some d
  | some x, _ => match evo st x with
    | .sc (.int _ n) => if 0 ≤ n then some n.toNat else none
    | _ => none
def lenC : AV → Nat
  | .ls _ _ xs => xs.length
  | .rf _ _ len => len
  | .sc (.string s) => s.size
  | _ => 0
def cutA (st : St) (E : TypeId) (lo hi : Nat) : AV → Option AV
  | .ls fl E' xs => if E' = E ∧ lo ≤ hi ∧ hi ≤ xs.length then some (.ls fl E' ((xs.drop lo).take (hi - lo))) else none
  | .nl => if lo = 0 ∧ hi = 0 then some .nl else none
  | .rf id off len => match hget st.hp id with
    | some r => if r.E = E ∧ lo ≤ hi ∧ hi ≤ len then some (.rf id (off + lo) (hi - lo)) else none
    | none => none
  | _ => none
def cutT (lo hi : Nat) : AV → Option AV
  | .sc (.string s) => if lo ≤ hi ∧ hi ≤ s.size then some (.sc (.string (s.extract lo hi))) else none
  | _ => none
def sliceL : AV → Bool
  | .ls _ _ _ => true
  | .nl => true
  | .rf _ _ _ => true
  | _ => false
def strA : AV → Bool
  | .sc (.string _) => true
  | _ => false
/-- a part of a slice or of a string -/
def evSlice (T : TT) (st : St) (t : TypeId) (x : AV) (lo hi mx : Option Operand) : Option AV :=
  match T.get t with
  | some i => match i.d with
    | .slice E => if (T.get E).isNone then none else if sliceL x then match mx with
      | none => match bndA st lo 0, bndA st hi (lenC x) with
        | some l, some h => cutA st E l h x
        | _, _ => none
      | some m => match bndA st lo 0, bndA st hi 1, bndA st (some m) 1 with
        | some 0, some 0, some 0 => some (.ls .o E [])
        | _, _, _ => none
      else none
    | .str => if strA x then match mx with
      | none => match bndA st lo 0, bndA st hi (lenC x) with
        | some l, some h => cutT l h x
        | _, _ => none
      | some _ => none
      else none
    | _ => none
  | none => none

def lenA : AV → Option Nat
  | .ls _ _ xs => some xs.length
  | .nl => some 0
  | .rf _ _ n => some n
  | _ => none
def strL : AV → Option ByteArray
  | .sc (.string s) => some s
  | _ => none

/-- the elements that append puts behind, and the row that they come of -/
def srcA (st : St) (E : TypeId) : AV → Option (List (List AV) × List Nat)
  | .ls fl E' xs => if E' = E then some (xs.map (setFls fl), []) else none
  | .nl => some ([], [])
  | .rf id off len => match hget st.hp id with
    | some r => if r.bx then none else if id < st.kp then none else if r.E = E then some ((r.xs.drop off).take len, [id]) else none
    | none => none
  | _ => none
def evAppend (T : TT) (st : St) (o : Oper) (t : TypeId) (s x : AV) : Option St :=
  match T.get t with
  | some i => match i.d with
    | .slice E => match T.get E with
      | some ie => match srcA st E x with
        | some (ys, ks) => match s with
          | .nl => if ys.length * ie.bytes ≤ 140737488355328 ∧ ys.length ≤ maxLen then
              let st2 := st.sweep ks
              some { (st2.put o.dst (.rf st2.nx 0 ys.length)) with hp := (st2.nx, ⟨E, false, ys⟩) :: st2.hp, nx := st2.nx + 1 } else none
          | .ls .o _ [] => if ys.length * ie.bytes ≤ 140737488355328 ∧ ys.length ≤ maxLen then
              let st2 := st.sweep ks
              some { (st2.put o.dst (.rf st2.nx 0 ys.length)) with hp := (st2.nx, ⟨E, false, ys⟩) :: st2.hp, nx := st2.nx + 1 } else none
          | .rf id off len => match hget st.hp id with
            | some r => if r.bx then none else if id < st.kp then none else if isIn ks id then none else
                if (len + ys.length) * ie.bytes ≤ 140737488355328 ∧ len + ys.length ≤ maxLen ∧ r.E = E then
                  let st2 := st.sweep (id :: ks)
                  some { (st2.put o.dst (.rf id 0 (len + ys.length))) with hp := (id, ⟨E, false, (r.xs.drop off).take len ++ ys⟩) :: st2.hp }
                else none
            | none => none
          | _ => none
        | none => none
      | none => none
    | _ => none
  | none => none

def rep0 (n : Nat) (x : List AV) : List (List AV) := List.replicate n x

def opEval (T : TT) (st : St) (o : Oper) : Option St :=
  match o.op with
  | .move x => some (st.put o.dst (evo st x))
  | .assign x => some (st.put o.dst (evo st x))
  | .pick c a b => match evo st c with
    | .sc (.bool true) => some (st.put o.dst (evo st a))
    | .sc (.bool false) => some (st.put o.dst (evo st b))
    | _ => none
  | .alloc E => match T.get E with
    | some i => some { (st.put o.dst (.pt st.nx 0 0)) with hp := (st.nx, ⟨E, true, [i.zero]⟩) :: st.hp, nx := st.nx + 1 }
    | none => none
  | .box E x => match T.get E with
    | some i => if (evo st x).cells.length = i.size ∧ (evo st x).cells.all leafB then
        some { (st.put o.dst (.pt st.nx 0 0)) with hp := (st.nx, ⟨E, true, [(evo st x).cells]⟩) :: st.hp, nx := st.nx + 1 } else none
    | none => none
  | .build t parts => match T.get t with
    | some i => match i.d with
      | .struct fs => match fillA fs i.zero (parts.toList.map fun p => (p.1, evo st p.2)) with
        | some cs => some (st.put o.dst (.agg cs))
        | none => none
      | _ => none
    | none => none
  | .buildSlice t len parts => match T.get t with
    | some i => match i.d with
      | .slice E => match T.get E with
        | some ie => match close st (parts.toList.flatMap fun p => (evo st p.2).cells) with
          | some (cs, ks) => if dup ks then none else
              if parts.toList.map (·.1) = List.range len ∧ (∀ p ∈ parts.toList, (evo st p.2).cells.length = ie.size) ∧ len * ie.size ≤ 16777216 then
              let st2 := st.sweep ks
              some { (st2.put o.dst (.rf st2.nx 0 len)) with hp := (st2.nx, ⟨E, false, chunk ie.size len cs⟩) :: st2.hp, nx := st2.nx + 1 } else none
          | none => none
        | none => none
      | _ => none
    | none => none
  | .makeSlice t l cp => match T.get t with
    | some i => match i.d with
      | .slice E => match T.get E with
        | some ie => match evo st l, evo st cp with
          | .sc (.int k n), .sc (.int k' m) => if 0 ≤ n ∧ n = m ∧ n * ie.bytes ≤ 140737488355328 ∧ n ≤ maxLen then
              some { (st.put o.dst (.rf st.nx 0 n.toNat)) with hp := (st.nx, ⟨E, false, rep0 n.toNat ie.zero⟩) :: st.hp, nx := st.nx + 1 } else none
          | _, _ => none
        | none => none
      | _ => none
    | none => none
  | .load t x => match evLoad T st t (evo st x) with
    | some v => some (st.put o.dst v)
    | none => none
  | .store t x v => match evStore T st t (evo st x) (evo st v) with
    | some st2 => some (st2.put o.dst .ud)
    | none => none
  | .fieldAddr t x f => match T.get t with
    | some i => match fieldOff i f with
      | some (off, _) => match evo st x with
        | .pt id e j => some (st.put o.dst (.pt id e (j + off)))
        | .vp fl cs => if off ≤ cs.length then some (st.put o.dst (.vp fl (cs.drop off))) else none
        | _ => none
      | none => none
    | none => none
  | .indexAddr t x ix => match T.get t with
    | some i => match i.d with
      | .slice E => match T.get E with
        | some _ => match evo st ix with
          | .sc (.int _ n) => match evo st x with
            | .ls fl E' xs => if 0 ≤ n ∧ E' = E then match xs[n.toNat]? with
                | some c => some (st.put o.dst (.vp fl c))
                | none => none
              else none
            | .rf id off len => if 0 ≤ n ∧ n < len then match hget st.hp id with
                | some r => if r.E = E then some (st.put o.dst (.pt id (off + n.toNat) 0)) else none
                | none => none
              else none
            | _ => none
          | _ => none
        | none => none
      | _ => none
    | none => none
  | .index t x ix => match T.get t with
    | some i => match i.d with
      | .str => match evo st ix with
        | .sc (.int _ n) => match evo st x with
          | .sc (.string s) => if 0 ≤ n then match s.data.toList[n.toNat]? with
              | some b => some (st.put o.dst (.sc (.int .u8 b.toNat)))
              | none => none
            else none
          | _ => none
        | _ => none
      | _ => none
    | none => none
  | .slice t x lo hi mx => match evSlice T st t (evo st x) lo hi mx with
    | some v => some (st.put o.dst v)
    | none => none
  | .binOp op t x y _ => match binB T op t (evo st x) (evo st y) with
    | some v => some (st.put o.dst v)
    | none => none
  | .unOp .not _ x => match evo st x with
    | .sc (.bool b) => some (st.put o.dst (.sc (.bool (!b))))
    | _ => none
  | .unOp .neg _ x => match evo st x with
    | .sc (.int k n) => some (st.put o.dst (.sc (.int k (k.wrap (0 - n)))))
    | _ => none
  | .extract x i => match evo st x with
    | .tup vs => match vs[i]? with
      | some v => some (st.put o.dst v)
      | none => none
    | _ => none
  | .call { callee := .builtin .len, args := as, argTypes := ts } => match as.toList, ts.toList with
    | [x], [t] => match T.get t with
      | some i => (match i.d with
        | .slice _ => match lenA (evo st x) with
          | some n => some (st.put o.dst (.sc (.int .i64 n)))
          | none => none
        | .str => match strL (evo st x) with
          | some s => some (st.put o.dst (.sc (.int .i64 s.size)))
          | none => none
        | _ => none)
      | none => none
    | _, _ => none
  | .call { callee := .builtin .append, args := as, argTypes := ts } => match as.toList, ts.toList with
    | [s, x], [t, t'] => if t = t' then evAppend T st o t (evo st s) (evo st x) else none
    | _, _ => none
  | .call { callee := .builtin .max, args := as, .. } => match as.toList with
    | [x, y] => (match evo st x, evo st y with
      | .sc (.int k a), .sc (.int k' b) => if k = k' then some (st.put o.dst (.sc (.int k (if b > a then b else a)))) else none
      | _, _ => none)
    | _ => none
  | .call { callee := .builtin .min, args := as, .. } => match as.toList with
    | [x, y] => (match evo st x, evo st y with
      | .sc (.int k a), .sc (.int k' b) => if k = k' then some (st.put o.dst (.sc (.int k (if b < a then b else a)))) else none
      | _, _ => none)
    | _ => none
  | _ => none

/-- what a callee is handed to look at -/
def passL0 (st : St) : AV → AV
  | .ls _ E xs => .ls .a E xs
  | .vp _ cs => .vp .a cs
  | .rf id off len => match hget st.hp id with
    | some r => if r.bx then .uc else .ls .a r.E ((r.xs.drop off).take len)
    | none => .uc
  | .pt _ _ _ => .uc
  | .fn _ _ => .uc
  | .agg _ => .un
  | .tup _ => .un
  | x => x
def passL0s (st : St) : List AV → List AV
  | [] => []
  | x :: l => passL0 st x :: passL0s st l
def passL (st : St) : AV → AV
  | .pt id i j => match hget st.hp id with
    | some r => match r.xs[i]? with
      | some cs => if j ≤ cs.length then .vp .a (passL0s st (cs.drop j)) else .uc
      | none => .uc
    | none => .uc
  | x => passL0 st x
def passLs (st : St) : List AV → List AV
  | [] => []
  | x :: l => passL st x :: passLs st l
def passV (st : St) : AV → AV
  | .agg cs => .agg (passL0s st cs)
  | .tup _ => .un
  | .ud => .un
  | .fn f cs => .fn f (passLs st cs)
  | x => passL st x
/-- an argument as the callee holds it -/
def argV : AV → AV
  | .fn f cs => .fn f (setFls .a cs)
  | x => setFlV .a x
def passVs (st : St) : List AV → List AV
  | [] => []
  | x :: l => passV st x :: passVs st l

/-- what a callee hands back, as rows of the call's own -/
def land1 (n : Nat) : AV → AV × List (Nat × Row)
  | .ls .o E xs => (.rf n 0 xs.length, [(n, ⟨E, false, xs⟩)])
  | .agg _ => (.un, [])
  | .tup _ => (.un, [])
  | x => (x, [])
def lands (n : Nat) : List AV → List AV × List (Nat × Row)
  | [] => ([], [])
  | x :: l => let p := land1 n x; let q := lands (n + p.2.length) l; (p.1 :: q.1, p.2 ++ q.2)
def land2 (n : Nat) : AV → AV × List (Nat × Row)
  | .agg cs => let p := lands n cs; (.agg p.1, p.2)
  | x => land1 n x
def land2s (n : Nat) : List AV → List AV × List (Nat × Row)
  | [] => ([], [])
  | x :: l => let p := land2 n x; let q := land2s (n + p.2.length) l; (p.1 :: q.1, p.2 ++ q.2)
def landV (n : Nat) : AV → AV × List (Nat × Row)
  | .tup cs => let p := land2s n cs; (.tup p.1, p.2)
  | x => land2 n x
def St.land (st : St) (dst : Option Tmp) (x : AV) : St :=
  let p := landV st.nx x
  { (st.put dst p.1) with hp := p.2 ++ st.hp, nx := st.nx + p.2.length }

def closeR (st : St) : AV → Option (AV × List Nat)
  | .agg cs => match close st cs with
    | some (m, k) => some (.agg m, k)
    | none => none
  | x => close1 st x
def retOne (T : TT) (st : St) : ResultVar → Option (AV × List Nat)
  | .tmp t => closeR st (tmGet st.tm t)
  | .cell ad ty => match evLoad T st ty (tmGet st.tm ad) with
    | some v => closeR st v
    | none => none
def retAll (T : TT) (st : St) : List ResultVar → Option (List AV × List Nat)
  | [] => some ([], [])
  | r :: l => match retOne T st r, retAll T st l with
    | some (x, a), some (m, b) => some (x :: m, a ++ b)
    | _, _ => none
def retA (T : TT) (st : St) (rs : List ResultVar) : Option (AV × List Nat) :=
  match retAll T st rs with
  | some ([x], k) => some (x, k)
  | some (xs, k) => some (.tup xs, k)
  | none => none

mutual
def noA (vw : Bool) : AV → Bool
  | .agg cs => noAs vw cs
  | .tup cs => noAs vw cs
  | .ls .o _ xs => noAss vw xs
  | .ls .a _ _ => vw
  | .ls .n _ _ => false
  | .vp .a _ => vw
  | .vp _ _ => false
  | .fn _ cs => noAs vw cs
  | _ => true
def noAs (vw : Bool) : List AV → Bool
  | [] => true
  | x :: l => noA vw x && noAs vw l
def noAss (vw : Bool) : List (List AV) → Bool
  | [] => true
  | x :: l => noAs vw x && noAss vw l
end

def wantedA (all : Array Oper) (st : St) (o : Oper) : Option Bool :=
  match o.guard with
  | none => some true
  | some (j, want) => match all[j]? with
    | some oj => match oj.dst with
      | some d => match tmGet st.tm d with
        | .sc (.bool true) => some want
        | .sc (.bool false) => some (!want)
        | .ud => some false
        | _ => none
      | none => none
    | none => none

def evalOps (T : TT) (all : Array Oper) : St → List Oper → St × List Oper
  | st, [] => (st, [])
  | st, o :: os => match wantedA all st o with
    | some true => match opEval T st o with
      | some st' => evalOps T all st' os
      | none => (st, o :: os)
    | some false => evalOps T all (st.put o.dst .ud) os
    | none => (st, o :: os)

end Go.Proofs.AM
