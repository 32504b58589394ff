/- BY VALUE, part 1: values, environments and the evaluator. Nothing of the machine stands here. -/
import GoSem.Core.World
import GoSem.Core.View
import GoSem.Op.String
namespace Go.Bv

/-- Values told by what they hold. 'sl': a slice that is only read; 'own': a row of the function's own; 'fr': a row handed out by a call; 'ptr', 'rp', 'el': places. -/
inductive AV where
  | unk
  | und
  | int (k : IntKind) (n : Int)
  | bool (b : Bool)
  | str (s : ByteArray)
  | nil
  | sl (l : List (List AV))
  | own (d g : Nat)
  | fr (E c : Nat) (l : List (List AV))
  | agg (l : List AV)
  | tup (l : List AV)
  | ptr (d g off : Nat)
  | rp (d g i j : Nat)
  | el (l : List AV)
  | raw (v : Value)
  | mp (l : List (List AV))
  | fn (f : Nat) (l : List AV)
  | fr1 (j E c : Nat) (m : List (List AV)) (l : List AV)
  | aggo (j d g : Nat) (l : List AV)
  deriving Inhabited

inductive X where
  | t (n : Nat)
  | c (A : AV)
  deriving Inhabited

/-- What lies in memory of the function's own. -/
inductive OK where
  | dead
  | box (l : List AV)
  | row (E c f : Nat) (l : List (List AV))
  deriving Inhabited

structure AObj where
  gen : Nat
  k : OK
  deriving Inhabited

structure Env where
  tmps : List AV
  objs : List AObj
  deriving Inhabited

inductive CK where
  | int
  | bool
  | str
  deriving DecidableEq

inductive O where
  | mv (x : X)
  | pick (c a b : X)
  | box (T : Nat) (x : X)
  | new (T : Nat) (z : List AV)
  | bld (z : List AV) (ps : List (Nat × Nat × X))
  | lit (E c : Nat) (xs : List X)
  | ld (n : Option Nat) (p : X)
  | st (n : Nat) (p x : X)
  | fa (off n : Nat) (p : X)
  | ia (c : Nat) (x i : X)
  | ix (x i : X)
  | subs (x : X) (lo hi : Option X)
  | sub (c : Nat) (x : X) (lo hi : Option X)
  | mk (E c by_ : Nat) (z : List AV) (n : X)
  | bin (op : BinOp) (x y : X)
  | beq (ne : Bool) (x y : X)
  | eqs (ne : Bool) (ks : List CK) (x y : X)
  | un (op : UnOp) (x : X)
  | cvi (k : IntKind) (x : X)
  | cvs (x : X)
  | cvsb (x : X)
  | cvbs (x : X)
  | lens (x : X)
  | len (x : X)
  | app (E c by_ : Nat) (s x : X)
  | apps (E : Nat) (s x : X)
  | cpy (E c by_ : Nat) (x : X)
  | mnx (mx : Bool) (x y : X)
  | ext (x : X) (i : Nat)
  | call (f : Nat) (xs : List X)
  | nck (x : X)
  | lkp (x k : X)
  | clo (f : Nat) (xs : List X)
  | bldo (z : List AV) (ps : List (Nat × Nat × X)) (j : Nat) (x : X)
  | calld (x : X) (xs : List X)
  deriving Inhabited

structure OP where
  dst : Option Nat
  op : O
  guard : Option (Nat × Bool)
  deriving Inhabited

inductive C where
  | skip
  | reg (kill : List Nat) (ops : List OP)
  | seq (a b : C)
  | cond (x : X) (a b : C)
  | blk (id : Nat) (a : C)
  | loop (a : C)
  | exit (id : Nat)
  | ret
  | clr (keep : List Nat)
  | chk (ρ : List (Nat × Nat)) (ν : List Nat) (a : C)
  deriving Inhabited

inductive RV where
  | tmp (t : Nat)
  | tsl (t E c : Nat)
  | cell (t n : Nat)
  | cell1 (t : Nat)
  | cellf (t n j E c : Nat)
  deriving Inhabited

structure F where
  np : Nat
  nt : Nat
  res : List RV
  body : C
  deriving Inhabited

inductive Ex where
  | normal
  | exit (id : Nat)
  | ret
  deriving DecidableEq

/-! ### Reading -/
def Env.get (e : Env) : X → AV
  | .t n => e.tmps.getD n .unk
  | .c A => A

def AV.cell1 : AV → Bool
  | .int .. | .bool _ | .str _ | .nil | .sl _ | .own .. | .unk | .fn .. => true
  | _ => false

/-- A value that leads to nothing of the function's own. -/
def AV.pure : AV → Bool
  | .int .. | .bool _ | .str _ | .nil | .sl _ | .fn .. => true
  | _ => false

/-- It leads to nothing of the function's own, by sight. -/
def AV.flat : AV → Bool
  | .own .. | .ptr .. | .rp .. | .tup _ | .aggo .. => false
  | .agg l => l.all AV.pure
  | _ => true
def AV.noRef : AV → Bool
  | .tup l => l.all AV.flat
  | A => A.flat

def OK.len : OK → Nat
  | .row _ _ _ l => l.length
  | _ => 0

def Env.ok? (e : Env) (d g : Nat) : Option OK :=
  match e.objs[d]? with
  | some o => if o.gen = g then some o.k else none
  | none => none

/-- A cell, seen from outside: a row of one's own is read only from now on (its key is told). -/
def Env.view1 (e : Env) : AV → Option (AV × List Nat)
  | .own d g => match e.ok? d g with
    | some (.row _ _ _ l) => some (.sl l, [d])
    | _ => none
  | .int k n => some (.int k n, [])
  | .bool b => some (.bool b, [])
  | .str s => some (.str s, [])
  | .nil => some (.nil, [])
  | .sl l => some (.sl l, [])
  | .fn f l => some (.fn f l, [])
  | _ => none

def Env.views (e : Env) : List AV → Option (List AV × List Nat)
  | [] => some ([], [])
  | A :: l => match e.view1 A with
    | none => none
    | some (B, ks) => match e.views l with
      | none => none
      | some (l', ks') => some (B :: l', ks ++ ks')

/-- The cells of a value, seen from outside. -/
def Env.cells (e : Env) : AV → Option (List AV × List Nat)
  | .agg l => e.views l
  | .aggo j d g l => e.views (l.set j (.own d g))
  | A => e.views [A]

def AV.norm : AV → AV
  | .nil => .sl []
  | A => A

/-- An argument. -/
def Env.arg (e : Env) : AV → Option (AV × List Nat)
  | .agg l => match e.views l with
    | some (l', ks) => some (.agg (l'.map AV.norm), ks)
    | none => none
  | .aggo j d g l => match e.views (l.set j (.own d g)) with
    | some (l', ks) => some (.agg (l'.map AV.norm), ks)
    | none => none
  | A => match e.view1 A with
    | some (B, ks) => some (B.norm, ks)
    | none => none

def Env.args (e : Env) : List X → Option (List AV × List Nat)
  | [] => some ([], [])
  | x :: l => match e.arg (e.get x) with
    | none => none
    | some (B, ks) => match e.args l with
      | none => none
      | some (l', ks') => some (B :: l', ks ++ ks')

/-- The elements of a slice that is read. -/
def Env.elems (e : Env) : AV → Option (List (List AV) × List Nat)
  | .nil => some ([], [])
  | .sl l => some (l, [])
  | .own d g => match e.ok? d g with
    | some (.row _ _ _ l) => some (l, [d])
    | _ => none
  | _ => none

/-! ### Plain operations -/
def byteAt (s : ByteArray) (i : Nat) : Int := ((s.data.getD i 0).toNat : Int)

def binA (op : BinOp) : AV → AV → Option AV
  | .int k a, .int k' b =>
    match op with
    | .shl => if b < 0 then none else some (.int k (k.wrap (a * 2 ^ (min b.toNat k.bits))))
    | .shr => if b < 0 then none else some (.int k (a.fdiv (2 ^ (min b.toNat k.bits))))
    | .add => if k = k' then some (.int k (k.wrap (a + b))) else none
    | .sub => if k = k' then some (.int k (k.wrap (a - b))) else none
    | .mul => if k = k' then some (.int k (k.wrap (a * b))) else none
    | .quo => if k = k' then (if b = 0 then none else some (.int k (k.wrap (a.tdiv b)))) else none
    | .rem => if k = k' then (if b = 0 then none else some (.int k (a.tmod b))) else none
    | .and => if k = k' then some (.int k (k.wrap ((BitVec.ofInt k.bits a &&& BitVec.ofInt k.bits b).toNat))) else none
    | .or => if k = k' then some (.int k (k.wrap ((BitVec.ofInt k.bits a ||| BitVec.ofInt k.bits b).toNat))) else none
    | .xor => if k = k' then some (.int k (k.wrap ((BitVec.ofInt k.bits a ^^^ BitVec.ofInt k.bits b).toNat))) else none
    | .andNot => if k = k' then some (.int k (k.wrap ((BitVec.ofInt k.bits a &&& ~~~ BitVec.ofInt k.bits b).toNat))) else none
    | .eql => if k = k' then some (.bool (a == b)) else none
    | .neq => if k = k' then some (.bool (a != b)) else none
    | .lss => if k = k' then some (.bool (decide (a < b))) else none
    | .leq => if k = k' then some (.bool (decide (a ≤ b))) else none
    | .gtr => if k = k' then some (.bool (decide (a > b))) else none
    | .geq => if k = k' then some (.bool (decide (a ≥ b))) else none
  | .str a, .str b =>
    match op with
    | .add => if a.size + b.size ≤ 9223372036854775807 then some (.str (a ++ b)) else none
    | .eql => some (.bool (a.toList == b.toList))
    | .neq => some (.bool (!(a.toList == b.toList)))
    | .lss => some (.bool (Op.bytesLess a.toList b.toList))
    | .leq => some (.bool (Op.bytesLess a.toList b.toList || a.toList == b.toList))
    | .gtr => some (.bool (!(Op.bytesLess a.toList b.toList || a.toList == b.toList)))
    | .geq => some (.bool (!Op.bytesLess a.toList b.toList))
    | _ => none
  | _, _ => none

def unA (op : UnOp) : AV → Option AV
  | .int k n => match op with
    | .neg => some (.int k (k.wrap (0 - n)))
    | _ => none
  | .bool b => match op with
    | .not => some (.bool (!b))
    | _ => none
  | _ => none

/-- Are cells of these kinds the same? -/
def sameCells : List CK → List AV → List AV → Option Bool
  | [], [], [] => some true
  | .int :: ks, .int k a :: l, .int k' b :: m => if k = k' then (sameCells ks l m).map (fun r => a == b && r) else none
  | .bool :: ks, .bool a :: l, .bool b :: m => (sameCells ks l m).map (fun r => a == b && r)
  | .str :: ks, .str a :: l, .str b :: m => (sameCells ks l m).map (fun r => a.toList == b.toList && r)
  | _, _, _ => none

def mnxA (mx : Bool) : AV → AV → Option AV
  | .int k x, .int k' y => if k = k' then some (.int k (if mx then (if y > x then y else x) else (if y < x then y else x))) else none
  | _, _ => none

def bytesOf? : List (List AV) → Option (List UInt8)
  | [] => some []
  | [.int .u8 n] :: l => (bytesOf? l).map (UInt8.ofNat n.toNat :: ·)
  | _ => none

def byteCells (s : ByteArray) : List (List AV) := s.data.toList.map fun b => [AV.int .u8 b.toNat]

/-- Cells from an offset on are replaced. -/
def splice (l : List AV) (off : Nat) (m : List AV) : List AV := l.take off ++ m ++ l.drop (off + m.length)

def fill (e : Env) : List AV → List (Nat × Nat × X) → Option (List AV × List Nat)
  | z, [] => some (z, [])
  | z, (off, n, x) :: ps => match e.cells (e.get x) with
    | none => none
    | some (l, ks) => if l.length = n ∧ off + n ≤ z.length then
        match fill e (splice z off l) ps with
        | none => none
        | some (z', ks') => some (z', ks ++ ks')
      else none

def lits (e : Env) (c : Nat) : List X → Option (List (List AV) × List Nat)
  | [] => some ([], [])
  | x :: xs => match e.cells (e.get x) with
    | none => none
    | some (l, ks) => if l.length = c then
        match lits e c xs with
        | none => none
        | some (m, ks') => some (l :: m, ks ++ ks')
      else none

inductive Res where
  | val (A : AV)
  | mk (k : OK) (W : Option (Nat × List AV))

def intArg (n : Nat) : Option AV → Option Int
  | none => some n
  | some (.int _ i) => some i
  | _ => none

/-- What a map of bools holds at a key. -/
def mapHas : List (List AV) → ByteArray → Bool
  | [], _ => false
  | x :: l, s => match x with
    | [.str t, .bool b] => if (s.toList == t.toList) = true then b else mapHas l s
    | _ => mapHas l s

/-- An operation that doesn't write: what it gives, and which rows are read only from now on. -/
def act (R : Nat → List AV → Option AV) (e : Env) : O → Option (Res × List Nat)
  | .mv x => some (.val (e.get x), [])
  | .pick c a b => match e.get c with
    | .bool v => some (.val (if v then e.get a else e.get b), [])
    | _ => none
  | .box _ x => match e.cells (e.get x) with
    | some (l, ks) => some (.mk (.box l) none, ks)
    | none => none
  | .new _ z => some (.mk (.box z) none, [])
  | .bld z ps => match fill e z ps with
    | some (l, ks) => some (.val (.agg l), ks)
    | none => none
  | .lit _ c xs => match lits e c xs with
    | some (l, ks) => some (.val (.sl l), ks)
    | none => none
  | .ld none p => match e.get p with
    | .ptr d g off => match e.ok? d g with
      | some (.box l) => (l[off]?).map fun A => (.val A, [])
      | _ => none
    | .rp d g i j => match e.ok? d g with
      | some (.row _ _ _ l) => match (l.getD i [])[j]? with
        | some A => if A.pure = true then some (.val A, []) else none
        | none => none
      | _ => none
    | .el l => match l[0]? with
      | some A => if A.pure = true then some (.val A, []) else none
      | none => none
    | _ => none
  | .ld (some n) p => match e.get p with
    | .ptr d g off => match e.ok? d g with
      | some (.box l) => if off + n ≤ l.length then
          match e.views ((l.drop off).take n) with
          | some (m, ks) => some (.val (.agg m), ks)
          | none => none
        else none
      | _ => none
    | .rp d g i j => match e.ok? d g with
      | some (.row _ _ _ l) => if j + n ≤ (l.getD i []).length ∧ (((l.getD i []).drop j).take n).all AV.pure = true then some (.val (.agg (((l.getD i []).drop j).take n)), []) else none
      | _ => none
    | .el l => if n ≤ l.length ∧ (l.take n).all AV.pure = true then some (.val (.agg (l.take n)), []) else none
    | _ => none
  | .fa off n p => match e.get p with
    | .ptr d g o => match e.ok? d g with
      | some (.box _) => some (.val (.ptr d g (o + off)), [])
      | _ => none
    | .rp d g i j => match e.ok? d g with
      | some (.row ..) => some (.val (.rp d g i (j + off)), [])
      | _ => none
    | .el l => some (.val (.el ((l.drop off).take n)), [])
    | _ => none
  | .ia c x i => match e.get i with
    | .int _ n => match e.get x with
      | .sl l => if 0 ≤ n ∧ n < l.length then
          (if (l.getD n.toNat []).length = c then some (.val (.el (l.getD n.toNat [])), []) else none)
        else none
      | .own d g => match e.ok? d g with
        | some (.row _ c' _ l) => if 0 ≤ n ∧ n < l.length ∧ c' = c then some (.val (.rp d g n.toNat 0), []) else none
        | _ => none
      | _ => none
    | _ => none
  | .ix x i => match e.get x, e.get i with
    | .str s, .int _ n => if 0 ≤ n ∧ n < s.size then some (.val (.int .u8 (byteAt s n.toNat)), []) else none
    | _, _ => none
  | .subs x lo hi => match e.get x with
    | .str s => match intArg 0 (lo.map e.get), intArg s.size (hi.map e.get) with
      | some l, some h => if 0 ≤ l ∧ l ≤ h ∧ h ≤ s.size then some (.val (.str (s.extract l.toNat h.toNat)), []) else none
      | _, _ => none
    | _ => none
  | .sub c x lo hi => match e.elems (e.get x) with
    | some (m, ks) => match intArg 0 (lo.map e.get), intArg m.length (hi.map e.get) with
      | some l, some h => if 0 ≤ l ∧ l ≤ h ∧ h ≤ m.length ∧ m.all (fun y => y.length == c) = true then some (.val (.sl ((m.take h.toNat).drop l.toNat)), ks) else none
      | _, _ => none
    | none => none
  | .mk E c by_ z n => match e.get n with
    | .int _ m => if 0 ≤ m ∧ m * by_ ≤ 140737488355328 ∧ m ≤ 9223372036854775807 then some (.mk (.row E c 0 (List.replicate m.toNat z)) none, []) else none
    | _ => none
  | .bin op x y => match binA op (e.get x) (e.get y) with
    | some A => some (.val A, [])
    | none => none
  | .beq ne x y => match e.get x, e.get y with
    | .bool a, .bool b => some (.val (.bool (if ne then !(a == b) else a == b)), [])
    | _, _ => none
  | .eqs ne ks x y => match e.get x, e.get y with
    | .agg l, .agg m => match sameCells ks l m with
      | some r => some (.val (.bool (if ne then !r else r)), [])
      | none => none
    | _, _ => none
  | .un op x => match unA op (e.get x) with
    | some A => some (.val A, [])
    | none => none
  | .cvi k x => match e.get x with
    | .int _ n => some (.val (.int k (k.wrap n)), [])
    | _ => none
  | .cvs x => match e.get x with
    | .str s => some (.val (.str s), [])
    | _ => none
  | .cvsb x => match e.get x with
    | .str s => if s.size ≤ 140737488355328 then some (.val (.sl (byteCells s)), []) else none
    | _ => none
  | .cvbs x => match e.elems (e.get x) with
    | some (l, _) => match bytesOf? l with
      | some bs => some (.val (.str ⟨bs.toArray⟩), [])
      | none => none
    | none => none
  | .lens x => match e.get x with
    | .str s => some (.val (.int .i64 s.size), [])
    | _ => none
  | .len x => match e.elems (e.get x) with
    | some (l, _) => some (.val (.int .i64 l.length), [])
    | none => none
  | .mnx mx x y => match mnxA mx (e.get x) (e.get y) with
    | some A => some (.val A, [])
    | none => none
  | .ext x i => match e.get x with
    | .tup l => match l[i]? with
      | some A => if A.flat = true then some (.val A, []) else none
      | none => none
    | _ => none
  | .call f xs => match e.args xs with
    | some (as, ks) => match R f as with
      | some (.fr E c l) => some (.mk (.row E c 0 l) none, ks)
      | some (.fr1 j E c m l) => if j < l.length ∧ l.all AV.pure = true then some (.mk (.row E c 0 m) (some (j, l)), ks) else none
      | some A => if A.noRef = true then some (.val A, ks) else none
      | none => none
    | none => none
  | .bldo z ps j x => match e.get x with
    | .own d g => match e.ok? d g with
      | some (.row ..) => match fill e z ps with
        | some (l, ks) => if ks.contains d = true then none else if j < l.length then some (.val (.aggo j d g l), ks) else none
        | none => none
      | _ => none
    | _ => none
  | .clo f xs => match e.args xs with
    | some (as, ks) => some (.val (.fn f as), ks)
    | none => none
  | .calld x xs => match e.get x with
    | .fn f l => match e.args xs with
      | some (as, ks) => match R f (as ++ l) with
        | some (.fr E c m) => some (.mk (.row E c 0 m) none, ks)
        | some (.fr1 j E c m l') => if j < l'.length ∧ l'.all AV.pure = true then some (.mk (.row E c 0 m) (some (j, l')), ks) else none
        | some A => if A.noRef = true then some (.val A, ks) else none
        | none => none
      | none => none
    | _ => none
  | .nck x => match e.get x with
    | .ptr d g o => match e.ok? d g with
      | some (.box _) => some (.val (.ptr d g o), [])
      | _ => none
    | .rp d g i j => match e.ok? d g with
      | some (.row ..) => some (.val (.rp d g i j), [])
      | _ => none
    | .el l => some (.val (.el l), [])
    | _ => none
  | .lkp x k => match e.get x, e.get k with
    | .mp l, .str s => some (.val (.bool (mapHas l s)), [])
    | _, _ => none
  | .cpy E c by_ x => match e.elems (e.get x) with
    | some (m, ks) => if m.length * by_ ≤ 140737488355328 ∧ m.all (fun y => y.length == c) = true then some (.mk (.row E c 0 m) none, ks) else none
    | none => none
  | .st .. => none
  | .app .. => none
  | .apps .. => none

/-! ### Writing -/
def AObj.freeze (o : AObj) : AObj := match o.k with
  | .row E c _ l => ⟨o.gen, .row E c l.length l⟩
  | _ => o
def Env.freeze (e : Env) (ks : List Nat) : Env := { e with objs := ks.foldl (fun os d => os.modify d AObj.freeze) e.objs }
def Env.put (e : Env) (dst : Option Nat) (A : AV) : Env := match dst with
  | some d => { e with tmps := e.tmps.set d A }
  | none => e
def Env.gen (e : Env) (d : Nat) : Nat := match e.objs[d]? with
  | some o => o.gen
  | none => 0
def Env.setObj (e : Env) (d g : Nat) (k : OK) : Env := { e with objs := e.objs.set d ⟨g, k⟩ }
def OK.ref (k : OK) (d g : Nat) : AV := match k with
  | .row .. => .own d g
  | _ => .ptr d g 0

/-- What leads to what was made: the reference, or a struct with it. -/
def OK.refW (k : OK) (W : Option (Nat × List AV)) (d g : Nat) : AV := match W with
  | none => k.ref d g
  | some (j, l) => .aggo j d g l

def applyRes (e : Env) (dst : Option Nat) : Res → Option Env
  | .val A => some (e.put dst A)
  | .mk k W => match dst with
    | some d => if d < e.objs.length then some ((e.setObj d (e.gen d + 1) k).put dst (k.refW W d (e.gen d + 1))) else none
    | none => none

/-- May it stand in a variable of the function's own? -/
def Env.cellOk (e : Env) : AV → Bool
  | .own d g => match e.ok? d g with
    | some (.row ..) => true
    | _ => false
  | A => A.pure

def partsA : AV → List AV
  | .agg m => m
  | .aggo j d g l => l.set j (.own d g)
  | A => [A]

def storeA (e : Env) (n : Nat) (p x : AV) : Option Env :=
  match p with
  | .ptr d g off => match e.ok? d g with
    | some (.box l) =>
      if (partsA x).length = n ∧ off + n ≤ l.length ∧ (partsA x).all e.cellOk = true then some (e.setObj d g (.box (splice l off (partsA x)))) else none
    | _ => none
  | .rp d g i j => match e.cells x with
    | some (m, ks) => match (e.freeze ks).ok? d g with
      | some (.row E c f l) => if m.length = n ∧ f ≤ i ∧ i < l.length ∧ j + n ≤ (l.getD i []).length
          then some ((e.freeze ks).setObj d g (.row E c f (l.set i (splice (l.getD i []) j m)))) else none
      | _ => none
    | none => none
  | _ => none

def strElems : AV → Option (List (List AV) × List Nat)
  | .str t => some (byteCells t, [])
  | _ => none

def appendA (e : Env) (dst : Option Nat) (E c by_ : Nat) (s : AV) (x : Option (List (List AV) × List Nat)) : Option Env :=
  match x with
  | none => none
  | some (m, ks) =>
    match s with
    | .nil => match dst with
      | some d => if m.length * by_ ≤ 140737488355328 ∧ m.all (fun y => y.length == c) ∧ d < e.objs.length then
          some (((e.freeze ks).setObj d (e.gen d + 1) (.row E c 0 m)).put dst (.own d (e.gen d + 1))) else none
      | none => none
    | .own d g => match (e.freeze ks).ok? d g with
      | some (.row E' c' f l) => if E' = E ∧ c' = c ∧ (l.length + m.length) * by_ ≤ 140737488355328 ∧ m.all (fun y => y.length == c) then
          some (((e.freeze ks).setObj d (g + 1) (.row E c f (l ++ m))).put dst (.own d (g + 1))) else none
      | _ => none
    | _ => none

def evalO (R : Nat → List AV → Option AV) (e : Env) (dst : Option Nat) : O → Option Env
  | .st n p x => storeA e n (e.get p) (e.get x)
  | .app E c by_ s x => appendA e dst E c by_ (e.get s) (e.elems (e.get x))
  | .apps E s x => appendA e dst E 1 1 (e.get s) (strElems (e.get x))
  | o => match act R e o with
    | some (r, ks) => applyRes (e.freeze ks) dst r
    | none => none

def evalOP (R : Nat → List AV → Option AV) (e : Env) (o : OP) : Option Env :=
  match o.guard with
  | none => evalO R e o.dst o.op
  | some (t, want) => match e.tmps.getD t .unk with
    | .bool b => if b = want then evalO R e o.dst o.op else some (e.put o.dst .und)
    | .und => some (e.put o.dst .und)
    | _ => none

def evalOps (R : Nat → List AV → Option AV) : List OP → Env → Option Env
  | [], e => some e
  | o :: os, e => match evalOP R e o with
    | some e' => evalOps R os e'
    | none => none

def AObj.kill (o : AObj) : AObj := ⟨o.gen + 1, .dead⟩
def Env.kill (e : Env) (ks : List Nat) : Env := { e with objs := ks.foldl (fun os d => os.modify d AObj.kill) e.objs }

/-- The keys that a value leads to. -/
def AV.key : AV → List Nat
  | .own d _ => [d]
  | .ptr d _ _ => [d]
  | .rp d _ _ _ => [d]
  | .aggo _ d _ _ => [d]
  | _ => []
/-- Turns are told from 0 on again. -/
def Env.ren (e : Env) : AV → AV
  | .own d g => if e.gen d = g then .own d 0 else .unk
  | .ptr d g off => if e.gen d = g then .ptr d 0 off else .unk
  | .rp d g i j => if e.gen d = g then .rp d 0 i j else .unk
  | .aggo j d g l => if e.gen d = g then .aggo j d 0 l else .unk
  | A => A
def OK.ren (e : Env) : OK → OK
  | .box l => .box (l.map e.ren)
  | k => k
def OK.keys : OK → List Nat
  | .box l => l.flatMap AV.key
  | _ => []
def Env.kind (e : Env) (d : Nat) : OK := match e.objs[d]? with
  | some o => o.k
  | none => .dead
def keepT (e : Env) (keep : List Nat) : Nat → List AV → List AV
  | _, [] => []
  | i, A :: l => (if keep.contains i = true then e.ren A else .unk) :: keepT e keep (i + 1) l
def keepO (e : Env) (ks : List Nat) : Nat → List AObj → List AObj
  | _, [] => []
  | i, o :: l => (if ks.contains i = true then ⟨0, o.k.ren e⟩ else ⟨0, .dead⟩) :: keepO e ks (i + 1) l
/-- Only these temporaries are kept, and what they lead to. -/
def Env.norm (e : Env) (keep : List Nat) : Env :=
  let ts := keepT e keep 0 e.tmps
  let ks := ts.flatMap AV.key
  ⟨ts, keepO e (ks ++ ks.flatMap fun d => (e.kind d).keys) 0 e.objs⟩

/-- It leads into this box, if to one at all. -/
def rootIs (d : Nat) : AV → Bool
  | .ptr d' _ _ => d' == d
  | .rp .. => Nat.ble 1000000 d
  | _ => true
/-- Which slots lead where: asked ahead of a region. -/
def askedB (ρ : List (Nat × Nat)) (ν : List Nat) (e : Env) : Bool := ρ.all (fun p => rootIs p.2 (e.tmps.getD p.1 .unk)) && ν.all (fun t => (e.tmps.getD t .unk).flat)

def evalC (R : Nat → List AV → Option AV) (L : (Env → Option (Ex × Env)) → Env → Option (Ex × Env)) : C → Env → Option (Ex × Env)
  | .skip, e => some (.normal, e)
  | .reg ks ops, e => match evalOps R ops (e.kill ks) with
    | some e' => some (.normal, e')
    | none => none
  | .seq a b, e => match evalC R L a e with
    | some (.normal, e') => evalC R L b e'
    | r => r
  | .cond x a b, e => match e.get x with
    | .bool v => if v then evalC R L a e else evalC R L b e
    | _ => none
  | .blk id a, e => match evalC R L a e with
    | some (.exit id', e') => if id' = id then some (.normal, e') else some (.exit id', e')
    | r => r
  | .loop a, e => L (evalC R L a) e
  | .exit id, e => some (.exit id, e)
  | .ret, e => some (.ret, e)
  | .clr keep, e => some (.normal, e.norm keep)
  | .chk ρ ν a, e => if askedB ρ ν e = true then evalC R L a e else none

/-! ### Functions -/
def F.start (f : F) (as : List AV) : Env := ⟨as ++ List.replicate (f.nt - as.length) .unk, List.replicate f.nt ⟨0, .dead⟩⟩

def resT (e : Env) : RV → Option (AV × List Nat)
  | .tmp t => e.arg (e.tmps.getD t .unk)
  | .tsl t _ _ => e.arg (e.tmps.getD t .unk)
  | .cell t n => match e.tmps.getD t .unk with
    | .ptr d g off => match e.ok? d g with
      | some (.box l) => if off + n ≤ l.length then
          match e.views ((l.drop off).take n) with
          | some (m, ks) => some (.agg (m.map AV.norm), ks)
          | none => none
        else none
      | _ => none
    | _ => none
  | .cell1 t => match e.tmps.getD t .unk with
    | .ptr d g off => match e.ok? d g with
      | some (.box l) => match l[off]? with
        | some A => match e.view1 A with
          | some (B, ks) => some (B.norm, ks)
          | none => none
        | none => none
      | _ => none
    | _ => none
  | .cellf .. => none

/-- A struct in a variable, one of whose cells is a row that is handed out. -/
def resF (e : Env) (t n j E c : Nat) : Option AV := match e.tmps.getD t .unk with
  | .ptr d g off => match e.ok? d g with
    | some (.box l) => if off + n ≤ l.length ∧ j < n then
        match l.getD (off + j) .unk with
        | .own d' g' => match e.ok? d' g' with
          | some (.row E' c' f m) => if E' = E ∧ c' = c ∧ f = 0 then
              match e.views (((l.drop off).take n).set j .nil) with
              | some (m', ks) => if ks.contains d' = true then none else some (.fr1 j E c m (m'.map AV.norm))
              | none => none
            else none
          | _ => none
        | _ => none
      else none
    | _ => none
  | _ => none

def resTs (e : Env) : List RV → Option (List AV)
  | [] => some []
  | r :: rs => match resT e r with
    | none => none
    | some (A, _) => match resTs e rs with
      | none => none
      | some l => some (A :: l)

def results (e : Env) : List RV → Option AV
  | [.tsl t E c] => match e.tmps.getD t .unk with
    | .nil => some (.fr E c [])
    | .own d g => match e.ok? d g with
      | some (.row E' c' f l) => if E' = E ∧ c' = c ∧ f = 0 then some (.fr E c l) else some (.sl l)
      | _ => none
    | .sl l => some (.sl l)
    | _ => none
  | [.cellf t n j E c] => resF e t n j E c
  | [r] => match resT e r with
    | some (A, _) => some A
    | none => none
  | rs => match resTs e rs with
    | some l => some (.tup l)
    | none => none

def evalF (R : Nat → List AV → Option AV) (L : (Env → Option (Ex × Env)) → Env → Option (Ex × Env)) (f : F) (as : List AV) : Option AV :=
  if as.length = f.np ∧ f.np ≤ f.nt then
    match evalC R L f.body (f.start as) with
    | some (.normal, e) => results e f.res
    | some (.ret, e) => results e f.res
    | _ => none
  else none

def loopN (b : Env → Option (Ex × Env)) : Nat → Env → Option (Ex × Env)
  | 0, _ => none
  | n + 1, e => match b e with
    | some (.normal, e') => loopN b n e'
    | r => r

/-- With so many rounds. 'T': the functions told by their code; 'S': those told otherwise. -/
def runK (T : Nat → Option F) (S : Nat → List AV → Option AV) : Nat → Nat → List AV → Option AV
  | 0, _, _ => none
  | n + 1, f, as => match T f with
    | some F => evalF (runK T S n) (fun b e => loopN b n e) F as
    | none => S f as

end Go.Bv
