/- BY VALUE, part 5: from the loaded code to the code that the evaluator reads. -/
import Derived.Test.YtnfmilnlekmjgaaBvCore
import GoSem.Core.Region
import GoSem.Core.Layout
import GoSem.Op.Equal
import GoSem.Instr.Build
namespace Go.Bv

def avOf : Value → Option AV
  | .int k n => some (.int k n)
  | .bool b => some (.bool b)
  | .string s => some (.str s)
  | .slice none 0 0 => some .nil
  | _ => none
def avsOf : List Value → Option (List AV)
  | [] => some []
  | v :: l => match avOf v, avsOf l with
    | some A, some m => some (A :: m)
    | _, _ => none

def compX : Operand → Option X
  | .tmp t => some (.t t)
  | .const v => (avOf v).map .c
  | .func f => some (.c (.fn f []))
  | _ => none
def compXo : Option Operand → Option (Option X)
  | none => some none
  | some l => (compX l).map some
def compXs : List Operand → Option (List X)
  | [] => some []
  | x :: l => match compX x, compXs l with
    | some y, some m => some (y :: m)
    | _, _ => none

def sameOp : Operand → Operand → Bool
  | .tmp i, .tmp j => i == j
  | .const (.int k a), .const (.int k' b) => a == b && k == k'
  | _, _ => false

section
variable (P : Program)

/-- A type's zero cells, how many they are, and its bytes. -/
def zeroOf (t : TypeId) : Option (List AV × Nat × Nat) :=
  match P.info? t with
  | some i => match i.zero with
    | some z => match avsOf z.cells.toList with
      | some l => if i.size = l.length then some (l, i.size, i.bytes) else none
      | none => none
    | none => none
  | none => none

def isU8 (t : TypeId) : Bool := match P.underlying t with
  | some (.int .u8) => true
  | _ => false
def isStr (t : TypeId) : Bool := match P.underlying t with
  | some .string => true
  | _ => false

def sizeOf? (t : TypeId) : Option Nat := (P.info? t).map (·.size)

def partsOf (places : List (Nat × Nat)) : List (Nat × Operand) → Option (List (Nat × Nat × X))
  | [] => some []
  | (i, x) :: ps => match places[i]?, compX x, partsOf places ps with
    | some (off, n), some y, some m => some ((off, n, y) :: m)
    | _, _, _ => none

/-- The kinds of the cells of a struct that is made of whole numbers, bools and strings alone, however deep. -/
def fieldsK (rec : TypeId → Option (List CK)) : List Field → Nat → Option (List CK)
  | [], _ => some []
  | f :: fs, n => if f.name ≠ "_" ∧ f.offset = n then
      match rec f.type with
      | some ks => match fieldsK rec fs (n + ks.length) with
        | some ks' => some (ks ++ ks')
        | none => none
      | none => none
    else none
def plainT : Nat → TypeId → Option (List CK)
  | 0, _ => none
  | d + 1, t => match P.underlying t with
    | some (.int _) => some [.int]
    | some .bool => some [.bool]
    | some .string => some [.str]
    | some (.struct fs) => if P.stoodInHeld t = false then
        match fieldsK (plainT d) fs.toList 0 with
        | some ks => if sizeOf? P t = some ks.length then some ks else none
        | none => none
      else none
    | _ => none

/-- Composite literals whose last part is a row that stays the function's own. -/
def freshPos (pos : String) : Bool := pos == "base.go:289"

def compO (o : Oper) : Option O :=
  match o.op with
  | .move x | .assign x => (compX x).map .mv
  | .pick c a b => match compX c, compX a, compX b with
    | some c, some a, some b => some (.pick c a b)
    | _, _, _ => none
  | .box T x => (compX x).map (.box T)
  | .alloc T => (zeroOf P T).map fun z => .new T z.1
  | .build t parts => match P.underlying t, zeroOf P t with
    | some (.struct fields), some z => match fields.toList.mapM (fun f => (P.info? f.type).map fun i => (f.offset, i.size)) with
      | some places => match partsOf places parts.toList with
        | some qs => if freshPos o.pos = true then (match qs.getLast? with
            | some q => if q.2.1 = 1 then some (.bldo z.1 qs.dropLast q.1 q.2.2) else none
            | none => none) else some (.bld z.1 qs)
        | none => none
      | none => none
    | _, _ => none
  | .buildSlice t len parts => match P.underlying t with
    | some (.slice e) => match zeroOf P e, compXs (parts.toList.map (·.2)) with
      | some z, some xs => if parts.toList.map (·.1) = List.range len ∧ 0 < z.2.1 ∧ len * z.2.1 ≤ 16777216 then some (.lit e z.2.1 xs) else none
      | _, _ => none
    | _ => none
  | .load t x => match compX x, P.underlying t, sizeOf? P t with
    | some y, some d, some n => match d with
      | .struct _ => some (.ld (some n) y)
      | .array _ _ => some (.ld (some n) y)
      | _ => some (.ld none y)
    | _, _, _ => none
  | .store t a x => if o.dst = none then (match compX a, compX x, sizeOf? P t with
    | some p, some y, some n => some (.st n p y)
    | _, _, _ => none) else none
  | .fieldAddr s x f => match compX x, P.underlying s with
    | some y, some (.struct fields) => match fields[f]? with
      | some fd => match sizeOf? P fd.type with
        | some n => if n ≠ 0 then some (.fa fd.offset n y) else none
        | none => none
      | none => none
    | _, _ => none
  | .indexAddr t x i => match compX x, compX i, P.underlying t with
    | some y, some j, some (.slice e) => (sizeOf? P e).map fun c => .ia c y j
    | _, _, _ => none
  | .lookup t x k false => match compX x, compX k, P.underlying t with
    | some y, some j, some (.map kt et) => match P.underlying kt, P.info? et with
      | some .string, some i => match i.zero with
        | some (.bool false) => some (.lkp y j)
        | _ => none
      | _, _ => none
    | _, _, _ => none
  | .index t x i => match compX x, compX i, P.underlying t with
    | some y, some j, some .string => some (.ix y j)
    | _, _, _ => none
  | .slice t x lo hi none => match compX x, P.underlying t, compXo lo, compXo hi with
    | some y, some d, some l, some h => match d with
      | .string => some (.subs y l h)
      | .slice e => (sizeOf? P e).map fun c => .sub c y l h
      | _ => none
    | _, _, _, _ => none
  | .makeSlice t l c => match P.underlying t, compX l with
    | some (.slice e), some n => match zeroOf P e with
      | some z => if sameOp l c = true then some (.mk e z.2.1 z.2.2 z.1 n) else none
      | none => none
    | _, _ => none
  | .binOp op T x y _ => match compX x, compX y, P.underlying T with
    | some a, some b, some d => match d with
      | .int _ => some (.bin op a b)
      | .string => some (.bin op a b)
      | .bool => if op = .eql then some (.beq false a b) else if op = .neq then some (.beq true a b) else none
      | .struct _ => if P.eqGuardType P.depth T = false then
          (match plainT P 20 T with
          | some ks => if op = .eql then some (.eqs false ks a b) else if op = .neq then some (.eqs true ks a b) else none
          | none => none) else none
      | _ => none
    | _, _, _ => none
  | .unOp op _ x => (compX x).map (.un op)
  | .convert src dst x => match compX x, P.underlying src, P.underlying dst with
    | some y, some s, some d => match d, s with
      | .int k, .int _ => some (.cvi k y)
      | .string, .string => some (.cvs y)
      | .slice e, .string => if isU8 P e = true then some (.cvsb y) else none
      | .string, .slice e => if isU8 P e = true then some (.cvbs y) else none
      | _, _ => none
    | _, _, _ => none
  | .extract t i => (compX t).map fun y => .ext y i
  | .makeFunc fn first caps => match fn with
    | .func f => if first.size = 0 then (compXs caps.toList).map (.clo f) else none
    | _ => none
  | .nilCheck x => (compX x).map .nck
  | .call c => match c.callee with
    | .value (.func f) => match P.funcs[f]?, compXs c.args.toList with
      | some fn, some xs => if (fn.name == "runtime.NumGoroutine") = false ∧ fn.body.isSome = true then some (.call f xs) else none
      | _, _ => none
    | .value (.tmp t) => (compXs c.args.toList).map (.calld (.t t))
    | .builtin .len => match c.args.toList, c.argTypes.toList with
      | [x], [t] => match compX x, P.underlying t with
        | some y, some .string => some (.lens y)
        | some y, some (.slice _) => some (.len y)
        | _, _ => none
      | _, _ => none
    | .builtin .append => match c.args.toList, c.argTypes.toList with
      | [s, x], [t, u] => match compX s, compX x, P.underlying t with
        | some s, some x, some (.slice e) => match zeroOf P e with
          | some z => if 0 < z.2.1 ∧ 0 < z.2.2 ∧ u = t then some (match s with | .c .nil => .cpy e z.2.1 z.2.2 x | s => .app e z.2.1 z.2.2 s x) else none
          | none => none
        | _, _, _ => none
      | _, _ => none
    | .builtin .max => match c.args.toList with
      | [x, y] => match compX x, compX y with
        | some x, some y => some (.mnx true x y)
        | _, _ => none
      | _ => none
    | .builtin .min => match c.args.toList with
      | [x, y] => match compX x, compX y with
        | some x, some y => some (.mnx false x y)
        | _, _ => none
      | _ => none
    | _ => none
  | _ => none

end
end Go.Bv
