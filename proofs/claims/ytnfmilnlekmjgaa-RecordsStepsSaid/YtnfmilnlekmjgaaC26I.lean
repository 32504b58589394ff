/- BY VALUE, chapter 26: what the loops share. -/
import Derived.Test.YtnfmilnlekmjgaaC26C
import Derived.Test.YtnfmilnlekmjgaaBvSim2
set_option linter.unusedVariables false
namespace Go.Bv
theorem idx {i n : Nat} (h : i < n) (hn : n ≤ 4611686018427387904) : ((0 ≤ (i : Int)) = True) ∧ (((i : Int) < (n : Int)) = True) ∧ ((i : Int).toNat = i) ∧ IntKind.wrap .i64 ((i : Int) + 1) = ((i + 1 : Nat) : Int) := by
  refine ⟨by simp, by simp; omega, by omega, ?_⟩
  rw [wrap_i64 (by omega) (by omega)]; omega
theorem idxEnd {i n : Nat} (h : n ≤ i) : (((i : Int) < (n : Int)) = False) := by simp; omega
theorem pow10_eq (n : Nat) : pow10 n = 10 ^ n := by
  induction n with
  | zero => rfl
  | succ n ih => simp only [pow10, ih]; omega
theorem pow10_le {n m : Nat} (h : n ≤ m) : pow10 n ≤ pow10 m := by
  induction h with
  | refl => exact Int.le_refl _
  | step _ ih =>
    rename_i k _
    have h0 : 0 < pow10 k := by rw [pow10_eq]; exact Int.pow_pos (by omega)
    simp only [pow10]; omega
theorem pow10_range {n : Nat} (h : n ≤ 18) : 1 ≤ pow10 n ∧ pow10 n ≤ 1000000000000000000 := by
  have h1 := pow10_le (Nat.zero_le n)
  have h2 := pow10_le h
  exact ⟨h1, h2⟩
/-- ten to the power of n, n cut at 18 -/
def powT (n : Int) : Int := pow10 (if 18 < n then 18 else n).toNat
theorem powT_range (n : Int) : 1 ≤ powT n ∧ powT n ≤ 1000000000000000000 := by
  unfold powT
  exact pow10_range (by split <;> omega)
structure Val where
  n : Int
  s : ByteArray
def encV (v : Val) : List AV := [.int .i64 v.n, .str v.s]
instance : Inhabited Val := ⟨⟨0, bs []⟩⟩
def checkValue (t : Ty) (v : Val) : Int :=
  if (first [checkType t, cond (t.k == 4) 17] != 0) = true then first [checkType t, cond (t.k == 4) 17]
  else if (t.k == 0) = true then first [cond (v.n != 0) 5, cond ((v.s.size : Int) != t.l) 18]
  else first [cond (!(v.s.toList == (bs []).toList)) 5, cond (!(decide (-(powT t.l - 1) ≤ v.n) && decide (v.n ≤ powT t.l - 1))) 19]
def fieldsShort : List Fd → Bool
  | [] => true
  | k :: l => if (decide ((k.name.size : Int) > 100)) = true then false else fieldsShort l
def fewFile (fn n : ByteArray) (l : List Fd) (ks : List (ByteArray × Bool)) : Bool :=
  if (decide ((fn.size : Int) > 100) || decide ((n.size : Int) > 100) || decide ((l.length : Int) > 40) || decide ((ks.length : Int) > 40)) = true then false else (fieldsShort l && keyShort ks)
def u8s (l : List Int) : List (List AV) := l.map fun x => [.int .u8 x]
theorem u8s_len (l : List Int) : (u8s l).length = l.length := by simp [u8s]
theorem u8s_app (l m : List Int) : u8s (l ++ m) = u8s l ++ u8s m := by simp [u8s]
theorem ints_app (l m : List Int) : ints (l ++ m) = ints l ++ ints m := by simp [ints]
/-- A byte of a string, and its halves. -/
def bt (s : ByteArray) (i : Nat) : Int := byteAt s i
def hi (c : Int) : Int := c.fdiv 16
def lo (c : Int) : Int := IntKind.wrap .u8 ((BitVec.ofInt 8 c &&& 15#8).toNat : Int)
def packD (s : ByteArray) : Nat → List Int
  | 0 => []
  | i + 1 => packD s i ++ [hi (byteAt s i), lo (byteAt s i)]
def packA : Nat → List Int
  | 0 => []
  | i + 1 => packA i ++ [(i : Int), (i : Int)]
def zoneD (s : ByteArray) : Nat → List Int
  | 0 => []
  | i + 1 => zoneD s i ++ [lo (byteAt s i)]
def zoneA : Nat → List Int
  | 0 => []
  | i + 1 => zoneA i ++ [(i : Int)]
theorem packD_len (s : ByteArray) (i : Nat) : (packD s i).length = 2 * i := by
  induction i with
  | zero => rfl
  | succ i ih => simp [packD, ih]; omega
theorem packA_len (i : Nat) : (packA i).length = 2 * i := by
  induction i with
  | zero => rfl
  | succ i ih => simp [packA, ih]; omega
theorem zoneD_len (s : ByteArray) (i : Nat) : (zoneD s i).length = i := by
  induction i with
  | zero => rfl
  | succ i ih => simp [zoneD, ih]
theorem zoneA_len (i : Nat) : (zoneA i).length = i := by
  induction i with
  | zero => rfl
  | succ i ih => simp [zoneA, ih]
end Go.Bv
