/- BY VALUE, chapter 26, the reference: Decode. -/
import Derived.Test.YtnfmilnlekmjgaaR5
import Derived.Test.YtnfmilnlekmjgaaR1
set_option linter.unusedSimpArgs false
set_option linter.unusedVariables false
namespace Go.Bv
variable {S : RT}
attribute [local congr] ite_congr congr_bindOps congr_bindC congr_andThen congr_orNone congr_onBool congr_onEff congr_headC
set_option maxRecDepth 100000
set_option maxHeartbeats 40000000
theorem wrap_mod (n : Int) : IntKind.wrap .i64 n = if n % 18446744073709551616 ≥ 9223372036854775808 then n % 18446744073709551616 - 18446744073709551616 else n % 18446744073709551616 := by
  unfold IntKind.wrap
  have h1 : (2 : Int) ^ IntKind.bits .i64 = 18446744073709551616 := by decide
  have h2 : (2 : Int) ^ (IntKind.bits .i64 - 1) = 9223372036854775808 := by decide
  simp only [h1, h2]
  simp [IntKind.signed]
theorem or_byte (a : Int) (c : Nat) (h1 : -36028797018963968 ≤ a) (h2 : a ≤ 36028797018963967) (hc : c < 256) : binStep a (c : Int) = a * 256 + c := by
  unfold binStep
  rw [wrap_i64 (n := a * 256) (by omega) (by omega), wrap_i64 (n := (c : Int)) (by omega) (by omega)]
  have e : IntKind.bits .i64 = 64 := rfl
  rw [e]
  have hx : (BitVec.ofInt 64 (a * 256)).toNat = ((a * 256) % 18446744073709551616).toNat := by simp [BitVec.toNat_ofInt]
  have hy : (BitVec.ofInt 64 (c : Int)).toNat = c := by
    have hp : ((2 ^ 64 : Nat) : Int) = 18446744073709551616 := by decide
    rw [BitVec.toNat_ofInt, hp, Int.emod_eq_of_lt (by omega) (by omega)]; simp
  have hk : ((a * 256) % 18446744073709551616).toNat = (((a * 256) % 18446744073709551616).toNat / 256) <<< 8 := by rw [Nat.shiftLeft_eq]; omega
  rw [BitVec.toNat_or, hx, hy, hk, ← Nat.shiftLeft_add_eq_or_of_lt (by omega), ← hk, wrap_mod]
  omega
theorem i8_byte (n : Nat) (h : n < 256) : IntKind.wrap .i8 (n : Int) = if (n : Int) ≥ 128 then (n : Int) - 256 else n := by
  have key : ∀ n : Fin 256, IntKind.wrap .i8 ((n.val : Nat) : Int) = if ((n.val : Nat) : Int) ≥ 128 then ((n.val : Nat) : Int) - 256 else ((n.val : Nat) : Int) := by decide +kernel
  exact key ⟨n, h⟩
theorem tail_eq (s : ByteArray) : (s.extract 1 s.size).data.toList = s.data.toList.drop 1 := by
  have h : s.data.toList.length = s.size := by simp
  rw [ByteArray.data_extract, Array.toList_extract, List.extract]
  exact List.take_of_length_le (by simp)
theorem at0_eq (s : ByteArray) : byteAt s 0 = ((s.data.toList.getD 0 0).toNat : Int) := by simp [byteAt]
theorem binN2 (s : ByteArray) (h : s.size = 2) : binN s = bigGo s.data.toList 0 - (if byteAt s 0 ≥ 128 then 65536 else 0) := by
  unfold binN
  rw [tail_eq, at0_eq]
  have hl : s.data.toList.length = 2 := by simpa using h
  obtain ⟨x, y, hxy⟩ : ∃ x y, s.data.toList = [x, y] := by
    match hh : s.data.toList, hl with
    | [x, y], _ => exact ⟨x, y, rfl⟩
  rw [hxy]
  have hx := x.toNat_lt
  have hy := y.toNat_lt
  simp only [List.getD_cons_zero, List.drop_succ_cons, List.drop_zero, binGo, bigGo, bigStep]
  rw [i8_byte _ hx]
  have e1 : IntKind.wrap .i64 (0 * 256) = 0 := rfl
  rw [e1, Int.zero_add, wrap_i64 (n := (x.toNat : Int)) (by omega) (by omega), wrap_i64 (n := (x.toNat : Int)) (by omega) (by omega), wrap_i64 (n := (y.toNat : Int)) (by omega) (by omega), wrap_i64 (n := (x.toNat : Int) * 256) (by omega) (by omega), wrap_i64 (n := (x.toNat : Int) * 256 + y.toNat) (by omega) (by omega)]
  split
  · rw [wrap_i64 (by omega) (by omega), or_byte _ _ (by omega) (by omega) (by omega)]; omega
  · rw [wrap_i64 (by omega) (by omega), or_byte _ _ (by omega) (by omega) (by omega)]; omega
theorem bigStep_eq (n : Int) (c : UInt8) (h0 : 0 ≤ n) (h : n ≤ 36028797018963966) : bigStep n (c.toNat : Int) = n * 256 + c.toNat := by
  have hc := c.toNat_lt
  unfold bigStep
  rw [wrap_i64 (n := n * 256) (by omega) (by omega), wrap_i64 (n := (c.toNat : Int)) (by omega) (by omega), wrap_i64 (by omega) (by omega)]
theorem binStep_eq (n : Int) (c : UInt8) (h0 : -36028797018963966 ≤ n) (h : n ≤ 36028797018963966) : binStep n (c.toNat : Int) = n * 256 + c.toNat := or_byte n _ (by omega) (by omega) c.toNat_lt
theorem binN4 (s : ByteArray) (h : s.size = 4) : binN s = bigGo s.data.toList 0 - (if byteAt s 0 ≥ 128 then 4294967296 else 0) := by
  unfold binN
  rw [tail_eq, at0_eq]
  have hl : s.data.toList.length = 4 := by simpa using h
  obtain ⟨x, y, z, u, hxy⟩ : ∃ x y z u, s.data.toList = [x, y, z, u] := by
    match hh : s.data.toList, hl with
    | [x, y, z, u], _ => exact ⟨x, y, z, u, rfl⟩
  rw [hxy]
  have hx := x.toNat_lt
  have hy := y.toNat_lt
  have hz := z.toNat_lt
  have hu := u.toNat_lt
  simp only [List.getD_cons_zero, List.drop_succ_cons, List.drop_zero, binGo, bigGo]
  rw [i8_byte _ hx, bigStep_eq 0 x (by omega) (by omega), bigStep_eq _ y (by omega) (by omega), bigStep_eq _ z (by omega) (by omega), bigStep_eq _ u (by omega) (by omega)]
  split
  · rw [wrap_i64 (by omega) (by omega), binStep_eq _ y (by omega) (by omega), binStep_eq _ z (by omega) (by omega), binStep_eq _ u (by omega) (by omega)]; omega
  · rw [wrap_i64 (by omega) (by omega), binStep_eq _ y (by omega) (by omega), binStep_eq _ z (by omega) (by omega), binStep_eq _ u (by omega) (by omega)]; omega
theorem big_range2 (s : ByteArray) (h : s.size = 2) : 0 ≤ bigGo s.data.toList 0 ∧ bigGo s.data.toList 0 ≤ 65535 := by
  have hl : s.data.toList.length = 2 := by simpa using h
  obtain ⟨x, y, hxy⟩ : ∃ x y, s.data.toList = [x, y] := by
    match hh : s.data.toList, hl with
    | [x, y], _ => exact ⟨x, y, rfl⟩
  rw [hxy]
  have hx := x.toNat_lt
  have hy := y.toNat_lt
  simp only [bigGo]
  rw [bigStep_eq 0 x (by omega) (by omega), bigStep_eq _ y (by omega) (by omega)]
  omega
theorem big_range4 (s : ByteArray) (h : s.size = 4) : 0 ≤ bigGo s.data.toList 0 ∧ bigGo s.data.toList 0 ≤ 4294967295 := by
  have hl : s.data.toList.length = 4 := by simpa using h
  obtain ⟨x, y, z, u, hxy⟩ : ∃ x y z u, s.data.toList = [x, y, z, u] := by
    match hh : s.data.toList, hl with
    | [x, y, z, u], _ => exact ⟨x, y, z, u, rfl⟩
  rw [hxy]
  have hx := x.toNat_lt
  have hy := y.toNat_lt
  have hz := z.toNat_lt
  have hu := u.toNat_lt
  simp only [bigGo]
  rw [bigStep_eq 0 x (by omega) (by omega), bigStep_eq _ y (by omega) (by omega), bigStep_eq _ z (by omega) (by omega), bigStep_eq _ u (by omega) (by omega)]
  omega
end Go.Bv
