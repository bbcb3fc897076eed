/- A mask of an int: its bounds. Conditions: those of the theorem. -/
import Derived.WalkKit
import Derived.Laws.BitsLemmas
namespace Go.Proofs.Ytbfiflinonnmcaa

theorem mask_bd (x m : Int) (h0 : 0 ≤ m) (h1 : m ≤ 9223372036854775807) : 0 ≤ bits .and .i64 x m ∧ bits .and .i64 x m ≤ m := by
  obtain ⟨b, rfl⟩ := Int.eq_ofNat_of_zero_le h0
  have hb : b % 18446744073709551616 = b := Nat.mod_eq_of_lt (by omega)
  have hle : (BitVec.ofInt 64 x).toNat &&& b ≤ b := Nat.and_le_right
  have e : bits .and .i64 x (b : Int) = (((BitVec.ofInt 64 x).toNat &&& b : Nat) : Int) := by
    have t : (BitVec.ofInt 64 x &&& BitVec.ofNat 64 b).toNat = (BitVec.ofInt 64 x).toNat &&& b := by
      rw [BitVec.toNat_and, BitVec.toNat_ofNat]
      exact congrArg _ hb
    show IntKind.i64.wrap ((BitVec.ofInt 64 x &&& BitVec.ofInt 64 (b : Int)).toNat : Int) = _
    rw [IntKind.wrap_i64, BitVec.ofInt_natCast, t]
    omega
  rw [e]
  omega
end Go.Proofs.Ytbfiflinonnmcaa
