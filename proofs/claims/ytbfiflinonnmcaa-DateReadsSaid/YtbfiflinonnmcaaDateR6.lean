/- A walk over the reference's number. -/
import Derived.Test.YtbfiflinonnmcaaDateR5
namespace Go.Proofs.Ytbfiflinonnmcaa
open Go.RowKit
attribute [local go_sem] Oper.semAt_some

/-- the value of a string of digits -/
def valD (l : List UInt8) : Int := l.foldl (fun n b => 10 * n + ((b.toNat : Int) - 48)) 0
theorem valD_snoc (l : List UInt8) (b : UInt8) : valD (l ++ [b]) = 10 * valD l + ((b.toNat : Int) - 48) := by simp [valD]
theorem isDig_iff (b : UInt8) : isDig b = true ↔ 48 ≤ b.toNat ∧ b.toNat ≤ 57 := by simp [isDig]
theorem takeb_snoc {l : List UInt8} {k : Nat} {x : UInt8} (h : k < l.length) (hx : l[k] = x) : l.take (k + 1) = l.take k ++ [x] := by
  rw [← List.take_append_getElem h, hx]
def numV (l : List UInt8) : Int := if l.all isDig then valD l else 0
def numOk (l : List UInt8) : Bool := l.all isDig && decide (0 < l.length)
theorem all_false {l : List UInt8} {b : UInt8} (hb : b ∈ l) (h : isDig b = false) : l.all isDig = false := by
  rw [Bool.eq_false_iff]
  intro hh
  have := List.all_eq_true.1 hh b hb
  rw [h] at this; cases this

set_option maxHeartbeats 2000000 in
theorem refnumber_any (l : List UInt8) (w : World) (h4 : l.length ≤ 4) :
    Calls Try.prog 50 #[Str l] w fun e w' => e = .returned (.tuple #[.int .i64 (numV l), .bool (numOk l)]) ∧ w = w' := by
  have hss : (⟨l.toArray⟩ : ByteArray).size = l.length := by simp [ByteArray.size]
  go_enter Try.func50, Try.ntmps50
  go_wp2_with fail
  go_loop [4, 5] (fun v i => ∃ (k : Nat) (n : Int), k ≤ l.length ∧ v = .int .i64 n ∧ i = .int .i64 k ∧ n = valD (l.take k) ∧ (l.take k).all isDig = true ∧ 0 ≤ n ∧ n < 10 ^ k) (fun _ i => l.length - (intOf i).toNat)
  case atStart => exact ⟨0, 0, by omega, rfl, rfl, rfl, rfl, by omega, by decide⟩
  case round =>
    obtain ⟨k, n, hkl, rfl, rfl, hv, hd, hn0, hn1⟩ := hrel
    have hn9 : n ≤ 9999 := by
      rcases (show k = 0 ∨ k = 1 ∨ k = 2 ∨ k = 3 ∨ k = 4 by omega) with h | h | h | h | h <;> subst h <;> simp at hn1 <;> omega
    have Hn1 := Lib.hid hn1
    have Hv := Lib.hid hv
    have Hd := Lib.hid hd
    clear hn1 hv hd
    by_cases h1 : k < l.length
    · obtain ⟨x, hx⟩ : ∃ x : UInt8, l[k] = x := ⟨_, rfl⟩
      have hidx : ∀ (h : k < (⟨l.toArray⟩ : ByteArray).size), (⟨l.toArray⟩ : ByteArray)[k]'h = x := fun h => hx
      have hx8 : x.toNat < 256 := UInt8.toNat_lt x
      have Hmem : Hid (x ∈ l) := Lib.hid (by rw [← hx]; exact List.getElem_mem _)
      have Ht := Lib.hid (takeb_snoc h1 hx)
      clear hx
      by_cases h3 : (48 : Int) ≤ (x.toNat : Int)
      · by_cases h4' : (x.toNat : Int) ≤ 57
        · have Hst : Hid (10 * n + ((x.toNat : Int) - 48) = valD (l.take (k + 1)) ∧ (l.take (k + 1)).all isDig = true) := Lib.hid (by
            rw [Ht.out, valD_snoc, ← Hv.out]
            refine ⟨rfl, ?_⟩
            rw [List.all_append, Hd.out]
            simp [isDig]; omega)
          have hn999 : n ≤ 999 := by
            have := Hn1.out
            rcases (show k = 0 ∨ k = 1 ∨ k = 2 ∨ k = 3 by omega) with h | h | h | h <;> subst h <;> simp at this <;> omega
          go_wp2_with fail
          go_round
          case rel =>
            refine ⟨k + 1, 10 * n + (x.toNat - 48), by omega, ?_, by go_num, Hst.out.1, Hst.out.2, by omega, ?_⟩
            · first | rfl | (congr 1; omega)
            · have := Hn1.out; rw [Int.pow_succ]; omega
          case measure => simp [intOf]; omega
        · have hf : l.all isDig = false := all_false Hmem.out (by simp [isDig]; omega)
          have e1 : numV l = 0 := by simp only [numV, hf]; rfl
          have e2 : numOk l = false := by simp only [numOk, hf]; rfl
          have E1 := Lib.hid e1
          have E2 := Lib.hid e2
          clear e1 e2 hf
          go_wp2_with fail
          go_ret2
          exact ⟨by rw [E1.out, E2.out]; rfl, rfl⟩
      · have hf : l.all isDig = false := all_false Hmem.out (by simp [isDig]; omega)
        have e1 : numV l = 0 := by simp only [numV, hf]; rfl
        have e2 : numOk l = false := by simp only [numOk, hf]; rfl
        have E1 := Lib.hid e1
        have E2 := Lib.hid e2
        clear e1 e2 hf
        go_wp2_with fail
        go_ret2
        exact ⟨by rw [E1.out, E2.out]; rfl, rfl⟩
    · obtain rfl : k = l.length := by omega
      have hd := Hd.out
      have hv := Hv.out
      rw [List.take_length] at hd hv
      have e1 : numV l = n := by simp only [numV, hd]; exact hv.symm
      have e2 : numOk l = decide (0 < l.length) := by simp only [numOk, hd]; rfl
      have E1 := Lib.hid e1
      clear e1 hd hv h1
      by_cases hz : l.length = 0
      · have e3 : numOk l = false := by rw [e2, hz]; rfl
        have E3 := Lib.hid e3
        clear e2 e3
        go_wp2_with fail
        go_ret2
        exact ⟨by rw [E1.out, E3.out]; rfl, rfl⟩
      · have e3 : numOk l = true := by rw [e2]; simp; omega
        have E3 := Lib.hid e3
        clear e2 e3
        have hz' : (0 : Int) < l.length := by omega
        have hz5 : (decide ((l.length : Int) < 5)) = true := by simp; omega
        go_wp2_with fail
        go_ret2
        exact ⟨by rw [E1.out, E3.out]; rfl, rfl⟩
end Go.Proofs.Ytbfiflinonnmcaa
