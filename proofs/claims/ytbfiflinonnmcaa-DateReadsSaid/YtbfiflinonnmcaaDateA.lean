/- Walks over the calendar's functions on integers: leap years, lengths of months, valid dates, numbers of dates. Conditions: those that each theorem states. -/
import Derived.Test.YtbfiflinonnmcaaCal
import Derived.Test.YtbfiflinonnmcaaRows
import Derived.WalkKit
import Derived.WalkSpells
import Derived.WalkLawsBesides
import Derived.Lib.Hide
import Derived.Deep.QuietTactic
import Derived.BigQuiet
namespace Go.Proofs.Ytbfiflinonnmcaa
open Go.RowKit

theorem ret_int {k : IntKind} {a b : Int} (h : a = b) : Ending.returned (.int k a) = .returned (.int k b) := by rw [h]
theorem ret_bool {a b : Bool} (h : a = b) : Ending.returned (.bool a) = .returned (.bool b) := by rw [h]

set_option maxHeartbeats 400000 in
theorem leap_any (y : Int) (w : World) (h : 0 ≤ y) :
    Calls Try.prog 53 #[.int .i64 y] w fun e w' => e = .returned (.bool (Cal.leapB y)) ∧ w = w' := by
  by_cases h4 : y % 4 = 0
  · by_cases h100 : y % 100 = 0
    · by_cases h400 : y % 400 = 0
      · go_enter Try.func53, Try.ntmps53
        go_wp2
        go_ret
        exact ⟨by simp [Cal.leapB, *], rfl⟩
      · go_enter Try.func53, Try.ntmps53
        go_wp2
        go_ret
        exact ⟨by simp [Cal.leapB, *], rfl⟩
    · go_enter Try.func53, Try.ntmps53
      go_wp2
      go_ret
      exact ⟨by simp [Cal.leapB, *], rfl⟩
  · go_enter Try.func53, Try.ntmps53
    go_wp2
    go_ret
    exact ⟨by simp [Cal.leapB, *], rfl⟩

set_option maxHeartbeats 400000 in
theorem refLeap_any (y : Int) (w : World) (h : 0 ≤ y) :
    Calls Try.prog 52 #[.int .i64 y] w fun e w' => e = .returned (.bool (Cal.leapB y)) ∧ w = w' := by
  by_cases h4 : y % 4 = 0
  · by_cases h100 : y % 100 = 0
    · by_cases h400 : y % 400 = 0
      · go_enter Try.func52, Try.ntmps52
        go_wp2
        go_ret
        exact ⟨by simp [Cal.leapB, *], rfl⟩
      · go_enter Try.func52, Try.ntmps52
        go_wp2
        go_ret
        exact ⟨by simp [Cal.leapB, *], rfl⟩
    · go_enter Try.func52, Try.ntmps52
      go_wp2
      go_ret
      exact ⟨by simp [Cal.leapB, *], rfl⟩
  · go_enter Try.func52, Try.ntmps52
    go_wp2
    go_ret
    exact ⟨by simp [Cal.leapB, *], rfl⟩

theorem dim_feb (y : Int) : (Cal.leapB y = true → Cal.dim y 2 = 29) ∧ (Cal.leapB y = false → Cal.dim y 2 = 28) := by
  have := Cal.lp_leap y
  constructor <;> intro h <;> simp [h] at this <;> simp [Cal.dim, this]

set_option maxHeartbeats 1000000 in
theorem refDays_any (y m : Int) (w : World) (h : 0 ≤ y) :
    Calls Try.prog 38 #[.int .i64 y, .int .i64 m] w fun e w' => e = .returned (.int .i64 (Cal.dim y m)) ∧ w = w' := by
  by_cases h2 : m = 2
  · subst h2
    rcases Bool.eq_false_or_eq_true (Cal.leapB y) with hl | hl
    · have e := (dim_feb y).1 hl
      have He := Lib.hid e
      have Hl := Lib.hid hl
      clear e hl
      go_enter Try.func38, Try.ntmps38
      go_wp2_with (go_at_call 52; refine (refLeap_any _ _ h).mono ?_; rintro e w' ⟨rfl, rfl⟩; rw [Hl.out])
      go_ret
      exact ⟨ret_int He.out.symm, rfl⟩
    · have e := (dim_feb y).2 hl
      have He := Lib.hid e
      have Hl := Lib.hid hl
      clear e hl
      go_enter Try.func38, Try.ntmps38
      go_wp2_with (go_at_call 52; refine (refLeap_any _ _ h).mono ?_; rintro e w' ⟨rfl, rfl⟩; rw [Hl.out])
      go_ret
      exact ⟨ret_int He.out.symm, rfl⟩
  · by_cases h4 : m = 4
    · subst h4; go_enter Try.func38, Try.ntmps38; go_wp2; go_ret; exact ⟨by simp [Cal.dim], rfl⟩
    · by_cases h6 : m = 6
      · subst h6; go_enter Try.func38, Try.ntmps38; go_wp2; go_ret; exact ⟨by simp [Cal.dim], rfl⟩
      · by_cases h9 : m = 9
        · subst h9; go_enter Try.func38, Try.ntmps38; go_wp2; go_ret; exact ⟨by simp [Cal.dim], rfl⟩
        · by_cases h11 : m = 11
          · subst h11; go_enter Try.func38, Try.ntmps38; go_wp2; go_ret; exact ⟨by simp [Cal.dim], rfl⟩
          · have b2 : (m == 2) = false := by simpa using h2
            have b4 : (m == 4) = false := by simpa using h4
            have b6 : (m == 6) = false := by simpa using h6
            have b9 : (m == 9) = false := by simpa using h9
            have b11 : (m == 11) = false := by simpa using h11
            go_enter Try.func38, Try.ntmps38
            go_wp2
            go_ret
            exact ⟨by simp [Cal.dim, h2, h4, h6, h9, h11], rfl⟩

set_option maxHeartbeats 400000 in
theorem lengths_any (w : World) :
    Calls Try.prog 51 #[] w fun e w' => e = .returned (.slice (some ⟨w.heap.size, 0, none⟩) 12 12) ∧ w.alloc (.cells #[.int .i64 31, .int .i64 30, .int .i64 31, .int .i64 30, .int .i64 31, .int .i64 31, .int .i64 30, .int .i64 31, .int .i64 30, .int .i64 31, .int .i64 31, .int .i64 28] 3) = w' := by
  go_enter Try.func51, Try.ntmps51
  go_wp2
  go_ret
  exact ⟨rfl, rfl⟩

theorem dim_tab (y m : Int) (_h1 : 1 ≤ m) (_h2 : m ≤ 12) (hm : ¬ m = 2) : Cal.dim y m = if m = 4 ∨ m = 6 ∨ m = 9 ∨ m = 11 then 30 else 31 := by simp [Cal.dim, hm]

set_option maxHeartbeats 2000000 in
theorem days_any (y m : Int) (w : World) (h : 0 ≤ y) (h1 : 1 ≤ m) (h2 : m ≤ 12) :
    Calls Try.prog 39 #[.int .i64 y, .int .i64 m] w fun e w' => e = .returned (.int .i64 (Cal.dim y m)) ∧ Below w.heap.size w w' := by
  by_cases h2 : m = 2
  · subst h2
    rcases Bool.eq_false_or_eq_true (Cal.leapB y) with hl | hl
    · have e := (dim_feb y).1 hl
      have He := Lib.hid e
      have Hl := Lib.hid hl
      clear e hl
      go_enter Try.func39, Try.ntmps39
      go_wp2_with (first | (go_at_call 51; go_in) | (go_at_call 53; refine (leap_any _ _ h).mono ?_; rintro e w' ⟨rfl, rfl⟩; rw [Hl.out]))
      go_ret
      exact ⟨ret_int He.out.symm, (Below.refl _ _).alloc (Nat.le_refl _) _⟩
    · have e := (dim_feb y).2 hl
      have He := Lib.hid e
      have Hl := Lib.hid hl
      clear e hl
      go_enter Try.func39, Try.ntmps39
      go_wp2_with (first | (go_at_call 51; go_in) | (go_at_call 53; refine (leap_any _ _ h).mono ?_; rintro e w' ⟨rfl, rfl⟩; rw [Hl.out]))
      go_ret
      exact ⟨ret_int He.out.symm, (Below.refl _ _).alloc (Nat.le_refl _) _⟩
  · have e := dim_tab y m h1 (by assumption) h2
    rcases Cal.month_cases m h1 (by assumption) with h | h | h | h | h | h | h | h | h | h | h | h
    all_goals
      subst h
      first
      | (exfalso; omega)
      | (simp at e
         have He := Lib.hid e
         clear e h2
         go_enter Try.func39, Try.ntmps39
         go_wp2
         go_ret
         exact ⟨ret_int He.out.symm, (Below.refl _ _).alloc (Nat.le_refl _) _⟩)

end Go.Proofs.Ytbfiflinonnmcaa
