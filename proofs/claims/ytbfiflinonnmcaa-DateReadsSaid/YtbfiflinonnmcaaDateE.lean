/- Walks over Months, of the program and of the reference: the two compute one plain function. Conditions: none beyond those that each theorem states. -/
import Derived.Test.YtbfiflinonnmcaaDateD
namespace Go.Proofs.Ytbfiflinonnmcaa
open Go.RowKit

def monAt (n k : Int) : Int := 12 * (Cal.yearOf n - 1) + Cal.monthOf n - 1 + k
def monB (n k : Int) : Bool := insideB n && decide (0 ≤ monAt n k ∧ monAt n k < 119988)
def monY (n k : Int) : Int := monAt n k / 12 + 1
def monM (n k : Int) : Int := monAt n k % 12 + 1
def monD (n k : Int) : Int := min (Cal.dayOf n) (Cal.dim (monY n k) (monM n k))
def monR (n k : Int) : Int := if monB n k = true then Cal.num (monY n k) (monM n k) (monD n k) else 0
theorem mon_valid {n k : Int} (h : monB n k = true) : Cal.ValidP (monY n k) (monM n k) (monD n k) := by
  unfold monB at h
  rw [Bool.and_eq_true, insideB_iff, decide_eq_true_iff] at h
  have hv := Cal.civ_valid n h.1.1 h.1.2
  have hd := Cal.dim_bd (monY n k) (monM n k)
  unfold Cal.ValidP at *
  unfold monD
  unfold monY monM at *
  omega
theorem mon_no1 {n k : Int} (h : insideB n = false) : monB n k = false := by simp [monB, h]
theorem mon_no2 {n k : Int} (h : monAt n k < 0 ∨ 119988 ≤ monAt n k) : monB n k = false := by
  unfold monB; rw [Bool.and_eq_false_iff]; right; simp; omega
theorem mon_yes {n k : Int} (h : insideB n = true) (h0 : 0 ≤ monAt n k) (h1 : monAt n k < 119988) : monB n k = true := by simp [monB, h, h0, h1]
theorem mon_at_bd {n : Int} (k : Int) (h0 : 0 ≤ n) (h1 : n ≤ 3652058) : k ≤ monAt n k ∧ monAt n k ≤ 119987 + k := by
  have hv := Cal.civ_valid n h0 h1
  unfold Cal.ValidP at hv
  unfold monAt; omega
theorem civ_in {n : Int} (h : insideB n = true) : civY n = Cal.yearOf n ∧ civM n = Cal.monthOf n ∧ civD n = Cal.dayOf n := by simp [civY, civM, civD, h]
theorem numR_valid {y m d : Int} (h : Cal.ValidP y m d) : numR y m d = Cal.num y m d ∧ Cal.validB y m d = true := by
  have := (Cal.validB_iff y m d).2 h
  exact ⟨by simp [numR, this], this⟩

set_option maxHeartbeats 2000000 in
theorem Months_any (n k : Int) (w : World) :
    Calls Try.prog 19 #[.int .i64 n, .int .i64 k] w fun e w' => e = .returned (.tuple #[.int .i64 (monR n k), .bool (monB n k)]) ∧ Below w.heap.size w w' := by
  rcases Bool.eq_false_or_eq_true (insideB n) with hv | hv
  · have h01 := (insideB_iff n).1 hv
    obtain ⟨h0, h1⟩ := h01
    have hci := civ_in hv
    have hcv := Cal.civ_valid n h0 h1
    have Hv := Lib.hid hv
    have hab := mon_at_bd k h0 h1
    obtain ⟨a1, a2⟩ := hab
    obtain ⟨c1, c2, c3⟩ := hci
    have C1 := Lib.hid c1
    have C2 := Lib.hid c2
    have C3 := Lib.hid c3
    have Hat : Hid (monAt n k = 12 * (Cal.yearOf n - 1) + Cal.monthOf n - 1 + k) := rfl
    have HY : Hid (monY n k = monAt n k / 12 + 1) := rfl
    have HM : Hid (monM n k = monAt n k % 12 + 1) := rfl
    have HD : Hid (monD n k = min (Cal.dayOf n) (Cal.dim (monY n k) (monM n k))) := rfl
    unfold Cal.ValidP at hcv
    obtain ⟨v1, v2, v3, v4, v5, v6⟩ := hcv
    have V6 := Lib.hid v6
    clear hv c1 c2 c3 v6
    by_cases k1 : 119988 < k
    · have hr : monB n k = false := mon_no2 (.inr (by omega))
      have hr2 : monR n k = 0 := by simp [monR, hr]
      rw [hr, hr2]; clear hr hr2
      go_enter Try.func19, Try.ntmps19
      go_wp2_with (go_at_call 17; refine (Civil_any _ _).mono ?_; rintro e w' ⟨rfl, hb⟩; rw [Hv.out])
      go_ret2
      exact ⟨rfl, hb⟩
    · by_cases k2 : k < -119988
      · have hr : monB n k = false := mon_no2 (.inl (by omega))
        have hr2 : monR n k = 0 := by simp [monR, hr]
        rw [hr, hr2]; clear hr hr2
        go_enter Try.func19, Try.ntmps19
        go_wp2_with (go_at_call 17; refine (Civil_any _ _).mono ?_; rintro e w' ⟨rfl, hb⟩; rw [Hv.out])
        go_ret2
        exact ⟨rfl, hb⟩
      · by_cases k3 : monAt n k < 0
        · have hr : monB n k = false := mon_no2 (.inl (by omega))
          have hr2 : monR n k = 0 := by simp [monR, hr]
          rw [hr, hr2]; clear hr hr2
          have k3' : 12 * (Cal.yearOf n - 1) + Cal.monthOf n - 1 + k < 0 := k3
          go_enter Try.func19, Try.ntmps19
          go_wp2_with (go_at_call 17; refine (Civil_any _ _).mono ?_; rintro e w' ⟨rfl, hb⟩; rw [Hv.out, C1.out, C2.out, C3.out])
          go_ret2
          exact ⟨rfl, hb⟩
        · by_cases k4 : 119988 ≤ monAt n k
          · have hr : monB n k = false := mon_no2 (.inr (by omega))
            have hr2 : monR n k = 0 := by simp [monR, hr]
            rw [hr, hr2]; clear hr hr2
            have k3' : 0 ≤ 12 * (Cal.yearOf n - 1) + Cal.monthOf n - 1 + k := by have := Hat.out; omega
            have k4' : 119988 ≤ 12 * (Cal.yearOf n - 1) + Cal.monthOf n - 1 + k := k4
            go_enter Try.func19, Try.ntmps19
            go_wp2_with (go_at_call 17; refine (Civil_any _ _).mono ?_; rintro e w' ⟨rfl, hb⟩; rw [Hv.out, C1.out, C2.out, C3.out])
            go_ret2
            exact ⟨rfl, hb⟩
          · have hr : monB n k = true := mon_yes Hv.out (by omega) (by omega)
            have hval := mon_valid hr
            have hnv := numR_valid hval
            have hr2 : monR n k = Cal.num (monY n k) (monM n k) (monD n k) := by simp [monR, hr]
            rw [hr, hr2]; clear hr hr2
            have Hnv := Lib.hid hnv
            unfold Cal.ValidP at hval
            obtain ⟨b1, b2, b3, b4, b5, b6⟩ := hval
            clear hnv b5 b6
            have k3' : 0 ≤ 12 * (Cal.yearOf n - 1) + Cal.monthOf n - 1 + k := by have := Hat.out; omega
            have k4' : 12 * (Cal.yearOf n - 1) + Cal.monthOf n - 1 + k < 119988 := by have := Hat.out; omega
            go_enter Try.func19, Try.ntmps19
            go_wp2_with fail
            refine (Civil_any _ _).mono ?_; rintro e w1 ⟨rfl, hb1⟩; rw [Hv.out, C1.out, C2.out, C3.out]
            go_wp2_with fail
            rw [← Hat.out, ← HY.out, ← HM.out]
            refine (days_any _ _ _ (by omega) b3 b4).mono ?_; rintro e w2 ⟨rfl, hb2⟩
            go_wp2_with fail
            all_goals
              first
              | rw [show Cal.dim (monY n k) (monM n k) = monD n k by (have := HD.out; omega)]
              | rw [show Cal.dayOf n = monD n k by (have := HD.out; omega)]
              refine (Number_any _ _ _ _).mono ?_; rintro e w3 ⟨rfl, hb3⟩
              rw [Hnv.out.1, Hnv.out.2]
              go_wp2_with fail
              go_ret2
              exact ⟨rfl, (hb1.trans (hb2.mono hb1.size)).trans (hb3.mono (by have := hb1.size; have := hb2.size; omega))⟩
  · have hr : monB n k = false := mon_no1 hv
    have hr2 : monR n k = 0 := by simp [monR, hr]
    have hn := civ_no hv
    obtain ⟨e1, e2, e3⟩ := hn
    have E1 := Lib.hid e1
    have E2 := Lib.hid e2
    have E3 := Lib.hid e3
    rw [hr, hr2]
    have Hv := Lib.hid hv
    clear hr hr2 hv e1 e2 e3
    go_enter Try.func19, Try.ntmps19
    go_wp2_with (go_at_call 17; refine (Civil_any _ _).mono ?_; rintro e w' ⟨rfl, hb⟩; rw [Hv.out, E1.out, E2.out, E3.out])
    go_ret2
    exact ⟨rfl, hb⟩
set_option maxHeartbeats 2000000 in
theorem refMonths_any (n k : Int) (w : World) :
    Calls Try.prog 20 #[.int .i64 n, .int .i64 k] w fun e w' => e = .returned (.tuple #[.int .i64 (monR n k), .bool (monB n k)]) ∧ w = w' := by
  rcases Bool.eq_false_or_eq_true (insideB n) with hv | hv
  · have h01 := (insideB_iff n).1 hv
    obtain ⟨h0, h1⟩ := h01
    have hci := civ_in hv
    have hcv := Cal.civ_valid n h0 h1
    have Hv := Lib.hid hv
    have hab := mon_at_bd k h0 h1
    obtain ⟨a1, a2⟩ := hab
    obtain ⟨c1, c2, c3⟩ := hci
    have C1 := Lib.hid c1
    have C2 := Lib.hid c2
    have C3 := Lib.hid c3
    have Hat : Hid (monAt n k = 12 * (Cal.yearOf n - 1) + Cal.monthOf n - 1 + k) := rfl
    have HY : Hid (monY n k = monAt n k / 12 + 1) := rfl
    have HM : Hid (monM n k = monAt n k % 12 + 1) := rfl
    have HD : Hid (monD n k = min (Cal.dayOf n) (Cal.dim (monY n k) (monM n k))) := rfl
    unfold Cal.ValidP at hcv
    obtain ⟨v1, v2, v3, v4, v5, v6⟩ := hcv
    have V6 := Lib.hid v6
    clear hv c1 c2 c3 v6
    by_cases k1 : 120000 < k
    · have hr : monB n k = false := mon_no2 (.inr (by omega))
      have hr2 : monR n k = 0 := by simp [monR, hr]
      rw [hr, hr2]; clear hr hr2
      go_enter Try.func20, Try.ntmps20
      go_wp2_with (go_at_call 18; refine (refCivil_any _ _).mono ?_; rintro e w' ⟨rfl, rfl⟩; rw [Hv.out])
      go_ret2
      exact ⟨rfl, rfl⟩
    · by_cases k2 : k < -120000
      · have hr : monB n k = false := mon_no2 (.inl (by omega))
        have hr2 : monR n k = 0 := by simp [monR, hr]
        rw [hr, hr2]; clear hr hr2
        go_enter Try.func20, Try.ntmps20
        go_wp2_with (go_at_call 18; refine (refCivil_any _ _).mono ?_; rintro e w' ⟨rfl, rfl⟩; rw [Hv.out])
        go_ret2
        exact ⟨rfl, rfl⟩
      · by_cases k3 : monAt n k < 0
        · have hr : monB n k = false := mon_no2 (.inl (by omega))
          have hr2 : monR n k = 0 := by simp [monR, hr]
          rw [hr, hr2]; clear hr hr2
          have k3' : 12 * Cal.yearOf n + Cal.monthOf n - 1 + k < 12 := by have := Hat.out; omega
          go_enter Try.func20, Try.ntmps20
          go_wp2_with (go_at_call 18; refine (refCivil_any _ _).mono ?_; rintro e w' ⟨rfl, rfl⟩; rw [Hv.out, C1.out, C2.out, C3.out])
          go_ret2
          exact ⟨rfl, rfl⟩
        · by_cases k4 : 119988 ≤ monAt n k
          · have hr : monB n k = false := mon_no2 (.inr (by omega))
            have hr2 : monR n k = 0 := by simp [monR, hr]
            rw [hr, hr2]; clear hr hr2
            have k3' : 12 ≤ 12 * Cal.yearOf n + Cal.monthOf n - 1 + k := by have := Hat.out; omega
            have k4' : 120000 ≤ 12 * Cal.yearOf n + Cal.monthOf n - 1 + k := by have := Hat.out; omega
            go_enter Try.func20, Try.ntmps20
            go_wp2_with (go_at_call 18; refine (refCivil_any _ _).mono ?_; rintro e w' ⟨rfl, rfl⟩; rw [Hv.out, C1.out, C2.out, C3.out])
            go_ret2
            exact ⟨rfl, rfl⟩
          · have hr : monB n k = true := mon_yes Hv.out (by omega) (by omega)
            have hval := mon_valid hr
            have hnv := numR_valid hval
            have hr2 : monR n k = Cal.num (monY n k) (monM n k) (monD n k) := by simp [monR, hr]
            rw [hr, hr2]; clear hr hr2
            have Hnv := Lib.hid hnv
            unfold Cal.ValidP at hval
            obtain ⟨b1, b2, b3, b4, b5, b6⟩ := hval
            clear hnv b5 b6
            have k3' : 12 ≤ 12 * Cal.yearOf n + Cal.monthOf n - 1 + k := by have := Hat.out; omega
            have k4' : 12 * Cal.yearOf n + Cal.monthOf n - 1 + k < 120000 := by have := Hat.out; omega
            go_enter Try.func20, Try.ntmps20
            go_wp2_with fail
            refine (refCivil_any _ _).mono ?_; rintro e w1 ⟨rfl, rfl⟩; rw [Hv.out, C1.out, C2.out, C3.out]
            go_wp2_with fail
            rw [show (12 * Cal.yearOf n + Cal.monthOf n - 1 + k) / 12 = monY n k by (have := Hat.out; have := HY.out; omega), show (12 * Cal.yearOf n + Cal.monthOf n - 1 + k) % 12 + 1 = monM n k by (have := Hat.out; have := HM.out; omega)]
            refine (refDays_any _ _ _ (by omega)).mono ?_; rintro e w2 ⟨rfl, rfl⟩
            go_wp2_with fail
            all_goals
              first
              | rw [show Cal.dim (monY n k) (monM n k) = monD n k by (have := HD.out; omega)]
              | rw [show Cal.dayOf n = monD n k by (have := HD.out; omega)]
              refine (refNumber_any _ _ _ _).mono ?_; rintro e w3 ⟨rfl, rfl⟩
              rw [Hnv.out.1, Hnv.out.2]
              go_wp2_with fail
              go_ret2
              exact ⟨rfl, rfl⟩
  · have hr : monB n k = false := mon_no1 hv
    have hr2 : monR n k = 0 := by simp [monR, hr]
    have hn := civ_no hv
    obtain ⟨e1, e2, e3⟩ := hn
    have E1 := Lib.hid e1
    have E2 := Lib.hid e2
    have E3 := Lib.hid e3
    rw [hr, hr2]
    have Hv := Lib.hid hv
    clear hr hr2 hv e1 e2 e3
    go_enter Try.func20, Try.ntmps20
    go_wp2_with (go_at_call 18; refine (refCivil_any _ _).mono ?_; rintro e w' ⟨rfl, rfl⟩; rw [Hv.out, E1.out, E2.out, E3.out])
    go_ret2
    exact ⟨rfl, rfl⟩
end Go.Proofs.Ytbfiflinonnmcaa
