/- Walks over the reference's Civil, and over Weekday, Add and Months, of the program and of the reference. Conditions: those that each theorem states. -/
import Derived.Test.YtbfiflinonnmcaaDateC
namespace Go.Proofs.Ytbfiflinonnmcaa
open Go.RowKit

theorem year_unique (n y : Int) (h0 : 0 ≤ n) (h1 : 1 ≤ y) (h2 : Cal.fst y ≤ n) (h3 : n < Cal.fst (y + 1)) : Cal.yearOf n = y := by
  have h := Cal.rest_fst n h0
  have hs := Cal.fst_succ (Cal.yearOf n) h.2.2.1
  by_cases a : Cal.yearOf n < y
  · have := Cal.fst_mono (Cal.yearOf n + 1) y (by omega) (by omega); omega
  · by_cases b : y < Cal.yearOf n
    · have := Cal.fst_mono (y + 1) (Cal.yearOf n) (by omega) (by omega); omega
    · omega

set_option maxHeartbeats 2000000 in
theorem refCivil_any (n : Int) (w : World) :
    Calls Try.prog 18 #[.int .i64 n] w fun e w' => e = .returned (.tuple #[.int .i64 (civY n), .int .i64 (civM n), .int .i64 (civD n), .bool (insideB n)]) ∧ w = w' := by
  rcases Bool.eq_false_or_eq_true (insideB n) with hv | hv
  · have h01 := (insideB_iff n).1 hv
    obtain ⟨h0, h1⟩ := h01
    have Hv := Lib.hid hv
    rw [hv]
    clear hv
    have Hrf := Lib.hid (Cal.rest_fst n h0)
    have Hyb := Lib.hid (Cal.yearOf_bd n h0 h1)
    go_enter Try.func18, Try.ntmps18
    go_wp2_with (first | (go_at_call 41; refine (refRight_any _ _).mono ?_; rintro e w' ⟨rfl, rfl⟩; rw [Hv.out]))
    go_loop [6, 7] (fun l h => ∃ a b : Int, 1 ≤ a ∧ a ≤ b ∧ b ≤ 9999 ∧ l = .int .i64 a ∧ h = .int .i64 b ∧ Cal.fst a ≤ n ∧ n < Cal.fst (b + 1)) (fun l h => (intOf h - intOf l).toNat)
    case atStart => exact ⟨1, 9999, by omega, by omega, by omega, rfl, rfl, by rw [Cal.fst_one]; exact h0, by have := Cal.fst_max; rw [show (9999 : Int) + 1 = 10000 from rfl, this]; omega⟩
    case round =>
      obtain ⟨a, b, ha, hab, hb, rfl, rfl, hf1, hf2⟩ := hrel
      by_cases hlt : a < b
      · by_cases hq : Cal.fst ((a + b + 1) / 2) ≤ n
        · go_wp2_with (go_at_call 37; refine (refFirst_any _ _ (by omega) (by omega)).mono ?_; rintro e w' ⟨rfl, rfl⟩)
          go_round
          case rel => exact ⟨(a + b + 1) / 2, b, by omega, by omega, by omega, rfl, rfl, hq, hf2⟩
          case measure => simp [intOf]; omega
        · go_wp2_with (go_at_call 37; refine (refFirst_any _ _ (by omega) (by omega)).mono ?_; rintro e w' ⟨rfl, rfl⟩)
          go_round
          case rel => exact ⟨a, (a + b + 1) / 2 - 1, by omega, by omega, by omega, rfl, rfl, hf1, by rw [show (a + b + 1) / 2 - 1 + 1 = (a + b + 1) / 2 by omega]; omega⟩
          case measure => simp [intOf]; omega
      · obtain rfl : a = b := by omega
        have hyu := year_unique n a h0 ha hf1 hf2
        have Hyu := Lib.hid hyu
        have hrf := Hrf.out
        obtain ⟨hrf1, hrf2, hrf3, hrf4⟩ := hrf
        have hyb := Hyb.out
        rw [hyu] at hrf1 hrf4 hyb
        have Hrf1 := Lib.hid hrf1
        have hfb := Cal.fst_bd a ha (by omega)
        clear hyu hrf1 hlt hrf3
        go_wp2_with (go_at_call 37; refine (refFirst_any _ _ (by omega) (by omega)).mono ?_; rintro e w' ⟨rfl, rfl⟩)
        rw [← Hrf1.out]
        go_loop [9, 10] (fun r m => ∃ k : Int, 1 ≤ k ∧ k ≤ 12 ∧ m = .int .i64 k ∧ 0 ≤ Cal.restOf n - Cal.cum a k ∧ r = .int .i64 (Cal.restOf n - Cal.cum a k)) (fun _ m => (12 - intOf m).toNat)
        case atStart => exact ⟨1, by omega, by omega, rfl, by rw [Cal.cum_one]; omega, by rw [Cal.cum_one]; simp⟩
        case round =>
          obtain ⟨k, hk1, hk2, rfl, hr0, rfl⟩ := hrel
          have hcb := Cal.cum_bd a k
          have hlb := Cal.lp_bd a
          have hdb := Cal.dim_bd a k
          have hcs := Lib.hid (Cal.cum_succ a k hk1 hk2)
          by_cases hlt : Cal.dim a k ≤ Cal.restOf n - Cal.cum a k
          · have hk12 : k < 12 := by
              by_cases e : k = 12
              · exfalso; subst e; have h := hcs.out; have h13 := Cal.cum_end a; rw [show (12 : Int) + 1 = 13 from rfl] at h; omega
              · omega
            go_wp2_with (go_at_call 38; refine (refDays_any _ _ _ (by omega)).mono ?_; rintro e w' ⟨rfl, rfl⟩)
            go_round
            case rel => exact ⟨k + 1, by omega, by omega, rfl, by rw [hcs.out]; omega, by rw [hcs.out]; go_num⟩
            case measure => simp [intOf]; omega
          · have hval : Cal.ValidP a k (Cal.restOf n - Cal.cum a k + 1) := by unfold Cal.ValidP; omega
            have hnum : Cal.num a k (Cal.restOf n - Cal.cum a k + 1) = n := by have := Hrf1.out; unfold Cal.num; omega
            have hfin := Lib.hid (civ_yes Hv.out hval hnum)
            clear hval hnum
            go_wp2_with (go_at_call 38; refine (refDays_any _ _ _ (by omega)).mono ?_; rintro e w' ⟨rfl, rfl⟩)
            refine bodyPost_ret (v := .tuple #[.int .i64 a, .int .i64 k, .int .i64 (Cal.restOf n - Cal.cum a k + 1), .bool true]) (by simp [results, Try.results18, go_sem]) rfl ⟨tuple4 true hfin.out, rfl⟩
  · have hn := civ_no hv
    have Hv := Lib.hid hv
    obtain ⟨e1, e2, e3⟩ := hn
    rw [hv, e1, e2, e3]
    clear hv e1 e2 e3
    go_enter Try.func18, Try.ntmps18
    go_wp2_with (first | (go_at_call 41; refine (refRight_any _ _).mono ?_; rintro e w' ⟨rfl, rfl⟩; rw [Hv.out]))
    refine bodyPost_ret (v := .tuple #[.int .i64 0, .int .i64 0, .int .i64 0, .bool false]) (by simp [results, Try.results18, go_sem]) rfl ⟨rfl, rfl⟩

/-! ### Weekday -/
def weekR (n : Int) : Int := if insideB n = true then n % 7 + 1 else 0
set_option maxHeartbeats 400000 in
theorem Weekday_any (n : Int) (w : World) :
    Calls Try.prog 33 #[.int .i64 n] w fun e w' => e = .returned (.tuple #[.int .i64 (weekR n), .bool (insideB n)]) ∧ w = w' := by
  rcases Bool.eq_false_or_eq_true (insideB n) with hv | hv
  · have h01 := (insideB_iff n).1 hv
    obtain ⟨h0, h1⟩ := h01
    have Hv := Lib.hid hv
    have hr : weekR n = n % 7 + 1 := by simp [weekR, hv]
    rw [hr, hv]
    clear hv hr
    go_enter Try.func33, Try.ntmps33
    go_wp2_with (first | (go_at_call 40; refine (inside_any _ _).mono ?_; rintro e w' ⟨rfl, rfl⟩; rw [Hv.out]))
    go_ret2
    exact ⟨rfl, rfl⟩
  · have hr : weekR n = 0 := by simp [weekR, hv]
    have Hv := Lib.hid hv
    rw [hr, hv]
    clear hv hr
    go_enter Try.func33, Try.ntmps33
    go_wp2_with (first | (go_at_call 40; refine (inside_any _ _).mono ?_; rintro e w' ⟨rfl, rfl⟩; rw [Hv.out]))
    go_ret2
    exact ⟨rfl, rfl⟩
theorem tuple2 {a a' : Int} {x x' : Bool} (h : a = a') (h2 : x = x') : Ending.returned (.tuple #[.int .i64 a, .bool x]) = .returned (.tuple #[.int .i64 a', .bool x']) := by subst h h2; rfl
set_option maxHeartbeats 400000 in
theorem refWeekday_any (n : Int) (w : World) :
    Calls Try.prog 34 #[.int .i64 n] w fun e w' => e = .returned (.tuple #[.int .i64 (weekR n), .bool (insideB n)]) ∧ w = w' := by
  rcases Bool.eq_false_or_eq_true (insideB n) with hv | hv
  · have h01 := (insideB_iff n).1 hv
    obtain ⟨h0, h1⟩ := h01
    have Hv := Lib.hid hv
    have hr : weekR n = 1 + n % 7 := by simp [weekR, hv]; omega
    rw [hr, hv]
    clear hv hr
    go_enter Try.func34, Try.ntmps34
    go_wp2_with (first | (go_at_call 41; refine (refRight_any _ _).mono ?_; rintro e w' ⟨rfl, rfl⟩; rw [Hv.out]))
    go_ret2
    exact ⟨rfl, rfl⟩
  · have hr : weekR n = 0 := by simp [weekR, hv]
    have Hv := Lib.hid hv
    rw [hr, hv]
    clear hv hr
    go_enter Try.func34, Try.ntmps34
    go_wp2_with (first | (go_at_call 41; refine (refRight_any _ _).mono ?_; rintro e w' ⟨rfl, rfl⟩; rw [Hv.out]))
    go_ret2
    exact ⟨rfl, rfl⟩

/-! ### Add -/
def addB (n d : Int) : Bool := insideB n && insideB (n + d)
def addR (n d : Int) : Int := if addB n d = true then n + d else 0
theorem addB_no1 {n d : Int} (h : insideB n = false) : addB n d = false := by simp [addB, h]
theorem addB_no2 {n d : Int} (h : d < -3652058 ∨ 3652058 < d) : addB n d = false := by
  rcases Bool.eq_false_or_eq_true (addB n d) with e | e
  · exfalso; unfold addB at e; rw [Bool.and_eq_true, insideB_iff, insideB_iff] at e; omega
  · exact e
theorem addB_3 {n d : Int} (h : insideB n = true) : addB n d = insideB (n + d) := by simp [addB, h]
set_option maxHeartbeats 1000000 in
theorem Add_any (n d : Int) (w : World) :
    Calls Try.prog 31 #[.int .i64 n, .int .i64 d] w fun e w' => e = .returned (.tuple #[.int .i64 (addR n d), .bool (addB n d)]) ∧ w = w' := by
  rcases Bool.eq_false_or_eq_true (insideB n) with hv | hv
  · have h01 := (insideB_iff n).1 hv
    obtain ⟨h0, h1⟩ := h01
    have e3 := Lib.hid (addB_3 (d := d) hv)
    have Hv := Lib.hid hv
    clear hv
    by_cases hd1 : 3652058 < d
    · have hr : addB n d = false := addB_no2 (.inr hd1)
      have hr2 : addR n d = 0 := by simp [addR, hr]
      rw [hr, hr2]
      clear hr hr2
      go_enter Try.func31, Try.ntmps31
      go_wp2_with (first | (go_at_call 40; refine (inside_any _ _).mono ?_; rintro e w' ⟨rfl, rfl⟩; rw [Hv.out]))
      go_ret2
      exact ⟨rfl, rfl⟩
    · by_cases hd2 : d < -3652058
      · have hr : addB n d = false := addB_no2 (.inl hd2)
        have hr2 : addR n d = 0 := by simp [addR, hr]
        rw [hr, hr2]
        clear hr hr2
        go_enter Try.func31, Try.ntmps31
        go_wp2_with (first | (go_at_call 40; refine (inside_any _ _).mono ?_; rintro e w' ⟨rfl, rfl⟩; rw [Hv.out]))
        go_ret2
        exact ⟨rfl, rfl⟩
      · rcases Bool.eq_false_or_eq_true (insideB (n + d)) with hs | hs
        · have hr2 : addR n d = n + d := by simp [addR, e3.out, hs]
          rw [e3.out, hr2, hs]
          have Hs := Lib.hid hs
          clear hs hr2
          go_enter Try.func31, Try.ntmps31
          go_wp2_with fail
          refine (inside_any _ _).mono ?_; rintro e w' ⟨rfl, rfl⟩; rw [Hv.out]
          go_wp2_with fail
          refine (inside_any _ _).mono ?_; rintro e w' ⟨rfl, rfl⟩; rw [Hs.out]
          go_wp2_with fail
          go_ret2
          exact ⟨rfl, rfl⟩
        · have hr2 : addR n d = 0 := by simp [addR, e3.out, hs]
          rw [e3.out, hr2, hs]
          have Hs := Lib.hid hs
          clear hs hr2
          go_enter Try.func31, Try.ntmps31
          go_wp2_with fail
          refine (inside_any _ _).mono ?_; rintro e w' ⟨rfl, rfl⟩; rw [Hv.out]
          go_wp2_with fail
          refine (inside_any _ _).mono ?_; rintro e w' ⟨rfl, rfl⟩; rw [Hs.out]
          go_wp2_with fail
          go_ret2
          exact ⟨rfl, rfl⟩
  · have hr : addB n d = false := addB_no1 hv
    have hr2 : addR n d = 0 := by simp [addR, hr]
    rw [hr, hr2]
    have Hv := Lib.hid hv
    clear hr hr2 hv
    go_enter Try.func31, Try.ntmps31
    go_wp2_with (first | (go_at_call 40; refine (inside_any _ _).mono ?_; rintro e w' ⟨rfl, rfl⟩; rw [Hv.out]))
    go_ret2
    exact ⟨rfl, rfl⟩
set_option maxHeartbeats 1000000 in
theorem refAdd_any (n d : Int) (w : World) :
    Calls Try.prog 32 #[.int .i64 n, .int .i64 d] w fun e w' => e = .returned (.tuple #[.int .i64 (addR n d), .bool (addB n d)]) ∧ w = w' := by
  rcases Bool.eq_false_or_eq_true (insideB n) with hv | hv
  · have h01 := (insideB_iff n).1 hv
    obtain ⟨h0, h1⟩ := h01
    have e3 := Lib.hid (addB_3 (d := d) hv)
    have Hv := Lib.hid hv
    clear hv
    by_cases hd1 : 3652058 < d
    · have hr : addB n d = false := addB_no2 (.inr hd1)
      have hr2 : addR n d = 0 := by simp [addR, hr]
      rw [hr, hr2]
      clear hr hr2
      go_enter Try.func32, Try.ntmps32
      go_wp2_with (first | (go_at_call 41; refine (refRight_any _ _).mono ?_; rintro e w' ⟨rfl, rfl⟩; rw [Hv.out]))
      go_ret2
      exact ⟨rfl, rfl⟩
    · by_cases hd2 : d < -3652058
      · have hr : addB n d = false := addB_no2 (.inl hd2)
        have hr2 : addR n d = 0 := by simp [addR, hr]
        rw [hr, hr2]
        clear hr hr2
        go_enter Try.func32, Try.ntmps32
        go_wp2_with (first | (go_at_call 41; refine (refRight_any _ _).mono ?_; rintro e w' ⟨rfl, rfl⟩; rw [Hv.out]))
        go_ret2
        exact ⟨rfl, rfl⟩
      · rcases Bool.eq_false_or_eq_true (insideB (n + d)) with hs | hs
        · have hr2 : addR n d = n + d := by simp [addR, e3.out, hs]
          rw [e3.out, hr2, hs]
          have Hs := Lib.hid hs
          clear hs hr2
          go_enter Try.func32, Try.ntmps32
          go_wp2_with fail
          refine (refRight_any _ _).mono ?_; rintro e w' ⟨rfl, rfl⟩; rw [Hv.out]
          go_wp2_with fail
          refine (refRight_any _ _).mono ?_; rintro e w' ⟨rfl, rfl⟩; rw [Hs.out]
          go_wp2_with fail
          go_ret2
          exact ⟨rfl, rfl⟩
        · have hr2 : addR n d = 0 := by simp [addR, e3.out, hs]
          rw [e3.out, hr2, hs]
          have Hs := Lib.hid hs
          clear hs hr2
          go_enter Try.func32, Try.ntmps32
          go_wp2_with fail
          refine (refRight_any _ _).mono ?_; rintro e w' ⟨rfl, rfl⟩; rw [Hv.out]
          go_wp2_with fail
          refine (refRight_any _ _).mono ?_; rintro e w' ⟨rfl, rfl⟩; rw [Hs.out]
          go_wp2_with fail
          go_ret2
          exact ⟨rfl, rfl⟩
  · have hr : addB n d = false := addB_no1 hv
    have hr2 : addR n d = 0 := by simp [addR, hr]
    rw [hr, hr2]
    have Hv := Lib.hid hv
    clear hr hr2 hv
    go_enter Try.func32, Try.ntmps32
    go_wp2_with (first | (go_at_call 41; refine (refRight_any _ _).mono ?_; rintro e w' ⟨rfl, rfl⟩; rw [Hv.out]))
    go_ret2
    exact ⟨rfl, rfl⟩
end Go.Proofs.Ytbfiflinonnmcaa
