/- Walks over Number, Civil, Weekday, Add and Months, of the program and of the reference. Conditions: those that each theorem states. -/
import Derived.Test.YtbfiflinonnmcaaDateB
namespace Go.Proofs.Ytbfiflinonnmcaa
open Go.RowKit

theorem valid_parts {y m d : Int} (h : Cal.validB y m d = true) : Cal.ValidP y m d := (Cal.validB_iff y m d).1 h
def numR (y m d : Int) : Int := if Cal.validB y m d = true then Cal.num y m d else 0

set_option maxHeartbeats 400000 in
theorem Number_any (y m d : Int) (w : World) :
    Calls Try.prog 14 #[.int .i64 y, .int .i64 m, .int .i64 d] w fun e w' => e = .returned (.tuple #[.int .i64 (numR y m d), .bool (Cal.validB y m d)]) ∧ Below w.heap.size w w' := by
  rcases Bool.eq_false_or_eq_true (Cal.validB y m d) with hv | hv
  · have hp := valid_parts hv
    have hn : numR y m d = Cal.num y m d := by simp [numR, hv]
    have Hv := Lib.hid hv
    have Hn := Lib.hid hn
    rw [hn, hv]
    clear hv hn
    obtain ⟨h1, h2, h3, h4, h5, h6⟩ := hp
    have h7 := Cal.dim_bd y m
    have h8 : d ≤ 31 := by omega
    go_enter Try.func14, Try.ntmps14
    go_wp2_with (first | (go_at_call 16; refine (valid_any _ _ _ _).mono ?_; rintro e w' ⟨rfl, hb⟩; rw [Hv.out]) | (go_at_call 35; refine (number_any _ _ _ _ h1 h2 h3 h4 h5 h8).mono ?_; rintro e w' ⟨rfl, hb'⟩))
    go_ret2
    exact ⟨rfl, hb.trans (hb'.mono hb.size)⟩
  · have hn : numR y m d = 0 := by simp [numR, hv]
    have Hv := Lib.hid hv
    rw [hn, hv]
    clear hv hn
    go_enter Try.func14, Try.ntmps14
    go_wp2_with (first | (go_at_call 16; refine (valid_any _ _ _ _).mono ?_; rintro e w' ⟨rfl, hb⟩; rw [Hv.out]))
    go_ret2
    exact ⟨rfl, hb⟩

theorem first_eq (y : Int) : Cal.fst y = 365 * (y - 1) + (y - 1) / 4 - (y - 1) / 100 + (y - 1) / 400 := rfl
set_option maxHeartbeats 400000 in
theorem refFirst_any (y : Int) (w : World) (h1 : 1 ≤ y) (h2 : y ≤ 10000) :
    Calls Try.prog 37 #[.int .i64 y] w fun e w' => e = .returned (.int .i64 (Cal.fst y)) ∧ w = w' := by
  have H := Lib.hid (first_eq y)
  go_enter Try.func37, Try.ntmps37
  go_wp2
  go_ret
  exact ⟨ret_int H.out.symm, rfl⟩

set_option maxHeartbeats 1000000 in
theorem refNumber_any (y m d : Int) (w : World) :
    Calls Try.prog 15 #[.int .i64 y, .int .i64 m, .int .i64 d] w fun e w' => e = .returned (.tuple #[.int .i64 (numR y m d), .bool (Cal.validB y m d)]) ∧ w = w' := by
  rcases Bool.eq_false_or_eq_true (Cal.validB y m d) with hv | hv
  · have hp := valid_parts hv
    have hn : numR y m d = Cal.num y m d := by simp [numR, hv]
    have Hv := Lib.hid hv
    have Hn := Lib.hid hn
    rw [hn, hv]
    clear hv hn
    obtain ⟨h1, h2, h3, h4, h5, h6⟩ := hp
    have h7 := Cal.dim_bd y m
    have h8 : d ≤ 31 := by omega
    have h9 : 1 ≤ y ∧ y ≤ 10000 := by omega
    have hf := Cal.fst_bd y h9.1 h9.2
    clear h6 h7 h9
    go_enter Try.func15, Try.ntmps15
    go_wp2_with (first | (go_at_call 36; refine (refValid_any _ _ _ _).mono ?_; rintro e w' ⟨rfl, rfl⟩; rw [Hv.out]) | (go_at_call 37; refine (refFirst_any _ _ (by omega) (by omega)).mono ?_; rintro e w' ⟨rfl, rfl⟩))
    go_loop [9, 10] (fun n i => ∃ k : Int, 1 ≤ k ∧ k ≤ m ∧ i = .int .i64 k ∧ n = .int .i64 (Cal.fst y + d - 1 + Cal.cum y k)) (fun _ i => (m - intOf i).toNat)
    case atStart => exact ⟨1, by omega, h3, rfl, by rw [Cal.cum_one]; simp⟩
    case round =>
      obtain ⟨k, hk1, hk2, rfl, rfl⟩ := hrel
      have hcb := Cal.cum_bd y k
      by_cases hlt : k < m
      · have hcs := Lib.hid (Cal.cum_succ y k hk1 (by omega))
        have hdb := Cal.dim_bd y k
        go_wp2_with (go_at_call 38; refine (refDays_any _ _ _ (by omega)).mono ?_; rintro e w' ⟨rfl, rfl⟩)
        go_round
        case rel => exact ⟨k + 1, by omega, by omega, rfl, by rw [hcs.out]; go_num⟩
        case measure => simp [intOf]; omega
      · obtain rfl : k = m := by omega
        go_wp2
        go_ret2
        exact ⟨by unfold Cal.num; rw [show Cal.fst y + d - 1 + Cal.cum y k = Cal.fst y + Cal.cum y k + d - 1 by omega]; rfl, rfl⟩
  · have hn : numR y m d = 0 := by simp [numR, hv]
    have Hv := Lib.hid hv
    rw [hn, hv]
    clear hv hn
    go_enter Try.func15, Try.ntmps15
    go_wp2_with (first | (go_at_call 36; refine (refValid_any _ _ _ _).mono ?_; rintro e w' ⟨rfl, rfl⟩; rw [Hv.out]))
    go_ret2
    exact ⟨rfl, rfl⟩

/-! ### is a number that of a date -/
def insideB (n : Int) : Bool := decide (0 ≤ n ∧ n ≤ 3652058)
theorem insideB_yes {n : Int} (h0 : 0 ≤ n) (h1 : n ≤ 3652058) : insideB n = true := by simp [insideB, h0, h1]
theorem insideB_no {n : Int} (h : n < 0 ∨ 3652058 < n) : insideB n = false := by unfold insideB; simp; omega
theorem insideB_iff (n : Int) : insideB n = true ↔ 0 ≤ n ∧ n ≤ 3652058 := by simp [insideB]
set_option maxHeartbeats 400000 in
theorem inside_any (n : Int) (w : World) :
    Calls Try.prog 40 #[.int .i64 n] w fun e w' => e = .returned (.bool (insideB n)) ∧ w = w' := by
  by_cases h : 0 ≤ n
  · go_enter Try.func40, Try.ntmps40; go_wp2; go_ret; exact ⟨ret_bool (by simp [insideB, h]), rfl⟩
  · go_enter Try.func40, Try.ntmps40; go_wp2; go_ret; exact ⟨ret_bool (insideB_no (.inl (by omega))).symm, rfl⟩
set_option maxHeartbeats 400000 in
theorem refRight_any (n : Int) (w : World) :
    Calls Try.prog 41 #[.int .i64 n] w fun e w' => e = .returned (.bool (insideB n)) ∧ w = w' := by
  by_cases h : 0 ≤ n
  · go_enter Try.func41, Try.ntmps41; go_wp2; go_ret; exact ⟨ret_bool (by simp [insideB, h]), rfl⟩
  · go_enter Try.func41, Try.ntmps41; go_wp2; go_ret; exact ⟨ret_bool (insideB_no (.inl (by omega))).symm, rfl⟩

/-! ### Civil -/
def civY (n : Int) : Int := if insideB n = true then Cal.yearOf n else 0
def civM (n : Int) : Int := if insideB n = true then Cal.monthOf n else 0
def civD (n : Int) : Int := if insideB n = true then Cal.dayOf n else 0
theorem civ_yes {n y m d : Int} (hi : insideB n = true) (h : Cal.ValidP y m d) (e : Cal.num y m d = n) : civY n = y ∧ civM n = m ∧ civD n = d := by
  unfold civY civM civD
  rw [if_pos hi, if_pos hi, if_pos hi]
  exact Cal.civ_eq n y m d h e
theorem tuple4 {a b c a' b' c' : Int} (x : Bool) (h : a' = a ∧ b' = b ∧ c' = c) : Ending.returned (.tuple #[.int .i64 a, .int .i64 b, .int .i64 c, .bool x]) = .returned (.tuple #[.int .i64 a', .int .i64 b', .int .i64 c', .bool x]) := by
  obtain ⟨rfl, rfl, rfl⟩ := h; rfl
theorem civ_no {n : Int} (hi : insideB n = false) : civY n = 0 ∧ civM n = 0 ∧ civD n = 0 := by simp [civY, civM, civD, hi]
theorem cen_of (n : Int) : Cal.cen n = min (n % 146097 / 36524) 3 := rfl

set_option maxHeartbeats 2000000 in
theorem Civil_any (n : Int) (w : World) :
    Calls Try.prog 17 #[.int .i64 n] w fun e w' => e = .returned (.tuple #[.int .i64 (civY n), .int .i64 (civM n), .int .i64 (civD n), .bool (insideB n)]) ∧ Below w.heap.size w w' := by
  rcases Bool.eq_false_or_eq_true (insideB n) with hv | hv
  · have h01 := (insideB_iff n).1 hv
    obtain ⟨h0, h1⟩ := h01
    have Hv := Lib.hid hv
    rw [hv]
    clear hv
    have hcb := Cal.cen_bd n
    have hyb := Cal.yrs_bd ((n % 146097 - Cal.cen n * 36524) % 1461) (by omega) (by omega)
    have Hrf := Lib.hid (Cal.rest_fst n h0)
    have Hyb := Lib.hid (Cal.yearOf_bd n h0 h1)
    have Hy : Hid (Cal.yearOf n = 400 * (n / 146097) + 100 * Cal.cen n + 4 * ((n % 146097 - Cal.cen n * 36524) / 1461) + Cal.yrs n + 1) := rfl
    have Hr : Hid (Cal.restOf n = (n % 146097 - Cal.cen n * 36524) % 1461 - Cal.yrs n * 365) := rfl
    have Hcen : Hid (Cal.cen n = min (n % 146097 / 36524) 3) := rfl
    have Hyrs : Hid (Cal.yrs n = min ((n % 146097 - Cal.cen n * 36524) % 1461 / 365) 3) := rfl
    rw [← Hyrs.out] at hyb
    obtain ⟨c1, c2, c3, c4, c5⟩ := hcb
    obtain ⟨y1, y2, y3, y4, y5⟩ := hyb
    clear c3 y3
    go_enter Try.func17, Try.ntmps17
    go_wp2_with (first | (go_at_call 40; refine (inside_any _ _).mono ?_; rintro e w' ⟨rfl, rfl⟩; rw [Hv.out]))
    all_goals
      first
      | rw [show 400 * (n / 146097) + 300 + 4 * ((n % 146097 - 109572) / 1461) + 3 + 1 = Cal.yearOf n by (have h2 := Hy.out; have h3 := Hcen.out; have h4 := Hyrs.out; omega)]
      | rw [show 400 * (n / 146097) + 100 * (n % 146097 / 36524) + 4 * ((n % 146097 - n % 146097 / 36524 * 36524) / 1461) + 3 + 1 = Cal.yearOf n by (have h2 := Hy.out; have h3 := Hcen.out; have h4 := Hyrs.out; omega)]
      | rw [show 400 * (n / 146097) + 100 * (n % 146097 / 36524) + 4 * ((n % 146097 - n % 146097 / 36524 * 36524) / 1461) + (n % 146097 - n % 146097 / 36524 * 36524) % 1461 / 365 + 1 = Cal.yearOf n by (have h2 := Hy.out; have h3 := Hcen.out; have h4 := Hyrs.out; omega)]
      go_loopw [0, 3] (fun r m wr => Below w.heap.size w wr ∧ ∃ k : Int, 1 ≤ k ∧ k ≤ 12 ∧ m = .int .i64 k ∧ 0 ≤ Cal.restOf n - Cal.cum (Cal.yearOf n) k ∧ r = .int .i64 (Cal.restOf n - Cal.cum (Cal.yearOf n) k)) (fun _ m _ => (12 - intOf m).toNat)
      case atStart => exact ⟨Below.refl _ _, 1, by omega, by omega, rfl, by rw [Cal.cum_one]; have := Hrf.out; omega, congrArg (Value.int .i64) (by have h2 := Hr.out; have h3 := Hcen.out; have h4 := Hyrs.out; rw [Cal.cum_one]; omega)⟩
      case round =>
        obtain ⟨hbw, k, hk1, hk2, rfl, hr0, rfl⟩ := hrel
        have hcb := Cal.cum_bd (Cal.yearOf n) k
        have hrf := Hrf.out
        obtain ⟨hrf1, hrf2, hrf3, hrf4⟩ := hrf
        have hlb := Cal.lp_bd (Cal.yearOf n)
        have hyb := Hyb.out
        have hdb := Cal.dim_bd (Cal.yearOf n) k
        have hcs := Lib.hid (Cal.cum_succ (Cal.yearOf n) k hk1 hk2)
        have Hrf1 := Lib.hid hrf1
        clear hrf1
        by_cases hlt : Cal.dim (Cal.yearOf n) k ≤ Cal.restOf n - Cal.cum (Cal.yearOf n) k
        · have hk12 : k < 12 := by
            by_cases e : k = 12
            · exfalso; subst e; have h := hcs.out; have h13 := Cal.cum_end (Cal.yearOf n); rw [show (12 : Int) + 1 = 13 from rfl] at h; omega
            · omega
          go_wp2_with fail
          refine (days_any _ _ _ (by omega) hk1 hk2).mono ?_; rintro e w1 ⟨rfl, hb1⟩
          go_wp2_with fail
          refine (days_any _ _ _ (by omega) hk1 hk2).mono ?_; rintro e w2 ⟨rfl, hb2⟩
          go_wp2_with fail
          go_roundw
          case rel => exact ⟨hbw.trans ((hb1.trans (hb2.mono hb1.size)).mono hbw.size), k + 1, by omega, by omega, rfl, by rw [hcs.out]; omega, by rw [hcs.out]; go_num⟩
          case measure => simp [intOf]; omega
        · go_wp2_with fail
          refine (days_any _ _ _ (by omega) hk1 hk2).mono ?_; rintro e w1 ⟨rfl, hb1⟩
          go_wp2_with fail
          have hval : Cal.ValidP (Cal.yearOf n) k (Cal.restOf n - Cal.cum (Cal.yearOf n) k + 1) := by unfold Cal.ValidP; omega
          have hnum : Cal.num (Cal.yearOf n) k (Cal.restOf n - Cal.cum (Cal.yearOf n) k + 1) = n := by have := Hrf1.out; unfold Cal.num; omega
          refine bodyPost_ret (v := .tuple #[.int .i64 (Cal.yearOf n), .int .i64 k, .int .i64 (Cal.restOf n - Cal.cum (Cal.yearOf n) k + 1), .bool true]) (by simp [results, Try.results17, go_sem]) rfl ⟨tuple4 true (civ_yes Hv.out hval hnum), hbw.trans (hb1.mono hbw.size)⟩
  · have hn := civ_no hv
    have Hv := Lib.hid hv
    obtain ⟨e1, e2, e3⟩ := hn
    rw [hv, e1, e2, e3]
    clear hv e1 e2 e3
    go_enter Try.func17, Try.ntmps17
    go_wp2_with (first | (go_at_call 40; refine (inside_any _ _).mono ?_; rintro e w' ⟨rfl, rfl⟩; rw [Hv.out]))
    refine bodyPost_ret (v := .tuple #[.int .i64 0, .int .i64 0, .int .i64 0, .bool false]) (by simp [results, Try.results17, go_sem]) rfl ⟨rfl, Below.refl _ _⟩
end Go.Proofs.Ytbfiflinonnmcaa
