/- Walks over the functions on valid dates and their numbers, of the program and of the reference. Conditions: those that each theorem states. -/
import Derived.Test.YtbfiflinonnmcaaDateA
namespace Go.Proofs.Ytbfiflinonnmcaa
open Go.RowKit

theorem validB_of {y m d : Int} (h : Cal.ValidP y m d) : true = Cal.validB y m d := ((Cal.validB_iff y m d).2 h).symm
theorem validB_not {y m d : Int} (h : ¬ Cal.ValidP y m d) : false = Cal.validB y m d := by
  rcases Bool.eq_false_or_eq_true (Cal.validB y m d) with e | e
  · exact absurd ((Cal.validB_iff y m d).1 e) h
  · exact e.symm
theorem validB_last {y m d : Int} (h1 : 1 ≤ y) (h2 : y ≤ 9999) (h3 : 1 ≤ m) (h4 : m ≤ 12) (h5 : 1 ≤ d) : decide (d ≤ Cal.dim y m) = Cal.validB y m d := by
  unfold Cal.validB Cal.ValidP; simp [h1, h2, h3, h4, h5]

set_option maxHeartbeats 2000000 in
theorem valid_any (y m d : Int) (w : World) :
    Calls Try.prog 16 #[.int .i64 y, .int .i64 m, .int .i64 d] w fun e w' => e = .returned (.bool (Cal.validB y m d)) ∧ Below w.heap.size w w' := by
  by_cases h1 : 1 ≤ y
  · by_cases h2 : y ≤ 9999
    · by_cases h3 : 1 ≤ m
      · by_cases h4 : m ≤ 12
        · by_cases h5 : 1 ≤ d
          · go_enter Try.func16, Try.ntmps16
            go_wp2_with (go_at_call 39; refine (days_any _ _ _ (by omega) h3 h4).mono ?_; rintro e w' ⟨rfl, hb⟩)
            go_ret
            exact ⟨ret_bool (validB_last h1 h2 h3 h4 h5), hb⟩
          · go_enter Try.func16, Try.ntmps16; go_wp2_with fail; go_ret; exact ⟨ret_bool (validB_not (by unfold Cal.ValidP; omega)), Below.refl _ _⟩
        · go_enter Try.func16, Try.ntmps16; go_wp2_with fail; go_ret; exact ⟨ret_bool (validB_not (by unfold Cal.ValidP; omega)), Below.refl _ _⟩
      · go_enter Try.func16, Try.ntmps16; go_wp2_with fail; go_ret; exact ⟨ret_bool (validB_not (by unfold Cal.ValidP; omega)), Below.refl _ _⟩
    · go_enter Try.func16, Try.ntmps16; go_wp2_with fail; go_ret; exact ⟨ret_bool (validB_not (by unfold Cal.ValidP; omega)), Below.refl _ _⟩
  · go_enter Try.func16, Try.ntmps16; go_wp2_with fail; go_ret; exact ⟨ret_bool (validB_not (by unfold Cal.ValidP; omega)), Below.refl _ _⟩

set_option maxHeartbeats 2000000 in
theorem refValid_any (y m d : Int) (w : World) :
    Calls Try.prog 36 #[.int .i64 y, .int .i64 m, .int .i64 d] w fun e w' => e = .returned (.bool (Cal.validB y m d)) ∧ w = w' := by
  by_cases h1 : 1 ≤ y
  · by_cases h2 : y ≤ 9999
    · by_cases h3 : 1 ≤ m
      · by_cases h4 : m ≤ 12
        · by_cases h5 : 1 ≤ d
          · go_enter Try.func36, Try.ntmps36
            go_wp2_with (go_at_call 38; refine (refDays_any _ _ _ (by omega)).mono ?_; rintro e w' ⟨rfl, rfl⟩)
            go_ret
            exact ⟨ret_bool (validB_last h1 h2 h3 h4 h5), rfl⟩
          · go_enter Try.func36, Try.ntmps36; go_wp2_with fail; go_ret; exact ⟨ret_bool (validB_not (by unfold Cal.ValidP; omega)), rfl⟩
        · go_enter Try.func36, Try.ntmps36; go_wp2_with fail; go_ret; exact ⟨ret_bool (validB_not (by unfold Cal.ValidP; omega)), rfl⟩
      · go_enter Try.func36, Try.ntmps36; go_wp2_with fail; go_ret; exact ⟨ret_bool (validB_not (by unfold Cal.ValidP; omega)), rfl⟩
    · go_enter Try.func36, Try.ntmps36; go_wp2_with fail; go_ret; exact ⟨ret_bool (validB_not (by unfold Cal.ValidP; omega)), rfl⟩
  · go_enter Try.func36, Try.ntmps36; go_wp2_with fail; go_ret; exact ⟨ret_bool (validB_not (by unfold Cal.ValidP; omega)), rfl⟩

/-! ### number -/
def lens : List Int := [31, 30, 31, 30, 31, 31, 30, 31, 30, 31, 31, 28]
def lenAt (k : Nat) : Int := lens.getD k 0
def pre : Nat → Int | 0 => 0 | k + 1 => pre k + lenAt k
theorem nat12 (k : Nat) (h : k < 12) : k = 0 ∨ k = 1 ∨ k = 2 ∨ k = 3 ∨ k = 4 ∨ k = 5 ∨ k = 6 ∨ k = 7 ∨ k = 8 ∨ k = 9 ∨ k = 10 ∨ k = 11 := by omega
theorem lens_cell (w : World) (k : Nat) (h : k < 12) :
    (w.alloc (.cells #[.int .i64 31, .int .i64 30, .int .i64 31, .int .i64 30, .int .i64 31, .int .i64 31, .int .i64 30, .int .i64 31, .int .i64 30, .int .i64 31, .int .i64 31, .int .i64 28] 3)).cell? ⟨w.heap.size, k, none⟩ = some (.int .i64 (lenAt k)) := by
  rcases nat12 k h with h | h | h | h | h | h | h | h | h | h | h | h <;> subst h <;> (rw [World.cell?_alloc_at _ _ _ _ rfl]; rfl)
theorem pre_bd (k : Nat) (h : k ≤ 12) : 0 ≤ pre k ∧ pre k ≤ 400 := by
  have h13 : k < 13 := by omega
  have : k = 12 ∨ k < 12 := by omega
  rcases this with rfl | h
  · decide
  · rcases nat12 k h with h | h | h | h | h | h | h | h | h | h | h | h <;> subst h <;> decide
theorem lenAt_bd (k : Nat) (h : k < 12) : 28 ≤ lenAt k ∧ lenAt k ≤ 31 := by
  rcases nat12 k h with h | h | h | h | h | h | h | h | h | h | h | h <;> subst h <;> decide
theorem num_march (y m d : Int) (h1 : 1 ≤ m) (h2 : m ≤ 12) :
    (¬ m < 3 → 365 * y + y / 4 - y / 100 + y / 400 + pre ((m + 9) % 12).toNat + d - 1 - 306 = Cal.num y m d) ∧
    (m < 3 → 365 * (y - 1) + (y - 1) / 4 - (y - 1) / 100 + (y - 1) / 400 + pre ((m + 9) % 12).toNat + d - 1 - 306 = Cal.num y m d) := by
  have h0 : ¬ m < 3 → Cal.fst y + Cal.lp y = 365 * y + y / 4 - y / 100 + y / 400 - 365 := by
    intro _
    unfold Cal.fst Cal.lp
    by_cases h4 : y % 4 = 0
    · by_cases h100 : y % 100 = 0
      · by_cases h400 : y % 400 = 0
        · rw [if_pos ⟨h4, .inr h400⟩]; omega
        · rw [if_neg (by omega)]; omega
      · rw [if_pos ⟨h4, .inl h100⟩]; omega
    · rw [if_neg (by omega)]; omega
  rcases Cal.month_cases m h1 h2 with h | h | h | h | h | h | h | h | h | h | h | h <;> subst h <;> simp [pre, lenAt, lens, Cal.num, Cal.cum] at * <;> first | omega | (unfold Cal.fst; omega)

set_option maxHeartbeats 2000000 in
theorem number_any (y m d : Int) (w : World) (hy1 : 1 ≤ y) (hy2 : y ≤ 9999) (hm1 : 1 ≤ m) (hm2 : m ≤ 12) (hd1 : 1 ≤ d) (hd2 : d ≤ 31) :
    Calls Try.prog 35 #[.int .i64 y, .int .i64 m, .int .i64 d] w fun e w' => e = .returned (.int .i64 (Cal.num y m d)) ∧ Below w.heap.size w w' := by
  obtain ⟨j, hj, hj12⟩ : ∃ j : Nat, (m + 9) % 12 = (j : Int) ∧ j < 12 := ⟨((m + 9) % 12).toNat, by omega, by omega⟩
  have hnm := num_march y m d hm1 hm2
  rw [hj, Int.toNat_natCast] at hnm
  have Hnm := Lib.hid hnm
  have Hj := Lib.hid hj
  have hjj : 0 ≤ (m + 9) % 12 ∧ (m + 9) % 12 < 12 := by omega
  obtain ⟨hj0, hj1⟩ := hjj
  clear hnm hj
  have hpb := pre_bd j (by omega)
  by_cases hm : m < 3
  all_goals
    obtain ⟨base, hbase⟩ : ∃ base : Int, base = if m < 3 then 365 * (y - 1) + (y - 1) / 4 - (y - 1) / 100 + (y - 1) / 400 else 365 * y + y / 4 - y / 100 + y / 400 := ⟨_, rfl⟩
    simp only [hm, if_true, if_false] at hbase
    have hbb : 0 ≤ base ∧ base ≤ 4000000 := by omega
    obtain ⟨hb0, hb1⟩ := hbb
    have Hb := Lib.hid hbase
    have hc := lens_cell w
    go_enter Try.func35, Try.ntmps35
    clear hbase
    go_wp2_with (go_at_call 51; refine (lengths_any _).mono ?_; rintro e w' ⟨rfl, rfl⟩)
    rw [Hj.out, Int.toNat_natCast, Int.max_eq_left (Int.natCast_nonneg j), ← Hb.out]
    go_loop [7, 31] (fun n i => ∃ k : Nat, k ≤ j ∧ i = .int .i64 k ∧ n = .int .i64 (base + pre k)) (fun _ i => j - (intOf i).toNat)
    case atStart => exact ⟨0, Nat.zero_le _, rfl, by simp [pre]⟩
    case round =>
      obtain ⟨k, hk, rfl, rfl⟩ := hrel
      by_cases hlt : k < j
      · have hck := hc k (by omega)
        have hlk := lenAt_bd k (by omega)
        have hpk := pre_bd k (by omega)
        have hps : pre (k + 1) = pre k + lenAt k := rfl
        have Hps := Lib.hid hps
        clear hc hps
        go_wp2
        go_round
        case rel => exact ⟨k + 1, by omega, by go_num, by rw [Hps.out]; go_num⟩
        case measure => simp [intOf]; omega
      · obtain rfl : k = j := by omega
        clear hc
        go_wp2
        go_ret
        exact ⟨ret_int (by have h1 := Hnm.out; have h2 := Hb.out; omega), (Below.refl _ _).alloc (Nat.le_refl _) _⟩
end Go.Proofs.Ytbfiflinonnmcaa
