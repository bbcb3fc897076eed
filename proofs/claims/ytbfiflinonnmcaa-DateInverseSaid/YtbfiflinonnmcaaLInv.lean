/- DateInverse: the plain law and the walk. -/
import Derived.Test.YtbfiflinonnmcaaDateP
namespace Go.Proofs.Ytbfiflinonnmcaa
open Go.RowKit

theorem num_day (y m d : Int) : Cal.num y m (d + 1) = Cal.num y m d + 1 := by unfold Cal.num; omega
/-- the next day is the day after, or the first of the next month, or of the next year -/
theorem next_day (k : Int) (h0 : 0 ≤ k) (h1 : k ≤ 3652057) :
    ∃ y m d a b c, Cal.ValidP y m d ∧ Cal.num y m d = k ∧ Cal.yearOf k = y ∧ Cal.monthOf k = m ∧ Cal.dayOf k = d ∧ Cal.yearOf (k + 1) = a ∧ Cal.monthOf (k + 1) = b ∧ Cal.dayOf (k + 1) = c ∧
      ((a = y ∧ b = m ∧ c = d + 1) ∨ (d = Cal.dim y m ∧ c = 1 ∧ ((a = y ∧ b = m + 1) ∨ (a = y + 1 ∧ b = 1 ∧ m = 12)))) := by
  have hv := Cal.civ_valid k h0 (by omega)
  have hn := Cal.civ_num k h0
  refine ⟨_, _, _, _, _, _, hv, hn, rfl, rfl, rfl, rfl, rfl, rfl, ?_⟩
  generalize Cal.yearOf k = y at *
  generalize Cal.monthOf k = m at *
  generalize Cal.dayOf k = d at *
  obtain ⟨v1, v2, v3, v4, v5, v6⟩ := hv
  by_cases hd : d < Cal.dim y m
  · left
    exact Cal.civ_eq (k + 1) y m (d + 1) ⟨v1, v2, v3, v4, by omega, by omega⟩ (by rw [num_day, hn])
  · right
    have hd' : d = Cal.dim y m := by omega
    by_cases hm : m < 12
    · have hb := Cal.dim_bd y (m + 1)
      have hs := Cal.cum_succ y m v3 v4
      obtain ⟨e1, e2, e3⟩ := Cal.civ_eq (k + 1) y (m + 1) 1 ⟨v1, v2, by omega, by omega, by omega, by omega⟩ (by unfold Cal.num at *; omega)
      exact ⟨hd', e3, .inl ⟨e1, e2⟩⟩
    · obtain rfl : m = 12 := by omega
      have hs := Cal.cum_succ y 12 (by omega) (by omega)
      have he : Cal.cum y 13 = 365 + Cal.lp y := Cal.cum_end y
      have hf := Cal.fst_succ y v1
      have hy : y + 1 ≤ 9999 := by
        by_cases hy : y = 9999
        · subst hy
          have h3 := Cal.fst_max
          simp only [Int.reduceAdd] at hf hs
          unfold Cal.num at hn
          omega
        · omega
      have hb := Cal.dim_bd (y + 1) 1
      obtain ⟨e1, e2, e3⟩ := Cal.civ_eq (k + 1) (y + 1) 1 1 ⟨by omega, hy, by omega, by omega, by omega, by omega⟩ (by
        unfold Cal.num at *
        rw [Cal.cum_one]
        simp only [Int.reduceAdd] at hs
        omega)
      exact ⟨hd', e3, .inr ⟨e1, e2, rfl⟩⟩

set_option maxHeartbeats 2000000 in
set_option maxRecDepth 20000 in
theorem inverse_walk (n : Int) (w : World) (h0 : 0 ≤ n) (h1 : n ≤ 4294967295) :
    Calls Try.prog 4 #[.int .u32 n] w fun e w' => e = .returned (.bool true) ∧ Below w.heap.size w w' := by
  obtain ⟨k, hk⟩ : ∃ k, n % 3652058 = k := ⟨_, rfl⟩
  have hk0 : 0 ≤ k := by omega
  have hk1 : k ≤ 3652057 := by omega
  obtain ⟨y, m, d, a, b, c, hv, hn, e1, e2, e3, e4, e5, e6, hc⟩ := next_day k hk0 hk1
  have hi : insideB k = true := insideB_yes hk0 (by omega)
  have hi1 : insideB (k + 1) = true := insideB_yes (by omega) (by omega)
  obtain ⟨c1, c2, c3⟩ := civ_in hi
  obtain ⟨c4, c5, c6⟩ := civ_in hi1
  rw [e1] at c1; rw [e2] at c2; rw [e3] at c3; rw [e4] at c4; rw [e5] at c5; rw [e6] at c6
  have hvb : Cal.validB y m d = true := (Cal.validB_iff _ _ _).2 hv
  have hnr : numR y m d = k := by rw [numR, if_pos hvb, hn]
  have hdm := Cal.dim_bd y m
  have Hvn : Hid (d = Cal.dim y m → Cal.validB y m (d + 1) = false) := Lib.hid (fun hd => by
    rw [← validB_not]; unfold Cal.ValidP; omega)
  obtain ⟨v1, v2, v3, v4, v5, v6⟩ := hv
  have C1 := Lib.hid c1
  have C2 := Lib.hid c2
  have C3 := Lib.hid c3
  have C4 := Lib.hid c4
  have C5 := Lib.hid c5
  have C6 := Lib.hid c6
  have Hi := Lib.hid hi
  have Hi1 := Lib.hid hi1
  have Hvb := Lib.hid hvb
  have Hnr := Lib.hid hnr
  clear c1 c2 c3 c4 c5 c6 hi hi1 hvb hnr hn e1 e2 e3 e4 e5 e6
  rcases hc with ⟨rfl, rfl, rfl⟩ | ⟨rfl, rfl, ⟨rfl, rfl⟩ | ⟨rfl, rfl, rfl⟩⟩
  · have hne : (d + 1 == 1) = false := by simp; omega
    go_enter Try.func4, Try.ntmps4
    go_wp2_with fail
    refine (sanity_any _).mono ?_; rintro e w1 ⟨rfl, hn⟩
    have h1_ := hn; clear hn
    go_wp2_with fail
    refine (Civil_any _ _).mono ?_; rintro e w2 ⟨rfl, hn⟩; rw [C1.out, C2.out, C3.out, Hi.out]
    have h2_ := h1_.trans (hn.mono h1_.size); clear h1_; clear hn
    go_wp2_with fail
    refine (Civil_any _ _).mono ?_; rintro e w3 ⟨rfl, hn⟩; rw [C4.out, C5.out, C6.out, Hi1.out]
    have h3_ := h2_.trans (hn.mono h2_.size); clear h2_; clear hn
    go_wp2_with fail
    refine (Number_any _ _ _ _).mono ?_; rintro e w4 ⟨rfl, hn⟩; rw [Hnr.out, Hvb.out]
    have h4_ := h3_.trans (hn.mono h3_.size); clear h3_; clear hn
    go_wp2_with fail
    refine (valid_any _ _ _ _).mono ?_; rintro e w5 ⟨rfl, hn⟩; rw [Hvb.out]
    have h5_ := h4_.trans (hn.mono h4_.size); clear h4_; clear hn
    go_wp2_with fail
    go_ret
    exact ⟨rfl, h5_⟩
  · have hne : (m + 1 == m) = false := by simp; omega
    go_enter Try.func4, Try.ntmps4
    go_wp2_with fail
    refine (sanity_any _).mono ?_; rintro e w1 ⟨rfl, hn⟩
    have h1_ := hn; clear hn
    go_wp2_with fail
    refine (Civil_any _ _).mono ?_; rintro e w2 ⟨rfl, hn⟩; rw [C1.out, C2.out, C3.out, Hi.out]
    have h2_ := h1_.trans (hn.mono h1_.size); clear h1_; clear hn
    go_wp2_with fail
    refine (Civil_any _ _).mono ?_; rintro e w3 ⟨rfl, hn⟩; rw [C4.out, C5.out, C6.out, Hi1.out]
    have h3_ := h2_.trans (hn.mono h2_.size); clear h2_; clear hn
    go_wp2_with fail
    refine (Number_any _ _ _ _).mono ?_; rintro e w4 ⟨rfl, hn⟩; rw [Hnr.out, Hvb.out]
    have h4_ := h3_.trans (hn.mono h3_.size); clear h3_; clear hn
    go_wp2_with fail
    refine (valid_any _ _ _ _).mono ?_; rintro e w5 ⟨rfl, hn⟩; rw [Hvn.out trivial]
    have h5_ := h4_.trans (hn.mono h4_.size); clear h4_; clear hn
    go_wp2_with fail
    refine (valid_any _ _ _ _).mono ?_; rintro e w6 ⟨rfl, hn⟩; rw [Hvb.out]
    have h6_ := h5_.trans (hn.mono h5_.size); clear h5_; clear hn
    go_wp2_with fail
    go_ret
    exact ⟨rfl, h6_⟩
  · have hne : (y + 1 == y) = false := by simp; omega
    go_enter Try.func4, Try.ntmps4
    go_wp2_with fail
    refine (sanity_any _).mono ?_; rintro e w1 ⟨rfl, hn⟩
    have h1_ := hn; clear hn
    go_wp2_with fail
    refine (Civil_any _ _).mono ?_; rintro e w2 ⟨rfl, hn⟩; rw [C1.out, C2.out, C3.out, Hi.out]
    have h2_ := h1_.trans (hn.mono h1_.size); clear h1_; clear hn
    go_wp2_with fail
    refine (Civil_any _ _).mono ?_; rintro e w3 ⟨rfl, hn⟩; rw [C4.out, C5.out, C6.out, Hi1.out]
    have h3_ := h2_.trans (hn.mono h2_.size); clear h2_; clear hn
    go_wp2_with fail
    refine (Number_any _ _ _ _).mono ?_; rintro e w4 ⟨rfl, hn⟩; rw [Hnr.out, Hvb.out]
    have h4_ := h3_.trans (hn.mono h3_.size); clear h3_; clear hn
    go_wp2_with fail
    refine (valid_any _ _ _ _).mono ?_; rintro e w5 ⟨rfl, hn⟩; rw [Hvn.out trivial]
    have h5_ := h4_.trans (hn.mono h4_.size); clear h4_; clear hn
    go_wp2_with fail
    refine (valid_any _ _ _ _).mono ?_; rintro e w6 ⟨rfl, hn⟩; rw [Hvb.out]
    have h6_ := h5_.trans (hn.mono h5_.size); clear h5_; clear hn
    go_wp2_with fail
    go_ret
    exact ⟨rfl, h6_⟩
end Go.Proofs.Ytbfiflinonnmcaa
