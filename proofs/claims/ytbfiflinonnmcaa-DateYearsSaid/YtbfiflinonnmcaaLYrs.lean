/- DateYears: the plain law and the walk. -/
import Derived.Test.YtbfiflinonnmcaaDateP
namespace Go.Proofs.Ytbfiflinonnmcaa
open Go.RowKit

theorem lp_400 (y : Int) : Cal.lp (y + 400) = Cal.lp y := by
  have h1 : (y + 400) % 4 = y % 4 := by omega
  have h2 : (y + 400) % 100 = y % 100 := by omega
  have h3 : (y + 400) % 400 = y % 400 := by omega
  unfold Cal.lp; rw [h1, h2, h3]
theorem dim_400 (y m : Int) : Cal.dim (y + 400) m = Cal.dim y m := by unfold Cal.dim; rw [lp_400]
theorem fst_400 (y : Int) : Cal.fst (y + 400) = Cal.fst y + 146097 := by unfold Cal.fst; omega
theorem cum_400 (y m : Int) : Cal.cum (y + 400) m = Cal.cum y m := by unfold Cal.cum; rw [lp_400]
theorem num_400 (y m d : Int) : Cal.num (y + 400) m d = Cal.num y m d + 146097 := by unfold Cal.num; rw [fst_400, cum_400]; omega
theorem validB_400 (y m d : Int) (h1 : 1 ≤ y) (h2 : y ≤ 9599) : Cal.validB (y + 400) m d = Cal.validB y m d := by
  apply Bool.eq_iff_iff.2
  rw [Cal.validB_iff, Cal.validB_iff]
  unfold Cal.ValidP
  rw [dim_400]
  constructor <;> (rintro ⟨_, _, a, b, c, d⟩; exact ⟨by omega, by omega, a, b, c, d⟩)

set_option maxHeartbeats 4000000 in
set_option maxRecDepth 20000 in
theorem years_walk (a m0 d0 : Int) (w : World) (h0 : 0 ≤ a) (h1 : a ≤ 65535) (g0 : 0 ≤ m0) (g1 : m0 ≤ 255) (k0 : 0 ≤ d0) (k1 : d0 ≤ 255) :
    Calls Try.prog 5 #[.int .u16 a, .int .u8 m0, .int .u8 d0] w fun e w' => e = .returned (.bool true) ∧ Below w.heap.size w w' := by
  obtain ⟨r, hr⟩ : ∃ r, a % 9599 = r := ⟨_, rfl⟩
  have hr0 : 0 ≤ r := by omega
  have hr1 : r ≤ 9598 := by omega
  obtain ⟨m, hm⟩ : ∃ m, m0 % 14 = m := ⟨_, rfl⟩
  have hm0 : 0 ≤ m := by omega
  have hm1 : m ≤ 13 := by omega
  obtain ⟨d, hd⟩ : ∃ d, d0 % 33 = d := ⟨_, rfl⟩
  have hd0 : 0 ≤ d := by omega
  have hd1 : d ≤ 32 := by omega
  have hl := Cal.lp_bd (1 + r)
  have hll := Cal.lp_leap (1 + r)
  have v1 : Cal.validB (1 + r) 1 1 = true := (Cal.validB_iff _ _ _).2 ⟨by omega, by omega, by omega, by omega, by omega, by simp [Cal.dim]⟩
  have v2 : Cal.validB (1 + r) 12 31 = true := (Cal.validB_iff _ _ _).2 ⟨by omega, by omega, by omega, by omega, by omega, by simp [Cal.dim]⟩
  have v3 : Cal.validB (1 + r) 2 30 = false := (validB_not (by unfold Cal.ValidP Cal.dim; simp only [if_pos]; omega)).symm
  have v4 : Cal.validB (1 + r) 2 28 = true := (Cal.validB_iff _ _ _).2 ⟨by omega, by omega, by omega, by omega, by omega, by unfold Cal.dim; simp only [if_pos]; omega⟩
  have v5 : Cal.validB (1 + r + 400) m d = Cal.validB (1 + r) m d := validB_400 _ _ _ (by omega) (by omega)
  have n1 : numR (1 + r) 1 1 = Cal.fst (1 + r) := by unfold numR; rw [if_pos v1]; simp [Cal.num, Cal.cum_one]
  have n2 : numR (1 + r) 12 31 = Cal.fst (1 + r) + 364 + Cal.lp (1 + r) := by
    unfold numR; rw [if_pos v2]
    have hs := Cal.cum_succ (1 + r) 12 (by omega) (by omega)
    have he := Cal.cum_end (1 + r)
    simp [Cal.dim] at hs
    unfold Cal.num; omega
  have n3 : numR (1 + r + 400) m d = if Cal.validB (1 + r) m d = true then numR (1 + r) m d + 146097 else 0 := by
    unfold numR; rw [v5]; split <;> simp [num_400, *]
  have hf := Cal.fst_bd (1 + r) (by omega) (by omega)
  generalize Cal.fst (1 + r) = f at *
  have V1 := Lib.hid v1
  have V2 := Lib.hid v2
  have V3 := Lib.hid v3
  have V4 := Lib.hid v4
  have N1 := Lib.hid n1
  clear v1 v2 v3 v4 n1
  rcases Bool.eq_false_or_eq_true (Cal.validB (1 + r) m d) with hv | hv
  · have hn := Cal.num_bd _ _ _ ((Cal.validB_iff _ _ _).1 hv)
    rw [hv] at v5 n3
    rw [if_pos rfl] at n3
    have hx : numR (1 + r) m d = Cal.num (1 + r) m d := by rw [numR, if_pos hv]
    rw [hx] at n3
    generalize Cal.num (1 + r) m d = c at *
    have Hv := Lib.hid hv
    have Hx := Lib.hid hx
    have V5 := Lib.hid v5
    have N3 := Lib.hid n3
    clear hv hx v5 n3
    rcases Bool.eq_false_or_eq_true (Cal.leapB (1 + r)) with hb | hb
    · rw [hb, if_pos rfl] at hll
      rw [hll] at n2
      have v6 : Cal.validB (1 + r) 2 29 = true := (Cal.validB_iff _ _ _).2 ⟨by omega, by omega, by omega, by omega, by omega, by unfold Cal.dim; simp only [if_pos]; omega⟩
      have V6 := Lib.hid v6
      have N2 := Lib.hid n2
      clear v6 n2 hll hb hl
      go_enter Try.func5, Try.ntmps5
      go_wp2_with fail
      refine (sanity_any _).mono ?_; rintro e w1 ⟨rfl, hn_⟩
      have h1_ := hn_; clear hn_
      go_wp2_with fail
      refine (Number_any _ _ _ _).mono ?_; rintro e w2 ⟨rfl, hn_⟩; rw [N1.out, V1.out]
      have h2_ := h1_.trans (hn_.mono h1_.size); clear h1_; clear hn_
      go_wp2_with fail
      refine (Number_any _ _ _ _).mono ?_; rintro e w3 ⟨rfl, hn_⟩; rw [N2.out, V2.out]
      have h3_ := h2_.trans (hn_.mono h2_.size); clear h2_; clear hn_
      go_wp2_with fail
      refine (valid_any _ _ _ _).mono ?_; rintro e w4 ⟨rfl, hn_⟩; rw [V6.out]
      have h4_ := h3_.trans (hn_.mono h3_.size); clear h3_; clear hn_
      go_wp2_with fail
      refine (Number_any _ _ _ _).mono ?_; rintro e w5 ⟨rfl, hn_⟩; rw [Hx.out, Hv.out]
      have h5_ := h4_.trans (hn_.mono h4_.size); clear h4_; clear hn_
      go_wp2_with fail
      refine (Number_any _ _ _ _).mono ?_; rintro e w6 ⟨rfl, hn_⟩; rw [N3.out, V5.out]
      have h6_ := h5_.trans (hn_.mono h5_.size); clear h5_; clear hn_
      go_wp2_with fail
      refine (valid_any _ _ _ _).mono ?_; rintro e w7 ⟨rfl, hn_⟩; rw [V3.out]
      have h7_ := h6_.trans (hn_.mono h6_.size); clear h6_; clear hn_
      go_wp2_with fail
      refine (valid_any _ _ _ _).mono ?_; rintro e w8 ⟨rfl, hn_⟩; rw [V4.out]
      have h8_ := h7_.trans (hn_.mono h7_.size); clear h7_; clear hn_
      go_wp2_with fail
      go_ret
      exact ⟨rfl, h8_⟩
    · rw [hb, if_neg (by simp)] at hll
      rw [hll] at n2
      have v6 : Cal.validB (1 + r) 2 29 = false := (validB_not (by unfold Cal.ValidP Cal.dim; simp only [if_pos]; omega)).symm
      have V6 := Lib.hid v6
      have N2 := Lib.hid n2
      clear v6 n2 hll hb hl
      go_enter Try.func5, Try.ntmps5
      go_wp2_with fail
      refine (sanity_any _).mono ?_; rintro e w1 ⟨rfl, hn_⟩
      have h1_ := hn_; clear hn_
      go_wp2_with fail
      refine (Number_any _ _ _ _).mono ?_; rintro e w2 ⟨rfl, hn_⟩; rw [N1.out, V1.out]
      have h2_ := h1_.trans (hn_.mono h1_.size); clear h1_; clear hn_
      go_wp2_with fail
      refine (Number_any _ _ _ _).mono ?_; rintro e w3 ⟨rfl, hn_⟩; rw [N2.out, V2.out]
      have h3_ := h2_.trans (hn_.mono h2_.size); clear h2_; clear hn_
      go_wp2_with fail
      refine (valid_any _ _ _ _).mono ?_; rintro e w4 ⟨rfl, hn_⟩; rw [V6.out]
      have h4_ := h3_.trans (hn_.mono h3_.size); clear h3_; clear hn_
      go_wp2_with fail
      refine (Number_any _ _ _ _).mono ?_; rintro e w5 ⟨rfl, hn_⟩; rw [Hx.out, Hv.out]
      have h5_ := h4_.trans (hn_.mono h4_.size); clear h4_; clear hn_
      go_wp2_with fail
      refine (Number_any _ _ _ _).mono ?_; rintro e w6 ⟨rfl, hn_⟩; rw [N3.out, V5.out]
      have h6_ := h5_.trans (hn_.mono h5_.size); clear h5_; clear hn_
      go_wp2_with fail
      refine (valid_any _ _ _ _).mono ?_; rintro e w7 ⟨rfl, hn_⟩; rw [V3.out]
      have h7_ := h6_.trans (hn_.mono h6_.size); clear h6_; clear hn_
      go_wp2_with fail
      refine (valid_any _ _ _ _).mono ?_; rintro e w8 ⟨rfl, hn_⟩; rw [V4.out]
      have h8_ := h7_.trans (hn_.mono h7_.size); clear h7_; clear hn_
      go_wp2_with fail
      go_ret
      exact ⟨rfl, h8_⟩
  · have hx : numR (1 + r) m d = 0 := by rw [numR, if_neg (by rw [hv]; simp)]
    rw [hv] at v5 n3
    rw [if_neg (by simp)] at n3
    have Hv := Lib.hid hv
    have Hx := Lib.hid hx
    have V5 := Lib.hid v5
    have N3 := Lib.hid n3
    clear hv hx v5 n3
    rcases Bool.eq_false_or_eq_true (Cal.leapB (1 + r)) with hb | hb
    · rw [hb, if_pos rfl] at hll
      rw [hll] at n2
      have v6 : Cal.validB (1 + r) 2 29 = true := (Cal.validB_iff _ _ _).2 ⟨by omega, by omega, by omega, by omega, by omega, by unfold Cal.dim; simp only [if_pos]; omega⟩
      have V6 := Lib.hid v6
      have N2 := Lib.hid n2
      clear v6 n2 hll hb hl
      go_enter Try.func5, Try.ntmps5
      go_wp2_with fail
      refine (sanity_any _).mono ?_; rintro e w1 ⟨rfl, hn_⟩
      have h1_ := hn_; clear hn_
      go_wp2_with fail
      refine (Number_any _ _ _ _).mono ?_; rintro e w2 ⟨rfl, hn_⟩; rw [N1.out, V1.out]
      have h2_ := h1_.trans (hn_.mono h1_.size); clear h1_; clear hn_
      go_wp2_with fail
      refine (Number_any _ _ _ _).mono ?_; rintro e w3 ⟨rfl, hn_⟩; rw [N2.out, V2.out]
      have h3_ := h2_.trans (hn_.mono h2_.size); clear h2_; clear hn_
      go_wp2_with fail
      refine (valid_any _ _ _ _).mono ?_; rintro e w4 ⟨rfl, hn_⟩; rw [V6.out]
      have h4_ := h3_.trans (hn_.mono h3_.size); clear h3_; clear hn_
      go_wp2_with fail
      refine (Number_any _ _ _ _).mono ?_; rintro e w5 ⟨rfl, hn_⟩; rw [Hx.out, Hv.out]
      have h5_ := h4_.trans (hn_.mono h4_.size); clear h4_; clear hn_
      go_wp2_with fail
      refine (Number_any _ _ _ _).mono ?_; rintro e w6 ⟨rfl, hn_⟩; rw [N3.out, V5.out]
      have h6_ := h5_.trans (hn_.mono h5_.size); clear h5_; clear hn_
      go_wp2_with fail
      refine (valid_any _ _ _ _).mono ?_; rintro e w7 ⟨rfl, hn_⟩; rw [V3.out]
      have h7_ := h6_.trans (hn_.mono h6_.size); clear h6_; clear hn_
      go_wp2_with fail
      refine (valid_any _ _ _ _).mono ?_; rintro e w8 ⟨rfl, hn_⟩; rw [V4.out]
      have h8_ := h7_.trans (hn_.mono h7_.size); clear h7_; clear hn_
      go_wp2_with fail
      go_ret
      exact ⟨rfl, h8_⟩
    · rw [hb, if_neg (by simp)] at hll
      rw [hll] at n2
      have v6 : Cal.validB (1 + r) 2 29 = false := (validB_not (by unfold Cal.ValidP Cal.dim; simp only [if_pos]; omega)).symm
      have V6 := Lib.hid v6
      have N2 := Lib.hid n2
      clear v6 n2 hll hb hl
      go_enter Try.func5, Try.ntmps5
      go_wp2_with fail
      refine (sanity_any _).mono ?_; rintro e w1 ⟨rfl, hn_⟩
      have h1_ := hn_; clear hn_
      go_wp2_with fail
      refine (Number_any _ _ _ _).mono ?_; rintro e w2 ⟨rfl, hn_⟩; rw [N1.out, V1.out]
      have h2_ := h1_.trans (hn_.mono h1_.size); clear h1_; clear hn_
      go_wp2_with fail
      refine (Number_any _ _ _ _).mono ?_; rintro e w3 ⟨rfl, hn_⟩; rw [N2.out, V2.out]
      have h3_ := h2_.trans (hn_.mono h2_.size); clear h2_; clear hn_
      go_wp2_with fail
      refine (valid_any _ _ _ _).mono ?_; rintro e w4 ⟨rfl, hn_⟩; rw [V6.out]
      have h4_ := h3_.trans (hn_.mono h3_.size); clear h3_; clear hn_
      go_wp2_with fail
      refine (Number_any _ _ _ _).mono ?_; rintro e w5 ⟨rfl, hn_⟩; rw [Hx.out, Hv.out]
      have h5_ := h4_.trans (hn_.mono h4_.size); clear h4_; clear hn_
      go_wp2_with fail
      refine (Number_any _ _ _ _).mono ?_; rintro e w6 ⟨rfl, hn_⟩; rw [N3.out, V5.out]
      have h6_ := h5_.trans (hn_.mono h5_.size); clear h5_; clear hn_
      go_wp2_with fail
      refine (valid_any _ _ _ _).mono ?_; rintro e w7 ⟨rfl, hn_⟩; rw [V3.out]
      have h7_ := h6_.trans (hn_.mono h6_.size); clear h6_; clear hn_
      go_wp2_with fail
      refine (valid_any _ _ _ _).mono ?_; rintro e w8 ⟨rfl, hn_⟩; rw [V4.out]
      have h8_ := h7_.trans (hn_.mono h7_.size); clear h7_; clear hn_
      go_wp2_with fail
      go_ret
      exact ⟨rfl, h8_⟩
end Go.Proofs.Ytbfiflinonnmcaa
