/- DateBack: the plain law and the walk. -/
import Derived.Test.YtbfiflinonnmcaaDateP
namespace Go.Proofs.Ytbfiflinonnmcaa
open Go.RowKit

theorem year_small (k : Int) (h0 : 0 ≤ k) (h1 : k ≤ 2999999) : Cal.yearOf k ≤ 8214 := by
  have hv := Cal.civ_valid k h0 (by omega)
  have hn := Cal.civ_num k h0
  have hy := (Cal.num_year _ _ _ hv).1
  rw [hn] at hy
  by_cases h : Cal.yearOf k ≤ 8214
  · exact h
  · have := Cal.fst_mono 8215 (Cal.yearOf k) (by omega) (by omega)
    have e : Cal.fst 8215 = 3000101 := rfl
    omega
theorem monR_pos {n k : Int} (h : monB n k = true) : monR n k = Cal.num (monY n k) (monM n k) (monD n k) := if_pos h
/-- what a date some months later is -/
theorem mon_civ {k p : Int} (h : monB k p = true) : insideB (monR k p) = true ∧ Cal.yearOf (monR k p) = monY k p ∧ Cal.monthOf (monR k p) = monM k p ∧ Cal.dayOf (monR k p) = monD k p := by
  have hv := mon_valid h
  have hr : monR k p = Cal.num (monY k p) (monM k p) (monD k p) := by rw [monR, if_pos h]
  have hb := Cal.num_bd _ _ _ hv
  rw [hr]
  exact ⟨insideB_yes hb.1 hb.2, Cal.civ_unique _ _ _ hv⟩
theorem monAt_again {k p : Int} (q : Int) (h : monB k p = true) : monAt (monR k p) q = monAt k p + q := by
  obtain ⟨_, h1, h2, _⟩ := mon_civ h
  unfold monAt at *
  rw [h1, h2]
  unfold monY monM monAt
  omega
theorem back_law (k p q : Int) (h0 : 0 ≤ k) (h1 : k ≤ 2999999) (p0 : 0 ≤ p) (p1 : p ≤ 1999) (q0 : 0 ≤ q) (q1 : q ≤ 1999) :
    ∃ x z1 z2 z3 M D mx dx, insideB k = true ∧ monR k p = x ∧ monB k p = true ∧ monR k (p + q) = z1 ∧ monB k (p + q) = true ∧ monR x q = z2 ∧ monB x q = true ∧ monR x (-p) = z3 ∧ monB x (-p) = true ∧
      civM k = M ∧ civD k = D ∧ insideB x = true ∧ civM x = mx ∧ civD x = dx ∧ dx ≤ D ∧ (M - 1 + p) % 12 = mx - 1 ∧ z3 ≤ k ∧ (D ≤ 28 → z3 = k ∧ z2 = z1 ∧ dx = D) ∧ 1 ≤ M ∧ M ≤ 12 ∧ 1 ≤ mx ∧ mx ≤ 12 := by
  have hi : insideB k = true := insideB_yes h0 (by omega)
  have hv := Cal.civ_valid k h0 (by omega)
  have hn := Cal.civ_num k h0
  have hy := year_small k h0 h1
  obtain ⟨v1, v2, v3, v4, v5, v6⟩ := hv
  have hat : ∀ j, monAt k j = 12 * (Cal.yearOf k - 1) + Cal.monthOf k - 1 + j := fun _ => rfl
  have hB : ∀ j, 0 ≤ j → j ≤ 4000 → monB k j = true := fun j j0 j1 => mon_yes hi (by rw [hat]; omega) (by rw [hat]; omega)
  have b1 := hB p p0 (by omega)
  have b2 := hB (p + q) (by omega) (by omega)
  obtain ⟨ix, cx1, cx2, cx3⟩ := mon_civ b1
  have aq := monAt_again q b1
  have ap := monAt_again (-p) b1
  have b3 : monB (monR k p) q = true := mon_yes ix (by rw [aq, hat]; omega) (by rw [aq, hat]; omega)
  have b4 : monB (monR k p) (-p) = true := mon_yes ix (by rw [ap, hat]; omega) (by rw [ap, hat]; omega)
  obtain ⟨ck1, ck2, ck3⟩ := civ_in hi
  obtain ⟨xx1, xx2, xx3⟩ := civ_in ix
  have eY : monY (monR k p) (-p) = Cal.yearOf k := by unfold monY; rw [ap, hat]; omega
  have eM : monM (monR k p) (-p) = Cal.monthOf k := by unfold monM; rw [ap, hat]; omega
  have hd1 : monD k p ≤ Cal.dayOf k := by unfold monD; omega
  have hdd := Cal.dim_bd (monY k p) (monM k p)
  have hd2 : Cal.dayOf k ≤ 28 → monD k p = Cal.dayOf k := by unfold monD; omega
  have hback : monR (monR k p) (-p) = Cal.num (Cal.yearOf k) (Cal.monthOf k) (min (monD k p) (Cal.dim (Cal.yearOf k) (Cal.monthOf k))) := by
    rw [monR_pos b4, monD, eY, eM, cx3]
  have eqY : monY (monR k p) q = monY k (p + q) := by unfold monY; rw [aq, hat, hat]; congr 2; omega
  have eqM : monM (monR k p) q = monM k (p + q) := by unfold monM; rw [aq, hat, hat]; congr 2; omega
  refine ⟨_, _, _, _, _, _, _, _, hi, rfl, b1, rfl, b2, rfl, b3, rfl, b4, rfl, rfl, ix, rfl, rfl, ?_, ?_, ?_, ?_, ?_⟩
  · rw [xx3, cx3, ck3]; exact hd1
  · rw [xx2, cx2, ck2]; unfold monM; rw [hat]; omega
  · rw [hback]
    conv => rhs; rw [← hn]
    unfold Cal.num
    omega
  · intro h28
    rw [ck3] at h28
    refine ⟨?_, ?_, ?_⟩
    · rw [hback, hd2 h28, show min (Cal.dayOf k) (Cal.dim (Cal.yearOf k) (Cal.monthOf k)) = Cal.dayOf k by omega, hn]
    · rw [monR_pos b3, monR_pos b2, eqY, eqM]
      unfold monD
      rw [eqY, eqM, cx3, hd2 h28]
    · rw [xx3, cx3, ck3]; exact hd2 h28
  · rw [ck2, xx2, cx2]
    refine ⟨v3, v4, ?_, ?_⟩ <;> (unfold monM; omega)

set_option maxHeartbeats 4000000 in
set_option maxRecDepth 20000 in
theorem back_walk (a p0 q0 : Int) (w : World) (h0 : 0 ≤ a) (h1 : a ≤ 4294967295) (g0 : 0 ≤ p0) (g1 : p0 ≤ 65535) (j0 : 0 ≤ q0) (j1 : q0 ≤ 65535) :
    Calls Try.prog 7 #[.int .u32 a, .int .u16 p0, .int .u16 q0] w fun e w' => e = .returned (.bool true) ∧ Below w.heap.size w w' := by
  obtain ⟨k, hk⟩ : ∃ r, a % 3000000 = r := ⟨_, rfl⟩
  have hk0 : 0 ≤ k := by omega
  have hk1 : k ≤ 2999999 := by omega
  obtain ⟨p, hp⟩ : ∃ m, p0 % 2000 = m := ⟨_, rfl⟩
  have hp0 : 0 ≤ p := by omega
  have hp1 : p ≤ 1999 := by omega
  obtain ⟨q, hq⟩ : ∃ d, q0 % 2000 = d := ⟨_, rfl⟩
  have hq0 : 0 ≤ q := by omega
  have hq1 : q ≤ 1999 := by omega
  obtain ⟨x, z1, z2, z3, M, D, mx, dx, f1, f2, f3, f4, f5, f6, f7, f8, f9, f10, f11, f12, f13, f14, c1, c2, c3, c4, c5, c6, c7, c8⟩ := back_law k p q hk0 hk1 hp0 hp1 hq0 hq1
  have F1 := Lib.hid f1
  have F2 := Lib.hid f2
  have F3 := Lib.hid f3
  have F4 := Lib.hid f4
  have F5 := Lib.hid f5
  have F6 := Lib.hid f6
  have F7 := Lib.hid f7
  have F8 := Lib.hid f8
  have F9 := Lib.hid f9
  have F10 := Lib.hid f10
  have F11 := Lib.hid f11
  have F12 := Lib.hid f12
  have F13 := Lib.hid f13
  have F14 := Lib.hid f14
  clear f1 f2 f3 f4 f5 f6 f7 f8 f9 f10 f11 f12 f13 f14
  by_cases h28 : D ≤ 28
  · obtain ⟨rfl, rfl, rfl⟩ := c4 h28
    clear c4
    go_enter Try.func7, Try.ntmps7
    go_wp2_with fail
    refine (sanity_any _).mono ?_; rintro e w1 ⟨rfl, hn_⟩
    have h1_ := hn_; clear hn_
    go_wp2_with fail
    refine (Months_any _ _ _).mono ?_; rintro e w2 ⟨rfl, hn_⟩; rw [F2.out, F3.out]
    have h2_ := h1_.trans (hn_.mono h1_.size); clear h1_; clear hn_
    go_wp2_with fail
    refine (Months_any _ _ _).mono ?_; rintro e w3 ⟨rfl, hn_⟩; rw [F4.out, F5.out]
    have h3_ := h2_.trans (hn_.mono h2_.size); clear h2_; clear hn_
    go_wp2_with fail
    refine (Months_any _ _ _).mono ?_; rintro e w4 ⟨rfl, hn_⟩; rw [F6.out, F7.out]
    have h4_ := h3_.trans (hn_.mono h3_.size); clear h3_; clear hn_
    go_wp2_with fail
    refine (Months_any _ _ _).mono ?_; rintro e w5 ⟨rfl, hn_⟩; rw [F8.out, F9.out]
    have h5_ := h4_.trans (hn_.mono h4_.size); clear h4_; clear hn_
    go_wp2_with fail
    refine (Civil_any _ _).mono ?_; rintro e w6 ⟨rfl, hn_⟩; rw [F10.out, F11.out, F1.out]
    have h6_ := h5_.trans (hn_.mono h5_.size); clear h5_; clear hn_
    go_wp2_with fail
    refine (Civil_any _ _).mono ?_; rintro e w7 ⟨rfl, hn_⟩; rw [F13.out, F14.out, F12.out]
    have h7_ := h6_.trans (hn_.mono h6_.size); clear h6_; clear hn_
    go_wp2_with fail
    refine (Civil_any _ _).mono ?_; rintro e w8 ⟨rfl, hn_⟩; rw [F10.out, F11.out, F1.out]
    have h8_ := h7_.trans (hn_.mono h7_.size); clear h7_; clear hn_
    go_wp2_with fail
    go_ret
    exact ⟨rfl, h8_⟩
  · clear c4
    go_enter Try.func7, Try.ntmps7
    go_wp2_with fail
    refine (sanity_any _).mono ?_; rintro e w1 ⟨rfl, hn_⟩
    have h1_ := hn_; clear hn_
    go_wp2_with fail
    refine (Months_any _ _ _).mono ?_; rintro e w2 ⟨rfl, hn_⟩; rw [F2.out, F3.out]
    have h2_ := h1_.trans (hn_.mono h1_.size); clear h1_; clear hn_
    go_wp2_with fail
    refine (Months_any _ _ _).mono ?_; rintro e w3 ⟨rfl, hn_⟩; rw [F4.out, F5.out]
    have h3_ := h2_.trans (hn_.mono h2_.size); clear h2_; clear hn_
    go_wp2_with fail
    refine (Months_any _ _ _).mono ?_; rintro e w4 ⟨rfl, hn_⟩; rw [F6.out, F7.out]
    have h4_ := h3_.trans (hn_.mono h3_.size); clear h3_; clear hn_
    go_wp2_with fail
    refine (Months_any _ _ _).mono ?_; rintro e w5 ⟨rfl, hn_⟩; rw [F8.out, F9.out]
    have h5_ := h4_.trans (hn_.mono h4_.size); clear h4_; clear hn_
    go_wp2_with fail
    refine (Civil_any _ _).mono ?_; rintro e w6 ⟨rfl, hn_⟩; rw [F10.out, F11.out, F1.out]
    have h6_ := h5_.trans (hn_.mono h5_.size); clear h5_; clear hn_
    go_wp2_with fail
    refine (Civil_any _ _).mono ?_; rintro e w7 ⟨rfl, hn_⟩; rw [F13.out, F14.out, F12.out]
    have h7_ := h6_.trans (hn_.mono h6_.size); clear h6_; clear hn_
    go_wp2_with fail
    refine (Civil_any _ _).mono ?_; rintro e w8 ⟨rfl, hn_⟩; rw [F10.out, F11.out, F1.out]
    have h8_ := h7_.trans (hn_.mono h7_.size); clear h7_; clear hn_
    go_wp2_with fail
    go_ret
    exact ⟨rfl, h8_⟩
end Go.Proofs.Ytbfiflinonnmcaa
