/- A walk over the reference's Parse. -/
import Derived.Test.YtbfiflinonnmcaaDateD1
namespace Go.Proofs.Ytbfiflinonnmcaa
open Go.RowKit
attribute [local go_sem] Oper.semAt_some

theorem numOk_4 {a b c d : UInt8} (h : numOk [a, b, c, d] = true) : isDig a = true ∧ isDig b = true ∧ isDig c = true ∧ isDig d = true := by
  unfold numOk at h
  simp at h
  exact h
theorem numOk_2 {a b : UInt8} (h : numOk [a, b] = true) : isDig a = true ∧ isDig b = true := by
  unfold numOk at h
  simp at h
  exact h
theorem numV_4 {a b c d : UInt8} (h : numOk [a, b, c, d] = true) : numV [a, b, c, d] = valD [a, b, c, d] := by
  obtain ⟨h1, h2, h3, h4⟩ := numOk_4 h
  simp [numV, h1, h2, h3, h4]
theorem numV_2 {a b : UInt8} (h : numOk [a, b] = true) : numV [a, b] = valD [a, b] := by
  obtain ⟨h1, h2⟩ := numOk_2 h
  simp [numV, h1, h2]
theorem readR_no {l s : List UInt8} (h : readB l s = false) : readR l s = 0 := by unfold readR; rw [if_neg (by rw [h]; simp)]

set_option maxHeartbeats 4000000 in
set_option maxRecDepth 20000 in
theorem refParse_any (s : List UInt8) (w : World) (hms : s.length ≤ 9223372036854775807) :
    Calls Try.prog 30 #[Str s] w fun e w' => e = .returned (.tuple #[.int .i64 (readR isoL s), .bool (readB isoL s)]) ∧ w = w' := by
  have hss : (⟨s.toArray⟩ : ByteArray).size = s.length := by simp [ByteArray.size]
  by_cases hl : s.length = 10
  · obtain ⟨a, b, c, d, x, f, g, i, j, k, hs⟩ := list10 hl
    have hi4 : ∀ (h : 4 < (⟨s.toArray⟩ : ByteArray).size), (⟨s.toArray⟩ : ByteArray)[4]'h = x := by subst hs; exact fun _ => rfl
    have hi7 : ∀ (h : 7 < (⟨s.toArray⟩ : ByteArray).size), (⟨s.toArray⟩ : ByteArray)[7]'h = i := by subst hs; exact fun _ => rfl
    have hx1 : (⟨s.toArray⟩ : ByteArray).extract 0 4 = ⟨[a, b, c, d].toArray⟩ := by subst hs; exact ext_mid _ 0 4
    have hx2 : (⟨s.toArray⟩ : ByteArray).extract 5 7 = ⟨[f, g].toArray⟩ := by subst hs; exact ext_mid _ 5 2
    have hx3 : (⟨s.toArray⟩ : ByteArray).extract 8 10 = ⟨[j, k].toArray⟩ := by subst hs; exact ext_mid _ 8 2
    have Hs := Lib.hid hs
    clear hs
    have hno : Hid (¬ (x = 45 ∧ i = 45 ∧ numOk [a, b, c, d] = true ∧ numOk [f, g] = true ∧ numOk [j, k] = true) → readB isoL s = false) := Lib.hid (fun h => by
      rw [Hs.out]
      refine iso_not (fun hh => h ?_)
      obtain ⟨h1, h2, h3, h4, h5, h6, h7, h8, h9, h10⟩ := hh
      exact ⟨h1, h2, by simp [numOk, h3, h4, h5, h6], by simp [numOk, h7, h8], by simp [numOk, h9, h10]⟩)
    by_cases e4 : x = 45
    · by_cases e7 : i = 45
      · have N1 := Lib.hid (refnumber_any [a, b, c, d] w (by simp))
        have N2 := Lib.hid (refnumber_any [f, g] w (by simp))
        have N3 := Lib.hid (refnumber_any [j, k] w (by simp))
        have hyes : Hid (numOk [a, b, c, d] = true → numOk [f, g] = true → numOk [j, k] = true → readB isoL s = Cal.validB (numV [a, b, c, d]) (numV [f, g]) (numV [j, k]) ∧ readR isoL s = numR (numV [a, b, c, d]) (numV [f, g]) (numV [j, k])) := Lib.hid (fun h1 h2 h3 => by
          rw [numV_4 h1, numV_2 h2, numV_2 h3, Hs.out, e4, e7]
          obtain ⟨a1, a2, a3, a4⟩ := numOk_4 h1
          obtain ⟨a5, a6⟩ := numOk_2 h2
          obtain ⟨a7, a8⟩ := numOk_2 h3
          exact iso_back a1 a2 a3 a4 a5 a6 a7 a8)
        clear Hs
        subst e4 e7
        generalize ([a, b, c, d] : List UInt8) = x1 at *
        generalize ([f, g] : List UInt8) = x2 at *
        generalize ([j, k] : List UInt8) = x3 at *
        generalize numV x1 = v1 at *
        generalize numV x2 = v2 at *
        generalize numV x3 = v3 at *
        have HN := Lib.hid (refNumber_any v1 v2 v3 w)
        rcases Bool.eq_false_or_eq_true (numOk x1) with o1 | o1
        · rcases Bool.eq_false_or_eq_true (numOk x2) with o2 | o2
          · rcases Bool.eq_false_or_eq_true (numOk x3) with o3 | o3
            · obtain ⟨r1, r2⟩ := hyes.out o1 o2 o3
              have O1 := Lib.hid o1
              have O2 := Lib.hid o2
              have O3 := Lib.hid o3
              clear hyes hno o1 o2 o3
              rcases Bool.eq_false_or_eq_true (Cal.validB v1 v2 v3) with hv | hv
              · rw [hv] at r1
                rw [r1, r2]
                clear r1 r2
                have Hv := Lib.hid hv
                clear hv
                go_enter Try.func30, Try.ntmps30
                go_wp2_with fail
                refine N1.out.mono ?_; rintro e w' ⟨rfl, rfl⟩; rw [O1.out]
                go_wp2_with fail
                refine N2.out.mono ?_; rintro e w' ⟨rfl, rfl⟩; rw [O2.out]
                go_wp2_with fail
                refine N3.out.mono ?_; rintro e w' ⟨rfl, rfl⟩; rw [O3.out]
                go_wp2_with fail
                refine HN.out.mono ?_; rintro e w' ⟨rfl, rfl⟩; rw [Hv.out]
                go_wp2_with fail
                go_ret2
                exact ⟨rfl, rfl⟩
              · rw [hv] at r1
                have r3 : numR v1 v2 v3 = 0 := by unfold numR; rw [if_neg (by rw [hv]; simp)]
                rw [r3] at r2
                rw [r1, r2]
                clear r1 r2 r3
                have Hv := Lib.hid hv
                clear hv
                go_enter Try.func30, Try.ntmps30
                go_wp2_with fail
                refine N1.out.mono ?_; rintro e w' ⟨rfl, rfl⟩; rw [O1.out]
                go_wp2_with fail
                refine N2.out.mono ?_; rintro e w' ⟨rfl, rfl⟩; rw [O2.out]
                go_wp2_with fail
                refine N3.out.mono ?_; rintro e w' ⟨rfl, rfl⟩; rw [O3.out]
                go_wp2_with fail
                refine HN.out.mono ?_; rintro e w' ⟨rfl, rfl⟩; rw [Hv.out]
                go_wp2_with fail
                go_ret2
                exact ⟨rfl, rfl⟩
            · have r1 := hno.out (by rintro ⟨_, _, a1, a2, a3⟩; simp_all)
              rw [readR_no r1, r1]
              clear r1 hno hyes
              have O1 := Lib.hid o1
              have O2 := Lib.hid o2
              have O3 := Lib.hid o3
              clear o1 o2 o3
              rcases Bool.eq_false_or_eq_true (Cal.validB v1 v2 v3) with hv | hv
              · have Hv := Lib.hid hv
                clear hv
                go_enter Try.func30, Try.ntmps30
                go_wp2_with fail
                refine N1.out.mono ?_; rintro e w' ⟨rfl, rfl⟩; rw [O1.out]
                go_wp2_with fail
                refine N2.out.mono ?_; rintro e w' ⟨rfl, rfl⟩; rw [O2.out]
                go_wp2_with fail
                refine N3.out.mono ?_; rintro e w' ⟨rfl, rfl⟩; rw [O3.out]
                go_wp2_with fail
                refine HN.out.mono ?_; rintro e w' ⟨rfl, rfl⟩; rw [Hv.out]
                go_wp2_with fail
                go_ret2
                exact ⟨rfl, rfl⟩
              · have Hv := Lib.hid hv
                clear hv
                go_enter Try.func30, Try.ntmps30
                go_wp2_with fail
                refine N1.out.mono ?_; rintro e w' ⟨rfl, rfl⟩; rw [O1.out]
                go_wp2_with fail
                refine N2.out.mono ?_; rintro e w' ⟨rfl, rfl⟩; rw [O2.out]
                go_wp2_with fail
                refine N3.out.mono ?_; rintro e w' ⟨rfl, rfl⟩; rw [O3.out]
                go_wp2_with fail
                refine HN.out.mono ?_; rintro e w' ⟨rfl, rfl⟩; rw [Hv.out]
                go_wp2_with fail
                go_ret2
                exact ⟨rfl, rfl⟩
          · have r1 := hno.out (by rintro ⟨_, _, a1, a2, a3⟩; simp_all)
            rw [readR_no r1, r1]
            clear r1 hno hyes
            have O1 := Lib.hid o1
            have O2 := Lib.hid o2
            clear o1 o2
            rcases Bool.eq_false_or_eq_true (Cal.validB v1 v2 v3) with hv | hv
            · have Hv := Lib.hid hv
              clear hv
              go_enter Try.func30, Try.ntmps30
              go_wp2_with fail
              refine N1.out.mono ?_; rintro e w' ⟨rfl, rfl⟩; rw [O1.out]
              go_wp2_with fail
              refine N2.out.mono ?_; rintro e w' ⟨rfl, rfl⟩; rw [O2.out]
              go_wp2_with fail
              refine N3.out.mono ?_; rintro e w' ⟨rfl, rfl⟩
              go_wp2_with fail
              refine HN.out.mono ?_; rintro e w' ⟨rfl, rfl⟩; rw [Hv.out]
              go_wp2_with fail
              go_ret2
              exact ⟨rfl, rfl⟩
            · have Hv := Lib.hid hv
              clear hv
              go_enter Try.func30, Try.ntmps30
              go_wp2_with fail
              refine N1.out.mono ?_; rintro e w' ⟨rfl, rfl⟩; rw [O1.out]
              go_wp2_with fail
              refine N2.out.mono ?_; rintro e w' ⟨rfl, rfl⟩; rw [O2.out]
              go_wp2_with fail
              refine N3.out.mono ?_; rintro e w' ⟨rfl, rfl⟩
              go_wp2_with fail
              refine HN.out.mono ?_; rintro e w' ⟨rfl, rfl⟩; rw [Hv.out]
              go_wp2_with fail
              go_ret2
              exact ⟨rfl, rfl⟩
        · have r1 := hno.out (by rintro ⟨_, _, a1, a2, a3⟩; simp_all)
          rw [readR_no r1, r1]
          clear r1 hno hyes
          have O1 := Lib.hid o1
          clear o1
          rcases Bool.eq_false_or_eq_true (Cal.validB v1 v2 v3) with hv | hv
          · have Hv := Lib.hid hv
            clear hv
            go_enter Try.func30, Try.ntmps30
            go_wp2_with fail
            refine N1.out.mono ?_; rintro e w' ⟨rfl, rfl⟩; rw [O1.out]
            go_wp2_with fail
            refine N2.out.mono ?_; rintro e w' ⟨rfl, rfl⟩
            go_wp2_with fail
            refine N3.out.mono ?_; rintro e w' ⟨rfl, rfl⟩
            go_wp2_with fail
            refine HN.out.mono ?_; rintro e w' ⟨rfl, rfl⟩; rw [Hv.out]
            go_wp2_with fail
            go_ret2
            exact ⟨rfl, rfl⟩
          · have Hv := Lib.hid hv
            clear hv
            go_enter Try.func30, Try.ntmps30
            go_wp2_with fail
            refine N1.out.mono ?_; rintro e w' ⟨rfl, rfl⟩; rw [O1.out]
            go_wp2_with fail
            refine N2.out.mono ?_; rintro e w' ⟨rfl, rfl⟩
            go_wp2_with fail
            refine N3.out.mono ?_; rintro e w' ⟨rfl, rfl⟩
            go_wp2_with fail
            refine HN.out.mono ?_; rintro e w' ⟨rfl, rfl⟩; rw [Hv.out]
            go_wp2_with fail
            go_ret2
            exact ⟨rfl, rfl⟩
      · have r1 := hno.out (by simp [e7])
        rw [readR_no r1, r1]
        clear r1 hno Hs
        have e7' := byte_ne e7
        simp at e7'
        have E4 := e4
        subst e4
        go_enter Try.func30, Try.ntmps30
        go_wp2_with fail
        go_ret2
        exact ⟨rfl, rfl⟩
    · have r1 := hno.out (by simp [e4])
      rw [readR_no r1, r1]
      clear r1 hno Hs
      have e4' := byte_ne e4
      simp at e4'
      go_enter Try.func30, Try.ntmps30
      go_wp2_with fail
      go_ret2
      exact ⟨rfl, rfl⟩
  · have r1 := iso_not_len hl
    rw [readR_no r1, r1]
    clear r1
    have hl' : ¬ (s.length : Int) = 10 := by omega
    have hl'' : ((s.length : Int) == 10) = false := by simp; omega
    go_enter Try.func30, Try.ntmps30
    go_wp2_with fail
    go_ret2
    exact ⟨rfl, rfl⟩
end Go.Proofs.Ytbfiflinonnmcaa
