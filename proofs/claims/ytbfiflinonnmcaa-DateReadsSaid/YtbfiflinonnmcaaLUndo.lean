/- DateUndo: the walk. -/
import Derived.Test.YtbfiflinonnmcaaDateD2
import Derived.Test.YtbfiflinonnmcaaDateR8
namespace Go.Proofs.Ytbfiflinonnmcaa
open Go.RowKit

theorem fmt_len (l : List UInt8) (n : Int) (hr : rightB l = true) : (fmtR l n).length ≤ 160 := by
  unfold fmtR
  split
  · have h40 := segs_len40 (right_len hr)
    have := wrs_len4 (Cal.yearOf n) (Cal.monthOf n) (Cal.dayOf n) l (segs l).length
    rw [List.take_length] at this
    omega
  · simp

set_option maxHeartbeats 4000000 in
set_option maxRecDepth 20000 in
theorem undo_walk (a b p q r : Int) (w : World) (a0 : 0 ≤ a) (a1 : a ≤ 4294967295) (b0 : 0 ≤ b) (b1 : b ≤ 4294967295) (p0 : -9223372036854775808 ≤ p) (p1 : p ≤ 9223372036854775807) (q0 : -9223372036854775808 ≤ q) (q1 : q ≤ 9223372036854775807) (r0 : -9223372036854775808 ≤ r) (r1 : r ≤ 9223372036854775807) :
    Calls Try.prog 10 #[.int .u32 a, .int .u32 b, .agg #[.int .i64 p, .int .i64 q, .int .i64 r]] w fun e w' => e = .returned (.bool true) ∧ Below w.heap.size w w' := by
  obtain ⟨B, hB⟩ : ∃ B, w.heap.size = B := ⟨_, rfl⟩
  obtain ⟨m, hm⟩ : ∃ k, a % 3652059 = k := ⟨_, rfl⟩
  have hm0 : 0 ≤ m := by omega
  have hm1 : m ≤ 3652058 := by omega
  obtain ⟨n, hn⟩ : ∃ k, b % 3652059 = k := ⟨_, rfl⟩
  have hn0 : 0 ≤ n := by omega
  have hn1 : n ≤ 3652058 := by omega
  have him : insideB m = true := insideB_yes hm0 hm1
  have hin : insideB n = true := insideB_yes hn0 hn1
  have HM := Lib.hid him
  have HN := Lib.hid hin
  clear him hin
  go_enter Try.func10, Try.ntmps10
  go_wp2_with fail
  refine (sanity_any _).mono ?_; rintro e w1 ⟨rfl, hb1⟩
  have hq := (HoldsA.new B w #[.int .i64 p, .int .i64 q, .int .i64 r] 22 hB.symm).below hb1 (by simp; omega)
  have hb0 := ((Below.refl B w).alloc (by omega) (.cells #[.int .i64 p, .int .i64 q, .int .i64 r] 22)).trans (hb1.mono (by simp; omega))
  clear hb1
  have x0 := hq.cell 0
  have x1 := hq.cell 1
  have x2 := hq.cell 2
  simp at x0 x1 x2
  go_wp2_with fail
  refine (Layout_any p q r false _ p0 p1 q0 q1 r0 r1).mono ?_; rintro e w2 ⟨l, rfl, hl, hrt, hb2⟩
  have hr : rightB l = true := hrt rfl
  have hb0 := hb0.trans (hb2.mono (by have := hb0.size; omega))
  clear hb2 hrt x0 x1 x2 hq
  obtain ⟨u1, u2, u3⟩ := undo_law l m hr HM.out
  obtain ⟨u4, _, _⟩ := undo_law l n hr HN.out
  have hlS := fmt_len l m hr
  have hinj : Hid (fmtR l m = fmtR l n → m = n) := Lib.hid (fmt_inj l m n hr HM.out HN.out)
  have hsame : Hid (m = n → fmtR l m = fmtR l n) := Lib.hid (fun e => by rw [e])
  have hz : fmtB isoL m = true := by simp [fmtB, HM.out, iso_right]
  have HF1 := Lib.hid (Format_any l m w2 (by omega))
  obtain ⟨S, hS⟩ : ∃ S, fmtR l m = S := ⟨_, rfl⟩
  obtain ⟨T, hT⟩ : ∃ T, fmtR l n = T := ⟨_, rfl⟩
  rw [hS] at u2 u3 hlS
  have U1 := Lib.hid u1
  have U2 := Lib.hid u2
  have U3 := Lib.hid u3
  have U4 := Lib.hid u4
  have HS := Lib.hid hS
  have HT := Lib.hid hT
  have HZ := Lib.hid hz
  clear u1 u2 u3 u4 hS hT hz hr HF1
  by_cases hmn : m = n
  · have e1 : S = T := by rw [← HS.out, ← HT.out]; exact hsame.out hmn
    subst hmn
    subst e1
    go_wp2_with fail
    refine (Format_any l m _ (by omega)).mono ?_; rintro e w3 ⟨rfl, hb3⟩; rw [HS.out, U1.out]
    have hb0 := hb0.trans (hb3.mono (by have := hb0.size; omega))
    clear hb3
    go_wp2_with fail
    refine (Format_any l m _ (by omega)).mono ?_; rintro e w4 ⟨rfl, hb4⟩; rw [HS.out, U1.out]
    have hb0 := hb0.trans (hb4.mono (by have := hb0.size; omega))
    clear hb4
    go_wp2_with fail
    refine (Read_any l S _ (by omega) (by omega)).mono ?_; rintro e w5 ⟨rfl, hb5⟩; rw [U2.out, U3.out]
    have hb0 := hb0.trans (hb5.mono (by have := hb0.size; omega))
    clear hb5
    go_wp2_with fail
    refine (Format_any isoL m _ (by decide)).mono ?_; rintro e w6 ⟨rfl, hb6⟩; rw [HZ.out]
    have hb0 := hb0.trans (hb6.mono (by have := hb0.size; omega))
    clear hb6
    go_wp2_with fail
    refine (Text_any m _).mono ?_; rintro e w7 ⟨rfl, hb7⟩
    have hb0 := hb0.trans (hb7.mono (by have := hb0.size; omega))
    clear hb7
    generalize fmtR isoL m = Z at *
    go_wp2_with fail
    go_ret
    exact ⟨rfl, by rw [hB]; exact hb0⟩
  · have e1 : ¬ S = T := fun e => hmn (hinj.out (by rw [HS.out, HT.out]; exact e))
    have e2 : (S == T) = false := by simpa using e1
    have e3 : (m == n) = false := by simpa using hmn
    go_wp2_with fail
    refine (Format_any l m _ (by omega)).mono ?_; rintro e w3 ⟨rfl, hb3⟩; rw [HS.out, U1.out]
    have hb0 := hb0.trans (hb3.mono (by have := hb0.size; omega))
    clear hb3
    go_wp2_with fail
    refine (Format_any l n _ (by omega)).mono ?_; rintro e w4 ⟨rfl, hb4⟩; rw [HT.out, U4.out]
    have hb0 := hb0.trans (hb4.mono (by have := hb0.size; omega))
    clear hb4
    go_wp2_with fail
    refine (Read_any l S _ (by omega) (by omega)).mono ?_; rintro e w5 ⟨rfl, hb5⟩; rw [U2.out, U3.out]
    have hb0 := hb0.trans (hb5.mono (by have := hb0.size; omega))
    clear hb5
    go_wp2_with fail
    refine (Format_any isoL m _ (by decide)).mono ?_; rintro e w6 ⟨rfl, hb6⟩; rw [HZ.out]
    have hb0 := hb0.trans (hb6.mono (by have := hb0.size; omega))
    clear hb6
    go_wp2_with fail
    refine (Text_any m _).mono ?_; rintro e w7 ⟨rfl, hb7⟩
    have hb0 := hb0.trans (hb7.mono (by have := hb0.size; omega))
    clear hb7
    generalize fmtR isoL m = Z at *
    go_wp2_with fail
    go_ret
    exact ⟨rfl, by rw [hB]; exact hb0⟩
end Go.Proofs.Ytbfiflinonnmcaa
