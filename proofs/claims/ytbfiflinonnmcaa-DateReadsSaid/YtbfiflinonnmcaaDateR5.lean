/- Walks over the reference's number, Text, Parse and Mod. -/
import Derived.Test.YtbfiflinonnmcaaDateR4
import Derived.Test.YtbfiflinonnmcaaDateP
namespace Go.Proofs.Ytbfiflinonnmcaa
open Go.RowKit
attribute [local go_sem] Oper.semAt_some

/-! ### Mod -/
def modR (n m : Int) : Int := n % m
theorem Mod_any (n m : Int) (w : World) (_h0 : -9223372036854775808 ≤ n) (_h1 : n ≤ 9223372036854775807) (m0 : 0 < m) (m1 : m ≤ 1000000000000) :
    Calls Try.prog 24 #[.int .i64 n, .int .i64 m] w fun e w' => e = .returned (.int .i64 (modR n m)) ∧ w = w' := by
  have hm : ¬ m = 0 := by omega
  have t1 : -m < n.tmod m := Int.lt_tmod_of_pos n m0
  have t2 : n.tmod m < m := Int.tmod_lt_of_pos n m0
  have t3 : (n.tmod m + m) % m = modR n m := by
    unfold modR
    rw [Int.add_emod_right]
    have := Int.tmod_add_mul_tdiv n m
    have e : n.tmod m = n + m * (-(n.tdiv m)) := by rw [Int.mul_neg]; omega
    rw [e, Int.add_mul_emod_self_left]
  obtain ⟨r, hr⟩ : ∃ r, n.tmod m = r := ⟨_, rfl⟩
  rw [hr] at t1 t2 t3
  have T3 := Lib.hid t3
  clear t3
  go_enter Try.func24, Try.ntmps24
  go_wp2_with fail
  go_ret
  exact ⟨by rw [← T3.out]; rfl, rfl⟩

/-! ### Text -/
theorem ret_ba {a b : ByteArray} (h : a = b) : Ending.returned (.string a) = .returned (.string b) := by rw [h]
theorem iso_right : rightB isoL = true := by kernel_rfl
theorem iso_wrs (y m d : Int) : wrs y m d (segs isoL) = dgs 4 y ++ [45] ++ dgs 2 m ++ [45] ++ dgs 2 d := by
  have e : segs isoL = [fY, [45], fM, [45], fD] := by kernel_rfl
  rw [e]
  simp [wrs, wr_Y, wr_M, wr_D, wr_x]
set_option maxHeartbeats 2000000 in
theorem refText_any (nn : Int) (w : World) :
    Calls Try.prog 28 #[.int .i64 nn] w fun e w' => e = .returned (Str (fmtR isoL nn)) ∧ Below w.heap.size w w' := by
  have HC := Lib.hid (refCivil_any nn w)
  rcases Bool.eq_false_or_eq_true (insideB nn) with hv | hv
  · obtain ⟨h0, h1⟩ := (insideB_iff nn).1 hv
    have hci := civ_in hv
    have hcv := Cal.civ_valid nn h0 h1
    have hdm := Cal.dim_bd (Cal.yearOf nn) (Cal.monthOf nn)
    have e2 : fmtR isoL nn = wrs (Cal.yearOf nn) (Cal.monthOf nn) (Cal.dayOf nn) (segs isoL) := by simp [fmtR, fmtB, iso_right, hv]
    rw [iso_wrs] at e2
    obtain ⟨c1, c2, c3⟩ := hci
    generalize Cal.yearOf nn = y at *
    generalize Cal.monthOf nn = m at *
    generalize Cal.dayOf nn = d at *
    obtain ⟨v1, v2, v3, v4, v5, v6⟩ := hcv
    have v7 : d ≤ 31 := by omega
    have H1 := Lib.hid (rdg_y y)
    have H2 := Lib.hid (rdg_2 m (by omega) (by omega))
    have H3 := Lib.hid (rdg_2 d (by omega) (by omega))
    have l1 := dgs_len 4 y
    have l2 := dgs_len 2 m
    have l3 := dgs_len 2 d
    generalize dgs 4 y = p at *
    generalize dgs 2 m = q at *
    generalize dgs 2 d = r at *
    have Hv := Lib.hid hv
    have E2 := Lib.hid e2
    have C1 := Lib.hid c1
    have C2 := Lib.hid c2
    have C3 := Lib.hid c3
    clear hv e2 c1 c2 c3 hdm v6
    go_enter Try.func28, Try.ntmps28
    go_wp2_with fail
    refine HC.out.mono ?_; rintro e w' ⟨rfl, rfl⟩; rw [C1.out, C2.out, C3.out, Hv.out]
    clear HC
    go_wp2_with fail
    refine (refdigits_any y 4 _ (by omega) (by omega) (by omega) (by omega)).mono ?_; rintro e w1 ⟨rfl, hb1⟩; rw [H1.out]
    go_wp2_with fail
    refine (refdigits_any m 2 _ (by omega) (by omega) (by omega) (by omega)).mono ?_; rintro e w2 ⟨rfl, hb2⟩; rw [H2.out]
    go_wp2_with fail
    refine (refdigits_any d 2 _ (by omega) (by omega) (by omega) (by omega)).mono ?_; rintro e w3 ⟨rfl, hb3⟩; rw [H3.out]
    go_wp2_with fail
    go_ret
    refine ⟨?_, (hb1.trans (hb2.mono hb1.size)).trans (hb3.mono (hb1.trans (hb2.mono hb1.size)).size)⟩
    rw [E2.out]
    exact ret_ba (by apply ByteArray.ext; simp)
  · have e2 : fmtR isoL nn = [] := by simp [fmtR, fmtB, hv]
    rw [e2]
    have Hv := Lib.hid hv
    clear hv e2
    go_enter Try.func28, Try.ntmps28
    go_wp2_with fail
    refine HC.out.mono ?_; rintro e w' ⟨rfl, rfl⟩; rw [Hv.out]
    clear HC
    go_wp2_with fail
    go_ret
    exact ⟨rfl, Below.refl _ _⟩
end Go.Proofs.Ytbfiflinonnmcaa
