/- Walks over Format, take and Read of the program. -/
import Derived.Test.YtbfiflinonnmcaaDateS7
namespace Go.Proofs.Ytbfiflinonnmcaa
open Go.RowKit Go.Shelf
attribute [local go_sem] Oper.semAt_some

/-! ### Format -/
def fmtB (l : List UInt8) (n : Int) : Bool := insideB n && rightB l
def fmtR (l : List UInt8) (n : Int) : List UInt8 := if fmtB l n = true then wrs (Cal.yearOf n) (Cal.monthOf n) (Cal.dayOf n) (segs l) else []
theorem right_len {l : List UInt8} (h : rightB l = true) : l.length ≤ 40 := by
  unfold rightB at h; simp at h; exact h.1.1

set_option maxHeartbeats 2000000 in
theorem Format_any (l : List UInt8) (n : Int) (w : World) (hm : l.length ≤ 9223372036854775807) :
    Calls Try.prog 22 #[Str l, .int .i64 n] w fun e w' => e = .returned (.tuple #[Str (fmtR l n), .bool (fmtB l n)]) ∧ Below w.heap.size w w' := by
  have hmf : ∀ (fn : Fn) (first cap : Array Value) (w : World), (Instr.makeFunc fn first cap).run Try.prog w = .ok (.func fn first cap) w := fun _ _ _ _ => rfl
  rcases Bool.eq_false_or_eq_true (insideB n) with hv | hv
  · have h01 := (insideB_iff n).1 hv
    obtain ⟨h0, h1⟩ := h01
    have hci := civ_in hv
    have hcv := Cal.civ_valid n h0 h1
    have hdm := Cal.dim_bd (Cal.yearOf n) (Cal.monthOf n)
    unfold Cal.ValidP at hcv
    obtain ⟨v1, v2, v3, v4, v5, v6⟩ := hcv
    have v7 : Cal.dayOf n ≤ 31 := by omega
    obtain ⟨c1, c2, c3⟩ := hci
    have C1 := Lib.hid c1
    have C2 := Lib.hid c2
    have C3 := Lib.hid c3
    have Hv := Lib.hid hv
    rcases Bool.eq_false_or_eq_true (rightB l) with hr | hr
    · have e1 : fmtB l n = true := by simp [fmtB, hv, hr]
      have e2 : fmtR l n = wrs (Cal.yearOf n) (Cal.monthOf n) (Cal.dayOf n) (segs l) := by simp [fmtR, e1]
      have hl := right_len hr
      have Hr := Lib.hid hr
      rw [e1, e2]
      clear e1 e2 hr hv c1 c2 c3 hdm v6
      go_enter Try.func22, Try.ntmps22
      go_wp2_with fail
      refine (Civil_any _ _).mono ?_; rintro e w1 ⟨rfl, hb1⟩; rw [Hv.out, C1.out, C2.out, C3.out]
      have h2 := (HoldsA.new w.heap.size w #[.int .i64 0, .int .i64 0, .int .i64 0] 63 rfl).below hb1 (by simp)
      have hb0 := ((Below.refl w.heap.size w).alloc (Nat.le_refl _) (.cells #[.int .i64 0, .int .i64 0, .int .i64 0] 63)).trans (hb1.mono (by simp))
      have hc0 := h2.cell 0
      have hc1 := h2.cell 1
      have hc2 := h2.cell 2
      have hf0 := h2.free 0
      have hf1 := h2.free 1
      have hf2 := h2.free 2
      simp at hc0 hc1 hc2
      clear hb1
      go_wp2_with fail
      have h3 := ((h2.set 0 (.int .i64 (Cal.yearOf n))).set 1 (.int .i64 (Cal.monthOf n))).set 2 (.int .i64 (Cal.dayOf n))
      simp at h3
      have hb3 := ((hb0.setCell (p := ⟨w.heap.size, 0, none⟩) (Nat.le_refl _) (.int .i64 (Cal.yearOf n))).setCell (p := ⟨w.heap.size, 1, none⟩) (Nat.le_refl _) (.int .i64 (Cal.monthOf n))).setCell (p := ⟨w.heap.size, 2, none⟩) (Nat.le_refl _) (.int .i64 (Cal.dayOf n))
      generalize ((w1.setCell ⟨w.heap.size, 0, none⟩ (.int .i64 (Cal.yearOf n))).setCell ⟨w.heap.size, 1, none⟩ (.int .i64 (Cal.monthOf n))).setCell ⟨w.heap.size, 2, none⟩ (.int .i64 (Cal.dayOf n)) = w2 at *
      clear h2 hb0 hc0 hc1 hc2 hf0 hf1 hf2
      refine (right_any _ _ hm).mono ?_; rintro e w3 ⟨rfl, hb4⟩; rw [Hr.out]
      have h4 := h3.below hb4 h3.lt
      have hb5 := hb3.trans (hb4.mono hb3.size)
      have hc0 := h4.cell 0
      have hc1 := h4.cell 1
      have hc2 := h4.cell 2
      simp at hc0 hc1 hc2
      clear h3 hb3 hb4
      go_wp2_with (go_at_call 43; refine (written_any l _ _ _ _ (by omega) (by omega) (by omega) (by omega) (by omega) (by omega) hl).mono ?_; rintro e w4 ⟨rfl, hb6⟩)
      go_ret2
      exact ⟨rfl, hb5.trans (hb6.mono hb5.size)⟩
    · have e1 : fmtB l n = false := by simp [fmtB, hr]
      have e2 : fmtR l n = [] := by simp [fmtR, e1]
      have Hr := Lib.hid hr
      rw [e1, e2]
      clear e1 e2 hr hv c1 c2 c3 hdm v6
      go_enter Try.func22, Try.ntmps22
      go_wp2_with fail
      refine (Civil_any _ _).mono ?_; rintro e w1 ⟨rfl, hb1⟩; rw [Hv.out, C1.out, C2.out, C3.out]
      have h2 := (HoldsA.new w.heap.size w #[.int .i64 0, .int .i64 0, .int .i64 0] 63 rfl).below hb1 (by simp)
      have hb0 := ((Below.refl w.heap.size w).alloc (Nat.le_refl _) (.cells #[.int .i64 0, .int .i64 0, .int .i64 0] 63)).trans (hb1.mono (by simp))
      have hc0 := h2.cell 0
      have hc1 := h2.cell 1
      have hc2 := h2.cell 2
      have hf0 := h2.free 0
      have hf1 := h2.free 1
      have hf2 := h2.free 2
      simp at hc0 hc1 hc2
      clear hb1
      go_wp2_with fail
      have hb3 := ((hb0.setCell (p := ⟨w.heap.size, 0, none⟩) (Nat.le_refl _) (.int .i64 (Cal.yearOf n))).setCell (p := ⟨w.heap.size, 1, none⟩) (Nat.le_refl _) (.int .i64 (Cal.monthOf n))).setCell (p := ⟨w.heap.size, 2, none⟩) (Nat.le_refl _) (.int .i64 (Cal.dayOf n))
      generalize ((w1.setCell ⟨w.heap.size, 0, none⟩ (.int .i64 (Cal.yearOf n))).setCell ⟨w.heap.size, 1, none⟩ (.int .i64 (Cal.monthOf n))).setCell ⟨w.heap.size, 2, none⟩ (.int .i64 (Cal.dayOf n)) = w2 at *
      clear h2 hb0 hc0 hc1 hc2 hf0 hf1 hf2
      refine (right_any _ _ hm).mono ?_; rintro e w3 ⟨rfl, hb4⟩; rw [Hr.out]
      have hb5 := hb3.trans (hb4.mono hb3.size)
      clear hb3 hb4
      go_wp2_with fail
      go_ret2
      exact ⟨rfl, hb5⟩
  · have e1 : fmtB l n = false := by simp [fmtB, hv]
    have e2 : fmtR l n = [] := by simp [fmtR, e1]
    have hn := civ_no hv
    obtain ⟨n1, n2, n3⟩ := hn
    have N1 := Lib.hid n1
    have N2 := Lib.hid n2
    have N3 := Lib.hid n3
    have Hv := Lib.hid hv
    rw [e1, e2]
    clear e1 e2 hv n1 n2 n3
    go_enter Try.func22, Try.ntmps22
    go_wp2_with fail
    refine (Civil_any _ _).mono ?_; rintro e w1 ⟨rfl, hb1⟩; rw [Hv.out, N1.out, N2.out, N3.out]
    have h2 := (HoldsA.new w.heap.size w #[.int .i64 0, .int .i64 0, .int .i64 0] 63 rfl).below hb1 (by simp)
    have hb0 := ((Below.refl w.heap.size w).alloc (Nat.le_refl _) (.cells #[.int .i64 0, .int .i64 0, .int .i64 0] 63)).trans (hb1.mono (by simp))
    have hc0 := h2.cell 0
    have hc1 := h2.cell 1
    have hc2 := h2.cell 2
    have hf0 := h2.free 0
    have hf1 := h2.free 1
    have hf2 := h2.free 2
    simp at hc0 hc1 hc2
    clear hb1
    go_wp2_with fail
    go_ret2
    exact ⟨rfl, ((hb0.setCell (p := ⟨w.heap.size, 0, none⟩) (Nat.le_refl _) _).setCell (p := ⟨w.heap.size, 1, none⟩) (Nat.le_refl _) _).setCell (p := ⟨w.heap.size, 2, none⟩) (Nat.le_refl _) _⟩

/-! ### take: the digits at the beginning of a string -/
def isDig (b : UInt8) : Bool := decide (48 ≤ b.toNat) && decide (b.toNat ≤ 57)
def takeD : Nat → Int → List UInt8 → Int × List UInt8
  | 0, n, s => (n, s)
  | k + 1, n, s => match s with
    | [] => (n, [])
    | b :: t => if isDig b then takeD k (10 * n + (b.toNat - 48)) t else (n, b :: t)
def mostOf (f : List UInt8) : Nat := max f.length 2
set_option maxHeartbeats 2000000 in
theorem take_any (f s : List UInt8) (w : World) (hf : f.length ≤ 4) (hm : s.length ≤ 9223372036854775807) :
    Calls Try.prog 49 #[Str f, Str s] w fun e w' => e = .returned (.tuple #[.int .i64 (takeD (mostOf f) 0 s).1, Str (takeD (mostOf f) 0 s).2]) ∧ Below w.heap.size w w' := by
  have hfs : (⟨f.toArray⟩ : ByteArray).size = f.length := by simp [ByteArray.size]
  have hss : (⟨s.toArray⟩ : ByteArray).size = s.length := by simp [ByteArray.size]
  have hmo : mostOf f ≤ 4 := by unfold mostOf; omega
  obtain ⟨m, hm2⟩ : ∃ m, mostOf f = m := ⟨_, rfl⟩
  have hmx : max (f.length : Int) 2 = (m : Int) := by rw [← hm2]; unfold mostOf; omega
  rw [hm2] at hmo ⊢
  clear hm2 hfs hss
  go_enter Try.func49, Try.ntmps49
  go_wp2_with fail
  go_loop [7, 8] (fun v i => ∃ (k : Nat) (n : Int), k ≤ m ∧ k ≤ s.length ∧ v = .int .i64 n ∧ i = .int .i64 k ∧ takeD m 0 s = takeD (m - k) n (s.drop k) ∧ 0 ≤ n ∧ n < 10 ^ k) (fun _ i => m - (intOf i).toNat)
  case atStart => exact ⟨0, 0, by omega, by omega, rfl, rfl, by simp, by omega, by decide⟩
  case round =>
    obtain ⟨k, n, hkm, hks, rfl, rfl, he, hn0, hn1⟩ := hrel
    have hn9 : n ≤ 9999 := by
      rcases (show k = 0 ∨ k = 1 ∨ k = 2 ∨ k = 3 ∨ k = 4 by omega) with h | h | h | h | h <;> subst h <;> simp at hn1 <;> omega
    have Hn1 := Lib.hid hn1
    have He := Lib.hid he
    clear hn1 he
    have hdr := ext_drop s k s.length (Nat.le_refl _)
    by_cases h1 : k < s.length
    · have hsd : s.drop k = s[k] :: s.drop (k + 1) := by rw [List.drop_eq_getElem_cons h1]
      obtain ⟨x, hx⟩ : ∃ x : UInt8, s[k] = x := ⟨_, rfl⟩
      rw [hx] at hsd
      have hidx : ∀ (h : k < (⟨s.toArray⟩ : ByteArray).size), (⟨s.toArray⟩ : ByteArray)[k]'h = x := fun h => hx
      have hx8 : x.toNat < 256 := UInt8.toNat_lt x
      have Hsd := Lib.hid hsd
      clear hsd hx
      by_cases h2 : k < m
      · by_cases h3 : (48 : Int) ≤ (x.toNat : Int)
        · by_cases h4 : (x.toNat : Int) ≤ 57
          · have hst : takeD m 0 s = takeD (m - (k + 1)) (10 * n + (x.toNat - 48)) (s.drop (k + 1)) := by
              rw [He.out, Hsd.out, show m - k = (m - (k + 1)) + 1 by omega]
              simp [takeD, isDig]; omega
            have Hst := Lib.hid hst
            clear hst hdr
            have hn999 : n ≤ 999 := by
              have := Hn1.out
              rcases (show k = 0 ∨ k = 1 ∨ k = 2 ∨ k = 3 by omega) with h | h | h | h <;> subst h <;> simp at this <;> omega
            go_wp2_with fail
            go_round
            case rel =>
              refine ⟨k + 1, 10 * n + (x.toNat - 48), by omega, by omega, ?_, by go_num, Hst.out, by omega, ?_⟩
              · first | rfl | (congr 1; omega)
              · have := Hn1.out; rw [Int.pow_succ]; omega
            case measure => simp [intOf]; omega
          · have hst : takeD m 0 s = (n, s.drop k) := by
              rw [He.out, Hsd.out, show m - k = (m - (k + 1)) + 1 by omega]
              simp [takeD, isDig]; omega
            have Hst := Lib.hid hst
            clear hst
            go_wp2_with fail
            go_quiet (fail)
            go_wp2_with fail
            go_ret2
            exact ⟨by rw [Hst.out]; first | rfl | (rw [List.drop_length]; rfl), below_drewN (Below.refl _ _) _⟩
        · have hst : takeD m 0 s = (n, s.drop k) := by
            rw [He.out, Hsd.out, show m - k = (m - (k + 1)) + 1 by omega]
            simp [takeD, isDig]; omega
          have Hst := Lib.hid hst
          clear hst
          go_wp2_with fail
          go_quiet (fail)
          go_wp2_with fail
          go_ret2
          exact ⟨by rw [Hst.out]; first | rfl | (rw [List.drop_length]; rfl), below_drewN (Below.refl _ _) _⟩
      · obtain rfl : k = m := by omega
        have hst : takeD k 0 s = (n, s.drop k) := by rw [He.out, Nat.sub_self]; rfl
        have Hst := Lib.hid hst
        clear hst
        go_wp2_with fail
        go_quiet (fail)
        go_wp2_with fail
        go_ret2
        exact ⟨by rw [Hst.out]; first | rfl | (rw [List.drop_length]; rfl), below_drewN (Below.refl _ _) _⟩
    · obtain rfl : k = s.length := by omega
      have hst : takeD m 0 s = (n, s.drop s.length) := by
        rw [He.out]
        have : s.drop s.length = [] := by simp
        rw [this]
        cases m - s.length <;> rfl
      have Hst := Lib.hid hst
      clear hst
      go_wp2_with fail
      go_quiet (fail)
      go_wp2_with fail
      go_ret2
      exact ⟨by rw [Hst.out]; first | rfl | (rw [List.drop_length]; rfl), below_drewN (Below.refl _ _) _⟩
end Go.Proofs.Ytbfiflinonnmcaa
