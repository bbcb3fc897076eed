/- A walk over the reference's Format. -/
import Derived.Test.YtbfiflinonnmcaaDateR3
namespace Go.Proofs.Ytbfiflinonnmcaa
open Go.RowKit
attribute [local go_sem] Oper.semAt_some

theorem rdg_dgs (k : Nat) : ∀ n : Int, rdg k n k = dgs k n := by
  induction k with
  | zero => intro n; rfl
  | succ k ih =>
    intro n
    have h : 0 < n ∨ (0 : Int) < ((k + 1 : Nat) : Int) := by right; omega
    simp only [rdg, dgs]
    rw [if_pos h, show ((k + 1 : Nat) : Int) - 1 = k by omega, ih]
theorem rdg_y (y : Int) : rdg 4 y 4 = dgs 4 y := rdg_dgs 4 y
theorem rdg_2 (m : Int) (h0 : 0 ≤ m) (h1 : m ≤ 99) : rdg 4 m 2 = dgs 2 m := by
  have h : ∀ k : Fin 100, rdg 4 k.1 2 = dgs 2 k.1 := by decide +kernel
  obtain ⟨j, rfl⟩ := Int.eq_ofNat_of_zero_le h0
  exact h ⟨j, by omega⟩
theorem rdg_1 (m : Int) (h0 : 1 ≤ m) (h1 : m ≤ 99) : rdg 4 m 1 = shortL m := by
  have h : ∀ k : Fin 100, 1 ≤ k.1 → rdg 4 k.1 1 = shortL k.1 := by decide +kernel
  obtain ⟨j, rfl⟩ := Int.eq_ofNat_of_zero_le (show 0 ≤ m by omega)
  exact h ⟨j, by omega⟩ (by simp only; omega)
theorem wr_Y (y m d : Int) : wr y m d fY = dgs 4 y := rfl
theorem wr_M (y m d : Int) : wr y m d fM = dgs 2 m := rfl
theorem wr_1M (y m d : Int) : wr y m d [77] = shortL m := rfl
theorem wr_D (y m d : Int) : wr y m d fD = dgs 2 d := rfl
theorem wr_1D (y m d : Int) : wr y m d [68] = shortL d := rfl
theorem wr_x (y m d : Int) (x : UInt8) (h1 : (x == 77) = false) (h2 : (x == 68) = false) : wr y m d [x] = [x] := by
  simp at h1 h2
  simp [wr, fY, fM, fD, h1, h2]
theorem dgs_len (k : Nat) (n : Int) : (dgs k n).length = k := dgs_length k n
theorem short_len (m : Int) : (shortL m).length ≤ 2 := by
  unfold shortL Lib.trimPrefix
  split
  · rw [List.length_drop, dgs_length]; omega
  · rw [dgs_length]; omega
theorem wr_len4 (y m d : Int) (lay f : List UInt8) (hf : f ∈ segs lay) : (wr y m d f).length ≤ 4 := by
  have := short_len m
  have := short_len d
  have h4 := segs_le4 lay.length lay (Nat.le_refl _) f hf
  unfold wr
  split
  · rw [dgs_length]; omega
  · split
    · rw [dgs_length]; omega
    · split
      · omega
      · split
        · rw [dgs_length]; omega
        · split <;> omega
theorem wrs_len4 (y m d : Int) (lay : List UInt8) (k : Nat) : (wrs y m d ((segs lay).take k)).length ≤ 4 * k := by
  induction k with
  | zero => simp [wrs]
  | succ k ih =>
    by_cases hk : k < (segs lay).length
    · rw [take_snoc hk]
      have := wr_len4 y m d lay _ (List.getElem_mem hk)
      simp only [wrs, List.flatMap_append, List.length_append, List.flatMap_cons, List.flatMap_nil, List.append_nil] at *
      omega
    · rw [List.take_of_length_le (by omega)]
      rw [List.take_of_length_le (by omega)] at ih
      omega
theorem str_cat (a b : List UInt8) : (⟨a.toArray⟩ : ByteArray) ++ ⟨b.toArray⟩ = ⟨(a ++ b).toArray⟩ := by
  apply ByteArray.ext
  simp
theorem own_below {B g cap : Nat} {l : List (List UInt8)} {W W' : World} (h : OwnsStr B (.slice (some ⟨g, 0, none⟩) l.length cap) l W) (hb : Below W.heap.size W W') : OwnsStr B (.slice (some ⟨g, 0, none⟩) l.length cap) l W' :=
  World.ownsRow.kept h (below_grown hb) (.inr (by simp [Value.ownBlock]))
theorem wrs_take {y m d : Int} {l : List (List UInt8)} {k : Nat} {f : List UInt8} (hk : k < l.length) (hf : l[k] = f) : wrs y m d (l.take (k + 1)) = wrs y m d (l.take k) ++ wr y m d f := by
  rw [take_snoc hk, hf]; simp [wrs]

set_option maxHeartbeats 4000000 in
set_option maxRecDepth 20000 in
theorem refFormat_any (lay : List UInt8) (nn : Int) (w : World) (hm : lay.length ≤ 9223372036854775807) :
    Calls Try.prog 23 #[Str lay, .int .i64 nn] w fun e w' => e = .returned (.tuple #[Str (fmtR lay nn), .bool (fmtB lay nn)]) ∧ Below w.heap.size w w' := by
  have HC := Lib.hid (refCivil_any nn w)
  have HR := Lib.hid (refRight_any' lay w hm)
  rcases Bool.eq_false_or_eq_true (insideB nn) with hv | hv
  · obtain ⟨h0, h1⟩ := (insideB_iff nn).1 hv
    have hci := civ_in hv
    have hcv := Cal.civ_valid nn h0 h1
    have hdm := Cal.dim_bd (Cal.yearOf nn) (Cal.monthOf nn)
    rcases Bool.eq_false_or_eq_true (rightB lay) with hr | hr
    · have e1 : fmtB lay nn = true := by simp [fmtB, hv, hr]
      have e2 : fmtR lay nn = wrs (Cal.yearOf nn) (Cal.monthOf nn) (Cal.dayOf nn) (segs lay) := by simp [fmtR, e1]
      rw [e1, e2]
      obtain ⟨c1, c2, c3⟩ := hci
      generalize Cal.yearOf nn = y at *
      generalize Cal.monthOf nn = m at *
      generalize Cal.dayOf nn = d at *
      obtain ⟨v1, v2, v3, v4, v5, v6⟩ := hcv
      have v7 : d ≤ 31 := by omega
      have hl40 := right_len hr
      have Hv := Lib.hid hv
      have Hr := Lib.hid hr
      have C1 := Lib.hid c1
      have C2 := Lib.hid c2
      have C3 := Lib.hid c3
      clear e1 e2 hv hr c1 c2 c3 hdm v6
      go_enter Try.func23, Try.ntmps23
      go_wp2_with fail
      refine HC.out.mono ?_; rintro e w' ⟨rfl, rfl⟩; rw [C1.out, C2.out, C3.out, Hv.out]
      clear HC
      go_wp2_with fail
      refine HR.out.mono ?_; rintro e w1 ⟨rfl, hb1⟩; rw [Hr.out]
      clear HR
      have HP := Lib.hid (Parts_any lay w1 hl40)
      go_wp2_with fail
      refine HP.out.mono ?_; rintro e w2 ⟨v, rfl, hown, hb2⟩; clear HP
      have hbl := hb1.trans (hb2.mono hb1.size)
      by_cases hne : segs lay = []
      · have hlz : (segs lay).length = 0 := by rw [hne]; rfl
        obtain ⟨v', hv'⟩ : ∃ v', v = v' := ⟨_, rfl⟩
        obtain ⟨_, h | ⟨g, cap, cur, h, _⟩⟩ := hown
        · obtain ⟨rfl, _⟩ := h
          clear hv'
          go_wp2_with fail
          go_loop [11, 13] (fun s i => s = .string ⟨#[]⟩ ∧ i = .int .i64 0) (fun _ _ => 0)
          case atStart => exact ⟨rfl, rfl⟩
          case round =>
            obtain ⟨rfl, rfl⟩ := hrel
            go_wp2_with fail
            go_ret2
            exact ⟨rfl, hbl⟩
        · subst h
          clear hv'
          rw [hlz]
          go_wp2_with fail
          go_loop [11, 13] (fun s i => s = .string ⟨#[]⟩ ∧ i = .int .i64 0) (fun _ _ => 0)
          case atStart => exact ⟨rfl, rfl⟩
          case round =>
            obtain ⟨rfl, rfl⟩ := hrel
            go_wp2_with fail
            go_ret2
            exact ⟨rfl, hbl⟩
      · obtain ⟨g, cap, rfl, hg1, hg2⟩ := own_form hown hne
        have HL : Hid (∃ n, (segs lay).length = n) := Lib.hid ⟨_, rfl⟩
        go_wp2_with fail
        obtain ⟨n, hn⟩ := HL.out
        have hs40 := segs_len40 hl40
        rw [hn]
        go_loopw [11, 13] (fun s i ww => ∃ k : Nat, k ≤ n ∧ i = .int .i64 k ∧ s = Str (wrs y m d ((segs lay).take k)) ∧ OwnsStr w1.heap.size (.slice (some ⟨g, 0, none⟩) (segs lay).length cap) (segs lay) ww ∧ Below w.heap.size w ww) (fun _ i _ => n - (intOf i).toNat)
        case atStart => exact ⟨0, by omega, rfl, rfl, hown, hbl⟩
        case round =>
          clear hown hbl hb1 hb2
          obtain ⟨k, hkn, rfl, rfl, hown, hbl⟩ := hrel
          by_cases hk : k < n
          · have hk' : k < (segs lay).length := by omega
            obtain ⟨f, hf⟩ : ∃ f, (segs lay)[k] = f := ⟨_, rfl⟩
            have hgc := own_cell hown k hk'
            rw [hf] at hgc
            have hcl := segs_class lay.length lay (Nat.le_refl _) f (by rw [← hf]; exact List.getElem_mem _)
            have Hw := Lib.hid (wrs_take (y := y) (m := m) (d := d) hk' hf)
            have hacc := wrs_len4 y m d lay k
            have hpl := wr_len4 y m d lay f (by rw [← hf]; exact List.getElem_mem _)
            generalize wrs y m d ((segs lay).take k) = acc at *
            clear hf
            rcases hcl with rfl | rfl | rfl | ⟨x, hx, rfl⟩
            · unfold fY at hgc
              have Hp := Lib.hid ((rdg_y y).trans (wr_Y y m d).symm)
              go_wp2_with fail
              refine (refdigits_any y 4 _ (by omega) (by omega) (by omega) (by omega)).mono ?_; rintro e w3 ⟨rfl, hb3⟩; rw [Hp.out]
              clear Hp
              generalize Go.Proofs.Ytbfiflinonnmcaa.wr y m d fY = p at *
              have hlim : ¬ 9223372036854775807 < acc.length + p.length := by omega
              go_wp2_with fail
              go_roundw
              case rel => exact ⟨k + 1, by omega, by go_num, by rw [Hw.out, str_cat], own_below hown hb3, hbl.trans (hb3.mono hbl.size)⟩
              case measure => simp [intOf]; omega
            · unfold fM at hgc
              have Hp := Lib.hid ((rdg_2 m (by omega) (by omega)).trans (wr_M y m d).symm)
              go_wp2_with fail
              refine (refdigits_any m 2 _ (by omega) (by omega) (by omega) (by omega)).mono ?_; rintro e w3 ⟨rfl, hb3⟩; rw [Hp.out]
              clear Hp
              generalize Go.Proofs.Ytbfiflinonnmcaa.wr y m d fM = p at *
              have hlim : ¬ 9223372036854775807 < acc.length + p.length := by omega
              go_wp2_with fail
              go_roundw
              case rel => exact ⟨k + 1, by omega, by go_num, by rw [Hw.out, str_cat], own_below hown hb3, hbl.trans (hb3.mono hbl.size)⟩
              case measure => simp [intOf]; omega
            · unfold fD at hgc
              have Hp := Lib.hid ((rdg_2 d (by omega) (by omega)).trans (wr_D y m d).symm)
              go_wp2_with fail
              refine (refdigits_any d 2 _ (by omega) (by omega) (by omega) (by omega)).mono ?_; rintro e w3 ⟨rfl, hb3⟩; rw [Hp.out]
              clear Hp
              generalize Go.Proofs.Ytbfiflinonnmcaa.wr y m d fD = p at *
              have hlim : ¬ 9223372036854775807 < acc.length + p.length := by omega
              go_wp2_with fail
              go_roundw
              case rel => exact ⟨k + 1, by omega, by go_num, by rw [Hw.out, str_cat], own_below hown hb3, hbl.trans (hb3.mono hbl.size)⟩
              case measure => simp [intOf]; omega
            · rcases Bool.eq_false_or_eq_true (x == 77) with hM | hM
              · obtain rfl : x = 77 := by simpa using hM
                have Hp := Lib.hid ((rdg_1 m (by omega) (by omega)).trans (wr_1M y m d).symm)
                go_wp2_with fail
                refine (refdigits_any m 1 _ (by omega) (by omega) (by omega) (by omega)).mono ?_; rintro e w3 ⟨rfl, hb3⟩; rw [Hp.out]
                clear Hp
                generalize Go.Proofs.Ytbfiflinonnmcaa.wr y m d [77] = p at *
                have hlim : ¬ 9223372036854775807 < acc.length + p.length := by omega
                go_wp2_with fail
                go_roundw
                case rel => exact ⟨k + 1, by omega, by go_num, by rw [Hw.out, str_cat], own_below hown hb3, hbl.trans (hb3.mono hbl.size)⟩
                case measure => simp [intOf]; omega
              · rcases Bool.eq_false_or_eq_true (x == 68) with hD | hD
                · obtain rfl : x = 68 := by simpa using hD
                  have Hp := Lib.hid ((rdg_1 d (by omega) (by omega)).trans (wr_1D y m d).symm)
                  go_wp2_with fail
                  refine (refdigits_any d 1 _ (by omega) (by omega) (by omega) (by omega)).mono ?_; rintro e w3 ⟨rfl, hb3⟩; rw [Hp.out]
                  clear Hp
                  generalize Go.Proofs.Ytbfiflinonnmcaa.wr y m d [68] = p at *
                  have hlim : ¬ 9223372036854775807 < acc.length + p.length := by omega
                  go_wp2_with fail
                  go_roundw
                  case rel => exact ⟨k + 1, by omega, by go_num, by rw [Hw.out, str_cat], own_below hown hb3, hbl.trans (hb3.mono hbl.size)⟩
                  case measure => simp [intOf]; omega
                · clear hpl
                  have hlim : ¬ 9223372036854775807 < acc.length + 1 := by omega
                  go_wp2_with fail
                  go_roundw
                  case rel => exact ⟨k + 1, by omega, by go_num, by rw [Hw.out, wr_x y m d x hM hD, str_cat], hown, hbl⟩
                  case measure => simp [intOf]; omega
          · obtain rfl : k = n := by omega
            have hfin : wrs y m d ((segs lay).take k) = wrs y m d (segs lay) := by rw [List.take_of_length_le (by omega)]
            have Hfin := Lib.hid hfin
            generalize wrs y m d ((segs lay).take k) = acc at *
            clear hfin
            go_wp2_with fail
            go_ret2
            exact ⟨by rw [← Hfin.out]; rfl, hbl⟩
    · have e1 : fmtB lay nn = false := by simp [fmtB, hr]
      have e2 : fmtR lay nn = [] := by simp [fmtR, e1]
      rw [e1, e2]
      have Hv := Lib.hid hv
      have Hr := Lib.hid hr
      obtain ⟨c1, c2, c3⟩ := hci
      have C1 := Lib.hid c1
      have C2 := Lib.hid c2
      have C3 := Lib.hid c3
      clear e1 e2 hv hr c1 c2 c3 hcv hdm
      go_enter Try.func23, Try.ntmps23
      go_wp2_with fail
      refine HC.out.mono ?_; rintro e w' ⟨rfl, rfl⟩; rw [C1.out, C2.out, C3.out, Hv.out]
      clear HC
      go_wp2_with fail
      refine HR.out.mono ?_; rintro e w1 ⟨rfl, hb1⟩; rw [Hr.out]
      clear HR
      go_wp2_with fail
      go_ret2
      exact ⟨rfl, hb1⟩
  · have e1 : fmtB lay nn = false := by simp [fmtB, hv]
    have e2 : fmtR lay nn = [] := by simp [fmtR, e1]
    rw [e1, e2]
    have Hv := Lib.hid hv
    clear e1 e2 hv
    go_enter Try.func23, Try.ntmps23
    go_wp2_with fail
    refine HC.out.mono ?_; rintro e w' ⟨rfl, rfl⟩; rw [Hv.out]
    clear HC
    go_wp2_with fail
    refine HR.out.mono ?_; rintro e w1 ⟨rfl, hb1⟩
    clear HR
    go_wp2_with fail
    go_ret2
    exact ⟨rfl, hb1⟩
end Go.Proofs.Ytbfiflinonnmcaa
