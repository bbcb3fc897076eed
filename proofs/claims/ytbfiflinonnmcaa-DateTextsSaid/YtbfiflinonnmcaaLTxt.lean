/- DateTexts: the plain law and the walk. -/
import Derived.Test.YtbfiflinonnmcaaDateR7
import Derived.Test.YtbfiflinonnmcaaBytes
import Derived.Test.YtbfiflinonnmcaaBits
import Derived.BigRegion
namespace Go.Proofs.Ytbfiflinonnmcaa
open Go.RowKit

theorem text_read (k : Int) (h : insideB k = true) : (fmtR isoL k).length = 10 ∧ readB isoL (fmtR isoL k) = true ∧ readR isoL (fmtR isoL k) = k := by
  obtain ⟨h0, h1⟩ := (insideB_iff k).1 h
  have hv := Cal.civ_valid k h0 h1
  have hn := Cal.civ_num k h0
  have hd := Cal.dim_bd (Cal.yearOf k) (Cal.monthOf k)
  have e2 : fmtR isoL k = wrs (Cal.yearOf k) (Cal.monthOf k) (Cal.dayOf k) (segs isoL) := by simp [fmtR, fmtB, iso_right, h]
  rw [iso_wrs] at e2
  generalize Cal.yearOf k = y at *
  generalize Cal.monthOf k = m at *
  generalize Cal.dayOf k = d at *
  have hvb : Cal.validB y m d = true := (Cal.validB_iff _ _ _).2 hv
  obtain ⟨v1, v2, v3, v4, v5, v6⟩ := hv
  have w1 : valD (dgs 4 y) = y := val_dgs 4 y (by omega) (by omega)
  have w2 : valD (dgs 2 m) = m := val_dgs 2 m (by omega) (by omega)
  have w3 : valD (dgs 2 d) = d := val_dgs 2 d (by omega) (by omega)
  refine ⟨by rw [e2]; simp [dgs_len], ?_⟩
  have hb := iso_back (a := dg (y / 10 / 10 / 10)) (b := dg (y / 10 / 10)) (c := dg (y / 10)) (d := dg y) (f := dg (m / 10)) (g := dg m) (j := dg (d / 10)) (k := dg d) (dg_dig _) (dg_dig _) (dg_dig _) (dg_dig _) (dg_dig _) (dg_dig _) (dg_dig _) (dg_dig _)
  rw [← dgs4, ← dgs2, ← dgs2, w1, w2, w3, hvb] at hb
  have e3 : fmtR isoL k = [dg (y / 10 / 10 / 10), dg (y / 10 / 10), dg (y / 10), dg y, 45, dg (m / 10), dg m, 45, dg (d / 10), dg d] := by rw [e2, dgs4, dgs2, dgs2]; rfl
  rw [e3]
  refine ⟨hb.1, ?_⟩
  exact hb.2.trans (by rw [numR, if_pos hvb, hn])
theorem text_out (k : Int) (h : insideB k = false) : fmtR isoL k = [] := by simp [fmtR, fmtB, h]

set_option maxHeartbeats 4000000 in
set_option maxRecDepth 20000 in
theorem texts_walk (n : Int) (raw : List UInt8) (q0 q1 : Int) (w : World) (hr : raw.length ≤ 9223372036854775807) (a0 : 0 ≤ q0) (a1 : q0 ≤ 255) (b0 : 0 ≤ q1) (b1 : q1 ≤ 255) :
    Calls Try.prog 11 #[.int .i64 n, Str raw, .agg #[.int .u8 q0, .int .u8 q1]] w fun e w' => e = .returned (.bool true) ∧ Below w.heap.size w w' := by
  obtain ⟨B, hB⟩ : ∃ B, w.heap.size = B := ⟨_, rfl⟩
  go_enter Try.func11, Try.ntmps11
  go_wp2_with fail
  refine (sanity_any _).mono ?_; rintro e w1 ⟨rfl, hb1⟩
  have k1 := (HoldsA.new B w #[.int .u8 q0, .int .u8 q1] 54 hB.symm).below hb1 (by simp; omega)
  have hb0 := ((Below.refl B w).alloc (by omega) (.cells #[.int .u8 q0, .int .u8 q1] 54)).trans (hb1.mono (by simp; omega))
  clear hb1
  go_wp2_with fail
  generalize bits BinOp.and IntKind.i64 n 4194303 = kk
  obtain ⟨S, hS⟩ : ∃ S, fmtR isoL kk = S := ⟨_, rfl⟩
  obtain ⟨T, hT⟩ : ∃ T, fmtR isoL n = T := ⟨_, rfl⟩
  refine (Text_any _ _).mono ?_; rintro e w2 ⟨rfl, hb2⟩; rw [hS]
  have k1 := k1.below hb2 k1.lt
  have hb0 := hb0.trans (hb2.mono (by have := hb0.size; omega))
  clear hb2
  go_wp2_with fail
  refine (refText_any _ _).mono ?_; rintro e w3 ⟨rfl, hb3⟩; rw [hS]
  have k1 := k1.below hb3 k1.lt
  have hb0 := hb0.trans (hb3.mono (by have := hb0.size; omega))
  clear hb3
  go_wp2_with fail
  refine (Text_any _ _).mono ?_; rintro e w4 ⟨rfl, hb4⟩; rw [hT]
  have k1 := k1.below hb4 k1.lt
  have hb0 := hb0.trans (hb4.mono (by have := hb0.size; omega))
  clear hb4
  go_wp2_with fail
  refine (refText_any _ _).mono ?_; rintro e w5 ⟨rfl, hb5⟩; rw [hT]
  have k1 := k1.below hb5 k1.lt
  have hb0 := hb0.trans (hb5.mono (by have := hb0.size; omega))
  clear hb5
  go_wp2_with fail
  rcases Bool.eq_false_or_eq_true (insideB kk) with hi | hi
  · obtain ⟨hl, hrb, hrr⟩ := text_read kk hi
    rw [hS] at hl hrb hrr
    have HP := Lib.hid (Parse_any S w5 (by omega))
    have hS0 : ¬ S = [] := by intro e; rw [e] at hl; simp at hl
    have hS1 : (S == []) = false := by simpa using hS0
    have Hrb := Lib.hid hrb
    have Hrr := Lib.hid hrr
    clear hrb hrr hS hi hT
    refine HP.out.mono ?_; rintro e w6 ⟨rfl, hb6⟩; rw [Hrb.out, Hrr.out]
    have k1 := k1.below hb6 k1.lt
    have hb0 := hb0.trans (hb6.mono (by have := hb0.size; omega))
    clear hb6 HP
    obtain ⟨cap, w7, hconv, hby, hb7, hsz⟩ := bytes_of (P := Try.prog) w6 9 48 5 S Try.underlying9 Try.underlying48 Try.underlying5
    obtain ⟨C, hC⟩ : ∃ C, w6.heap.size = C := ⟨_, rfl⟩
    have hBC : B < C := by have := k1.lt; omega
    have k1 := k1.below hb7 (by omega)
    have hb0 := hb0.trans (hb7.mono (by have := hb0.size; omega))
    clear hb7
    rw [hC] at hby hconv hsz
    rw [hl] at hconv
    have x0 := k1.cell 0
    have x1 := k1.cell 1
    simp at x0 x1
    obtain ⟨j, hj, hj10⟩ : ∃ j : Nat, q0 % 10 = j ∧ j < 10 := ⟨(q0 % 10).toNat, by omega, by omega⟩
    have y0 := (hby.2 j (by omega)).1
    have y1 := (hby.2 j (by omega)).2
    have hj1 : (j : Int) < 10 := by omega
    have hj0 : (0 : Int) ≤ j := by omega
    have hCB : ¬ C = B := by omega
    have hBC' : ¬ B = C := by omega
    have Hby := Lib.hid hby
    clear hby
    go_wp2_with fail
    go_region
    have hx : q1 = ((UInt8.ofNat q1.toNat).toNat : Int) := by rw [UInt8.toNat_ofNat']; omega
    have hby8 := Hby.out.set j (by omega) (UInt8.ofNat q1.toNat) q1 hx
    have hb0 := (hb0.setCell (p := ⟨C, j, none⟩) (by simp; omega) (.int .u8 q1)).drew
    have hlx : (S.set j (UInt8.ofNat q1.toNat)).length = 10 := by rw [List.length_set, hl]
    have hby9 : BytesAt C (S.set j (UInt8.ofNat q1.toNat)) (w7.setCell ⟨C, j, none⟩ (.int .u8 q1)).drew := hby8
    generalize S.set j (UInt8.ofNat q1.toNat) = X at *
    generalize (w7.setCell ⟨C, j, none⟩ (.int .u8 q1)).drew = w8 at *
    have hback := hby9.back (P := Try.prog) 48 9 5 cap Try.underlying48 Try.underlying5 Try.underlying9
    rw [hlx] at hback
    clear hby8 hby9 Hby hconv x0 x1 y0 y1 hj hj10 hj1 hj0 hCB hBC' hx
    have hc1 := str_cat S [48]
    have hc2 := str_cat [48] S
    have hT2 : (S ++ [48]).length = S.length + 1 := by simp
    have hT3 : ([48] ++ S).length = S.length + 1 := by simp
    generalize S ++ [48] = T2 at *
    generalize [48] ++ S = T3 at *
    obtain ⟨D, hD⟩ : ∃ D, w8.heap.size = D := ⟨_, rfl⟩
    have hb1 := hb0.alloc (by have := hb0.size; omega) (.cells #[Str X, Str raw, Str T2, Str T3] 9)
    have k4 := HoldsA.new D w8 #[Str X, Str raw, Str T2, Str T3] 9 hD.symm
    go_wp2_with fail
    generalize w8.alloc (.cells #[Str X, Str raw, Str T2, Str T3] 9) = w9 at *
    go_loopw [76] (fun i wr => ∃ k : Nat, k ≤ 4 ∧ i = .int .i64 k ∧ Below B w wr ∧ HoldsA D #[Str X, Str raw, Str T2, Str T3] 9 wr) (fun i _ => 4 - (intOf i).toNat)
    case atStart => exact ⟨0, by omega, rfl, hb1, k4⟩
    case round =>
      clear hb1 k4 hb0 k1
      obtain ⟨k, hk, rfl, hbl, hh⟩ := hrel
      have c0 := hh.cell 0
      have c1 := hh.cell 1
      have c2 := hh.cell 2
      have c3 := hh.cell 3
      simp at c0 c1 c2 c3
      obtain rfl | rfl | rfl | rfl | rfl : k = 0 ∨ k = 1 ∨ k = 2 ∨ k = 3 ∨ k = 4 := by omega
      · go_wp2_with fail
        refine (Parse_any X _ (by omega)).mono ?_; rintro e wa ⟨rfl, ha⟩
        go_wp2_with fail
        refine (refParse_any X _ (by omega)).mono ?_; rintro e w' ⟨rfl, rfl⟩
        go_wp2_with fail
        go_roundw
        case rel => exact ⟨1, by omega, by go_num, hbl.trans (ha.mono (by have := hbl.size; omega)), hh.below ha hh.lt⟩
        case measure => simp [intOf]
      · go_wp2_with fail
        refine (Parse_any raw _ (by omega)).mono ?_; rintro e wa ⟨rfl, ha⟩
        go_wp2_with fail
        refine (refParse_any raw _ (by omega)).mono ?_; rintro e w' ⟨rfl, rfl⟩
        go_wp2_with fail
        go_roundw
        case rel => exact ⟨2, by omega, by go_num, hbl.trans (ha.mono (by have := hbl.size; omega)), hh.below ha hh.lt⟩
        case measure => simp [intOf]
      · go_wp2_with fail
        refine (Parse_any T2 _ (by omega)).mono ?_; rintro e wa ⟨rfl, ha⟩
        go_wp2_with fail
        refine (refParse_any T2 _ (by omega)).mono ?_; rintro e w' ⟨rfl, rfl⟩
        go_wp2_with fail
        go_roundw
        case rel => exact ⟨3, by omega, by go_num, hbl.trans (ha.mono (by have := hbl.size; omega)), hh.below ha hh.lt⟩
        case measure => simp [intOf]
      · go_wp2_with fail
        refine (Parse_any T3 _ (by omega)).mono ?_; rintro e wa ⟨rfl, ha⟩
        go_wp2_with fail
        refine (refParse_any T3 _ (by omega)).mono ?_; rintro e w' ⟨rfl, rfl⟩
        go_wp2_with fail
        go_roundw
        case rel => exact ⟨4, by omega, by go_num, hbl.trans (ha.mono (by have := hbl.size; omega)), hh.below ha hh.lt⟩
        case measure => simp [intOf]
      · go_wp2_with fail
        go_ret
        exact ⟨rfl, by rw [hB]; exact hbl⟩
  · have hz := text_out kk hi
    rw [hS] at hz
    have hrb : readB isoL S = false := by rw [hz]; exact iso_not_len (by simp)
    have hrr : readR isoL S = 0 := readR_no hrb
    have hl : S.length = 0 := by rw [hz]; rfl
    have HP := Lib.hid (Parse_any S w5 (by omega))
    have Hrb := Lib.hid hrb
    have Hrr := Lib.hid hrr
    clear hrb hrr hS hi hT
    refine HP.out.mono ?_; rintro e w6 ⟨rfl, hb6⟩; rw [Hrb.out, Hrr.out]
    have k1 := k1.below hb6 k1.lt
    have hb0 := hb0.trans (hb6.mono (by have := hb0.size; omega))
    clear hb6 HP
    obtain ⟨cap, w7, hconv, hby, hb7, hsz⟩ := bytes_of (P := Try.prog) w6 9 48 5 S Try.underlying9 Try.underlying48 Try.underlying5
    obtain ⟨C, hC⟩ : ∃ C, w6.heap.size = C := ⟨_, rfl⟩
    have k1 := k1.below hb7 (by have := k1.lt; omega)
    have hb0 := hb0.trans (hb7.mono (by have := hb0.size; omega))
    clear hb7
    rw [hC] at hby hconv hsz
    have hback := hby.back (P := Try.prog) 48 9 5 cap Try.underlying48 Try.underlying5 Try.underlying9
    rw [hl] at hconv hback
    clear hby Hrb Hrr hsz
    subst hz
    have hc1 := str_cat [] [48]
    have hc2 := str_cat [48] []
    obtain ⟨D, hD⟩ : ∃ D, w7.heap.size = D := ⟨_, rfl⟩
    have hb1 := hb0.alloc (by have := hb0.size; omega) (.cells #[Str [], Str raw, Str [48], Str [48]] 9)
    have k4 := HoldsA.new D w7 #[Str [], Str raw, Str [48], Str [48]] 9 hD.symm
    go_wp2_with fail
    generalize w7.alloc (.cells #[Str [], Str raw, Str [48], Str [48]] 9) = w9 at *
    go_loopw [76] (fun i wr => ∃ k : Nat, k ≤ 4 ∧ i = .int .i64 k ∧ Below B w wr ∧ HoldsA D #[Str [], Str raw, Str [48], Str [48]] 9 wr) (fun i _ => 4 - (intOf i).toNat)
    case atStart => exact ⟨0, by omega, rfl, hb1, k4⟩
    case round =>
      clear hb1 k4 hb0 k1
      obtain ⟨k, hk, rfl, hbl, hh⟩ := hrel
      have c0 := hh.cell 0
      have c1 := hh.cell 1
      have c2 := hh.cell 2
      have c3 := hh.cell 3
      simp at c0 c1 c2 c3
      obtain rfl | rfl | rfl | rfl | rfl : k = 0 ∨ k = 1 ∨ k = 2 ∨ k = 3 ∨ k = 4 := by omega
      · go_wp2_with fail
        refine (Parse_any [] _ (by simp)).mono ?_; rintro e wa ⟨rfl, ha⟩
        go_wp2_with fail
        refine (refParse_any [] _ (by simp)).mono ?_; rintro e w' ⟨rfl, rfl⟩
        go_wp2_with fail
        go_roundw
        case rel => exact ⟨1, by omega, by go_num, hbl.trans (ha.mono (by have := hbl.size; omega)), hh.below ha hh.lt⟩
        case measure => simp [intOf]
      · go_wp2_with fail
        refine (Parse_any raw _ (by omega)).mono ?_; rintro e wa ⟨rfl, ha⟩
        go_wp2_with fail
        refine (refParse_any raw _ (by omega)).mono ?_; rintro e w' ⟨rfl, rfl⟩
        go_wp2_with fail
        go_roundw
        case rel => exact ⟨2, by omega, by go_num, hbl.trans (ha.mono (by have := hbl.size; omega)), hh.below ha hh.lt⟩
        case measure => simp [intOf]
      · go_wp2_with fail
        refine (Parse_any [48] _ (by simp)).mono ?_; rintro e wa ⟨rfl, ha⟩
        go_wp2_with fail
        refine (refParse_any [48] _ (by simp)).mono ?_; rintro e w' ⟨rfl, rfl⟩
        go_wp2_with fail
        go_roundw
        case rel => exact ⟨3, by omega, by go_num, hbl.trans (ha.mono (by have := hbl.size; omega)), hh.below ha hh.lt⟩
        case measure => simp [intOf]
      · go_wp2_with fail
        refine (Parse_any [48] _ (by simp)).mono ?_; rintro e wa ⟨rfl, ha⟩
        go_wp2_with fail
        refine (refParse_any [48] _ (by simp)).mono ?_; rintro e w' ⟨rfl, rfl⟩
        go_wp2_with fail
        go_roundw
        case rel => exact ⟨4, by omega, by go_num, hbl.trans (ha.mono (by have := hbl.size; omega)), hh.below ha hh.lt⟩
        case measure => simp [intOf]
      · go_wp2_with fail
        go_ret
        exact ⟨rfl, by rw [hB]; exact hbl⟩
end Go.Proofs.Ytbfiflinonnmcaa
