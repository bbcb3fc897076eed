/- DateNumbers: the walk. -/
import Derived.Test.YtbfiflinonnmcaaDateP
import Derived.Test.YtbfiflinonnmcaaBits
import Derived.Deep.RegionHeld3
namespace Go.Proofs.Ytbfiflinonnmcaa
open Go.RowKit

set_option maxHeartbeats 4000000 in
set_option maxRecDepth 20000 in
theorem numbers_walk (q0 q1 q2 r0 r1 r2 n : Int) (w : World) (a0 : 0 ≤ r0) (a1 : r0 ≤ 255) (b0 : 0 ≤ r1) (b1 : r1 ≤ 255) :
    Calls Try.prog 3 #[.agg #[.int .i64 q0, .int .i64 q1, .int .i64 q2], .agg #[.int .u8 r0, .int .u8 r1, .int .u8 r2], .int .i64 n] w fun e w' => e = .returned (.bool true) ∧ Below w.heap.size w w' := by
  obtain ⟨B, hB⟩ : ∃ B, w.heap.size = B := ⟨_, rfl⟩
  go_enter Try.func3, Try.ntmps3
  go_wp2_with fail
  refine (sanity_any _).mono ?_; rintro e w1 ⟨rfl, hb1⟩
  have k1 := ((HoldsA.new B w #[.int .i64 q0, .int .i64 q1, .int .i64 q2] 22 hB.symm).alloc (.cells #[.int .u8 r0, .int .u8 r1, .int .u8 r2] 23)).below hb1 (by simp; omega)
  have k2 := (HoldsA.new (B + 1) (w.alloc (.cells #[.int .i64 q0, .int .i64 q1, .int .i64 q2] 22)) #[.int .u8 r0, .int .u8 r1, .int .u8 r2] 23 (by simp [hB])).below hb1 (by simp; omega)
  have hb0 := (((Below.refl B w).alloc (by omega) (.cells #[.int .i64 q0, .int .i64 q1, .int .i64 q2] 22)).alloc (by simp; omega) (.cells #[.int .u8 r0, .int .u8 r1, .int .u8 r2] 23)).trans (hb1.mono (by simp; omega))
  clear hb1
  go_wp2_with fail
  obtain ⟨C, hC⟩ : ∃ C, w1.heap.size = C := ⟨_, rfl⟩
  have k3 := HoldsA.new C w1 #[.int .i64 1, .int .i64 4, .int .i64 100, .int .i64 400, .int .i64 1900, .int .i64 2000, .int .i64 2024, .int .i64 9999] 3 hC.symm
  have k1 := k1.alloc (.cells #[.int .i64 1, .int .i64 4, .int .i64 100, .int .i64 400, .int .i64 1900, .int .i64 2000, .int .i64 2024, .int .i64 9999] 3)
  have k2 := k2.alloc (.cells #[.int .i64 1, .int .i64 4, .int .i64 100, .int .i64 400, .int .i64 1900, .int .i64 2000, .int .i64 2024, .int .i64 9999] 3)
  have hb0 := hb0.alloc (by have := hb0.size; omega) (.cells #[.int .i64 1, .int .i64 4, .int .i64 100, .int .i64 400, .int .i64 1900, .int .i64 2000, .int .i64 2024, .int .i64 9999] 3)
  rw [hC]
  generalize w1.alloc (.cells #[.int .i64 1, .int .i64 4, .int .i64 100, .int .i64 400, .int .i64 1900, .int .i64 2000, .int .i64 2024, .int .i64 9999] 3) = w2 at *
  have x0 := k1.cell 0
  have x1 := k1.cell 1
  have x2 := k1.cell 2
  have y0 := k2.cell 0
  have y1 := k2.cell 1
  have y2 := k2.cell 2
  obtain ⟨j, hj, hj8⟩ : ∃ j : Nat, r0 % 8 = j ∧ j < 8 := ⟨(r0 % 8).toNat, by omega, by omega⟩
  obtain ⟨yv, hyv⟩ : ∃ yv, w2.cell? ⟨C, j, none⟩ = some (.int .i64 yv) := by
    rw [k3.cell]
    obtain rfl | rfl | rfl | rfl | rfl | rfl | rfl | rfl : j = 0 ∨ j = 1 ∨ j = 2 ∨ j = 3 ∨ j = 4 ∨ j = 5 ∨ j = 6 ∨ j = 7 := by omega
    all_goals exact ⟨_, rfl⟩
  simp at x0 x1 x2 y0 y1 y2
  have hjt : r0.tmod 8 = j := by rw [Int.tmod_eq_emod_of_nonneg a0]; exact hj
  have hjw : IntKind.u8.wrap j = j := by rw [IntKind.wrap_u8]; omega
  have hj0 : (0 : Int) ≤ j := by omega
  have hj1 : (j : Int) < 8 := by omega
  have hj2 : ¬ (j : Int) < 0 := by omega
  have hj3 : ¬ 8 ≤ (j : Int) := by omega
  go_region_held3 (fun W => W.cell? ⟨B, 0, none⟩ = some (.int .i64 q0) ∧ W.cell? ⟨B, 1, none⟩ = some (.int .i64 q1) ∧ W.cell? ⟨B, 2, none⟩ = some (.int .i64 q2) ∧ W.cell? ⟨B + 1, 0, none⟩ = some (.int .u8 r0) ∧ W.cell? ⟨B + 1, 1, none⟩ = some (.int .u8 r1) ∧ W.cell? ⟨B + 1, 2, none⟩ = some (.int .u8 r2) ∧ W.cell? ⟨C, j, none⟩ = some (.int .i64 yv)) (go_keep) (fail)
  obtain ⟨D, hD⟩ : ∃ D, w2.heap.size = D := ⟨_, rfl⟩
  rw [hD]
  clear x0 x1 x2 y0 y1 y2 hyv k3 hjt hjw hj0 hj1 hj2 hj3 hj hj8
  generalize IntKind.i64.wrap (r1.tmod 14) = e1
  generalize IntKind.i64.wrap (r2.tmod 33) = e2
  generalize IntKind.i64.wrap (1 + bits BinOp.and IntKind.i64 q0 8191) = e3
  generalize IntKind.i64.wrap (1 + IntKind.i64.wrap (r1.tmod 12)) = e4
  generalize IntKind.i64.wrap (27 + IntKind.i64.wrap (r2.tmod 6)) = e5
  have k1 := k1.alloc (.cells #[.int .i64 q0, .int .i64 q1, .int .i64 q2, .int .i64 yv, .int .i64 e1, .int .i64 e2, .int .i64 e3, .int .i64 e4, .int .i64 e5] 22)
  have k2 := k2.alloc (.cells #[.int .i64 q0, .int .i64 q1, .int .i64 q2, .int .i64 yv, .int .i64 e1, .int .i64 e2, .int .i64 e3, .int .i64 e4, .int .i64 e5] 22)
  have k4 := HoldsA.new D w2 #[.int .i64 q0, .int .i64 q1, .int .i64 q2, .int .i64 yv, .int .i64 e1, .int .i64 e2, .int .i64 e3, .int .i64 e4, .int .i64 e5] 22 hD.symm
  have hb0 := hb0.alloc (by have := hb0.size; omega) (.cells #[.int .i64 q0, .int .i64 q1, .int .i64 q2, .int .i64 yv, .int .i64 e1, .int .i64 e2, .int .i64 e3, .int .i64 e4, .int .i64 e5] 22)
  have k2 := k2.drew 1
  have k4 := k4.drew 1
  have hb0 := hb0.drew
  rw [show World.drewN _ 1 = World.drew _ from rfl] at k2 k4
  generalize (w2.alloc (.cells #[.int .i64 q0, .int .i64 q1, .int .i64 q2, .int .i64 yv, .int .i64 e1, .int .i64 e2, .int .i64 e3, .int .i64 e4, .int .i64 e5] 22)).drew = w3 at *
  go_wp2_with fail
  go_loopw [60] (fun i wr => ∃ k : Nat, k ≤ 3 ∧ i = .int .i64 k ∧ Below B w wr ∧ HoldsA (B + 1) #[.int .u8 r0, .int .u8 r1, .int .u8 r2] 23 wr ∧ HoldsA D #[.int .i64 q0, .int .i64 q1, .int .i64 q2, .int .i64 yv, .int .i64 e1, .int .i64 e2, .int .i64 e3, .int .i64 e4, .int .i64 e5] 22 wr) (fun i _ => 3 - (intOf i).toNat)
  case atStart => exact ⟨0, by omega, rfl, hb0, k2, k4⟩
  case round =>
    obtain ⟨k, hk, rfl, hbl, g2, hh⟩ := hrel
    have c0 := hh.cell 0
    have c1 := hh.cell 1
    have c2 := hh.cell 2
    have c3 := hh.cell 3
    have c4 := hh.cell 4
    have c5 := hh.cell 5
    have c6 := hh.cell 6
    have c7 := hh.cell 7
    have c8 := hh.cell 8
    simp at c0 c1 c2 c3 c4 c5 c6 c7 c8
    obtain rfl | rfl | rfl | rfl : k = 0 ∨ k = 1 ∨ k = 2 ∨ k = 3 := by omega
    · have hd0 := HoldsA.new _ wr #[.int .i64 q0, .int .i64 q1, .int .i64 q2] 22 rfl
      go_wp2_with fail
      refine (Number_any _ _ _ _).mono ?_; rintro e wa ⟨rfl, ha⟩
      have hd := hd0.below ha (by simp)
      have d0 := hd.cell 0
      have d1 := hd.cell 1
      have d2 := hd.cell 2
      simp at d0 d1 d2
      go_wp2_with fail
      refine (refNumber_any _ _ _ _).mono ?_; rintro e w' ⟨rfl, rfl⟩
      go_wp2_with fail
      refine (valid_any _ _ _ _).mono ?_; rintro e wb ⟨rfl, hb⟩
      go_wp2_with fail
      go_roundw
      case rel => exact ⟨1, by omega, by go_num, ((hbl.alloc (by have := hbl.size; omega) _).trans (ha.mono (by have := hbl.size; simp; omega))).trans (hb.mono (by have := hbl.size; have := ha.size; simp at this; omega)), ((g2.alloc _).below ha (by have := g2.lt; simp; omega)).below hb (by have := g2.lt; have := ha.size; simp at this; omega), ((hh.alloc _).below ha (by have := hh.lt; simp; omega)).below hb (by have := hh.lt; have := ha.size; simp at this; omega)⟩
      case measure => simp [intOf]
    · have hd0 := HoldsA.new _ wr #[.int .i64 yv, .int .i64 e1, .int .i64 e2] 22 rfl
      go_wp2_with fail
      refine (Number_any _ _ _ _).mono ?_; rintro e wa ⟨rfl, ha⟩
      have hd := hd0.below ha (by simp)
      have d0 := hd.cell 0
      have d1 := hd.cell 1
      have d2 := hd.cell 2
      simp at d0 d1 d2
      go_wp2_with fail
      refine (refNumber_any _ _ _ _).mono ?_; rintro e w' ⟨rfl, rfl⟩
      go_wp2_with fail
      refine (valid_any _ _ _ _).mono ?_; rintro e wb ⟨rfl, hb⟩
      go_wp2_with fail
      go_roundw
      case rel => exact ⟨2, by omega, by go_num, ((hbl.alloc (by have := hbl.size; omega) _).trans (ha.mono (by have := hbl.size; simp; omega))).trans (hb.mono (by have := hbl.size; have := ha.size; simp at this; omega)), ((g2.alloc _).below ha (by have := g2.lt; simp; omega)).below hb (by have := g2.lt; have := ha.size; simp at this; omega), ((hh.alloc _).below ha (by have := hh.lt; simp; omega)).below hb (by have := hh.lt; have := ha.size; simp at this; omega)⟩
      case measure => simp [intOf]
    · have hd0 := HoldsA.new _ wr #[.int .i64 e3, .int .i64 e4, .int .i64 e5] 22 rfl
      go_wp2_with fail
      refine (Number_any _ _ _ _).mono ?_; rintro e wa ⟨rfl, ha⟩
      have hd := hd0.below ha (by simp)
      have d0 := hd.cell 0
      have d1 := hd.cell 1
      have d2 := hd.cell 2
      simp at d0 d1 d2
      go_wp2_with fail
      refine (refNumber_any _ _ _ _).mono ?_; rintro e w' ⟨rfl, rfl⟩
      go_wp2_with fail
      refine (valid_any _ _ _ _).mono ?_; rintro e wb ⟨rfl, hb⟩
      go_wp2_with fail
      go_roundw
      case rel => exact ⟨3, by omega, by go_num, ((hbl.alloc (by have := hbl.size; omega) _).trans (ha.mono (by have := hbl.size; simp; omega))).trans (hb.mono (by have := hbl.size; have := ha.size; simp at this; omega)), ((g2.alloc _).below ha (by have := g2.lt; simp; omega)).below hb (by have := g2.lt; have := ha.size; simp at this; omega), ((hh.alloc _).below ha (by have := hh.lt; simp; omega)).below hb (by have := hh.lt; have := ha.size; simp at this; omega)⟩
      case measure => simp [intOf]
    · have y0 := g2.cell 0
      have y1 := g2.cell 1
      simp at y0 y1
      rw [show ((3 : Nat) : Int) = 3 from rfl]
      go_wp2_with fail
      obtain ⟨E, hE⟩ : ∃ E, wr.heap.size = E := ⟨_, rfl⟩
      have hs1 := hbl.size
      generalize bits BinOp.and IntKind.i64 n 4194303 = f1
      generalize hf2 : 3652058 - r0 = f2
      rw [hE]
      go_loopw [116] (fun i wr => ∃ k : Nat, k ≤ 4 ∧ i = .int .i64 k ∧ Below B w wr ∧ HoldsA E #[.int .i64 n, .int .i64 f1, .int .i64 f2, .int .i64 r1] 3 wr) (fun i _ => 4 - (intOf i).toNat)
      case atStart => exact ⟨0, by omega, rfl, hbl.alloc (by omega) _, HoldsA.new _ _ _ _ hE.symm⟩
      case round =>
        obtain ⟨k, hk, rfl, hbl, hh⟩ := hrel
        have c0 := hh.cell 0
        have c1 := hh.cell 1
        have c2 := hh.cell 2
        have c3 := hh.cell 3
        simp at c0 c1 c2 c3
        obtain rfl | rfl | rfl | rfl | rfl : k = 0 ∨ k = 1 ∨ k = 2 ∨ k = 3 ∨ k = 4 := by omega
        · go_wp2_with fail
          refine (Civil_any _ _).mono ?_; rintro e wa ⟨rfl, ha⟩
          go_wp2_with fail
          refine (refCivil_any _ _).mono ?_; rintro e w' ⟨rfl, rfl⟩
          go_wp2_with fail
          go_roundw
          case rel => exact ⟨1, by omega, by go_num, hbl.trans (ha.mono (by have := hbl.size; omega)), hh.below ha hh.lt⟩
          case measure => simp [intOf]
        · go_wp2_with fail
          refine (Civil_any _ _).mono ?_; rintro e wa ⟨rfl, ha⟩
          go_wp2_with fail
          refine (refCivil_any _ _).mono ?_; rintro e w' ⟨rfl, rfl⟩
          go_wp2_with fail
          go_roundw
          case rel => exact ⟨2, by omega, by go_num, hbl.trans (ha.mono (by have := hbl.size; omega)), hh.below ha hh.lt⟩
          case measure => simp [intOf]
        · go_wp2_with fail
          refine (Civil_any _ _).mono ?_; rintro e wa ⟨rfl, ha⟩
          go_wp2_with fail
          refine (refCivil_any _ _).mono ?_; rintro e w' ⟨rfl, rfl⟩
          go_wp2_with fail
          go_roundw
          case rel => exact ⟨3, by omega, by go_num, hbl.trans (ha.mono (by have := hbl.size; omega)), hh.below ha hh.lt⟩
          case measure => simp [intOf]
        · go_wp2_with fail
          refine (Civil_any _ _).mono ?_; rintro e wa ⟨rfl, ha⟩
          go_wp2_with fail
          refine (refCivil_any _ _).mono ?_; rintro e w' ⟨rfl, rfl⟩
          go_wp2_with fail
          go_roundw
          case rel => exact ⟨4, by omega, by go_num, hbl.trans (ha.mono (by have := hbl.size; omega)), hh.below ha hh.lt⟩
          case measure => simp [intOf]
        · go_wp2_with fail
          go_ret
          exact ⟨rfl, by rw [hB]; exact hbl⟩
end Go.Proofs.Ytbfiflinonnmcaa
