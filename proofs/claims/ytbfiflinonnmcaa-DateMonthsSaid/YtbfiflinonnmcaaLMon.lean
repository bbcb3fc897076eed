/- DateMonths: the walk. -/
import Derived.Test.YtbfiflinonnmcaaDateP
namespace Go.Proofs.Ytbfiflinonnmcaa
open Go.RowKit

set_option maxHeartbeats 4000000 in
set_option maxRecDepth 20000 in
theorem months_walk (n m : Int) (w : World) :
    Calls Try.prog 6 #[.int .i64 n, .int .i64 m] w fun e w' => e = .returned (.bool true) ∧ Below w.heap.size w w' := by
  go_enter Try.func6, Try.ntmps6
  go_wp2_with fail
  refine (sanity_any _).mono ?_; rintro e w1 ⟨rfl, hb1⟩
  go_wp2_with fail
  generalize bits BinOp.and IntKind.i64 n 4194303 = kk
  generalize bits BinOp.and IntKind.i64 m 8191 = m2
  generalize wrap64 (-m2) = m3
  generalize bits BinOp.and IntKind.i64 m 3 = m4
  have hs1 := hb1.size
  go_loopw [37] (fun i wr => ∃ k : Nat, k ≤ 5 ∧ i = .int .i64 k ∧ Below w.heap.size w wr ∧ HoldsA w1.heap.size #[.int .i64 n, .int .i64 m, .int .i64 kk, .int .i64 m, .int .i64 kk, .int .i64 m2, .int .i64 kk, .int .i64 m3, .int .i64 kk, .int .i64 m4] 37 wr) (fun i _ => 5 - (intOf i).toNat)
  case atStart => exact ⟨0, by omega, rfl, hb1.alloc hs1 _, HoldsA.new _ _ _ _ rfl⟩
  case round =>
    obtain ⟨k, hk, rfl, hbl, hh⟩ := hrel
    have c0 := hh.cell 0
    have c1 := hh.cell 1
    have c2 := hh.cell 2
    have c3 := hh.cell 3
    have c4 := hh.cell 4
    have c5 := hh.cell 5
    have c6 := hh.cell 6
    have c7 := hh.cell 7
    have c8 := hh.cell 8
    have c9 := hh.cell 9
    simp at c0 c1 c2 c3 c4 c5 c6 c7 c8 c9
    obtain rfl | rfl | rfl | rfl | rfl | rfl : k = 0 ∨ k = 1 ∨ k = 2 ∨ k = 3 ∨ k = 4 ∨ k = 5 := by omega
    · go_wp2_with fail
      refine (Months_any _ _ _).mono ?_; rintro e w2 ⟨rfl, hb2⟩
      have hd := (HoldsA.new _ wr #[.int .i64 n, .int .i64 m] 37 rfl).below hb2 (by simp)
      have d0 := hd.cell 0
      have d1 := hd.cell 1
      simp at d0 d1
      go_wp2_with fail
      refine (refMonths_any _ _ _).mono ?_; rintro e w' ⟨rfl, rfl⟩
      go_wp2_with fail
      go_roundw
      case rel => exact ⟨1, by omega, by go_num, (hbl.alloc hbl.size _).trans (hb2.mono (by have := hbl.size; simp; omega)), (hh.alloc _).below hb2 (by have := hh.lt; simp; omega)⟩
      case measure => simp [intOf]
    · go_wp2_with fail
      refine (Months_any _ _ _).mono ?_; rintro e w2 ⟨rfl, hb2⟩
      have hd := (HoldsA.new _ wr #[.int .i64 kk, .int .i64 m] 37 rfl).below hb2 (by simp)
      have d0 := hd.cell 0
      have d1 := hd.cell 1
      simp at d0 d1
      go_wp2_with fail
      refine (refMonths_any _ _ _).mono ?_; rintro e w' ⟨rfl, rfl⟩
      go_wp2_with fail
      go_roundw
      case rel => exact ⟨2, by omega, by go_num, (hbl.alloc hbl.size _).trans (hb2.mono (by have := hbl.size; simp; omega)), (hh.alloc _).below hb2 (by have := hh.lt; simp; omega)⟩
      case measure => simp [intOf]
    · go_wp2_with fail
      refine (Months_any _ _ _).mono ?_; rintro e w2 ⟨rfl, hb2⟩
      have hd := (HoldsA.new _ wr #[.int .i64 kk, .int .i64 m2] 37 rfl).below hb2 (by simp)
      have d0 := hd.cell 0
      have d1 := hd.cell 1
      simp at d0 d1
      go_wp2_with fail
      refine (refMonths_any _ _ _).mono ?_; rintro e w' ⟨rfl, rfl⟩
      go_wp2_with fail
      go_roundw
      case rel => exact ⟨3, by omega, by go_num, (hbl.alloc hbl.size _).trans (hb2.mono (by have := hbl.size; simp; omega)), (hh.alloc _).below hb2 (by have := hh.lt; simp; omega)⟩
      case measure => simp [intOf]
    · go_wp2_with fail
      refine (Months_any _ _ _).mono ?_; rintro e w2 ⟨rfl, hb2⟩
      have hd := (HoldsA.new _ wr #[.int .i64 kk, .int .i64 m3] 37 rfl).below hb2 (by simp)
      have d0 := hd.cell 0
      have d1 := hd.cell 1
      simp at d0 d1
      go_wp2_with fail
      refine (refMonths_any _ _ _).mono ?_; rintro e w' ⟨rfl, rfl⟩
      go_wp2_with fail
      go_roundw
      case rel => exact ⟨4, by omega, by go_num, (hbl.alloc hbl.size _).trans (hb2.mono (by have := hbl.size; simp; omega)), (hh.alloc _).below hb2 (by have := hh.lt; simp; omega)⟩
      case measure => simp [intOf]
    · go_wp2_with fail
      refine (Months_any _ _ _).mono ?_; rintro e w2 ⟨rfl, hb2⟩
      have hd := (HoldsA.new _ wr #[.int .i64 kk, .int .i64 m4] 37 rfl).below hb2 (by simp)
      have d0 := hd.cell 0
      have d1 := hd.cell 1
      simp at d0 d1
      go_wp2_with fail
      refine (refMonths_any _ _ _).mono ?_; rintro e w' ⟨rfl, rfl⟩
      go_wp2_with fail
      go_roundw
      case rel => exact ⟨5, by omega, by go_num, (hbl.alloc hbl.size _).trans (hb2.mono (by have := hbl.size; simp; omega)), (hh.alloc _).below hb2 (by have := hh.lt; simp; omega)⟩
      case measure => simp [intOf]
    · go_wp2_with fail
      go_ret
      exact ⟨rfl, hbl⟩
end Go.Proofs.Ytbfiflinonnmcaa
