/- DateAdds: the plain law and the walk. -/
import Derived.Test.YtbfiflinonnmcaaDateP
import Derived.Test.YtbfiflinonnmcaaBits
namespace Go.Proofs.Ytbfiflinonnmcaa
open Go.RowKit

theorem week_law (k : Int) (h0 : 0 ≤ k) (h1 : k ≤ 2097151) : weekR k = k % 7 + 1 ∧ weekR (k + 7) = k % 7 + 1 ∧ weekR (k + 1) = (k % 7 + 1) % 7 + 1 := by
  have i1 : insideB k = true := insideB_yes h0 (by omega)
  have i2 : insideB (k + 7) = true := insideB_yes (by omega) (by omega)
  have i3 : insideB (k + 1) = true := insideB_yes (by omega) (by omega)
  unfold weekR
  rw [if_pos i1, if_pos i2, if_pos i3]
  omega

set_option maxHeartbeats 4000000 in
set_option maxRecDepth 20000 in
theorem adds_walk (n m : Int) (w : World) :
    Calls Try.prog 12 #[.int .i64 n, .int .i64 m] w fun e w' => e = .returned (.bool true) ∧ Below w.heap.size w w' := by
  have hbd := mask_bd n 2097151 (by omega) (by omega)
  go_enter Try.func12, Try.ntmps12
  go_wp2_with fail
  refine (sanity_any _).mono ?_; rintro e w1 ⟨rfl, hb1⟩
  go_wp2_with fail
  generalize bits BinOp.and IntKind.i64 n 2097151 = kk at *
  generalize bits BinOp.and IntKind.i64 m 8191 = m2
  generalize wrap64 (-m2) = m3
  generalize bits BinOp.and IntKind.i64 m 1 = m4
  generalize wrap64 (-m4) = m5
  have hs1 := hb1.size
  obtain ⟨g1, g2, g3⟩ := week_law kk hbd.1 hbd.2
  obtain ⟨hk0, hk1⟩ := hbd
  obtain ⟨v, hv⟩ : ∃ v, kk % 7 = v := ⟨_, rfl⟩
  rw [hv] at g1 g2 g3
  have hv0 : 0 ≤ v := by omega
  have hv1 : v ≤ 6 := by omega
  have G1 := Lib.hid g1
  have G2 := Lib.hid g2
  have G3 := Lib.hid g3
  clear g1 g2 g3 hv
  go_loopw [50] (fun i wr => ∃ k : Nat, k ≤ 6 ∧ i = .int .i64 k ∧ Below w.heap.size w wr ∧ HoldsA w1.heap.size #[.int .i64 n, .int .i64 m, .int .i64 kk, .int .i64 m, .int .i64 kk, .int .i64 m2, .int .i64 kk, .int .i64 m3, .int .i64 3652058, .int .i64 m4, .int .i64 0, .int .i64 m5] 37 wr) (fun i _ => 6 - (intOf i).toNat)
  case atStart => exact ⟨0, by omega, rfl, hb1.alloc hs1 _, HoldsA.new _ _ _ _ rfl⟩
  case round =>
    obtain ⟨k, hk, rfl, hbl, hh⟩ := hrel
    have c0 := hh.cell 0
    have c1 := hh.cell 1
    have c2 := hh.cell 2
    have c3 := hh.cell 3
    have c4 := hh.cell 4
    have c5 := hh.cell 5
    have c6 := hh.cell 6
    have c7 := hh.cell 7
    have c8 := hh.cell 8
    have c9 := hh.cell 9
    have c10 := hh.cell 10
    have c11 := hh.cell 11
    simp at c0 c1 c2 c3 c4 c5 c6 c7 c8 c9 c10 c11
    obtain rfl | rfl | rfl | rfl | rfl | rfl | rfl : k = 0 ∨ k = 1 ∨ k = 2 ∨ k = 3 ∨ k = 4 ∨ k = 5 ∨ k = 6 := by omega
    · have hd := HoldsA.new _ wr #[.int .i64 n, .int .i64 m] 37 rfl
      have d0 := hd.cell 0
      have d1 := hd.cell 1
      simp at d0 d1
      go_wp2_with fail
      refine (Add_any _ _ _).mono ?_; rintro e w' ⟨rfl, rfl⟩
      go_wp2_with fail
      refine (refAdd_any _ _ _).mono ?_; rintro e w' ⟨rfl, rfl⟩
      go_wp2_with fail
      refine (Weekday_any _ _).mono ?_; rintro e w' ⟨rfl, rfl⟩
      go_wp2_with fail
      refine (refWeekday_any _ _).mono ?_; rintro e w' ⟨rfl, rfl⟩
      go_wp2_with fail
      go_roundw
      case rel => exact ⟨1, by omega, by go_num, hbl.alloc hbl.size _, hh.alloc _⟩
      case measure => simp [intOf]
    · have hd := HoldsA.new _ wr #[.int .i64 kk, .int .i64 m] 37 rfl
      have d0 := hd.cell 0
      have d1 := hd.cell 1
      simp at d0 d1
      go_wp2_with fail
      refine (Add_any _ _ _).mono ?_; rintro e w' ⟨rfl, rfl⟩
      go_wp2_with fail
      refine (refAdd_any _ _ _).mono ?_; rintro e w' ⟨rfl, rfl⟩
      go_wp2_with fail
      refine (Weekday_any _ _).mono ?_; rintro e w' ⟨rfl, rfl⟩
      go_wp2_with fail
      refine (refWeekday_any _ _).mono ?_; rintro e w' ⟨rfl, rfl⟩
      go_wp2_with fail
      go_roundw
      case rel => exact ⟨2, by omega, by go_num, hbl.alloc hbl.size _, hh.alloc _⟩
      case measure => simp [intOf]
    · have hd := HoldsA.new _ wr #[.int .i64 kk, .int .i64 m2] 37 rfl
      have d0 := hd.cell 0
      have d1 := hd.cell 1
      simp at d0 d1
      go_wp2_with fail
      refine (Add_any _ _ _).mono ?_; rintro e w' ⟨rfl, rfl⟩
      go_wp2_with fail
      refine (refAdd_any _ _ _).mono ?_; rintro e w' ⟨rfl, rfl⟩
      go_wp2_with fail
      refine (Weekday_any _ _).mono ?_; rintro e w' ⟨rfl, rfl⟩
      go_wp2_with fail
      refine (refWeekday_any _ _).mono ?_; rintro e w' ⟨rfl, rfl⟩
      go_wp2_with fail
      go_roundw
      case rel => exact ⟨3, by omega, by go_num, hbl.alloc hbl.size _, hh.alloc _⟩
      case measure => simp [intOf]
    · have hd := HoldsA.new _ wr #[.int .i64 kk, .int .i64 m3] 37 rfl
      have d0 := hd.cell 0
      have d1 := hd.cell 1
      simp at d0 d1
      go_wp2_with fail
      refine (Add_any _ _ _).mono ?_; rintro e w' ⟨rfl, rfl⟩
      go_wp2_with fail
      refine (refAdd_any _ _ _).mono ?_; rintro e w' ⟨rfl, rfl⟩
      go_wp2_with fail
      refine (Weekday_any _ _).mono ?_; rintro e w' ⟨rfl, rfl⟩
      go_wp2_with fail
      refine (refWeekday_any _ _).mono ?_; rintro e w' ⟨rfl, rfl⟩
      go_wp2_with fail
      go_roundw
      case rel => exact ⟨4, by omega, by go_num, hbl.alloc hbl.size _, hh.alloc _⟩
      case measure => simp [intOf]
    · have hd := HoldsA.new _ wr #[.int .i64 3652058, .int .i64 m4] 37 rfl
      have d0 := hd.cell 0
      have d1 := hd.cell 1
      simp at d0 d1
      go_wp2_with fail
      refine (Add_any _ _ _).mono ?_; rintro e w' ⟨rfl, rfl⟩
      go_wp2_with fail
      refine (refAdd_any _ _ _).mono ?_; rintro e w' ⟨rfl, rfl⟩
      go_wp2_with fail
      refine (Weekday_any _ _).mono ?_; rintro e w' ⟨rfl, rfl⟩
      go_wp2_with fail
      refine (refWeekday_any _ _).mono ?_; rintro e w' ⟨rfl, rfl⟩
      go_wp2_with fail
      go_roundw
      case rel => exact ⟨5, by omega, by go_num, hbl.alloc hbl.size _, hh.alloc _⟩
      case measure => simp [intOf]
    · have hd := HoldsA.new _ wr #[.int .i64 0, .int .i64 m5] 37 rfl
      have d0 := hd.cell 0
      have d1 := hd.cell 1
      simp at d0 d1
      go_wp2_with fail
      refine (Add_any _ _ _).mono ?_; rintro e w' ⟨rfl, rfl⟩
      go_wp2_with fail
      refine (refAdd_any _ _ _).mono ?_; rintro e w' ⟨rfl, rfl⟩
      go_wp2_with fail
      refine (Weekday_any _ _).mono ?_; rintro e w' ⟨rfl, rfl⟩
      go_wp2_with fail
      refine (refWeekday_any _ _).mono ?_; rintro e w' ⟨rfl, rfl⟩
      go_wp2_with fail
      go_roundw
      case rel => exact ⟨6, by omega, by go_num, hbl.alloc hbl.size _, hh.alloc _⟩
      case measure => simp [intOf]
    · go_wp2_with fail
      refine (Weekday_any _ _).mono ?_; rintro e w' ⟨rfl, rfl⟩; rw [G1.out]
      go_wp2_with fail
      refine (Weekday_any _ _).mono ?_; rintro e w' ⟨rfl, rfl⟩; rw [G2.out]
      go_wp2_with fail
      refine (Weekday_any _ _).mono ?_; rintro e w' ⟨rfl, rfl⟩; rw [G3.out]
      go_wp2_with fail
      go_ret
      exact ⟨rfl, hbl⟩
end Go.Proofs.Ytbfiflinonnmcaa
