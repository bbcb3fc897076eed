/- DateFormats: the walk. -/
import Derived.Test.YtbfiflinonnmcaaDateR8
import Derived.Test.YtbfiflinonnmcaaDateR7
import Derived.Test.YtbfiflinonnmcaaBits
namespace Go.Proofs.Ytbfiflinonnmcaa
open Go.RowKit

def ymdL (raw : List UInt8) : List UInt8 := [89, 89, 89, 89] ++ raw ++ [77, 77, 46, 68, 68]
/-- what each operation of the list of layouts leaves -/
def fmtP (a b c : Int) (raw : List UInt8) (i : Nat) (v : Value) (W : World) : Prop := match i with
  | 0 => v = Str raw
  | 1 => v = .agg #[.int .i64 a, .int .i64 b, .int .i64 c]
  | 2 => ∃ l : List UInt8, v = Str l ∧ l.length ≤ 100
  | 3 => v = .agg #[.int .i64 a, .int .i64 b, .int .i64 c]
  | 4 => ∃ l : List UInt8, v = Str l ∧ l.length ≤ 100
  | 5 => v = Str raw
  | 6 => v = Str ([89, 89, 89, 89] ++ raw)
  | 7 => v = Str (ymdL raw)
  | 8 => ∃ (g : Nat) (l1 l2 : List UInt8), v = .slice (some ⟨g, 0, none⟩) 4 4 ∧ l1.length ≤ 100 ∧ l2.length ≤ 100 ∧ HoldsA g #[Str raw, Str l1, Str l2, Str (ymdL raw)] 9 W
  | 9 => v = .int .i64 4
  | _ => v = .int .i64 0
theorem fmtP_below {a b c : Int} {raw : List UInt8} {W W' : World} (hb : Below W.heap.size W W') (i : Nat) (v : Value) (h : fmtP a b c raw i v W) : fmtP a b c raw i v W' := by
  unfold fmtP at *
  split <;> simp only at h
  all_goals (first | exact h | (obtain ⟨g, l1, l2, h1, h2, h3, h4⟩ := h; exact ⟨g, l1, l2, h1, h2, h3, h4.below hb h4.lt⟩))
def qG (B : Nat) (a b c : Int) (w W : World) : Prop := Below B w W ∧ HoldsA B #[.int .i64 a, .int .i64 b, .int .i64 c] 22 W

set_option maxHeartbeats 8000000 in
set_option maxRecDepth 20000 in
theorem formats_walk (n : Int) (raw : List UInt8) (a b c : Int) (w : World) (hr : raw.length ≤ 140737488355328) (a0 : -9223372036854775808 ≤ a) (a1 : a ≤ 9223372036854775807) (b0 : -9223372036854775808 ≤ b) (b1 : b ≤ 9223372036854775807) (c0 : -9223372036854775808 ≤ c) (c1 : c ≤ 9223372036854775807) :
    Calls Try.prog 8 #[.int .i64 n, Str raw, .agg #[.int .i64 a, .int .i64 b, .int .i64 c]] w fun e w' => e = .returned (.bool true) ∧ Below w.heap.size w w' := by
  obtain ⟨B, hB⟩ : ∃ B, w.heap.size = B := ⟨_, rfl⟩
  go_enter Try.func8, Try.ntmps8
  go_wp2_with fail
  refine (sanity_any _).mono ?_; rintro e w1 ⟨rfl, hb1⟩
  have hq := (HoldsA.new B w #[.int .i64 a, .int .i64 b, .int .i64 c] 22 hB.symm).below hb1 (by simp; omega)
  have hb0 := ((Below.refl B w).alloc (by omega) (.cells #[.int .i64 a, .int .i64 b, .int .i64 c] 22)).trans (hb1.mono (by simp; omega))
  clear hb1
  go_upto_region 3 with fail
  generalize bits BinOp.and IntKind.i64 n 2097151 = kk
  go_cut [28, 29, 30] (fun s28 s29 s30 wx => s29 = .int .i64 4 ∧ s30 = .int .i64 0 ∧ ∃ (g : Nat) (l1 l2 : List UInt8), s28 = .slice (some ⟨g, 0, none⟩) 4 4 ∧ l1.length ≤ 100 ∧ l2.length ≤ 100 ∧ HoldsA g #[Str raw, Str l1, Str l2, Str (ymdL raw)] 9 wx ∧ Below B w wx)
  case first =>
    refine wp_region_rg (fmtP a b c raw) (qG B a b c w) (by kernel_rfl) (by kernel_rfl) ⟨hb0.drew, hq.drew 1⟩ ?step ?fin
    case step =>
      intro i o ho aa W hG hout hdep
      have hal : ∀ (cs : Array Value) (T : TypeId), ∀ j v, fmtP a b c raw j v W → fmtP a b c raw j v (W.alloc (.cells cs T)) := fun cs T => fmtP_below ((Below.refl _ W).alloc (Nat.le_refl _) _)
      have x0 := hG.2.cell 0
      have x1 := hG.2.cell 1
      have x2 := hG.2.cell 2
      simp at x0 x1 x2
      match i with
      | 0 =>
        simp at ho
        subst ho
        obtain ⟨e1, e2, e3⟩ := evals (hout 1 (outside_of (by kernel_rfl)))
        simp [Act.eval] at e1 e2 e3
        unfold Oper.wp
        go_simp
        first | exact ⟨_, rfl, rfl⟩ | exact ⟨hG, fun _ _ h => h, _, rfl, rfl, by simp⟩ | exact ⟨hG, _, rfl, rfl⟩
      | 1 =>
        simp at ho
        subst ho
        obtain ⟨e1, e2, e3⟩ := evals (hout 5 (outside_of (by kernel_rfl)))
        simp [Act.eval] at e1 e2 e3
        unfold Oper.wp
        go_simp
        first | exact ⟨_, rfl, rfl⟩ | exact ⟨hG, fun _ _ h => h, _, rfl, rfl, by simp⟩ | exact ⟨hG, _, rfl, rfl⟩
      | 2 =>
        simp at ho
        subst ho
        have d1 := hdep { on := 1, ground := .data } (by simp) rfl _ rfl
        obtain ⟨p1, q1, r1⟩ := evals d1
        unfold Oper.wp
        go_simp
        refine (Layout_any a b c false _ a0 a1 b0 b1 c0 c1).mono ?_; rintro e w' ⟨l, rfl, hl, _, hb⟩
        have hG2 : qG B a b c w w' := ⟨hG.1.trans (hb.mono (by have := hG.2.lt; omega)), hG.2.below hb hG.2.lt⟩
        first | exact ⟨hG2, fmtP_below hb, _, rfl, l, rfl, hl⟩ | exact ⟨hG2, fmtP_below hb, _, rfl, ⟨l, rfl, hl⟩, by simp⟩
      | 3 =>
        simp at ho
        subst ho
        obtain ⟨e1, e2, e3⟩ := evals (hout 5 (outside_of (by kernel_rfl)))
        simp [Act.eval] at e1 e2 e3
        unfold Oper.wp
        go_simp
        first | exact ⟨_, rfl, rfl⟩ | exact ⟨hG, fun _ _ h => h, _, rfl, rfl, by simp⟩ | exact ⟨hG, _, rfl, rfl⟩
      | 4 =>
        simp at ho
        subst ho
        have d3 := hdep { on := 3, ground := .data } (by simp) rfl _ rfl
        obtain ⟨p3, q3, r3⟩ := evals d3
        unfold Oper.wp
        go_simp
        refine (Layout_any a b c true _ a0 a1 b0 b1 c0 c1).mono ?_; rintro e w' ⟨l, rfl, hl, _, hb⟩
        have hG2 : qG B a b c w w' := ⟨hG.1.trans (hb.mono (by have := hG.2.lt; omega)), hG.2.below hb hG.2.lt⟩
        first | exact ⟨hG2, fmtP_below hb, _, rfl, l, rfl, hl⟩ | exact ⟨hG2, fmtP_below hb, _, rfl, ⟨l, rfl, hl⟩, by simp⟩
      | 5 =>
        simp at ho
        subst ho
        obtain ⟨e1, e2, e3⟩ := evals (hout 1 (outside_of (by kernel_rfl)))
        simp [Act.eval] at e1 e2 e3
        unfold Oper.wp
        go_simp
        first | exact ⟨_, rfl, rfl⟩ | exact ⟨hG, fun _ _ h => h, _, rfl, rfl, by simp⟩ | exact ⟨hG, _, rfl, rfl⟩
      | 6 =>
        simp at ho
        subst ho
        have d5 := hdep { on := 5, ground := .data } (by simp) rfl _ rfl
        obtain ⟨p5, q5, r5⟩ := evals d5
        have n1 : ¬ 9223372036854775807 < 4 + raw.length := by omega
        have hc1 := str_cat [89, 89, 89, 89] raw
        unfold Oper.wp
        go_simp
        first | exact ⟨_, rfl, rfl⟩ | exact ⟨hG, fun _ _ h => h, _, rfl, rfl, by simp⟩ | exact ⟨hG, _, rfl, rfl⟩
      | 7 =>
        simp at ho
        subst ho
        have d6 := hdep { on := 6, ground := .data } (by simp) rfl _ rfl
        obtain ⟨p6, q6, r6⟩ := evals d6
        have n1 : ¬ 9223372036854775807 < raw.length + 1 + 1 + 1 + 1 + 5 := by omega
        have n2 : ¬ 9223372036854775807 < ([89, 89, 89, 89] ++ raw).length + 5 := by simp; omega
        have hc1 := str_cat ([89, 89, 89, 89] ++ raw) [77, 77, 46, 68, 68]
        unfold Oper.wp
        go_simp
        first | exact ⟨_, rfl, rfl⟩ | exact ⟨hG, fun _ _ h => h, _, rfl, rfl, by simp⟩ | exact ⟨hG, _, rfl, rfl⟩
      | 8 =>
        simp at ho
        subst ho
        have d0 := hdep { on := 0, ground := .data } (by simp) rfl _ rfl
        obtain ⟨p0, q0, r0⟩ := evals d0
        obtain ⟨l2, d2, hl2⟩ := hdep { on := 2, ground := .data } (by simp) rfl _ rfl
        obtain ⟨p2, q2, r2⟩ := evals d2
        obtain ⟨l4, d4, hl4⟩ := hdep { on := 4, ground := .data } (by simp) rfl _ rfl
        obtain ⟨p4, q4, r4⟩ := evals d4
        have d7 := hdep { on := 7, ground := .data } (by simp) rfl _ rfl
        obtain ⟨p7, q7, r7⟩ := evals d7
        unfold Oper.wp
        go_simp
        refine ⟨⟨hG.1.alloc (by have := hG.2.lt; omega) _, hG.2.alloc _⟩, hal _ _, _, rfl, ?_⟩
        exact ⟨_, _, _, rfl, hl2, hl4, HoldsA.new _ _ _ _ rfl⟩
      | 9 =>
        simp at ho
        subst ho
        obtain ⟨g8, la, lb, d8, hla, hlb, hh8⟩ := hdep { on := 8, ground := .data } (by simp) rfl _ rfl
        obtain ⟨p8, q8, r8⟩ := evals d8
        unfold Oper.wp
        go_simp
        first | exact ⟨_, rfl, rfl⟩ | exact ⟨hG, fun _ _ h => h, _, rfl, rfl, by simp⟩ | exact ⟨hG, _, rfl, rfl⟩
      | 10 =>
        simp at ho
        subst ho
        unfold Oper.wp
        go_simp
        first | exact ⟨_, rfl, rfl⟩ | exact ⟨hG, fun _ _ h => h, _, rfl, rfl, by simp⟩ | exact ⟨hG, _, rfl, rfl⟩
      | i + 11 => simp at ho
    case fin =>
      intro v W hG hv
      obtain ⟨g, l1, l2, hg, h1, h2, hh⟩ := hv 8 _ rfl
      have h9 := hv 9 _ rfl
      have h10 := hv 10 _ rfl
      simp only [fmtP] at h9 h10
      simp only [laidT, List.setIfInBounds_toArray, List.set_cons_zero, List.set_cons_succ]
      rw [hg, h9, h10]
      go_wp2_with fail
      go_meet
      exact ⟨rfl, rfl, g, l1, l2, rfl, h1, h2, hh, hG.1⟩
  case rest =>
    obtain ⟨rfl, rfl, g, l1, l2, rfl, hl1, hl2, hh, hbl⟩ := hcut
    clear hq hb0
    have hly : (ymdL raw).length ≤ 140737488355400 := by unfold ymdL; simp; omega
    generalize ymdL raw = T at *
    go_wp2_with fail
    go_loopw [30] (fun i wr => ∃ k : Nat, k ≤ 4 ∧ i = .int .i64 k ∧ Below B w wr ∧ HoldsA g #[Str raw, Str l1, Str l2, Str T] 9 wr) (fun i _ => 4 - (intOf i).toNat)
    case atStart => exact ⟨0, by omega, rfl, hbl, hh⟩
    case round =>
      clear hbl hh
      obtain ⟨k, hk, rfl, hbl, hh⟩ := hrel
      have c0' := hh.cell 0
      have c1' := hh.cell 1
      have c2' := hh.cell 2
      have c3' := hh.cell 3
      simp at c0' c1' c2' c3'
      obtain rfl | rfl | rfl | rfl | rfl : k = 0 ∨ k = 1 ∨ k = 2 ∨ k = 3 ∨ k = 4 := by omega
      · rw [show ((0 : Nat) : Int) = 0 from rfl]
        obtain ⟨D, hD⟩ : ∃ D, wr.heap.size = D := ⟨_, rfl⟩
        have hgD : g < D := by have := hh.lt; omega
        have hbD := hbl.alloc (by have := hbl.size; omega) (.cells #[.int .i64 kk, .int .i64 n] 3)
        have hhD := hh.alloc (.cells #[.int .i64 kk, .int .i64 n] 3)
        have hkD := HoldsA.new D wr #[.int .i64 kk, .int .i64 n] 3 hD.symm
        go_wp2_with fail
        generalize wr.alloc (.cells #[.int .i64 kk, .int .i64 n] 3) = w3 at *
        go_loopw [38] (fun i wr => ∃ k : Nat, k ≤ 2 ∧ i = .int .i64 k ∧ Below B w wr ∧ HoldsA g #[Str raw, Str l1, Str l2, Str T] 9 wr ∧ HoldsA D #[.int .i64 kk, .int .i64 n] 3 wr) (fun i _ => 2 - (intOf i).toNat)
        case atStart => exact ⟨0, by omega, rfl, hbD, hhD, hkD⟩
        case round =>
          clear hbD hhD hkD hbl hh hD c0' c1' c2' c3'
          obtain ⟨k, hk, rfl, hbl, hh, hkk⟩ := hrel
          have z0 := hkk.cell 0
          have z1 := hkk.cell 1
          simp at z0 z1
          obtain rfl | rfl | rfl : k = 0 ∨ k = 1 ∨ k = 2 := by omega
          · go_wp2_with fail
            refine (Format_any raw kk _ (by omega)).mono ?_; rintro e wa ⟨rfl, ha⟩
            go_wp2_with fail
            refine (refFormat_any raw kk _ (by omega)).mono ?_; rintro e wb ⟨rfl, hb⟩
            go_wp2_with fail
            go_roundw
            case rel => exact ⟨1, by omega, by go_num, (hbl.trans (ha.mono (by have := hbl.size; omega))).trans (hb.mono (by have := hbl.size; have := ha.size; omega)), (hh.below ha hh.lt).below hb (Nat.lt_of_lt_of_le hh.lt ha.size), (hkk.below ha hkk.lt).below hb (Nat.lt_of_lt_of_le hkk.lt ha.size)⟩
            case measure => simp [intOf]
          · go_wp2_with fail
            refine (Format_any raw n _ (by omega)).mono ?_; rintro e wa ⟨rfl, ha⟩
            go_wp2_with fail
            refine (refFormat_any raw n _ (by omega)).mono ?_; rintro e wb ⟨rfl, hb⟩
            go_wp2_with fail
            go_roundw
            case rel => exact ⟨2, by omega, by go_num, (hbl.trans (ha.mono (by have := hbl.size; omega))).trans (hb.mono (by have := hbl.size; have := ha.size; omega)), (hh.below ha hh.lt).below hb (Nat.lt_of_lt_of_le hh.lt ha.size), (hkk.below ha hkk.lt).below hb (Nat.lt_of_lt_of_le hkk.lt ha.size)⟩
            case measure => simp [intOf]
          · go_wp2_with fail
            go_roundw
            case rel => exact ⟨1, by omega, by go_num, hbl, hh⟩
            case measure => simp [intOf]
      · rw [show ((1 : Nat) : Int) = 1 from rfl]
        obtain ⟨D, hD⟩ : ∃ D, wr.heap.size = D := ⟨_, rfl⟩
        have hgD : g < D := by have := hh.lt; omega
        have hbD := hbl.alloc (by have := hbl.size; omega) (.cells #[.int .i64 kk, .int .i64 n] 3)
        have hhD := hh.alloc (.cells #[.int .i64 kk, .int .i64 n] 3)
        have hkD := HoldsA.new D wr #[.int .i64 kk, .int .i64 n] 3 hD.symm
        go_wp2_with fail
        generalize wr.alloc (.cells #[.int .i64 kk, .int .i64 n] 3) = w3 at *
        go_loopw [38] (fun i wr => ∃ k : Nat, k ≤ 2 ∧ i = .int .i64 k ∧ Below B w wr ∧ HoldsA g #[Str raw, Str l1, Str l2, Str T] 9 wr ∧ HoldsA D #[.int .i64 kk, .int .i64 n] 3 wr) (fun i _ => 2 - (intOf i).toNat)
        case atStart => exact ⟨0, by omega, rfl, hbD, hhD, hkD⟩
        case round =>
          clear hbD hhD hkD hbl hh hD c0' c1' c2' c3'
          obtain ⟨k, hk, rfl, hbl, hh, hkk⟩ := hrel
          have z0 := hkk.cell 0
          have z1 := hkk.cell 1
          simp at z0 z1
          obtain rfl | rfl | rfl : k = 0 ∨ k = 1 ∨ k = 2 := by omega
          · go_wp2_with fail
            refine (Format_any l1 kk _ (by omega)).mono ?_; rintro e wa ⟨rfl, ha⟩
            go_wp2_with fail
            refine (refFormat_any l1 kk _ (by omega)).mono ?_; rintro e wb ⟨rfl, hb⟩
            go_wp2_with fail
            go_roundw
            case rel => exact ⟨1, by omega, by go_num, (hbl.trans (ha.mono (by have := hbl.size; omega))).trans (hb.mono (by have := hbl.size; have := ha.size; omega)), (hh.below ha hh.lt).below hb (Nat.lt_of_lt_of_le hh.lt ha.size), (hkk.below ha hkk.lt).below hb (Nat.lt_of_lt_of_le hkk.lt ha.size)⟩
            case measure => simp [intOf]
          · go_wp2_with fail
            refine (Format_any l1 n _ (by omega)).mono ?_; rintro e wa ⟨rfl, ha⟩
            go_wp2_with fail
            refine (refFormat_any l1 n _ (by omega)).mono ?_; rintro e wb ⟨rfl, hb⟩
            go_wp2_with fail
            go_roundw
            case rel => exact ⟨2, by omega, by go_num, (hbl.trans (ha.mono (by have := hbl.size; omega))).trans (hb.mono (by have := hbl.size; have := ha.size; omega)), (hh.below ha hh.lt).below hb (Nat.lt_of_lt_of_le hh.lt ha.size), (hkk.below ha hkk.lt).below hb (Nat.lt_of_lt_of_le hkk.lt ha.size)⟩
            case measure => simp [intOf]
          · go_wp2_with fail
            go_roundw
            case rel => exact ⟨2, by omega, by go_num, hbl, hh⟩
            case measure => simp [intOf]
      · rw [show ((2 : Nat) : Int) = 2 from rfl]
        obtain ⟨D, hD⟩ : ∃ D, wr.heap.size = D := ⟨_, rfl⟩
        have hgD : g < D := by have := hh.lt; omega
        have hbD := hbl.alloc (by have := hbl.size; omega) (.cells #[.int .i64 kk, .int .i64 n] 3)
        have hhD := hh.alloc (.cells #[.int .i64 kk, .int .i64 n] 3)
        have hkD := HoldsA.new D wr #[.int .i64 kk, .int .i64 n] 3 hD.symm
        go_wp2_with fail
        generalize wr.alloc (.cells #[.int .i64 kk, .int .i64 n] 3) = w3 at *
        go_loopw [38] (fun i wr => ∃ k : Nat, k ≤ 2 ∧ i = .int .i64 k ∧ Below B w wr ∧ HoldsA g #[Str raw, Str l1, Str l2, Str T] 9 wr ∧ HoldsA D #[.int .i64 kk, .int .i64 n] 3 wr) (fun i _ => 2 - (intOf i).toNat)
        case atStart => exact ⟨0, by omega, rfl, hbD, hhD, hkD⟩
        case round =>
          clear hbD hhD hkD hbl hh hD c0' c1' c2' c3'
          obtain ⟨k, hk, rfl, hbl, hh, hkk⟩ := hrel
          have z0 := hkk.cell 0
          have z1 := hkk.cell 1
          simp at z0 z1
          obtain rfl | rfl | rfl : k = 0 ∨ k = 1 ∨ k = 2 := by omega
          · go_wp2_with fail
            refine (Format_any l2 kk _ (by omega)).mono ?_; rintro e wa ⟨rfl, ha⟩
            go_wp2_with fail
            refine (refFormat_any l2 kk _ (by omega)).mono ?_; rintro e wb ⟨rfl, hb⟩
            go_wp2_with fail
            go_roundw
            case rel => exact ⟨1, by omega, by go_num, (hbl.trans (ha.mono (by have := hbl.size; omega))).trans (hb.mono (by have := hbl.size; have := ha.size; omega)), (hh.below ha hh.lt).below hb (Nat.lt_of_lt_of_le hh.lt ha.size), (hkk.below ha hkk.lt).below hb (Nat.lt_of_lt_of_le hkk.lt ha.size)⟩
            case measure => simp [intOf]
          · go_wp2_with fail
            refine (Format_any l2 n _ (by omega)).mono ?_; rintro e wa ⟨rfl, ha⟩
            go_wp2_with fail
            refine (refFormat_any l2 n _ (by omega)).mono ?_; rintro e wb ⟨rfl, hb⟩
            go_wp2_with fail
            go_roundw
            case rel => exact ⟨2, by omega, by go_num, (hbl.trans (ha.mono (by have := hbl.size; omega))).trans (hb.mono (by have := hbl.size; have := ha.size; omega)), (hh.below ha hh.lt).below hb (Nat.lt_of_lt_of_le hh.lt ha.size), (hkk.below ha hkk.lt).below hb (Nat.lt_of_lt_of_le hkk.lt ha.size)⟩
            case measure => simp [intOf]
          · go_wp2_with fail
            go_roundw
            case rel => exact ⟨3, by omega, by go_num, hbl, hh⟩
            case measure => simp [intOf]
      · rw [show ((3 : Nat) : Int) = 3 from rfl]
        obtain ⟨D, hD⟩ : ∃ D, wr.heap.size = D := ⟨_, rfl⟩
        have hgD : g < D := by have := hh.lt; omega
        have hbD := hbl.alloc (by have := hbl.size; omega) (.cells #[.int .i64 kk, .int .i64 n] 3)
        have hhD := hh.alloc (.cells #[.int .i64 kk, .int .i64 n] 3)
        have hkD := HoldsA.new D wr #[.int .i64 kk, .int .i64 n] 3 hD.symm
        go_wp2_with fail
        generalize wr.alloc (.cells #[.int .i64 kk, .int .i64 n] 3) = w3 at *
        go_loopw [38] (fun i wr => ∃ k : Nat, k ≤ 2 ∧ i = .int .i64 k ∧ Below B w wr ∧ HoldsA g #[Str raw, Str l1, Str l2, Str T] 9 wr ∧ HoldsA D #[.int .i64 kk, .int .i64 n] 3 wr) (fun i _ => 2 - (intOf i).toNat)
        case atStart => exact ⟨0, by omega, rfl, hbD, hhD, hkD⟩
        case round =>
          clear hbD hhD hkD hbl hh hD c0' c1' c2' c3'
          obtain ⟨k, hk, rfl, hbl, hh, hkk⟩ := hrel
          have z0 := hkk.cell 0
          have z1 := hkk.cell 1
          simp at z0 z1
          obtain rfl | rfl | rfl : k = 0 ∨ k = 1 ∨ k = 2 := by omega
          · go_wp2_with fail
            refine (Format_any T kk _ (by omega)).mono ?_; rintro e wa ⟨rfl, ha⟩
            go_wp2_with fail
            refine (refFormat_any T kk _ (by omega)).mono ?_; rintro e wb ⟨rfl, hb⟩
            go_wp2_with fail
            go_roundw
            case rel => exact ⟨1, by omega, by go_num, (hbl.trans (ha.mono (by have := hbl.size; omega))).trans (hb.mono (by have := hbl.size; have := ha.size; omega)), (hh.below ha hh.lt).below hb (Nat.lt_of_lt_of_le hh.lt ha.size), (hkk.below ha hkk.lt).below hb (Nat.lt_of_lt_of_le hkk.lt ha.size)⟩
            case measure => simp [intOf]
          · go_wp2_with fail
            refine (Format_any T n _ (by omega)).mono ?_; rintro e wa ⟨rfl, ha⟩
            go_wp2_with fail
            refine (refFormat_any T n _ (by omega)).mono ?_; rintro e wb ⟨rfl, hb⟩
            go_wp2_with fail
            go_roundw
            case rel => exact ⟨2, by omega, by go_num, (hbl.trans (ha.mono (by have := hbl.size; omega))).trans (hb.mono (by have := hbl.size; have := ha.size; omega)), (hh.below ha hh.lt).below hb (Nat.lt_of_lt_of_le hh.lt ha.size), (hkk.below ha hkk.lt).below hb (Nat.lt_of_lt_of_le hkk.lt ha.size)⟩
            case measure => simp [intOf]
          · go_wp2_with fail
            go_roundw
            case rel => exact ⟨4, by omega, by go_num, hbl, hh⟩
            case measure => simp [intOf]
      · go_wp2_with fail
        go_ret
        exact ⟨rfl, by rw [hB]; exact hbl⟩
end Go.Proofs.Ytbfiflinonnmcaa
