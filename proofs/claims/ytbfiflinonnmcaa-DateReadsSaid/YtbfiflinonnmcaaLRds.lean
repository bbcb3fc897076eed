/- DateReads: the walk. -/
import Derived.Test.YtbfiflinonnmcaaDateR9
import Derived.Test.YtbfiflinonnmcaaDateR8
import Derived.Test.YtbfiflinonnmcaaLUndo
import Derived.Test.YtbfiflinonnmcaaBytes
import Derived.Test.YtbfiflinonnmcaaBits
namespace Go.Proofs.Ytbfiflinonnmcaa
open Go.RowKit

/-- what each operation of the two layouts' statement leaves -/
def rdsP (B : Nat) (a0 a1 a2 a3 a4 a5 : Int) (i : Nat) (v : Value) : Prop := match i with
  | 0 => v = .pointer (some ⟨B, 0, none⟩)
  | 1 => v = .int .i64 a0
  | 2 => v = .pointer (some ⟨B, 1, none⟩)
  | 3 => v = .int .i64 a1
  | 4 => v = .pointer (some ⟨B, 2, none⟩)
  | 5 => v = .int .i64 a2
  | 6 => v = .agg #[.int .i64 a0, .int .i64 a1, .int .i64 a2]
  | 7 => ∃ l : List UInt8, v = Str l ∧ l.length ≤ 100 ∧ rightB l = true
  | 8 => v = .pointer (some ⟨B, 3, none⟩)
  | 9 => v = .int .i64 a3
  | 10 => v = .pointer (some ⟨B, 4, none⟩)
  | 11 => v = .int .i64 a4
  | 12 => v = .pointer (some ⟨B, 5, none⟩)
  | 13 => v = .int .i64 a5
  | 14 => v = .agg #[.int .i64 a3, .int .i64 a4, .int .i64 a5]
  | 15 => ∃ l : List UInt8, v = Str l ∧ l.length ≤ 100
  | 16 => ∃ l : List UInt8, v = Str l ∧ l.length ≤ 100 ∧ rightB l = true
  | _ => ∃ l : List UInt8, v = Str l ∧ l.length ≤ 100
/-- what each operation of the change of a byte leaves -/
def rdbP (B C len cap jn : Nat) (a6 a7 : Int) (i : Nat) (v : Value) (_ : World) : Prop := match i with
  | 0 => v = .slice (some ⟨C, 0, none⟩) len cap
  | 1 => v = .pointer (some ⟨B, 6, none⟩)
  | 2 => v = .int .i64 a6
  | 3 => v = .slice (some ⟨C, 0, none⟩) len cap
  | 4 => v = .int .i64 len
  | 5 => v = .int .i64 jn
  | 6 => v = .pointer (some ⟨B, 7, none⟩)
  | 7 => v = .int .i64 a7
  | 8 => ∃ z, v = .int .u8 z ∧ 0 ≤ z ∧ z ≤ 255
  | 9 => v = .pointer (some ⟨C, jn, none⟩)
  | _ => True
def q8G (B : Nat) (a0 a1 a2 a3 a4 a5 a6 a7 : Int) (w W : World) : Prop := Below B w W ∧ HoldsA B #[.int .i64 a0, .int .i64 a1, .int .i64 a2, .int .i64 a3, .int .i64 a4, .int .i64 a5, .int .i64 a6, .int .i64 a7] 47 W

set_option maxHeartbeats 8000000 in
set_option maxRecDepth 20000 in
theorem reads_walk (n : Int) (raw : List UInt8) (a0 a1 a2 a3 a4 a5 a6 a7 : Int) (w : World) (hr : raw.length ≤ 140737488355328) (b0 : -9223372036854775808 ≤ a0) (c0 : a0 ≤ 9223372036854775807) (b1 : -9223372036854775808 ≤ a1) (c1 : a1 ≤ 9223372036854775807) (b2 : -9223372036854775808 ≤ a2) (c2 : a2 ≤ 9223372036854775807) (b3 : -9223372036854775808 ≤ a3) (c3 : a3 ≤ 9223372036854775807) (b4 : -9223372036854775808 ≤ a4) (c4 : a4 ≤ 9223372036854775807) (b5 : -9223372036854775808 ≤ a5) (c5 : a5 ≤ 9223372036854775807) (b6 : -9223372036854775808 ≤ a6) (c6 : a6 ≤ 9223372036854775807) (b7 : -9223372036854775808 ≤ a7) (c7 : a7 ≤ 9223372036854775807) :
    Calls Try.prog 9 #[.int .i64 n, Str raw, .agg #[.int .i64 a0, .int .i64 a1, .int .i64 a2, .int .i64 a3, .int .i64 a4, .int .i64 a5, .int .i64 a6, .int .i64 a7]] w fun e w' => e = .returned (.bool true) ∧ Below w.heap.size w w' := by
  obtain ⟨B, hB⟩ : ∃ B, w.heap.size = B := ⟨_, rfl⟩
  go_enter Try.func9, Try.ntmps9
  go_wp2_with fail
  refine (sanity_any _).mono ?_; rintro e w1 ⟨rfl, hb1⟩
  have hq := (HoldsA.new B w #[.int .i64 a0, .int .i64 a1, .int .i64 a2, .int .i64 a3, .int .i64 a4, .int .i64 a5, .int .i64 a6, .int .i64 a7] 47 hB.symm).below hb1 (by simp; omega)
  have hb0 := ((Below.refl B w).alloc (by omega) (.cells #[.int .i64 a0, .int .i64 a1, .int .i64 a2, .int .i64 a3, .int .i64 a4, .int .i64 a5, .int .i64 a6, .int .i64 a7] 47)).trans (hb1.mono (by simp; omega))
  clear hb1
  go_upto_region 3 with fail
  generalize bits BinOp.and IntKind.i64 n 2097151 = kk
  go_cut [9, 10] (fun s9 s10 wx => ∃ l1 l2 : List UInt8, s9 = Str l1 ∧ s10 = Str l2 ∧ l1.length ≤ 100 ∧ l2.length ≤ 100 ∧ rightB l1 = true ∧ HoldsA B #[.int .i64 a0, .int .i64 a1, .int .i64 a2, .int .i64 a3, .int .i64 a4, .int .i64 a5, .int .i64 a6, .int .i64 a7] 47 wx ∧ Below B w wx)
  case first =>
    refine wp_region_rg (fun i v _ => rdsP B a0 a1 a2 a3 a4 a5 i v) (q8G B a0 a1 a2 a3 a4 a5 a6 a7 w) (by kernel_rfl) (by kernel_rfl) ⟨hb0.drew, hq.drew 1⟩ ?step ?fin
    case step =>
      intro i o ho aa W hG hout hdep
      have x0 := hG.2.cell 0
      have x1 := hG.2.cell 1
      have x2 := hG.2.cell 2
      have x3 := hG.2.cell 3
      have x4 := hG.2.cell 4
      have x5 := hG.2.cell 5
      simp at x0 x1 x2 x3 x4 x5
      match i with
      | 0 =>
        simp at ho
        subst ho
        obtain ⟨e1, e2, e3⟩ := evals (hout 5 (outside_of (by kernel_rfl)))
        simp [Act.eval] at e1 e2 e3
        unfold Oper.wp
        go_simp
        first | exact ⟨_, rfl, rfl⟩ | exact ⟨hG, fun _ _ h => h, _, rfl, rfl, by simp⟩ | exact ⟨hG, _, rfl, rfl⟩
      | 1 =>
        simp at ho
        subst ho
        have d0 := hdep { on := 0, ground := .data } (by simp) rfl _ rfl
        obtain ⟨p0, q0, r0⟩ := evals d0
        unfold Oper.wp
        go_simp
        first | exact ⟨_, rfl, rfl⟩ | exact ⟨hG, fun _ _ h => h, _, rfl, rfl, by simp⟩ | exact ⟨hG, _, rfl, rfl⟩
      | 2 =>
        simp at ho
        subst ho
        obtain ⟨e1, e2, e3⟩ := evals (hout 5 (outside_of (by kernel_rfl)))
        simp [Act.eval] at e1 e2 e3
        unfold Oper.wp
        go_simp
        first | exact ⟨_, rfl, rfl⟩ | exact ⟨hG, fun _ _ h => h, _, rfl, rfl, by simp⟩ | exact ⟨hG, _, rfl, rfl⟩
      | 3 =>
        simp at ho
        subst ho
        have d2 := hdep { on := 2, ground := .data } (by simp) rfl _ rfl
        obtain ⟨p2, q2, r2⟩ := evals d2
        unfold Oper.wp
        go_simp
        first | exact ⟨_, rfl, rfl⟩ | exact ⟨hG, fun _ _ h => h, _, rfl, rfl, by simp⟩ | exact ⟨hG, _, rfl, rfl⟩
      | 4 =>
        simp at ho
        subst ho
        obtain ⟨e1, e2, e3⟩ := evals (hout 5 (outside_of (by kernel_rfl)))
        simp [Act.eval] at e1 e2 e3
        unfold Oper.wp
        go_simp
        first | exact ⟨_, rfl, rfl⟩ | exact ⟨hG, fun _ _ h => h, _, rfl, rfl, by simp⟩ | exact ⟨hG, _, rfl, rfl⟩
      | 5 =>
        simp at ho
        subst ho
        have d4 := hdep { on := 4, ground := .data } (by simp) rfl _ rfl
        obtain ⟨p4, q4, r4⟩ := evals d4
        unfold Oper.wp
        go_simp
        first | exact ⟨_, rfl, rfl⟩ | exact ⟨hG, fun _ _ h => h, _, rfl, rfl, by simp⟩ | exact ⟨hG, _, rfl, rfl⟩
      | 6 =>
        simp at ho
        subst ho
        have d1 := hdep { on := 1, ground := .data } (by simp) rfl _ rfl
        obtain ⟨p1, q1, r1⟩ := evals d1
        have d3 := hdep { on := 3, ground := .data } (by simp) rfl _ rfl
        obtain ⟨p3, q3, r3⟩ := evals d3
        have d5 := hdep { on := 5, ground := .data } (by simp) rfl _ rfl
        obtain ⟨p5, q5, r5⟩ := evals d5
        unfold Oper.wp
        go_simp
        first | exact ⟨_, rfl, rfl⟩ | exact ⟨hG, fun _ _ h => h, _, rfl, rfl, by simp⟩ | exact ⟨hG, _, rfl, rfl⟩
      | 7 =>
        simp at ho
        subst ho
        have d6 := hdep { on := 6, ground := .data } (by simp) rfl _ rfl
        obtain ⟨p6, q6, r6⟩ := evals d6
        unfold Oper.wp
        go_simp
        refine (Layout_any a0 a1 a2 false _ b0 c0 b1 c1 b2 c2).mono ?_; rintro e w' ⟨l, rfl, hl, hrt, hb⟩
        have hG2 : q8G B a0 a1 a2 a3 a4 a5 a6 a7 w w' := ⟨hG.1.trans (hb.mono (by have := hG.2.lt; omega)), hG.2.below hb hG.2.lt⟩
        first | exact ⟨hG2, _, rfl, l, rfl, hl, hrt rfl⟩ | exact ⟨hG2, fun _ _ h => h, _, rfl, l, rfl, hl, hrt rfl⟩ | exact ⟨hG2, fun _ _ h => h, _, rfl, ⟨l, rfl, hl, hrt rfl⟩, by simp⟩ | exact ⟨hG2, _, rfl, ⟨l, rfl, hl, hrt rfl⟩, by simp⟩
      | 8 =>
        simp at ho
        subst ho
        obtain ⟨e1, e2, e3⟩ := evals (hout 5 (outside_of (by kernel_rfl)))
        simp [Act.eval] at e1 e2 e3
        unfold Oper.wp
        go_simp
        first | exact ⟨_, rfl, rfl⟩ | exact ⟨hG, fun _ _ h => h, _, rfl, rfl, by simp⟩ | exact ⟨hG, _, rfl, rfl⟩
      | 9 =>
        simp at ho
        subst ho
        have d8 := hdep { on := 8, ground := .data } (by simp) rfl _ rfl
        obtain ⟨p8, q8, r8⟩ := evals d8
        unfold Oper.wp
        go_simp
        first | exact ⟨_, rfl, rfl⟩ | exact ⟨hG, fun _ _ h => h, _, rfl, rfl, by simp⟩ | exact ⟨hG, _, rfl, rfl⟩
      | 10 =>
        simp at ho
        subst ho
        obtain ⟨e1, e2, e3⟩ := evals (hout 5 (outside_of (by kernel_rfl)))
        simp [Act.eval] at e1 e2 e3
        unfold Oper.wp
        go_simp
        first | exact ⟨_, rfl, rfl⟩ | exact ⟨hG, fun _ _ h => h, _, rfl, rfl, by simp⟩ | exact ⟨hG, _, rfl, rfl⟩
      | 11 =>
        simp at ho
        subst ho
        have d10 := hdep { on := 10, ground := .data } (by simp) rfl _ rfl
        obtain ⟨p10, q10, r10⟩ := evals d10
        unfold Oper.wp
        go_simp
        first | exact ⟨_, rfl, rfl⟩ | exact ⟨hG, fun _ _ h => h, _, rfl, rfl, by simp⟩ | exact ⟨hG, _, rfl, rfl⟩
      | 12 =>
        simp at ho
        subst ho
        obtain ⟨e1, e2, e3⟩ := evals (hout 5 (outside_of (by kernel_rfl)))
        simp [Act.eval] at e1 e2 e3
        unfold Oper.wp
        go_simp
        first | exact ⟨_, rfl, rfl⟩ | exact ⟨hG, fun _ _ h => h, _, rfl, rfl, by simp⟩ | exact ⟨hG, _, rfl, rfl⟩
      | 13 =>
        simp at ho
        subst ho
        have d12 := hdep { on := 12, ground := .data } (by simp) rfl _ rfl
        obtain ⟨p12, q12, r12⟩ := evals d12
        unfold Oper.wp
        go_simp
        first | exact ⟨_, rfl, rfl⟩ | exact ⟨hG, fun _ _ h => h, _, rfl, rfl, by simp⟩ | exact ⟨hG, _, rfl, rfl⟩
      | 14 =>
        simp at ho
        subst ho
        have d9 := hdep { on := 9, ground := .data } (by simp) rfl _ rfl
        obtain ⟨p9, q9, r9⟩ := evals d9
        have d11 := hdep { on := 11, ground := .data } (by simp) rfl _ rfl
        obtain ⟨p11, q11, r11⟩ := evals d11
        have d13 := hdep { on := 13, ground := .data } (by simp) rfl _ rfl
        obtain ⟨p13, q13, r13⟩ := evals d13
        unfold Oper.wp
        go_simp
        first | exact ⟨_, rfl, rfl⟩ | exact ⟨hG, fun _ _ h => h, _, rfl, rfl, by simp⟩ | exact ⟨hG, _, rfl, rfl⟩
      | 15 =>
        simp at ho
        subst ho
        have d14 := hdep { on := 14, ground := .data } (by simp) rfl _ rfl
        obtain ⟨p14, q14, r14⟩ := evals d14
        unfold Oper.wp
        go_simp
        refine (Layout_any a3 a4 a5 true _ b3 c3 b4 c4 b5 c5).mono ?_; rintro e w' ⟨l, rfl, hl, hrt, hb⟩
        have hG2 : q8G B a0 a1 a2 a3 a4 a5 a6 a7 w w' := ⟨hG.1.trans (hb.mono (by have := hG.2.lt; omega)), hG.2.below hb hG.2.lt⟩
        first | exact ⟨hG2, _, rfl, l, rfl, hl⟩ | exact ⟨hG2, fun _ _ h => h, _, rfl, l, rfl, hl⟩ | exact ⟨hG2, fun _ _ h => h, _, rfl, ⟨l, rfl, hl⟩, by simp⟩ | exact ⟨hG2, _, rfl, ⟨l, rfl, hl⟩, by simp⟩
      | 16 =>
        simp at ho
        subst ho
        obtain ⟨l7, d7, hl7, hr7⟩ := hdep { on := 7, ground := .data } (by simp) rfl _ rfl
        obtain ⟨p7, q7, r7⟩ := evals d7
        unfold Oper.wp
        go_simp
        first | exact ⟨_, rfl, ⟨l7, rfl, hl7, hr7⟩⟩ | exact ⟨hG, fun _ _ h => h, _, rfl, ⟨l7, rfl, hl7, hr7⟩, by simp⟩ | exact ⟨hG, _, rfl, ⟨l7, rfl, hl7, hr7⟩⟩
      | 17 =>
        simp at ho
        subst ho
        obtain ⟨l15, d15, hl15⟩ := hdep { on := 15, ground := .data } (by simp) rfl _ rfl
        obtain ⟨p15, q15, r15⟩ := evals d15
        unfold Oper.wp
        go_simp
        first | exact ⟨_, rfl, ⟨l15, rfl, hl15⟩⟩ | exact ⟨hG, fun _ _ h => h, _, rfl, ⟨l15, rfl, hl15⟩, by simp⟩ | exact ⟨hG, _, rfl, ⟨l15, rfl, hl15⟩⟩
      | i + 18 => simp at ho
    case fin =>
      intro v W hG hv
      obtain ⟨l1, hl1, h1, h2⟩ := hv 16 _ rfl
      obtain ⟨l2, hl2, h3⟩ := hv 17 _ rfl
      simp only [laidT, List.setIfInBounds_toArray, List.set_cons_zero, List.set_cons_succ]
      rw [hl1, hl2]
      go_wp2_with fail
      go_meet
      exact ⟨l1, l2, rfl, rfl, h1, h3, h2, hG.2, hG.1⟩
  case rest =>
    obtain ⟨one, two, rfl, rfl, hl1, hl2, hrt, hq8, hbl⟩ := hcut
    clear hq hb0
    obtain ⟨S, hS⟩ : ∃ S, fmtR one kk = S := ⟨_, rfl⟩
    have hlS := fmt_len one kk hrt
    rw [hS] at hlS
    have HSx := Lib.hid hS
    have Hrt := Lib.hid hrt
    clear hS hrt
    have x6 := hq8.cell 6
    have x7 := hq8.cell 7
    simp at x6 x7
    go_wp2_with fail
    refine (refFormat_any one kk _ (by omega)).mono ?_; rintro e w6 ⟨rfl, hb6⟩; rw [HSx.out]
    have hq8 := hq8.below hb6 hq8.lt
    have hbl := hbl.trans (hb6.mono (by have := hbl.size; omega))
    clear hb6 x6 x7
    generalize fmtB one kk = fb
    obtain ⟨cap, w7, hconv, hby, hb7, hsz⟩ := bytes_of (P := Try.prog) w6 9 48 5 S Try.underlying9 Try.underlying48 Try.underlying5
    obtain ⟨C, hC⟩ : ∃ C, w6.heap.size = C := ⟨_, rfl⟩
    have hBC : B < C := by have := hq8.lt; omega
    have hq8 := hq8.below hb7 (by omega)
    have hbl := hbl.trans (hb7.mono (by have := hbl.size; omega))
    clear hb7 hsz
    rw [hC] at hby hconv
    have x6 := hq8.cell 6
    have x7 := hq8.cell 7
    simp at x6 x7
    by_cases hz : S = []
    · subst hz
      clear hlS
      have hback := hby.back (P := Try.prog) 48 9 5 cap Try.underlying48 Try.underlying5 Try.underlying9
      have hYb := hby
      clear hby
      have hc1 := str_cat [] [48]
      have hc2 := str_cat [48] []
      obtain ⟨D, hD⟩ : ∃ D, w7.heap.size = D := ⟨_, rfl⟩
      have hbD := hbl.alloc (by have := hbl.size; omega) (.cells #[Str one, Str two, Str raw, Str []] 9)
      have hkD := HoldsA.new D w7 #[Str one, Str two, Str raw, Str []] 9 hD.symm
      have hCD : C < D := by have := hYb.1; omega
      have hyD := hYb.below ((Below.refl w7.heap.size w7).alloc (Nat.le_refl _) (.cells #[Str one, Str two, Str raw, Str []] 9)) hYb.1
      clear hback hYb hbl
      go_wp2_with fail
      generalize w7.alloc (.cells #[Str one, Str two, Str raw, Str []] 9) = wD at *
      clear hD
      go_loopw [67] (fun i wr => ∃ k : Nat, k ≤ 4 ∧ i = .int .i64 k ∧ Below B w wr ∧ HoldsA D #[Str one, Str two, Str raw, Str []] 9 wr ∧ BytesAt C [] wr) (fun i _ => 4 - (intOf i).toNat)
      case atStart => exact ⟨0, by omega, rfl, hbD, hkD, hyD⟩
      case round =>
        clear hbD hkD hyD
        obtain ⟨k, hk, rfl, hbl, hh, hYb⟩ := hrel
        have s0 := hh.cell 0
        have s1 := hh.cell 1
        have s2 := hh.cell 2
        have s3 := hh.cell 3
        simp at s0 s1 s2 s3
        have hback := hYb.back (P := Try.prog) 48 9 5 cap Try.underlying48 Try.underlying5 Try.underlying9
        rw [List.length_nil] at hback
        obtain rfl | rfl | rfl | rfl | rfl : k = 0 ∨ k = 1 ∨ k = 2 ∨ k = 3 ∨ k = 4 := by omega
        · rw [show ((0 : Nat) : Int) = 0 from rfl]
          obtain ⟨E, hE⟩ : ∃ E, wr.heap.size = E := ⟨_, rfl⟩
          have hbE := hbl.alloc (by have := hbl.size; omega) (.cells #[Str [], Str [], Str raw, Str [48], Str [48], Str []] 9)
          have hhE := hh.alloc (.cells #[Str [], Str [], Str raw, Str [48], Str [48], Str []] 9)
          have hkE := HoldsA.new E wr #[Str [], Str [], Str raw, Str [48], Str [48], Str []] 9 hE.symm
          have hyE := hYb.below ((Below.refl wr.heap.size wr).alloc (Nat.le_refl _) (.cells #[Str [], Str [], Str raw, Str [48], Str [48], Str []] 9)) hYb.1
          go_wp2_with fail
          generalize wr.alloc (.cells #[Str [], Str [], Str raw, Str [48], Str [48], Str []] 9) = wE at *
          go_loopw [81] (fun i wr => ∃ k : Nat, k ≤ 6 ∧ i = .int .i64 k ∧ Below B w wr ∧ HoldsA D #[Str one, Str two, Str raw, Str []] 9 wr ∧ BytesAt C [] wr ∧ HoldsA E #[Str [], Str [], Str raw, Str [48], Str [48], Str []] 9 wr) (fun i _ => 6 - (intOf i).toNat)
          case atStart => exact ⟨0, by omega, rfl, hbE, hhE, hyE, hkE⟩
          case round =>
            clear hbE hhE hkE hyE hbl hh hYb hE hback s0 s1 s2 s3
            obtain ⟨k, hk, rfl, hbl, hh, hYb, hi⟩ := hrel
            have z0 := hi.cell 0
            have z1 := hi.cell 1
            have z2 := hi.cell 2
            have z3 := hi.cell 3
            have z4 := hi.cell 4
            have z5 := hi.cell 5
            simp at z0 z1 z2 z3 z4 z5
            obtain rfl | rfl | rfl | rfl | rfl | rfl | rfl : k = 0 ∨ k = 1 ∨ k = 2 ∨ k = 3 ∨ k = 4 ∨ k = 5 ∨ k = 6 := by omega
            · go_wp2_with fail
              refine (Read_any one [] _ (by omega) (by simp)).mono ?_; rintro e wa ⟨rfl, ha⟩
              go_wp2_with fail
              refine (refRead_any one [] _ (by omega) (by simp)).mono ?_; rintro e wb ⟨rfl, hb⟩
              go_wp2_with fail
              go_roundw
              case rel => exact ⟨1, by omega, by go_num, (hbl.trans (ha.mono (by have := hbl.size; omega))).trans (hb.mono (by have := hbl.size; have := ha.size; omega)), (hh.below ha hh.lt).below hb (Nat.lt_of_lt_of_le hh.lt ha.size), (hYb.below ha hYb.1).below hb (Nat.lt_of_lt_of_le hYb.1 ha.size), (hi.below ha hi.lt).below hb (Nat.lt_of_lt_of_le hi.lt ha.size)⟩
              case measure => simp [intOf]
            · go_wp2_with fail
              refine (Read_any one [] _ (by omega) (by simp)).mono ?_; rintro e wa ⟨rfl, ha⟩
              go_wp2_with fail
              refine (refRead_any one [] _ (by omega) (by simp)).mono ?_; rintro e wb ⟨rfl, hb⟩
              go_wp2_with fail
              go_roundw
              case rel => exact ⟨2, by omega, by go_num, (hbl.trans (ha.mono (by have := hbl.size; omega))).trans (hb.mono (by have := hbl.size; have := ha.size; omega)), (hh.below ha hh.lt).below hb (Nat.lt_of_lt_of_le hh.lt ha.size), (hYb.below ha hYb.1).below hb (Nat.lt_of_lt_of_le hYb.1 ha.size), (hi.below ha hi.lt).below hb (Nat.lt_of_lt_of_le hi.lt ha.size)⟩
              case measure => simp [intOf]
            · go_wp2_with fail
              refine (Read_any one raw _ (by omega) (by omega)).mono ?_; rintro e wa ⟨rfl, ha⟩
              go_wp2_with fail
              refine (refRead_any one raw _ (by omega) (by omega)).mono ?_; rintro e wb ⟨rfl, hb⟩
              go_wp2_with fail
              go_roundw
              case rel => exact ⟨3, by omega, by go_num, (hbl.trans (ha.mono (by have := hbl.size; omega))).trans (hb.mono (by have := hbl.size; have := ha.size; omega)), (hh.below ha hh.lt).below hb (Nat.lt_of_lt_of_le hh.lt ha.size), (hYb.below ha hYb.1).below hb (Nat.lt_of_lt_of_le hYb.1 ha.size), (hi.below ha hi.lt).below hb (Nat.lt_of_lt_of_le hi.lt ha.size)⟩
              case measure => simp [intOf]
            · go_wp2_with fail
              refine (Read_any one [48] _ (by omega) (by simp)).mono ?_; rintro e wa ⟨rfl, ha⟩
              go_wp2_with fail
              refine (refRead_any one [48] _ (by omega) (by simp)).mono ?_; rintro e wb ⟨rfl, hb⟩
              go_wp2_with fail
              go_roundw
              case rel => exact ⟨4, by omega, by go_num, (hbl.trans (ha.mono (by have := hbl.size; omega))).trans (hb.mono (by have := hbl.size; have := ha.size; omega)), (hh.below ha hh.lt).below hb (Nat.lt_of_lt_of_le hh.lt ha.size), (hYb.below ha hYb.1).below hb (Nat.lt_of_lt_of_le hYb.1 ha.size), (hi.below ha hi.lt).below hb (Nat.lt_of_lt_of_le hi.lt ha.size)⟩
              case measure => simp [intOf]
            · go_wp2_with fail
              refine (Read_any one [48] _ (by omega) (by simp)).mono ?_; rintro e wa ⟨rfl, ha⟩
              go_wp2_with fail
              refine (refRead_any one [48] _ (by omega) (by simp)).mono ?_; rintro e wb ⟨rfl, hb⟩
              go_wp2_with fail
              go_roundw
              case rel => exact ⟨5, by omega, by go_num, (hbl.trans (ha.mono (by have := hbl.size; omega))).trans (hb.mono (by have := hbl.size; have := ha.size; omega)), (hh.below ha hh.lt).below hb (Nat.lt_of_lt_of_le hh.lt ha.size), (hYb.below ha hYb.1).below hb (Nat.lt_of_lt_of_le hYb.1 ha.size), (hi.below ha hi.lt).below hb (Nat.lt_of_lt_of_le hi.lt ha.size)⟩
              case measure => simp [intOf]
            · go_wp2_with fail
              refine (Read_any one [] _ (by omega) (by simp)).mono ?_; rintro e wa ⟨rfl, ha⟩
              go_wp2_with fail
              refine (refRead_any one [] _ (by omega) (by simp)).mono ?_; rintro e wb ⟨rfl, hb⟩
              go_wp2_with fail
              go_roundw
              case rel => exact ⟨6, by omega, by go_num, (hbl.trans (ha.mono (by have := hbl.size; omega))).trans (hb.mono (by have := hbl.size; have := ha.size; omega)), (hh.below ha hh.lt).below hb (Nat.lt_of_lt_of_le hh.lt ha.size), (hYb.below ha hYb.1).below hb (Nat.lt_of_lt_of_le hYb.1 ha.size), (hi.below ha hi.lt).below hb (Nat.lt_of_lt_of_le hi.lt ha.size)⟩
              case measure => simp [intOf]
            · go_wp2_with fail
              go_roundw
              case rel => exact ⟨1, by omega, by go_num, hbl, hh, hYb⟩
              case measure => simp [intOf]
        · rw [show ((1 : Nat) : Int) = 1 from rfl]
          obtain ⟨E, hE⟩ : ∃ E, wr.heap.size = E := ⟨_, rfl⟩
          have hbE := hbl.alloc (by have := hbl.size; omega) (.cells #[Str [], Str [], Str raw, Str [48], Str [48], Str []] 9)
          have hhE := hh.alloc (.cells #[Str [], Str [], Str raw, Str [48], Str [48], Str []] 9)
          have hkE := HoldsA.new E wr #[Str [], Str [], Str raw, Str [48], Str [48], Str []] 9 hE.symm
          have hyE := hYb.below ((Below.refl wr.heap.size wr).alloc (Nat.le_refl _) (.cells #[Str [], Str [], Str raw, Str [48], Str [48], Str []] 9)) hYb.1
          go_wp2_with fail
          generalize wr.alloc (.cells #[Str [], Str [], Str raw, Str [48], Str [48], Str []] 9) = wE at *
          go_loopw [81] (fun i wr => ∃ k : Nat, k ≤ 6 ∧ i = .int .i64 k ∧ Below B w wr ∧ HoldsA D #[Str one, Str two, Str raw, Str []] 9 wr ∧ BytesAt C [] wr ∧ HoldsA E #[Str [], Str [], Str raw, Str [48], Str [48], Str []] 9 wr) (fun i _ => 6 - (intOf i).toNat)
          case atStart => exact ⟨0, by omega, rfl, hbE, hhE, hyE, hkE⟩
          case round =>
            clear hbE hhE hkE hyE hbl hh hYb hE hback s0 s1 s2 s3
            obtain ⟨k, hk, rfl, hbl, hh, hYb, hi⟩ := hrel
            have z0 := hi.cell 0
            have z1 := hi.cell 1
            have z2 := hi.cell 2
            have z3 := hi.cell 3
            have z4 := hi.cell 4
            have z5 := hi.cell 5
            simp at z0 z1 z2 z3 z4 z5
            obtain rfl | rfl | rfl | rfl | rfl | rfl | rfl : k = 0 ∨ k = 1 ∨ k = 2 ∨ k = 3 ∨ k = 4 ∨ k = 5 ∨ k = 6 := by omega
            · go_wp2_with fail
              refine (Read_any two [] _ (by omega) (by simp)).mono ?_; rintro e wa ⟨rfl, ha⟩
              go_wp2_with fail
              refine (refRead_any two [] _ (by omega) (by simp)).mono ?_; rintro e wb ⟨rfl, hb⟩
              go_wp2_with fail
              go_roundw
              case rel => exact ⟨1, by omega, by go_num, (hbl.trans (ha.mono (by have := hbl.size; omega))).trans (hb.mono (by have := hbl.size; have := ha.size; omega)), (hh.below ha hh.lt).below hb (Nat.lt_of_lt_of_le hh.lt ha.size), (hYb.below ha hYb.1).below hb (Nat.lt_of_lt_of_le hYb.1 ha.size), (hi.below ha hi.lt).below hb (Nat.lt_of_lt_of_le hi.lt ha.size)⟩
              case measure => simp [intOf]
            · go_wp2_with fail
              refine (Read_any two [] _ (by omega) (by simp)).mono ?_; rintro e wa ⟨rfl, ha⟩
              go_wp2_with fail
              refine (refRead_any two [] _ (by omega) (by simp)).mono ?_; rintro e wb ⟨rfl, hb⟩
              go_wp2_with fail
              go_roundw
              case rel => exact ⟨2, by omega, by go_num, (hbl.trans (ha.mono (by have := hbl.size; omega))).trans (hb.mono (by have := hbl.size; have := ha.size; omega)), (hh.below ha hh.lt).below hb (Nat.lt_of_lt_of_le hh.lt ha.size), (hYb.below ha hYb.1).below hb (Nat.lt_of_lt_of_le hYb.1 ha.size), (hi.below ha hi.lt).below hb (Nat.lt_of_lt_of_le hi.lt ha.size)⟩
              case measure => simp [intOf]
            · go_wp2_with fail
              refine (Read_any two raw _ (by omega) (by omega)).mono ?_; rintro e wa ⟨rfl, ha⟩
              go_wp2_with fail
              refine (refRead_any two raw _ (by omega) (by omega)).mono ?_; rintro e wb ⟨rfl, hb⟩
              go_wp2_with fail
              go_roundw
              case rel => exact ⟨3, by omega, by go_num, (hbl.trans (ha.mono (by have := hbl.size; omega))).trans (hb.mono (by have := hbl.size; have := ha.size; omega)), (hh.below ha hh.lt).below hb (Nat.lt_of_lt_of_le hh.lt ha.size), (hYb.below ha hYb.1).below hb (Nat.lt_of_lt_of_le hYb.1 ha.size), (hi.below ha hi.lt).below hb (Nat.lt_of_lt_of_le hi.lt ha.size)⟩
              case measure => simp [intOf]
            · go_wp2_with fail
              refine (Read_any two [48] _ (by omega) (by simp)).mono ?_; rintro e wa ⟨rfl, ha⟩
              go_wp2_with fail
              refine (refRead_any two [48] _ (by omega) (by simp)).mono ?_; rintro e wb ⟨rfl, hb⟩
              go_wp2_with fail
              go_roundw
              case rel => exact ⟨4, by omega, by go_num, (hbl.trans (ha.mono (by have := hbl.size; omega))).trans (hb.mono (by have := hbl.size; have := ha.size; omega)), (hh.below ha hh.lt).below hb (Nat.lt_of_lt_of_le hh.lt ha.size), (hYb.below ha hYb.1).below hb (Nat.lt_of_lt_of_le hYb.1 ha.size), (hi.below ha hi.lt).below hb (Nat.lt_of_lt_of_le hi.lt ha.size)⟩
              case measure => simp [intOf]
            · go_wp2_with fail
              refine (Read_any two [48] _ (by omega) (by simp)).mono ?_; rintro e wa ⟨rfl, ha⟩
              go_wp2_with fail
              refine (refRead_any two [48] _ (by omega) (by simp)).mono ?_; rintro e wb ⟨rfl, hb⟩
              go_wp2_with fail
              go_roundw
              case rel => exact ⟨5, by omega, by go_num, (hbl.trans (ha.mono (by have := hbl.size; omega))).trans (hb.mono (by have := hbl.size; have := ha.size; omega)), (hh.below ha hh.lt).below hb (Nat.lt_of_lt_of_le hh.lt ha.size), (hYb.below ha hYb.1).below hb (Nat.lt_of_lt_of_le hYb.1 ha.size), (hi.below ha hi.lt).below hb (Nat.lt_of_lt_of_le hi.lt ha.size)⟩
              case measure => simp [intOf]
            · go_wp2_with fail
              refine (Read_any two [] _ (by omega) (by simp)).mono ?_; rintro e wa ⟨rfl, ha⟩
              go_wp2_with fail
              refine (refRead_any two [] _ (by omega) (by simp)).mono ?_; rintro e wb ⟨rfl, hb⟩
              go_wp2_with fail
              go_roundw
              case rel => exact ⟨6, by omega, by go_num, (hbl.trans (ha.mono (by have := hbl.size; omega))).trans (hb.mono (by have := hbl.size; have := ha.size; omega)), (hh.below ha hh.lt).below hb (Nat.lt_of_lt_of_le hh.lt ha.size), (hYb.below ha hYb.1).below hb (Nat.lt_of_lt_of_le hYb.1 ha.size), (hi.below ha hi.lt).below hb (Nat.lt_of_lt_of_le hi.lt ha.size)⟩
              case measure => simp [intOf]
            · go_wp2_with fail
              go_roundw
              case rel => exact ⟨2, by omega, by go_num, hbl, hh, hYb⟩
              case measure => simp [intOf]
        · rw [show ((2 : Nat) : Int) = 2 from rfl]
          obtain ⟨E, hE⟩ : ∃ E, wr.heap.size = E := ⟨_, rfl⟩
          have hbE := hbl.alloc (by have := hbl.size; omega) (.cells #[Str [], Str [], Str raw, Str [48], Str [48], Str []] 9)
          have hhE := hh.alloc (.cells #[Str [], Str [], Str raw, Str [48], Str [48], Str []] 9)
          have hkE := HoldsA.new E wr #[Str [], Str [], Str raw, Str [48], Str [48], Str []] 9 hE.symm
          have hyE := hYb.below ((Below.refl wr.heap.size wr).alloc (Nat.le_refl _) (.cells #[Str [], Str [], Str raw, Str [48], Str [48], Str []] 9)) hYb.1
          go_wp2_with fail
          generalize wr.alloc (.cells #[Str [], Str [], Str raw, Str [48], Str [48], Str []] 9) = wE at *
          go_loopw [81] (fun i wr => ∃ k : Nat, k ≤ 6 ∧ i = .int .i64 k ∧ Below B w wr ∧ HoldsA D #[Str one, Str two, Str raw, Str []] 9 wr ∧ BytesAt C [] wr ∧ HoldsA E #[Str [], Str [], Str raw, Str [48], Str [48], Str []] 9 wr) (fun i _ => 6 - (intOf i).toNat)
          case atStart => exact ⟨0, by omega, rfl, hbE, hhE, hyE, hkE⟩
          case round =>
            clear hbE hhE hkE hyE hbl hh hYb hE hback s0 s1 s2 s3
            obtain ⟨k, hk, rfl, hbl, hh, hYb, hi⟩ := hrel
            have z0 := hi.cell 0
            have z1 := hi.cell 1
            have z2 := hi.cell 2
            have z3 := hi.cell 3
            have z4 := hi.cell 4
            have z5 := hi.cell 5
            simp at z0 z1 z2 z3 z4 z5
            obtain rfl | rfl | rfl | rfl | rfl | rfl | rfl : k = 0 ∨ k = 1 ∨ k = 2 ∨ k = 3 ∨ k = 4 ∨ k = 5 ∨ k = 6 := by omega
            · go_wp2_with fail
              refine (Read_any raw [] _ (by omega) (by simp)).mono ?_; rintro e wa ⟨rfl, ha⟩
              go_wp2_with fail
              refine (refRead_any raw [] _ (by omega) (by simp)).mono ?_; rintro e wb ⟨rfl, hb⟩
              go_wp2_with fail
              go_roundw
              case rel => exact ⟨1, by omega, by go_num, (hbl.trans (ha.mono (by have := hbl.size; omega))).trans (hb.mono (by have := hbl.size; have := ha.size; omega)), (hh.below ha hh.lt).below hb (Nat.lt_of_lt_of_le hh.lt ha.size), (hYb.below ha hYb.1).below hb (Nat.lt_of_lt_of_le hYb.1 ha.size), (hi.below ha hi.lt).below hb (Nat.lt_of_lt_of_le hi.lt ha.size)⟩
              case measure => simp [intOf]
            · go_wp2_with fail
              refine (Read_any raw [] _ (by omega) (by simp)).mono ?_; rintro e wa ⟨rfl, ha⟩
              go_wp2_with fail
              refine (refRead_any raw [] _ (by omega) (by simp)).mono ?_; rintro e wb ⟨rfl, hb⟩
              go_wp2_with fail
              go_roundw
              case rel => exact ⟨2, by omega, by go_num, (hbl.trans (ha.mono (by have := hbl.size; omega))).trans (hb.mono (by have := hbl.size; have := ha.size; omega)), (hh.below ha hh.lt).below hb (Nat.lt_of_lt_of_le hh.lt ha.size), (hYb.below ha hYb.1).below hb (Nat.lt_of_lt_of_le hYb.1 ha.size), (hi.below ha hi.lt).below hb (Nat.lt_of_lt_of_le hi.lt ha.size)⟩
              case measure => simp [intOf]
            · go_wp2_with fail
              refine (Read_any raw raw _ (by omega) (by omega)).mono ?_; rintro e wa ⟨rfl, ha⟩
              go_wp2_with fail
              refine (refRead_any raw raw _ (by omega) (by omega)).mono ?_; rintro e wb ⟨rfl, hb⟩
              go_wp2_with fail
              go_roundw
              case rel => exact ⟨3, by omega, by go_num, (hbl.trans (ha.mono (by have := hbl.size; omega))).trans (hb.mono (by have := hbl.size; have := ha.size; omega)), (hh.below ha hh.lt).below hb (Nat.lt_of_lt_of_le hh.lt ha.size), (hYb.below ha hYb.1).below hb (Nat.lt_of_lt_of_le hYb.1 ha.size), (hi.below ha hi.lt).below hb (Nat.lt_of_lt_of_le hi.lt ha.size)⟩
              case measure => simp [intOf]
            · go_wp2_with fail
              refine (Read_any raw [48] _ (by omega) (by simp)).mono ?_; rintro e wa ⟨rfl, ha⟩
              go_wp2_with fail
              refine (refRead_any raw [48] _ (by omega) (by simp)).mono ?_; rintro e wb ⟨rfl, hb⟩
              go_wp2_with fail
              go_roundw
              case rel => exact ⟨4, by omega, by go_num, (hbl.trans (ha.mono (by have := hbl.size; omega))).trans (hb.mono (by have := hbl.size; have := ha.size; omega)), (hh.below ha hh.lt).below hb (Nat.lt_of_lt_of_le hh.lt ha.size), (hYb.below ha hYb.1).below hb (Nat.lt_of_lt_of_le hYb.1 ha.size), (hi.below ha hi.lt).below hb (Nat.lt_of_lt_of_le hi.lt ha.size)⟩
              case measure => simp [intOf]
            · go_wp2_with fail
              refine (Read_any raw [48] _ (by omega) (by simp)).mono ?_; rintro e wa ⟨rfl, ha⟩
              go_wp2_with fail
              refine (refRead_any raw [48] _ (by omega) (by simp)).mono ?_; rintro e wb ⟨rfl, hb⟩
              go_wp2_with fail
              go_roundw
              case rel => exact ⟨5, by omega, by go_num, (hbl.trans (ha.mono (by have := hbl.size; omega))).trans (hb.mono (by have := hbl.size; have := ha.size; omega)), (hh.below ha hh.lt).below hb (Nat.lt_of_lt_of_le hh.lt ha.size), (hYb.below ha hYb.1).below hb (Nat.lt_of_lt_of_le hYb.1 ha.size), (hi.below ha hi.lt).below hb (Nat.lt_of_lt_of_le hi.lt ha.size)⟩
              case measure => simp [intOf]
            · go_wp2_with fail
              refine (Read_any raw [] _ (by omega) (by simp)).mono ?_; rintro e wa ⟨rfl, ha⟩
              go_wp2_with fail
              refine (refRead_any raw [] _ (by omega) (by simp)).mono ?_; rintro e wb ⟨rfl, hb⟩
              go_wp2_with fail
              go_roundw
              case rel => exact ⟨6, by omega, by go_num, (hbl.trans (ha.mono (by have := hbl.size; omega))).trans (hb.mono (by have := hbl.size; have := ha.size; omega)), (hh.below ha hh.lt).below hb (Nat.lt_of_lt_of_le hh.lt ha.size), (hYb.below ha hYb.1).below hb (Nat.lt_of_lt_of_le hYb.1 ha.size), (hi.below ha hi.lt).below hb (Nat.lt_of_lt_of_le hi.lt ha.size)⟩
              case measure => simp [intOf]
            · go_wp2_with fail
              go_roundw
              case rel => exact ⟨3, by omega, by go_num, hbl, hh, hYb⟩
              case measure => simp [intOf]
        · rw [show ((3 : Nat) : Int) = 3 from rfl]
          obtain ⟨E, hE⟩ : ∃ E, wr.heap.size = E := ⟨_, rfl⟩
          have hbE := hbl.alloc (by have := hbl.size; omega) (.cells #[Str [], Str [], Str raw, Str [48], Str [48], Str []] 9)
          have hhE := hh.alloc (.cells #[Str [], Str [], Str raw, Str [48], Str [48], Str []] 9)
          have hkE := HoldsA.new E wr #[Str [], Str [], Str raw, Str [48], Str [48], Str []] 9 hE.symm
          have hyE := hYb.below ((Below.refl wr.heap.size wr).alloc (Nat.le_refl _) (.cells #[Str [], Str [], Str raw, Str [48], Str [48], Str []] 9)) hYb.1
          go_wp2_with fail
          generalize wr.alloc (.cells #[Str [], Str [], Str raw, Str [48], Str [48], Str []] 9) = wE at *
          go_loopw [81] (fun i wr => ∃ k : Nat, k ≤ 6 ∧ i = .int .i64 k ∧ Below B w wr ∧ HoldsA D #[Str one, Str two, Str raw, Str []] 9 wr ∧ BytesAt C [] wr ∧ HoldsA E #[Str [], Str [], Str raw, Str [48], Str [48], Str []] 9 wr) (fun i _ => 6 - (intOf i).toNat)
          case atStart => exact ⟨0, by omega, rfl, hbE, hhE, hyE, hkE⟩
          case round =>
            clear hbE hhE hkE hyE hbl hh hYb hE hback s0 s1 s2 s3
            obtain ⟨k, hk, rfl, hbl, hh, hYb, hi⟩ := hrel
            have z0 := hi.cell 0
            have z1 := hi.cell 1
            have z2 := hi.cell 2
            have z3 := hi.cell 3
            have z4 := hi.cell 4
            have z5 := hi.cell 5
            simp at z0 z1 z2 z3 z4 z5
            obtain rfl | rfl | rfl | rfl | rfl | rfl | rfl : k = 0 ∨ k = 1 ∨ k = 2 ∨ k = 3 ∨ k = 4 ∨ k = 5 ∨ k = 6 := by omega
            · go_wp2_with fail
              refine (Read_any [] [] _ (by simp) (by simp)).mono ?_; rintro e wa ⟨rfl, ha⟩
              go_wp2_with fail
              refine (refRead_any [] [] _ (by simp) (by simp)).mono ?_; rintro e wb ⟨rfl, hb⟩
              go_wp2_with fail
              go_roundw
              case rel => exact ⟨1, by omega, by go_num, (hbl.trans (ha.mono (by have := hbl.size; omega))).trans (hb.mono (by have := hbl.size; have := ha.size; omega)), (hh.below ha hh.lt).below hb (Nat.lt_of_lt_of_le hh.lt ha.size), (hYb.below ha hYb.1).below hb (Nat.lt_of_lt_of_le hYb.1 ha.size), (hi.below ha hi.lt).below hb (Nat.lt_of_lt_of_le hi.lt ha.size)⟩
              case measure => simp [intOf]
            · go_wp2_with fail
              refine (Read_any [] [] _ (by simp) (by simp)).mono ?_; rintro e wa ⟨rfl, ha⟩
              go_wp2_with fail
              refine (refRead_any [] [] _ (by simp) (by simp)).mono ?_; rintro e wb ⟨rfl, hb⟩
              go_wp2_with fail
              go_roundw
              case rel => exact ⟨2, by omega, by go_num, (hbl.trans (ha.mono (by have := hbl.size; omega))).trans (hb.mono (by have := hbl.size; have := ha.size; omega)), (hh.below ha hh.lt).below hb (Nat.lt_of_lt_of_le hh.lt ha.size), (hYb.below ha hYb.1).below hb (Nat.lt_of_lt_of_le hYb.1 ha.size), (hi.below ha hi.lt).below hb (Nat.lt_of_lt_of_le hi.lt ha.size)⟩
              case measure => simp [intOf]
            · go_wp2_with fail
              refine (Read_any [] raw _ (by simp) (by omega)).mono ?_; rintro e wa ⟨rfl, ha⟩
              go_wp2_with fail
              refine (refRead_any [] raw _ (by simp) (by omega)).mono ?_; rintro e wb ⟨rfl, hb⟩
              go_wp2_with fail
              go_roundw
              case rel => exact ⟨3, by omega, by go_num, (hbl.trans (ha.mono (by have := hbl.size; omega))).trans (hb.mono (by have := hbl.size; have := ha.size; omega)), (hh.below ha hh.lt).below hb (Nat.lt_of_lt_of_le hh.lt ha.size), (hYb.below ha hYb.1).below hb (Nat.lt_of_lt_of_le hYb.1 ha.size), (hi.below ha hi.lt).below hb (Nat.lt_of_lt_of_le hi.lt ha.size)⟩
              case measure => simp [intOf]
            · go_wp2_with fail
              refine (Read_any [] [48] _ (by simp) (by simp)).mono ?_; rintro e wa ⟨rfl, ha⟩
              go_wp2_with fail
              refine (refRead_any [] [48] _ (by simp) (by simp)).mono ?_; rintro e wb ⟨rfl, hb⟩
              go_wp2_with fail
              go_roundw
              case rel => exact ⟨4, by omega, by go_num, (hbl.trans (ha.mono (by have := hbl.size; omega))).trans (hb.mono (by have := hbl.size; have := ha.size; omega)), (hh.below ha hh.lt).below hb (Nat.lt_of_lt_of_le hh.lt ha.size), (hYb.below ha hYb.1).below hb (Nat.lt_of_lt_of_le hYb.1 ha.size), (hi.below ha hi.lt).below hb (Nat.lt_of_lt_of_le hi.lt ha.size)⟩
              case measure => simp [intOf]
            · go_wp2_with fail
              refine (Read_any [] [48] _ (by simp) (by simp)).mono ?_; rintro e wa ⟨rfl, ha⟩
              go_wp2_with fail
              refine (refRead_any [] [48] _ (by simp) (by simp)).mono ?_; rintro e wb ⟨rfl, hb⟩
              go_wp2_with fail
              go_roundw
              case rel => exact ⟨5, by omega, by go_num, (hbl.trans (ha.mono (by have := hbl.size; omega))).trans (hb.mono (by have := hbl.size; have := ha.size; omega)), (hh.below ha hh.lt).below hb (Nat.lt_of_lt_of_le hh.lt ha.size), (hYb.below ha hYb.1).below hb (Nat.lt_of_lt_of_le hYb.1 ha.size), (hi.below ha hi.lt).below hb (Nat.lt_of_lt_of_le hi.lt ha.size)⟩
              case measure => simp [intOf]
            · go_wp2_with fail
              refine (Read_any [] [] _ (by simp) (by simp)).mono ?_; rintro e wa ⟨rfl, ha⟩
              go_wp2_with fail
              refine (refRead_any [] [] _ (by simp) (by simp)).mono ?_; rintro e wb ⟨rfl, hb⟩
              go_wp2_with fail
              go_roundw
              case rel => exact ⟨6, by omega, by go_num, (hbl.trans (ha.mono (by have := hbl.size; omega))).trans (hb.mono (by have := hbl.size; have := ha.size; omega)), (hh.below ha hh.lt).below hb (Nat.lt_of_lt_of_le hh.lt ha.size), (hYb.below ha hYb.1).below hb (Nat.lt_of_lt_of_le hYb.1 ha.size), (hi.below ha hi.lt).below hb (Nat.lt_of_lt_of_le hi.lt ha.size)⟩
              case measure => simp [intOf]
            · go_wp2_with fail
              go_roundw
              case rel => exact ⟨4, by omega, by go_num, hbl, hh, hYb⟩
              case measure => simp [intOf]
        · go_wp2_with fail
          go_ret
          exact ⟨rfl, by rw [hB]; exact hbl⟩
    · have hz1 : 0 < S.length := by
          cases S with
          | nil => exact absurd rfl hz
          | cons a b => simp
      have hz2 : (0 : Int) < S.length := by omega
      obtain ⟨jn, hjn, hjl⟩ := modR_nat a6 S.length hz2
      have HJ := Lib.hid hjn
      clear hjn hz
      go_upto_region 7 with fail
      refine wp_region_rg (rdbP B C S.length cap jn a6 a7) (fun W => q8G B a0 a1 a2 a3 a4 a5 a6 a7 w W ∧ ∃ Y : List UInt8, Y.length = S.length ∧ BytesAt C Y W) (by kernel_rfl) (by kernel_rfl) ⟨⟨hbl.drew, hq8.drew 1⟩, S, rfl, hby⟩ ?step2 ?fin2
      case step2 =>
          intro i o ho aa W hG hout hdep
          have y6 := hG.1.2.cell 6
          have y7 := hG.1.2.cell 7
          simp at y6 y7
          match i with

          | 0 =>
            simp at ho
            subst ho
            obtain ⟨e1, e2, e3⟩ := evals (hout 13 (outside_of (by kernel_rfl)))
            simp [Act.eval] at e1 e2 e3
            unfold Oper.wp
            go_simp
            first | exact ⟨_, rfl, rfl⟩ | exact ⟨hG, fun _ _ h => h, _, rfl, rfl, by simp⟩ | exact ⟨hG, _, rfl, rfl⟩
          | 1 =>
            simp at ho
            subst ho
            obtain ⟨e1, e2, e3⟩ := evals (hout 5 (outside_of (by kernel_rfl)))
            simp [Act.eval] at e1 e2 e3
            unfold Oper.wp
            go_simp
            first | exact ⟨_, rfl, rfl⟩ | exact ⟨hG, fun _ _ h => h, _, rfl, rfl, by simp⟩ | exact ⟨hG, _, rfl, rfl⟩
          | 2 =>
            simp at ho
            subst ho
            have d1 := hdep { on := 1, ground := .data } (by simp) rfl _ rfl
            obtain ⟨p1, q1, r1⟩ := evals d1
            unfold Oper.wp
            go_simp
            first | exact ⟨_, rfl, rfl⟩ | exact ⟨hG, fun _ _ h => h, _, rfl, rfl, by simp⟩ | exact ⟨hG, _, rfl, rfl⟩
          | 3 =>
            simp at ho
            subst ho
            obtain ⟨e1, e2, e3⟩ := evals (hout 13 (outside_of (by kernel_rfl)))
            simp [Act.eval] at e1 e2 e3
            unfold Oper.wp
            go_simp
            first | exact ⟨_, rfl, rfl⟩ | exact ⟨hG, fun _ _ h => h, _, rfl, rfl, by simp⟩ | exact ⟨hG, _, rfl, rfl⟩
          | 4 =>
            simp at ho
            subst ho
            have d3 := hdep { on := 3, ground := .data } (by simp) rfl _ rfl
            obtain ⟨p3, q3, r3⟩ := evals d3
            unfold Oper.wp
            go_simp
            first | exact ⟨_, rfl, rfl⟩ | exact ⟨hG, fun _ _ h => h, _, rfl, rfl, by simp⟩ | exact ⟨hG, _, rfl, rfl⟩
          | 5 =>
            simp at ho
            subst ho
            have d2 := hdep { on := 2, ground := .data } (by simp) rfl _ rfl
            obtain ⟨p2, q2, r2⟩ := evals d2
            have d4 := hdep { on := 4, ground := .data } (by simp) rfl _ rfl
            obtain ⟨p4, q4, r4⟩ := evals d4
            unfold Oper.wp
            go_simp
            refine (Mod_any a6 S.length _ b6 c6 hz2 (by omega)).mono ?_; rintro e w' ⟨rfl, rfl⟩; rw [HJ.out]
            first | exact ⟨hG, _, rfl, rfl⟩ | exact ⟨hG, fun _ _ h => h, _, rfl, rfl⟩ | exact ⟨hG, fun _ _ h => h, _, rfl, rfl, by simp⟩
          | 6 =>
            simp at ho
            subst ho
            obtain ⟨e1, e2, e3⟩ := evals (hout 5 (outside_of (by kernel_rfl)))
            simp [Act.eval] at e1 e2 e3
            unfold Oper.wp
            go_simp
            first | exact ⟨_, rfl, rfl⟩ | exact ⟨hG, fun _ _ h => h, _, rfl, rfl, by simp⟩ | exact ⟨hG, _, rfl, rfl⟩
          | 7 =>
            simp at ho
            subst ho
            have d6 := hdep { on := 6, ground := .data } (by simp) rfl _ rfl
            obtain ⟨p6, q6, r6⟩ := evals d6
            unfold Oper.wp
            go_simp
            first | exact ⟨_, rfl, rfl⟩ | exact ⟨hG, fun _ _ h => h, _, rfl, rfl, by simp⟩ | exact ⟨hG, _, rfl, rfl⟩
          | 8 =>
            simp at ho
            subst ho
            have d7 := hdep { on := 7, ground := .data } (by simp) rfl _ rfl
            obtain ⟨p7, q7, r7⟩ := evals d7
            unfold Oper.wp
            go_simp
            have hzz : 0 ≤ IntKind.u8.wrap a7 ∧ IntKind.u8.wrap a7 ≤ 255 := by rw [IntKind.wrap_u8]; omega
            first | exact ⟨_, rfl, _, rfl, hzz.1, hzz.2⟩ | exact ⟨hG, fun _ _ h => h, _, rfl, ⟨_, rfl, hzz.1, hzz.2⟩, by simp⟩
          | 9 =>
            simp at ho
            subst ho
            have d0 := hdep { on := 0, ground := .data } (by simp) rfl _ rfl
            obtain ⟨p0, q0, r0⟩ := evals d0
            have d5 := hdep { on := 5, ground := .data } (by simp) rfl _ rfl
            obtain ⟨p5, q5, r5⟩ := evals d5
            have hj0 : (0 : Int) ≤ jn := by omega
            unfold Oper.wp
            go_simp
            first | exact ⟨_, rfl, rfl⟩ | exact ⟨hG, fun _ _ h => h, _, rfl, rfl, by simp⟩ | exact ⟨hG, _, rfl, rfl⟩
          | 10 =>
            simp at ho
            subst ho
            obtain ⟨z, d8, hz0, hz1⟩ := hdep { on := 8, ground := .data } (by simp) rfl _ rfl
            obtain ⟨p8, q8, r8⟩ := evals d8
            have d9 := hdep { on := 9, ground := .data } (by simp) rfl _ rfl
            obtain ⟨p9, q9, r9⟩ := evals d9
            obtain ⟨hG1, Y, hY, hYb⟩ := hG
            have g1 := (hYb.2 jn (by omega)).1
            have g2 := (hYb.2 jn (by omega)).2
            unfold Oper.wp
            go_simp
            exact ⟨⟨⟨hG1.1.setCell (p := ⟨C, jn, none⟩) (by simp; omega) _, hG1.2.setOther _ (by simp; omega) _⟩, Y.set jn (UInt8.ofNat z.toNat), by simp [hY], hYb.set jn (by omega) _ z (by rw [UInt8.toNat_ofNat']; omega)⟩, fun _ _ h => h, trivial⟩
          | i + 11 => simp at ho
      case fin2 =>
        intro v W hG hv
        obtain ⟨hG1, Y, hY, hYb⟩ := hG
        have hbl := hG1.1
        simp only [laidT, List.setIfInBounds_toArray, List.set_cons_zero, List.set_cons_succ, Nat.reduceAdd]
        clear hv hby hconv
        have hback := hYb.back (P := Try.prog) 48 9 5 cap Try.underlying48 Try.underlying5 Try.underlying9
        rw [hY] at hback
        have hT2 : (S ++ [48]).length = S.length + 1 := by simp
        have hT3 : ([48] ++ S).length = S.length + 1 := by simp
        have hc1 := str_cat S [48]
        have hc2 := str_cat [48] S
        generalize S ++ [48] = T2 at *
        generalize [48] ++ S = T3 at *
        have hY4 : Y.length ≤ 160 := by omega
        obtain ⟨D, hD⟩ : ∃ D, W.heap.size = D := ⟨_, rfl⟩
        have hbD := hbl.alloc (by have := hbl.size; omega) (.cells #[Str one, Str two, Str raw, Str []] 9)
        have hkD := HoldsA.new D W #[Str one, Str two, Str raw, Str []] 9 hD.symm
        have hCD : C < D := by have := hYb.1; omega
        have hyD := hYb.below ((Below.refl W.heap.size W).alloc (Nat.le_refl _) (.cells #[Str one, Str two, Str raw, Str []] 9)) hYb.1
        clear hback hYb hbl
        go_wp2_with fail
        generalize W.alloc (.cells #[Str one, Str two, Str raw, Str []] 9) = wD at *
        clear hD
        go_loopw [67] (fun i wr => ∃ k : Nat, k ≤ 4 ∧ i = .int .i64 k ∧ Below B w wr ∧ HoldsA D #[Str one, Str two, Str raw, Str []] 9 wr ∧ BytesAt C Y wr) (fun i _ => 4 - (intOf i).toNat)
        case atStart => exact ⟨0, by omega, rfl, hbD, hkD, hyD⟩
        case round =>
          clear hbD hkD hyD
          obtain ⟨k, hk, rfl, hbl, hh, hYb⟩ := hrel
          have s0 := hh.cell 0
          have s1 := hh.cell 1
          have s2 := hh.cell 2
          have s3 := hh.cell 3
          simp at s0 s1 s2 s3
          have hback := hYb.back (P := Try.prog) 48 9 5 cap Try.underlying48 Try.underlying5 Try.underlying9
          rw [hY] at hback
          obtain rfl | rfl | rfl | rfl | rfl : k = 0 ∨ k = 1 ∨ k = 2 ∨ k = 3 ∨ k = 4 := by omega
          · rw [show ((0 : Nat) : Int) = 0 from rfl]
            obtain ⟨E, hE⟩ : ∃ E, wr.heap.size = E := ⟨_, rfl⟩
            have hbE := hbl.alloc (by have := hbl.size; omega) (.cells #[Str S, Str Y, Str raw, Str T2, Str T3, Str []] 9)
            have hhE := hh.alloc (.cells #[Str S, Str Y, Str raw, Str T2, Str T3, Str []] 9)
            have hkE := HoldsA.new E wr #[Str S, Str Y, Str raw, Str T2, Str T3, Str []] 9 hE.symm
            have hyE := hYb.below ((Below.refl wr.heap.size wr).alloc (Nat.le_refl _) (.cells #[Str S, Str Y, Str raw, Str T2, Str T3, Str []] 9)) hYb.1
            go_wp2_with fail
            generalize wr.alloc (.cells #[Str S, Str Y, Str raw, Str T2, Str T3, Str []] 9) = wE at *
            go_loopw [81] (fun i wr => ∃ k : Nat, k ≤ 6 ∧ i = .int .i64 k ∧ Below B w wr ∧ HoldsA D #[Str one, Str two, Str raw, Str []] 9 wr ∧ BytesAt C Y wr ∧ HoldsA E #[Str S, Str Y, Str raw, Str T2, Str T3, Str []] 9 wr) (fun i _ => 6 - (intOf i).toNat)
            case atStart => exact ⟨0, by omega, rfl, hbE, hhE, hyE, hkE⟩
            case round =>
              clear hbE hhE hkE hyE hbl hh hYb hE hback s0 s1 s2 s3
              obtain ⟨k, hk, rfl, hbl, hh, hYb, hi⟩ := hrel
              have z0 := hi.cell 0
              have z1 := hi.cell 1
              have z2 := hi.cell 2
              have z3 := hi.cell 3
              have z4 := hi.cell 4
              have z5 := hi.cell 5
              simp at z0 z1 z2 z3 z4 z5
              obtain rfl | rfl | rfl | rfl | rfl | rfl | rfl : k = 0 ∨ k = 1 ∨ k = 2 ∨ k = 3 ∨ k = 4 ∨ k = 5 ∨ k = 6 := by omega
              · go_wp2_with fail
                refine (Read_any one S _ (by omega) (by omega)).mono ?_; rintro e wa ⟨rfl, ha⟩
                go_wp2_with fail
                refine (refRead_any one S _ (by omega) (by omega)).mono ?_; rintro e wb ⟨rfl, hb⟩
                go_wp2_with fail
                go_roundw
                case rel => exact ⟨1, by omega, by go_num, (hbl.trans (ha.mono (by have := hbl.size; omega))).trans (hb.mono (by have := hbl.size; have := ha.size; omega)), (hh.below ha hh.lt).below hb (Nat.lt_of_lt_of_le hh.lt ha.size), (hYb.below ha hYb.1).below hb (Nat.lt_of_lt_of_le hYb.1 ha.size), (hi.below ha hi.lt).below hb (Nat.lt_of_lt_of_le hi.lt ha.size)⟩
                case measure => simp [intOf]
              · go_wp2_with fail
                refine (Read_any one Y _ (by omega) (by omega)).mono ?_; rintro e wa ⟨rfl, ha⟩
                go_wp2_with fail
                refine (refRead_any one Y _ (by omega) (by omega)).mono ?_; rintro e wb ⟨rfl, hb⟩
                go_wp2_with fail
                go_roundw
                case rel => exact ⟨2, by omega, by go_num, (hbl.trans (ha.mono (by have := hbl.size; omega))).trans (hb.mono (by have := hbl.size; have := ha.size; omega)), (hh.below ha hh.lt).below hb (Nat.lt_of_lt_of_le hh.lt ha.size), (hYb.below ha hYb.1).below hb (Nat.lt_of_lt_of_le hYb.1 ha.size), (hi.below ha hi.lt).below hb (Nat.lt_of_lt_of_le hi.lt ha.size)⟩
                case measure => simp [intOf]
              · go_wp2_with fail
                refine (Read_any one raw _ (by omega) (by omega)).mono ?_; rintro e wa ⟨rfl, ha⟩
                go_wp2_with fail
                refine (refRead_any one raw _ (by omega) (by omega)).mono ?_; rintro e wb ⟨rfl, hb⟩
                go_wp2_with fail
                go_roundw
                case rel => exact ⟨3, by omega, by go_num, (hbl.trans (ha.mono (by have := hbl.size; omega))).trans (hb.mono (by have := hbl.size; have := ha.size; omega)), (hh.below ha hh.lt).below hb (Nat.lt_of_lt_of_le hh.lt ha.size), (hYb.below ha hYb.1).below hb (Nat.lt_of_lt_of_le hYb.1 ha.size), (hi.below ha hi.lt).below hb (Nat.lt_of_lt_of_le hi.lt ha.size)⟩
                case measure => simp [intOf]
              · go_wp2_with fail
                refine (Read_any one T2 _ (by omega) (by omega)).mono ?_; rintro e wa ⟨rfl, ha⟩
                go_wp2_with fail
                refine (refRead_any one T2 _ (by omega) (by omega)).mono ?_; rintro e wb ⟨rfl, hb⟩
                go_wp2_with fail
                go_roundw
                case rel => exact ⟨4, by omega, by go_num, (hbl.trans (ha.mono (by have := hbl.size; omega))).trans (hb.mono (by have := hbl.size; have := ha.size; omega)), (hh.below ha hh.lt).below hb (Nat.lt_of_lt_of_le hh.lt ha.size), (hYb.below ha hYb.1).below hb (Nat.lt_of_lt_of_le hYb.1 ha.size), (hi.below ha hi.lt).below hb (Nat.lt_of_lt_of_le hi.lt ha.size)⟩
                case measure => simp [intOf]
              · go_wp2_with fail
                refine (Read_any one T3 _ (by omega) (by omega)).mono ?_; rintro e wa ⟨rfl, ha⟩
                go_wp2_with fail
                refine (refRead_any one T3 _ (by omega) (by omega)).mono ?_; rintro e wb ⟨rfl, hb⟩
                go_wp2_with fail
                go_roundw
                case rel => exact ⟨5, by omega, by go_num, (hbl.trans (ha.mono (by have := hbl.size; omega))).trans (hb.mono (by have := hbl.size; have := ha.size; omega)), (hh.below ha hh.lt).below hb (Nat.lt_of_lt_of_le hh.lt ha.size), (hYb.below ha hYb.1).below hb (Nat.lt_of_lt_of_le hYb.1 ha.size), (hi.below ha hi.lt).below hb (Nat.lt_of_lt_of_le hi.lt ha.size)⟩
                case measure => simp [intOf]
              · go_wp2_with fail
                refine (Read_any one [] _ (by omega) (by simp)).mono ?_; rintro e wa ⟨rfl, ha⟩
                go_wp2_with fail
                refine (refRead_any one [] _ (by omega) (by simp)).mono ?_; rintro e wb ⟨rfl, hb⟩
                go_wp2_with fail
                go_roundw
                case rel => exact ⟨6, by omega, by go_num, (hbl.trans (ha.mono (by have := hbl.size; omega))).trans (hb.mono (by have := hbl.size; have := ha.size; omega)), (hh.below ha hh.lt).below hb (Nat.lt_of_lt_of_le hh.lt ha.size), (hYb.below ha hYb.1).below hb (Nat.lt_of_lt_of_le hYb.1 ha.size), (hi.below ha hi.lt).below hb (Nat.lt_of_lt_of_le hi.lt ha.size)⟩
                case measure => simp [intOf]
              · go_wp2_with fail
                go_roundw
                case rel => exact ⟨1, by omega, by go_num, hbl, hh, hYb⟩
                case measure => simp [intOf]
          · rw [show ((1 : Nat) : Int) = 1 from rfl]
            obtain ⟨E, hE⟩ : ∃ E, wr.heap.size = E := ⟨_, rfl⟩
            have hbE := hbl.alloc (by have := hbl.size; omega) (.cells #[Str S, Str Y, Str raw, Str T2, Str T3, Str []] 9)
            have hhE := hh.alloc (.cells #[Str S, Str Y, Str raw, Str T2, Str T3, Str []] 9)
            have hkE := HoldsA.new E wr #[Str S, Str Y, Str raw, Str T2, Str T3, Str []] 9 hE.symm
            have hyE := hYb.below ((Below.refl wr.heap.size wr).alloc (Nat.le_refl _) (.cells #[Str S, Str Y, Str raw, Str T2, Str T3, Str []] 9)) hYb.1
            go_wp2_with fail
            generalize wr.alloc (.cells #[Str S, Str Y, Str raw, Str T2, Str T3, Str []] 9) = wE at *
            go_loopw [81] (fun i wr => ∃ k : Nat, k ≤ 6 ∧ i = .int .i64 k ∧ Below B w wr ∧ HoldsA D #[Str one, Str two, Str raw, Str []] 9 wr ∧ BytesAt C Y wr ∧ HoldsA E #[Str S, Str Y, Str raw, Str T2, Str T3, Str []] 9 wr) (fun i _ => 6 - (intOf i).toNat)
            case atStart => exact ⟨0, by omega, rfl, hbE, hhE, hyE, hkE⟩
            case round =>
              clear hbE hhE hkE hyE hbl hh hYb hE hback s0 s1 s2 s3
              obtain ⟨k, hk, rfl, hbl, hh, hYb, hi⟩ := hrel
              have z0 := hi.cell 0
              have z1 := hi.cell 1
              have z2 := hi.cell 2
              have z3 := hi.cell 3
              have z4 := hi.cell 4
              have z5 := hi.cell 5
              simp at z0 z1 z2 z3 z4 z5
              obtain rfl | rfl | rfl | rfl | rfl | rfl | rfl : k = 0 ∨ k = 1 ∨ k = 2 ∨ k = 3 ∨ k = 4 ∨ k = 5 ∨ k = 6 := by omega
              · go_wp2_with fail
                refine (Read_any two S _ (by omega) (by omega)).mono ?_; rintro e wa ⟨rfl, ha⟩
                go_wp2_with fail
                refine (refRead_any two S _ (by omega) (by omega)).mono ?_; rintro e wb ⟨rfl, hb⟩
                go_wp2_with fail
                go_roundw
                case rel => exact ⟨1, by omega, by go_num, (hbl.trans (ha.mono (by have := hbl.size; omega))).trans (hb.mono (by have := hbl.size; have := ha.size; omega)), (hh.below ha hh.lt).below hb (Nat.lt_of_lt_of_le hh.lt ha.size), (hYb.below ha hYb.1).below hb (Nat.lt_of_lt_of_le hYb.1 ha.size), (hi.below ha hi.lt).below hb (Nat.lt_of_lt_of_le hi.lt ha.size)⟩
                case measure => simp [intOf]
              · go_wp2_with fail
                refine (Read_any two Y _ (by omega) (by omega)).mono ?_; rintro e wa ⟨rfl, ha⟩
                go_wp2_with fail
                refine (refRead_any two Y _ (by omega) (by omega)).mono ?_; rintro e wb ⟨rfl, hb⟩
                go_wp2_with fail
                go_roundw
                case rel => exact ⟨2, by omega, by go_num, (hbl.trans (ha.mono (by have := hbl.size; omega))).trans (hb.mono (by have := hbl.size; have := ha.size; omega)), (hh.below ha hh.lt).below hb (Nat.lt_of_lt_of_le hh.lt ha.size), (hYb.below ha hYb.1).below hb (Nat.lt_of_lt_of_le hYb.1 ha.size), (hi.below ha hi.lt).below hb (Nat.lt_of_lt_of_le hi.lt ha.size)⟩
                case measure => simp [intOf]
              · go_wp2_with fail
                refine (Read_any two raw _ (by omega) (by omega)).mono ?_; rintro e wa ⟨rfl, ha⟩
                go_wp2_with fail
                refine (refRead_any two raw _ (by omega) (by omega)).mono ?_; rintro e wb ⟨rfl, hb⟩
                go_wp2_with fail
                go_roundw
                case rel => exact ⟨3, by omega, by go_num, (hbl.trans (ha.mono (by have := hbl.size; omega))).trans (hb.mono (by have := hbl.size; have := ha.size; omega)), (hh.below ha hh.lt).below hb (Nat.lt_of_lt_of_le hh.lt ha.size), (hYb.below ha hYb.1).below hb (Nat.lt_of_lt_of_le hYb.1 ha.size), (hi.below ha hi.lt).below hb (Nat.lt_of_lt_of_le hi.lt ha.size)⟩
                case measure => simp [intOf]
              · go_wp2_with fail
                refine (Read_any two T2 _ (by omega) (by omega)).mono ?_; rintro e wa ⟨rfl, ha⟩
                go_wp2_with fail
                refine (refRead_any two T2 _ (by omega) (by omega)).mono ?_; rintro e wb ⟨rfl, hb⟩
                go_wp2_with fail
                go_roundw
                case rel => exact ⟨4, by omega, by go_num, (hbl.trans (ha.mono (by have := hbl.size; omega))).trans (hb.mono (by have := hbl.size; have := ha.size; omega)), (hh.below ha hh.lt).below hb (Nat.lt_of_lt_of_le hh.lt ha.size), (hYb.below ha hYb.1).below hb (Nat.lt_of_lt_of_le hYb.1 ha.size), (hi.below ha hi.lt).below hb (Nat.lt_of_lt_of_le hi.lt ha.size)⟩
                case measure => simp [intOf]
              · go_wp2_with fail
                refine (Read_any two T3 _ (by omega) (by omega)).mono ?_; rintro e wa ⟨rfl, ha⟩
                go_wp2_with fail
                refine (refRead_any two T3 _ (by omega) (by omega)).mono ?_; rintro e wb ⟨rfl, hb⟩
                go_wp2_with fail
                go_roundw
                case rel => exact ⟨5, by omega, by go_num, (hbl.trans (ha.mono (by have := hbl.size; omega))).trans (hb.mono (by have := hbl.size; have := ha.size; omega)), (hh.below ha hh.lt).below hb (Nat.lt_of_lt_of_le hh.lt ha.size), (hYb.below ha hYb.1).below hb (Nat.lt_of_lt_of_le hYb.1 ha.size), (hi.below ha hi.lt).below hb (Nat.lt_of_lt_of_le hi.lt ha.size)⟩
                case measure => simp [intOf]
              · go_wp2_with fail
                refine (Read_any two [] _ (by omega) (by simp)).mono ?_; rintro e wa ⟨rfl, ha⟩
                go_wp2_with fail
                refine (refRead_any two [] _ (by omega) (by simp)).mono ?_; rintro e wb ⟨rfl, hb⟩
                go_wp2_with fail
                go_roundw
                case rel => exact ⟨6, by omega, by go_num, (hbl.trans (ha.mono (by have := hbl.size; omega))).trans (hb.mono (by have := hbl.size; have := ha.size; omega)), (hh.below ha hh.lt).below hb (Nat.lt_of_lt_of_le hh.lt ha.size), (hYb.below ha hYb.1).below hb (Nat.lt_of_lt_of_le hYb.1 ha.size), (hi.below ha hi.lt).below hb (Nat.lt_of_lt_of_le hi.lt ha.size)⟩
                case measure => simp [intOf]
              · go_wp2_with fail
                go_roundw
                case rel => exact ⟨2, by omega, by go_num, hbl, hh, hYb⟩
                case measure => simp [intOf]
          · rw [show ((2 : Nat) : Int) = 2 from rfl]
            obtain ⟨E, hE⟩ : ∃ E, wr.heap.size = E := ⟨_, rfl⟩
            have hbE := hbl.alloc (by have := hbl.size; omega) (.cells #[Str S, Str Y, Str raw, Str T2, Str T3, Str []] 9)
            have hhE := hh.alloc (.cells #[Str S, Str Y, Str raw, Str T2, Str T3, Str []] 9)
            have hkE := HoldsA.new E wr #[Str S, Str Y, Str raw, Str T2, Str T3, Str []] 9 hE.symm
            have hyE := hYb.below ((Below.refl wr.heap.size wr).alloc (Nat.le_refl _) (.cells #[Str S, Str Y, Str raw, Str T2, Str T3, Str []] 9)) hYb.1
            go_wp2_with fail
            generalize wr.alloc (.cells #[Str S, Str Y, Str raw, Str T2, Str T3, Str []] 9) = wE at *
            go_loopw [81] (fun i wr => ∃ k : Nat, k ≤ 6 ∧ i = .int .i64 k ∧ Below B w wr ∧ HoldsA D #[Str one, Str two, Str raw, Str []] 9 wr ∧ BytesAt C Y wr ∧ HoldsA E #[Str S, Str Y, Str raw, Str T2, Str T3, Str []] 9 wr) (fun i _ => 6 - (intOf i).toNat)
            case atStart => exact ⟨0, by omega, rfl, hbE, hhE, hyE, hkE⟩
            case round =>
              clear hbE hhE hkE hyE hbl hh hYb hE hback s0 s1 s2 s3
              obtain ⟨k, hk, rfl, hbl, hh, hYb, hi⟩ := hrel
              have z0 := hi.cell 0
              have z1 := hi.cell 1
              have z2 := hi.cell 2
              have z3 := hi.cell 3
              have z4 := hi.cell 4
              have z5 := hi.cell 5
              simp at z0 z1 z2 z3 z4 z5
              obtain rfl | rfl | rfl | rfl | rfl | rfl | rfl : k = 0 ∨ k = 1 ∨ k = 2 ∨ k = 3 ∨ k = 4 ∨ k = 5 ∨ k = 6 := by omega
              · go_wp2_with fail
                refine (Read_any raw S _ (by omega) (by omega)).mono ?_; rintro e wa ⟨rfl, ha⟩
                go_wp2_with fail
                refine (refRead_any raw S _ (by omega) (by omega)).mono ?_; rintro e wb ⟨rfl, hb⟩
                go_wp2_with fail
                go_roundw
                case rel => exact ⟨1, by omega, by go_num, (hbl.trans (ha.mono (by have := hbl.size; omega))).trans (hb.mono (by have := hbl.size; have := ha.size; omega)), (hh.below ha hh.lt).below hb (Nat.lt_of_lt_of_le hh.lt ha.size), (hYb.below ha hYb.1).below hb (Nat.lt_of_lt_of_le hYb.1 ha.size), (hi.below ha hi.lt).below hb (Nat.lt_of_lt_of_le hi.lt ha.size)⟩
                case measure => simp [intOf]
              · go_wp2_with fail
                refine (Read_any raw Y _ (by omega) (by omega)).mono ?_; rintro e wa ⟨rfl, ha⟩
                go_wp2_with fail
                refine (refRead_any raw Y _ (by omega) (by omega)).mono ?_; rintro e wb ⟨rfl, hb⟩
                go_wp2_with fail
                go_roundw
                case rel => exact ⟨2, by omega, by go_num, (hbl.trans (ha.mono (by have := hbl.size; omega))).trans (hb.mono (by have := hbl.size; have := ha.size; omega)), (hh.below ha hh.lt).below hb (Nat.lt_of_lt_of_le hh.lt ha.size), (hYb.below ha hYb.1).below hb (Nat.lt_of_lt_of_le hYb.1 ha.size), (hi.below ha hi.lt).below hb (Nat.lt_of_lt_of_le hi.lt ha.size)⟩
                case measure => simp [intOf]
              · go_wp2_with fail
                refine (Read_any raw raw _ (by omega) (by omega)).mono ?_; rintro e wa ⟨rfl, ha⟩
                go_wp2_with fail
                refine (refRead_any raw raw _ (by omega) (by omega)).mono ?_; rintro e wb ⟨rfl, hb⟩
                go_wp2_with fail
                go_roundw
                case rel => exact ⟨3, by omega, by go_num, (hbl.trans (ha.mono (by have := hbl.size; omega))).trans (hb.mono (by have := hbl.size; have := ha.size; omega)), (hh.below ha hh.lt).below hb (Nat.lt_of_lt_of_le hh.lt ha.size), (hYb.below ha hYb.1).below hb (Nat.lt_of_lt_of_le hYb.1 ha.size), (hi.below ha hi.lt).below hb (Nat.lt_of_lt_of_le hi.lt ha.size)⟩
                case measure => simp [intOf]
              · go_wp2_with fail
                refine (Read_any raw T2 _ (by omega) (by omega)).mono ?_; rintro e wa ⟨rfl, ha⟩
                go_wp2_with fail
                refine (refRead_any raw T2 _ (by omega) (by omega)).mono ?_; rintro e wb ⟨rfl, hb⟩
                go_wp2_with fail
                go_roundw
                case rel => exact ⟨4, by omega, by go_num, (hbl.trans (ha.mono (by have := hbl.size; omega))).trans (hb.mono (by have := hbl.size; have := ha.size; omega)), (hh.below ha hh.lt).below hb (Nat.lt_of_lt_of_le hh.lt ha.size), (hYb.below ha hYb.1).below hb (Nat.lt_of_lt_of_le hYb.1 ha.size), (hi.below ha hi.lt).below hb (Nat.lt_of_lt_of_le hi.lt ha.size)⟩
                case measure => simp [intOf]
              · go_wp2_with fail
                refine (Read_any raw T3 _ (by omega) (by omega)).mono ?_; rintro e wa ⟨rfl, ha⟩
                go_wp2_with fail
                refine (refRead_any raw T3 _ (by omega) (by omega)).mono ?_; rintro e wb ⟨rfl, hb⟩
                go_wp2_with fail
                go_roundw
                case rel => exact ⟨5, by omega, by go_num, (hbl.trans (ha.mono (by have := hbl.size; omega))).trans (hb.mono (by have := hbl.size; have := ha.size; omega)), (hh.below ha hh.lt).below hb (Nat.lt_of_lt_of_le hh.lt ha.size), (hYb.below ha hYb.1).below hb (Nat.lt_of_lt_of_le hYb.1 ha.size), (hi.below ha hi.lt).below hb (Nat.lt_of_lt_of_le hi.lt ha.size)⟩
                case measure => simp [intOf]
              · go_wp2_with fail
                refine (Read_any raw [] _ (by omega) (by simp)).mono ?_; rintro e wa ⟨rfl, ha⟩
                go_wp2_with fail
                refine (refRead_any raw [] _ (by omega) (by simp)).mono ?_; rintro e wb ⟨rfl, hb⟩
                go_wp2_with fail
                go_roundw
                case rel => exact ⟨6, by omega, by go_num, (hbl.trans (ha.mono (by have := hbl.size; omega))).trans (hb.mono (by have := hbl.size; have := ha.size; omega)), (hh.below ha hh.lt).below hb (Nat.lt_of_lt_of_le hh.lt ha.size), (hYb.below ha hYb.1).below hb (Nat.lt_of_lt_of_le hYb.1 ha.size), (hi.below ha hi.lt).below hb (Nat.lt_of_lt_of_le hi.lt ha.size)⟩
                case measure => simp [intOf]
              · go_wp2_with fail
                go_roundw
                case rel => exact ⟨3, by omega, by go_num, hbl, hh, hYb⟩
                case measure => simp [intOf]
          · rw [show ((3 : Nat) : Int) = 3 from rfl]
            obtain ⟨E, hE⟩ : ∃ E, wr.heap.size = E := ⟨_, rfl⟩
            have hbE := hbl.alloc (by have := hbl.size; omega) (.cells #[Str S, Str Y, Str raw, Str T2, Str T3, Str []] 9)
            have hhE := hh.alloc (.cells #[Str S, Str Y, Str raw, Str T2, Str T3, Str []] 9)
            have hkE := HoldsA.new E wr #[Str S, Str Y, Str raw, Str T2, Str T3, Str []] 9 hE.symm
            have hyE := hYb.below ((Below.refl wr.heap.size wr).alloc (Nat.le_refl _) (.cells #[Str S, Str Y, Str raw, Str T2, Str T3, Str []] 9)) hYb.1
            go_wp2_with fail
            generalize wr.alloc (.cells #[Str S, Str Y, Str raw, Str T2, Str T3, Str []] 9) = wE at *
            go_loopw [81] (fun i wr => ∃ k : Nat, k ≤ 6 ∧ i = .int .i64 k ∧ Below B w wr ∧ HoldsA D #[Str one, Str two, Str raw, Str []] 9 wr ∧ BytesAt C Y wr ∧ HoldsA E #[Str S, Str Y, Str raw, Str T2, Str T3, Str []] 9 wr) (fun i _ => 6 - (intOf i).toNat)
            case atStart => exact ⟨0, by omega, rfl, hbE, hhE, hyE, hkE⟩
            case round =>
              clear hbE hhE hkE hyE hbl hh hYb hE hback s0 s1 s2 s3
              obtain ⟨k, hk, rfl, hbl, hh, hYb, hi⟩ := hrel
              have z0 := hi.cell 0
              have z1 := hi.cell 1
              have z2 := hi.cell 2
              have z3 := hi.cell 3
              have z4 := hi.cell 4
              have z5 := hi.cell 5
              simp at z0 z1 z2 z3 z4 z5
              obtain rfl | rfl | rfl | rfl | rfl | rfl | rfl : k = 0 ∨ k = 1 ∨ k = 2 ∨ k = 3 ∨ k = 4 ∨ k = 5 ∨ k = 6 := by omega
              · go_wp2_with fail
                refine (Read_any [] S _ (by simp) (by omega)).mono ?_; rintro e wa ⟨rfl, ha⟩
                go_wp2_with fail
                refine (refRead_any [] S _ (by simp) (by omega)).mono ?_; rintro e wb ⟨rfl, hb⟩
                go_wp2_with fail
                go_roundw
                case rel => exact ⟨1, by omega, by go_num, (hbl.trans (ha.mono (by have := hbl.size; omega))).trans (hb.mono (by have := hbl.size; have := ha.size; omega)), (hh.below ha hh.lt).below hb (Nat.lt_of_lt_of_le hh.lt ha.size), (hYb.below ha hYb.1).below hb (Nat.lt_of_lt_of_le hYb.1 ha.size), (hi.below ha hi.lt).below hb (Nat.lt_of_lt_of_le hi.lt ha.size)⟩
                case measure => simp [intOf]
              · go_wp2_with fail
                refine (Read_any [] Y _ (by simp) (by omega)).mono ?_; rintro e wa ⟨rfl, ha⟩
                go_wp2_with fail
                refine (refRead_any [] Y _ (by simp) (by omega)).mono ?_; rintro e wb ⟨rfl, hb⟩
                go_wp2_with fail
                go_roundw
                case rel => exact ⟨2, by omega, by go_num, (hbl.trans (ha.mono (by have := hbl.size; omega))).trans (hb.mono (by have := hbl.size; have := ha.size; omega)), (hh.below ha hh.lt).below hb (Nat.lt_of_lt_of_le hh.lt ha.size), (hYb.below ha hYb.1).below hb (Nat.lt_of_lt_of_le hYb.1 ha.size), (hi.below ha hi.lt).below hb (Nat.lt_of_lt_of_le hi.lt ha.size)⟩
                case measure => simp [intOf]
              · go_wp2_with fail
                refine (Read_any [] raw _ (by simp) (by omega)).mono ?_; rintro e wa ⟨rfl, ha⟩
                go_wp2_with fail
                refine (refRead_any [] raw _ (by simp) (by omega)).mono ?_; rintro e wb ⟨rfl, hb⟩
                go_wp2_with fail
                go_roundw
                case rel => exact ⟨3, by omega, by go_num, (hbl.trans (ha.mono (by have := hbl.size; omega))).trans (hb.mono (by have := hbl.size; have := ha.size; omega)), (hh.below ha hh.lt).below hb (Nat.lt_of_lt_of_le hh.lt ha.size), (hYb.below ha hYb.1).below hb (Nat.lt_of_lt_of_le hYb.1 ha.size), (hi.below ha hi.lt).below hb (Nat.lt_of_lt_of_le hi.lt ha.size)⟩
                case measure => simp [intOf]
              · go_wp2_with fail
                refine (Read_any [] T2 _ (by simp) (by omega)).mono ?_; rintro e wa ⟨rfl, ha⟩
                go_wp2_with fail
                refine (refRead_any [] T2 _ (by simp) (by omega)).mono ?_; rintro e wb ⟨rfl, hb⟩
                go_wp2_with fail
                go_roundw
                case rel => exact ⟨4, by omega, by go_num, (hbl.trans (ha.mono (by have := hbl.size; omega))).trans (hb.mono (by have := hbl.size; have := ha.size; omega)), (hh.below ha hh.lt).below hb (Nat.lt_of_lt_of_le hh.lt ha.size), (hYb.below ha hYb.1).below hb (Nat.lt_of_lt_of_le hYb.1 ha.size), (hi.below ha hi.lt).below hb (Nat.lt_of_lt_of_le hi.lt ha.size)⟩
                case measure => simp [intOf]
              · go_wp2_with fail
                refine (Read_any [] T3 _ (by simp) (by omega)).mono ?_; rintro e wa ⟨rfl, ha⟩
                go_wp2_with fail
                refine (refRead_any [] T3 _ (by simp) (by omega)).mono ?_; rintro e wb ⟨rfl, hb⟩
                go_wp2_with fail
                go_roundw
                case rel => exact ⟨5, by omega, by go_num, (hbl.trans (ha.mono (by have := hbl.size; omega))).trans (hb.mono (by have := hbl.size; have := ha.size; omega)), (hh.below ha hh.lt).below hb (Nat.lt_of_lt_of_le hh.lt ha.size), (hYb.below ha hYb.1).below hb (Nat.lt_of_lt_of_le hYb.1 ha.size), (hi.below ha hi.lt).below hb (Nat.lt_of_lt_of_le hi.lt ha.size)⟩
                case measure => simp [intOf]
              · go_wp2_with fail
                refine (Read_any [] [] _ (by simp) (by simp)).mono ?_; rintro e wa ⟨rfl, ha⟩
                go_wp2_with fail
                refine (refRead_any [] [] _ (by simp) (by simp)).mono ?_; rintro e wb ⟨rfl, hb⟩
                go_wp2_with fail
                go_roundw
                case rel => exact ⟨6, by omega, by go_num, (hbl.trans (ha.mono (by have := hbl.size; omega))).trans (hb.mono (by have := hbl.size; have := ha.size; omega)), (hh.below ha hh.lt).below hb (Nat.lt_of_lt_of_le hh.lt ha.size), (hYb.below ha hYb.1).below hb (Nat.lt_of_lt_of_le hYb.1 ha.size), (hi.below ha hi.lt).below hb (Nat.lt_of_lt_of_le hi.lt ha.size)⟩
                case measure => simp [intOf]
              · go_wp2_with fail
                go_roundw
                case rel => exact ⟨4, by omega, by go_num, hbl, hh, hYb⟩
                case measure => simp [intOf]
          · go_wp2_with fail
            go_ret
            exact ⟨rfl, by rw [hB]; exact hbl⟩
end Go.Proofs.Ytbfiflinonnmcaa
