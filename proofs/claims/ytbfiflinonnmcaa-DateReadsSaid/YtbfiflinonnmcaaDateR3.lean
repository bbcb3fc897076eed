/- A walk over the reference's Right: the walk itself. -/
import Derived.Test.YtbfiflinonnmcaaDateR2
namespace Go.Proofs.Ytbfiflinonnmcaa
open Go.RowKit
attribute [local go_sem] Oper.semAt_some

set_option maxHeartbeats 4000000 in
set_option maxRecDepth 20000 in
theorem refRight_any' (lay : List UInt8) (w : World) (hm : lay.length ≤ 9223372036854775807) :
    Calls Try.prog 45 #[Str lay] w fun e w' => e = .returned (.bool (rightB lay)) ∧ Below w.heap.size w w' := by
  have hss : (⟨lay.toArray⟩ : ByteArray).size = lay.length := by simp [ByteArray.size]
  by_cases h40 : lay.length ≤ 40
  · go_enter Try.func45, Try.ntmps45
    go_wp2_with fail
    go_loop [3] (fun i => ∃ k : Nat, k ≤ lay.length ∧ i = .int .i64 k ∧ ∀ j, j < k → ∀ h, okByte (lay[j]'h) = true) (fun i => lay.length - (intOf i).toNat)
    case atStart => exact ⟨0, by omega, rfl, fun j hj => absurd hj (by omega)⟩
    case round =>
      obtain ⟨k, hkl, rfl, hok⟩ := hrel
      by_cases h1 : k < lay.length
      · obtain ⟨x, hx⟩ : ∃ x : UInt8, lay[k] = x := ⟨_, rfl⟩
        have hidx : ∀ (h : k < (⟨lay.toArray⟩ : ByteArray).size), (⟨lay.toArray⟩ : ByteArray)[k]'h = x := fun h => hx
        have hx8 : x.toNat < 256 := UInt8.toNat_lt x
        have Hmem : Hid (x ∈ lay) := Lib.hid (by rw [← hx]; exact List.getElem_mem _)
        have Hx := Lib.hid hx
        have Hok := Lib.hid hok
        clear hx hok
        by_cases g1 : (x.toNat : Int) < 32
        · have hr : rightB lay = false := right_bad_byte Hmem.out (by unfold okByte; simp; omega)
          have HR := Lib.hid hr
          clear hr
          go_wp2_with fail
          go_ret
          exact ⟨by rw [HR.out]; rfl, Below.refl _ _⟩
        · by_cases g2 : (126 : Int) < x.toNat
          · have hr : rightB lay = false := right_bad_byte Hmem.out (by unfold okByte; simp; omega)
            have HR := Lib.hid hr
            clear hr
            go_wp2_with fail
            go_ret
            exact ⟨by rw [HR.out]; rfl, Below.refl _ _⟩
          · by_cases g3 : (48 : Int) ≤ x.toNat
            · by_cases g4 : (x.toNat : Int) ≤ 57
              · have hr : rightB lay = false := right_bad_byte Hmem.out (by unfold okByte; simp; omega)
                have HR := Lib.hid hr
                clear hr
                go_wp2_with fail
                go_ret
                exact ⟨by rw [HR.out]; rfl, Below.refl _ _⟩
              · have Hg : Hid (okByte x = true) := Lib.hid (by unfold okByte; simp; omega)
                go_wp2_with fail
                go_round
                case rel => exact ⟨k + 1, by omega, by go_num, fun j hj h => by
                  by_cases e : j = k
                  · subst e; rw [Hx.out]; exact Hg.out
                  · exact Hok.out j (by omega) h⟩
                case measure => simp [intOf]; omega
            · have Hg : Hid (okByte x = true) := Lib.hid (by unfold okByte; simp; omega)
              go_wp2_with fail
              go_round
              case rel => exact ⟨k + 1, by omega, by go_num, fun j hj h => by
                by_cases e : j = k
                · subst e; rw [Hx.out]; exact Hg.out
                · exact Hok.out j (by omega) h⟩
              case measure => simp [intOf]; omega
      · obtain rfl : k = lay.length := by omega
        have hall : ∀ b ∈ lay, okByte b = true := fun b hb => by
          obtain ⟨j, hj, rfl⟩ := List.getElem_of_mem hb
          exact hok j hj hj
        have Hall := Lib.hid hall
        clear hok hall h1
        have HP := Lib.hid (Parts_any lay w h40)
        have Hr := Lib.hid (right_scan h40 Hall.out)
        have hl40 := segs_len40 h40
        go_wp2_with fail
        refine HP.out.mono ?_; rintro e w1 ⟨v, rfl, hown, hb1⟩; clear HP
        by_cases hne : segs lay = []
        · have hr : rightB lay = false := by rw [Hr.out, hne]; rfl
          obtain ⟨_, h | ⟨g, cap, cur, h1, h2, h3, h4, _⟩⟩ := hown
          · obtain ⟨rfl, _⟩ := h
            have HR := Lib.hid hr
            clear hr
            have hbn := hb1.alloc hb1.size (.cells #[.int .i64 0, .int .i64 0, .int .i64 0] 22)
            have k5 := HoldsA.new w1.heap.size w1 #[.int .i64 0, .int .i64 0, .int .i64 0] 22 rfl
            have c0 := k5.cell 0
            simp at c0
            go_wp2_with fail
            go_loopw [7] (fun i wr => i = .int .i64 0 ∧ wr = w1.alloc (.cells #[.int .i64 0, .int .i64 0, .int .i64 0] 22)) (fun _ _ => 0)
            case atStart => exact ⟨rfl, rfl⟩
            case round =>
              obtain ⟨rfl, rfl⟩ := hrel
              go_wp2_with fail
              go_ret
              exact ⟨by rw [HR.out]; rfl, hbn⟩
          · subst h1
            have HR := Lib.hid hr
            clear hr
            have hlz : (segs lay).length = 0 := by rw [hne]; rfl
            have hbn := hb1.alloc hb1.size (.cells #[.int .i64 0, .int .i64 0, .int .i64 0] 22)
            have k5 := HoldsA.new w1.heap.size w1 #[.int .i64 0, .int .i64 0, .int .i64 0] 22 rfl
            have c0 := k5.cell 0
            simp at c0
            rw [hlz]
            go_wp2_with fail
            go_loopw [7] (fun i wr => i = .int .i64 0 ∧ wr = w1.alloc (.cells #[.int .i64 0, .int .i64 0, .int .i64 0] 22)) (fun _ _ => 0)
            case atStart => exact ⟨rfl, rfl⟩
            case round =>
              obtain ⟨rfl, rfl⟩ := hrel
              go_wp2_with fail
              go_ret
              exact ⟨by rw [HR.out]; rfl, hbn⟩
        · obtain ⟨g, cap, rfl, hg1, hg2⟩ := own_form hown hne
          obtain ⟨m, hmz⟩ : ∃ m, w1.heap.size = m := ⟨_, rfl⟩
          have k5 := HoldsA.new m w1 #[.int .i64 0, .int .i64 0, .int .i64 0] 22 hmz.symm
          have hbn := hb1.alloc hb1.size (.cells #[.int .i64 0, .int .i64 0, .int .i64 0] 22)
          have hown := hown.alloc (.cells #[.int .i64 0, .int .i64 0, .int .i64 0] 22)
          have hwm : w.heap.size ≤ m := by rw [← hmz]; exact hb1.size
          have hgm : g ≠ m := by omega
          have hmg : m ≠ g := by omega
          have HL : Hid (∃ n, (segs lay).length = n) := Lib.hid ⟨_, rfl⟩
          go_wp2_with fail
          try rw [hmz]
          generalize w1.alloc (.cells #[.int .i64 0, .int .i64 0, .int .i64 0] 22) = w2 at *
          obtain ⟨n, hn⟩ := HL.out
          rw [hn]
          go_loopw [6, 7] (fun o i wr => ∃ (k : Nat) (s : Sc), k ≤ n ∧ i = .int .i64 k ∧ o = .bool s.o ∧ scan ((segs lay).take k) = some s ∧ (0 ≤ s.a ∧ s.a ≤ k ∧ 0 ≤ s.b ∧ s.b ≤ k ∧ 0 ≤ s.c ∧ s.c ≤ k) ∧
            HoldsA m #[.int .i64 s.a, .int .i64 s.b, .int .i64 s.c] 22 wr ∧ OwnsStr w.heap.size (.slice (some ⟨g, 0, none⟩) (segs lay).length cap) (segs lay) wr ∧ Below w.heap.size w wr) (fun _ i _ => n - (intOf i).toNat)
          case atStart => exact ⟨0, ⟨0, 0, 0, false⟩, by omega, rfl, rfl, rfl, by simp, k5, hown, hbn⟩
          case round =>
            clear k5 hown hbn hb1 hss
            obtain ⟨k, s, hkn, rfl, rfl, hsc, hbd, hh, hown, hbl⟩ := hrel
            obtain ⟨b1, b2, b3, b4, b5, b6⟩ := hbd
            have c0 := hh.cell 0
            have c1 := hh.cell 1
            have c2 := hh.cell 2
            have f0 := hh.free 0
            have f1 := hh.free 1
            have f2 := hh.free 2
            simp at c0 c1 c2
            have Hsc := Lib.hid hsc
            clear hsc
            by_cases hk : k < n
            · have hk' : k < (segs lay).length := by omega
              obtain ⟨f, hf⟩ : ∃ f, (segs lay)[k] = f := ⟨_, rfl⟩
              have hgc := own_cell hown k hk'
              rw [hf] at hgc
              have hcl := segs_class lay.length lay (Nat.le_refl _) f (by rw [← hf]; exact List.getElem_mem _)
              have Hf := Lib.hid hf
              clear hf
              obtain ⟨sa, sb, sc, so⟩ := s
              simp only at b1 b2 b3 b4 b5 b6 c0 c1 c2 ⊢
              have Hset : Hid (∀ (j : Nat) (u : Value) (a' b' c' : Int), (#[.int .i64 sa, .int .i64 sb, .int .i64 sc] : Array Value).setIfInBounds j u = #[.int .i64 a', .int .i64 b', .int .i64 c'] → HoldsA m #[.int .i64 a', .int .i64 b', .int .i64 c'] 22 (wr.setCell ⟨m, j, none⟩ u) ∧ OwnsStr w.heap.size (.slice (some ⟨g, 0, none⟩) (segs lay).length cap) (segs lay) (wr.setCell ⟨m, j, none⟩ u) ∧ Below w.heap.size w (wr.setCell ⟨m, j, none⟩ u)) :=
                Lib.hid (fun j u a' b' c' he => ⟨by have := hh.set j u; rw [he] at this; exact this, ownsRow_setCell_other hown (by simp [Value.ownBlock]; omega) _, hbl.setCell (p := ⟨m, j, none⟩) hwm _⟩)
              have Hkeep : Hid (HoldsA m #[.int .i64 sa, .int .i64 sb, .int .i64 sc] 22 wr ∧ OwnsStr w.heap.size (.slice (some ⟨g, 0, none⟩) (segs lay).length cap) (segs lay) wr) := Lib.hid ⟨hh, hown⟩
              clear hh hown
              rcases hcl with rfl | rfl | rfl | ⟨x, hx, rfl⟩
              · unfold fY at hgc
                cases so
                · have Hs' := Lib.hid (scan_good hk' Hf.out Hsc.out (by rfl))
                  go_wp2_with fail
                  go_roundw
                  case rel =>
                    obtain ⟨z1, z2, z3⟩ := Hset.out 0 (.int .i64 (sa + 1)) (sa + 1) (sb) (sc) (by simp)
                    exact ⟨k + 1, ⟨sa + 1, sb, sc, false⟩, by omega, by go_num, rfl, Hs'.out, ⟨by dsimp only; omega, by dsimp only; omega, by dsimp only; omega, by dsimp only; omega, by dsimp only; omega, by dsimp only; omega⟩, z1, z2, z3⟩
                  case measure => simp [intOf]; omega
                · have hr : rightB lay = false := right_none (scan_fail hk' Hf.out Hsc.out (by rfl))
                  have HR := Lib.hid hr
                  clear hr
                  go_wp2_with fail
                  go_ret
                  exact ⟨by rw [HR.out]; rfl, (Hset.out 0 (.int .i64 (sa + 1)) (sa + 1) (sb) (sc) (by simp)).2.2⟩
              · unfold fM at hgc
                cases so
                · have Hs' := Lib.hid (scan_good hk' Hf.out Hsc.out (by rfl))
                  go_wp2_with fail
                  go_roundw
                  case rel =>
                    obtain ⟨z1, z2, z3⟩ := Hset.out 1 (.int .i64 (sb + 1)) (sa) (sb + 1) (sc) (by simp)
                    exact ⟨k + 1, ⟨sa, sb + 1, sc, false⟩, by omega, by go_num, rfl, Hs'.out, ⟨by dsimp only; omega, by dsimp only; omega, by dsimp only; omega, by dsimp only; omega, by dsimp only; omega, by dsimp only; omega⟩, z1, z2, z3⟩
                  case measure => simp [intOf]; omega
                · have hr : rightB lay = false := right_none (scan_fail hk' Hf.out Hsc.out (by rfl))
                  have HR := Lib.hid hr
                  clear hr
                  go_wp2_with fail
                  go_ret
                  exact ⟨by rw [HR.out]; rfl, (Hset.out 1 (.int .i64 (sb + 1)) (sa) (sb + 1) (sc) (by simp)).2.2⟩
              · unfold fD at hgc
                cases so
                · have Hs' := Lib.hid (scan_good hk' Hf.out Hsc.out (by rfl))
                  go_wp2_with fail
                  go_roundw
                  case rel =>
                    obtain ⟨z1, z2, z3⟩ := Hset.out 2 (.int .i64 (sc + 1)) (sa) (sb) (sc + 1) (by simp)
                    exact ⟨k + 1, ⟨sa, sb, sc + 1, false⟩, by omega, by go_num, rfl, Hs'.out, ⟨by dsimp only; omega, by dsimp only; omega, by dsimp only; omega, by dsimp only; omega, by dsimp only; omega, by dsimp only; omega⟩, z1, z2, z3⟩
                  case measure => simp [intOf]; omega
                · have hr : rightB lay = false := right_none (scan_fail hk' Hf.out Hsc.out (by rfl))
                  have HR := Lib.hid hr
                  clear hr
                  go_wp2_with fail
                  go_ret
                  exact ⟨by rw [HR.out]; rfl, (Hset.out 2 (.int .i64 (sc + 1)) (sa) (sb) (sc + 1) (by simp)).2.2⟩
              · obtain ⟨g1, g2⟩ := ok_range (Hall.out x hx)
                rcases Bool.eq_false_or_eq_true (x == 89) with hy | hy
                · obtain rfl : x = 89 := by simpa using hy
                  have hr : rightB lay = false := right_none (scan_fail hk' Hf.out Hsc.out (by rfl))
                  have HR := Lib.hid hr
                  clear hr
                  go_wp2_with fail
                  go_ret
                  exact ⟨by rw [HR.out]; rfl, hbl⟩
                · rcases Bool.eq_false_or_eq_true (x == 77) with hM | hM
                  · obtain rfl : x = 77 := by simpa using hM
                    cases so
                    · have Hs' := Lib.hid (scan_good hk' Hf.out Hsc.out (by rfl))
                      go_wp2_with fail
                      go_roundw
                      case rel =>
                        obtain ⟨z1, z2, z3⟩ := Hset.out 1 (.int .i64 (sb + 1)) (sa) (sb + 1) (sc) (by simp)
                        exact ⟨k + 1, ⟨sa, sb + 1, sc, true⟩, by omega, by go_num, rfl, Hs'.out, ⟨by dsimp only; omega, by dsimp only; omega, by dsimp only; omega, by dsimp only; omega, by dsimp only; omega, by dsimp only; omega⟩, z1, z2, z3⟩
                      case measure => simp [intOf]; omega
                    · have hr : rightB lay = false := right_none (scan_fail hk' Hf.out Hsc.out (by rfl))
                      have HR := Lib.hid hr
                      clear hr
                      go_wp2_with fail
                      go_ret
                      exact ⟨by rw [HR.out]; rfl, (Hset.out 1 (.int .i64 (sb + 1)) (sa) (sb + 1) (sc) (by simp)).2.2⟩
                  · rcases Bool.eq_false_or_eq_true (x == 68) with hD | hD
                    · obtain rfl : x = 68 := by simpa using hD
                      cases so
                      · have Hs' := Lib.hid (scan_good hk' Hf.out Hsc.out (by rfl))
                        go_wp2_with fail
                        go_roundw
                        case rel =>
                          obtain ⟨z1, z2, z3⟩ := Hset.out 2 (.int .i64 (sc + 1)) (sa) (sb) (sc + 1) (by simp)
                          exact ⟨k + 1, ⟨sa, sb, sc + 1, true⟩, by omega, by go_num, rfl, Hs'.out, ⟨by dsimp only; omega, by dsimp only; omega, by dsimp only; omega, by dsimp only; omega, by dsimp only; omega, by dsimp only; omega⟩, z1, z2, z3⟩
                        case measure => simp [intOf]; omega
                      · have hr : rightB lay = false := right_none (scan_fail hk' Hf.out Hsc.out (by rfl))
                        have HR := Lib.hid hr
                        clear hr
                        go_wp2_with fail
                        go_ret
                        exact ⟨by rw [HR.out]; rfl, (Hset.out 2 (.int .i64 (sc + 1)) (sa) (sb) (sc + 1) (by simp)).2.2⟩
                    · have hyn := ymd_none hy hM hD
                      have hsb : scBad ⟨sa, sb, sc, so⟩ [x] = false := by unfold scBad; simp only [List.headD_cons, hyn, g1, g2]; simp; simpa using hy
                      have hsn : scNext ⟨sa, sb, sc, so⟩ [x] = ⟨sa, sb, sc, false⟩ := by unfold scNext oneLetter; simp only [List.headD_cons, hyn]; simp at hM hD; simp [hM, hD]
                      have hs' := scan_good hk' Hf.out Hsc.out hsb
                      rw [hsn] at hs'
                      have Hs' := Lib.hid hs'
                      clear hs' hsn hsb hyn
                      cases so
                      · go_wp2_with fail
                        go_roundw
                        case rel => exact ⟨k + 1, ⟨sa, sb, sc, false⟩, by omega, by go_num, rfl, Hs'.out, ⟨b1, by dsimp only; omega, b3, by dsimp only; omega, b5, by dsimp only; omega⟩, Hkeep.out.1, Hkeep.out.2, hbl⟩
                        case measure => simp [intOf]; omega
                      · go_wp2_with fail
                        go_roundw
                        case rel => exact ⟨k + 1, ⟨sa, sb, sc, false⟩, by omega, by go_num, rfl, Hs'.out, ⟨b1, by dsimp only; omega, b3, by dsimp only; omega, b5, by dsimp only; omega⟩, Hkeep.out.1, Hkeep.out.2, hbl⟩
                        case measure => simp [intOf]; omega
            · obtain rfl : k = n := by omega
              have hr := Hr.out
              rw [← List.take_length (l := segs lay), hn, Hsc.out] at hr
              obtain ⟨sa, sb, sc, so⟩ := s
              simp only at hr c0 c1 c2 ⊢
              rcases Bool.eq_false_or_eq_true (sa == 1) with e1 | e1
              · rcases Bool.eq_false_or_eq_true (sb == 1) with e2 | e2
                · rw [e1, e2] at hr
                  simp only [Bool.true_and] at hr
                  have HR := Lib.hid hr
                  clear hr
                  go_wp2_with fail
                  go_ret
                  exact ⟨by rw [HR.out]; rfl, hbl⟩
                · rw [e1, e2] at hr
                  simp only [Bool.true_and, Bool.false_and] at hr
                  have HR := Lib.hid hr
                  clear hr
                  go_wp2_with fail
                  go_ret
                  exact ⟨by rw [HR.out]; rfl, hbl⟩
              · rw [e1] at hr
                simp only [Bool.false_and] at hr
                have HR := Lib.hid hr
                clear hr
                go_wp2_with fail
                go_ret
                exact ⟨by rw [HR.out]; rfl, hbl⟩
  · have hr : rightB lay = false := by simp [rightB, h40]
    rw [hr]
    clear hr
    go_enter Try.func45, Try.ntmps45
    go_wp2_with fail
    go_ret
    exact ⟨rfl, Below.refl _ _⟩
end Go.Proofs.Ytbfiflinonnmcaa
