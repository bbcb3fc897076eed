/- Walks over the reference's Parts and Right. -/
import Derived.Test.YtbfiflinonnmcaaDateS9
import Derived.Maps.AppendAt
namespace Go.Proofs.Ytbfiflinonnmcaa
open Go.RowKit

theorem Try.infoStr : (Try.prog.info? 9).map (fun i => (i.zero, i.size, i.bytes)) = some (some (.string ⟨#[]⟩), 1, 16) := by kernel_rfl
theorem ext_mid (l : List UInt8) (k m : Nat) : (⟨l.toArray⟩ : ByteArray).extract k (k + m) = ⟨((l.drop k).take m).toArray⟩ := by
  apply ByteArray.ext
  apply Array.toList_inj.1
  rw [Lib.extract_data]; simp
theorem pre_take (p l : List UInt8) : p <+: l ↔ l.take p.length = p := by
  constructor
  · rintro ⟨t, rfl⟩; simp
  · intro h; exact ⟨l.drop p.length, by
      have e : l.take p.length ++ l.drop p.length = l := List.take_append_drop _ _
      rwa [h] at e⟩
theorem segLen_a {l : List UInt8} (h : (l.take 4 == [89, 89, 89, 89]) = true) : segLen l = 4 := by
  have : fY <+: l := (pre_take fY l).2 (by simpa [fY] using h)
  unfold segLen; rw [if_pos this]
theorem segLen_b {l : List UInt8} (h : (l.take 2 == [77, 77]) = true) : segLen l = 2 := by
  have h1 : fM <+: l := (pre_take fM l).2 (by simpa [fM] using h)
  have h2 : ¬ fY <+: l := pre_head h1 (by decide)
  unfold segLen; rw [if_neg h2, if_pos h1]
theorem segLen_c {l : List UInt8} (h : (l.take 2 == [68, 68]) = true) : segLen l = 2 := by
  have h1 : fD <+: l := (pre_take fD l).2 (by simpa [fD] using h)
  have h2 : ¬ fY <+: l := pre_head h1 (by decide)
  have h3 : ¬ fM <+: l := pre_head h1 (by decide)
  unfold segLen; rw [if_neg h2, if_neg h3, if_pos h1]
theorem segLen_d {l : List UInt8} (h1 : l.length < 4 ∨ (l.take 4 == [89, 89, 89, 89]) = false) (h2 : l.length < 2 ∨ ((l.take 2 == [77, 77]) = false ∧ (l.take 2 == [68, 68]) = false)) : segLen l = 1 := by
  have a1 : ¬ fY <+: l := fun h => by
    rcases h1 with h1 | h1
    · have := h.length_le; simp [fY] at this; omega
    · have := (pre_take fY l).1 h
      simp [fY] at this; simp [this] at h1
  have a2 : ¬ fM <+: l := fun h => by
    rcases h2 with h2 | h2
    · have := h.length_le; simp [fM] at this; omega
    · have := (pre_take fM l).1 h
      simp [fM] at this; simp [this] at h2
  have a3 : ¬ fD <+: l := fun h => by
    rcases h2 with h2 | h2
    · have := h.length_le; simp [fD] at this; omega
    · have := (pre_take fD l).1 h
      simp [fD] at this; simp [this] at h2
  unfold segLen; rw [if_neg a1, if_neg a2, if_neg a3]

theorem parts_step {lay : List UInt8} {k j : Nat} {pre : List (List UInt8)} (h1 : segs lay = pre ++ segs (lay.drop k)) (h2 : segs (lay.drop k) = (lay.drop k).take (segLen (lay.drop k)) :: segs ((lay.drop k).drop (segLen (lay.drop k)))) (h3 : segLen (lay.drop k) = j) :
    segs lay = (pre ++ [(lay.drop k).take j]) ++ segs (lay.drop (k + j)) := by
  rw [h1, h2, h3, List.drop_drop, List.append_assoc]; rfl
/-- a slice of strings that the call owns -/
def OwnsStr (B : Nat) (v : Value) (l : List (List UInt8)) (W : World) : Prop := W.ownsRow B 9 1 v l.length (l.map Str)

set_option maxHeartbeats 4000000 in
set_option maxRecDepth 20000 in
theorem Parts_any (lay : List UInt8) (w : World) (h40 : lay.length ≤ 40) :
    Calls Try.prog 46 #[Str lay] w fun e w' => ∃ v, e = .returned v ∧ OwnsStr w.heap.size v (segs lay) w' ∧ Below w.heap.size w w' := by
  obtain ⟨i0, hi, hz0, hz1, hz2⟩ := info_parts Try.infoStr
  have Hi := Lib.hid hi
  clear hi
  have hss : (⟨lay.toArray⟩ : ByteArray).size = lay.length := by simp [ByteArray.size]
  go_enter Try.func46, Try.ntmps46
  go_wp2_with fail
  go_loopw [3, 4] (fun v i wr => ∃ (k : Nat) (pre : List (List UInt8)), k ≤ lay.length ∧ i = .int .i64 k ∧ segs lay = pre ++ segs (lay.drop k) ∧ pre.length ≤ k ∧ wr.ownsRow w.heap.size 9 1 v pre.length (pre.map Str) ∧ Below w.heap.size w wr) (fun _ i _ => lay.length - (intOf i).toNat)
  case atStart => exact ⟨0, [], by omega, rfl, rfl, by simp, World.ownsRow_nil _ _ _ _, Below.refl _ _⟩
  case round =>
    obtain ⟨k, pre, hkl, rfl, hs, hpk, hown, hbl⟩ := hrel
    have Hs := Lib.hid hs
    clear hs
    by_cases hlt : k < lay.length
    · have hne : lay.drop k ≠ [] := by
        intro e; have := congrArg List.length e; simp at this; omega
      have hsc := segs_cons _ hne
      have hsb := segLen_bd _ hne
      rw [List.length_drop] at hsb
      have Hsc := Lib.hid hsc
      have hx4 := ext_mid lay k 4
      have hx2 := ext_mid lay k 2
      have hx1 := ext_mid lay k 1
      have hbs := hbl.size
      clear hne hsc
      by_cases h4 : k + 4 ≤ lay.length
      · rcases Bool.eq_false_or_eq_true ((lay.drop k).take 4 == [89, 89, 89, 89]) with hy | hy
        · have hsl : segLen (lay.drop k) = 4 := segLen_a hy
          have Hsl := Lib.hid hsl
          rw [hsl] at hsb
          clear hsl
          go_wp2_with (at_builtin; refine wpList_append_own _ rfl _ _ 43 rfl w.heap.size 9 i0 (.string ⟨#[]⟩) 1 16 Try.underlying43 Hi.out hz0 hz1 hz2 rfl (by decide) _ _ _ rfl (hown.alloc _) ⟨wr.heap.size, 0, none⟩ 1 1 [Str ((lay.drop k).take 4)] rfl rfl (cell_one_new _ _ _) (by simp [Value.oneCell']) (by unfold maxLen; omega) (by omega) (by simp; omega) ?_; intro v' w1 hown' hgrow _)
          go_roundw
          case rel => exact ⟨k + 4, pre ++ [(lay.drop k).take 4], by omega, by go_num, parts_step Hs.out Hsc.out Hsl.out, by simp; omega, by simpa using hown', (hbl.alloc hbs _).grown hgrow (by simp; omega) (fun q hq => (hown.lt q hq).1)⟩
          case measure => simp [intOf]; omega
        · by_cases h2 : k + 2 ≤ lay.length
          · rcases Bool.eq_false_or_eq_true ((lay.drop k).take 2 == [77, 77]) with hM | hM
            · have hsl : segLen (lay.drop k) = 2 := segLen_b hM
              have Hsl := Lib.hid hsl
              rw [hsl] at hsb
              clear hsl
              go_wp2_with (at_builtin; refine wpList_append_own _ rfl _ _ 43 rfl w.heap.size 9 i0 (.string ⟨#[]⟩) 1 16 Try.underlying43 Hi.out hz0 hz1 hz2 rfl (by decide) _ _ _ rfl (hown.alloc _) ⟨wr.heap.size, 0, none⟩ 1 1 [Str ((lay.drop k).take 2)] rfl rfl (cell_one_new _ _ _) (by simp [Value.oneCell']) (by unfold maxLen; omega) (by omega) (by simp; omega) ?_; intro v' w1 hown' hgrow _)
              go_roundw
              case rel => exact ⟨k + 2, pre ++ [(lay.drop k).take 2], by omega, by go_num, parts_step Hs.out Hsc.out Hsl.out, by simp; omega, by simpa using hown', (hbl.alloc hbs _).grown hgrow (by simp; omega) (fun q hq => (hown.lt q hq).1)⟩
              case measure => simp [intOf]; omega
            · rcases Bool.eq_false_or_eq_true ((lay.drop k).take 2 == [68, 68]) with hD | hD
              · have hsl : segLen (lay.drop k) = 2 := segLen_c hD
                have Hsl := Lib.hid hsl
                rw [hsl] at hsb
                clear hsl
                go_wp2_with (at_builtin; refine wpList_append_own _ rfl _ _ 43 rfl w.heap.size 9 i0 (.string ⟨#[]⟩) 1 16 Try.underlying43 Hi.out hz0 hz1 hz2 rfl (by decide) _ _ _ rfl (hown.alloc _) ⟨wr.heap.size, 0, none⟩ 1 1 [Str ((lay.drop k).take 2)] rfl rfl (cell_one_new _ _ _) (by simp [Value.oneCell']) (by unfold maxLen; omega) (by omega) (by simp; omega) ?_; intro v' w1 hown' hgrow _)
                go_roundw
                case rel => exact ⟨k + 2, pre ++ [(lay.drop k).take 2], by omega, by go_num, parts_step Hs.out Hsc.out Hsl.out, by simp; omega, by simpa using hown', (hbl.alloc hbs _).grown hgrow (by simp; omega) (fun q hq => (hown.lt q hq).1)⟩
                case measure => simp [intOf]; omega
              · have hsl : segLen (lay.drop k) = 1 := segLen_d (.inr hy) (.inr ⟨hM, hD⟩)
                have Hsl := Lib.hid hsl
                rw [hsl] at hsb
                clear hsl
                go_wp2_with (at_builtin; refine wpList_append_own _ rfl _ _ 43 rfl w.heap.size 9 i0 (.string ⟨#[]⟩) 1 16 Try.underlying43 Hi.out hz0 hz1 hz2 rfl (by decide) _ _ _ rfl (hown.alloc _) ⟨wr.heap.size, 0, none⟩ 1 1 [Str ((lay.drop k).take 1)] rfl rfl (cell_one_new _ _ _) (by simp [Value.oneCell']) (by unfold maxLen; omega) (by omega) (by simp; omega) ?_; intro v' w1 hown' hgrow _)
                go_roundw
                case rel => exact ⟨k + 1, pre ++ [(lay.drop k).take 1], by omega, by go_num, parts_step Hs.out Hsc.out Hsl.out, by simp; omega, by simpa using hown', (hbl.alloc hbs _).grown hgrow (by simp; omega) (fun q hq => (hown.lt q hq).1)⟩
                case measure => simp [intOf]; omega
          · exact absurd h4 (by omega)
      · by_cases h2 : k + 2 ≤ lay.length
        · rcases Bool.eq_false_or_eq_true ((lay.drop k).take 2 == [77, 77]) with hM | hM
          · have hsl : segLen (lay.drop k) = 2 := segLen_b hM
            have Hsl := Lib.hid hsl
            rw [hsl] at hsb
            clear hsl
            go_wp2_with (at_builtin; refine wpList_append_own _ rfl _ _ 43 rfl w.heap.size 9 i0 (.string ⟨#[]⟩) 1 16 Try.underlying43 Hi.out hz0 hz1 hz2 rfl (by decide) _ _ _ rfl (hown.alloc _) ⟨wr.heap.size, 0, none⟩ 1 1 [Str ((lay.drop k).take 2)] rfl rfl (cell_one_new _ _ _) (by simp [Value.oneCell']) (by unfold maxLen; omega) (by omega) (by simp; omega) ?_; intro v' w1 hown' hgrow _)
            go_roundw
            case rel => exact ⟨k + 2, pre ++ [(lay.drop k).take 2], by omega, by go_num, parts_step Hs.out Hsc.out Hsl.out, by simp; omega, by simpa using hown', (hbl.alloc hbs _).grown hgrow (by simp; omega) (fun q hq => (hown.lt q hq).1)⟩
            case measure => simp [intOf]; omega
          · rcases Bool.eq_false_or_eq_true ((lay.drop k).take 2 == [68, 68]) with hD | hD
            · have hsl : segLen (lay.drop k) = 2 := segLen_c hD
              have Hsl := Lib.hid hsl
              rw [hsl] at hsb
              clear hsl
              go_wp2_with (at_builtin; refine wpList_append_own _ rfl _ _ 43 rfl w.heap.size 9 i0 (.string ⟨#[]⟩) 1 16 Try.underlying43 Hi.out hz0 hz1 hz2 rfl (by decide) _ _ _ rfl (hown.alloc _) ⟨wr.heap.size, 0, none⟩ 1 1 [Str ((lay.drop k).take 2)] rfl rfl (cell_one_new _ _ _) (by simp [Value.oneCell']) (by unfold maxLen; omega) (by omega) (by simp; omega) ?_; intro v' w1 hown' hgrow _)
              go_roundw
              case rel => exact ⟨k + 2, pre ++ [(lay.drop k).take 2], by omega, by go_num, parts_step Hs.out Hsc.out Hsl.out, by simp; omega, by simpa using hown', (hbl.alloc hbs _).grown hgrow (by simp; omega) (fun q hq => (hown.lt q hq).1)⟩
              case measure => simp [intOf]; omega
            · have hsl : segLen (lay.drop k) = 1 := segLen_d (.inl (by rw [List.length_drop]; omega)) (.inr ⟨hM, hD⟩)
              have Hsl := Lib.hid hsl
              rw [hsl] at hsb
              clear hsl
              go_wp2_with (at_builtin; refine wpList_append_own _ rfl _ _ 43 rfl w.heap.size 9 i0 (.string ⟨#[]⟩) 1 16 Try.underlying43 Hi.out hz0 hz1 hz2 rfl (by decide) _ _ _ rfl (hown.alloc _) ⟨wr.heap.size, 0, none⟩ 1 1 [Str ((lay.drop k).take 1)] rfl rfl (cell_one_new _ _ _) (by simp [Value.oneCell']) (by unfold maxLen; omega) (by omega) (by simp; omega) ?_; intro v' w1 hown' hgrow _)
              go_roundw
              case rel => exact ⟨k + 1, pre ++ [(lay.drop k).take 1], by omega, by go_num, parts_step Hs.out Hsc.out Hsl.out, by simp; omega, by simpa using hown', (hbl.alloc hbs _).grown hgrow (by simp; omega) (fun q hq => (hown.lt q hq).1)⟩
              case measure => simp [intOf]; omega
        · have hsl : segLen (lay.drop k) = 1 := segLen_d (.inl (by rw [List.length_drop]; omega)) (.inl (by rw [List.length_drop]; omega))
          have Hsl := Lib.hid hsl
          rw [hsl] at hsb
          clear hsl
          go_wp2_with (at_builtin; refine wpList_append_own _ rfl _ _ 43 rfl w.heap.size 9 i0 (.string ⟨#[]⟩) 1 16 Try.underlying43 Hi.out hz0 hz1 hz2 rfl (by decide) _ _ _ rfl (hown.alloc _) ⟨wr.heap.size, 0, none⟩ 1 1 [Str ((lay.drop k).take 1)] rfl rfl (cell_one_new _ _ _) (by simp [Value.oneCell']) (by unfold maxLen; omega) (by omega) (by simp; omega) ?_; intro v' w1 hown' hgrow _)
          go_roundw
          case rel => exact ⟨k + 1, pre ++ [(lay.drop k).take 1], by omega, by go_num, parts_step Hs.out Hsc.out Hsl.out, by simp; omega, by simpa using hown', (hbl.alloc hbs _).grown hgrow (by simp; omega) (fun q hq => (hown.lt q hq).1)⟩
          case measure => simp [intOf]; omega
    · obtain rfl : k = lay.length := by omega
      have hfin : segs lay = pre := by rw [Hs.out]; simp [segs_nil]
      have Hfin := Lib.hid hfin
      clear hfin
      go_wp2_with fail
      go_ret
      exact ⟨_, rfl, by unfold OwnsStr; rw [Hfin.out]; exact hown, hbl⟩
end Go.Proofs.Ytbfiflinonnmcaa
