/- A walk over the reference's Right. -/
import Derived.Test.YtbfiflinonnmcaaDateR1
namespace Go.Proofs.Ytbfiflinonnmcaa
open Go.RowKit

theorem segs_class (n : Nat) : ∀ (l : List UInt8), l.length ≤ n → ∀ f ∈ segs l, f = fY ∨ f = fM ∨ f = fD ∨ ∃ x ∈ l, f = [x] := by
  induction n with
  | zero =>
    intro l hl f hf
    have : l = [] := by cases l with | nil => rfl | cons a b => simp at hl
    subst this
    simp [segs_nil] at hf
  | succ n ih =>
    intro l hl f hf
    by_cases hne : l = []
    · subst hne; simp [segs_nil] at hf
    · rw [segs_cons l hne] at hf
      have hb := segLen_bd l hne
      rcases List.mem_cons.1 hf with h | h
      · by_cases hy : fY <+: l
        · left; rw [h]; unfold segLen; rw [if_pos hy]; exact (pre_take fY l).1 hy
        · by_cases hm : fM <+: l
          · right; left; rw [h]; unfold segLen; rw [if_neg hy, if_pos hm]; exact (pre_take fM l).1 hm
          · by_cases hd : fD <+: l
            · right; right; left; rw [h]; unfold segLen; rw [if_neg hy, if_neg hm, if_pos hd]; exact (pre_take fD l).1 hd
            · right; right; right
              cases l with
              | nil => exact absurd rfl hne
              | cons a b =>
                refine ⟨a, by simp, ?_⟩
                rw [h]; unfold segLen; rw [if_neg hy, if_neg hm, if_neg hd]; rfl
      · rcases ih (l.drop (segLen l)) (by rw [List.length_drop]; omega) f h with h | h | h | ⟨x, hx, h⟩
        · exact .inl h
        · exact .inr (.inl h)
        · exact .inr (.inr (.inl h))
        · exact .inr (.inr (.inr ⟨x, List.mem_of_mem_drop hx, h⟩))

/-- a byte that a layout may hold -/
def okByte (b : UInt8) : Bool := decide (32 ≤ b.toNat) && decide (b.toNat ≤ 126) && !(decide (48 ≤ b.toNat) && decide (b.toNat ≤ 57))
theorem dig_iff (b : UInt8) : tenDigits.contains b = (decide (48 ≤ b.toNat) && decide (b.toNat ≤ 57)) := by
  have h : ∀ n : Fin 256, tenDigits.contains (UInt8.ofNat n.1) = (decide (48 ≤ (UInt8.ofNat n.1).toNat) && decide ((UInt8.ofNat n.1).toNat ≤ 57)) := by decide +kernel
  have := h ⟨b.toNat, b.toNat_lt⟩
  simpa using this
theorem scan_bad_mem {f : List UInt8} (hf : ∀ s, scBad s f = true) : ∀ (l : List (List UInt8)), f ∈ l → scan l = none := by
  intro l hl
  obtain ⟨p, q, rfl⟩ := List.append_of_mem hl
  have e : p ++ f :: q = (p ++ [f]) ++ q := by simp
  rw [e]
  refine scan_none _ _ ?_
  rw [scan_snoc]
  cases scan p with
  | none => rfl
  | some s => simp [scStep, hf s]
theorem right_bad_byte {lay : List UInt8} {b : UInt8} (hb : b ∈ lay) (h : okByte b = false) : rightB lay = false := by
  by_cases hd : tenDigits.contains b = true
  · have : hasDig lay = true := by unfold hasDig; rw [List.any_eq_true]; exact ⟨b, hb, hd⟩
    simp [rightB, this]
  · rw [dig_iff] at hd
    have hd' : (decide (48 ≤ b.toNat) && decide (b.toNat ≤ 57)) = false := by simpa using hd
    have hout : b.toNat < 32 ∨ 126 < b.toNat := by
      unfold okByte at h
      rw [hd'] at h
      simp at h
      omega
    have hfl := (segs_flat lay.length lay (Nat.le_refl _)).1
    rw [← hfl] at hb
    obtain ⟨f, hf, hbf⟩ := List.mem_flatten.1 hb
    have hs : scan (segs lay) = none := by
      rcases segs_class lay.length lay (Nat.le_refl _) f hf with h | h | h | ⟨x, _, h⟩
      · subst h; exfalso; simp [fY] at hbf; subst hbf; simp at hout
      · subst h; exfalso; simp [fM] at hbf; subst hbf; simp at hout
      · subst h; exfalso; simp [fD] at hbf; subst hbf; simp at hout
      · subst h
        simp at hbf
        subst hbf
        refine scan_bad_mem (fun s => ?_) _ hf
        unfold scBad
        simp only [List.headD_cons]
        rcases hout with h | h <;> simp [h]
    simp [rightB, hs]
theorem ok_noDig {lay : List UInt8} (h : ∀ b ∈ lay, okByte b = true) : hasDig lay = false := by
  unfold hasDig
  rw [Bool.eq_false_iff]
  intro hh
  obtain ⟨b, hb, hd⟩ := List.any_eq_true.1 hh
  have := h b hb
  rw [dig_iff] at hd
  unfold okByte at this
  rw [hd] at this
  simp at this
theorem right_scan {lay : List UInt8} (h40 : lay.length ≤ 40) (h : ∀ b ∈ lay, okByte b = true) : rightB lay = (match scan (segs lay) with | some s => s.a == 1 && (s.b == 1 && s.c == 1) | none => false) := by
  unfold rightB
  rw [ok_noDig h, decide_eq_true h40]
  rfl
theorem right_none {lay : List UInt8} {k : Nat} (h : scan ((segs lay).take k) = none) : rightB lay = false := by
  have : scan (segs lay) = none := by
    have e := scan_none ((segs lay).take k) ((segs lay).drop k) h
    rwa [List.take_append_drop] at e
  simp [rightB, this]
theorem take_snoc {l : List (List UInt8)} {k : Nat} (h : k < l.length) : l.take (k + 1) = l.take k ++ [l[k]] := by
  rw [List.take_append_getElem]
/-- one field further, in the scan -/
theorem scan_good {l : List (List UInt8)} {k : Nat} {s : Sc} {f : List UInt8} (hk : k < l.length) (hf : l[k] = f) (hs : scan (l.take k) = some s) (hb : scBad s f = false) : scan (l.take (k + 1)) = some (scNext s f) := by
  rw [take_snoc hk, scan_snoc, hs, hf]; simp [scStep, hb]
theorem scan_fail {l : List (List UInt8)} {k : Nat} {s : Sc} {f : List UInt8} (hk : k < l.length) (hf : l[k] = f) (hs : scan (l.take k) = some s) (hb : scBad s f = true) : scan (l.take (k + 1)) = none := by
  rw [take_snoc hk, scan_snoc, hs, hf]; simp [scStep, hb]
theorem ok_range {x : UInt8} (h : okByte x = true) : ¬ x.toNat < 32 ∧ ¬ 126 < x.toNat := by
  unfold okByte at h; simp at h; omega
theorem ymd_none {x : UInt8} (h1 : (x == 89) = false) (h2 : (x == 77) = false) (h3 : (x == 68) = false) : ymd x = -1 := by
  unfold ymd
  simp at h1 h2 h3
  exact indexByte_none x _ (by intro y hy e; subst e; simp at hy; rcases hy with h | h | h <;> contradiction)
theorem segs_len40 {lay : List UInt8} (h : lay.length ≤ 40) : (segs lay).length ≤ 40 := by
  have := (segs_flat lay.length lay (Nat.le_refl _)).2; omega
theorem own_form {B : Nat} {v : Value} {l : List (List UInt8)} {W : World} (h : OwnsStr B v l W) (hne : l ≠ []) : ∃ g cap, v = .slice (some ⟨g, 0, none⟩) l.length cap ∧ B ≤ g ∧ g < W.heap.size := by
  obtain ⟨_, h | ⟨g, cap, cur, h1, h2, h3, _⟩⟩ := h
  · exact absurd (List.length_eq_zero_iff.1 h.2) hne
  · exact ⟨g, cap, h1, h2, (Array.getElem?_eq_some_iff.1 h3).1⟩
theorem own_cell {B g cap : Nat} {l : List (List UInt8)} {W : World} (h : OwnsStr B (.slice (some ⟨g, 0, none⟩) l.length cap) l W) (k : Nat) (hk : k < l.length) : W.cell? ⟨g, k, none⟩ = some (Str l[k]) := by
  unfold OwnsStr at h
  rw [h.cellAt k (by omega)]
  simp [hk]
end Go.Proofs.Ytbfiflinonnmcaa
