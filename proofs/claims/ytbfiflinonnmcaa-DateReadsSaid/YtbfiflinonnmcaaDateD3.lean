/- Plain laws for the reference's Read: what is left of the text, piece for piece. -/
import Derived.Test.YtbfiflinonnmcaaDateD2
namespace Go.Proofs.Ytbfiflinonnmcaa

theorem step_r {y m d : Int} (y0 : 0 ≤ y) (y1 : y ≤ 9999) (m0 : 1 ≤ m) (m1 : m ≤ 12) (d0 : 1 ≤ d) (d1 : d ≤ 31) {L : List (List UInt8)} {f : List UInt8} {st st' : Sc} {p : Pr} (hpc : ∀ g ∈ f :: L, Piece g) (hr : runS (some st) (f :: L) = some st')
    (hp : p.r = wrs y m d (f :: L)) : (rdStep p f).r = wrs y m d L := by
  have h := undo_run y0 y1 m0 m1 d0 d1 [f] st (scNext st f) p (fun g hg => hpc g (by simp at hg; simp [hg])) (by
    obtain ⟨hb, _⟩ := runS_cons hr
    unfold runS
    simp only [List.foldl_cons, List.foldl_nil]
    show (if scBad st f then none else some (scNext st f)) = _
    rw [hb]; rfl)
  obtain ⟨hb, hr'⟩ := runS_cons hr
  have hpl : ∀ g ∈ L, Piece g := fun g hg => hpc g (by simp [hg])
  clear h
  rw [wrs_cons] at hp
  rcases hpc f (by simp) with h | h | h | ⟨x, h, hx⟩
  · subst h
    have e := takeD_exact (dgs 4 y) (wrs y m d L) 4 (dgs_dig 4 y) (by rw [dgs_len]; omega) (.inl (by rw [dgs_len]))
    have e2 : (rdStep p fY).r = (takeD 4 0 p.r).2 := rfl
    rw [e2, hp, wr_Y, e]
  · subst h
    have e := takeD_exact (dgs 2 m) (wrs y m d L) 2 (dgs_dig 2 m) (by rw [dgs_len]; omega) (.inl (by rw [dgs_len]))
    have e2 : (rdStep p fM).r = (takeD 2 0 p.r).2 := rfl
    rw [e2, hp, wr_M, e]
  · subst h
    have e := takeD_exact (dgs 2 d) (wrs y m d L) 2 (dgs_dig 2 d) (by rw [dgs_len]; omega) (.inl (by rw [dgs_len]))
    have e2 : (rdStep p fD).r = (takeD 2 0 p.r).2 := rfl
    rw [e2, hp, wr_D, e]
  · subst h
    by_cases hM : x = 77
    · subst hM
      have hnd := open_noDig (y := y) (m := m) (d := d) hpl hr' rfl
      have e := takeD_exact (shortL m) (wrs y m d L) 2 (short_facts m m0 (by omega)).1 (short_len m) (.inr hnd)
      have e2 : (rdStep p [77]).r = (takeD 2 0 p.r).2 := rfl
      rw [e2, hp, wr_1M, e]
    · by_cases hD : x = 68
      · subst hD
        have hnd := open_noDig (y := y) (m := m) (d := d) hpl hr' rfl
        have e := takeD_exact (shortL d) (wrs y m d L) 2 (short_facts d d0 (by omega)).1 (short_len d) (.inr hnd)
        have e2 : (rdStep p [68]).r = (takeD 2 0 p.r).2 := rfl
        rw [e2, hp, wr_1D, e]
      · have hY : ¬ x = 89 := by
          intro e; subst e
          have : scBad st [89] = true := rfl
          rw [this] at hb; cases hb
        have e2 : (rdStep p [x]).r = p.r.drop 1 := by
          unfold rdStep
          simp [hY, hM, hD]
        rw [e2, hp, wr_x y m d x (by simpa using hM) (by simpa using hD)]
        rfl

theorem piece_of {l : List UInt8} (hr : rightB l = true) : ∀ f ∈ segs l, Piece f := fun f hf => by
  unfold rightB at hr
  simp only [Bool.and_eq_true, Bool.not_eq_true', decide_eq_true_eq] at hr
  obtain ⟨⟨_, hdig⟩, _⟩ := hr
  rcases segs_class l.length l (Nat.le_refl _) f hf with h | h | h | ⟨x, hx, h⟩
  · exact .inl h
  · exact .inr (.inl h)
  · exact .inr (.inr (.inl h))
  · refine .inr (.inr (.inr ⟨x, h, ?_⟩))
    unfold hasDig at hdig
    rw [Bool.eq_false_iff]
    intro hx2
    have : l.any (fun b => tenDigits.contains b) = true := List.any_eq_true.2 ⟨x, hx, by rw [dig_iff]; exact hx2⟩
    rw [this] at hdig; cases hdig

/-- a text that is read: what is left behind k pieces is what the other pieces write -/
theorem read_left {l s : List UInt8} (h : readB l s = true) : ∃ y m d : Int, 1 ≤ m ∧ m ≤ 12 ∧ 1 ≤ d ∧ d ≤ 31 ∧ ∀ k, k ≤ (segs l).length → (rdAll s ((segs l).take k)).r = wrs y m d ((segs l).drop k) := by
  unfold readB at h
  simp only [Bool.and_eq_true, beq_iff_eq] at h
  obtain ⟨hr, hv, hw⟩ := h
  generalize (rdAll s (segs l)).y = y at *
  generalize (rdAll s (segs l)).m = m at *
  generalize (rdAll s (segs l)).d = d at *
  obtain ⟨v1, v2, v3, v4, v5, v6⟩ := (Cal.validB_iff _ _ _).1 hv
  have hdm := Cal.dim_bd y m
  refine ⟨y, m, d, v3, v4, v5, by omega, fun k => ?_⟩
  have hpc := piece_of hr
  have hsc : ∃ st', scan (segs l) = some st' := by
    unfold rightB at hr
    simp only [Bool.and_eq_true] at hr
    cases hs : scan (segs l) with
    | none => rw [hs] at hr; cases hr.2
    | some st' => exact ⟨st', rfl⟩
  obtain ⟨st', hsc⟩ := hsc
  induction k with
  | zero => intro _; simp [rdAll, hw]
  | succ k ih =>
    intro hk
    have hk' : k < (segs l).length := by omega
    have ih := ih (by omega)
    rw [take_snoc hk', rdAll_snoc]
    have hdr : (segs l).drop k = (segs l)[k] :: (segs l).drop (k + 1) := List.drop_eq_getElem_cons hk'
    rw [hdr] at ih
    obtain ⟨st, hst⟩ : ∃ st, scan ((segs l).take k) = some st := by
      cases hs : scan ((segs l).take k) with
      | none =>
        have := scan_none ((segs l).take k) ((segs l).drop k) hs
        rw [List.take_append_drop, hsc] at this; cases this
      | some st => exact ⟨st, rfl⟩
    have hrun : runS (some st) ((segs l)[k] :: (segs l).drop (k + 1)) = some st' := by
      rw [← hdr, ← hst]
      unfold runS scan at *
      rw [← List.foldl_append, List.take_append_drop]
      exact hsc
    exact step_r (by omega) (by omega) v3 v4 v5 (by omega) (fun g hg => hpc g (by rw [← hdr] at hg; exact List.mem_of_mem_drop hg)) hrun ih
theorem wr_some {y m d : Int} {f : List UInt8} (m0 : 1 ≤ m) (m1 : m ≤ 12) (d0 : 1 ≤ d) (d1 : d ≤ 31) (h : Piece f) : wr y m d f ≠ [] := by
  rcases h with h | h | h | ⟨x, h, hx⟩
  · subst h; rw [wr_Y]; intro e; have := congrArg List.length e; rw [dgs_len] at this; simp at this
  · subst h; rw [wr_M]; intro e; have := congrArg List.length e; rw [dgs_len] at this; simp at this
  · subst h; rw [wr_D]; intro e; have := congrArg List.length e; rw [dgs_len] at this; simp at this
  · subst h
    by_cases hM : x = 77
    · subst hM; rw [wr_1M]; intro e
      have := (short_facts m m0 (by omega)).2
      rw [e] at this; simp [valD] at this; omega
    · by_cases hD : x = 68
      · subst hD; rw [wr_1D]; intro e
        have := (short_facts d d0 (by omega)).2
        rw [e] at this; simp [valD] at this; omega
      · rw [wr_x y m d x (by simpa using hM) (by simpa using hD)]; simp
/-- the early way out: nothing is left, but a piece is to come -/
theorem read_short {l s : List UInt8} {k : Nat} (hr : rightB l = true) (hk : k < (segs l).length) (h : (rdAll s ((segs l).take k)).r = []) : readB l s = false := by
  rw [Bool.eq_false_iff]
  intro hb
  obtain ⟨y, m, d, m0, m1, d0, d1, hl⟩ := read_left hb
  have := hl k (by omega)
  rw [h, List.drop_eq_getElem_cons hk, wrs_cons] at this
  have h2 := wr_some (y := y) m0 m1 d0 d1 (piece_of hr _ (List.getElem_mem hk))
  simp at this
  exact h2 this.1
end Go.Proofs.Ytbfiflinonnmcaa
