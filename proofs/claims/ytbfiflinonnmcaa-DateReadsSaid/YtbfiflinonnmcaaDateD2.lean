/- The plain law of DateUndo: what is written with a right layout is read again. -/
import Derived.Test.YtbfiflinonnmcaaDateR7
namespace Go.Proofs.Ytbfiflinonnmcaa

theorem takeD_digits : ∀ (D : List UInt8) (j : Nat) (n : Int) (T : List UInt8), D.all isDig = true → D.length ≤ j → takeD j n (D ++ T) = takeD (j - D.length) (D.foldl (fun n b => 10 * n + ((b.toNat : Int) - 48)) n) T
  | [], j, n, T, _, _ => by simp
  | b :: D, 0, n, T, _, h => by simp at h
  | b :: D, j + 1, n, T, hd, h => by
    simp only [List.all_cons, Bool.and_eq_true] at hd
    simp only [List.cons_append, takeD, hd.1, if_true, List.foldl_cons, List.length_cons]
    rw [takeD_digits D j _ T hd.2 (by simpa using h)]
    congr 1
    omega
/-- a text that does not begin with a digit -/
def NoDig (T : List UInt8) : Prop := ∀ b t, T = b :: t → isDig b = false
theorem takeD_stop (j : Nat) (n : Int) (T : List UInt8) (h : j = 0 ∨ NoDig T) : takeD j n T = (n, T) := by
  cases j with
  | zero => rfl
  | succ j =>
    cases T with
    | nil => rfl
    | cons b t =>
      rcases h with h | h
      · cases h
      · simp [takeD, h b t rfl]
theorem takeD_exact (D T : List UInt8) (j : Nat) (hd : D.all isDig = true) (hl : D.length ≤ j) (h : j - D.length = 0 ∨ NoDig T) : takeD j 0 (D ++ T) = (valD D, T) := by
  rw [takeD_digits D j 0 T hd hl, takeD_stop _ _ _ h]
  rfl
theorem short_facts (m : Int) (h0 : 1 ≤ m) (h1 : m ≤ 99) : (shortL m).all isDig = true ∧ valD (shortL m) = m := by
  have h : ∀ k : Fin 100, 1 ≤ k.1 → (shortL k.1).all isDig = true ∧ valD (shortL k.1) = k.1 := by decide +kernel
  obtain ⟨j, rfl⟩ := Int.eq_ofNat_of_zero_le (show 0 ≤ m by omega)
  exact h ⟨j, by omega⟩ (by simp only; omega)

/-- what a piece of a right layout may be -/
def Piece (f : List UInt8) : Prop := f = fY ∨ f = fM ∨ f = fD ∨ ∃ x, f = [x] ∧ isDig x = false
def runS (st : Option Sc) (L : List (List UInt8)) : Option Sc := L.foldl scStep st
theorem runS_none (L : List (List UInt8)) : runS none L = none := by
  induction L with
  | nil => rfl
  | cons a b ih => exact ih
theorem runS_cons {st st' : Sc} {f : List UInt8} {L : List (List UInt8)} (h : runS (some st) (f :: L) = some st') : scBad st f = false ∧ runS (some (scNext st f)) L = some st' := by
  unfold runS at h
  simp only [List.foldl_cons] at h
  have e : scStep (some st) f = if scBad st f then none else some (scNext st f) := rfl
  rw [e] at h
  cases hb : scBad st f with
  | true => rw [hb] at h; simp only [if_true] at h; rw [show List.foldl scStep none L = runS none L from rfl, runS_none] at h; cases h
  | false => rw [hb] at h; exact ⟨rfl, h⟩
theorem wrs_cons (y m d : Int) (f : List UInt8) (L : List (List UInt8)) : wrs y m d (f :: L) = wr y m d f ++ wrs y m d L := by simp [wrs]

theorem open_noDig {y m d : Int} {st st' : Sc} {L : List (List UInt8)} (hp : ∀ f ∈ L, Piece f) (hr : runS (some st) L = some st') (ho : st.o = true) : NoDig (wrs y m d L) := by
  cases L with
  | nil => intro b t h; simp [wrs] at h
  | cons f L =>
    obtain ⟨hb, _⟩ := runS_cons hr
    rw [wrs_cons]
    have hy : ¬ 0 ≤ ymd (f.headD 0) := by
      intro h
      unfold scBad at hb
      have h2 := (Bool.or_eq_false_iff.1 hb).2
      rw [ho, decide_eq_true h] at h2
      cases h2
    rcases hp f (by simp) with h | h | h | ⟨x, h, hx⟩
    · subst h; exact absurd (by decide) hy
    · subst h; exact absurd (by decide) hy
    · subst h; exact absurd (by decide) hy
    · subst h
      have h1 : (x == 77) = false := by
        rw [Bool.eq_false_iff]; intro e; have : x = 77 := by simpa using e
        subst this; exact hy (by decide)
      have h2 : (x == 68) = false := by
        rw [Bool.eq_false_iff]; intro e; have : x = 68 := by simpa using e
        subst this; exact hy (by decide)
      rw [wr_x y m d x h1 h2]
      intro b t e
      simp at e
      rw [← e.1]; exact hx

theorem undo_run {y m d : Int} (y0 : 0 ≤ y) (y1 : y ≤ 9999) (m0 : 1 ≤ m) (m1 : m ≤ 12) (d0 : 1 ≤ d) (d1 : d ≤ 31) : ∀ (L : List (List UInt8)) (st st' : Sc) (p : Pr), (∀ f ∈ L, Piece f) → runS (some st) L = some st' → p.r = wrs y m d L →
    (L.foldl rdStep p).r = [] ∧ st.a ≤ st'.a ∧ st.b ≤ st'.b ∧ st.c ≤ st'.c ∧ ((L.foldl rdStep p).y = y ∨ ((L.foldl rdStep p).y = p.y ∧ st'.a = st.a)) ∧ ((L.foldl rdStep p).m = m ∨ ((L.foldl rdStep p).m = p.m ∧ st'.b = st.b)) ∧ ((L.foldl rdStep p).d = d ∨ ((L.foldl rdStep p).d = p.d ∧ st'.c = st.c))
  | [], st, st', p, _, hr, hp => by
    have e : st = st' := by simpa [runS] using hr
    subst e
    refine ⟨by simpa [wrs] using hp, Int.le_refl _, Int.le_refl _, Int.le_refl _, .inr ⟨rfl, rfl⟩, .inr ⟨rfl, rfl⟩, .inr ⟨rfl, rfl⟩⟩
  | f :: L, st, st', p, hpc, hr, hp => by
    obtain ⟨hb, hr'⟩ := runS_cons hr
    have hpl : ∀ g ∈ L, Piece g := fun g hg => hpc g (by simp [hg])
    rw [wrs_cons] at hp
    have hd2 : valD (dgs 2 m) = m := val_dgs 2 m (by omega) (by omega)
    have hd3 : valD (dgs 2 d) = d := val_dgs 2 d (by omega) (by omega)
    have hd4 : valD (dgs 4 y) = y := val_dgs 4 y (by omega) (by omega)
    have ih := undo_run y0 y1 m0 m1 d0 d1 L (scNext st f) st' (rdStep p f) hpl hr'
    simp only [List.foldl_cons]
    rcases hpc f (by simp) with h | h | h | ⟨x, h, hx⟩
    · subst h
      have e1 : rdStep p fY = ⟨y, p.m, p.d, wrs y m d L⟩ := by
        have e := takeD_exact (dgs 4 y) (wrs y m d L) 4 (dgs_dig 4 y) (by rw [dgs_len]; omega) (.inl (by rw [dgs_len]))
        have e2 : rdStep p fY = { p with y := (takeD 4 0 p.r).1, r := (takeD 4 0 p.r).2 } := rfl
        rw [e2, hp, wr_Y, e, hd4]
      have e3 : scNext st fY = ⟨st.a + 1, st.b, st.c, false⟩ := rfl
      rw [e1, e3] at ih
      rw [e1]
      obtain ⟨i1, i2, i3, i4, i5, i6, i7⟩ := ih rfl
      simp only at i2 i3 i4 i5 i6 i7
      refine ⟨i1, by omega, i3, i4, ?_, i6, i7⟩
      rcases i5 with i5 | i5
      · exact .inl i5
      · exact .inl i5.1
    · subst h
      have e1 : rdStep p fM = ⟨p.y, m, p.d, wrs y m d L⟩ := by
        have e := takeD_exact (dgs 2 m) (wrs y m d L) 2 (dgs_dig 2 m) (by rw [dgs_len]; omega) (.inl (by rw [dgs_len]))
        have e2 : rdStep p fM = { p with m := (takeD 2 0 p.r).1, r := (takeD 2 0 p.r).2 } := rfl
        rw [e2, hp, wr_M, e, hd2]
      have e3 : scNext st fM = ⟨st.a, st.b + 1, st.c, false⟩ := rfl
      rw [e1, e3] at ih
      rw [e1]
      obtain ⟨i1, i2, i3, i4, i5, i6, i7⟩ := ih rfl
      simp only at i2 i3 i4 i5 i6 i7
      refine ⟨i1, i2, by omega, i4, i5, ?_, i7⟩
      rcases i6 with i6 | i6
      · exact .inl i6
      · exact .inl i6.1
    · subst h
      have e1 : rdStep p fD = ⟨p.y, p.m, d, wrs y m d L⟩ := by
        have e := takeD_exact (dgs 2 d) (wrs y m d L) 2 (dgs_dig 2 d) (by rw [dgs_len]; omega) (.inl (by rw [dgs_len]))
        have e2 : rdStep p fD = { p with d := (takeD 2 0 p.r).1, r := (takeD 2 0 p.r).2 } := rfl
        rw [e2, hp, wr_D, e, hd3]
      have e3 : scNext st fD = ⟨st.a, st.b, st.c + 1, false⟩ := rfl
      rw [e1, e3] at ih
      rw [e1]
      obtain ⟨i1, i2, i3, i4, i5, i6, i7⟩ := ih rfl
      simp only at i2 i3 i4 i5 i6 i7
      refine ⟨i1, i2, i3, by omega, i5, i6, ?_⟩
      rcases i7 with i7 | i7
      · exact .inl i7
      · exact .inl i7.1
    · subst h
      by_cases hM : x = 77
      · subst hM
        have hnd := open_noDig (y := y) (m := m) (d := d) hpl hr' rfl
        obtain ⟨s1, s2⟩ := short_facts m m0 (by omega)
        have e1 : rdStep p [77] = ⟨p.y, m, p.d, wrs y m d L⟩ := by
          have e := takeD_exact (shortL m) (wrs y m d L) 2 s1 (short_len m) (.inr hnd)
          have e2 : rdStep p [77] = { p with m := (takeD 2 0 p.r).1, r := (takeD 2 0 p.r).2 } := rfl
          rw [e2, hp, wr_1M, e, s2]
        have e3 : scNext st [77] = ⟨st.a, st.b + 1, st.c, true⟩ := rfl
        rw [e1, e3] at ih
        rw [e1]
        obtain ⟨i1, i2, i3, i4, i5, i6, i7⟩ := ih rfl
        simp only at i2 i3 i4 i5 i6 i7
        refine ⟨i1, i2, by omega, i4, i5, ?_, i7⟩
        rcases i6 with i6 | i6
        · exact .inl i6
        · exact .inl i6.1
      · by_cases hD : x = 68
        · subst hD
          have hnd := open_noDig (y := y) (m := m) (d := d) hpl hr' rfl
          obtain ⟨s1, s2⟩ := short_facts d d0 (by omega)
          have e1 : rdStep p [68] = ⟨p.y, p.m, d, wrs y m d L⟩ := by
            have e := takeD_exact (shortL d) (wrs y m d L) 2 s1 (short_len d) (.inr hnd)
            have e2 : rdStep p [68] = { p with d := (takeD 2 0 p.r).1, r := (takeD 2 0 p.r).2 } := rfl
            rw [e2, hp, wr_1D, e, s2]
          have e3 : scNext st [68] = ⟨st.a, st.b, st.c + 1, true⟩ := rfl
          rw [e1, e3] at ih
          rw [e1]
          obtain ⟨i1, i2, i3, i4, i5, i6, i7⟩ := ih rfl
          simp only at i2 i3 i4 i5 i6 i7
          refine ⟨i1, i2, i3, by omega, i5, i6, ?_⟩
          rcases i7 with i7 | i7
          · exact .inl i7
          · exact .inl i7.1
        · have hY : ¬ x = 89 := by
            intro e; subst e
            have : scBad st [89] = true := rfl
            rw [this] at hb; cases hb
          have e1 : rdStep p [x] = ⟨p.y, p.m, p.d, wrs y m d L⟩ := by
            have e2 : rdStep p [x] = { p with r := p.r.drop 1 } := by
              unfold rdStep
              simp [hY, hM, hD]
            rw [e2, hp, wr_x y m d x (by simpa using hM) (by simpa using hD)]
            rfl
          have hn := ymd_none (x := x) (by simpa using hY) (by simpa using hM) (by simpa using hD)
          have e3 : scNext st [x] = ⟨st.a, st.b, st.c, oneLetter [x]⟩ := by unfold scNext; simp only [List.headD_cons, hn]; rfl
          rw [e1, e3] at ih
          rw [e1]
          exact ih rfl

theorem undo_law (l : List UInt8) (n : Int) (hr : rightB l = true) (hi : insideB n = true) : fmtB l n = true ∧ readB l (fmtR l n) = true ∧ readR l (fmtR l n) = n := by
  obtain ⟨h0, h1⟩ := (insideB_iff n).1 hi
  have hv := Cal.civ_valid n h0 h1
  have hn := Cal.civ_num n h0
  have hd := Cal.dim_bd (Cal.yearOf n) (Cal.monthOf n)
  have hf : fmtB l n = true := by simp [fmtB, hi, hr]
  have e2 : fmtR l n = wrs (Cal.yearOf n) (Cal.monthOf n) (Cal.dayOf n) (segs l) := by simp [fmtR, hf]
  refine ⟨hf, ?_⟩
  rw [e2]
  generalize Cal.yearOf n = y at *
  generalize Cal.monthOf n = m at *
  generalize Cal.dayOf n = d at *
  have hvb : Cal.validB y m d = true := (Cal.validB_iff _ _ _).2 hv
  obtain ⟨v1, v2, v3, v4, v5, v6⟩ := hv
  have hrr := hr
  unfold rightB at hrr
  simp only [Bool.and_eq_true, Bool.not_eq_true', decide_eq_true_eq] at hrr
  obtain ⟨⟨_, hdig⟩, hsc⟩ := hrr
  have hpc : ∀ f ∈ segs l, Piece f := fun f hf => by
    rcases segs_class l.length l (Nat.le_refl _) f hf with h | h | h | ⟨x, hx, h⟩
    · exact .inl h
    · exact .inr (.inl h)
    · exact .inr (.inr (.inl h))
    · refine .inr (.inr (.inr ⟨x, h, ?_⟩))
      unfold hasDig at hdig
      rw [Bool.eq_false_iff]
      intro hx2
      have : l.any (fun b => tenDigits.contains b) = true := List.any_eq_true.2 ⟨x, hx, by rw [dig_iff]; exact hx2⟩
      rw [this] at hdig; cases hdig
  cases hs : scan (segs l) with
  | none => rw [hs] at hsc; cases hsc
  | some st' =>
    rw [hs] at hsc
    simp only [Bool.and_eq_true, beq_iff_eq] at hsc
    obtain ⟨g1, g2, g3⟩ := hsc
    have hrun : runS (some ⟨0, 0, 0, false⟩) (segs l) = some st' := hs
    obtain ⟨i1, _, _, _, i5, i6, i7⟩ := undo_run (y := y) (m := m) (d := d) (by omega) (by omega) v3 v4 v5 (by omega) (segs l) ⟨0, 0, 0, false⟩ st' ⟨0, 0, 0, wrs y m d (segs l)⟩ hpc hrun rfl
    simp only at i5 i6 i7
    have j5 : (rdAll (wrs y m d (segs l)) (segs l)).y = y := by
      rcases i5 with h | h
      · exact h
      · exfalso; omega
    have j6 : (rdAll (wrs y m d (segs l)) (segs l)).m = m := by
      rcases i6 with h | h
      · exact h
      · exfalso; omega
    have j7 : (rdAll (wrs y m d (segs l)) (segs l)).d = d := by
      rcases i7 with h | h
      · exact h
      · exfalso; omega
    have hb : readB l (wrs y m d (segs l)) = true := by
      unfold readB
      rw [j5, j6, j7, hr, hvb]
      simp
    refine ⟨hb, ?_⟩
    unfold readR
    rw [if_pos hb, j5, j6, j7, hn]
theorem fmt_inj (l : List UInt8) (a b : Int) (hr : rightB l = true) (ha : insideB a = true) (hb : insideB b = true) (h : fmtR l a = fmtR l b) : a = b := by
  have h1 := (undo_law l a hr ha).2.2
  have h2 := (undo_law l b hr hb).2.2
  rw [h] at h1
  exact h1.symm.trans h2
end Go.Proofs.Ytbfiflinonnmcaa
