/- The Gregorian calendar on plain integers: lengths of months, numbers of dates, and the date with a number. No Go is in sight here. Conditions: none beyond those that each theorem states. -/
namespace Go.Proofs.Ytbfiflinonnmcaa
namespace Cal

def leapB (y : Int) : Bool := decide (y % 4 = 0 ∧ (¬ y % 100 = 0 ∨ y % 400 = 0))
def lp (y : Int) : Int := if y % 4 = 0 ∧ (¬ y % 100 = 0 ∨ y % 400 = 0) then 1 else 0
theorem lp_leap (y : Int) : lp y = if leapB y = true then 1 else 0 := by
  unfold lp leapB; by_cases h : (y % 4 = 0 ∧ (¬ y % 100 = 0 ∨ y % 400 = 0)) <;> simp [h]
theorem lp_bd (y : Int) : 0 ≤ lp y ∧ lp y ≤ 1 := by unfold lp; split <;> omega
def dim (y m : Int) : Int := if m = 2 then 28 + lp y else if m = 4 ∨ m = 6 ∨ m = 9 ∨ m = 11 then 30 else 31
theorem dim_bd (y m : Int) : 28 ≤ dim y m ∧ dim y m ≤ 31 := by
  have := lp_bd y; unfold dim; split <;> (try split) <;> omega
def ValidP (y m d : Int) : Prop := 1 ≤ y ∧ y ≤ 9999 ∧ 1 ≤ m ∧ m ≤ 12 ∧ 1 ≤ d ∧ d ≤ dim y m
instance (y m d : Int) : Decidable (ValidP y m d) := by unfold ValidP; infer_instance
def validB (y m d : Int) : Bool := decide (ValidP y m d)
theorem validB_iff (y m d : Int) : validB y m d = true ↔ ValidP y m d := by unfold validB; simp
/-- days before the year -/
def fst (y : Int) : Int := 365 * (y - 1) + (y - 1) / 4 - (y - 1) / 100 + (y - 1) / 400
/-- days of the year before the month -/
def cum (y m : Int) : Int :=
  if m ≤ 1 then 0 else if m = 2 then 31 else
  lp y + (if m = 3 then 59 else if m = 4 then 90 else if m = 5 then 120 else if m = 6 then 151 else if m = 7 then 181 else if m = 8 then 212 else if m = 9 then 243 else if m = 10 then 273 else if m = 11 then 304 else if m = 12 then 334 else 365)
theorem cum_one (y : Int) : cum y 1 = 0 := rfl
theorem cum_end (y : Int) : cum y 13 = 365 + lp y := by simp [cum]; omega
theorem month_cases (m : Int) (h1 : 1 ≤ m) (h2 : m ≤ 12) :
    m = 1 ∨ m = 2 ∨ m = 3 ∨ m = 4 ∨ m = 5 ∨ m = 6 ∨ m = 7 ∨ m = 8 ∨ m = 9 ∨ m = 10 ∨ m = 11 ∨ m = 12 := by omega
theorem cum_succ (y m : Int) (h1 : 1 ≤ m) (h2 : m ≤ 12) : cum y (m + 1) = cum y m + dim y m := by
  rcases month_cases m h1 h2 with h | h | h | h | h | h | h | h | h | h | h | h <;> subst h <;> simp [cum, dim] <;> omega
theorem cum_bd (y m : Int) : 0 ≤ cum y m ∧ cum y m ≤ 366 := by
  have := lp_bd y
  by_cases h : m ≤ 1
  · simp [cum, h]
  · by_cases h2 : 12 < m
    · have e : cum y m = 365 + lp y := by
        unfold cum
        rw [if_neg (by omega), if_neg (by omega), if_neg (by omega), if_neg (by omega), if_neg (by omega), if_neg (by omega), if_neg (by omega), if_neg (by omega), if_neg (by omega), if_neg (by omega), if_neg (by omega), if_neg (by omega)]; omega
      omega
    · rcases month_cases m (by omega) (by omega) with h | h | h | h | h | h | h | h | h | h | h | h <;> subst h <;> simp [cum] <;> omega
theorem fst_succ (y : Int) (_h : 1 ≤ y) : fst (y + 1) = fst y + 365 + lp y := by
  unfold fst lp
  by_cases h4 : y % 4 = 0
  · by_cases h100 : y % 100 = 0
    · by_cases h400 : y % 400 = 0
      · rw [if_pos ⟨h4, .inr h400⟩]; omega
      · rw [if_neg (by omega)]; omega
    · rw [if_pos ⟨h4, .inl h100⟩]; omega
  · rw [if_neg (by omega)]; omega
theorem fst_bd (y : Int) (h1 : 1 ≤ y) (h2 : y ≤ 10000) : 0 ≤ fst y ∧ fst y ≤ 3652059 := by unfold fst; omega
theorem fst_one : fst 1 = 0 := rfl
theorem fst_max : fst 10000 = 3652059 := rfl
theorem fst_mono (a b : Int) (_h0 : 1 ≤ a) (h : a ≤ b) : fst a ≤ fst b := by unfold fst; omega
theorem fst_lt (a b : Int) (h0 : 1 ≤ a) (h : a < b) : fst a + 365 ≤ fst b := by
  have := fst_succ a h0
  have := lp_bd a
  have := fst_mono (a + 1) b (by omega) (by omega)
  omega
def num (y m d : Int) : Int := fst y + cum y m + d - 1
theorem cum_dim_le (y m : Int) (h1 : 1 ≤ m) (h2 : m ≤ 12) : cum y m + dim y m ≤ 365 + lp y := by
  have := lp_bd y
  rcases month_cases m h1 h2 with h | h | h | h | h | h | h | h | h | h | h | h <;> subst h <;> simp [cum, dim] <;> omega
theorem cum_mono (y a b : Int) (h1 : 1 ≤ a) (h : a < b) (h2 : b ≤ 12) : cum y a + dim y a ≤ cum y b := by
  have := lp_bd y
  rcases month_cases a h1 (by omega) with e | e | e | e | e | e | e | e | e | e | e | e <;> subst e <;>
  (rcases month_cases b (by omega) h2 with e | e | e | e | e | e | e | e | e | e | e | e <;> subst e <;> first | omega | (simp [cum, dim] <;> omega))
theorem num_bd (y m d : Int) (h : ValidP y m d) : 0 ≤ num y m d ∧ num y m d ≤ 3652058 := by
  obtain ⟨a, b, c, e, f, g⟩ := h
  have h1 := fst_succ y a
  have h2 := fst_mono (y + 1) 10000 (by omega) (by omega)
  have h3 := fst_bd y a (by omega)
  have h4 := cum_bd y m
  have h5 := cum_dim_le y m c e
  rw [fst_max] at h2
  unfold num; omega
theorem num_year (y m d : Int) (h : ValidP y m d) : fst y ≤ num y m d ∧ num y m d < fst (y + 1) := by
  obtain ⟨a, b, c, e, f, g⟩ := h
  have h1 := fst_succ y a
  have h4 := cum_bd y m
  have h5 := cum_dim_le y m c e
  unfold num; omega
theorem num_inj (y m d y' m' d' : Int) (h : ValidP y m d) (h' : ValidP y' m' d') (e : num y m d = num y' m' d') : y = y' ∧ m = m' ∧ d = d' := by
  have a := num_year y m d h
  have b := num_year y' m' d' h'
  obtain ⟨a1, a2, a3, a4, a5, a6⟩ := h
  obtain ⟨b1, b2, b3, b4, b5, b6⟩ := h'
  have hy : y = y' := by
    by_cases h1 : y < y'
    · have := fst_mono (y + 1) y' (by omega) (by omega); omega
    · by_cases h2 : y' < y
      · have := fst_mono (y' + 1) y (by omega) (by omega); omega
      · omega
  subst hy
  have hm : m = m' := by
    by_cases h1 : m < m'
    · have := cum_mono y m m' a3 h1 b4; unfold num at e; omega
    · by_cases h2 : m' < m
      · have := cum_mono y m' m b3 h2 a4; unfold num at e; omega
      · omega
  subst hm
  unfold num at e
  exact ⟨rfl, rfl, by omega⟩

/-! the date with a number -/
def cyc (n : Int) : Int := n / 146097
def cen (n : Int) : Int := min (n % 146097 / 36524) 3
def fou (n : Int) : Int := (n % 146097 - cen n * 36524) / 1461
def yrs (n : Int) : Int := min ((n % 146097 - cen n * 36524) % 1461 / 365) 3
def yearOf (n : Int) : Int := 400 * cyc n + 100 * cen n + 4 * fou n + yrs n + 1
/-- days since the first of January -/
def restOf (n : Int) : Int := (n % 146097 - cen n * 36524) % 1461 - yrs n * 365
theorem core (C c f k r y : Int) (_hC : 0 ≤ C) (c0 : 0 ≤ c) (c3 : c ≤ 3) (f0 : 0 ≤ f) (f24 : f ≤ 24) (k0 : 0 ≤ k) (k3 : k ≤ 3) (r0 : 0 ≤ r) (r1 : r ≤ 365)
    (hr : r = 365 → k = 3) (hf : f = 24 → c < 3 → r + 365 * k ≤ 1459) (hy : y = 400 * C + 100 * c + 4 * f + k + 1) :
    r = 146097 * C + 36524 * c + 1461 * f + 365 * k + r - fst y ∧ r < 365 + lp y := by
  have q1 : (y - 1) / 4 = 100 * C + 25 * c + f := by omega
  have q2 : (y - 1) / 100 = 4 * C + c := by omega
  have q3 : (y - 1) / 400 = C := by omega
  constructor
  · unfold fst; rw [q1, q2, q3]; omega
  · have hl := lp_bd y
    by_cases h : r = 365
    · have hk := hr h
      have h4 : y % 4 = 0 := by omega
      have hl1 : lp y = 1 := by
        unfold lp
        by_cases h100 : y % 100 = 0
        · have h24 : f = 24 := by omega
          have hc : c = 3 := by omega
          rw [if_pos ⟨h4, .inr (by omega)⟩]
        · rw [if_pos ⟨h4, .inl h100⟩]
      omega
    · omega
theorem cen_bd (n : Int) : 0 ≤ n % 146097 - cen n * 36524 ∧ n % 146097 - cen n * 36524 ≤ 36524 ∧ (n % 146097 - cen n * 36524 = 36524 → cen n = 3) ∧ 0 ≤ cen n ∧ cen n ≤ 3 := by
  unfold cen
  by_cases h : n % 146097 / 36524 ≤ 3
  · rw [Int.min_eq_left h]; omega
  · rw [Int.min_eq_right (by omega)]; omega
theorem yrs_bd (x : Int) (h0 : 0 ≤ x) (h1 : x < 1461) : 0 ≤ x - min (x / 365) 3 * 365 ∧ x - min (x / 365) 3 * 365 ≤ 365 ∧ (x - min (x / 365) 3 * 365 = 365 → min (x / 365) 3 = 3) ∧ 0 ≤ min (x / 365) 3 ∧ min (x / 365) 3 ≤ 3 := by
  by_cases h : x / 365 ≤ 3
  · rw [Int.min_eq_left h]; omega
  · rw [Int.min_eq_right (by omega)]; omega
theorem rest_fst (n : Int) (h0 : 0 ≤ n) : restOf n = n - fst (yearOf n) ∧ 0 ≤ restOf n ∧ 1 ≤ yearOf n ∧ restOf n < 365 + lp (yearOf n) := by
  have hc := cen_bd n
  have hcy : cyc n = n / 146097 := rfl
  have hyr := yrs_bd ((n % 146097 - cen n * 36524) % 1461) (by omega) (by omega)
  have hfo : fou n = (n % 146097 - cen n * 36524) / 1461 := rfl
  have hre : restOf n = (n % 146097 - cen n * 36524) % 1461 - yrs n * 365 := rfl
  have hyy : yearOf n = 400 * cyc n + 100 * cen n + 4 * fou n + yrs n + 1 := rfl
  change 0 ≤ (n % 146097 - cen n * 36524) % 1461 - yrs n * 365 ∧ (n % 146097 - cen n * 36524) % 1461 - yrs n * 365 ≤ 365 ∧ ((n % 146097 - cen n * 36524) % 1461 - yrs n * 365 = 365 → yrs n = 3) ∧ 0 ≤ yrs n ∧ yrs n ≤ 3 at hyr
  rw [← hre] at hyr
  generalize cen n = c at *
  generalize yrs n = k at *
  generalize restOf n = r at *
  generalize fou n = f at *
  generalize cyc n = C at *
  have := core C c f k r (yearOf n) (by omega) (by omega) (by omega) (by omega) (by omega) (by omega) (by omega) (by omega) (by omega) (by omega) (by omega) hyy
  omega
theorem yearOf_bd (n : Int) (h0 : 0 ≤ n) (h1 : n ≤ 3652058) : 1 ≤ yearOf n ∧ yearOf n ≤ 9999 := by
  have h := rest_fst n h0
  refine ⟨h.2.2.1, ?_⟩
  have : ¬ 10000 ≤ yearOf n := fun h2 => by
    have := fst_mono 10000 (yearOf n) (by omega) h2
    rw [fst_max] at this; omega
  omega
def monthIn (y r : Int) : Int :=
  if r < cum y 2 then 1 else if r < cum y 3 then 2 else if r < cum y 4 then 3 else if r < cum y 5 then 4 else if r < cum y 6 then 5 else if r < cum y 7 then 6
  else if r < cum y 8 then 7 else if r < cum y 9 then 8 else if r < cum y 10 then 9 else if r < cum y 11 then 10 else if r < cum y 12 then 11 else 12
theorem monthIn_spec (y r : Int) (h0 : 0 ≤ r) (h1 : r < 365 + lp y) : 1 ≤ monthIn y r ∧ monthIn y r ≤ 12 ∧ cum y (monthIn y r) ≤ r ∧ r < cum y (monthIn y r) + dim y (monthIn y r) := by
  have hl := lp_bd y
  unfold monthIn
  (repeat' split) <;> refine ⟨by omega, by omega, ?_, ?_⟩ <;> simp [cum, dim] at * <;> omega
def monthOf (n : Int) : Int := monthIn (yearOf n) (restOf n)
def dayOf (n : Int) : Int := restOf n - cum (yearOf n) (monthOf n) + 1
theorem civ_valid (n : Int) (h0 : 0 ≤ n) (h1 : n ≤ 3652058) : ValidP (yearOf n) (monthOf n) (dayOf n) := by
  have h := rest_fst n h0
  have hy := yearOf_bd n h0 h1
  have hm := monthIn_spec (yearOf n) (restOf n) h.2.1 h.2.2.2
  unfold ValidP dayOf monthOf
  omega
theorem civ_num (n : Int) (h0 : 0 ≤ n) : num (yearOf n) (monthOf n) (dayOf n) = n := by
  have h := rest_fst n h0
  unfold num dayOf; omega
theorem civ_unique (y m d : Int) (h : ValidP y m d) : yearOf (num y m d) = y ∧ monthOf (num y m d) = m ∧ dayOf (num y m d) = d := by
  have hb := num_bd y m d h
  exact num_inj _ _ _ _ _ _ (civ_valid _ hb.1 hb.2) h (civ_num _ hb.1)
theorem civ_eq (n y m d : Int) (h : ValidP y m d) (e : num y m d = n) : yearOf n = y ∧ monthOf n = m ∧ dayOf n = d := by
  subst e; exact civ_unique y m d h
end Cal
end Go.Proofs.Ytbfiflinonnmcaa
