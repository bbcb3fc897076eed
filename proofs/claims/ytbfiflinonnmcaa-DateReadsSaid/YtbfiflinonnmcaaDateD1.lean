/- Plain laws of digits: what is written is read again. -/
import Derived.Test.YtbfiflinonnmcaaDateR6
namespace Go.Proofs.Ytbfiflinonnmcaa

theorem dg_dig (n : Int) : isDig (dg n) = true := by
  rw [isDig_iff]
  have := dg_val n
  omega
theorem dgs_dig (k : Nat) : ∀ n : Int, (dgs k n).all isDig = true := by
  induction k with
  | zero => intro n; rfl
  | succ k ih => intro n; simp [dgs, ih, dg_dig]
theorem byte_eq {a b : UInt8} (h : (a.toNat : Int) = b.toNat) : a = b := UInt8.toNat_inj.1 (by omega)
theorem snoc_ind {α : Type} {Q : List α → Prop} (h0 : Q []) (h1 : ∀ l a, Q l → Q (l ++ [a])) : ∀ l, Q l := by
  have key : ∀ l : List α, Q l.reverse := by
    intro l
    induction l with
    | nil => exact h0
    | cons a b ih => rw [List.reverse_cons]; exact h1 _ _ ih
  intro l
  have := key l.reverse
  rwa [List.reverse_reverse] at this
theorem valD_nonneg : ∀ l : List UInt8, l.all isDig = true → 0 ≤ valD l := by
  refine snoc_ind (fun _ => by simp [valD]) (fun l b ih h => ?_)
  rw [List.all_append] at h
  simp at h
  rw [valD_snoc]
  have := ih (by simp; exact h.1)
  have := (isDig_iff b).1 h.2
  omega
theorem dgs_val : ∀ l : List UInt8, l.all isDig = true → dgs l.length (valD l) = l := by
  refine snoc_ind (fun _ => rfl) (fun l b ih h => ?_)
  · rw [List.all_append] at h
    simp at h
    have hb := (isDig_iff b).1 h.2
    rw [valD_snoc, List.length_append, List.length_singleton]
    simp only [dgs]
    have e1 : (10 * valD l + ((b.toNat : Int) - 48)) / 10 = valD l := by omega
    have e2 : dg (10 * valD l + ((b.toNat : Int) - 48)) = b := by
      apply byte_eq
      rw [dg_val]; omega
    rw [e1, e2, ih (by simp; exact h.1)]
theorem val_dgs (k : Nat) : ∀ n : Int, 0 ≤ n → n < 10 ^ k → valD (dgs k n) = n := by
  induction k with
  | zero => intro n h0 h1; simp at h1; simp [dgs, valD]; omega
  | succ k ih =>
    intro n h0 h1
    rw [Int.pow_succ] at h1
    simp only [dgs]
    rw [valD_snoc, ih (n / 10) (by omega) (by omega), dg_val]
    omega

/-! ### Parse -/
theorem iso_segs : segs isoL = [fY, [45], fM, [45], fD] := by kernel_rfl
theorem iso_read (s : List UInt8) : rdAll s (segs isoL) = rdStep (rdStep (rdStep (rdStep (rdStep ⟨0, 0, 0, s⟩ fY) [45]) fM) [45]) fD := by rw [iso_segs]; rfl
theorem iso_shape {s : List UInt8} (h : readB isoL s = true) : ∃ y m d : Int, s = dgs 4 y ++ [45] ++ dgs 2 m ++ [45] ++ dgs 2 d := by
  unfold readB at h
  simp only [Bool.and_eq_true, beq_iff_eq] at h
  have h2 := h.2.2
  rw [iso_wrs] at h2
  exact ⟨_, _, _, h2.symm⟩
theorem dgs4 (y : Int) : dgs 4 y = [dg (y / 10 / 10 / 10), dg (y / 10 / 10), dg (y / 10), dg y] := rfl
theorem dgs2 (y : Int) : dgs 2 y = [dg (y / 10), dg y] := rfl
theorem iso_not_len {s : List UInt8} (h : s.length ≠ 10) : readB isoL s = false := by
  rw [Bool.eq_false_iff]
  intro hr
  obtain ⟨y, m, d, e⟩ := iso_shape hr
  apply h
  rw [e]
  simp [dgs_len]
theorem list10 {s : List UInt8} (h : s.length = 10) : ∃ a b c d e f g i j k, s = [a, b, c, d, e, f, g, i, j, k] := by
  match s, h with
  | [a, b, c, d, e, f, g, i, j, k], _ => exact ⟨a, b, c, d, e, f, g, i, j, k, rfl⟩
theorem iso_not {a b c d e f g i j k : UInt8} (h : ¬ (e = 45 ∧ i = 45 ∧ isDig a = true ∧ isDig b = true ∧ isDig c = true ∧ isDig d = true ∧ isDig f = true ∧ isDig g = true ∧ isDig j = true ∧ isDig k = true)) :
    readB isoL [a, b, c, d, e, f, g, i, j, k] = false := by
  rw [Bool.eq_false_iff]
  intro hr
  obtain ⟨y, m, dd, he⟩ := iso_shape hr
  apply h
  rw [dgs4, dgs2, dgs2] at he
  simp only [List.cons_append, List.nil_append, List.cons.injEq, and_true] at he
  obtain ⟨h1, h2, h3, h4, h5, h6, h7, h8, h9, h10⟩ := he
  subst h1 h2 h3 h4 h5 h6 h7 h8 h9 h10
  exact ⟨rfl, rfl, dg_dig _, dg_dig _, dg_dig _, dg_dig _, dg_dig _, dg_dig _, dg_dig _, dg_dig _⟩
theorem iso_yes {a b c d f g j k : UInt8} (h1 : isDig a = true) (h2 : isDig b = true) (h3 : isDig c = true) (h4 : isDig d = true) (h5 : isDig f = true) (h6 : isDig g = true) (h7 : isDig j = true) (h8 : isDig k = true) :
    rdAll [a, b, c, d, 45, f, g, 45, j, k] (segs isoL) = ⟨valD [a, b, c, d], valD [f, g], valD [j, k], []⟩ := by
  rw [iso_read]
  have hY : mostOf fY = 4 := rfl
  have hM : mostOf fM = 2 := rfl
  have hD : mostOf fD = 2 := rfl
  have e1 : ∀ p : Pr, rdStep p fY = { p with y := (takeD 4 0 p.r).1, r := (takeD 4 0 p.r).2 } := fun p => rfl
  have e2 : ∀ p : Pr, rdStep p fM = { p with m := (takeD 2 0 p.r).1, r := (takeD 2 0 p.r).2 } := fun p => rfl
  have e3 : ∀ p : Pr, rdStep p fD = { p with d := (takeD 2 0 p.r).1, r := (takeD 2 0 p.r).2 } := fun p => rfl
  have e4 : ∀ p : Pr, rdStep p [45] = { p with r := p.r.drop 1 } := fun p => rfl
  rw [e1, e4, e2, e4, e3]
  simp [takeD, h1, h2, h3, h4, h5, h6, h7, h8, valD]
theorem iso_back {a b c d f g j k : UInt8} (h1 : isDig a = true) (h2 : isDig b = true) (h3 : isDig c = true) (h4 : isDig d = true) (h5 : isDig f = true) (h6 : isDig g = true) (h7 : isDig j = true) (h8 : isDig k = true) :
    readB isoL [a, b, c, d, 45, f, g, 45, j, k] = Cal.validB (valD [a, b, c, d]) (valD [f, g]) (valD [j, k]) ∧ readR isoL [a, b, c, d, 45, f, g, 45, j, k] = numR (valD [a, b, c, d]) (valD [f, g]) (valD [j, k]) := by
  have e := iso_yes h1 h2 h3 h4 h5 h6 h7 h8
  have w1 : dgs 4 (valD [a, b, c, d]) = [a, b, c, d] := dgs_val [a, b, c, d] (by simp [h1, h2, h3, h4])
  have w2 : dgs 2 (valD [f, g]) = [f, g] := dgs_val [f, g] (by simp [h5, h6])
  have w3 : dgs 2 (valD [j, k]) = [j, k] := dgs_val [j, k] (by simp [h7, h8])
  have hb : readB isoL [a, b, c, d, 45, f, g, 45, j, k] = Cal.validB (valD [a, b, c, d]) (valD [f, g]) (valD [j, k]) := by
    unfold readB
    rw [e, iso_right]
    simp only
    rw [iso_wrs, w1, w2, w3]
    simp
  refine ⟨hb, ?_⟩
  unfold readR numR
  rw [hb, e]
end Go.Proofs.Ytbfiflinonnmcaa
