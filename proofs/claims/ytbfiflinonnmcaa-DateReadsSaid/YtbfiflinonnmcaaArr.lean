/- An array of integers as an argument: opened and shut. Conditions: those of each theorem. -/
import Derived.OpenShut
import Derived.WalkKit
namespace Go.Proofs.Ytbfiflinonnmcaa
open Go.ChangeShapes Go.WideShapes
section
variable {H : Type} {enc : TypeId × Value → H} {P : Program} {w : World} {base : Nat} {spare : Nat → Bool} {held : Bool}

theorem arr_items {e : TypeId} {k : IntKind} {m : Nat} (hu : P.underlying e = some (.int k)) :
    ∀ (cs : List Value) (xs : List (DataW H × List MemPlace)), cs.length = xs.length → (∀ i, i < cs.length → DataW.trod enc P w base spare held m e ((cs.drop i).take 1) = xs[i]?) →
      ∃ zs : List Int, cs = zs.map (Value.int k) ∧ xs = zs.map (fun z => (DataW.lit (.int k z), [])) ∧ ∀ z ∈ zs, (Lit.int k z).wf = true
  | [], xs, hl, _ => by
    have : xs = [] := by cases xs with | nil => rfl | cons a b => simp at hl
    exact ⟨[], rfl, by rw [this]; rfl, by simp⟩
  | c :: cs, xs, hl, h => by
    cases xs with
    | nil => simp at hl
    | cons x xs =>
      have h0 := h 0 (by simp)
      simp at h0
      obtain ⟨z, hz, hx, hw⟩ := DataW.trod_int hu h0
      obtain ⟨zs, h1, h2, h3⟩ := arr_items hu cs xs (by simpa using hl) (fun i hi => by
        have := h (i + 1) (by simp; omega)
        simpa using this)
      have hc : c = .int k z := by simpa using hz
      refine ⟨z :: zs, by rw [hc, h1]; rfl, by rw [hx, h2]; rfl, fun y hy => ?_⟩
      rcases List.mem_cons.1 hy with rfl | hy
      · exact hw
      · exact h3 y hy

theorem open_arr {r : Reach} {b0 n : Nat} {t e : TypeId} {k : IntKind} {v : Value} {d : DataW H} {ps : List MemPlace} (ht : P.underlying t = some (.array n e)) (hu : P.underlying e = some (.int k))
    (hce : P.cellsOf e = 1) (hct : P.cellsOf t = n) (hval : Value.okWide P w r b0 t v) (hd : DataW.Trod enc P w base spare held t v d ps) :
    ∃ zs : List Int, zs.length = n ∧ v = .agg (zs.map (Value.int k)).toArray ∧ d = .agg (zs.map fun z => DataW.lit (.int k z)) ∧ ps = [] ∧ ∀ z ∈ zs, (Lit.int k z).wf = true := by
  obtain ⟨cs, rfl, hsz, _⟩ : ∃ cs, v = .agg cs ∧ cs.size = P.cellsOf t ∧ Row.okWide P w r b0 t cs := by
    unfold Value.okWide at hval
    rw [ht] at hval
    exact hval
  obtain ⟨fuel, hf⟩ := hd
  obtain ⟨xs, m, _, hx, _, hxl, hall⟩ := DataW.trod_array ht hf
  obtain ⟨zs, h1, h2, h3⟩ := arr_items (enc := enc) (w := w) (base := base) (spare := spare) (held := held) (m := m) hu cs.toList xs (by simp [hsz, hct, hxl]) (fun i hi => by
    have := hall i (by simp [hsz, hct] at hi; exact hi)
    rw [hce, Nat.mul_one] at this
    exact this)
  simp only [Prod.mk.injEq] at hx
  refine ⟨zs, ?_, ?_, ?_, ?_, h3⟩
  · have : xs.length = zs.length := by rw [h2]; simp
    omega
  · congr 1
    apply Array.toList_inj.1
    simpa using h1
  · rw [hx.1, h2]; simp
  · rw [hx.2, h2]; simp

theorem shut_arr3 {t e : TypeId} {k : IntKind} {x y z : Int} (ht : P.underlying t = some (.array 3 e)) (hu : P.underlying e = some (.int k)) (hce : P.cellsOf e = 1) (hct : P.cellsOf t = 3)
    (hx : (Lit.int k x).wf = true) (hy : (Lit.int k y).wf = true) (hz : (Lit.int k z).wf = true) :
    DataW.Trod enc P w base spare held t (.agg #[.int k x, .int k y, .int k z]) (.agg [.lit (.int k x), .lit (.int k y), .lit (.int k z)]) [] :=
  ⟨2, by simp [DataW.trod, Value.cells, ht, hu, hct, hce, hx, hy, hz, show List.range 3 = [0, 1, 2] from rfl]⟩
theorem shut_arr2 {t e : TypeId} {k : IntKind} {x y : Int} (ht : P.underlying t = some (.array 2 e)) (hu : P.underlying e = some (.int k)) (hce : P.cellsOf e = 1) (hct : P.cellsOf t = 2)
    (hx : (Lit.int k x).wf = true) (hy : (Lit.int k y).wf = true) :
    DataW.Trod enc P w base spare held t (.agg #[.int k x, .int k y]) (.agg [.lit (.int k x), .lit (.int k y)]) [] :=
  ⟨2, by simp [DataW.trod, Value.cells, ht, hu, hct, hce, hx, hy, show List.range 2 = [0, 1] from rfl]⟩
theorem shut_arr8 {t e : TypeId} {k : IntKind} {a b c d f g h i : Int} (ht : P.underlying t = some (.array 8 e)) (hu : P.underlying e = some (.int k)) (hce : P.cellsOf e = 1) (hct : P.cellsOf t = 8)
    (ha : (Lit.int k a).wf = true) (hb : (Lit.int k b).wf = true) (hc : (Lit.int k c).wf = true) (hd : (Lit.int k d).wf = true) (hf : (Lit.int k f).wf = true) (hg : (Lit.int k g).wf = true) (hh : (Lit.int k h).wf = true) (hi : (Lit.int k i).wf = true) :
    DataW.Trod enc P w base spare held t (.agg #[.int k a, .int k b, .int k c, .int k d, .int k f, .int k g, .int k h, .int k i]) (.agg [.lit (.int k a), .lit (.int k b), .lit (.int k c), .lit (.int k d), .lit (.int k f), .lit (.int k g), .lit (.int k h), .lit (.int k i)]) [] :=
  ⟨2, by simp [DataW.trod, Value.cells, ht, hu, hct, hce, ha, hb, hc, hd, hf, hg, hh, hi, show List.range 8 = [0, 1, 2, 3, 4, 5, 6, 7] from rfl]⟩

theorem list3 {l : List Int} (h : l.length = 3) : ∃ a b c, l = [a, b, c] := by
  match l, h with
  | [a, b, c], _ => exact ⟨a, b, c, rfl⟩
theorem list2 {l : List Int} (h : l.length = 2) : ∃ a b, l = [a, b] := by
  match l, h with
  | [a, b], _ => exact ⟨a, b, rfl⟩
theorem list8 {l : List Int} (h : l.length = 8) : ∃ a b c d e f g i, l = [a, b, c, d, e, f, g, i] := by
  match l, h with
  | [a, b, c, d, e, f, g, i], _ => exact ⟨a, b, c, d, e, f, g, i, rfl⟩
end
end Go.Proofs.Ytbfiflinonnmcaa
