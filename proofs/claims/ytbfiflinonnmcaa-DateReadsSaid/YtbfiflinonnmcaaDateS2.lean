/- The iterator over a layout's fields. -/
import Derived.Test.YtbfiflinonnmcaaDateS1
import Derived.Test.YtbfiflinonnmcaaRange
import Derived.Test.YtbfiflinonnmcaaShelf
import Derived.RangeFuncNested
import Derived.Shelf.Abstract
import Derived.Shelf.RegionOpen
import Derived.OwnWalkIn
import Derived.TacticsInMore
import Derived.LoopNIn
import Derived.LoopIn
namespace Go.Proofs.Ytbfiflinonnmcaa
open Go.RowKit Go.Shelf
attribute [local go_sem] Oper.semAt_some

def fY : List UInt8 := [89, 89, 89, 89]
def fM : List UInt8 := [77, 77]
def fD : List UInt8 := [68, 68]
/-- the length of the first field, or character, of a layout -/
def segLen (l : List UInt8) : Nat := if fY <+: l then 4 else if fM <+: l then 2 else if fD <+: l then 2 else 1
def segsF : Nat → List UInt8 → List (List UInt8)
  | 0, _ => []
  | k + 1, l => match l with
    | [] => []
    | l => l.take (segLen l) :: segsF k (l.drop (segLen l))
def segs (l : List UInt8) : List (List UInt8) := segsF l.length l

theorem segLen_bd (l : List UInt8) (h : l ≠ []) : 1 ≤ segLen l ∧ segLen l ≤ l.length := by
  unfold segLen
  have h1 : 1 ≤ l.length := by cases l with | nil => exact absurd rfl h | cons a b => simp
  by_cases hy : fY <+: l
  · rw [if_pos hy]; have := hy.length_le; simp [fY] at this; omega
  · rw [if_neg hy]
    by_cases hm : fM <+: l
    · rw [if_pos hm]; have := hm.length_le; simp [fM] at this; omega
    · rw [if_neg hm]
      by_cases hd : fD <+: l
      · rw [if_pos hd]; have := hd.length_le; simp [fD] at this; omega
      · rw [if_neg hd]; omega
theorem segsF_more (k : Nat) : ∀ (m : Nat) (l : List UInt8), l.length ≤ k → l.length ≤ m → segsF k l = segsF m l := by
  induction k with
  | zero =>
    intro m l hk hm
    have : l = [] := by cases l with | nil => rfl | cons a b => simp at hk
    subst this
    cases m <;> rfl
  | succ k ih =>
    intro m l hk hm
    cases l with
    | nil => cases m <;> rfl
    | cons a b =>
      cases m with
      | zero => simp at hm
      | succ m =>
        have hb := segLen_bd (a :: b) (by simp)
        simp only [segsF]
        rw [ih m _ (by rw [List.length_drop]; simp at hk; simp only [List.length_cons]; omega) (by rw [List.length_drop]; simp at hm; simp only [List.length_cons]; omega)]
theorem segs_nil : segs [] = [] := rfl
theorem segs_cons (l : List UInt8) (h : l ≠ []) : segs l = l.take (segLen l) :: segs (l.drop (segLen l)) := by
  have hb := segLen_bd l h
  cases l with
  | nil => exact absurd rfl h
  | cons a b =>
    show segsF ((a :: b).length) (a :: b) = _
    rw [List.length_cons]
    simp only [segsF]
    rw [segsF_more b.length ((a :: b).drop (segLen (a :: b))).length _ (by rw [List.length_drop]; simp; omega) (Nat.le_refl _)]
    rfl

theorem ext_take (l : List UInt8) (k : Nat) : (⟨l.toArray⟩ : ByteArray).extract 0 k = ⟨(l.take k).toArray⟩ := by
  apply ByteArray.ext
  apply Array.toList_inj.1
  rw [Lib.extract_data]; simp
theorem ext_drop (l : List UInt8) (k m : Nat) (h : l.length ≤ m) : (⟨l.toArray⟩ : ByteArray).extract k m = ⟨(l.drop k).toArray⟩ := by
  apply ByteArray.ext
  apply Array.toList_inj.1
  rw [Lib.extract_data]; simp
  rw [List.take_of_length_le (by simp; omega)]

/-- what the iterator does to memory: new blocks, and writes to the cell that holds what is left of the layout -/
def fieldsAb (c : Nat) (A B : World) : Prop := A.grownBy B (some c) ∧ (∃ v, A.heap[c]? = some (.cells #[v] 9 (0, 0))) ∧ ∃ v, B.heap[c]? = some (.cells #[v] 9 (0, 0))
/-- what a round must keep -/
def fieldsKp (c : Nat) (A B : World) : Prop := B.heap[c]? = A.heap[c]?
def leftAt (w : World) (c : Nat) : Nat := match w.heap[c]? with | some (.cells #[.string s] _ _) => s.size | _ => 0
theorem leftAt_eq {w : World} {c : Nat} {l : List UInt8} (h : w.heap[c]? = some (.cells #[Str l] 9 (0, 0))) : leftAt w c = l.length := by
  unfold leftAt; rw [h]; rfl
theorem hasP (l p : List UInt8) : Lib.hasPrefix l p = decide (p <+: l) := by
  unfold Lib.hasPrefix
  rw [Bool.eq_iff_iff]; simp
theorem pre_head {a b : UInt8} {p q l : List UInt8} (h : (a :: p) <+: l) (hab : a ≠ b) : ¬ (b :: q) <+: l := by
  intro h2
  obtain ⟨x, rfl⟩ := h
  obtain ⟨y, hy⟩ := h2
  simp at hy
  exact hab hy.1.symm
theorem segLen_cases (l : List UInt8) :
    (Lib.hasPrefix l [89, 89, 89, 89] = true ∧ Lib.hasPrefix l [77, 77] = false ∧ Lib.hasPrefix l [68, 68] = false ∧ segLen l = 4) ∨
    (Lib.hasPrefix l [89, 89, 89, 89] = false ∧ Lib.hasPrefix l [77, 77] = true ∧ Lib.hasPrefix l [68, 68] = false ∧ segLen l = 2) ∨
    (Lib.hasPrefix l [89, 89, 89, 89] = false ∧ Lib.hasPrefix l [77, 77] = false ∧ Lib.hasPrefix l [68, 68] = true ∧ segLen l = 2) ∨
    (Lib.hasPrefix l [89, 89, 89, 89] = false ∧ Lib.hasPrefix l [77, 77] = false ∧ Lib.hasPrefix l [68, 68] = false ∧ segLen l = 1) := by
  simp only [hasP, decide_eq_true_iff, decide_eq_false_iff_not]
  unfold segLen
  by_cases hy : fY <+: l
  · exact .inl ⟨hy, pre_head hy (by decide), pre_head hy (by decide), by rw [if_pos hy]⟩
  · by_cases hm : fM <+: l
    · exact .inr (.inl ⟨hy, hm, pre_head hm (by decide), by rw [if_neg hy, if_pos hm]⟩)
    · by_cases hd : fD <+: l
      · exact .inr (.inr (.inl ⟨hy, hm, hd, by rw [if_neg hy, if_neg hm, if_pos hd]⟩))
      · exact .inr (.inr (.inr ⟨hy, hm, hd, by rw [if_neg hy, if_neg hm, if_neg hd]⟩))

theorem heap_set1 {W : World} {c : Nat} {v : Value} {T : TypeId} (u : Value) (h : W.heap[c]? = some (.cells #[v] T (0, 0))) : (W.setCell ⟨c, 0, none⟩ u).heap[c]? = some (.cells #[u] T (0, 0)) := by
  simp [World.setCell, Array.getElem?_modify, h]
theorem grown_set1 (W : World) (c : Nat) (u : Value) : W.grownBy (W.setCell ⟨c, 0, none⟩ u) (some c) :=
  ⟨rfl, rfl, rfl, by simp [World.setCell], fun k _ hk => Below.heap_setCell _ _ _ _ (fun e => hk (by rw [e]))⟩

set_option maxHeartbeats 4000000 in
theorem fields1_any (n : Nat) (c : Nat) (lay : List UInt8) (w0 : World) (hlt : c < w0.heap.size) (hc0 : w0.heap[c]? = some (.cells #[Str lay] 9 (0, 0))) (hlen : lay.length ≤ 40) :
    Yields Fence.wide n Try.prog 60 #[.pointer (some ⟨c, 0, none⟩)] (fun x => #[Str x]) (fieldsAb c) (fieldsKp c) (segs lay) w0 := by
  intro l J Jx W hW hJ hJx hY h0
  have hc : W.heap[c]? = some (.cells #[Str lay] 9 (0, 0)) := (hW.block c hlt).trans hc0
  clear hc0 hlt hW
  refine callsIn_of_wp Try.func60 rfl trivial ?_ rfl
  simp only [Try.ntmps60, List.size_toArray, List.length_cons, List.length_nil, Nat.reduceAdd, Nat.reduceSub, Array.replicate_succ, Array.replicate_zero, List.push_toArray, List.append_toArray, List.nil_append, List.cons_append]
  gi_wp2
  gi_loopw [3] (fun _ wr => ∃ (pre : List (List UInt8)) (lay' : List UInt8), segs lay = pre ++ segs lay' ∧ wr.heap[c]? = some (.cells #[Str lay'] 9 (0, 0)) ∧ J pre wr ∧ lay'.length ≤ 40) (fun _ wr => leftAt wr c)
  case atStart => exact ⟨[], lay, rfl, hc, h0, hlen⟩
  case round =>
    obtain ⟨pre, lay', hs, hc', hJp, hl40⟩ := hrel
    clear hc h0 hlen
    have hlt : c < wr.heap.size := (Array.getElem?_eq_some_iff.1 hc').1
    have hcell : wr.cell? ⟨c, 0, none⟩ = some (Str lay') := by simp [World.cell?, hc']
    have hfz : wr.frozen? ⟨c, 0, none⟩ = false := by simp [World.frozen?, hc']
    by_cases hne : lay' = []
    · subst hne
      rw [segs_nil, List.append_nil] at hs
      have Hs := Lib.hid hs
      clear hs hY hJ hJx
      gi_wp2
      go_end0
      exact ⟨⟨_, rfl⟩, .inl (by rw [Hs.out]; exact hJp)⟩
    · have hsc := segs_cons lay' hne
      have hsb := segLen_bd lay' hne
      rw [hsc] at hs
      have he : (!lay'.isEmpty) = true := by cases lay' with | nil => exact absurd rfl hne | cons a b => rfl
      have hJ1 : J pre (wr.alloc (.cells #[.string ⟨#[89, 89, 89, 89]⟩, .string ⟨#[77, 77]⟩, .string ⟨#[68, 68]⟩] 9)) := hJ _ _ _ hJp ⟨World.grownBy_alloc _ _ _, ⟨_, hc'⟩, _, (Below.heap_alloc _ _ _ hlt).trans hc'⟩
      obtain ⟨fn, tmps, assign, body, hy, hR⟩ := hY pre _ _ _ hs hJ1
      clear hJp hY
      rcases segLen_cases lay' with ⟨h60, h61, h62, hk⟩ | ⟨h60, h61, h62, hk⟩ | ⟨h60, h61, h62, hk⟩ | ⟨h60, h61, h62, hk⟩
      all_goals
        rw [hk] at hs hsb hsc hy hR
        have ht := ext_take lay' (segLen lay')
        have hd := ext_drop lay' (segLen lay') lay'.length (Nat.le_refl _)
        rw [hk] at ht hd
        obtain ⟨hs1, hs2⟩ := hsb
        have Hs := Lib.hid hs
        have H60 := Lib.hid h60
        have H61 := Lib.hid h61
        have H62 := Lib.hid h62
        clear h60 h61 h62 hk hs hsc
        gi_wp2
        refine wpIn_loop_rounds 4 ?_
        rw [roundsIn_succ]
        gi_wp2_with (refine ⟨trivial, fun h => (by cases h), ?_⟩; gi_at_call 61; refine CallsIn.mono (callsIn_wide.2 (Try.strings_HasPrefix _ _ _)) ?_; rintro e w' ⟨rfl, rfl⟩; first | rw [H60.out] | rw [H61.out] | rw [H62.out])
        rw [roundsIn_succ]
        gi_wp2_with (refine ⟨trivial, fun h => (by cases h), ?_⟩; gi_at_call 61; refine CallsIn.mono (callsIn_wide.2 (Try.strings_HasPrefix _ _ _)) ?_; rintro e w' ⟨rfl, rfl⟩; first | rw [H60.out] | rw [H61.out] | rw [H62.out])
        rw [roundsIn_succ]
        gi_wp2_with (refine ⟨trivial, fun h => (by cases h), ?_⟩; gi_at_call 61; refine CallsIn.mono (callsIn_wide.2 (Try.strings_HasPrefix _ _ _)) ?_; rintro e w' ⟨rfl, rfl⟩; first | rw [H60.out] | rw [H61.out] | rw [H62.out])
        rw [roundsIn_succ]
        gi_wp2
        refine ⟨fun h => (by cases h), hR.mono ?_⟩
        rintro e W3 (⟨rfl, hJ3, hk3⟩ | ⟨rfl, hJx3⟩)
        · have hc3 : W3.heap[c]? = some (.cells #[Str lay'] 9 (0, 0)) := by
            rw [hk3, Below.heap_alloc _ _ _ hlt]; exact hc'
          have hcell3 : W3.cell? ⟨c, 0, none⟩ = some (Str lay') := by simp [World.cell?, hc3]
          have hfz3 : W3.frozen? ⟨c, 0, none⟩ = false := by simp [World.frozen?, hc3]
          have HR := Lib.hid hR
          have Hc := Lib.hid hc'
          clear hy hR hc' hcell hfz hk3
          gi_wp2
          refine ⟨⟨_, _, ?_, heap_set1 _ hc3, hJ _ _ _ hJ3 ⟨grown_set1 _ _ _, ⟨_, hc3⟩, _, heap_set1 _ hc3⟩, by simp; omega⟩, ?_⟩
          · first | (rw [Hs.out, List.append_cons]; done) | (rw [Hs.out, List.append_cons, List.drop_one])
          rw [leftAt_eq (heap_set1 _ hc3), leftAt_eq (Hc.out)]; simp; omega
        · gi_wp2
          refine bodyPost_ret (results_none rfl _ _ _) rfl ?_
          exact ⟨⟨_, rfl⟩, .inr ⟨_, ⟨_, by rw [Hs.out, List.append_assoc]; rfl⟩, hJx3⟩⟩
end Go.Proofs.Ytbfiflinonnmcaa
