/- The walk over 'written': a layout with its fields replaced, by the range over its fields. -/
import Derived.Test.YtbfiflinonnmcaaDateS3
import Derived.Test.YtbfiflinonnmcaaHolds
namespace Go.Proofs.Ytbfiflinonnmcaa
open Go.RowKit Go.Shelf
attribute [local go_sem] Oper.semAt_some

/-- a builder abides a turn of a block that is neither a builder's nor a row of bytes -/
theorem builder_grown {B b : Nat} {bs : List Value} {A A' : World} {row : Option Nat} (h : Lib.IsBuilder tB 5 B b bs A) (hg : A.grownBy A' row)
    (hr : ∀ r, row = some r → ∃ o, A.heap[r]? = some o ∧ (∀ c fz, o ≠ .cells c tB fz) ∧ (∀ c fz, o ≠ .cells c 5 fz)) : Lib.IsBuilder tB 5 B b bs A' := by
  have one : ∀ p, Lib.BuilderAt tB 5 B b p bs A → Lib.BuilderAt tB 5 B b p bs A' := by
    rintro p ⟨hB, v, hb, hown, hne⟩
    have hlt : b < A.heap.size := (Array.getElem?_eq_some_iff.1 hb).1
    refine ⟨hB, v, ?_, hown.kept hg ?_, hne⟩
    · rw [hg.block b hlt ?_]; exact hb
      intro e
      obtain ⟨o, ho, h1, _⟩ := hr b e.symm
      rw [hb] at ho; cases ho
      exact h1 _ _ rfl
    · cases hv : v.ownBlock with
      | none => exact .inl rfl
      | some g =>
        right
        intro e
        obtain ⟨o, ho, _, h2⟩ := hr g e.symm
        obtain ⟨c, fz, hc⟩ := Lib.ownsRowF_kind (World.ownsRowF_of hown) g hv
        rw [hc] at ho; cases ho
        exact h2 _ _ rfl
  rcases h with h | h
  · exact .inl (one _ h)
  · exact .inr (one _ h)

/-- the method value p.write, of a date's parts -/
abbrev writeV (y m d : Int) : Value := .func (.func 44) #[.agg #[.int .i64 y, .int .i64 m, .int .i64 d]] #[]
def wrs (y m d : Int) (l : List (List UInt8)) : List UInt8 := l.flatMap (wr y m d)
theorem wrs_snoc (y m d : Int) (l : List (List UInt8)) (f : List UInt8) : wrs y m d (l ++ [f]) = wrs y m d l ++ wr y m d f := by simp [wrs]

set_option maxHeartbeats 400000 in
theorem fields_any (lay : List UInt8) (w : World) :
    Calls Try.prog 48 #[Str lay] w fun e w' => e = .returned (.func (.func 60) #[] #[.pointer (some ⟨w.heap.size, 0, none⟩)]) ∧ w.alloc (.cells #[Str lay] 9) = w' := by
  have hmf : ∀ (fn : Fn) (first cap : Array Value) (w : World), (Instr.makeFunc fn first cap).run Try.prog w = .ok (.func fn first cap) w := fun _ _ _ _ => rfl
  go_enter Try.func48, Try.ntmps48
  go_wp2
  go_ret
  exact ⟨rfl, rfl⟩

/-- a cell of the call's own holds a value and may be written -/
def Holds1 (b : Nat) (v : Value) (T : TypeId) (W : World) : Prop := W.heap[b]? = some (.cells #[v] T (0, 0))
theorem Holds1.cell {b : Nat} {v : Value} {T : TypeId} {W : World} (h : Holds1 b v T W) : W.cell? ⟨b, 0, none⟩ = some v := by unfold Holds1 at h; simp [World.cell?, h]
theorem Holds1.free {b : Nat} {v : Value} {T : TypeId} {W : World} (h : Holds1 b v T W) : W.frozen? ⟨b, 0, none⟩ = false := by unfold Holds1 at h; simp [World.frozen?, h]
theorem Holds1.lt {b : Nat} {v : Value} {T : TypeId} {W : World} (h : Holds1 b v T W) : b < W.heap.size := (Array.getElem?_eq_some_iff.1 h).1
theorem Holds1.grown {b : Nat} {v : Value} {T : TypeId} {A A' : World} {row : Option Nat} (h : Holds1 b v T A) (hg : A.grownBy A' row)
    (hr : ∀ r, row = some r → ∃ o, A.heap[r]? = some o ∧ (∀ c fz, o ≠ .cells c T fz)) : Holds1 b v T A' := by
  unfold Holds1
  rw [hg.block b h.lt ?_]; exact h
  intro e
  obtain ⟨o, ho, h1⟩ := hr b e.symm
  unfold Holds1 at h
  rw [h] at ho; cases ho
  exact h1 _ _ rfl
theorem Holds1.new (b : Nat) (w : World) (v : Value) (T : TypeId) (hb : b = w.heap.size) : Holds1 b v T (w.alloc (.cells #[v] T)) := by
  subst hb; exact World.alloc_heap_new w _
theorem Holds1.alloc {b : Nat} {v : Value} {T : TypeId} {W : World} (h : Holds1 b v T W) (o : Obj) : Holds1 b v T (W.alloc o) := by
  unfold Holds1; rw [Below.heap_alloc _ _ _ h.lt]; exact h
theorem Holds1.others {b : Nat} {v : Value} {T e : TypeId} {x : Option Nat} {A A' : World} (h : Holds1 b v T A) (ho : Lib.OthersKept e x A A') (hx : some b ≠ x) (hT : T ≠ e) : Holds1 b v T A' :=
  ho b _ h hx (fun c fz e => by cases e; exact hT rfl)
theorem Holds1.below {b B : Nat} {v : Value} {T : TypeId} {A A' : World} (h : Holds1 b v T A) (hb : Below B A A') (hlt : b < B) : Holds1 b v T A' := by
  unfold Holds1; rw [hb.block b hlt]; exact h

/-- between two rounds: the builder holds the fields that have come, written; the method value lies in its cell -/
def wrI (w : World) (c : Nat) (y m d : Int) (pre : List (List UInt8)) (W : World) : Prop :=
  (∃ v, Holds1 c v 9 W) ∧ Lib.IsBuilder tB 5 w.heap.size (w.heap.size + 1) (Lib.byteCells (wrs y m d pre)) W ∧ Holds1 w.heap.size (writeV y m d) 66 W ∧ Below w.heap.size w W

theorem wr_len (y m d : Int) (f : List UInt8) : (wr y m d f).length ≤ 4 + f.length := by
  have h1 := dgs_length 4 y
  have h2 := dgs_length 2 m
  have h3 := dgs_length 2 d
  have h4 : ∀ n, (shortL n).length ≤ 2 := fun n => by
    unfold shortL Lib.trimPrefix
    have := dgs_length 2 n
    split
    · rw [List.length_drop]; omega
    · omega
  have h5 := h4 m
  have h6 := h4 d
  unfold wr
  (repeat' split) <;> omega
theorem wrs_len (y m d : Int) (l : List (List UInt8)) : (wrs y m d l).length ≤ 4 * l.length + l.flatten.length := by
  induction l with
  | nil => simp [wrs]
  | cons a b ih =>
    have h : wrs y m d (a :: b) = wr y m d a ++ wrs y m d b := by simp [wrs]
    have := wr_len y m d a
    rw [h]; simp only [List.length_append, List.length_cons, List.flatten_cons]; omega
theorem segs_flat (k : Nat) : ∀ l : List UInt8, l.length ≤ k → (segs l).flatten = l ∧ (segs l).length ≤ l.length := by
  induction k with
  | zero =>
    intro l hl
    have : l = [] := by cases l with | nil => rfl | cons a b => simp at hl
    subst this; exact ⟨rfl, Nat.le_refl _⟩
  | succ k ih =>
    intro l hl
    by_cases h : l = []
    · subst h; exact ⟨rfl, Nat.le_refl _⟩
    · have hb := segLen_bd l h
      have := ih (l.drop (segLen l)) (by rw [List.length_drop]; omega)
      rw [segs_cons l h, List.flatten_cons, this.1, List.take_append_drop]
      refine ⟨rfl, ?_⟩
      have h2 := this.2
      rw [List.length_drop] at h2
      simp only [List.length_cons]; omega
theorem wrs_bd (y m d : Int) (lay : List UInt8) (pre : List (List UInt8)) (x : List UInt8) (post : List (List UInt8)) (hl : lay.length ≤ 40) (h : segs lay = pre ++ x :: post) :
    (wrs y m d pre).length ≤ 200 ∧ (wr y m d x).length ≤ 44 := by
  have hf := segs_flat lay.length lay (Nat.le_refl _)
  have h1 := wrs_len y m d pre
  have h2 := wr_len y m d x
  have e1 : (segs lay).flatten.length = lay.length := by rw [hf.1]
  have e2 : (segs lay).length ≤ 40 := by omega
  rw [h] at e1 e2
  simp only [List.flatten_append, List.flatten_cons, List.length_append, List.length_cons] at e1 e2
  omega
theorem keeps_of_others {b : Nat} {bs : List Value} {B : Nat} {W W' : World} (hb : Lib.IsBuilder tB 5 B b bs W) (hs : W.heap.size ≤ W'.heap.size) (h : Lib.OthersKept 5 (some b) W W') : KeepsOthers W W' :=
  ⟨hs, fun k o hk ho => h k o hk (fun e => by
    cases e
    rcases hb with ⟨_, v, hv, _⟩ | ⟨_, v, hv, _⟩ <;> (rw [hk] at hv; cases hv; cases ho)) (fun c fz => notCells ho c _ fz)⟩

set_option maxHeartbeats 4000000 in
theorem written_any (lay : List UInt8) (y m d : Int) (w : World) (y0 : 0 ≤ y) (y1 : y ≤ 9999) (m0 : 0 ≤ m) (m1 : m ≤ 9999) (d0 : 0 ≤ d) (d1 : d ≤ 9999) (hl : lay.length ≤ 40) :
    Calls Try.prog 43 #[Str lay, writeV y m d] w fun e w' => e = .returned (Str (wrs y m d (segs lay))) ∧ Below w.heap.size w w' := by
  refine (callsIn_wide (n := 3)).1 ?_
  refine callsIn_of_wp_marks Try.func43 rfl trivial ?_ rfl
  simp only [Try.ntmps43, List.size_toArray, List.length_cons, List.length_nil, Nat.reduceAdd, Nat.reduceSub, Array.replicate_succ, Array.replicate_zero, List.push_toArray, List.append_toArray, List.nil_append, List.cons_append]
  gi_wp2_with (refine ⟨trivial, ?_⟩; gi_at_call 48; refine CallsIn.mono (callsIn_wide.2 (fields_any _ _)) ?_; rintro e w' ⟨rfl, rfl⟩)
  obtain ⟨W0, hW0⟩ : ∃ W0, (w.alloc (.cells #[writeV y m d] 66)).alloc (.cells #[.pointer none, .slice none 0 0] tB) = W0 := ⟨_, rfl⟩
  have hs0 : W0.heap.size = w.heap.size + 2 := by rw [← hW0]; simp
  have hI0 : wrI w W0.heap.size y m d [] (W0.alloc (.cells #[Str lay] 9)) := by
    have hbuild : Lib.IsBuilder tB 5 w.heap.size (w.heap.size + 1) [] W0 := by
     rw [← hW0]
     refine .inl ⟨by omega, .slice none 0 0, ?_, World.ownsRow_nil _ _ _ _, by simp [Value.ownBlock]⟩
     have := World.alloc_heap_new (w.alloc (.cells #[writeV y m d] 66)) (.cells #[.pointer none, .slice none 0 0] tB)
     simpa using this
    refine ⟨⟨_, Holds1.new _ _ _ _ rfl⟩, builder_grown hbuild (World.grownBy_alloc _ _ none) (fun r e => by cases e), Holds1.alloc ?_ _, Below.alloc ?_ (by omega) _⟩
    · rw [← hW0]; exact (Holds1.new _ w _ _ rfl).alloc _
    · rw [← hW0]; exact ((Below.refl _ w).alloc (Nat.le_refl _) _).alloc (by simp) _
  rw [hW0, show w.heap.size + 1 + 1 = W0.heap.size from hs0.symm]
  have Hs0 := Lib.hid hs0
  have HW0 := Lib.hid hW0
  clear hs0 hW0
  refine wpIn_range rfl (by decide) (gf := 60) (lb := #[.pointer (some ⟨W0.heap.size, 0, none⟩)]) rfl trivial (enters_of Try.func60 (by kernel_rfl) rfl)
    (fields1_any _ W0.heap.size lay (W0.alloc (.cells #[Str lay] 9)) (by simp) (World.alloc_heap_new _ _) hl)
    (fun A B k o hab hk ho => ?ao) (fun A B C h1 h2 => h2.trans h1) (fun W l o o' hle hl ho => ?kb) (Below.refl _ _) (fun _ => rfl)
    (wrI w W0.heap.size y m d) (fun _ _ _ => False) (fun s A B hi hab => ?ia) (fun _ _ _ _ h _ => h.elim) (fun s A B row hi hg hr => ?io) (fun _ _ _ _ _ h _ _ => h.elim) ?i0
    (fun x => { tmps := #[Str lay, writeV y m d, undef, .pointer (some ⟨w.heap.size, 0, none⟩), .string ⟨#[]⟩, .pointer (some ⟨w.heap.size + 1, 0, none⟩), Str x, Str lay, .func (.func 60) #[] #[.pointer (some ⟨W0.heap.size, 0, none⟩)], Str x, undef, undef, undef, undef, undef], defers := [] })
    ?assign ?body ?done ?stop
  case ao =>
    rw [hab.1.block k (Array.getElem?_eq_some_iff.1 hk).1 (fun e => ?_)]
    · exact hk
    · obtain ⟨v, hv⟩ := hab.2.1
      cases e; rw [hk] at hv; cases hv; cases ho
  case kb =>
    refine (World.putObj_heap_other ?_)
    rintro rfl
    simp at hle
    omega
  case ia =>
    obtain ⟨hab, ⟨v, hv⟩, v', hv'⟩ := hab
    refine ⟨⟨v', hv'⟩, builder_grown hi.2.1 hab (fun r e => ?_), hi.2.2.1.grown hab (fun r e => ?_), hi.2.2.2.grown hab hi.2.2.2.size (fun k e => by cases e; have := Hs0.out; omega)⟩
    · cases e; refine ⟨_, hv, ?_, ?_⟩ <;> (intro c fz e; cases e)
    · cases e; refine ⟨_, hv, ?_⟩; intro c fz e; cases e
  case io =>
    obtain ⟨⟨v, hv⟩, hi⟩ := hi
    refine ⟨⟨v, hv.grown hg (fun r e => ?_)⟩, builder_grown hi.1 hg (fun r e => ?_), hi.2.1.grown hg (fun r e => ?_), hi.2.2.grown hg hi.2.2.size (fun k e => by have := (hr k e).1; have := Hs0.out; simp at *; omega)⟩
    · obtain ⟨_, o, ho, hc⟩ := hr r e
      exact ⟨o, ho, fun c fz => notCells hc c _ fz⟩
    · obtain ⟨_, o, ho, hc⟩ := hr r e
      exact ⟨o, ho, fun c fz => notCells hc c _ fz, fun c fz => notCells hc c _ fz⟩
    · obtain ⟨_, o, ho, hc⟩ := hr r e
      exact ⟨o, ho, fun c fz => notCells hc c _ fz⟩
  case i0 => exact hI0
  case assign =>
    intro l x W K hK
    gi_wp2
    exact hK
  case body =>
    rintro l pre x post W hxs ⟨⟨v, hv⟩, hb, hw, hbl⟩
    have hlen := wrs_bd y m d lay pre x post hl hxs
    have hcell := hw.cell
    have hvlt := hv.lt
    gi_wp2_with fail
    refine ⟨trivial, CallsIn.mono (CallsIn.inRound l (callsIn_wide.2 (write_any y m d x W y0 y1 m0 m1 d0 d1))) ?_⟩
    rintro e W1 ⟨rfl, hb1⟩
    have hB1 := builder_grown hb (below_grown hb1) (fun r e => by cases e)
    gi_wp2_with fail
    refine ⟨trivial, CallsIn.mono (CallsIn.inRound l (callsIn_wide.2 (WriteString_any w.heap.size (w.heap.size + 1) _ ⟨(wr y m d x).toArray⟩ W1 hB1 ?_ ?_))) ?_⟩
    · rw [Lib.byteCells_length]
      have : (⟨(wr y m d x).toArray⟩ : ByteArray).size = (wr y m d x).length := by simp [ByteArray.size]
      omega
    · have := hbl.size; have := hb1.size; omega
    rintro e W2 ⟨rfl, hB2, hb2, hk2⟩
    have hs1 := hbl.size
    have hs2 := hb1.size
    gi_wp2_with fail
    have hv2 : Holds1 W0.heap.size v 9 W2 := (hv.below hb1 hvlt).others hk2 (fun e => by have := Hs0.out; injection e; omega) (by decide)
    refine ⟨(keeps_of_below hb1).trans (keeps_of_others hB1 hb2.size hk2), ?_, ⟨v, hv2⟩, ?_, ?_, ?_⟩
    · unfold fieldsKp; unfold Holds1 at hv2 hv; rw [hv2, hv]
    · rw [wrs_snoc, Lib.byteCells_append]; exact hB2
    · exact (hw.below hb1 hw.lt).others hk2 (fun e => by injection e; omega) (by decide)
    · exact (hbl.trans (hb1.mono hbl.size)).trans hb2
  case done =>
    rintro D W hD ⟨hv, hb, hw, hbl⟩ hK
    gi_wp2_with fail
    refine ⟨trivial, CallsIn.mono (callsIn_wide.2 (Try.Builder_String_any_k w.heap.size (w.heap.size + 1) _ W (Lib.IsBuilderF.of hb) hbl.size)) ?_⟩
    rintro e W1 ⟨rfl, _, hb1, hk1⟩
    have hK1 := (keeps_of_others hb hb1.size hk1).same _ _ hK rfl
    have hs := Hs0.out
    gi_wp2_with fail
    refine ⟨by simp, .inl ⟨_, _, rfl, run_takeDeferred hK1, ?_⟩⟩
    refine ⟨_, results_tmp rfl _ _ _, rfl, (hbl.trans hb1).grown (grownBy_putObj' W1 D _) (by have := hb1.size; have := hbl.size; omega) (fun k e => by injection e; simp at hD; omega)⟩
  case stop =>
    rintro D c pre W _ _ h _
    exact h.elim
end Go.Proofs.Ytbfiflinonnmcaa
