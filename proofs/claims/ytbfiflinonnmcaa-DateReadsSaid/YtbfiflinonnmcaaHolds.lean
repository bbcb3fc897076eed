/- Small facts on blocks of cells of the call's own: what they hold, and what keeps them. Conditions: those of each theorem. -/
import Derived.RangeFuncFrom
import Derived.Lib.OthersKept
import Derived.Below
import Derived.WalkKit
import Derived.Deep.QuietTactic
namespace Go.Proofs.Ytbfiflinonnmcaa
open Go.RowKit

/-- block b is a row of the cells cs, none of them frozen -/
def HoldsA (b : Nat) (cs : Array Value) (T : TypeId) (W : World) : Prop := W.heap[b]? = some (.cells cs T (0, 0))
theorem HoldsA.cell {b : Nat} {cs : Array Value} {T : TypeId} {W : World} (h : HoldsA b cs T W) (j : Nat) : W.cell? ⟨b, j, none⟩ = cs[j]? := by unfold HoldsA at h; simp [World.cell?, h]
theorem HoldsA.free {b : Nat} {cs : Array Value} {T : TypeId} {W : World} (h : HoldsA b cs T W) (j : Nat) : W.frozen? ⟨b, j, none⟩ = false := by unfold HoldsA at h; simp [World.frozen?, h]
theorem HoldsA.lt {b : Nat} {cs : Array Value} {T : TypeId} {W : World} (h : HoldsA b cs T W) : b < W.heap.size := (Array.getElem?_eq_some_iff.1 h).1
theorem HoldsA.grown {b : Nat} {cs : Array Value} {T : TypeId} {A A' : World} {row : Option Nat} (h : HoldsA b cs T A) (hg : A.grownBy A' row) (hr : row ≠ some b) : HoldsA b cs T A' := by
  unfold HoldsA
  rw [hg.block b h.lt (fun e => hr e.symm)]; exact h
/-- a block abides a turn of a block of another kind -/
theorem HoldsA.kinds {b : Nat} {cs : Array Value} {T : TypeId} {A A' : World} {row : Option Nat} (h : HoldsA b cs T A) (hg : A.grownBy A' row)
    (hr : ∀ r, row = some r → ∃ o, A.heap[r]? = some o ∧ (∀ c fz, o ≠ .cells c T fz)) : HoldsA b cs T A' := by
  refine h.grown hg (fun e => ?_)
  obtain ⟨o, ho, h1⟩ := hr b e
  unfold HoldsA at h
  rw [h] at ho; cases ho
  exact h1 _ _ rfl
theorem HoldsA.new (b : Nat) (w : World) (cs : Array Value) (T : TypeId) (hb : b = w.heap.size) : HoldsA b cs T (w.alloc (.cells cs T)) := by
  subst hb; exact World.alloc_heap_new w _
theorem HoldsA.alloc {b : Nat} {cs : Array Value} {T : TypeId} {W : World} (h : HoldsA b cs T W) (o : Obj) : HoldsA b cs T (W.alloc o) := by
  unfold HoldsA; rw [Below.heap_alloc _ _ _ h.lt]; exact h
theorem HoldsA.others {b : Nat} {cs : Array Value} {T e : TypeId} {x : Option Nat} {A A' : World} (h : HoldsA b cs T A) (ho : Lib.OthersKept e x A A') (hx : some b ≠ x) (hT : T ≠ e) : HoldsA b cs T A' :=
  ho b _ h hx (fun c fz e => by cases e; exact hT rfl)
theorem HoldsA.below {b B : Nat} {cs : Array Value} {T : TypeId} {A A' : World} (h : HoldsA b cs T A) (hb : Below B A A') (hlt : b < B) : HoldsA b cs T A' := by
  unfold HoldsA; rw [hb.block b hlt]; exact h
theorem HoldsA.set {b : Nat} {cs : Array Value} {T : TypeId} {W : World} (h : HoldsA b cs T W) (j : Nat) (u : Value) : HoldsA b (cs.setIfInBounds j u) T (W.setCell ⟨b, j, none⟩ u) := by
  unfold HoldsA at *; simp [World.setCell, Array.getElem?_modify, h]
theorem HoldsA.setOther {b : Nat} {cs : Array Value} {T : TypeId} {W : World} (h : HoldsA b cs T W) (a : Addr) (ha : b ≠ a.block) (u : Value) : HoldsA b cs T (W.setCell a u) := by
  unfold HoldsA at *; rw [Below.heap_setCell _ _ _ _ ha]; exact h
theorem HoldsA.drew {b : Nat} {cs : Array Value} {T : TypeId} {W : World} (h : HoldsA b cs T W) (n : Nat) : HoldsA b cs T (W.drewN n) := h
theorem grown_set (W : World) (a : Addr) (u : Value) : W.grownBy (W.setCell a u) (some a.block) :=
  ⟨rfl, rfl, rfl, by simp [World.setCell], fun k _ hk => Below.heap_setCell _ _ _ _ (fun e => hk (by rw [e]))⟩
theorem notCells {o : Obj} (h : o.isCells = false) (c : Array Value) (t : TypeId) (fz : Nat × Nat) : o ≠ .cells c t fz := by rintro rfl; cases h
theorem below_grown {A A' : World} (h : Below A.heap.size A A') : A.grownBy A' none := ⟨h.os, h.tape, h.output, h.size, fun k hk _ => h.block k hk⟩
theorem keeps_of_below {W W' : World} (h : Below W.heap.size W W') : KeepsOthers W W' :=
  ⟨h.size, fun k _ hk _ => (h.block k (Array.getElem?_eq_some_iff.1 hk).1).trans hk⟩
theorem keeps_of_set {W : World} (a : Addr) (u : Value) : KeepsOthers W (W.setCell a u) := KeepsOthers.setCell W a u
end Go.Proofs.Ytbfiflinonnmcaa
