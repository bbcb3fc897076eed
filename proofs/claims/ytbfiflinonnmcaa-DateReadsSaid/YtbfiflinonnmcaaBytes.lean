/- Bytes of a string in a slice of the call's own, and back. Conditions: those of each theorem. -/
import Derived.Laws.IdiomStrings
import Derived.Test.YtbfiflinonnmcaaHolds
namespace Go.Proofs.Ytbfiflinonnmcaa
open Go.RowKit

/-- block b begins with the bytes l; none of them is frozen -/
def BytesAt (b : Nat) (l : List UInt8) (W : World) : Prop :=
  b < W.heap.size ∧ ∀ (j : Nat) (h : j < l.length), W.cell? ⟨b, j, none⟩ = some (.int .u8 (l[j].toNat : Int)) ∧ W.frozen? ⟨b, j, none⟩ = false
theorem BytesAt.below {b B : Nat} {l : List UInt8} {A A' : World} (h : BytesAt b l A) (hb : Below B A A') (hlt : b < B) : BytesAt b l A' :=
  ⟨Nat.lt_of_lt_of_le h.1 hb.size, fun j hj => ⟨(hb.cell hlt).trans (h.2 j hj).1, (hb.frozen hlt).trans (h.2 j hj).2⟩⟩
theorem BytesAt.set {b : Nat} {l : List UInt8} {W : World} (h : BytesAt b l W) (j : Nat) (hj : j < l.length) (x : UInt8) (n : Int) (hn : n = (x.toNat : Int)) : BytesAt b (l.set j x) (W.setCell ⟨b, j, none⟩ (.int .u8 n)) := by
  refine ⟨by simpa [World.setCell] using h.1, fun i hi => ?_⟩
  rw [List.length_set] at hi
  refine ⟨?_, (World.frozen?_setCell _ _ _ _).trans (h.2 i hi).2⟩
  by_cases e : j = i
  · subst e
    rw [World.cell?_setCell_same W _ _ (h.2 j hj).1, hn]
    simp
  · rw [World.cell?_setCell_other W _ _ _ (by intro e2; injection e2 with _ e3 _; exact e e3)]
    rw [(h.2 i hi).1]
    simp [e]
theorem BytesAt.back {P : Program} {b : Nat} {l : List UInt8} {W : World} (h : BytesAt b l W) (src dst e : TypeId) (cap : Nat) (hs : P.underlying src = some (.slice e)) (he : P.underlying e = some (.int .u8)) (hd : P.underlying dst = some .string) :
    (convert src dst (.slice (some ⟨b, 0, none⟩) l.length cap)).run P W = .ok (.string ⟨l.toArray⟩) W :=
  run_convert_bytes_back (P := P) W src dst e ⟨b, 0, none⟩ cap l hs he hd (fun j hj => by
    rw [show (⟨b, 0, none⟩ : Addr).add j = ⟨b, j, none⟩ by (simp [Addr.add]; omega)]
    exact (h.2 j hj).1)
theorem bytes_of {P : Program} (W : World) (src dst e : TypeId) (l : List UInt8) (hs : P.underlying src = some .string) (hd : P.underlying dst = some (.slice e)) (he : P.underlying e = some (.int .u8)) :
    ∃ cap W2, (convert src dst (.string ⟨l.toArray⟩)).run P W = .ok (.slice (some ⟨W.heap.size, 0, none⟩) l.length cap) W2 ∧ BytesAt W.heap.size l W2 ∧ Below W.heap.size W W2 ∧ W2.heap.size = W.heap.size + 1 := by
  have hsz : (⟨l.toArray⟩ : ByteArray).size = l.length := by simp [ByteArray.size]
  refine ⟨_, _, by rw [run_bytes_of_string W src dst e ⟨l.toArray⟩ hs hd he, hsz], ⟨by simp, fun j hj => ?_⟩, ((Below.refl _ W).drew).alloc (Nat.le_refl _) _, by simp⟩
  have hat := bytesRow_at ⟨l.toArray⟩ (grownCap W l.length 0 e) j (by simpa using hj)
  have e1 : (W.drew.alloc (.cells (bytesRow (⟨l.toArray⟩ : ByteArray) (grownCap W l.length 0 e)) e ((bytesRow (⟨l.toArray⟩ : ByteArray) (grownCap W l.length 0 e)).size, (bytesRow (⟨l.toArray⟩ : ByteArray) (grownCap W l.length 0 e)).size + 1))).heap[W.heap.size]? = some (.cells (bytesRow (⟨l.toArray⟩ : ByteArray) (grownCap W l.length 0 e)) e ((bytesRow (⟨l.toArray⟩ : ByteArray) (grownCap W l.length 0 e)).size, (bytesRow (⟨l.toArray⟩ : ByteArray) (grownCap W l.length 0 e)).size + 1)) := World.alloc_heap_new W.drew _
  constructor
  · unfold World.cell?
    simp only
    rw [e1]
    simpa using hat
  · have hlt : j < (bytesRow (⟨l.toArray⟩ : ByteArray) (grownCap W l.length 0 e)).size := (Array.getElem?_eq_some_iff.1 hat).1
    unfold World.frozen?
    simp only
    rw [e1]
    simp
    omega
end Go.Proofs.Ytbfiflinonnmcaa
