/- strings.ContainsAny at the ten digits, for every string of at most 40 bytes. -/
import Derived.Test.YtbfiflinonnmcaaDateS5
namespace Go.Proofs.Ytbfiflinonnmcaa
open Go.RowKit

theorem noAny_skip {l : List UInt8} {i k : Nat} (h : Lib.NoAny l tenDigits i) (hk : ∀ j b, i ≤ j → j < k → l[j]? = some b → 128 ≤ b.toNat) : Lib.NoAny l tenDigits k := fun j b hj hb => by
  by_cases e : j < i
  · exact h j b e hb
  · have := hk j b (by omega) hj hb
    rcases Bool.eq_false_or_eq_true (tenDigits.contains b) with hc | hc
    · have hm : b ∈ tenDigits := by simpa using hc
      have := (show ∀ z ∈ tenDigits, z.toNat < 128 by decide) b hm
      omega
    · exact hc

set_option maxHeartbeats 4000000 in
set_option maxRecDepth 100000 in
theorem indexAny_short (s : ByteArray) (w : World) (h8 : s.size ≤ 8) :
    Calls Try.prog 62 #[.string s, .string tenS] w fun e w' => e = .returned (.int .i64 (Lib.indexAny s.data.toList tenDigits)) ∧ Below w.heap.size w w' := by
  have h8z : decide ((8 : Int) < (s.size : Int)) = false := decide_eq_false (by omega)
  go_enter Try.func62, Try.ntmps62
  go_wp2_with (go_at_call 68; refine (Try.strings_shouldUseASCIISet _ _).mono ?_; rintro e w' ⟨rfl, hw⟩; rw [hw, h8z]; clear hw)
  go_loopw [9, 10] (fun _ _ wx => ∃ i : Nat, i ≤ s.size ∧ Below w.heap.size w wx ∧ wx.heap[w.heap.size]? = some (.stringIter s i) ∧ Lib.NoAny s.data.toList tenDigits i) (fun _ _ wx => s.size - wx.iterPos w.heap.size)
  case atStart => exact ⟨0, by omega, below_iter _ _ _, World.iter_heap _ _ _, Lib.NoAny.zero _ _⟩
  case round =>
    obtain ⟨i, his, hbl, hit, hno⟩ := hrel
    have HN := Lib.hid hno
    have hip : wr.iterPos w.heap.size = i := by simp [World.iterPos, hit]
    have Hip := Lib.hid hip
    have hbs := hbl.size
    clear hno hip
    by_cases hi : i < s.size
    · obtain ⟨x, hx⟩ : ∃ x : UInt8, s[i]'hi = x := ⟨_, rfl⟩
      have hxl : s.data.toList[i]? = some x := by rw [← hx]; exact Lib.data_getElem? s i hi
      have Hxl := Lib.hid hxl
      have Hx := Lib.hid hx
      have Hit := Lib.hid hit
      clear hxl
      by_cases hx128 : x.toNat < 128
      · have hnx := fun ty => Lib.run_next_ascii_at (P := Try.prog) wr w.heap.size s i ty hit hi (by rw [hx]; exact hx128)
        rw [hx] at hnx
        have hb2 := Lib.below_iterAt (Below.refl w.heap.size wr) (Nat.le_refl w.heap.size) s (i + 1)
        have hi2 := Lib.iterAt_heap wr w.heap.size s i (i + 1) hit
        have hip2 : (wr.iterAt w.heap.size s (i + 1)).iterPos w.heap.size = i + 1 := by simp [World.iterPos, hi2]
        have HB := Lib.hid (show ((x.toNat : Int)).toNat.toUInt8 = x by simp)
        have Hi2 := Lib.hid hi2
        have Hip2 := Lib.hid hip2
        generalize wr.iterAt w.heap.size s (i + 1) = w2 at *
        have hcon := Lib.contains_iff_indexByte tenDigits x
        clear hx hit hi2 hip2
        rcases Bool.eq_false_or_eq_true (tenDigits.contains x) with hin | hin
        · rw [hin] at hcon
          have hge : (0 : Int) ≤ Lib.indexByte tenDigits x := of_decide_eq_true hcon.symm
          obtain ⟨v, hv⟩ : ∃ v, Lib.indexByte tenDigits x = v := ⟨_, rfl⟩
          rw [hv] at hge
          have Hin := Lib.hid hin
          have Hv := Lib.hid hv
          clear hcon hin hv
          go_wp2_with (go_at_call 67; refine (Try.strings_IndexRune_ascii _ _ _ (by omega) (by omega)).mono ?_; rintro e w' ⟨rfl, hw⟩; rw [hw, HB.out, show Lib.indexByte tenS.data.toList x = v from Hv.out]; clear hw)
          go_ret
          exact ⟨by rw [Lib.indexAny_hit HN.out Hxl.out Hin.out]; rfl, hbl.trans hb2⟩
        · rw [hin] at hcon
          have hge : ¬ (0 : Int) ≤ Lib.indexByte tenDigits x := of_decide_eq_false hcon.symm
          obtain ⟨v, hv⟩ : ∃ v, Lib.indexByte tenDigits x = v := ⟨_, rfl⟩
          rw [hv] at hge
          have Hin := Lib.hid hin
          have Hv := Lib.hid hv
          clear hcon hin hv
          go_wp2_with (go_at_call 67; refine (Try.strings_IndexRune_ascii _ _ _ (by omega) (by omega)).mono ?_; rintro e w' ⟨rfl, hw⟩; rw [hw, HB.out, show Lib.indexByte tenS.data.toList x = v from Hv.out]; clear hw)
          go_roundw
          case rel => exact ⟨i + 1, by omega, hbl.trans hb2, Hi2.out, HN.out.succ Hxl.out Hin.out⟩
          case measure => rw [Hip2.out, Hip.out]; omega
      · have hd := decode_hi s i hi (by rw [hx]; omega)
        have hnx := fun ty => Lib.run_next_any_at (P := Try.prog) wr w.heap.size s i ty hit hi
        obtain ⟨⟨c, k⟩, hck⟩ : ∃ ck, Utf8.decode s i = ck := ⟨_, rfl⟩
        rw [hck] at hd hnx
        obtain ⟨d1, d2, d3, d4, d5⟩ := hd
        simp only at d1 d2 d3 d4 d5 hnx
        have hb2 := Lib.below_iterAt (Below.refl w.heap.size wr) (Nat.le_refl w.heap.size) s (i + k)
        have hi2 := Lib.iterAt_heap wr w.heap.size s i (i + k) hit
        have hlt2 : w.heap.size < (wr.iterAt w.heap.size s (i + k)).heap.size := (Array.getElem?_eq_some_iff.1 hi2).1
        have Hi2 := Lib.hid hi2
        have D2 := Lib.hid d2
        have D5 := Lib.hid d5
        generalize wr.iterAt w.heap.size s (i + k) = w2 at *
        have hsk : Lib.NoAny s.data.toList tenDigits (i + k) := noAny_skip HN.out (fun j b hj1 hj2 hb => by
          have hjs : j < s.size := by omega
          have := D5.out (j - i) (by omega) (by omega)
          have e : s.data.toList[j]? = some (s[j]'hjs) := Lib.data_getElem? s j hjs
          rw [e] at hb; cases hb
          simpa [show i + (j - i) = j by omega] using this)
        have Hsk := Lib.hid hsk
        have hc1 : (128 : Int) ≤ (c : Int) := by omega
        clear hx hit hi2 d2 d5 hck hsk
        by_cases hbad : (c : Int) = 65533
        · have hnx' := fun ty => hnx ty
          rw [hbad] at hnx'
          have Hbad := Lib.hid hbad
          clear hnx hbad hc1 d1 D2
          go_wp2_with (go_at_call 67; refine (indexRune_bad _).mono ?_; rintro e w3 ⟨rfl, hb3⟩)
          go_roundw
          case rel => exact ⟨i + k, d4, hbl.trans (hb2.trans (hb3.mono (by omega))), (hb3.block _ hlt2).trans Hi2.out, Hsk.out⟩
          case measure =>
            have h3 : w3.heap[w.heap.size]? = some (.stringIter s (i + k)) := (hb3.block _ hlt2).trans Hi2.out
            have : w3.iterPos w.heap.size = i + k := by simp [World.iterPos, h3]
            rw [this, Hip.out]; omega
        · go_wp2_with (go_at_call 67; refine (indexRune_hi _ _ hc1 D2.out hbad).mono ?_; rintro e w3 ⟨rfl, hb3⟩)
          go_roundw
          case rel => exact ⟨i + k, d4, hbl.trans (hb2.trans (hb3.mono (by omega))), (hb3.block _ hlt2).trans Hi2.out, Hsk.out⟩
          case measure =>
            have h3 : w3.heap[w.heap.size]? = some (.stringIter s (i + k)) := (hb3.block _ hlt2).trans Hi2.out
            have : w3.iterPos w.heap.size = i + k := by simp [World.iterPos, h3]
            rw [this, Hip.out]; omega
    · obtain rfl : i = s.size := by omega
      have hnx := fun ty => Lib.run_next_end_at (P := Try.prog) wr w.heap.size s s.size ty hit (by omega)
      clear hit
      go_wp2
      go_ret
      exact ⟨by rw [Lib.indexAny_none (by rw [← Lib.size_eq]; exact HN.out)]; rfl, hbl⟩

def hasDig (l : List UInt8) : Bool := l.any fun b => tenDigits.contains b
theorem indexAny_hasDig : ∀ l : List UInt8, decide (0 ≤ Lib.indexAny l tenDigits) = hasDig l
  | [] => rfl
  | b :: l => by
    have ih := indexAny_hasDig l
    have hge := Lib.indexAny_ge tenDigits l
    unfold hasDig at *
    rw [List.any_cons, Lib.indexAny]
    rcases Bool.eq_false_or_eq_true (tenDigits.contains b) with h | h
    · rw [h]; simp
    · rw [h, ← ih]
      by_cases e : Lib.indexAny l tenDigits = -1
      · simp [e]
      · have e2 : (Lib.indexAny l tenDigits == -1) = false := by simpa using e
        simp only [e2]
        simp; omega

set_option maxHeartbeats 400000 in
theorem containsAny_any (l : List UInt8) (w : World) (h40 : l.length ≤ 40) :
    Calls Try.prog 54 #[Str l, .string tenS] w fun e w' => e = .returned (.bool (hasDig l)) ∧ Below w.heap.size w w' := by
  have hsz : (⟨l.toArray⟩ : ByteArray).size = l.length := by simp [ByteArray.size]
  have hix : Calls Try.prog 62 #[Str l, .string tenS] w fun e w' => e = .returned (.int .i64 (Lib.indexAny l tenDigits)) ∧ Below w.heap.size w w' := by
    by_cases h8 : l.length ≤ 8
    · exact indexAny_short ⟨l.toArray⟩ w (by omega)
    · refine (Try.strings_IndexAny_long (by intro w; kernel_rfl) ⟨l.toArray⟩ tenS w (by decide) (by omega) (by omega) (by decide) ?_).mono ?_
      · intro j b hb
        have : b ∈ tenDigits := List.mem_of_getElem? hb
        exact (show ∀ z ∈ tenDigits, z.toNat < 128 by decide) b this
      · rintro e w' ⟨rfl, hw⟩
        rw [hw]
        exact ⟨rfl, ((Below.refl _ _).alloc (Nat.le_refl _) _).alloc (by simp) _⟩
  have hd := indexAny_hasDig l
  obtain ⟨v, hv⟩ : ∃ v, Lib.indexAny l tenDigits = v := ⟨_, rfl⟩
  rw [hv] at hd hix
  have Hd := Lib.hid hd
  have Hix := Lib.hid hix
  clear hd hix hv hsz
  go_enter Try.func54, Try.ntmps54
  go_wp2_with (go_at_call 62; refine Calls.mono Hix.out ?_; rintro e w' ⟨rfl, hb⟩)
  go_ret
  exact ⟨ret_bool Hd.out, hb⟩
end Go.Proofs.Ytbfiflinonnmcaa
