/- Which strings hold a digit: strings.ContainsAny at the ten digits, for every string of at most 40 bytes. -/
import Derived.Test.YtbfiflinonnmcaaDateS4
import Derived.Lib.OthersKept
import Derived.Lib.DecodeN
import Derived.Lib.SpaceUEq
import Derived.Laws.Runes
namespace Go.Proofs.Ytbfiflinonnmcaa
open Go.RowKit

def tenDigits : List UInt8 := [48, 49, 50, 51, 52, 53, 54, 55, 56, 57]

theorem decodeN_hi (n b0 b1 b2 b3 : Nat) (hn : 1 ≤ n) (h0 : 128 ≤ b0) (h1 : b0 < 256) :
    128 ≤ (Lib.decodeN n b0 b1 b2 b3).1 ∧ Utf8.valid ((Lib.decodeN n b0 b1 b2 b3).1 : Int) = true ∧ 1 ≤ (Lib.decodeN n b0 b1 b2 b3).2 ∧ (Lib.decodeN n b0 b1 b2 b3).2 ≤ n := by
  unfold Lib.decodeN Utf8.valid
  repeat' split
  all_goals (simp at *; omega)
theorem decode_hi (s : ByteArray) (i : Nat) (hi : i < s.size) (h : 128 ≤ (s[i]'hi).toNat) :
    128 ≤ (Utf8.decode s i).1 ∧ Utf8.valid ((Utf8.decode s i).1 : Int) = true ∧ 1 ≤ (Utf8.decode s i).2 ∧ i + (Utf8.decode s i).2 ≤ s.size ∧ ∀ j (hj : i + j < s.size), j < (Utf8.decode s i).2 → 128 ≤ (s[i + j]'hj).toNat := by
  have hg : ∀ k (hk : k < s.size), s.get! k = s[k]'hk := fun k hk => by
    simp [ByteArray.get!, ByteArray.getElem_eq_getElem_data, hk]
  have h0 := hg i hi
  have h8 : (s[i]'hi).toNat < 256 := UInt8.toNat_lt _
  rw [Lib.decode_at]
  have hc := Lib.decodeN_conts (s.size - i) (s.get! i).toNat (s.get! (i + 1)).toNat (s.get! (i + 2)).toNat (s.get! (i + 3)).toNat
  have hh := decodeN_hi (s.size - i) (s.get! i).toNat (s.get! (i + 1)).toNat (s.get! (i + 2)).toNat (s.get! (i + 3)).toNat (by omega) (by rw [h0]; exact h) (by rw [h0]; exact h8)
  refine ⟨hh.1, hh.2.1, hh.2.2.1, by omega, fun j hj hw => ?_⟩
  rcases (show j = 0 ∨ j = 1 ∨ j = 2 ∨ j = 3 by omega) with rfl | rfl | rfl | rfl
  · exact h
  · have := hc.1 (by omega); rw [hg _ hj] at this; omega
  · have := hc.2.1 (by omega); rw [hg _ hj] at this; omega
  · have := hc.2.2.1 (by omega); rw [hg _ hj] at this; omega

abbrev tenS : ByteArray := ⟨#[48, 49, 50, 51, 52, 53, 54, 55, 56, 57]⟩
theorem ten_at (k : Nat) (h : k < tenS.size) : 48 ≤ (tenS[k]'h).toNat ∧ (tenS[k]'h).toNat ≤ 57 := by
  have hs : tenS.size = 10 := rfl
  rcases (show k = 0 ∨ k = 1 ∨ k = 2 ∨ k = 3 ∨ k = 4 ∨ k = 5 ∨ k = 6 ∨ k = 7 ∨ k = 8 ∨ k = 9 by omega) with h | h | h | h | h | h | h | h | h | h <;> subst h <;> exact (by decide +revert)
theorem below_iter (w : World) (s : ByteArray) (pos : Nat) : Below w.heap.size w (w.iter s pos) := (Below.refl _ w).alloc (Nat.le_refl _) _

set_option maxHeartbeats 2000000 in
set_option maxRecDepth 100000 in
theorem indexRune_bad (w : World) :
    Calls Try.prog 67 #[.string tenS, .int .i32 65533] w fun e w' => e = .returned (.int .i64 (-1)) ∧ Below w.heap.size w w' := by
  have hsz : tenS.size = 10 := rfl
  go_enter Try.func67, Try.ntmps67
  clear hsz
  go_wp2
  go_loopg [5, 6] 10 (fun g _ _ wx => ∃ i : Nat, i + g = 10 ∧ wx = w.iter tenS i)
  case atStart => exact ⟨0, rfl, rfl⟩
  case round =>
    obtain ⟨i, hig, rfl⟩ := hrel
    have hsz : tenS.size = 10 := rfl
    cases gk with
    | zero =>
      obtain rfl : i = 10 := by omega
      have hnx := run_next_end (P := Try.prog) w tenS 10
      clear hsz
      go_wp2
      go_ret
      exact ⟨rfl, below_iter _ _ _⟩
    | succ g =>
      have hi : i < tenS.size := by omega
      have hx := ten_at i hi
      have hnx := fun ty => run_next_ascii (P := Try.prog) w tenS i ty hi (by omega)
      obtain ⟨x, hxx⟩ : ∃ x : Nat, x = (tenS[i]'hi).toNat := ⟨_, rfl⟩
      rw [← hxx] at hnx hx
      have hne : ((x : Int) == 65533) = false := beq_eq_false_iff_ne.2 (by omega)
      clear hsz hxx
      go_wp2
      go_roundg g
      case measure => omega
      case rel => exact ⟨i + 1, by omega, rfl⟩

theorem indexByte_none (b : UInt8) : ∀ l : List UInt8, (∀ y ∈ l, y ≠ b) → Lib.indexByte l b = -1
  | [], _ => rfl
  | y :: l, h => by
    have h1 := indexByte_none b l (fun z hz => h z (by simp [hz]))
    have h2 : y ≠ b := h y (by simp)
    simp [Lib.indexByte, h2, h1]
theorem ten_hi (i j : Nat) (x : UInt8) (h : 128 ≤ x.toNat) : Lib.indexByte (tenS.extract i j).data.toList ((x.toNat : Int)).toNat.toUInt8 = -1 := by
  rw [show ((x.toNat : Int)).toNat.toUInt8 = x by simp]
  apply indexByte_none
  intro y hy
  rw [Lib.extract_data] at hy
  have hy2 := List.mem_of_mem_drop (List.mem_of_mem_take hy)
  have : y.toNat < 128 := (show ∀ z ∈ tenDigits, z.toNat < 128 by decide) y hy2
  rintro rfl; omega

set_option maxHeartbeats 4000000 in
set_option maxRecDepth 100000 in
theorem indexRune_hi (c : Int) (w : World) (h : 128 ≤ c) (hv : Utf8.valid c = true) (hc : c ≠ 65533) :
    Calls Try.prog 67 #[.string tenS, .int .i32 c] w fun e w' => e = .returned (.int .i64 (-1)) ∧ Below w.heap.size w w' := by
  have hne : (c == 65533) = false := by simpa using hc
  have hvr : Lib.validRune c = true := by
    unfold Utf8.valid at hv; unfold Lib.validRune
    simp at hv ⊢; omega
  have hef := encode_facts c hv h
  obtain ⟨s, hs⟩ : ∃ s, Utf8.encode c = s := ⟨_, rfl⟩
  rw [hs] at hef
  obtain ⟨z1, z2, z3⟩ := hef
  have hz3 := z3 (by omega)
  clear z3 hc hv
  rcases (show s.size = 2 ∨ s.size = 3 ∨ s.size = 4 by omega) with hz | hz | hz
  all_goals
    obtain ⟨x, hx⟩ : ∃ x : UInt8, s[s.size - 1]'(by omega) = x := ⟨_, rfl⟩
    rw [hx] at hz3
    simp only [hz, Nat.reduceSub] at hx

    have hxn : ((((tenS[1]'(by decide)).toNat : Nat) : Int) != (x.toNat : Int)) = true ∧ ((((tenS[2]'(by decide)).toNat : Nat) : Int) != (x.toNat : Int)) = true ∧ ((((tenS[3]'(by decide)).toNat : Nat) : Int) != (x.toNat : Int)) = true := by
      have a1 := ten_at 1 (by decide)
      have a2 := ten_at 2 (by decide)
      have a3 := ten_at 3 (by decide)
      refine ⟨?_, ?_, ?_⟩ <;> (rw [bne_iff_ne]; omega)
    obtain ⟨n1, n2, n3⟩ := hxn
    go_enter Try.func67, Try.ntmps67
    go_wp2_with (go_at_call 74; refine (Try.utf8_ValidRune _ _).mono ?_; rintro e w' ⟨rfl, rfl⟩; rw [hvr])
    go_step3
    go_wp2_with fail
    refine wp_loop_rounds 1 ?_
    rw [rounds_succ]
    go_wp2_with fail
    go_step3
    go_wp2_with fail
    go_quiet (fail)
    go_wp2_with fail
    have hb2 : Below w'.heap.size w' (w'.drewN nq) := below_drewN (Below.refl _ _) nq
    generalize w'.drewN nq = w2 at hb2 ⊢
    go_quiet ((go_at_call 55; exact Calls.quiet_of_same (Try.strings_IndexByte _ _ _)))
    first | rw [ten_hi 2 10 x hz3] | rw [ten_hi 3 10 x hz3] | rw [ten_hi 4 10 x hz3]
    go_wp2_with fail
    rw [Exit.noGoto_ret]
    go_wp2_with fail
    rw [Exit.noGoto_ret]
    go_wp2_with fail
    go_ret
    exact ⟨rfl, below_drewN hb2 nq⟩
end Go.Proofs.Ytbfiflinonnmcaa
