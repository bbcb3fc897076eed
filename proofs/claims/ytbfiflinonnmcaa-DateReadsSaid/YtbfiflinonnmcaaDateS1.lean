/- Walks over the functions that write numbers as digits, of the program and of the reference. Conditions: the number is from 0 to 9999. -/
import Derived.Test.YtbfiflinonnmcaaDateE
import Derived.Laws.BytesArg
import Derived.Laws.IdiomStrings
namespace Go.Proofs.Ytbfiflinonnmcaa
open Go.RowKit

/-- the last digit of a number, as a byte -/
def dg (n : Int) : UInt8 := UInt8.ofNat (48 + (n % 10).toNat)
theorem dg_val (n : Int) : ((dg n).toNat : Int) = 48 + n % 10 := by
  unfold dg
  rw [UInt8.toNat_ofNat']
  omega
def dgs : Nat → Int → List UInt8
  | 0, _ => []
  | k + 1, n => dgs k (n / 10) ++ [dg n]
theorem dgs_length (k : Nat) (n : Int) : (dgs k n).length = k := by
  induction k generalizing n with
  | zero => rfl
  | succ k ih => simp [dgs, ih]
abbrev Str (l : List UInt8) : Value := .string ⟨l.toArray⟩
theorem ret_str {a b : List UInt8} (h : a = b) : Ending.returned (Str a) = .returned (Str b) := by rw [h]

theorem conv_cells (w : World) (C : Array Value) (cap : Nat) (l : List UInt8) (hC : C.toList = l.map fun b => Value.int .u8 (b.toNat : Int)) (t : TypeId) :
    (convert 48 9 (.slice (some ⟨w.heap.size, 0, none⟩) l.length cap)).run Try.prog (w.alloc (.cells C t)) = .ok (Str l) (w.alloc (.cells C t)) := by
  refine run_convert_bytes_back (P := Try.prog) _ 48 9 5 _ cap l Try.underlying48 Try.underlying5 Try.underlying9 (fun j hj => ?_)
  rw [show (⟨w.heap.size, 0, none⟩ : Addr).add j = ⟨w.heap.size, j, none⟩ by (simp [Addr.add]; omega), World.cell?_alloc_at _ _ _ _ rfl, ← Array.getElem?_toList, hC]
  simp [hj]

set_option maxHeartbeats 1000000 in
theorem digits2_any (n : Int) (w : World) (h0 : 0 ≤ n) (h1 : n ≤ 9999) :
    Calls Try.prog 58 #[.int .i64 n, .int .i64 2] w fun e w' => e = .returned (Str (dgs 2 n)) ∧ Below w.heap.size w w' := by
  have hmk : ∀ w, (Instr.makeSlice 48 (.int .i64 2) (.int .i64 2)).run Try.prog w = .ok (.slice (some ⟨w.heap.size, 0, none⟩) 2 2) (w.alloc (.cells #[.int .u8 0, .int .u8 0] 5)) := fun _ => by kernel_rfl
  have hcv := conv_cells w #[.int .u8 (48 + n / 10 % 10), .int .u8 (48 + n % 10)] 2 [dg (n / 10), dg n] (by simp [dg_val]) 5
  simp only [List.length_cons, List.length_nil, Nat.zero_add, Nat.reduceAdd] at hcv
  go_enter Try.func58, Try.ntmps58
  go_wp2
  refine wp_loop_rounds 3 ?_
  rw [rounds_succ]
  go_wp2
  rw [rounds_succ]
  go_wp2
  rw [rounds_succ]
  go_wp2
  go_ret
  exact ⟨rfl, (Below.refl _ _).alloc (Nat.le_refl _) _⟩
set_option maxHeartbeats 1000000 in
theorem digits4_any (n : Int) (w : World) (h0 : 0 ≤ n) (h1 : n ≤ 9999) :
    Calls Try.prog 58 #[.int .i64 n, .int .i64 4] w fun e w' => e = .returned (Str (dgs 4 n)) ∧ Below w.heap.size w w' := by
  have hmk : ∀ w, (Instr.makeSlice 48 (.int .i64 4) (.int .i64 4)).run Try.prog w = .ok (.slice (some ⟨w.heap.size, 0, none⟩) 4 4) (w.alloc (.cells #[.int .u8 0, .int .u8 0, .int .u8 0, .int .u8 0] 5)) := fun _ => by kernel_rfl
  have hcv := conv_cells w #[.int .u8 (48 + n / 10 / 10 / 10 % 10), .int .u8 (48 + n / 10 / 10 % 10), .int .u8 (48 + n / 10 % 10), .int .u8 (48 + n % 10)] 4 [dg (n / 10 / 10 / 10), dg (n / 10 / 10), dg (n / 10), dg n] (by simp [dg_val]) 5
  simp only [List.length_cons, List.length_nil, Nat.zero_add, Nat.reduceAdd] at hcv
  go_enter Try.func58, Try.ntmps58
  go_wp2
  refine wp_loop_rounds 5 ?_
  rw [rounds_succ]
  go_wp2
  rw [rounds_succ]
  go_wp2
  rw [rounds_succ]
  go_wp2
  rw [rounds_succ]
  go_wp2
  rw [rounds_succ]
  go_wp2
  go_ret
  exact ⟨rfl, (Below.refl _ _).alloc (Nat.le_refl _) _⟩

/-! ### the reference's digits -/
def rdg : Nat → Int → Int → List UInt8
  | 0, _, _ => []
  | k + 1, n, l => if 0 < n ∨ 0 < l then rdg k (n / 10) (l - 1) ++ [dg n] else []
theorem rdg_step (k : Nat) (n l : Int) (s : List UInt8) (h : 0 < n ∨ 0 < l) : rdg (k + 1) n l ++ s = rdg k (n / 10) (l - 1) ++ (dg n :: s) := by
  simp [rdg, h]
theorem rdg_end (k : Nat) (n l : Int) (h : ¬ (0 < n ∨ 0 < l)) : rdg k n l = [] := by
  cases k with
  | zero => rfl
  | succ k => simp [rdg, h]

set_option maxHeartbeats 1000000 in
theorem refdigits_any (n l : Int) (w : World) (h0 : 0 ≤ n) (h1 : n ≤ 9999) (hl0 : 0 ≤ l) (hl : l ≤ 4) :
    Calls Try.prog 47 #[.int .i64 n, .int .i64 l] w fun e w' => e = .returned (Str (rdg 4 n l)) ∧ Below w.heap.size w w' := by
  go_enter Try.func47, Try.ntmps47
  go_wp2
  go_loopw [0, 1, 5] (fun a b s wr => Below w.heap.size w wr ∧ ∃ (k : Nat) (n' l' : Int) (s' : List UInt8), a = .int .i64 n' ∧ b = .int .i64 l' ∧ s = Str s' ∧ rdg 4 n l = rdg k n' l' ++ s' ∧ 0 ≤ n' ∧ n' < 10 ^ k ∧ l' ≤ k ∧ -10 ≤ l' ∧ k ≤ 4 ∧ s'.length + k = 4 ∧ -6 ≤ l' - k) (fun a b _ _ => (intOf a).toNat + (intOf b).toNat)
  case atStart => exact ⟨Below.refl _ _, 4, n, l, [], rfl, rfl, rfl, by simp, h0, by omega, by omega, by omega, by omega, rfl, by omega⟩
  case round =>
    obtain ⟨hb, k, n', l', s', rfl, rfl, rfl, he, hn0, hnk, hlk, hl10, hk4, hsl, hlk2⟩ := hrel
    by_cases hc : 0 < n' ∨ 0 < l'
    · cases k with
      | zero => exfalso; simp at hnk; omega
      | succ k =>
        have hcv := conv_cells wr #[.int .u8 (48 + n' % 10)] 1 [dg n'] (by simp [dg_val]) 5
        simp only [List.length_cons, List.length_nil, Nat.zero_add] at hcv
        rw [rdg_step k n' l' s' hc] at he
        have He := Lib.hid he
        have hp : n' < 10 ^ k * 10 := by rw [← Int.pow_succ]; exact hnk
        have hn9 : n' ≤ 9999 := by
          have : (10 : Int) ^ k ≤ 10 ^ 3 := by
            rcases (show k = 0 ∨ k = 1 ∨ k = 2 ∨ k = 3 by omega) with h | h | h | h <;> subst h <;> decide
          omega
        have Hp := Lib.hid hp
        have Hc := Lib.hid hc
        clear he hp hnk hc
        by_cases hz : 0 < n'
        · go_wp2
          go_roundw
          case rel => exact ⟨hb.trans (((Below.refl _ wr).alloc (Nat.le_refl _) _).mono hb.size), k, n' / 10, l' - 1, dg n' :: s', rfl, rfl, rfl, He.out, by omega, by have := Hp.out; omega, by omega, by omega, by omega, by simp; omega, by omega⟩
          case measure => simp [intOf]; omega
        · obtain rfl : n' = 0 := by omega
          have hl0 : 0 < l' := by have := Hc.out; omega
          have hcv0 := conv_cells wr #[.int .u8 48] 1 [dg 0] (by simp [dg_val]) 5
          simp only [List.length_cons, List.length_nil, Nat.zero_add] at hcv0
          clear hcv hn0 hn9 hz
          obtain ⟨d0, hd0⟩ : ∃ d, d = dg 0 := ⟨_, rfl⟩
          rw [← hd0] at hcv0
          have Hd0 := Lib.hid hd0
          clear hd0
          go_wp2
          go_roundw
          case rel => exact ⟨hb.trans (((Below.refl _ wr).alloc (Nat.le_refl _) _).mono hb.size), k, 0, l' - 1, d0 :: s', rfl, rfl, rfl, by rw [Hd0.out]; exact He.out, by omega, by have := Hp.out; omega, by omega, by omega, by omega, by simp; omega, by omega⟩
          case measure => simp [intOf]; omega
    · have hn' : n' = 0 := by omega
      subst hn'
      rw [rdg_end k 0 l' hc, List.nil_append] at he
      have He := Lib.hid he
      clear he
      by_cases hz : (0 : Int) < l'
      · omega
      · go_wp2
        go_ret
        exact ⟨ret_str He.out.symm, hb⟩
end Go.Proofs.Ytbfiflinonnmcaa
