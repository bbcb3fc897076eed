/- A walk over the reference's Layout. -/
import Derived.Test.YtbfiflinonnmcaaDateR5
import Derived.Test.YtbfiflinonnmcaaRegion
import Derived.Deep.DeepCutAuto
namespace Go.Proofs.Ytbfiflinonnmcaa
open Go.RowKit
attribute [local go_sem] Oper.semAt_some

theorem modR_nat (n m : Int) (h : 0 < m) : ∃ j : Nat, modR n m = j ∧ (j : Int) < m := by
  have h1 := Int.emod_nonneg n (show m ≠ 0 by omega)
  have h2 := Int.emod_lt_of_pos n h
  exact ⟨(modR n m).toNat, by unfold modR; omega, by unfold modR; omega⟩
def formM (j : Nat) : List UInt8 := if j = 0 then fM else [77]
def formD (j : Nat) : List UInt8 := if j = 0 then fD else [68]
def permA (j : Nat) : Nat := if j = 0 ∨ j = 1 then 0 else if j = 2 ∨ j = 3 then 1 else 2
def permB (j : Nat) : Nat := if j = 2 ∨ j = 4 then 0 else if j = 0 ∨ j = 5 then 1 else 2
def permC (j : Nat) : Nat := if j = 3 ∨ j = 5 then 0 else if j = 1 ∨ j = 4 then 1 else 2
def pick3 (a b c : List UInt8) (k : Nat) : List UInt8 := if k = 0 then a else if k = 1 then b else c
def seps (j : Nat) : List UInt8 := [[45], [46], [47], [32], [44, 32], [120], [32, 111, 102, 32]].getD j []
def sepU (j : Nat) : List UInt8 := if seps j = [] then [95] else seps j
/-- the layouts that are right -/
def layN (a b c d : Nat) : List UInt8 :=
  pick3 fY (formM a) (formD b) (permA c) ++ sepU d ++ pick3 fY (formM a) (formD b) (permB c) ++ sepU d ++ pick3 fY (formM a) (formD b) (permC c)
theorem layN_right (a b c d : Nat) (ha : a < 2) (hb : b < 2) (hc : c < 6) (hd : d < 8) : rightB (layN a b c d) = true := by
  have h : ∀ (a b : Fin 2) (c : Fin 6) (d : Fin 8), rightB (layN a.1 b.1 c.1 d.1) = true := by decide +kernel
  exact h ⟨a, ha⟩ ⟨b, hb⟩ ⟨c, hc⟩ ⟨d, hd⟩
theorem pick3_len {a b c : List UInt8} (ha : a.length ≤ 4) (hb : b.length ≤ 4) (hc : c.length ≤ 4) (k : Nat) : (pick3 a b c k).length ≤ 4 := by
  unfold pick3; (repeat' split) <;> assumption
theorem pick3_cell {g : Nat} {a b c : List UInt8} {W : World} (h : HoldsA g #[Str a, Str b, Str c] 9 W) (k : Nat) (hk : k < 3) : W.cell? ⟨g, k, none⟩ = some (Str (pick3 a b c k)) := by
  rw [h.cell]
  obtain rfl | rfl | rfl : k = 0 ∨ k = 1 ∨ k = 2 := by omega
  all_goals rfl
theorem perm_bd (j : Nat) : permA j < 3 ∧ permB j < 3 ∧ permC j < 3 := by
  unfold permA permB permC; refine ⟨?_, ?_, ?_⟩ <;> (repeat' split) <;> omega
theorem seps_len (j : Nat) (h : j < 8) : (seps j).length ≤ 4 := by
  obtain rfl | rfl | rfl | rfl | rfl | rfl | rfl | rfl : j = 0 ∨ j = 1 ∨ j = 2 ∨ j = 3 ∨ j = 4 ∨ j = 5 ∨ j = 6 ∨ j = 7 := by omega
  all_goals decide
theorem seps_cell {g : Nat} {W : World} (h : HoldsA g #[Str [45], Str [46], Str [47], Str [32], Str [44, 32], Str [120], Str [32, 111, 102, 32], Str []] 9 W) (j : Nat) (hj : j < 8) : W.cell? ⟨g, j, none⟩ = some (Str (seps j)) := by
  rw [h.cell]
  obtain rfl | rfl | rfl | rfl | rfl | rfl | rfl | rfl : j = 0 ∨ j = 1 ∨ j = 2 ∨ j = 3 ∨ j = 4 ∨ j = 5 ∨ j = 6 ∨ j = 7 := by omega
  all_goals rfl

theorem orders_of (W : World) : Below W.heap.size W (((((((W.alloc (.cells #[.int .i64 0, .int .i64 1, .int .i64 2] 3)).alloc (.cells #[.int .i64 0, .int .i64 2, .int .i64 1] 3)).alloc (.cells #[.int .i64 1, .int .i64 0, .int .i64 2] 3)).alloc (.cells #[.int .i64 1, .int .i64 2, .int .i64 0] 3)).alloc (.cells #[.int .i64 2, .int .i64 0, .int .i64 1] 3)).alloc (.cells #[.int .i64 2, .int .i64 1, .int .i64 0] 3)).alloc (.cells #[.slice (some ⟨W.heap.size, 0, none⟩) 3 3, .slice (some ⟨W.heap.size + 1, 0, none⟩) 3 3, .slice (some ⟨W.heap.size + 1 + 1, 0, none⟩) 3 3, .slice (some ⟨W.heap.size + 1 + 1 + 1, 0, none⟩) 3 3, .slice (some ⟨W.heap.size + 1 + 1 + 1 + 1, 0, none⟩) 3 3, .slice (some ⟨W.heap.size + 1 + 1 + 1 + 1 + 1, 0, none⟩) 3 3] 25)) ∧ ∀ j, j < 6 → ∃ gk, (((((((W.alloc (.cells #[.int .i64 0, .int .i64 1, .int .i64 2] 3)).alloc (.cells #[.int .i64 0, .int .i64 2, .int .i64 1] 3)).alloc (.cells #[.int .i64 1, .int .i64 0, .int .i64 2] 3)).alloc (.cells #[.int .i64 1, .int .i64 2, .int .i64 0] 3)).alloc (.cells #[.int .i64 2, .int .i64 0, .int .i64 1] 3)).alloc (.cells #[.int .i64 2, .int .i64 1, .int .i64 0] 3)).alloc (.cells #[.slice (some ⟨W.heap.size, 0, none⟩) 3 3, .slice (some ⟨W.heap.size + 1, 0, none⟩) 3 3, .slice (some ⟨W.heap.size + 1 + 1, 0, none⟩) 3 3, .slice (some ⟨W.heap.size + 1 + 1 + 1, 0, none⟩) 3 3, .slice (some ⟨W.heap.size + 1 + 1 + 1 + 1, 0, none⟩) 3 3, .slice (some ⟨W.heap.size + 1 + 1 + 1 + 1 + 1, 0, none⟩) 3 3] 25)).cell? ⟨W.heap.size + 1 + 1 + 1 + 1 + 1 + 1, j, none⟩ = some (.slice (some ⟨gk, 0, none⟩) 3 3) ∧ HoldsA gk #[.int .i64 (permA j), .int .i64 (permB j), .int .i64 (permC j)] 3 (((((((W.alloc (.cells #[.int .i64 0, .int .i64 1, .int .i64 2] 3)).alloc (.cells #[.int .i64 0, .int .i64 2, .int .i64 1] 3)).alloc (.cells #[.int .i64 1, .int .i64 0, .int .i64 2] 3)).alloc (.cells #[.int .i64 1, .int .i64 2, .int .i64 0] 3)).alloc (.cells #[.int .i64 2, .int .i64 0, .int .i64 1] 3)).alloc (.cells #[.int .i64 2, .int .i64 1, .int .i64 0] 3)).alloc (.cells #[.slice (some ⟨W.heap.size, 0, none⟩) 3 3, .slice (some ⟨W.heap.size + 1, 0, none⟩) 3 3, .slice (some ⟨W.heap.size + 1 + 1, 0, none⟩) 3 3, .slice (some ⟨W.heap.size + 1 + 1 + 1, 0, none⟩) 3 3, .slice (some ⟨W.heap.size + 1 + 1 + 1 + 1, 0, none⟩) 3 3, .slice (some ⟨W.heap.size + 1 + 1 + 1 + 1 + 1, 0, none⟩) 3 3] 25)) := by
  constructor
  · exact (((((((Below.refl W.heap.size W).alloc (by simp) _).alloc (by simp) _).alloc (by simp; omega) _).alloc (by simp; omega) _).alloc (by simp; omega) _).alloc (by simp; omega) _).alloc (by simp; omega) _
  · intro j hj
    have a0 := HoldsA.new (W.heap.size) W #[.int .i64 0, .int .i64 1, .int .i64 2] 3 (by simp)
    have a1 := HoldsA.new (W.heap.size + 1) (W.alloc (.cells #[.int .i64 0, .int .i64 1, .int .i64 2] 3)) #[.int .i64 0, .int .i64 2, .int .i64 1] 3 (by simp)
    have a2 := HoldsA.new (W.heap.size + 1 + 1) ((W.alloc (.cells #[.int .i64 0, .int .i64 1, .int .i64 2] 3)).alloc (.cells #[.int .i64 0, .int .i64 2, .int .i64 1] 3)) #[.int .i64 1, .int .i64 0, .int .i64 2] 3 (by simp)
    have a3 := HoldsA.new (W.heap.size + 1 + 1 + 1) (((W.alloc (.cells #[.int .i64 0, .int .i64 1, .int .i64 2] 3)).alloc (.cells #[.int .i64 0, .int .i64 2, .int .i64 1] 3)).alloc (.cells #[.int .i64 1, .int .i64 0, .int .i64 2] 3)) #[.int .i64 1, .int .i64 2, .int .i64 0] 3 (by simp)
    have a4 := HoldsA.new (W.heap.size + 1 + 1 + 1 + 1) ((((W.alloc (.cells #[.int .i64 0, .int .i64 1, .int .i64 2] 3)).alloc (.cells #[.int .i64 0, .int .i64 2, .int .i64 1] 3)).alloc (.cells #[.int .i64 1, .int .i64 0, .int .i64 2] 3)).alloc (.cells #[.int .i64 1, .int .i64 2, .int .i64 0] 3)) #[.int .i64 2, .int .i64 0, .int .i64 1] 3 (by simp)
    have a5 := HoldsA.new (W.heap.size + 1 + 1 + 1 + 1 + 1) (((((W.alloc (.cells #[.int .i64 0, .int .i64 1, .int .i64 2] 3)).alloc (.cells #[.int .i64 0, .int .i64 2, .int .i64 1] 3)).alloc (.cells #[.int .i64 1, .int .i64 0, .int .i64 2] 3)).alloc (.cells #[.int .i64 1, .int .i64 2, .int .i64 0] 3)).alloc (.cells #[.int .i64 2, .int .i64 0, .int .i64 1] 3)) #[.int .i64 2, .int .i64 1, .int .i64 0] 3 (by simp)
    have a6 := HoldsA.new (W.heap.size + 1 + 1 + 1 + 1 + 1 + 1) ((((((W.alloc (.cells #[.int .i64 0, .int .i64 1, .int .i64 2] 3)).alloc (.cells #[.int .i64 0, .int .i64 2, .int .i64 1] 3)).alloc (.cells #[.int .i64 1, .int .i64 0, .int .i64 2] 3)).alloc (.cells #[.int .i64 1, .int .i64 2, .int .i64 0] 3)).alloc (.cells #[.int .i64 2, .int .i64 0, .int .i64 1] 3)).alloc (.cells #[.int .i64 2, .int .i64 1, .int .i64 0] 3)) #[.slice (some ⟨W.heap.size, 0, none⟩) 3 3, .slice (some ⟨W.heap.size + 1, 0, none⟩) 3 3, .slice (some ⟨W.heap.size + 1 + 1, 0, none⟩) 3 3, .slice (some ⟨W.heap.size + 1 + 1 + 1, 0, none⟩) 3 3, .slice (some ⟨W.heap.size + 1 + 1 + 1 + 1, 0, none⟩) 3 3, .slice (some ⟨W.heap.size + 1 + 1 + 1 + 1 + 1, 0, none⟩) 3 3] 25 (by simp)
    obtain rfl | rfl | rfl | rfl | rfl | rfl : j = 0 ∨ j = 1 ∨ j = 2 ∨ j = 3 ∨ j = 4 ∨ j = 5 := by omega
    · exact ⟨_, a6.cell 0, ((((((a0).alloc _).alloc _).alloc _).alloc _).alloc _).alloc _⟩
    · exact ⟨_, a6.cell 1, (((((a1).alloc _).alloc _).alloc _).alloc _).alloc _⟩
    · exact ⟨_, a6.cell 2, ((((a2).alloc _).alloc _).alloc _).alloc _⟩
    · exact ⟨_, a6.cell 3, (((a3).alloc _).alloc _).alloc _⟩
    · exact ⟨_, a6.cell 4, ((a4).alloc _).alloc _⟩
    · exact ⟨_, a6.cell 5, (a5).alloc _⟩

/-- what each operation of the first statement leaves -/
def layP (B m0 m1 : Nat) (q0 : Int) (f1 f2 : List UInt8) (i : Nat) (v : Value) (W : World) : Prop := match i with
  | 0 => ∃ g, v = .slice (some ⟨g, 0, none⟩) 2 2 ∧ HoldsA g #[Str [77, 77], Str [77]] 9 W
  | 1 => v = .pointer (some ⟨B, 0, none⟩)
  | 2 => v = .int .i64 q0
  | 3 => v = .int .i64 m0
  | 4 => ∃ g, v = .pointer (some ⟨g, m0, none⟩) ∧ HoldsA g #[Str [77, 77], Str [77]] 9 W
  | 5 => v = Str f1
  | 6 => ∃ g, v = .slice (some ⟨g, 0, none⟩) 2 2 ∧ HoldsA g #[Str [68, 68], Str [68]] 9 W
  | 7 => v = .pointer (some ⟨B, 0, none⟩)
  | 8 => v = .int .i64 q0
  | 9 => v = .int .i64 (q0.tdiv 2)
  | 10 => v = .int .i64 m1
  | 11 => ∃ g, v = .pointer (some ⟨g, m1, none⟩) ∧ HoldsA g #[Str [68, 68], Str [68]] 9 W
  | 12 => v = Str f2
  | _ => ∃ g, v = .slice (some ⟨g, 0, none⟩) 3 3 ∧ HoldsA g #[Str [89, 89, 89, 89], Str f1, Str f2] 9 W
theorem layP_below {B m0 m1 : Nat} {q0 : Int} {f1 f2 : List UInt8} {W W' : World} (hb : Below W.heap.size W W') (i : Nat) (v : Value) (h : layP B m0 m1 q0 f1 f2 i v W) : layP B m0 m1 q0 f1 f2 i v W' := by
  have key : ∀ (u : Nat → Value) (cs : Array Value), (∃ g, v = u g ∧ HoldsA g cs 9 W) → ∃ g, v = u g ∧ HoldsA g cs 9 W' := fun u cs ⟨g, h1, h2⟩ => ⟨g, h1, h2.below hb h2.lt⟩
  unfold layP at *
  split <;> simp only at h
  all_goals (first | exact h | exact key _ _ h)
def layG (B : Nat) (q0 q1 q2 : Int) (w W : World) : Prop := Below B w W ∧ HoldsA B #[.int .i64 q0, .int .i64 q1, .int .i64 q2] 22 W
theorem layG_alloc {B : Nat} {q0 q1 q2 : Int} {w W : World} (hB : w.heap.size = B) (h : layG B q0 q1 q2 w W) (cs : Array Value) (T : TypeId) : layG B q0 q1 q2 w (W.alloc (.cells cs T)) :=
  ⟨h.1.alloc (by have := h.1.size; omega) _, h.2.alloc _⟩
theorem evals {a : Act} {t : Nat} {v : Value} (h : a.tmps.getD t undef = v) : a.eval (.tmp t) = v ∧ a.tmps.getD t undef = v ∧ a.tmps[t]?.getD undef = v := by
  refine ⟨h, h, ?_⟩
  rw [← h, Array.getD_eq_getD_getElem?]

set_option maxHeartbeats 8000000 in
set_option maxRecDepth 20000 in
theorem Layout_any (q0 q1 q2 : Int) (wild : Bool) (w : World) (a0 : -9223372036854775808 ≤ q0) (a1 : q0 ≤ 9223372036854775807) (b0 : -9223372036854775808 ≤ q1) (b1 : q1 ≤ 9223372036854775807) (c0 : -9223372036854775808 ≤ q2) (c1 : q2 ≤ 9223372036854775807) :
    Calls Try.prog 21 #[.agg #[.int .i64 q0, .int .i64 q1, .int .i64 q2], .bool wild] w fun e w' => ∃ l : List UInt8, e = .returned (Str l) ∧ l.length ≤ 100 ∧ (wild = false → rightB l = true) ∧ Below w.heap.size w w' := by
  obtain ⟨B, hB⟩ : ∃ B, w.heap.size = B := ⟨_, rfl⟩
  obtain ⟨m0, hm0, hm02⟩ : ∃ j : Nat, modR q0 2 = j ∧ j < 2 := ⟨(modR q0 2).toNat, by unfold modR; omega, by unfold modR; omega⟩
  obtain ⟨m1, hm1, hm12⟩ : ∃ j : Nat, modR (q0.tdiv 2) 2 = j ∧ j < 2 := ⟨(modR (q0.tdiv 2) 2).toNat, by unfold modR; omega, by unfold modR; omega⟩
  have htd : -9223372036854775808 ≤ q0.tdiv 2 ∧ q0.tdiv 2 ≤ 9223372036854775807 := by
    have := Int.tmod_add_mul_tdiv q0 2
    have t1 : -2 < q0.tmod 2 := Int.lt_tmod_of_pos q0 (by omega)
    have t2 : q0.tmod 2 < 2 := Int.tmod_lt_of_pos q0 (by omega)
    omega
  have htw : IntKind.i64.wrap (q0.tdiv 2) = q0.tdiv 2 := by rw [IntKind.wrap_i64]; omega
  obtain ⟨f1, hf1, hA⟩ : ∃ f1 : List UInt8, f1 = formM m0 ∧ (#[Str [77, 77], Str [77]] : Array Value)[m0]? = some (Str f1) := by
    obtain rfl | rfl : m0 = 0 ∨ m0 = 1 := by omega
    · exact ⟨fM, rfl, rfl⟩
    · exact ⟨[77], rfl, rfl⟩
  obtain ⟨f2, hf2, hD⟩ : ∃ f2 : List UInt8, f2 = formD m1 ∧ (#[Str [68, 68], Str [68]] : Array Value)[m1]? = some (Str f2) := by
    obtain rfl | rfl : m1 = 0 ∨ m1 = 1 := by omega
    · exact ⟨fD, rfl, rfl⟩
    · exact ⟨[68], rfl, rfl⟩
  have H0 := Lib.hid hm0
  have H1 := Lib.hid hm1
  have Hf1 := Lib.hid hf1
  have Hf2 := Lib.hid hf2
  clear hm0 hm1 hf1 hf2
  have i0 : (0 : Int) ≤ m0 := by omega
  have i1 : (m0 : Int) < 2 := by omega
  have i2 : (0 : Int) ≤ m1 := by omega
  have i3 : (m1 : Int) < 2 := by omega
  have hbs := Below.refl B w
  go_enter Try.func21, Try.ntmps21
  go_upto_region 1 with fail
  have k1 := HoldsA.new B w #[.int .i64 q0, .int .i64 q1, .int .i64 q2] 22 hB.symm
  have hb1 := hbs.alloc (by omega) (.cells #[.int .i64 q0, .int .i64 q1, .int .i64 q2] 22)
  have x0 := k1.cell 0
  simp at x0
  generalize w.alloc (.cells #[.int .i64 q0, .int .i64 q1, .int .i64 q2] 22) = w1 at *
  go_cut [5] (fun s5 wx => ∃ g : Nat, s5 = .slice (some ⟨g, 0, none⟩) 3 3 ∧ HoldsA g #[Str [89, 89, 89, 89], Str f1, Str f2] 9 wx ∧ HoldsA B #[.int .i64 q0, .int .i64 q1, .int .i64 q2] 22 wx ∧ Below B w wx)
  case first =>
    refine wp_region_rg (layP B m0 m1 q0 f1 f2) (layG B q0 q1 q2 w) (by kernel_rfl) (by kernel_rfl) ⟨hb1.drew, k1.drew 1⟩ ?step ?fin
    case step =>
      intro i o ho a W hG hout hdep
      have hal : ∀ (cs : Array Value) (T : TypeId), ∀ j v, layP B m0 m1 q0 f1 f2 j v W → layP B m0 m1 q0 f1 f2 j v (W.alloc (.cells cs T)) := fun cs T => layP_below ((Below.refl _ W).alloc (Nat.le_refl _) _)
      have x0 := hG.2.cell 0
      simp at x0
      match i with
      | 0 =>
        simp at ho
        subst ho
        unfold Oper.wp
        go_simp
        refine ⟨layG_alloc hB hG _ _, hal _ _, _, rfl, ?_⟩
        exact ⟨_, rfl, HoldsA.new _ _ _ _ rfl⟩
      | 1 =>
        simp at ho
        subst ho
        obtain ⟨e1, e2, e3⟩ := evals (hout 2 (outside_of (by kernel_rfl)))
        simp [Act.eval] at e1 e2 e3
        unfold Oper.wp
        go_simp
        first | exact ⟨_, rfl, rfl⟩ | exact ⟨hG, fun _ _ h => h, _, rfl, rfl, by simp⟩ | exact ⟨hG, _, rfl, rfl⟩
      | 2 =>
        simp at ho
        subst ho
        have d1 := hdep { on := 1, ground := .data } (by simp) rfl _ rfl
        obtain ⟨p1, q1, r1⟩ := evals d1
        unfold Oper.wp
        go_simp
        first | exact ⟨_, rfl, rfl⟩ | exact ⟨hG, fun _ _ h => h, _, rfl, rfl, by simp⟩ | exact ⟨hG, _, rfl, rfl⟩
      | 3 =>
        simp at ho
        subst ho
        have d2 := hdep { on := 2, ground := .data } (by simp) rfl _ rfl
        obtain ⟨p2, q2, r2⟩ := evals d2
        unfold Oper.wp
        go_simp
        refine (Mod_any q0 2 _ a0 a1 (by omega) (by omega)).mono ?_; rintro e w' ⟨rfl, rfl⟩; rw [H0.out]
        first | exact ⟨hG, fun _ _ h => h, _, rfl, rfl, by simp⟩ | exact ⟨hG, fun _ _ h => h, _, rfl, rfl⟩ | exact ⟨hG, _, rfl, rfl⟩
      | 4 =>
        simp at ho
        subst ho
        obtain ⟨g0, d0, hh0⟩ := hdep { on := 0, ground := .data } (by simp) rfl _ rfl
        obtain ⟨p0, q0, r0⟩ := evals d0
        have d3 := hdep { on := 3, ground := .data } (by simp) rfl _ rfl
        obtain ⟨p3, q3, r3⟩ := evals d3
        unfold Oper.wp
        go_simp
        first | exact ⟨_, rfl, ⟨_, rfl, hh0⟩⟩ | exact ⟨hG, fun _ _ h => h, _, rfl, ⟨_, rfl, hh0⟩, by simp⟩ | exact ⟨hG, _, rfl, ⟨_, rfl, hh0⟩⟩
      | 5 =>
        simp at ho
        subst ho
        obtain ⟨g4, d4, hh4⟩ := hdep { on := 4, ground := .data } (by simp) rfl _ rfl
        obtain ⟨p4, q4, r4⟩ := evals d4
        have hc := hh4.cell m0
        rw [hA] at hc
        unfold Oper.wp
        go_simp
        first | exact ⟨_, rfl, rfl⟩ | exact ⟨hG, fun _ _ h => h, _, rfl, rfl, by simp⟩ | exact ⟨hG, _, rfl, rfl⟩
      | 6 =>
        simp at ho
        subst ho
        unfold Oper.wp
        go_simp
        refine ⟨layG_alloc hB hG _ _, hal _ _, _, rfl, ?_⟩
        exact ⟨_, rfl, HoldsA.new _ _ _ _ rfl⟩
      | 7 =>
        simp at ho
        subst ho
        obtain ⟨e1, e2, e3⟩ := evals (hout 2 (outside_of (by kernel_rfl)))
        simp [Act.eval] at e1 e2 e3
        unfold Oper.wp
        go_simp
        first | exact ⟨_, rfl, rfl⟩ | exact ⟨hG, fun _ _ h => h, _, rfl, rfl, by simp⟩ | exact ⟨hG, _, rfl, rfl⟩
      | 8 =>
        simp at ho
        subst ho
        have d7 := hdep { on := 7, ground := .data } (by simp) rfl _ rfl
        obtain ⟨p7, q7, r7⟩ := evals d7
        unfold Oper.wp
        go_simp
        first | exact ⟨_, rfl, rfl⟩ | exact ⟨hG, fun _ _ h => h, _, rfl, rfl, by simp⟩ | exact ⟨hG, _, rfl, rfl⟩
      | 9 =>
        simp at ho
        subst ho
        have d8 := hdep { on := 8, ground := .data } (by simp) rfl _ rfl
        obtain ⟨p8, q8, r8⟩ := evals d8
        unfold Oper.wp
        go_simp
        first | exact ⟨_, rfl, rfl⟩ | exact ⟨hG, fun _ _ h => h, _, rfl, rfl, by simp⟩ | exact ⟨hG, _, rfl, rfl⟩
      | 10 =>
        simp at ho
        subst ho
        have d9 := hdep { on := 9, ground := .data } (by simp) rfl _ rfl
        obtain ⟨p9, q9, r9⟩ := evals d9
        unfold Oper.wp
        go_simp
        refine (Mod_any (q0.tdiv 2) 2 _ htd.1 htd.2 (by omega) (by omega)).mono ?_; rintro e w' ⟨rfl, rfl⟩; rw [H1.out]
        first | exact ⟨hG, fun _ _ h => h, _, rfl, rfl, by simp⟩ | exact ⟨hG, fun _ _ h => h, _, rfl, rfl⟩ | exact ⟨hG, _, rfl, rfl⟩
      | 11 =>
        simp at ho
        subst ho
        obtain ⟨g6, d6, hh6⟩ := hdep { on := 6, ground := .data } (by simp) rfl _ rfl
        obtain ⟨p6, q6, r6⟩ := evals d6
        have d10 := hdep { on := 10, ground := .data } (by simp) rfl _ rfl
        obtain ⟨p10, q10, r10⟩ := evals d10
        unfold Oper.wp
        go_simp
        first | exact ⟨_, rfl, ⟨_, rfl, hh6⟩⟩ | exact ⟨hG, fun _ _ h => h, _, rfl, ⟨_, rfl, hh6⟩, by simp⟩ | exact ⟨hG, _, rfl, ⟨_, rfl, hh6⟩⟩
      | 12 =>
        simp at ho
        subst ho
        obtain ⟨g11, d11, hh11⟩ := hdep { on := 11, ground := .data } (by simp) rfl _ rfl
        obtain ⟨p11, q11, r11⟩ := evals d11
        have hc := hh11.cell m1
        rw [hD] at hc
        unfold Oper.wp
        go_simp
        first | exact ⟨_, rfl, rfl⟩ | exact ⟨hG, fun _ _ h => h, _, rfl, rfl, by simp⟩ | exact ⟨hG, _, rfl, rfl⟩
      | 13 =>
        simp at ho
        subst ho
        have d5 := hdep { on := 5, ground := .data } (by simp) rfl _ rfl
        obtain ⟨p5, q5, r5⟩ := evals d5
        have d12 := hdep { on := 12, ground := .data } (by simp) rfl _ rfl
        obtain ⟨p12, q12, r12⟩ := evals d12
        unfold Oper.wp
        go_simp
        refine ⟨layG_alloc hB hG _ _, hal _ _, _, rfl, ?_⟩
        exact ⟨_, rfl, HoldsA.new _ _ _ _ rfl⟩
      | 14 =>
        simp at ho
        subst ho
        obtain ⟨g13, d13, hh13⟩ := hdep { on := 13, ground := .data } (by simp) rfl _ rfl
        obtain ⟨p13, q13, r13⟩ := evals d13
        unfold Oper.wp
        go_simp
        first | exact ⟨_, rfl, ⟨_, rfl, hh13⟩⟩ | exact ⟨hG, fun _ _ h => h, _, rfl, ⟨_, rfl, hh13⟩, by simp⟩ | exact ⟨hG, _, rfl, ⟨_, rfl, hh13⟩⟩
      | i + 15 => simp at ho
    case fin =>
      intro v W hG hv
      obtain ⟨g, hg, hh⟩ := hv 14 _ rfl
      obtain ⟨g', hg', _⟩ := hv 13 _ rfl
      simp only [laidT, List.setIfInBounds_toArray, List.set_cons_zero, List.set_cons_succ]
      rw [hg]
      go_wp2_with fail
      go_meet
      exact ⟨g, rfl, hh, hG.2, hG.1⟩
  case rest =>
    obtain ⟨g, rfl, hf, hq, hbl⟩ := hcut
    clear k1 hb1 x0 hA hD i0 i1 i2 i3 H0 H1
    have y1 := hq.cell 1
    have y2 := hq.cell 2
    simp at y1 y2
    obtain ⟨j6, hj6, hj66⟩ : ∃ j : Nat, modR q1 6 = j ∧ j < 6 := ⟨(modR q1 6).toNat, by unfold modR; omega, by unfold modR; omega⟩
    obtain ⟨j8, hj8, hj88⟩ : ∃ j : Nat, modR q2 8 = j ∧ j < 8 := ⟨(modR q2 8).toNat, by unfold modR; omega, by unfold modR; omega⟩
    have J6 := Lib.hid hj6
    have J8 := Lib.hid hj8
    clear hj6 hj8
    have hord := orders_of wc
    obtain ⟨C, hC⟩ : ∃ C, wc.heap.size = C := ⟨_, rfl⟩
    have hBC : B < C := by have := hq.lt; omega
    have hgC : g < C := by have := hf.lt; omega
    rw [hC] at hord
    have HO := Lib.hid hord
    clear hord
    go_upto_region 3 with fail
    have hord := HO.out
    clear HO
    obtain ⟨h7, hsel⟩ := hord
    obtain ⟨gk, hsl, hk⟩ := hsel j6 hj66
    clear hsel
    generalize (((((((wc.alloc (.cells #[.int .i64 0, .int .i64 1, .int .i64 2] 3)).alloc (.cells #[.int .i64 0, .int .i64 2, .int .i64 1] 3)).alloc (.cells #[.int .i64 1, .int .i64 0, .int .i64 2] 3)).alloc (.cells #[.int .i64 1, .int .i64 2, .int .i64 0] 3)).alloc (.cells #[.int .i64 2, .int .i64 0, .int .i64 1] 3)).alloc (.cells #[.int .i64 2, .int .i64 1, .int .i64 0] 3)).alloc (.cells #[.slice (some ⟨C, 0, none⟩) 3 3, .slice (some ⟨C + 1, 0, none⟩) 3 3, .slice (some ⟨C + 1 + 1, 0, none⟩) 3 3, .slice (some ⟨C + 1 + 1 + 1, 0, none⟩) 3 3, .slice (some ⟨C + 1 + 1 + 1 + 1, 0, none⟩) 3 3, .slice (some ⟨C + 1 + 1 + 1 + 1 + 1, 0, none⟩) 3 3] 25)) = w7 at *
    have hf := hf.below h7 hgC
    have hq := hq.below h7 hBC
    have hbl := hbl.trans (h7.mono (by omega))
    clear h7 hC hBC hgC y1 y2
    obtain ⟨t1, t2, t3⟩ := perm_bd j6
    have hf8 := hf.alloc (.cells #[Str [45], Str [46], Str [47], Str [32], Str [44, 32], Str [120], Str [32, 111, 102, 32], Str []] 9)
    have v1 := pick3_cell hf8 (permA j6) t1
    have v2 := pick3_cell hf8 (permB j6) t2
    have v3 := pick3_cell hf8 (permC j6) t3
    have hlf1 : f1.length ≤ 4 := by rw [Hf1.out]; unfold formM; split <;> simp [fM]
    have hlf2 : f2.length ≤ 4 := by rw [Hf2.out]; unfold formD; split <;> simp [fD]
    have l1 : (pick3 [89, 89, 89, 89] f1 f2 (permA j6)).length ≤ 4 := pick3_len (by simp) hlf1 hlf2 _
    have l2 : (pick3 [89, 89, 89, 89] f1 f2 (permB j6)).length ≤ 4 := pick3_len (by simp) hlf1 hlf2 _
    have l3 : (pick3 [89, 89, 89, 89] f1 f2 (permC j6)).length ≤ 4 := pick3_len (by simp) hlf1 hlf2 _
    have hR : Hid (rightB (pick3 [89, 89, 89, 89] f1 f2 (permA j6) ++ sepU j8 ++ pick3 [89, 89, 89, 89] f1 f2 (permB j6) ++ sepU j8 ++ pick3 [89, 89, 89, 89] f1 f2 (permC j6)) = true) := Lib.hid (by
      rw [Hf1.out, Hf2.out]; exact layN_right m0 m1 j6 j8 hm02 hm12 hj66 hj88)
    generalize pick3 [89, 89, 89, 89] f1 f2 (permA j6) = X0 at *
    generalize pick3 [89, 89, 89, 89] f1 f2 (permB j6) = X1 at *
    generalize pick3 [89, 89, 89, 89] f1 f2 (permC j6) = X2 at *
    generalize permA j6 = p0 at *
    generalize permB j6 = p1 at *
    generalize permC j6 = p2 at *
    have y1 := hq.cell 1
    simp at y1
    obtain ⟨D, hDw⟩ : ∃ D, w7.heap.size = D := ⟨_, rfl⟩
    have y2 := (hq.alloc (.cells #[Str [45], Str [46], Str [47], Str [32], Str [44, 32], Str [120], Str [32, 111, 102, 32], Str []] 9)).cell 2
    simp at y2
    have ys := seps_cell (HoldsA.new D w7 #[Str [45], Str [46], Str [47], Str [32], Str [44, 32], Str [120], Str [32, 111, 102, 32], Str []] 9 hDw.symm) j8 hj88
    have hls := seps_len j8 hj88
    have HS : Hid (sepU j8 = if seps j8 = [] then [95] else seps j8) := Lib.hid rfl
    generalize seps j8 = sp at *
    have j60 : (0 : Int) ≤ j6 := by omega
    have j61 : (j6 : Int) < 6 := by omega
    have j80 : (0 : Int) ≤ j8 := by omega
    have j81 : (j8 : Int) < 8 := by omega
    go_wp2_with fail
    refine (Mod_any q1 6 _ b0 b1 (by omega) (by omega)).mono ?_; rintro e w' ⟨rfl, rfl⟩; rw [J6.out]
    go_wp2_with fail
    refine (Mod_any q2 8 _ c0 c1 (by omega) (by omega)).mono ?_; rintro e w' ⟨rfl, rfl⟩; rw [J8.out]
    have hk := hk.alloc (.cells #[Str [45], Str [46], Str [47], Str [32], Str [44, 32], Str [120], Str [32, 111, 102, 32], Str []] 9)
    have hbl := hbl.alloc (by have := hbl.size; omega) (.cells #[Str [45], Str [46], Str [47], Str [32], Str [44, 32], Str [120], Str [32, 111, 102, 32], Str []] 9)
    clear hf8 hf hq hsl y1 hDw j60 j61
    generalize w7.alloc (.cells #[Str [45], Str [46], Str [47], Str [32], Str [44, 32], Str [120], Str [32, 111, 102, 32], Str []] 9) = w8 at *
    have k0 := hk.cell 0
    have k1 := hk.cell 1
    have k2 := hk.cell 2
    simp at k0 k1 k2
    clear hk
    have t10 : (0 : Int) ≤ p0 := by omega
    have t11 : (p0 : Int) < 3 := by omega
    have t20 : (0 : Int) ≤ p1 := by omega
    have t21 : (p1 : Int) < 3 := by omega
    have t30 : (0 : Int) ≤ p2 := by omega
    have t31 : (p2 : Int) < 3 := by omega
    have n1 : ∀ z : Nat, z ≤ 4 → ¬ 9223372036854775807 < X0.length + z := fun z hz => by omega
    cases wild
    · by_cases hz : sp = []
      · subst hz
        have hR' : rightB (X0 ++ [95] ++ X1 ++ [95] ++ X2) = true := by have := hR.out; rw [HS.out] at this; simpa using this
        have HR' := Lib.hid hR'
        clear hR' n1
        have n1 : ¬ 9223372036854775807 < X0.length + 1 := by omega
        have n2 : ¬ 9223372036854775807 < X0.length + 1 + X1.length := by omega
        have n3 : ¬ 9223372036854775807 < X0.length + 1 + X1.length + 1 := by omega
        have n4 : ¬ 9223372036854775807 < X0.length + 1 + X1.length + 1 + X2.length := by omega
        go_wp2_with fail
        go_quiet (fail)
        go_wp2_with fail
        go_ret
        exact ⟨X0 ++ [95] ++ X1 ++ [95] ++ X2, ret_ba (by apply ByteArray.ext; simp), by simp; omega, HR'.out, below_drewN hbl _⟩
      · have hR' : rightB (X0 ++ sp ++ X1 ++ sp ++ X2) = true := by have := hR.out; rw [HS.out, if_neg hz] at this; exact this
        have HR' := Lib.hid hR'
        have hz1 : (sp == []) = false := by simpa using hz
        clear hR' n1
        have n1 : ¬ 9223372036854775807 < X0.length + sp.length := by omega
        have n2 : ¬ 9223372036854775807 < X0.length + sp.length + X1.length := by omega
        have n3 : ¬ 9223372036854775807 < X0.length + sp.length + X1.length + sp.length := by omega
        have n4 : ¬ 9223372036854775807 < X0.length + sp.length + X1.length + sp.length + X2.length := by omega
        go_wp2_with fail
        go_quiet (fail)
        go_wp2_with fail
        go_ret
        exact ⟨X0 ++ sp ++ X1 ++ sp ++ X2, ret_ba (by apply ByteArray.ext; simp), by simp; omega, HR'.out, below_drewN hbl _⟩
    · have ht8 : -9223372036854775808 ≤ q2.tdiv 8 ∧ q2.tdiv 8 ≤ 9223372036854775807 := by
        have := Int.tmod_add_mul_tdiv q2 8
        have t1 : -8 < q2.tmod 8 := Int.lt_tmod_of_pos q2 (by omega)
        have t2 : q2.tmod 8 < 8 := Int.tmod_lt_of_pos q2 (by omega)
        omega
      have htw8 : IntKind.i64.wrap (q2.tdiv 8) = q2.tdiv 8 := by rw [IntKind.wrap_i64]; omega
      by_cases hz : sp = []
      · subst hz
        clear n1
        have n1 : ¬ 9223372036854775807 < X0.length + 0 := by omega
        have n2 : ¬ 9223372036854775807 < X0.length + 0 + X1.length := by omega
        have n3 : ¬ 9223372036854775807 < X0.length + 0 + X1.length + 0 := by omega
        have n4 : ¬ 9223372036854775807 < X0.length + 0 + X1.length + 0 + X2.length := by omega
        go_wp2_with fail
        go_quiet (fail)
        go_wp2_with fail
        refine (Mod_any (q2.tdiv 8) 9 _ ht8.1 ht8.2 (by omega) (by omega)).mono ?_; rintro e w' ⟨rfl, rfl⟩
        obtain ⟨j9, hj9, hj99⟩ := modR_nat (q2.tdiv 8) 9 (by omega)
        rw [hj9]
        clear hj9
        obtain rfl | rfl | rfl | rfl | rfl | rfl | rfl | rfl | rfl : j9 = 0 ∨ j9 = 1 ∨ j9 = 2 ∨ j9 = 3 ∨ j9 = 4 ∨ j9 = 5 ∨ j9 = 6 ∨ j9 = 7 ∨ j9 = 8 := by omega
        · go_wp2_with fail
          go_ret
          exact ⟨X0 ++ [] ++ X1 ++ [] ++ X2 ++ [68], ret_ba (by apply ByteArray.ext; simp), by simp; omega, fun h => (by cases h), by rw [hB]; exact below_drewN hbl _⟩
        · go_wp2_with fail
          go_ret
          exact ⟨[89] ++ (X0 ++ [] ++ X1 ++ [] ++ X2), ret_ba (by apply ByteArray.ext; simp), by simp; omega, fun h => (by cases h), by rw [hB]; exact below_drewN hbl _⟩
        · go_wp2_with fail
          go_ret
          exact ⟨X0 ++ [] ++ X1 ++ [] ++ X2 ++ [49], ret_ba (by apply ByteArray.ext; simp), by simp; omega, fun h => (by cases h), by rw [hB]; exact below_drewN hbl _⟩
        · go_wp2_with fail
          go_quiet (fail)
          go_wp2_with fail
          go_ret
          exact ⟨X0 ++ [] ++ X1, ret_ba (by apply ByteArray.ext; simp), by simp; omega, fun h => (by cases h), by rw [hB]; exact below_drewN (below_drewN hbl _) _⟩
        · go_wp2_with fail
          go_ret
          exact ⟨X0 ++ [] ++ X1 ++ [] ++ X2 ++ [10], ret_ba (by apply ByteArray.ext; simp), by simp; omega, fun h => (by cases h), by rw [hB]; exact below_drewN hbl _⟩
        · go_wp2_with fail
          go_ret
          exact ⟨[100, 97, 121, 58, 32] ++ (X0 ++ [] ++ X1 ++ [] ++ X2), ret_ba (by apply ByteArray.ext; simp), by simp; omega, fun h => (by cases h), by rw [hB]; exact below_drewN hbl _⟩
        · go_wp2_with fail
          go_ret
          exact ⟨X0 ++ [] ++ X1 ++ [] ++ X2 ++ [46, 46, 46, 46, 46, 46, 46, 46, 46, 46, 46, 46, 46, 46, 46, 46, 46, 46, 46, 46, 46, 46, 46, 46, 46, 46, 46, 46, 46, 46, 46, 46, 46, 46, 46, 46], ret_ba (by apply ByteArray.ext; simp), by simp; omega, fun h => (by cases h), by rw [hB]; exact below_drewN hbl _⟩
        · go_wp2_with fail
          go_ret
          exact ⟨X0 ++ [] ++ X1 ++ [] ++ X2, ret_ba (by apply ByteArray.ext; simp), by simp; omega, fun h => (by cases h), by rw [hB]; exact below_drewN hbl _⟩
        · go_wp2_with fail
          go_ret
          exact ⟨X0 ++ [] ++ X1 ++ [] ++ X2, ret_ba (by apply ByteArray.ext; simp), by simp; omega, fun h => (by cases h), by rw [hB]; exact below_drewN hbl _⟩
      · have hz1 : (sp == []) = false := by simpa using hz
        clear n1
        have n1 : ¬ 9223372036854775807 < X0.length + sp.length := by omega
        have n2 : ¬ 9223372036854775807 < X0.length + sp.length + X1.length := by omega
        have n3 : ¬ 9223372036854775807 < X0.length + sp.length + X1.length + sp.length := by omega
        have n4 : ¬ 9223372036854775807 < X0.length + sp.length + X1.length + sp.length + X2.length := by omega
        go_wp2_with fail
        go_quiet (fail)
        go_wp2_with fail
        refine (Mod_any (q2.tdiv 8) 9 _ ht8.1 ht8.2 (by omega) (by omega)).mono ?_; rintro e w' ⟨rfl, rfl⟩
        obtain ⟨j9, hj9, hj99⟩ := modR_nat (q2.tdiv 8) 9 (by omega)
        rw [hj9]
        clear hj9
        obtain rfl | rfl | rfl | rfl | rfl | rfl | rfl | rfl | rfl : j9 = 0 ∨ j9 = 1 ∨ j9 = 2 ∨ j9 = 3 ∨ j9 = 4 ∨ j9 = 5 ∨ j9 = 6 ∨ j9 = 7 ∨ j9 = 8 := by omega
        · go_wp2_with fail
          go_ret
          exact ⟨X0 ++ sp ++ X1 ++ sp ++ X2 ++ [68], ret_ba (by apply ByteArray.ext; simp), by simp; omega, fun h => (by cases h), by rw [hB]; exact below_drewN hbl _⟩
        · go_wp2_with fail
          go_ret
          exact ⟨[89] ++ (X0 ++ sp ++ X1 ++ sp ++ X2), ret_ba (by apply ByteArray.ext; simp), by simp; omega, fun h => (by cases h), by rw [hB]; exact below_drewN hbl _⟩
        · go_wp2_with fail
          go_ret
          exact ⟨X0 ++ sp ++ X1 ++ sp ++ X2 ++ [49], ret_ba (by apply ByteArray.ext; simp), by simp; omega, fun h => (by cases h), by rw [hB]; exact below_drewN hbl _⟩
        · go_wp2_with fail
          go_quiet (fail)
          go_wp2_with fail
          go_ret
          exact ⟨X0 ++ sp ++ X1, ret_ba (by apply ByteArray.ext; simp), by simp; omega, fun h => (by cases h), by rw [hB]; exact below_drewN (below_drewN hbl _) _⟩
        · go_wp2_with fail
          go_ret
          exact ⟨X0 ++ sp ++ X1 ++ sp ++ X2 ++ [10], ret_ba (by apply ByteArray.ext; simp), by simp; omega, fun h => (by cases h), by rw [hB]; exact below_drewN hbl _⟩
        · go_wp2_with fail
          go_ret
          exact ⟨[100, 97, 121, 58, 32] ++ (X0 ++ sp ++ X1 ++ sp ++ X2), ret_ba (by apply ByteArray.ext; simp), by simp; omega, fun h => (by cases h), by rw [hB]; exact below_drewN hbl _⟩
        · go_wp2_with fail
          go_ret
          exact ⟨X0 ++ sp ++ X1 ++ sp ++ X2 ++ [46, 46, 46, 46, 46, 46, 46, 46, 46, 46, 46, 46, 46, 46, 46, 46, 46, 46, 46, 46, 46, 46, 46, 46, 46, 46, 46, 46, 46, 46, 46, 46, 46, 46, 46, 46], ret_ba (by apply ByteArray.ext; simp), by simp; omega, fun h => (by cases h), by rw [hB]; exact below_drewN hbl _⟩
        · go_wp2_with fail
          go_ret
          exact ⟨X0 ++ sp ++ X1 ++ sp ++ X2, ret_ba (by apply ByteArray.ext; simp), by simp; omega, fun h => (by cases h), by rw [hB]; exact below_drewN hbl _⟩
        · go_wp2_with fail
          go_ret
          exact ⟨X0 ++ sp ++ X1 ++ sp ++ X2, ret_ba (by apply ByteArray.ext; simp), by simp; omega, fun h => (by cases h), by rw [hB]; exact below_drewN hbl _⟩
end Go.Proofs.Ytbfiflinonnmcaa
