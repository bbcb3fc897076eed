/- The row of this law: the frame is the kit's skeleton; the walk stands in the text that is imported. -/
import Derived.Test.YtbfiflinonnmcaaRows
import Derived.Test.YtbfiflinonnmcaaLNum
import Derived.Test.YtbfiflinonnmcaaArr
import Derived.WalkKit
import Derived.ProofKit
import Derived.OpenShut
import Derived.ShutString
namespace Go.Proofs.Ytbfiflinonnmcaa.dateNumbers
open Go.ChangeShapes Go.WideShapes Go.ChangeAt Go.RowKit
open Go.ChangeMaps (open_string shut_string)
set_option linter.unusedVariables false

theorem own : ownKnob Try.prog.godebug = none := by kernel_rfl

set_option maxRecDepth 100000 in
theorem lifted (os : Os) (started : os.Started) (H : Type) (enc : TypeId × Value → H) :
    ReturnsInHanded {} Try.checked os 3 .any (Rows.dateNumbersSpec.pre6 enc Try.prog Try.f3 Rows.dateNumbersRow.domain false) (Rows.dateNumbersSpec.post enc Try.prog Try.f3 false true false false) := by
  refine returnsInHanded_of_change (C := Try.checked) own started (by kernel_rfl) Try.func3
    (ChangeSpec.witness6 (enc := enc) (C := Try.checked) false ⟨#[], #[.agg #[.int .i64 0, .int .i64 0, .int .i64 0], .agg #[.int .u8 0, .int .u8 0, .int .u8 0], .int .i64 0], []⟩ 8 (by kernel_rfl) (by kernel_rfl) (by kernel_rfl) (by kernel_rfl)) ?_
  intro W base args ds gs before hval0 hW hcnd _
  have hval : ∀ (j : Nat) t v, Try.f3.params[j]? = some t → args[j]? = some v → Value.okWide Try.prog W .any base t v := hval0
  have hW' := hW
  obtain ⟨p, q, hA0, hV, rfl, hfz, hnd⟩ := hW
  have hA : DataW.TrodAll enc Try.prog W 0 (fun _ => true) true Try.f3.params.toList args.toList ds p := hA0
  rw [Try.params3] at hA hval
  obtain ⟨v0, vs0, d0, ds0, p0, q0, hargs, rfl, rfl, h0, r0⟩ := trodAll_cons hA
  obtain ⟨v1, vs1, d1, ds1, p1, q1, rfl, rfl, rfl, h1, r1⟩ := trodAll_cons r0
  obtain ⟨v2, vs2, d2, ds2, p2, q2, rfl, rfl, rfl, h2, r2⟩ := trodAll_cons r1
  obtain ⟨rfl, rfl, rfl⟩ := trodAll_nil r2
  obtain rfl : args = #[v0, v1, v2] := by cases args; simp_all
  obtain ⟨rfl, rfl⟩ := trodVars_none hV
  obtain ⟨zs0, hl0, rfl, rfl, rfl, hw0⟩ := open_arr Try.underlying22 Try.underlying3 (by kernel_rfl) (by kernel_rfl) (hval 0 22 v0 rfl rfl) h0
  obtain ⟨a0_0, a0_1, a0_2, rfl⟩ := list3 hl0
  have w0_0 := hw0 a0_0 (by simp)
  have b0_0 := Go.bounds_i64 w0_0
  have w0_1 := hw0 a0_1 (by simp)
  have b0_1 := Go.bounds_i64 w0_1
  have w0_2 := hw0 a0_2 (by simp)
  have b0_2 := Go.bounds_i64 w0_2
  obtain ⟨zs1, hl1, rfl, rfl, rfl, hw1⟩ := open_arr Try.underlying23 Try.underlying5 (by kernel_rfl) (by kernel_rfl) (hval 1 23 v1 rfl rfl) h1
  obtain ⟨a1_0, a1_1, a1_2, rfl⟩ := list3 hl1
  have w1_0 := hw1 a1_0 (by simp)
  have b1_0 := Go.bounds_u8 w1_0
  have w1_1 := hw1 a1_1 (by simp)
  have b1_1 := Go.bounds_u8 w1_1
  have w1_2 := hw1 a1_2 (by simp)
  have b1_2 := Go.bounds_u8 w1_2
  obtain ⟨a2, rfl, rfl, rfl, w2⟩ := open_int Try.underlying3 (hval 2 3 v2 rfl rfl) h2
  have b2 := Go.bounds_i64 w2
  clear hA0 hval0
  simp only [List.append_nil] at hW'
  refine (numbers_walk a0_0 a0_1 a0_2 a1_0 a1_1 a1_2 a2 W b1_0.1 b1_0.2 b1_1.1 b1_1.2).mono fun e W' ⟨he, hg⟩ => ?_
  subst he
  exact ⟨_, rfl, post_of_below hW' (fun _ _ _ => (trodAll_cons_mk (shut_bool Try.underlying4 _) trodAll_mk0)) (fun sp => (trodAll_cons_mk (shut_arr3 Try.underlying22 Try.underlying3 (by kernel_rfl) (by kernel_rfl) w0_0 w0_1 w0_2) (trodAll_cons_mk (shut_arr3 Try.underlying23 Try.underlying5 (by kernel_rfl) (by kernel_rfl) w1_0 w1_1 w1_2) (trodAll_cons_mk (shut_int Try.underlying3 w2) trodAll_mk0)))) (fun _ => rfl)
    hg (ok_one (by kernel_rfl) rfl (okWide_bool_mk Try.underlying4 _))⟩

theorem over : Rows.dateNumbersRow.holds Try.pinned (OpenSpec.ofChange Rows.dateNumbersSpec) :=
  OpenClaim.holds_of_wide 3 Try.f3 rfl rfl rfl rfl rfl rfl rfl ⟨rfl, rfl, rfl, rfl, rfl⟩ rfl rfl rfl rfl rfl (by kernel_rfl) Try.func3 (by kernel_rfl)
    (of_decide_eq_true (by kernel_rfl)) (by unfold Func.isWrapper; first | (rw [if_pos (by decide +kernel)]; kernel_rfl) | (rw [if_neg (by decide +kernel)]; exact ⟨rfl, rfl⟩))
    (fun os started H enc _ => lifted os started H enc)

/-- The statement. -/
theorem proved : Rows.DateNumbersSaid :=
  over
#print axioms proved
end Go.Proofs.Ytbfiflinonnmcaa.dateNumbers
