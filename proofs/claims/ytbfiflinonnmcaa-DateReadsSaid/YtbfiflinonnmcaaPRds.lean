/- The row of this law: the frame is the kit's skeleton; the walk stands in the text that is imported. -/
import Derived.Test.YtbfiflinonnmcaaRows
import Derived.Test.YtbfiflinonnmcaaLRds
import Derived.Test.YtbfiflinonnmcaaArr
import Derived.WalkKit
import Derived.ProofKit
import Derived.OpenShut
import Derived.ShutString
import Derived.SizedLaws
namespace Go.Proofs.Ytbfiflinonnmcaa.dateReads
open Go.ChangeShapes Go.WideShapes Go.ChangeAt Go.RowKit
open Go.ChangeMaps (open_string shut_string)
set_option linter.unusedVariables false

theorem own : ownKnob Try.prog.godebug = none := by kernel_rfl

set_option maxRecDepth 100000 in
theorem lifted (os : Os) (started : os.Started) (H : Type) (enc : TypeId × Value → H) :
    ReturnsInHanded {} Try.checked os 9 .any (Rows.dateReadsSpec.pre6 enc Try.prog Try.f9 Rows.dateReadsRow.domain false) (Rows.dateReadsSpec.post enc Try.prog Try.f9 false true false false) := by
  refine returnsInHanded_of_change_sized (C := Try.checked) own started (by kernel_rfl) Try.func9
    (ChangeSpec.witness6 (enc := enc) (C := Try.checked) false ⟨#[], #[.int .i64 0, .string ⟨#[]⟩, .agg #[.int .i64 0, .int .i64 0, .int .i64 0, .int .i64 0, .int .i64 0, .int .i64 0, .int .i64 0, .int .i64 0]], []⟩ 8 (by kernel_rfl) (by kernel_rfl) (by kernel_rfl) (by kernel_rfl)) ?_
  intro W base args ds gs before hval0 hW hcnd hszd _
  have hval : ∀ (j : Nat) t v, Try.f9.params[j]? = some t → args[j]? = some v → Value.okWide Try.prog W .any base t v := hval0
  have hW' := hW
  obtain ⟨p, q, hA0, hV, rfl, hfz, hnd⟩ := hW
  have hA : DataW.TrodAll enc Try.prog W 0 (fun _ => true) true Try.f9.params.toList args.toList ds p := hA0
  rw [Try.params9] at hA hval
  obtain ⟨v0, vs0, d0, ds0, p0, q0, hargs, rfl, rfl, h0, r0⟩ := trodAll_cons hA
  obtain ⟨v1, vs1, d1, ds1, p1, q1, rfl, rfl, rfl, h1, r1⟩ := trodAll_cons r0
  obtain ⟨v2, vs2, d2, ds2, p2, q2, rfl, rfl, rfl, h2, r2⟩ := trodAll_cons r1
  obtain ⟨rfl, rfl, rfl⟩ := trodAll_nil r2
  obtain rfl : args = #[v0, v1, v2] := by cases args; simp_all
  obtain ⟨rfl, rfl⟩ := trodVars_none hV
  obtain ⟨a0, rfl, rfl, rfl, w0⟩ := open_int Try.underlying3 (hval 0 3 v0 rfl rfl) h0
  have b0 := Go.bounds_i64 w0
  obtain ⟨s1, rfl, rfl, rfl, hs1⟩ := open_string Try.underlying9 (hval 1 9 v1 rfl rfl) h1
  have hr1 : s1.data.toList.length ≤ 140737488355328 := Nat.le_trans (sized_string hszd (j := 1) (t := 9) (by kernel_rfl) rfl) (by decide)
  obtain ⟨zs2, hl2, rfl, rfl, rfl, hw2⟩ := open_arr Try.underlying47 Try.underlying3 (by kernel_rfl) (by kernel_rfl) (hval 2 47 v2 rfl rfl) h2
  obtain ⟨a2_0, a2_1, a2_2, a2_3, a2_4, a2_5, a2_6, a2_7, rfl⟩ := list8 hl2
  have w2_0 := hw2 a2_0 (by simp)
  have b2_0 := Go.bounds_i64 w2_0
  have w2_1 := hw2 a2_1 (by simp)
  have b2_1 := Go.bounds_i64 w2_1
  have w2_2 := hw2 a2_2 (by simp)
  have b2_2 := Go.bounds_i64 w2_2
  have w2_3 := hw2 a2_3 (by simp)
  have b2_3 := Go.bounds_i64 w2_3
  have w2_4 := hw2 a2_4 (by simp)
  have b2_4 := Go.bounds_i64 w2_4
  have w2_5 := hw2 a2_5 (by simp)
  have b2_5 := Go.bounds_i64 w2_5
  have w2_6 := hw2 a2_6 (by simp)
  have b2_6 := Go.bounds_i64 w2_6
  have w2_7 := hw2 a2_7 (by simp)
  have b2_7 := Go.bounds_i64 w2_7
  clear hA0 hval0
  simp only [List.append_nil] at hW'
  refine (reads_walk a0 s1.data.toList a2_0 a2_1 a2_2 a2_3 a2_4 a2_5 a2_6 a2_7  W hr1 b2_0.1 b2_0.2 b2_1.1 b2_1.2 b2_2.1 b2_2.2 b2_3.1 b2_3.2 b2_4.1 b2_4.2 b2_5.1 b2_5.2 b2_6.1 b2_6.2 b2_7.1 b2_7.2 ).mono fun e W' ⟨he, hg⟩ => ?_
  subst he
  exact ⟨_, rfl, post_of_below hW' (fun _ _ _ => (trodAll_cons_mk (shut_bool Try.underlying4 _) trodAll_mk0)) (fun sp => (trodAll_cons_mk (shut_int Try.underlying3 w0) (trodAll_cons_mk (shut_string Try.underlying9 hs1) (trodAll_cons_mk (shut_arr8 Try.underlying47 Try.underlying3 (by kernel_rfl) (by kernel_rfl) w2_0 w2_1 w2_2 w2_3 w2_4 w2_5 w2_6 w2_7) trodAll_mk0)))) (fun _ => rfl)
    hg (ok_one (by kernel_rfl) rfl (okWide_bool_mk Try.underlying4 _))⟩

theorem over : Rows.dateReadsRow.holds Try.pinned (OpenSpec.ofChange Rows.dateReadsSpec) :=
  OpenClaim.holds_of_wide 9 Try.f9 rfl rfl rfl rfl rfl rfl rfl ⟨rfl, rfl, rfl, rfl, rfl⟩ rfl rfl rfl rfl rfl (by kernel_rfl) Try.func9 (by kernel_rfl)
    (of_decide_eq_true (by kernel_rfl)) (by unfold Func.isWrapper; first | (rw [if_pos (by decide +kernel)]; kernel_rfl) | (rw [if_neg (by decide +kernel)]; exact ⟨rfl, rfl⟩))
    (fun os started H enc _ => lifted os started H enc)

/-- The statement. -/
theorem proved : Rows.DateReadsSaid :=
  over
#print axioms proved
end Go.Proofs.Ytbfiflinonnmcaa.dateReads
