/- Text, Parse, the examples, and the row's end for calls that only add blocks. -/
import Derived.Test.YtbfiflinonnmcaaDateS9
import Derived.Test.YtbfiflinonnmcaaDateE
namespace Go.Proofs.Ytbfiflinonnmcaa
open Go.RowKit
/-- the layout of Text -/
def isoL : List UInt8 := [89, 89, 89, 89, 45, 77, 77, 45, 68, 68]
theorem Text_any (n : Int) (w : World) :
    Calls Try.prog 27 #[.int .i64 n] w fun e w' => e = .returned (Str (fmtR isoL n)) ∧ Below w.heap.size w w' := by
  have H := Lib.hid (Format_any isoL n w (by decide))
  go_enter Try.func27, Try.ntmps27
  go_wp2_with fail
  refine H.out.mono ?_; rintro e w1 ⟨rfl, hb⟩; clear H
  go_wp2_with fail
  go_ret
  exact ⟨rfl, hb⟩
theorem Parse_any (s : List UInt8) (w : World) (hms : s.length ≤ 9223372036854775807) :
    Calls Try.prog 29 #[Str s] w fun e w' => e = .returned (.tuple #[.int .i64 (readR isoL s), .bool (readB isoL s)]) ∧ Below w.heap.size w w' := by
  have H := Lib.hid (Read_any isoL s w (by decide) hms)
  go_enter Try.func29, Try.ntmps29
  go_wp2_with fail
  refine H.out.mono ?_; rintro e w1 ⟨rfl, hb⟩; clear H
  go_wp2_with fail
  go_ret2
  exact ⟨rfl, hb⟩

set_option maxHeartbeats 4000000 in
set_option maxRecDepth 20000 in
theorem sanity_any (w : World) :
    Calls Try.prog 13 #[] w fun e w' => e = .returned (.bool true) ∧ Below w.heap.size w w' := by
  have s1 : Hid (numR 1 1 1 = 0) := Lib.hid (by kernel_rfl)
  have s2 : Hid (Cal.validB 1 1 1 = true) := Lib.hid (by kernel_rfl)
  have s3 : Hid (numR 1 12 31 = 364) := Lib.hid (by kernel_rfl)
  have s4 : Hid (Cal.validB 1 12 31 = true) := Lib.hid (by kernel_rfl)
  have s5 : Hid (numR 2 1 1 = 365) := Lib.hid (by kernel_rfl)
  have s6 : Hid (Cal.validB 2 1 1 = true) := Lib.hid (by kernel_rfl)
  have s7 : Hid (numR 2000 2 29 = 730178) := Lib.hid (by kernel_rfl)
  have s8 : Hid (Cal.validB 2000 2 29 = true) := Lib.hid (by kernel_rfl)
  have s9 : Hid (numR 1900 2 29 = 0) := Lib.hid (by kernel_rfl)
  have s10 : Hid (Cal.validB 1900 2 29 = false) := Lib.hid (by kernel_rfl)
  have s11 : Hid (civY 3652058 = 9999) := Lib.hid (by kernel_rfl)
  have s12 : Hid (civM 3652058 = 12) := Lib.hid (by kernel_rfl)
  have s13 : Hid (civD 3652058 = 31) := Lib.hid (by kernel_rfl)
  have s14 : Hid (insideB 3652058 = true) := Lib.hid (by kernel_rfl)
  have s15 : Hid (weekR 3652058 = 5) := Lib.hid (by kernel_rfl)
  have s16 : Hid (insideB 3652058 = true) := Lib.hid (by kernel_rfl)
  have s17 : Hid (numR 2024 1 31 = 738915) := Lib.hid (by kernel_rfl)
  have s18 : Hid (Cal.validB 2024 1 31 = true) := Lib.hid (by kernel_rfl)
  have s19 : Hid (monR 738915 1 = 738944) := Lib.hid (by kernel_rfl)
  have s20 : Hid (monB 738915 1 = true) := Lib.hid (by kernel_rfl)
  have s21 : Hid (monR 738915 13 = 739309) := Lib.hid (by kernel_rfl)
  have s22 : Hid (monB 738915 13 = true) := Lib.hid (by kernel_rfl)
  have s23 : Hid (monR 738915 (-1) = 738884) := Lib.hid (by kernel_rfl)
  have s24 : Hid (monB 738915 (-1) = true) := Lib.hid (by kernel_rfl)
  have s25 : Hid (fmtR [68, 46, 77, 46, 89, 89, 89, 89] 730178 = [50, 57, 46, 50, 46, 50, 48, 48, 48]) := Lib.hid (by kernel_rfl)
  have s26 : Hid (fmtB [68, 46, 77, 46, 89, 89, 89, 89] 730178 = true) := Lib.hid (by kernel_rfl)
  have s27 : Hid (readR [68, 46, 77, 46, 89, 89, 89, 89] [50, 57, 46, 50, 46, 50, 48, 48, 48] = 730178) := Lib.hid (by kernel_rfl)
  have s28 : Hid (readB [68, 46, 77, 46, 89, 89, 89, 89] [50, 57, 46, 50, 46, 50, 48, 48, 48] = true) := Lib.hid (by kernel_rfl)
  have s29 : Hid (readR [68, 46, 77, 46, 89, 89, 89, 89] [50, 57, 46, 48, 50, 46, 50, 48, 48, 48] = 0) := Lib.hid (by kernel_rfl)
  have s30 : Hid (readB [68, 46, 77, 46, 89, 89, 89, 89] [50, 57, 46, 48, 50, 46, 50, 48, 48, 48] = false) := Lib.hid (by kernel_rfl)
  have s31 : Hid (fmtR [68, 77, 89, 89, 89, 89] 0 = []) := Lib.hid (by kernel_rfl)
  have s32 : Hid (fmtB [68, 77, 89, 89, 89, 89] 0 = false) := Lib.hid (by kernel_rfl)
  have s33 : Hid (fmtR isoL 738944 = [50, 48, 50, 52, 45, 48, 50, 45, 50, 57]) := Lib.hid (by kernel_rfl)
  have s34 : Hid (fmtR isoL 739309 = [50, 48, 50, 53, 45, 48, 50, 45, 50, 56]) := Lib.hid (by kernel_rfl)
  have s35 : Hid (fmtR isoL 738884 = [50, 48, 50, 51, 45, 49, 50, 45, 51, 49]) := Lib.hid (by kernel_rfl)
  go_enter Try.func13, Try.ntmps13
  go_wp2_with fail
  refine (Number_any 1 1 1 _).mono ?_; rintro e w1 ⟨rfl, hn⟩; rw [s1.out, s2.out]
  have h1 := hn; clear hn
  go_wp2_with fail
  refine (Number_any 1 12 31 _).mono ?_; rintro e w2 ⟨rfl, hn⟩; rw [s3.out, s4.out]
  have h2 := h1.trans (hn.mono h1.size); clear hn
  clear h1
  go_wp2_with fail
  refine (Number_any 2 1 1 _).mono ?_; rintro e w3 ⟨rfl, hn⟩; rw [s5.out, s6.out]
  have h3 := h2.trans (hn.mono h2.size); clear hn
  clear h2
  go_wp2_with fail
  refine (Number_any 2000 2 29 _).mono ?_; rintro e w4 ⟨rfl, hn⟩; rw [s7.out, s8.out]
  have h4 := h3.trans (hn.mono h3.size); clear hn
  clear h3
  go_wp2_with fail
  refine (Number_any 1900 2 29 _).mono ?_; rintro e w5 ⟨rfl, hn⟩; rw [s9.out, s10.out]
  have h5 := h4.trans (hn.mono h4.size); clear hn
  clear h4
  go_wp2_with fail
  refine (Civil_any 3652058 _).mono ?_; rintro e w6 ⟨rfl, hn⟩; rw [s11.out, s12.out, s13.out, s14.out]
  have h6 := h5.trans (hn.mono h5.size); clear hn
  clear h5
  go_wp2_with fail
  refine (Weekday_any 3652058 _).mono ?_; rintro e w' ⟨rfl, rfl⟩; rw [s15.out, s16.out]
  go_wp2_with fail
  refine (Number_any 2024 1 31 _).mono ?_; rintro e w8 ⟨rfl, hn⟩; rw [s17.out, s18.out]
  have h8 := h6.trans (hn.mono h6.size); clear hn
  clear h6
  go_wp2_with fail
  refine (Months_any 738915 1 _).mono ?_; rintro e w9 ⟨rfl, hn⟩; rw [s19.out, s20.out]
  have h9 := h8.trans (hn.mono h8.size); clear hn
  clear h8
  go_wp2_with fail
  refine (Months_any 738915 13 _).mono ?_; rintro e w10 ⟨rfl, hn⟩; rw [s21.out, s22.out]
  have h10 := h9.trans (hn.mono h9.size); clear hn
  clear h9
  go_wp2_with fail
  refine (Months_any 738915 (-1) _).mono ?_; rintro e w11 ⟨rfl, hn⟩; rw [s23.out, s24.out]
  have h11 := h10.trans (hn.mono h10.size); clear hn
  clear h10
  go_wp2_with fail
  refine (Format_any [68, 46, 77, 46, 89, 89, 89, 89] 730178 _ (by decide)).mono ?_; rintro e w12 ⟨rfl, hn⟩; rw [s25.out, s26.out]
  have h12 := h11.trans (hn.mono h11.size); clear hn
  clear h11
  go_wp2_with fail
  refine (Read_any [68, 46, 77, 46, 89, 89, 89, 89] [50, 57, 46, 50, 46, 50, 48, 48, 48] _ (by decide) (by decide)).mono ?_; rintro e w13 ⟨rfl, hn⟩; rw [s27.out, s28.out]
  have h13 := h12.trans (hn.mono h12.size); clear hn
  clear h12
  go_wp2_with fail
  refine (Read_any [68, 46, 77, 46, 89, 89, 89, 89] [50, 57, 46, 48, 50, 46, 50, 48, 48, 48] _ (by decide) (by decide)).mono ?_; rintro e w14 ⟨rfl, hn⟩; rw [s29.out, s30.out]
  have h14 := h13.trans (hn.mono h13.size); clear hn
  clear h13
  go_wp2_with fail
  refine (Format_any [68, 77, 89, 89, 89, 89] 0 _ (by decide)).mono ?_; rintro e w15 ⟨rfl, hn⟩; rw [s31.out, s32.out]
  have h15 := h14.trans (hn.mono h14.size); clear hn
  clear h14
  go_wp2_with fail
  refine (Text_any 738944 _).mono ?_; rintro e w16 ⟨rfl, hn⟩; rw [s33.out]
  have h16 := h15.trans (hn.mono h15.size); clear hn
  clear h15
  go_wp2_with fail
  refine (Text_any 739309 _).mono ?_; rintro e w17 ⟨rfl, hn⟩; rw [s34.out]
  have h17 := h16.trans (hn.mono h16.size); clear hn
  clear h16
  go_wp2_with fail
  refine (Text_any 738884 _).mono ?_; rintro e w18 ⟨rfl, hn⟩; rw [s35.out]
  have h18 := h17.trans (hn.mono h17.size); clear hn
  clear h17
  go_wp2_with fail
  go_ret
  exact ⟨rfl, h18⟩

/-! ### the row's end -/
section
open Go.ChangeShapes Go.WideShapes
variable {H : Type} {enc : TypeId × Value → H} {P : Program}
theorem post_of_below {f : Func} {s : ChangeSpec} {apart fresh handsOn again : Bool} {W W' : World} {args : Array Value} {v : Value} {ds gs : List (DataW H)}
    (hW : DataW.Whole enc P f.params.toList s.vars apart W args.toList ds gs [])
    (hres : ∀ (b : Nat) (sp : Nat → Bool) (hd : Bool), DataW.TrodAll enc P W' b sp hd f.resultTypes.toList (v.resultList f.resultTypes.size) (s.fn H (ds ++ gs)).results [])
    (hargs : ∀ sp : Nat → Bool, DataW.TrodAll enc P W' 0 sp true f.params.toList args.toList (s.fn H (ds ++ gs)).args [])
    (hvars : ∀ sp : Nat → Bool, DataW.TrodVars enc P W' sp s.vars (s.fn H (ds ++ gs)).vars [])
    (hb : Below W.heap.size W W')
    (hok : ∀ (j : Nat) (t : TypeId) (r : Value), f.resultTypes[j]? = some t → (v.resultList f.resultTypes.size)[j]? = some r → Value.okWide P W' .any 0 t r) :
    s.post enc P f apart fresh handsOn again W args v W' := by
  refine ⟨ds, gs, [], [], [], [], hW, hres _ _ _, hargs _, hvars _, hb.frame _, fun _ => ⟨hok, _, _, ([] ++ []) ++ [], ⟨[] ++ [], [], trodAll_append (hargs _) (hres _ _ _), hvars _, rfl, ?_, ?_⟩, ?_⟩⟩
  · intro b off hp; simp at hp
  · intro _; simp
  · intro p hp; simp at hp
end
end Go.Proofs.Ytbfiflinonnmcaa
