/- Walks over the functions that write the fields of a date. -/
import Derived.Test.YtbfiflinonnmcaaDateS2
namespace Go.Proofs.Ytbfiflinonnmcaa
open Go.RowKit

def shortL (n : Int) : List UInt8 := Lib.trimPrefix (dgs 2 n) [48]
set_option maxHeartbeats 400000 in
theorem short_any (n : Int) (w : World) (h0 : 0 ≤ n) (h1 : n ≤ 9999) :
    Calls Try.prog 59 #[.int .i64 n] w fun e w' => e = .returned (Str (shortL n)) ∧ Below w.heap.size w w' := by
  go_enter Try.func59, Try.ntmps59
  go_wp2_with (first | (go_at_call 58; refine (digits2_any _ _ h0 h1).mono ?_; rintro e w' ⟨rfl, hb⟩) | (go_at_call 65; refine (Try.strings_TrimPrefix _ _ _).mono ?_; rintro e w' ⟨rfl, rfl⟩))
  go_ret
  exact ⟨rfl, hb⟩
/-- what a field, or another character, of a layout is replaced by -/
def wr (y m d : Int) (f : List UInt8) : List UInt8 :=
  if f = fY then dgs 4 y else if f = fM then dgs 2 m else if f = [77] then shortL m else if f = fD then dgs 2 d else if f = [68] then shortL d else f
theorem str_lit {f g : List UInt8} (h : ¬ f = g) : (f == g) = false := by simpa using h
set_option maxHeartbeats 2000000 in
theorem write_any (y m d : Int) (f : List UInt8) (w : World) (y0 : 0 ≤ y) (y1 : y ≤ 9999) (m0 : 0 ≤ m) (m1 : m ≤ 9999) (d0 : 0 ≤ d) (d1 : d ≤ 9999) :
    Calls Try.prog 44 #[.agg #[.int .i64 y, .int .i64 m, .int .i64 d], Str f] w fun e w' => e = .returned (Str (wr y m d f)) ∧ Below w.heap.size w w' := by
  have ha := (Below.refl w.heap.size w).alloc (Nat.le_refl _) (.cells #[.int .i64 y, .int .i64 m, .int .i64 d] 63)
  by_cases h1 : f = [89, 89, 89, 89]
  · have hw : wr y m d f = dgs 4 y := by subst h1; rfl
    have Hw := Lib.hid hw
    clear hw; subst h1
    go_enter Try.func44, Try.ntmps44
    go_wp2_with (first | (go_at_call 58; refine (digits4_any _ _ y0 y1).mono ?_; rintro e w' ⟨rfl, hb⟩))
    go_ret
    exact ⟨ret_str Hw.out.symm, ha.trans (hb.mono (by simp))⟩
  · by_cases h2 : f = [77, 77]
    · have hw : wr y m d f = dgs 2 m := by subst h2; rfl
      have Hw := Lib.hid hw
      clear hw h1; subst h2
      go_enter Try.func44, Try.ntmps44
      go_wp2_with (first | (go_at_call 58; refine (digits2_any _ _ m0 m1).mono ?_; rintro e w' ⟨rfl, hb⟩))
      go_ret
      exact ⟨ret_str Hw.out.symm, ha.trans (hb.mono (by simp))⟩
    · by_cases h3 : f = [77]
      · have hw : wr y m d f = shortL m := by subst h3; rfl
        have Hw := Lib.hid hw
        clear hw h1 h2; subst h3
        go_enter Try.func44, Try.ntmps44
        go_wp2_with (first | (go_at_call 59; refine (short_any _ _ m0 m1).mono ?_; rintro e w' ⟨rfl, hb⟩))
        go_ret
        exact ⟨ret_str Hw.out.symm, ha.trans (hb.mono (by simp))⟩
      · by_cases h4 : f = [68, 68]
        · have hw : wr y m d f = dgs 2 d := by subst h4; rfl
          have Hw := Lib.hid hw
          clear hw h1 h2 h3; subst h4
          go_enter Try.func44, Try.ntmps44
          go_wp2_with (first | (go_at_call 58; refine (digits2_any _ _ d0 d1).mono ?_; rintro e w' ⟨rfl, hb⟩))
          go_ret
          exact ⟨ret_str Hw.out.symm, ha.trans (hb.mono (by simp))⟩
        · by_cases h5 : f = [68]
          · have hw : wr y m d f = shortL d := by subst h5; rfl
            have Hw := Lib.hid hw
            clear hw h1 h2 h3 h4; subst h5
            go_enter Try.func44, Try.ntmps44
            go_wp2_with (first | (go_at_call 59; refine (short_any _ _ d0 d1).mono ?_; rintro e w' ⟨rfl, hb⟩))
            go_ret
            exact ⟨ret_str Hw.out.symm, ha.trans (hb.mono (by simp))⟩
          · have hw : wr y m d f = f := by simp [wr, fY, fM, fD, h1, h2, h3, h4, h5]
            have Hw := Lib.hid hw
            have t1 := str_lit h1
            have t2 := str_lit h2
            have t3 := str_lit h3
            have t4 := str_lit h4
            have t5 := str_lit h5
            clear hw h1 h2 h3 h4 h5
            go_enter Try.func44, Try.ntmps44
            go_wp2
            go_ret
            exact ⟨ret_str Hw.out.symm, ha⟩

/-! ### (*strings.Builder).WriteString -/
abbrev tB : TypeId := 79
set_option maxHeartbeats 1000000 in
set_option maxRecDepth 100000 in
theorem copyCheck_used (b : Nat) (w : World) (c0 : w.cell? ⟨b, 0, none⟩ = some (.pointer (some ⟨b, 0, none⟩))) :
    Calls Try.prog 64 #[.pointer (some ⟨b, 0, none⟩)] w fun e w' => e = .returned (.tuple #[]) ∧ w = w' := by
  obtain ⟨j, hj, _⟩ := Option.map_eq_some_iff.1 Try.Builder_Extra_169.sizeBuilder
  have hj' : Try.prog.info? 79 = some j := hj
  go_enter Try.func64, Try.ntmps64
  go_wp2
  rw [Lib.run_neq_ptr_same w _ Try.underlying77 hj']
  go_wp2
  go_end0
  exact ⟨rfl, rfl⟩
set_option maxHeartbeats 1000000 in
set_option maxRecDepth 100000 in
theorem copyCheck_fresh (b : Nat) (w : World) (c0 : w.cell? ⟨b, 0, none⟩ = some (.pointer none)) (hsh : w.shape? b = some (tB, 2)) (hfz : w.frozen? ⟨b, 0, none⟩ = false) :
    Calls Try.prog 64 #[.pointer (some ⟨b, 0, none⟩)] w fun e w' => e = .returned (.tuple #[]) ∧ w.setCell ⟨b, 0, none⟩ (.pointer (some ⟨b, 0, none⟩)) = w' := by
  obtain ⟨j, hj, hjs⟩ := Option.map_eq_some_iff.1 Try.Builder_Extra_169.sizeBuilder
  have hj' : Try.prog.info? 79 = some j := hj
  go_enter Try.func64, Try.ntmps64
  go_wp2
  rw [Lib.run_to_unsafe w ⟨b, 0, none⟩ Try.underlying77 Try.underlying94 hj' (by rw [hjs]; decide) hsh (Nat.zero_lt_succ 1)]
  simp only [Result.andThen]
  rw [Oper.upon_value]
  go_wp2
  rw [run_callFunc_extern Try.func72 (by kernel_rfl) (by kernel_rfl) (by kernel_rfl) (e := Extern.AbiNoEscape.same) (by kernel_rfl)]
  rw [Lib.run_noEscape]
  simp only [Result.andThen]
  rw [Oper.upon_value]
  go_wp2
  rw [Lib.run_from_unsafe w ⟨b, 0, none⟩ Try.underlying94 Try.underlying77 hj' hsh Try.Builder_Extra_169.liesBuilder]
  simp only [Result.andThen]
  rw [Oper.upon_value]
  go_wp2
  go_end0
  exact ⟨rfl, rfl⟩
theorem copyCheck_any (B b : Nat) (bs : List Value) (w : World) (h : Lib.IsBuilder tB 5 B b bs w) :
    Calls Try.prog 64 #[.pointer (some ⟨b, 0, none⟩)] w fun e w' => e = .returned (.tuple #[]) ∧ (Lib.BuilderAt tB 5 B b (.pointer (some ⟨b, 0, none⟩)) bs w' ∧ Below B w w' ∧ Lib.OthersKept 5 (some b) w w') := by
  rcases h with h | h
  · refine (copyCheck_fresh b w h.cell0 h.shape h.frozen0).mono ?_
    rintro e w' ⟨rfl, rfl⟩
    exact ⟨rfl, h.used _, (Below.refl B w).setCell (p := ⟨b, 0, none⟩) h.1 _, (Lib.OthersKept.refl _ _ _).setCell ⟨b, 0, none⟩ rfl _⟩
  · refine (copyCheck_used b w h.cell0).mono ?_
    rintro e w' ⟨rfl, rfl⟩
    exact ⟨rfl, h, Below.refl B _, Lib.OthersKept.refl _ _ _⟩

set_option maxHeartbeats 2000000 in
set_option maxRecDepth 100000 in
theorem WriteString_any (B b : Nat) (bs : List Value) (s : ByteArray) (w : World) (h : Lib.IsBuilder tB 5 B b bs w) (hlen : bs.length + s.size ≤ 140737488355328) (hBw : B ≤ w.heap.size) :
    Calls Try.prog 56 #[.pointer (some ⟨b, 0, none⟩), .string s] w fun e w' => e = .returned (.tuple #[.int .i64 s.size, .nilIface]) ∧ (Lib.IsBuilder tB 5 B b (bs ++ Lib.strCells s) w' ∧ Below B w w' ∧ Lib.OthersKept 5 (some b) w w') := by
  obtain ⟨i0, hi, hz0, hz1, hz2⟩ := info_parts Try.Builder_Extra_169.infoByte
  have hi' : Try.prog.info? 5 = some i0 := hi
  clear hi
  go_enter Try.func56, Try.ntmps56
  go_wp2_with (go_at_call 64; refine (copyCheck_any B b bs _ h).mono ?_)
  rintro e w1 ⟨rfl, h1, hb1, hk1⟩
  obtain ⟨hB, v, hbk, hown, hne⟩ := h1
  have c0 : w1.cell? ⟨b, 0, none⟩ = some (.pointer (some ⟨b, 0, none⟩)) := by rw [Lib.cell_of_heap hbk]; rfl
  have c1 : w1.cell? ⟨b, 1, none⟩ = some v := by rw [Lib.cell_of_heap hbk]; rfl
  have hs1 := hb1.size
  go_wp2_with (at_builtin; refine Lib.wpList_append_own_string _ rfl _ _ 48 9 rfl B 5 i0 Try.underlying48 Try.underlying9 hi' hz0 hz1 hz2 _ _ _ rfl hown s rfl ?c3 ?c4 ?c5 ?_)
  case c3 => unfold maxLen; omega
  case c4 => omega
  case c5 => omega
  intro v' w2 hown' hgrow _
  have hlt : b < w1.heap.size := (Array.getElem?_eq_some_iff.1 hbk).1
  have hb2 : w2.heap[b]? = some (.cells #[.pointer (some ⟨b, 0, none⟩), v] tB (0, 0)) := by
    rw [hgrow.block b hlt (fun e => hne e.symm)]; exact hbk
  have d0 : w2.cell? ⟨b, 0, none⟩ = some (.pointer (some ⟨b, 0, none⟩)) := by rw [Lib.cell_of_heap hb2]; rfl
  have d1 : w2.cell? ⟨b, 1, none⟩ = some v := by rw [Lib.cell_of_heap hb2]; rfl
  have f1 : w2.frozen? ⟨b, 1, none⟩ = false := Lib.frozen_of_heap hb2 1
  have hkind : ∀ g, v.ownBlock = some g → ∃ c fz, w1.heap[g]? = some (.cells c 5 fz) := Lib.ownsRowF_kind (World.ownsRowF_of hown)
  obtain ⟨ao, n', cap, rfl⟩ : ∃ ao n' cap, v' = .slice ao n' cap := by
    rcases hown'.2 with ⟨hv, _⟩ | ⟨g, cap, cur, hv, _⟩
    · exact ⟨_, _, _, hv⟩
    · exact ⟨_, _, _, hv⟩
  go_wp2
  go_ret2
  refine ⟨rfl, .inr ?_, ?_, (hk1.grown hgrow hkind).setCell ⟨b, 1, none⟩ rfl _⟩
  · exact Lib.BuilderAt.put (T := tB) (e := 5) hB hb2 (bs' := bs ++ Lib.strCells s) (by simpa [Lib.strCells_length] using hown') Try.Builder_Extra_169.neB5
  · exact (hb1.grown hgrow (by omega) (fun k hk => (hown.lt k hk).1)).setCell (p := ⟨b, 1, none⟩) hB _
end Go.Proofs.Ytbfiflinonnmcaa
