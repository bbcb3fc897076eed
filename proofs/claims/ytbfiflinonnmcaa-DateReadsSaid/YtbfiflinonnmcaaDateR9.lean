/- A walk over the reference's Read. -/
import Derived.Test.YtbfiflinonnmcaaDateD3
namespace Go.Proofs.Ytbfiflinonnmcaa
open Go.RowKit
attribute [local go_sem] Oper.semAt_some

theorem takeD_at {s : List UInt8} {at_ j most : Nat} (hd : ((s.drop at_).take j).all isDig = true) (hj : j ≤ most) (hl : j = 0 ∨ at_ + j ≤ s.length) (hs : j = most ∨ s.length ≤ at_ + j ∨ ∃ h : at_ + j < s.length, isDig s[at_ + j] = false) :
    takeD most 0 (s.drop at_) = (valD ((s.drop at_).take j), s.drop (at_ + j)) := by
  have hlen : ((s.drop at_).take j).length = j ∨ j = 0 := by
    rcases hl with h | h
    · right; exact h
    · left; rw [List.length_take, List.length_drop]; omega
  have hlj : ((s.drop at_).take j).length ≤ j := by rw [List.length_take]; omega
  have hnd : s.length ≤ at_ + j ∨ (∃ h : at_ + j < s.length, isDig s[at_ + j] = false) → NoDig (s.drop (at_ + j)) := fun h b t e => by
    rcases h with h | ⟨h, hb⟩
    · rw [List.drop_eq_nil_of_le h] at e; cases e
    · rw [List.drop_eq_getElem_cons h] at e
      injection e with e1 _
      rw [← e1]; exact hb
  have key := takeD_exact ((s.drop at_).take j) (s.drop (at_ + j)) most hd (by omega) (by
    rcases hs with h | h
    · rcases hlen with h2 | h2
      · left; omega
      · left; omega
    · right; exact hnd h)
  rw [← List.drop_drop, List.take_append_drop] at key
  rw [List.drop_drop] at key
  exact key
theorem no_Y {l : List UInt8} (hr : rightB l = true) : [89] ∉ segs l := fun h => by
  have hs := scan_bad_mem (f := [89]) (fun s => rfl) (segs l) h
  have : rightB l = false := by simp [rightB, hs]
  rw [this] at hr; cases hr
theorem snoc_dig {s : List UInt8} {at_ j : Nat} {x : UInt8} (h : at_ + j < s.length) (hx : s[at_ + j] = x) (hd : ((s.drop at_).take j).all isDig = true) (hg : isDig x = true) : ((s.drop at_).take (j + 1)).all isDig = true := by
  have hl : j < (s.drop at_).length := by rw [List.length_drop]; omega
  have hx2 : (s.drop at_)[j] = x := by rw [List.getElem_drop]; exact hx
  rw [takeb_snoc hl hx2, List.all_append, hd]
  simp [hg]

set_option maxHeartbeats 8000000 in
set_option maxRecDepth 20000 in
theorem refRead_any (lay s : List UInt8) (w : World) (hm : lay.length ≤ 9223372036854775807) (hms : s.length ≤ 281474976710656) :
    Calls Try.prog 26 #[Str lay, Str s] w fun e w' => e = .returned (.tuple #[.int .i64 (readR lay s), .bool (readB lay s)]) ∧ Below w.heap.size w w' := by
  have HR := Lib.hid (refRight_any' lay w hm)
  have hss : (⟨s.toArray⟩ : ByteArray).size = s.length := by simp [ByteArray.size]
  rcases Bool.eq_false_or_eq_true (rightB lay) with hr | hr
  · have hl40 := right_len hr
    have hs40 := segs_len40 hl40
    have Hr := Lib.hid hr
    clear hr
    go_enter Try.func26, Try.ntmps26
    go_wp2_with fail
    refine HR.out.mono ?_; rintro e w1 ⟨rfl, hb1⟩; rw [Hr.out]
    clear HR
    obtain ⟨M, hM⟩ : ∃ M, w1.heap.size = M := ⟨_, rfl⟩
    have hwM : w.heap.size ≤ M := by rw [← hM]; exact hb1.size
    have hv0 := HoldsA.new M w1 #[.int .i64 0, .int .i64 0, .int .i64 0] 22 hM.symm
    have hbn := hb1.alloc hb1.size (.cells #[.int .i64 0, .int .i64 0, .int .i64 0] 22)
    go_wp2_with fail
    generalize w1.alloc (.cells #[.int .i64 0, .int .i64 0, .int .i64 0] 22) = w2 at *
    refine (Parts_any lay w2 hl40).mono ?_; rintro e w3 ⟨v, rfl, hown, hb3⟩
    have hM3 := hv0.lt
    have hv0 := hv0.below hb3 hv0.lt
    have hbl := hbn.trans (hb3.mono hbn.size)
    clear hbn hb1
    by_cases hne : segs lay = []
    · exfalso
      have := Hr.out
      unfold rightB at this
      rw [hne] at this
      simp [scan] at this
    · obtain ⟨g, cap, rfl, hg1, hg2⟩ := own_form hown hne
      have hgM : g ≠ M := by omega
      have hMg : M ≠ g := by omega
      have HL : Hid (∃ n, (segs lay).length = n) := Lib.hid ⟨_, rfl⟩
      have HnY := Lib.hid (no_Y Hr.out)
      go_wp2_with fail
      obtain ⟨n, hn⟩ := HL.out
      rw [hn]

      go_loopw [8, 10] (fun p i ww => ∃ (k at_ : Nat) (y m d : Int), k ≤ n ∧ at_ ≤ s.length + k ∧ i = .int .i64 k ∧ p = .int .i64 at_ ∧ rdAll s ((segs lay).take k) = ⟨y, m, d, s.drop at_⟩ ∧
        HoldsA M #[.int .i64 y, .int .i64 m, .int .i64 d] 22 ww ∧ OwnsStr w2.heap.size (.slice (some ⟨g, 0, none⟩) (segs lay).length cap) (segs lay) ww ∧ Below w.heap.size w ww) (fun _ i _ => n - (intOf i).toNat)
      case atStart => exact ⟨0, 0, 0, 0, 0, by omega, by omega, rfl, rfl, rfl, hv0, hown, hbl⟩
      case round =>
        clear hv0 hown hbl hb3
        obtain ⟨k, at_, y, m, d, hkn, hat, rfl, rfl, hrd, hh, hown, hbl⟩ := hrel
        have c0 := hh.cell 0
        have c1 := hh.cell 1
        have c2 := hh.cell 2
        have f0 := hh.free 0
        have f1 := hh.free 1
        have f2 := hh.free 2
        simp at c0 c1 c2
        have Hrd := Lib.hid hrd
        clear hrd
        by_cases hk : k < n
        · have hk' : k < (segs lay).length := by omega
          obtain ⟨f, hf⟩ : ∃ f, (segs lay)[k] = f := ⟨_, rfl⟩
          have hgc := own_cell hown k hk'
          rw [hf] at hgc
          have hfm : f ∈ segs lay := by rw [← hf]; exact List.getElem_mem _
          have hpc := piece_of Hr.out f hfm
          have Hnx : Hid (rdAll s ((segs lay).take (k + 1)) = rdStep ⟨y, m, d, s.drop at_⟩ f) := Lib.hid (by rw [take_snoc hk', rdAll_snoc, Hrd.out, hf])
          have Hfm := Lib.hid hfm
          clear hf hfm
          have Hset : Hid (∀ (q : Nat) (u : Value) (y' m' d' : Int), (#[.int .i64 y, .int .i64 m, .int .i64 d] : Array Value).setIfInBounds q u = #[.int .i64 y', .int .i64 m', .int .i64 d'] → HoldsA M #[.int .i64 y', .int .i64 m', .int .i64 d'] 22 (wr.setCell ⟨M, q, none⟩ u) ∧ OwnsStr w2.heap.size (.slice (some ⟨g, 0, none⟩) (segs lay).length cap) (segs lay) (wr.setCell ⟨M, q, none⟩ u) ∧ Below w.heap.size w (wr.setCell ⟨M, q, none⟩ u)) :=
            Lib.hid (fun q u y' m' d' he => ⟨by have := hh.set q u; rw [he] at this; exact this, ownsRow_setCell_other hown (by simp [Value.ownBlock]; omega) _, hbl.setCell (p := ⟨M, q, none⟩) hwM _⟩)
          have Hkeep : Hid (HoldsA M #[.int .i64 y, .int .i64 m, .int .i64 d] 22 wr ∧ OwnsStr w2.heap.size (.slice (some ⟨g, 0, none⟩) (segs lay).length cap) (segs lay) wr) := Lib.hid ⟨hh, hown⟩
          clear hh hown
          rcases hpc with rfl | rfl | rfl | ⟨x, rfl, hx⟩

          · unfold fY at hgc
            go_wp2_with fail
            go_loop [12] (fun v => ∃ e j : Nat, v = .int .i64 e ∧ e = at_ + j ∧ j ≤ 4 ∧ (j = 0 ∨ at_ + j ≤ s.length) ∧ ((s.drop at_).take j).all isDig = true) (fun v => at_ + 4 - (intOf v).toNat)
            case atStart => exact ⟨at_, 0, rfl, rfl, by omega, .inl rfl, by simp⟩
            case round =>
              obtain ⟨e, j, rfl, rfl, hj, hjl, hd⟩ := hrel
              have Hd := Lib.hid hd
              clear hd
              by_cases q1 : at_ + j < s.length
              · obtain ⟨x, hx⟩ : ∃ x : UInt8, s[at_ + j] = x := ⟨_, rfl⟩
                have hidx : ∀ (h : at_ + j < (⟨s.toArray⟩ : ByteArray).size), (⟨s.toArray⟩ : ByteArray)[at_ + j]'h = x := fun h => hx
                have hx8 : x.toNat < 256 := UInt8.toNat_lt x
                have Hx := Lib.hid hx
                clear hx
                by_cases q2 : j < 4
                · by_cases q3 : (48 : Int) ≤ (x.toNat : Int)
                  · by_cases q4 : (x.toNat : Int) ≤ 57
                    · have Hs := Lib.hid (snoc_dig q1 Hx.out Hd.out (by simp [isDig]; omega))
                      go_wp2_with fail
                      go_round
                      case rel => exact ⟨at_ + (j + 1), j + 1, by go_num, rfl, by omega, .inr (by omega), Hs.out⟩
                      case measure => simp [intOf]; omega
                    · clear hjl
                      have hjl : j = 0 ∨ at_ + j ≤ s.length := .inr (by omega)
                      have Ht := Lib.hid (takeD_at (most := 4) Hd.out (by omega) hjl (.inr (.inr ⟨q1, by rw [Hx.out]; simp [isDig]; omega⟩)))
                      have hxl : ((s.drop at_).take j).length ≤ 4 := by rw [List.length_take]; omega
                      have hx := ext_mid s at_ j
                      have HV : Hid (numV ((s.drop at_).take j) = valD ((s.drop at_).take j)) := Lib.hid (by simp only [numV, Hd.out]; rfl)
                      have HN := Lib.hid (refnumber_any ((s.drop at_).take j) wr hxl)
                      have Hnx2 : Hid (rdAll s ((segs lay).take (k + 1)) = ⟨(valD ((s.drop at_).take j)), m, d, s.drop (at_ + j)⟩) := Lib.hid (by
                        rw [Hnx.out]
                        have e : rdStep ⟨y, m, d, s.drop at_⟩ fY = ⟨(takeD 4 0 (s.drop at_)).1, m, d, (takeD 4 0 (s.drop at_)).2⟩ := rfl
                        rw [e, Ht.out])
                      generalize (s.drop at_).take j = X at *
                      go_wp2_with fail
                      refine HN.out.mono ?_; rintro e w' ⟨rfl, rfl⟩; rw [HV.out]
                      clear HN HV Ht
                      go_wp2_with fail
                      go_roundw
                      case rel =>
                        obtain ⟨z1, z2, z3⟩ := Hset.out 0 (.int .i64 (valD X)) (valD X) (m) (d) (by simp)
                        exact ⟨k + 1, at_ + j, valD X, m, d, by omega, by omega, by go_num, by first | rfl | go_num, Hnx2.out, z1, z2, z3⟩
                      case measure => simp [intOf]; omega
                  · clear hjl
                    have hjl : j = 0 ∨ at_ + j ≤ s.length := .inr (by omega)
                    have Ht := Lib.hid (takeD_at (most := 4) Hd.out (by omega) hjl (.inr (.inr ⟨q1, by rw [Hx.out]; simp [isDig]; omega⟩)))
                    have hxl : ((s.drop at_).take j).length ≤ 4 := by rw [List.length_take]; omega
                    have hx := ext_mid s at_ j
                    have HV : Hid (numV ((s.drop at_).take j) = valD ((s.drop at_).take j)) := Lib.hid (by simp only [numV, Hd.out]; rfl)
                    have HN := Lib.hid (refnumber_any ((s.drop at_).take j) wr hxl)
                    have Hnx2 : Hid (rdAll s ((segs lay).take (k + 1)) = ⟨(valD ((s.drop at_).take j)), m, d, s.drop (at_ + j)⟩) := Lib.hid (by
                      rw [Hnx.out]
                      have e : rdStep ⟨y, m, d, s.drop at_⟩ fY = ⟨(takeD 4 0 (s.drop at_)).1, m, d, (takeD 4 0 (s.drop at_)).2⟩ := rfl
                      rw [e, Ht.out])
                    generalize (s.drop at_).take j = X at *
                    go_wp2_with fail
                    refine HN.out.mono ?_; rintro e w' ⟨rfl, rfl⟩; rw [HV.out]
                    clear HN HV Ht
                    go_wp2_with fail
                    go_roundw
                    case rel =>
                      obtain ⟨z1, z2, z3⟩ := Hset.out 0 (.int .i64 (valD X)) (valD X) (m) (d) (by simp)
                      exact ⟨k + 1, at_ + j, valD X, m, d, by omega, by omega, by go_num, by first | rfl | go_num, Hnx2.out, z1, z2, z3⟩
                    case measure => simp [intOf]; omega
                · clear hjl
                  have hjl : j = 0 ∨ at_ + j ≤ s.length := .inr (by omega)
                  have Ht := Lib.hid (takeD_at (most := 4) Hd.out (by omega) hjl (.inl (by omega)))
                  have hxl : ((s.drop at_).take j).length ≤ 4 := by rw [List.length_take]; omega
                  have hx := ext_mid s at_ j
                  have HV : Hid (numV ((s.drop at_).take j) = valD ((s.drop at_).take j)) := Lib.hid (by simp only [numV, Hd.out]; rfl)
                  have HN := Lib.hid (refnumber_any ((s.drop at_).take j) wr hxl)
                  have Hnx2 : Hid (rdAll s ((segs lay).take (k + 1)) = ⟨(valD ((s.drop at_).take j)), m, d, s.drop (at_ + j)⟩) := Lib.hid (by
                    rw [Hnx.out]
                    have e : rdStep ⟨y, m, d, s.drop at_⟩ fY = ⟨(takeD 4 0 (s.drop at_)).1, m, d, (takeD 4 0 (s.drop at_)).2⟩ := rfl
                    rw [e, Ht.out])
                  generalize (s.drop at_).take j = X at *
                  go_wp2_with fail
                  refine HN.out.mono ?_; rintro e w' ⟨rfl, rfl⟩; rw [HV.out]
                  clear HN HV Ht
                  go_wp2_with fail
                  go_roundw
                  case rel =>
                    obtain ⟨z1, z2, z3⟩ := Hset.out 0 (.int .i64 (valD X)) (valD X) (m) (d) (by simp)
                    exact ⟨k + 1, at_ + j, valD X, m, d, by omega, by omega, by go_num, by first | rfl | go_num, Hnx2.out, z1, z2, z3⟩
                  case measure => simp [intOf]; omega
              · by_cases q5 : s.length < at_
                · obtain rfl : j = 0 := by omega
                  have r1 : readB lay s = false := read_short Hr.out hk' (by rw [Hrd.out]; exact List.drop_eq_nil_of_le (by omega))
                  have r2 := readR_no r1
                  have R1 := Lib.hid r1
                  have R2 := Lib.hid r2
                  clear r1 r2
                  go_wp2_with fail
                  go_ret2
                  exact ⟨by rw [R1.out, R2.out]; rfl, hbl⟩
                · have hjl : j = 0 ∨ at_ + j ≤ s.length := hjl
                  have Ht := Lib.hid (takeD_at (most := 4) Hd.out (by omega) hjl (.inr (.inl (by omega))))
                  have hxl : ((s.drop at_).take j).length ≤ 4 := by rw [List.length_take]; omega
                  have hx := ext_mid s at_ j
                  have HV : Hid (numV ((s.drop at_).take j) = valD ((s.drop at_).take j)) := Lib.hid (by simp only [numV, Hd.out]; rfl)
                  have HN := Lib.hid (refnumber_any ((s.drop at_).take j) wr hxl)
                  have Hnx2 : Hid (rdAll s ((segs lay).take (k + 1)) = ⟨(valD ((s.drop at_).take j)), m, d, s.drop (at_ + j)⟩) := Lib.hid (by
                    rw [Hnx.out]
                    have e : rdStep ⟨y, m, d, s.drop at_⟩ fY = ⟨(takeD 4 0 (s.drop at_)).1, m, d, (takeD 4 0 (s.drop at_)).2⟩ := rfl
                    rw [e, Ht.out])
                  generalize (s.drop at_).take j = X at *
                  go_wp2_with fail
                  refine HN.out.mono ?_; rintro e w' ⟨rfl, rfl⟩; rw [HV.out]
                  clear HN HV Ht
                  go_wp2_with fail
                  go_roundw
                  case rel =>
                    obtain ⟨z1, z2, z3⟩ := Hset.out 0 (.int .i64 (valD X)) (valD X) (m) (d) (by simp)
                    exact ⟨k + 1, at_ + j, valD X, m, d, by omega, by omega, by go_num, by first | rfl | go_num, Hnx2.out, z1, z2, z3⟩
                  case measure => simp [intOf]; omega
          · unfold fM at hgc
            go_wp2_with fail
            go_loop [12] (fun v => ∃ e j : Nat, v = .int .i64 e ∧ e = at_ + j ∧ j ≤ 2 ∧ (j = 0 ∨ at_ + j ≤ s.length) ∧ ((s.drop at_).take j).all isDig = true) (fun v => at_ + 2 - (intOf v).toNat)
            case atStart => exact ⟨at_, 0, rfl, rfl, by omega, .inl rfl, by simp⟩
            case round =>
              obtain ⟨e, j, rfl, rfl, hj, hjl, hd⟩ := hrel
              have Hd := Lib.hid hd
              clear hd
              by_cases q1 : at_ + j < s.length
              · obtain ⟨x, hx⟩ : ∃ x : UInt8, s[at_ + j] = x := ⟨_, rfl⟩
                have hidx : ∀ (h : at_ + j < (⟨s.toArray⟩ : ByteArray).size), (⟨s.toArray⟩ : ByteArray)[at_ + j]'h = x := fun h => hx
                have hx8 : x.toNat < 256 := UInt8.toNat_lt x
                have Hx := Lib.hid hx
                clear hx
                by_cases q2 : j < 2
                · by_cases q3 : (48 : Int) ≤ (x.toNat : Int)
                  · by_cases q4 : (x.toNat : Int) ≤ 57
                    · have Hs := Lib.hid (snoc_dig q1 Hx.out Hd.out (by simp [isDig]; omega))
                      go_wp2_with fail
                      go_round
                      case rel => exact ⟨at_ + (j + 1), j + 1, by go_num, rfl, by omega, .inr (by omega), Hs.out⟩
                      case measure => simp [intOf]; omega
                    · clear hjl
                      have hjl : j = 0 ∨ at_ + j ≤ s.length := .inr (by omega)
                      have Ht := Lib.hid (takeD_at (most := 2) Hd.out (by omega) hjl (.inr (.inr ⟨q1, by rw [Hx.out]; simp [isDig]; omega⟩)))
                      have hxl : ((s.drop at_).take j).length ≤ 4 := by rw [List.length_take]; omega
                      have hx := ext_mid s at_ j
                      have HV : Hid (numV ((s.drop at_).take j) = valD ((s.drop at_).take j)) := Lib.hid (by simp only [numV, Hd.out]; rfl)
                      have HN := Lib.hid (refnumber_any ((s.drop at_).take j) wr hxl)
                      have Hnx2 : Hid (rdAll s ((segs lay).take (k + 1)) = ⟨y, (valD ((s.drop at_).take j)), d, s.drop (at_ + j)⟩) := Lib.hid (by
                        rw [Hnx.out]
                        have e : rdStep ⟨y, m, d, s.drop at_⟩ fM = ⟨y, (takeD 2 0 (s.drop at_)).1, d, (takeD 2 0 (s.drop at_)).2⟩ := rfl
                        rw [e, Ht.out])
                      generalize (s.drop at_).take j = X at *
                      go_wp2_with fail
                      refine HN.out.mono ?_; rintro e w' ⟨rfl, rfl⟩; rw [HV.out]
                      clear HN HV Ht
                      go_wp2_with fail
                      go_roundw
                      case rel =>
                        obtain ⟨z1, z2, z3⟩ := Hset.out 1 (.int .i64 (valD X)) (y) (valD X) (d) (by simp)
                        exact ⟨k + 1, at_ + j, y, valD X, d, by omega, by omega, by go_num, by first | rfl | go_num, Hnx2.out, z1, z2, z3⟩
                      case measure => simp [intOf]; omega
                  · clear hjl
                    have hjl : j = 0 ∨ at_ + j ≤ s.length := .inr (by omega)
                    have Ht := Lib.hid (takeD_at (most := 2) Hd.out (by omega) hjl (.inr (.inr ⟨q1, by rw [Hx.out]; simp [isDig]; omega⟩)))
                    have hxl : ((s.drop at_).take j).length ≤ 4 := by rw [List.length_take]; omega
                    have hx := ext_mid s at_ j
                    have HV : Hid (numV ((s.drop at_).take j) = valD ((s.drop at_).take j)) := Lib.hid (by simp only [numV, Hd.out]; rfl)
                    have HN := Lib.hid (refnumber_any ((s.drop at_).take j) wr hxl)
                    have Hnx2 : Hid (rdAll s ((segs lay).take (k + 1)) = ⟨y, (valD ((s.drop at_).take j)), d, s.drop (at_ + j)⟩) := Lib.hid (by
                      rw [Hnx.out]
                      have e : rdStep ⟨y, m, d, s.drop at_⟩ fM = ⟨y, (takeD 2 0 (s.drop at_)).1, d, (takeD 2 0 (s.drop at_)).2⟩ := rfl
                      rw [e, Ht.out])
                    generalize (s.drop at_).take j = X at *
                    go_wp2_with fail
                    refine HN.out.mono ?_; rintro e w' ⟨rfl, rfl⟩; rw [HV.out]
                    clear HN HV Ht
                    go_wp2_with fail
                    go_roundw
                    case rel =>
                      obtain ⟨z1, z2, z3⟩ := Hset.out 1 (.int .i64 (valD X)) (y) (valD X) (d) (by simp)
                      exact ⟨k + 1, at_ + j, y, valD X, d, by omega, by omega, by go_num, by first | rfl | go_num, Hnx2.out, z1, z2, z3⟩
                    case measure => simp [intOf]; omega
                · clear hjl
                  have hjl : j = 0 ∨ at_ + j ≤ s.length := .inr (by omega)
                  have Ht := Lib.hid (takeD_at (most := 2) Hd.out (by omega) hjl (.inl (by omega)))
                  have hxl : ((s.drop at_).take j).length ≤ 4 := by rw [List.length_take]; omega
                  have hx := ext_mid s at_ j
                  have HV : Hid (numV ((s.drop at_).take j) = valD ((s.drop at_).take j)) := Lib.hid (by simp only [numV, Hd.out]; rfl)
                  have HN := Lib.hid (refnumber_any ((s.drop at_).take j) wr hxl)
                  have Hnx2 : Hid (rdAll s ((segs lay).take (k + 1)) = ⟨y, (valD ((s.drop at_).take j)), d, s.drop (at_ + j)⟩) := Lib.hid (by
                    rw [Hnx.out]
                    have e : rdStep ⟨y, m, d, s.drop at_⟩ fM = ⟨y, (takeD 2 0 (s.drop at_)).1, d, (takeD 2 0 (s.drop at_)).2⟩ := rfl
                    rw [e, Ht.out])
                  generalize (s.drop at_).take j = X at *
                  go_wp2_with fail
                  refine HN.out.mono ?_; rintro e w' ⟨rfl, rfl⟩; rw [HV.out]
                  clear HN HV Ht
                  go_wp2_with fail
                  go_roundw
                  case rel =>
                    obtain ⟨z1, z2, z3⟩ := Hset.out 1 (.int .i64 (valD X)) (y) (valD X) (d) (by simp)
                    exact ⟨k + 1, at_ + j, y, valD X, d, by omega, by omega, by go_num, by first | rfl | go_num, Hnx2.out, z1, z2, z3⟩
                  case measure => simp [intOf]; omega
              · by_cases q5 : s.length < at_
                · obtain rfl : j = 0 := by omega
                  have r1 : readB lay s = false := read_short Hr.out hk' (by rw [Hrd.out]; exact List.drop_eq_nil_of_le (by omega))
                  have r2 := readR_no r1
                  have R1 := Lib.hid r1
                  have R2 := Lib.hid r2
                  clear r1 r2
                  go_wp2_with fail
                  go_ret2
                  exact ⟨by rw [R1.out, R2.out]; rfl, hbl⟩
                · have hjl : j = 0 ∨ at_ + j ≤ s.length := hjl
                  have Ht := Lib.hid (takeD_at (most := 2) Hd.out (by omega) hjl (.inr (.inl (by omega))))
                  have hxl : ((s.drop at_).take j).length ≤ 4 := by rw [List.length_take]; omega
                  have hx := ext_mid s at_ j
                  have HV : Hid (numV ((s.drop at_).take j) = valD ((s.drop at_).take j)) := Lib.hid (by simp only [numV, Hd.out]; rfl)
                  have HN := Lib.hid (refnumber_any ((s.drop at_).take j) wr hxl)
                  have Hnx2 : Hid (rdAll s ((segs lay).take (k + 1)) = ⟨y, (valD ((s.drop at_).take j)), d, s.drop (at_ + j)⟩) := Lib.hid (by
                    rw [Hnx.out]
                    have e : rdStep ⟨y, m, d, s.drop at_⟩ fM = ⟨y, (takeD 2 0 (s.drop at_)).1, d, (takeD 2 0 (s.drop at_)).2⟩ := rfl
                    rw [e, Ht.out])
                  generalize (s.drop at_).take j = X at *
                  go_wp2_with fail
                  refine HN.out.mono ?_; rintro e w' ⟨rfl, rfl⟩; rw [HV.out]
                  clear HN HV Ht
                  go_wp2_with fail
                  go_roundw
                  case rel =>
                    obtain ⟨z1, z2, z3⟩ := Hset.out 1 (.int .i64 (valD X)) (y) (valD X) (d) (by simp)
                    exact ⟨k + 1, at_ + j, y, valD X, d, by omega, by omega, by go_num, by first | rfl | go_num, Hnx2.out, z1, z2, z3⟩
                  case measure => simp [intOf]; omega
          · unfold fD at hgc
            go_wp2_with fail
            go_loop [12] (fun v => ∃ e j : Nat, v = .int .i64 e ∧ e = at_ + j ∧ j ≤ 2 ∧ (j = 0 ∨ at_ + j ≤ s.length) ∧ ((s.drop at_).take j).all isDig = true) (fun v => at_ + 2 - (intOf v).toNat)
            case atStart => exact ⟨at_, 0, rfl, rfl, by omega, .inl rfl, by simp⟩
            case round =>
              obtain ⟨e, j, rfl, rfl, hj, hjl, hd⟩ := hrel
              have Hd := Lib.hid hd
              clear hd
              by_cases q1 : at_ + j < s.length
              · obtain ⟨x, hx⟩ : ∃ x : UInt8, s[at_ + j] = x := ⟨_, rfl⟩
                have hidx : ∀ (h : at_ + j < (⟨s.toArray⟩ : ByteArray).size), (⟨s.toArray⟩ : ByteArray)[at_ + j]'h = x := fun h => hx
                have hx8 : x.toNat < 256 := UInt8.toNat_lt x
                have Hx := Lib.hid hx
                clear hx
                by_cases q2 : j < 2
                · by_cases q3 : (48 : Int) ≤ (x.toNat : Int)
                  · by_cases q4 : (x.toNat : Int) ≤ 57
                    · have Hs := Lib.hid (snoc_dig q1 Hx.out Hd.out (by simp [isDig]; omega))
                      go_wp2_with fail
                      go_round
                      case rel => exact ⟨at_ + (j + 1), j + 1, by go_num, rfl, by omega, .inr (by omega), Hs.out⟩
                      case measure => simp [intOf]; omega
                    · clear hjl
                      have hjl : j = 0 ∨ at_ + j ≤ s.length := .inr (by omega)
                      have Ht := Lib.hid (takeD_at (most := 2) Hd.out (by omega) hjl (.inr (.inr ⟨q1, by rw [Hx.out]; simp [isDig]; omega⟩)))
                      have hxl : ((s.drop at_).take j).length ≤ 4 := by rw [List.length_take]; omega
                      have hx := ext_mid s at_ j
                      have HV : Hid (numV ((s.drop at_).take j) = valD ((s.drop at_).take j)) := Lib.hid (by simp only [numV, Hd.out]; rfl)
                      have HN := Lib.hid (refnumber_any ((s.drop at_).take j) wr hxl)
                      have Hnx2 : Hid (rdAll s ((segs lay).take (k + 1)) = ⟨y, m, (valD ((s.drop at_).take j)), s.drop (at_ + j)⟩) := Lib.hid (by
                        rw [Hnx.out]
                        have e : rdStep ⟨y, m, d, s.drop at_⟩ fD = ⟨y, m, (takeD 2 0 (s.drop at_)).1, (takeD 2 0 (s.drop at_)).2⟩ := rfl
                        rw [e, Ht.out])
                      generalize (s.drop at_).take j = X at *
                      go_wp2_with fail
                      refine HN.out.mono ?_; rintro e w' ⟨rfl, rfl⟩; rw [HV.out]
                      clear HN HV Ht
                      go_wp2_with fail
                      go_roundw
                      case rel =>
                        obtain ⟨z1, z2, z3⟩ := Hset.out 2 (.int .i64 (valD X)) (y) (m) (valD X) (by simp)
                        exact ⟨k + 1, at_ + j, y, m, valD X, by omega, by omega, by go_num, by first | rfl | go_num, Hnx2.out, z1, z2, z3⟩
                      case measure => simp [intOf]; omega
                  · clear hjl
                    have hjl : j = 0 ∨ at_ + j ≤ s.length := .inr (by omega)
                    have Ht := Lib.hid (takeD_at (most := 2) Hd.out (by omega) hjl (.inr (.inr ⟨q1, by rw [Hx.out]; simp [isDig]; omega⟩)))
                    have hxl : ((s.drop at_).take j).length ≤ 4 := by rw [List.length_take]; omega
                    have hx := ext_mid s at_ j
                    have HV : Hid (numV ((s.drop at_).take j) = valD ((s.drop at_).take j)) := Lib.hid (by simp only [numV, Hd.out]; rfl)
                    have HN := Lib.hid (refnumber_any ((s.drop at_).take j) wr hxl)
                    have Hnx2 : Hid (rdAll s ((segs lay).take (k + 1)) = ⟨y, m, (valD ((s.drop at_).take j)), s.drop (at_ + j)⟩) := Lib.hid (by
                      rw [Hnx.out]
                      have e : rdStep ⟨y, m, d, s.drop at_⟩ fD = ⟨y, m, (takeD 2 0 (s.drop at_)).1, (takeD 2 0 (s.drop at_)).2⟩ := rfl
                      rw [e, Ht.out])
                    generalize (s.drop at_).take j = X at *
                    go_wp2_with fail
                    refine HN.out.mono ?_; rintro e w' ⟨rfl, rfl⟩; rw [HV.out]
                    clear HN HV Ht
                    go_wp2_with fail
                    go_roundw
                    case rel =>
                      obtain ⟨z1, z2, z3⟩ := Hset.out 2 (.int .i64 (valD X)) (y) (m) (valD X) (by simp)
                      exact ⟨k + 1, at_ + j, y, m, valD X, by omega, by omega, by go_num, by first | rfl | go_num, Hnx2.out, z1, z2, z3⟩
                    case measure => simp [intOf]; omega
                · clear hjl
                  have hjl : j = 0 ∨ at_ + j ≤ s.length := .inr (by omega)
                  have Ht := Lib.hid (takeD_at (most := 2) Hd.out (by omega) hjl (.inl (by omega)))
                  have hxl : ((s.drop at_).take j).length ≤ 4 := by rw [List.length_take]; omega
                  have hx := ext_mid s at_ j
                  have HV : Hid (numV ((s.drop at_).take j) = valD ((s.drop at_).take j)) := Lib.hid (by simp only [numV, Hd.out]; rfl)
                  have HN := Lib.hid (refnumber_any ((s.drop at_).take j) wr hxl)
                  have Hnx2 : Hid (rdAll s ((segs lay).take (k + 1)) = ⟨y, m, (valD ((s.drop at_).take j)), s.drop (at_ + j)⟩) := Lib.hid (by
                    rw [Hnx.out]
                    have e : rdStep ⟨y, m, d, s.drop at_⟩ fD = ⟨y, m, (takeD 2 0 (s.drop at_)).1, (takeD 2 0 (s.drop at_)).2⟩ := rfl
                    rw [e, Ht.out])
                  generalize (s.drop at_).take j = X at *
                  go_wp2_with fail
                  refine HN.out.mono ?_; rintro e w' ⟨rfl, rfl⟩; rw [HV.out]
                  clear HN HV Ht
                  go_wp2_with fail
                  go_roundw
                  case rel =>
                    obtain ⟨z1, z2, z3⟩ := Hset.out 2 (.int .i64 (valD X)) (y) (m) (valD X) (by simp)
                    exact ⟨k + 1, at_ + j, y, m, valD X, by omega, by omega, by go_num, by first | rfl | go_num, Hnx2.out, z1, z2, z3⟩
                  case measure => simp [intOf]; omega
              · by_cases q5 : s.length < at_
                · obtain rfl : j = 0 := by omega
                  have r1 : readB lay s = false := read_short Hr.out hk' (by rw [Hrd.out]; exact List.drop_eq_nil_of_le (by omega))
                  have r2 := readR_no r1
                  have R1 := Lib.hid r1
                  have R2 := Lib.hid r2
                  clear r1 r2
                  go_wp2_with fail
                  go_ret2
                  exact ⟨by rw [R1.out, R2.out]; rfl, hbl⟩
                · have hjl : j = 0 ∨ at_ + j ≤ s.length := hjl
                  have Ht := Lib.hid (takeD_at (most := 2) Hd.out (by omega) hjl (.inr (.inl (by omega))))
                  have hxl : ((s.drop at_).take j).length ≤ 4 := by rw [List.length_take]; omega
                  have hx := ext_mid s at_ j
                  have HV : Hid (numV ((s.drop at_).take j) = valD ((s.drop at_).take j)) := Lib.hid (by simp only [numV, Hd.out]; rfl)
                  have HN := Lib.hid (refnumber_any ((s.drop at_).take j) wr hxl)
                  have Hnx2 : Hid (rdAll s ((segs lay).take (k + 1)) = ⟨y, m, (valD ((s.drop at_).take j)), s.drop (at_ + j)⟩) := Lib.hid (by
                    rw [Hnx.out]
                    have e : rdStep ⟨y, m, d, s.drop at_⟩ fD = ⟨y, m, (takeD 2 0 (s.drop at_)).1, (takeD 2 0 (s.drop at_)).2⟩ := rfl
                    rw [e, Ht.out])
                  generalize (s.drop at_).take j = X at *
                  go_wp2_with fail
                  refine HN.out.mono ?_; rintro e w' ⟨rfl, rfl⟩; rw [HV.out]
                  clear HN HV Ht
                  go_wp2_with fail
                  go_roundw
                  case rel =>
                    obtain ⟨z1, z2, z3⟩ := Hset.out 2 (.int .i64 (valD X)) (y) (m) (valD X) (by simp)
                    exact ⟨k + 1, at_ + j, y, m, valD X, by omega, by omega, by go_num, by first | rfl | go_num, Hnx2.out, z1, z2, z3⟩
                  case measure => simp [intOf]; omega
          · rcases Bool.eq_false_or_eq_true (x == 77) with hM | hM
            · obtain rfl : x = 77 := by simpa using hM
              go_wp2_with fail
              go_loop [12] (fun v => ∃ e j : Nat, v = .int .i64 e ∧ e = at_ + j ∧ j ≤ 2 ∧ (j = 0 ∨ at_ + j ≤ s.length) ∧ ((s.drop at_).take j).all isDig = true) (fun v => at_ + 2 - (intOf v).toNat)
              case atStart => exact ⟨at_, 0, rfl, rfl, by omega, .inl rfl, by simp⟩
              case round =>
                obtain ⟨e, j, rfl, rfl, hj, hjl, hd⟩ := hrel
                have Hd := Lib.hid hd
                clear hd
                by_cases q1 : at_ + j < s.length
                · obtain ⟨x, hx⟩ : ∃ x : UInt8, s[at_ + j] = x := ⟨_, rfl⟩
                  have hidx : ∀ (h : at_ + j < (⟨s.toArray⟩ : ByteArray).size), (⟨s.toArray⟩ : ByteArray)[at_ + j]'h = x := fun h => hx
                  have hx8 : x.toNat < 256 := UInt8.toNat_lt x
                  have Hx := Lib.hid hx
                  clear hx
                  by_cases q2 : j < 2
                  · by_cases q3 : (48 : Int) ≤ (x.toNat : Int)
                    · by_cases q4 : (x.toNat : Int) ≤ 57
                      · have Hs := Lib.hid (snoc_dig q1 Hx.out Hd.out (by simp [isDig]; omega))
                        go_wp2_with fail
                        go_round
                        case rel => exact ⟨at_ + (j + 1), j + 1, by go_num, rfl, by omega, .inr (by omega), Hs.out⟩
                        case measure => simp [intOf]; omega
                      · clear hjl
                        have hjl : j = 0 ∨ at_ + j ≤ s.length := .inr (by omega)
                        have Ht := Lib.hid (takeD_at (most := 2) Hd.out (by omega) hjl (.inr (.inr ⟨q1, by rw [Hx.out]; simp [isDig]; omega⟩)))
                        have hxl : ((s.drop at_).take j).length ≤ 4 := by rw [List.length_take]; omega
                        have hx := ext_mid s at_ j
                        have HV : Hid (numV ((s.drop at_).take j) = valD ((s.drop at_).take j)) := Lib.hid (by simp only [numV, Hd.out]; rfl)
                        have HN := Lib.hid (refnumber_any ((s.drop at_).take j) wr hxl)
                        have Hnx2 : Hid (rdAll s ((segs lay).take (k + 1)) = ⟨y, (valD ((s.drop at_).take j)), d, s.drop (at_ + j)⟩) := Lib.hid (by
                          rw [Hnx.out]
                          have e : rdStep ⟨y, m, d, s.drop at_⟩ [77] = ⟨y, (takeD 2 0 (s.drop at_)).1, d, (takeD 2 0 (s.drop at_)).2⟩ := rfl
                          rw [e, Ht.out])
                        generalize (s.drop at_).take j = X at *
                        go_wp2_with fail
                        refine HN.out.mono ?_; rintro e w' ⟨rfl, rfl⟩; rw [HV.out]
                        clear HN HV Ht
                        go_wp2_with fail
                        go_roundw
                        case rel =>
                          obtain ⟨z1, z2, z3⟩ := Hset.out 1 (.int .i64 (valD X)) (y) (valD X) (d) (by simp)
                          exact ⟨k + 1, at_ + j, y, valD X, d, by omega, by omega, by go_num, by first | rfl | go_num, Hnx2.out, z1, z2, z3⟩
                        case measure => simp [intOf]; omega
                    · clear hjl
                      have hjl : j = 0 ∨ at_ + j ≤ s.length := .inr (by omega)
                      have Ht := Lib.hid (takeD_at (most := 2) Hd.out (by omega) hjl (.inr (.inr ⟨q1, by rw [Hx.out]; simp [isDig]; omega⟩)))
                      have hxl : ((s.drop at_).take j).length ≤ 4 := by rw [List.length_take]; omega
                      have hx := ext_mid s at_ j
                      have HV : Hid (numV ((s.drop at_).take j) = valD ((s.drop at_).take j)) := Lib.hid (by simp only [numV, Hd.out]; rfl)
                      have HN := Lib.hid (refnumber_any ((s.drop at_).take j) wr hxl)
                      have Hnx2 : Hid (rdAll s ((segs lay).take (k + 1)) = ⟨y, (valD ((s.drop at_).take j)), d, s.drop (at_ + j)⟩) := Lib.hid (by
                        rw [Hnx.out]
                        have e : rdStep ⟨y, m, d, s.drop at_⟩ [77] = ⟨y, (takeD 2 0 (s.drop at_)).1, d, (takeD 2 0 (s.drop at_)).2⟩ := rfl
                        rw [e, Ht.out])
                      generalize (s.drop at_).take j = X at *
                      go_wp2_with fail
                      refine HN.out.mono ?_; rintro e w' ⟨rfl, rfl⟩; rw [HV.out]
                      clear HN HV Ht
                      go_wp2_with fail
                      go_roundw
                      case rel =>
                        obtain ⟨z1, z2, z3⟩ := Hset.out 1 (.int .i64 (valD X)) (y) (valD X) (d) (by simp)
                        exact ⟨k + 1, at_ + j, y, valD X, d, by omega, by omega, by go_num, by first | rfl | go_num, Hnx2.out, z1, z2, z3⟩
                      case measure => simp [intOf]; omega
                  · clear hjl
                    have hjl : j = 0 ∨ at_ + j ≤ s.length := .inr (by omega)
                    have Ht := Lib.hid (takeD_at (most := 2) Hd.out (by omega) hjl (.inl (by omega)))
                    have hxl : ((s.drop at_).take j).length ≤ 4 := by rw [List.length_take]; omega
                    have hx := ext_mid s at_ j
                    have HV : Hid (numV ((s.drop at_).take j) = valD ((s.drop at_).take j)) := Lib.hid (by simp only [numV, Hd.out]; rfl)
                    have HN := Lib.hid (refnumber_any ((s.drop at_).take j) wr hxl)
                    have Hnx2 : Hid (rdAll s ((segs lay).take (k + 1)) = ⟨y, (valD ((s.drop at_).take j)), d, s.drop (at_ + j)⟩) := Lib.hid (by
                      rw [Hnx.out]
                      have e : rdStep ⟨y, m, d, s.drop at_⟩ [77] = ⟨y, (takeD 2 0 (s.drop at_)).1, d, (takeD 2 0 (s.drop at_)).2⟩ := rfl
                      rw [e, Ht.out])
                    generalize (s.drop at_).take j = X at *
                    go_wp2_with fail
                    refine HN.out.mono ?_; rintro e w' ⟨rfl, rfl⟩; rw [HV.out]
                    clear HN HV Ht
                    go_wp2_with fail
                    go_roundw
                    case rel =>
                      obtain ⟨z1, z2, z3⟩ := Hset.out 1 (.int .i64 (valD X)) (y) (valD X) (d) (by simp)
                      exact ⟨k + 1, at_ + j, y, valD X, d, by omega, by omega, by go_num, by first | rfl | go_num, Hnx2.out, z1, z2, z3⟩
                    case measure => simp [intOf]; omega
                · by_cases q5 : s.length < at_
                  · obtain rfl : j = 0 := by omega
                    have r1 : readB lay s = false := read_short Hr.out hk' (by rw [Hrd.out]; exact List.drop_eq_nil_of_le (by omega))
                    have r2 := readR_no r1
                    have R1 := Lib.hid r1
                    have R2 := Lib.hid r2
                    clear r1 r2
                    go_wp2_with fail
                    go_ret2
                    exact ⟨by rw [R1.out, R2.out]; rfl, hbl⟩
                  · have hjl : j = 0 ∨ at_ + j ≤ s.length := hjl
                    have Ht := Lib.hid (takeD_at (most := 2) Hd.out (by omega) hjl (.inr (.inl (by omega))))
                    have hxl : ((s.drop at_).take j).length ≤ 4 := by rw [List.length_take]; omega
                    have hx := ext_mid s at_ j
                    have HV : Hid (numV ((s.drop at_).take j) = valD ((s.drop at_).take j)) := Lib.hid (by simp only [numV, Hd.out]; rfl)
                    have HN := Lib.hid (refnumber_any ((s.drop at_).take j) wr hxl)
                    have Hnx2 : Hid (rdAll s ((segs lay).take (k + 1)) = ⟨y, (valD ((s.drop at_).take j)), d, s.drop (at_ + j)⟩) := Lib.hid (by
                      rw [Hnx.out]
                      have e : rdStep ⟨y, m, d, s.drop at_⟩ [77] = ⟨y, (takeD 2 0 (s.drop at_)).1, d, (takeD 2 0 (s.drop at_)).2⟩ := rfl
                      rw [e, Ht.out])
                    generalize (s.drop at_).take j = X at *
                    go_wp2_with fail
                    refine HN.out.mono ?_; rintro e w' ⟨rfl, rfl⟩; rw [HV.out]
                    clear HN HV Ht
                    go_wp2_with fail
                    go_roundw
                    case rel =>
                      obtain ⟨z1, z2, z3⟩ := Hset.out 1 (.int .i64 (valD X)) (y) (valD X) (d) (by simp)
                      exact ⟨k + 1, at_ + j, y, valD X, d, by omega, by omega, by go_num, by first | rfl | go_num, Hnx2.out, z1, z2, z3⟩
                    case measure => simp [intOf]; omega
            · rcases Bool.eq_false_or_eq_true (x == 68) with hD | hD
              · obtain rfl : x = 68 := by simpa using hD
                go_wp2_with fail
                go_loop [12] (fun v => ∃ e j : Nat, v = .int .i64 e ∧ e = at_ + j ∧ j ≤ 2 ∧ (j = 0 ∨ at_ + j ≤ s.length) ∧ ((s.drop at_).take j).all isDig = true) (fun v => at_ + 2 - (intOf v).toNat)
                case atStart => exact ⟨at_, 0, rfl, rfl, by omega, .inl rfl, by simp⟩
                case round =>
                  obtain ⟨e, j, rfl, rfl, hj, hjl, hd⟩ := hrel
                  have Hd := Lib.hid hd
                  clear hd
                  by_cases q1 : at_ + j < s.length
                  · obtain ⟨x, hx⟩ : ∃ x : UInt8, s[at_ + j] = x := ⟨_, rfl⟩
                    have hidx : ∀ (h : at_ + j < (⟨s.toArray⟩ : ByteArray).size), (⟨s.toArray⟩ : ByteArray)[at_ + j]'h = x := fun h => hx
                    have hx8 : x.toNat < 256 := UInt8.toNat_lt x
                    have Hx := Lib.hid hx
                    clear hx
                    by_cases q2 : j < 2
                    · by_cases q3 : (48 : Int) ≤ (x.toNat : Int)
                      · by_cases q4 : (x.toNat : Int) ≤ 57
                        · have Hs := Lib.hid (snoc_dig q1 Hx.out Hd.out (by simp [isDig]; omega))
                          go_wp2_with fail
                          go_round
                          case rel => exact ⟨at_ + (j + 1), j + 1, by go_num, rfl, by omega, .inr (by omega), Hs.out⟩
                          case measure => simp [intOf]; omega
                        · clear hjl
                          have hjl : j = 0 ∨ at_ + j ≤ s.length := .inr (by omega)
                          have Ht := Lib.hid (takeD_at (most := 2) Hd.out (by omega) hjl (.inr (.inr ⟨q1, by rw [Hx.out]; simp [isDig]; omega⟩)))
                          have hxl : ((s.drop at_).take j).length ≤ 4 := by rw [List.length_take]; omega
                          have hx := ext_mid s at_ j
                          have HV : Hid (numV ((s.drop at_).take j) = valD ((s.drop at_).take j)) := Lib.hid (by simp only [numV, Hd.out]; rfl)
                          have HN := Lib.hid (refnumber_any ((s.drop at_).take j) wr hxl)
                          have Hnx2 : Hid (rdAll s ((segs lay).take (k + 1)) = ⟨y, m, (valD ((s.drop at_).take j)), s.drop (at_ + j)⟩) := Lib.hid (by
                            rw [Hnx.out]
                            have e : rdStep ⟨y, m, d, s.drop at_⟩ [68] = ⟨y, m, (takeD 2 0 (s.drop at_)).1, (takeD 2 0 (s.drop at_)).2⟩ := rfl
                            rw [e, Ht.out])
                          generalize (s.drop at_).take j = X at *
                          go_wp2_with fail
                          refine HN.out.mono ?_; rintro e w' ⟨rfl, rfl⟩; rw [HV.out]
                          clear HN HV Ht
                          go_wp2_with fail
                          go_roundw
                          case rel =>
                            obtain ⟨z1, z2, z3⟩ := Hset.out 2 (.int .i64 (valD X)) (y) (m) (valD X) (by simp)
                            exact ⟨k + 1, at_ + j, y, m, valD X, by omega, by omega, by go_num, by first | rfl | go_num, Hnx2.out, z1, z2, z3⟩
                          case measure => simp [intOf]; omega
                      · clear hjl
                        have hjl : j = 0 ∨ at_ + j ≤ s.length := .inr (by omega)
                        have Ht := Lib.hid (takeD_at (most := 2) Hd.out (by omega) hjl (.inr (.inr ⟨q1, by rw [Hx.out]; simp [isDig]; omega⟩)))
                        have hxl : ((s.drop at_).take j).length ≤ 4 := by rw [List.length_take]; omega
                        have hx := ext_mid s at_ j
                        have HV : Hid (numV ((s.drop at_).take j) = valD ((s.drop at_).take j)) := Lib.hid (by simp only [numV, Hd.out]; rfl)
                        have HN := Lib.hid (refnumber_any ((s.drop at_).take j) wr hxl)
                        have Hnx2 : Hid (rdAll s ((segs lay).take (k + 1)) = ⟨y, m, (valD ((s.drop at_).take j)), s.drop (at_ + j)⟩) := Lib.hid (by
                          rw [Hnx.out]
                          have e : rdStep ⟨y, m, d, s.drop at_⟩ [68] = ⟨y, m, (takeD 2 0 (s.drop at_)).1, (takeD 2 0 (s.drop at_)).2⟩ := rfl
                          rw [e, Ht.out])
                        generalize (s.drop at_).take j = X at *
                        go_wp2_with fail
                        refine HN.out.mono ?_; rintro e w' ⟨rfl, rfl⟩; rw [HV.out]
                        clear HN HV Ht
                        go_wp2_with fail
                        go_roundw
                        case rel =>
                          obtain ⟨z1, z2, z3⟩ := Hset.out 2 (.int .i64 (valD X)) (y) (m) (valD X) (by simp)
                          exact ⟨k + 1, at_ + j, y, m, valD X, by omega, by omega, by go_num, by first | rfl | go_num, Hnx2.out, z1, z2, z3⟩
                        case measure => simp [intOf]; omega
                    · clear hjl
                      have hjl : j = 0 ∨ at_ + j ≤ s.length := .inr (by omega)
                      have Ht := Lib.hid (takeD_at (most := 2) Hd.out (by omega) hjl (.inl (by omega)))
                      have hxl : ((s.drop at_).take j).length ≤ 4 := by rw [List.length_take]; omega
                      have hx := ext_mid s at_ j
                      have HV : Hid (numV ((s.drop at_).take j) = valD ((s.drop at_).take j)) := Lib.hid (by simp only [numV, Hd.out]; rfl)
                      have HN := Lib.hid (refnumber_any ((s.drop at_).take j) wr hxl)
                      have Hnx2 : Hid (rdAll s ((segs lay).take (k + 1)) = ⟨y, m, (valD ((s.drop at_).take j)), s.drop (at_ + j)⟩) := Lib.hid (by
                        rw [Hnx.out]
                        have e : rdStep ⟨y, m, d, s.drop at_⟩ [68] = ⟨y, m, (takeD 2 0 (s.drop at_)).1, (takeD 2 0 (s.drop at_)).2⟩ := rfl
                        rw [e, Ht.out])
                      generalize (s.drop at_).take j = X at *
                      go_wp2_with fail
                      refine HN.out.mono ?_; rintro e w' ⟨rfl, rfl⟩; rw [HV.out]
                      clear HN HV Ht
                      go_wp2_with fail
                      go_roundw
                      case rel =>
                        obtain ⟨z1, z2, z3⟩ := Hset.out 2 (.int .i64 (valD X)) (y) (m) (valD X) (by simp)
                        exact ⟨k + 1, at_ + j, y, m, valD X, by omega, by omega, by go_num, by first | rfl | go_num, Hnx2.out, z1, z2, z3⟩
                      case measure => simp [intOf]; omega
                  · by_cases q5 : s.length < at_
                    · obtain rfl : j = 0 := by omega
                      have r1 : readB lay s = false := read_short Hr.out hk' (by rw [Hrd.out]; exact List.drop_eq_nil_of_le (by omega))
                      have r2 := readR_no r1
                      have R1 := Lib.hid r1
                      have R2 := Lib.hid r2
                      clear r1 r2
                      go_wp2_with fail
                      go_ret2
                      exact ⟨by rw [R1.out, R2.out]; rfl, hbl⟩
                    · have hjl : j = 0 ∨ at_ + j ≤ s.length := hjl
                      have Ht := Lib.hid (takeD_at (most := 2) Hd.out (by omega) hjl (.inr (.inl (by omega))))
                      have hxl : ((s.drop at_).take j).length ≤ 4 := by rw [List.length_take]; omega
                      have hx := ext_mid s at_ j
                      have HV : Hid (numV ((s.drop at_).take j) = valD ((s.drop at_).take j)) := Lib.hid (by simp only [numV, Hd.out]; rfl)
                      have HN := Lib.hid (refnumber_any ((s.drop at_).take j) wr hxl)
                      have Hnx2 : Hid (rdAll s ((segs lay).take (k + 1)) = ⟨y, m, (valD ((s.drop at_).take j)), s.drop (at_ + j)⟩) := Lib.hid (by
                        rw [Hnx.out]
                        have e : rdStep ⟨y, m, d, s.drop at_⟩ [68] = ⟨y, m, (takeD 2 0 (s.drop at_)).1, (takeD 2 0 (s.drop at_)).2⟩ := rfl
                        rw [e, Ht.out])
                      generalize (s.drop at_).take j = X at *
                      go_wp2_with fail
                      refine HN.out.mono ?_; rintro e w' ⟨rfl, rfl⟩; rw [HV.out]
                      clear HN HV Ht
                      go_wp2_with fail
                      go_roundw
                      case rel =>
                        obtain ⟨z1, z2, z3⟩ := Hset.out 2 (.int .i64 (valD X)) (y) (m) (valD X) (by simp)
                        exact ⟨k + 1, at_ + j, y, m, valD X, by omega, by omega, by go_num, by first | rfl | go_num, Hnx2.out, z1, z2, z3⟩
                      case measure => simp [intOf]; omega
              · have hY : (x == 89) = false := by
                  rw [Bool.eq_false_iff]; intro e
                  have e2 : x = 89 := by simpa using e
                  subst e2; exact HnY.out Hfm.out
                have Hnx2 : Hid (rdAll s ((segs lay).take (k + 1)) = ⟨y, m, d, s.drop (at_ + 1)⟩) := Lib.hid (by
                  rw [Hnx.out]
                  simp at hM hD hY
                  unfold rdStep
                  simp [hY, hM, hD])
                go_wp2_with fail
                go_roundw
                case rel => exact ⟨k + 1, at_ + 1, y, m, d, by omega, by omega, by go_num, by go_num, Hnx2.out, Hkeep.out.1, Hkeep.out.2, hbl⟩
                case measure => simp [intOf]; omega
        · obtain rfl : k = n := by omega
          have hall : rdAll s (segs lay) = ⟨y, m, d, s.drop at_⟩ := by rw [← Hrd.out, List.take_of_length_le (by omega)]
          have hB : readB lay s = (Cal.validB y m d && (wrs y m d (segs lay) == s)) := by unfold readB; rw [hall, Hr.out]; rfl
          have hN : readR lay s = if (Cal.validB y m d && (wrs y m d (segs lay) == s)) = true then Cal.num y m d else 0 := by unfold readR; rw [hB, hall]
          clear hh hown
          have HNm := Lib.hid (refNumber_any y m d wr)
          rcases Bool.eq_false_or_eq_true (Cal.validB y m d) with hv | hv
          · have hvp := (Cal.validB_iff _ _ _).1 hv
            obtain ⟨u1, u2, u3⟩ := Cal.civ_unique y m d hvp
            obtain ⟨n0, n1⟩ := Cal.num_bd y m d hvp
            have hfm : fmtR lay (Cal.num y m d) = wrs y m d (segs lay) := by
              unfold fmtR
              rw [if_pos (by simp [fmtB, Hr.out, insideB_yes n0 n1]), u1, u2, u3]
            have hnr : numR y m d = Cal.num y m d := by rw [numR, if_pos hv]
            have HF := Lib.hid (refFormat_any lay (Cal.num y m d) wr hm)
            rw [hv, Bool.true_and] at hB hN
            have Hfm2 := Lib.hid hfm
            have Hnr := Lib.hid hnr
            have Hv := Lib.hid hv
            clear hfm hnr hv u1 u2 u3 hvp hall
            generalize wrs y m d (segs lay) = Z at *
            generalize Cal.num y m d = N at *
            rcases Bool.eq_false_or_eq_true (Z == s) with hz | hz
            · rw [hz] at hB hN
              rw [if_pos rfl] at hN
              have hz2 : Z = s := by simpa using hz
              have HB := Lib.hid hB
              have HN := Lib.hid hN
              clear hB hN hz
              subst hz2
              go_wp2_with fail
              refine HNm.out.mono ?_; rintro e w' ⟨rfl, rfl⟩; rw [Hnr.out, Hv.out]
              go_wp2_with fail
              refine HF.out.mono ?_; rintro e w4 ⟨rfl, hb4⟩; rw [Hfm2.out]
              go_wp2_with fail
              go_ret2
              exact ⟨by rw [HB.out, HN.out]; rfl, hbl.trans (hb4.mono hbl.size)⟩
            · rw [hz] at hB hN
              rw [if_neg (by simp)] at hN
              have hz2 : ¬ Z = s := by simpa using hz
              have HB := Lib.hid hB
              have HN := Lib.hid hN
              clear hB hN
              go_wp2_with fail
              refine HNm.out.mono ?_; rintro e w' ⟨rfl, rfl⟩; rw [Hnr.out, Hv.out]
              go_wp2_with fail
              refine HF.out.mono ?_; rintro e w4 ⟨rfl, hb4⟩; rw [Hfm2.out]
              go_wp2_with fail
              go_ret2
              exact ⟨by rw [HB.out, HN.out]; rfl, hbl.trans (hb4.mono hbl.size)⟩
          · rw [hv, Bool.false_and] at hB hN
            rw [if_neg (by simp)] at hN
            have HB := Lib.hid hB
            have HN := Lib.hid hN
            have Hv := Lib.hid hv
            clear hB hN hv hall
            go_wp2_with fail
            refine HNm.out.mono ?_; rintro e w' ⟨rfl, rfl⟩; rw [Hv.out]
            go_wp2_with fail
            go_ret2
            exact ⟨by rw [HB.out, HN.out]; rfl, hbl⟩
  · have r1 : readB lay s = false := by simp [readB, hr]
    rw [readR_no r1, r1]
    have Hr := Lib.hid hr
    clear r1 hr
    go_enter Try.func26, Try.ntmps26
    go_wp2_with fail
    refine HR.out.mono ?_; rintro e w1 ⟨rfl, hb1⟩; rw [Hr.out]
    clear HR
    go_wp2_with fail
    go_ret2
    exact ⟨rfl, hb1⟩
end Go.Proofs.Ytbfiflinonnmcaa
