/- Which layouts are right: the walk over the program's check. -/
import Derived.Test.YtbfiflinonnmcaaDateS6
namespace Go.Proofs.Ytbfiflinonnmcaa
open Go.RowKit Go.Shelf
attribute [local go_sem] Oper.semAt_some

theorem segs_ne (k : Nat) : ∀ l : List UInt8, l.length ≤ k → ∀ f ∈ segs l, f ≠ [] := by
  induction k with
  | zero =>
    intro l hl
    have : l = [] := by cases l with | nil => rfl | cons a b => simp at hl
    subst this; intro f hf; cases hf
  | succ k ih =>
    intro l hl f hf
    by_cases h : l = []
    · subst h; cases hf
    · have hb := segLen_bd l h
      rw [segs_cons l h] at hf
      rcases List.mem_cons.1 hf with e | e
      · subst e; intro e2
        have := congrArg List.length e2
        rw [List.length_take] at this; simp only [List.length_nil] at this; omega
      · exact ih _ (by rw [List.length_drop]; have := List.length_pos_iff.2 h; omega) f e

/-- counts of the fields for year, month and day, and whether a field of one letter has just come -/
structure Sc where
  a : Int
  b : Int
  c : Int
  o : Bool
def ymd (x : UInt8) : Int := Lib.indexByte [89, 77, 68] x
def oneLetter (f : List UInt8) : Bool := f == [77] || f == [68]
def scBad (s : Sc) (f : List UInt8) : Bool := f == [89] || decide ((f.headD 0).toNat < 32) || decide (126 < (f.headD 0).toNat) || (s.o && decide (0 ≤ ymd (f.headD 0)))
def scNext (s : Sc) (f : List UInt8) : Sc :=
  ⟨if ymd (f.headD 0) = 0 then s.a + 1 else s.a, if ymd (f.headD 0) = 1 then s.b + 1 else s.b, if ymd (f.headD 0) = 2 then s.c + 1 else s.c, oneLetter f⟩
def scStep (s : Option Sc) (f : List UInt8) : Option Sc := s.bind fun s => if scBad s f then none else some (scNext s f)
def scan (l : List (List UInt8)) : Option Sc := l.foldl scStep (some ⟨0, 0, 0, false⟩)
theorem scan_snoc (l : List (List UInt8)) (f : List UInt8) : scan (l ++ [f]) = scStep (scan l) f := by simp [scan]
theorem scan_none (l m : List (List UInt8)) (h : scan l = none) : scan (l ++ m) = none := by
  unfold scan at *
  rw [List.foldl_append, h]
  induction m with
  | nil => rfl
  | cons a b ih => exact ih
def rightB (l : List UInt8) : Bool := decide (l.length ≤ 40) && !hasDig l && (match scan (segs l) with | some s => s.a == 1 && (s.b == 1 && s.c == 1) | none => false)

theorem ymd_cases (x : UInt8) : ymd x = -1 ∨ ymd x = 0 ∨ ymd x = 1 ∨ ymd x = 2 := by
  unfold ymd
  by_cases h1 : x = 89
  · subst h1; right; left; rfl
  · by_cases h2 : x = 77
    · subst h2; right; right; left; rfl
    · by_cases h3 : x = 68
      · subst h3; right; right; right; rfl
      · left; exact indexByte_none x _ (by intro y hy e; subst e; simp at hy; rcases hy with h | h | h <;> contradiction)
theorem ymd_of {x : UInt8} {k : Int} (h : ymd x = k) : Lib.indexByte (⟨#[89, 77, 68]⟩ : ByteArray).data.toList ((x.toNat : Int)).toNat.toUInt8 = k := by
  rw [show ((x.toNat : Int)).toNat.toUInt8 = x by simp]; exact h
theorem pre_len {lay : List UInt8} {pre post : List (List UInt8)} {f : List UInt8} (h40 : lay.length ≤ 40) (h : segs lay = pre ++ f :: post) : pre.length ≤ 40 := by
  have := (segs_flat lay.length lay (Nat.le_refl _)).2
  rw [h] at this; simp only [List.length_append, List.length_cons] at this; omega
theorem scBad_1 {s : Sc} {f : List UInt8} (h : (f == [89]) = true) : scBad s f = true := by simp [scBad, h]

theorem eq3 (a b c a' b' c' : Int) (w : World) : (Op.equalIn 10000 22 (.agg #[.int .i64 a, .int .i64 b, .int .i64 c]) (.agg #[.int .i64 a', .int .i64 b', .int .i64 c'])).run Try.prog w = .ok (a == a' && (b == b' && c == c')) w := by
  have u3 := Try.underlying3
  have a3 := Try.isAgg3
  have z3 := Try.sizeOf3
  rw [show (10000 : Nat) = 9999 + 1 from rfl, Op.equalIn]
  simp only [Sem.run_bind, run_underlying Try.underlying22, Result.andThen_ok]
  simp only [Std.Legacy.Range.forIn_eq_forIn_range', Std.Legacy.Range.size, Nat.sub_zero, Nat.add_sub_cancel, Nat.div_one, List.range'_succ, List.range'_zero, List.forIn_cons, List.forIn_nil]
  go_simp
  by_cases h1 : a = a' <;> by_cases h2 : b = b' <;> by_cases h3 : c = c' <;> simp [h1, h2, h3]
theorem build3 (a b c : Int) (w : World) : (Instr.build 22 #[(0, .int .i64 a), (1, .int .i64 b), (2, .int .i64 c)]).run Try.prog w = .ok (.agg #[.int .i64 a, .int .i64 b, .int .i64 c]) w := run_build w 22 _ _ (by kernel_rfl)
attribute [local go_sem] eq3 build3

theorem fieldsAb_other {c k : Nat} {A B : World} {o : Obj} (hab : fieldsAb c A B) (hk : A.heap[k]? = some o) (ho : o.isCells = false) : B.heap[k]? = some o := by
  rw [hab.1.block k (Array.getElem?_eq_some_iff.1 hk).1 (fun e => ?_)]
  · exact hk
  · obtain ⟨v, hv⟩ := hab.2.1
    cases e; rw [hk] at hv; cases hv; cases ho

/-- between two rounds -/
def rgI (w : World) (b3 : Nat) (pre : List (List UInt8)) (W : World) : Prop :=
  ∃ s : Sc, scan pre = some s ∧ (0 ≤ s.a ∧ s.a ≤ pre.length ∧ 0 ≤ s.b ∧ s.b ≤ pre.length ∧ 0 ≤ s.c ∧ s.c ≤ pre.length) ∧ HoldsA w.heap.size #[.bool false] 4 W ∧ HoldsA b3 #[.int .i64 s.a, .int .i64 s.b, .int .i64 s.c] 22 W ∧
    HoldsA (b3 + 1) #[.bool s.o] 4 W ∧ (∃ v, HoldsA (b3 + 2) #[v] 9 W) ∧ Below w.heap.size w W
/-- a round has returned -/
def rgX (w : World) (c : Code) (pre : List (List UInt8)) (W : World) : Prop :=
  c = .ret ∧ scan pre = none ∧ HoldsA w.heap.size #[.bool false] 4 W ∧ Below w.heap.size w W

def rgOk (w : World) (b3 : Nat) (pre : List (List UInt8)) (f : List UInt8) (W W' : World) : Prop := KeepsOthers W W' ∧ fieldsKp (b3 + 2) W W' ∧ rgI w b3 (pre ++ [f]) W'
theorem rg_step {w W : World} {b3 : Nat} {pre : List (List UInt8)} {s : Sc} {v : Value} {x : UInt8} {t : List UInt8} {k : Int} {o' : Bool} {W1 : World} {a' b' c' : Int} (hlt : w.heap.size < b3) (hsc : scan pre = some s)
    (hbd : 0 ≤ s.a ∧ s.a ≤ pre.length ∧ 0 ≤ s.b ∧ s.b ≤ pre.length ∧ 0 ≤ s.c ∧ s.c ≤ pre.length)
    (h2 : HoldsA w.heap.size #[.bool false] 4 W1) (h3 : HoldsA b3 #[.int .i64 a', .int .i64 b', .int .i64 c'] 22 W1)
    (h4 : HoldsA (b3 + 1) #[.bool s.o] 4 W1) (hv : HoldsA (b3 + 2) #[v] 9 W1) (hv0 : HoldsA (b3 + 2) #[v] 9 W) (hbl : Below w.heap.size w W1) (hko : KeepsOthers W W1)
    (hk : ymd x = k) (hbad : scBad s (x :: t) = false) (ho : oneLetter (x :: t) = o')
    (ha : a' = if k = 0 then s.a + 1 else s.a) (hb : b' = if k = 1 then s.b + 1 else s.b) (hc : c' = if k = 2 then s.c + 1 else s.c) :
    rgOk w b3 pre (x :: t) W (W1.setCell ⟨b3 + 1, 0, none⟩ (.bool o')) := by
  refine ⟨hko.trans (keeps_of_set _ _), ?_, scNext s (x :: t), ?_, ?_, h2.setOther _ (by simp; omega) _, ?_, ?_, ⟨v, hv.setOther _ (by simp) _⟩, hbl.setCell (p := ⟨b3 + 1, 0, none⟩) (by simp; omega) _⟩
  · have := hv.setOther ⟨b3 + 1, 0, none⟩ (by simp) (.bool o')
    unfold fieldsKp; unfold HoldsA at this hv0; rw [this, hv0]
  · rw [scan_snoc, hsc]; simp [scStep, hbad]
  · simp only [scNext, List.headD_cons, hk, List.length_append, List.length_cons, List.length_nil]
    refine ⟨?_, ?_, ?_, ?_, ?_, ?_⟩ <;> (first | (split <;> omega))
  · have e : (scNext s (x :: t)).a = a' ∧ (scNext s (x :: t)).b = b' ∧ (scNext s (x :: t)).c = c' := by simp [scNext, hk, ha, hb, hc]
    rw [e.1, e.2.1, e.2.2]
    exact h3.setOther _ (by simp) _
  · have e : (scNext s (x :: t)).o = o' := ho
    rw [e]
    have := h4.set 0 (.bool o')
    simpa using this
theorem rg_end {w W : World} {b3 : Nat} {pre : List (List UInt8)} {s : Sc} {v : Value} {x : UInt8} {t : List UInt8} (hlt : w.heap.size < b3) (hsc : scan pre = some s)
    (hbd : 0 ≤ s.a ∧ s.a ≤ pre.length ∧ 0 ≤ s.b ∧ s.b ≤ pre.length ∧ 0 ≤ s.c ∧ s.c ≤ pre.length)
    (h2 : HoldsA w.heap.size #[.bool false] 4 W) (h3 : HoldsA b3 #[.int .i64 s.a, .int .i64 s.b, .int .i64 s.c] 22 W)
    (h4 : HoldsA (b3 + 1) #[.bool s.o] 4 W) (hv : HoldsA (b3 + 2) #[v] 9 W) (hbl : Below w.heap.size w W) (o' : Bool) {k : Int} (hk : ymd x = k) (hbad : scBad s (x :: t) = false) (ho : oneLetter (x :: t) = o') :
    (k = -1 → rgOk w b3 pre (x :: t) W (W.setCell ⟨b3 + 1, 0, none⟩ (.bool o'))) ∧
    (k = 0 → rgOk w b3 pre (x :: t) W ((W.setCell ⟨b3, 0, none⟩ (.int .i64 (s.a + 1))).setCell ⟨b3 + 1, 0, none⟩ (.bool o'))) ∧
    (k = 1 → rgOk w b3 pre (x :: t) W ((W.setCell ⟨b3, 1, none⟩ (.int .i64 (s.b + 1))).setCell ⟨b3 + 1, 0, none⟩ (.bool o'))) ∧
    (k = 2 → rgOk w b3 pre (x :: t) W ((W.setCell ⟨b3, 2, none⟩ (.int .i64 (s.c + 1))).setCell ⟨b3 + 1, 0, none⟩ (.bool o'))) := by
  have key : ∀ (j : Nat) (u : Value) (a' b' c' : Int), (#[.int .i64 s.a, .int .i64 s.b, .int .i64 s.c] : Array Value).setIfInBounds j u = #[.int .i64 a', .int .i64 b', .int .i64 c'] →
      (a' = if k = 0 then s.a + 1 else s.a) → (b' = if k = 1 then s.b + 1 else s.b) → (c' = if k = 2 then s.c + 1 else s.c) →
      rgOk w b3 pre (x :: t) W ((W.setCell ⟨b3, j, none⟩ u).setCell ⟨b3 + 1, 0, none⟩ (.bool o')) := fun j u a' b' c' he ha hb hc => by
    have h3' := h3.set j u
    rw [he] at h3'
    exact rg_step hlt hsc hbd (h2.setOther _ (by simp; omega) _) h3' (h4.setOther _ (by simp) _) (hv.setOther _ (by simp) _) hv (hbl.setCell (p := ⟨b3, j, none⟩) (by simp; omega) _) (keeps_of_set _ _) hk hbad ho ha hb hc
  refine ⟨fun e => ?_, fun e => ?_, fun e => ?_, fun e => ?_⟩
  · subst e; exact rg_step hlt hsc hbd h2 h3 h4 hv hv hbl (KeepsOthers.refl _) hk hbad ho (by simp) (by simp) (by simp)
  · subst e; exact key 0 _ (s.a + 1) s.b s.c (by simp) (by simp) (by simp) (by simp)
  · subst e; exact key 1 _ s.a (s.b + 1) s.c (by simp) (by simp) (by simp) (by simp)
  · subst e; exact key 2 _ s.a s.b (s.c + 1) (by simp) (by simp) (by simp) (by simp)
theorem rg_bad {w W : World} {pre : List (List UInt8)} {s : Sc} {f : List UInt8} (h2 : HoldsA w.heap.size #[.bool false] 4 W) (hbl : Below w.heap.size w W) (hsc : scan pre = some s) (hbad : scBad s f = true) :
    KeepsOthers W (W.setCell ⟨w.heap.size, 0, none⟩ (.bool false)) ∧ rgX w .ret (pre ++ [f]) (W.setCell ⟨w.heap.size, 0, none⟩ (.bool false)) := by
  refine ⟨keeps_of_set _ _, rfl, ?_, ?_, hbl.setCell (p := ⟨w.heap.size, 0, none⟩) (Nat.le_refl _) _⟩
  · rw [scan_snoc, hsc]; simp [scStep, hbad]
  · have := h2.set 0 (.bool false); simpa using this
theorem one_1 {f : List UInt8} (h : (f == [77]) = true) : oneLetter f = true := by simp [oneLetter, h]
theorem one_2 {x : UInt8} {t : List UInt8} (h : ((x :: t) == [77]) = false) : oneLetter (x :: t) = (x == 68 && t.isEmpty) := by
  unfold oneLetter; rw [h]; simp

set_option maxHeartbeats 4000000 in
theorem right_any (lay : List UInt8) (w : World) (hm : lay.length ≤ 9223372036854775807) :
    Calls Try.prog 42 #[Str lay] w fun e w' => e = .returned (.bool (rightB lay)) ∧ Below w.heap.size w w' := by
  have hsz : (⟨lay.toArray⟩ : ByteArray).size = lay.length := by simp [ByteArray.size]
  by_cases h40 : lay.length ≤ 40
  · rcases Bool.eq_false_or_eq_true (hasDig lay) with hd | hd
    · have hr : rightB lay = false := by simp [rightB, hd]
      rw [hr]; clear hr
      have Hd := Lib.hid hd
      clear hd
      go_enter Try.func42, Try.ntmps42
      go_wp2_with fail
      refine (containsAny_any _ _ h40).mono ?_; rintro e w1 ⟨rfl, hb⟩; rw [Hd.out]
      have h2 := (Holds1.new w.heap.size w (.bool false) 4 rfl).below hb (by simp)
      have hc2 := h2.cell
      have hf2 := h2.free
      have hb0 := ((Below.refl w.heap.size w).alloc (Nat.le_refl _) (.cells #[.bool false] 4)).trans (hb.mono (by simp))
      clear hb
      go_wp2_with fail
      have h3 := heap_set1 (.bool false) h2
      refine bodyPost_ret (v := .bool false) (by simp [results, Try.results42, go_sem, World.cell?, h3]) rfl ⟨rfl, hb0.setCell (p := ⟨w.heap.size, 0, none⟩) (Nat.le_refl _) _⟩
    · have hr : rightB lay = (match scan (segs lay) with | some s => s.a == 1 && (s.b == 1 && s.c == 1) | none => false) := by simp [rightB, hd, h40]
      have Hr := Lib.hid hr
      clear hr
      have Hd := Lib.hid hd
      clear hd
      refine (callsIn_wide (n := 3)).1 ?_
      refine callsIn_of_wp_marks Try.func42 rfl trivial ?_ rfl
      simp only [Try.ntmps42, List.size_toArray, List.length_cons, List.length_nil, Nat.reduceAdd, Nat.reduceSub, Array.replicate_succ, Array.replicate_zero, List.push_toArray, List.append_toArray, List.nil_append, List.cons_append]
      gi_wp2_with fail
      refine ⟨trivial, CallsIn.mono (callsIn_wide.2 (containsAny_any _ _ h40)) ?_⟩
      rintro e w1 ⟨rfl, hb⟩; rw [Hd.out]
      have h2 := (Holds1.new w.heap.size w (.bool false) 4 rfl).below hb (by simp)
      have hb0 := ((Below.refl w.heap.size w).alloc (Nat.le_refl _) (.cells #[.bool false] 4)).trans (hb.mono (by simp))
      clear hb
      gi_wp2_with (refine ⟨trivial, ?_⟩; gi_at_call 48; refine CallsIn.mono (callsIn_wide.2 (fields_any _ _)) ?_; rintro e w' ⟨rfl, rfl⟩)
      obtain ⟨b3, hb3⟩ : ∃ b, w1.heap.size = b := ⟨_, rfl⟩
      have hlt2 : w.heap.size < b3 := by rw [← hb3]; exact h2.lt
      have hI0 : rgI w b3 [] (((w1.alloc (.cells #[.int .i64 0, .int .i64 0, .int .i64 0] 22)).alloc (.cells #[.bool false] 4)).alloc (.cells #[Str lay] 9)) :=
        ⟨⟨0, 0, 0, false⟩, rfl, by simp, ((HoldsA.alloc (b := w.heap.size) h2 _).alloc _).alloc _, ((HoldsA.new b3 w1 _ _ hb3.symm).alloc _).alloc _, (HoldsA.new (b3 + 1) _ _ _ (by simp [hb3])).alloc _, ⟨_, HoldsA.new (b3 + 2) _ _ _ (by simp [hb3])⟩,
          ((hb0.alloc hb0.size _).alloc (by have := hb0.size; simp; omega) _).alloc (by have := hb0.size; simp; omega) _⟩
      have hyl := fields1_any 2 (b3 + 2) lay (((w1.alloc (.cells #[.int .i64 0, .int .i64 0, .int .i64 0] 22)).alloc (.cells #[.bool false] 4)).alloc (.cells #[Str lay] 9)) (by simp [hb3]) (HoldsA.new (b3 + 2) _ _ _ (by simp [hb3])) h40
      rw [hb3, show b3 + 1 + 1 = b3 + 2 from rfl]
      have hWs : (((w1.alloc (.cells #[.int .i64 0, .int .i64 0, .int .i64 0] 22)).alloc (.cells #[.bool false] 4)).alloc (.cells #[Str lay] 9)).heap.size = b3 + 3 := by simp [hb3]
      generalize (((w1.alloc (.cells #[.int .i64 0, .int .i64 0, .int .i64 0] 22)).alloc (.cells #[.bool false] 4)).alloc (.cells #[Str lay] 9)) = W0 at *
      clear h2 hb0 hb3
      have HWs := Lib.hid hWs
      clear hWs
      refine wpIn_range rfl (by decide) (gf := 60) (lb := #[.pointer (some ⟨b3 + 2, 0, none⟩)]) rfl trivial (enters_of Try.func60 (by kernel_rfl) rfl) hyl
        (fun A B k o hab hk ho => fieldsAb_other hab hk ho) (fun A B C h1 h2 => h2.trans h1) (fun W l o o' hle hl ho => ?kb) (Below.refl _ _) (fun _ => rfl)
        (rgI w b3) (rgX w) (fun s A B hi hab => ?ia) (fun c s A B hi hab => ?xa) (fun s A B row hi hg hr => ?io) (fun c s A B row hi hg hr => ?xo) hI0
        (fun x => { tmps := #[Str lay, undef, .pointer (some ⟨w.heap.size, 0, none⟩), .pointer (some ⟨b3, 0, none⟩), .pointer (some ⟨b3 + 1, 0, none⟩), Str x, undef, Str lay, .int .i64 lay.length, .bool (decide (40 < (lay.length : Int))), .bool (decide (40 < (lay.length : Int))), Str lay, .bool false, .bool (decide (40 < (lay.length : Int))), Str lay, .func (.func 60) #[] #[.pointer (some ⟨b3 + 2, 0, none⟩)], Str x,
          undef, undef, undef, undef, undef, undef, undef, undef, undef, undef, undef, undef, undef, undef, undef, undef, undef, undef, undef, undef, undef, undef, undef, undef, undef, undef, undef, undef, undef, undef, undef, undef, undef, undef, undef, undef, undef, undef, undef, undef], defers := [] })
        ?assign ?body ?done ?stop
      case kb => exact World.putObj_heap_other (by have := HWs.out; omega)
      case ia =>
        obtain ⟨s', h1, h2, h3, h4, h5, h6, h7⟩ := hi
        obtain ⟨hab, hv, v', hv'⟩ := hab
        exact ⟨s', h1, h2, h3.grown hab (fun e => by injection e; omega), h4.grown hab (fun e => by injection e; omega), h5.grown hab (fun e => by injection e; omega), ⟨v', hv'⟩, h7.grown hab h7.size (fun k e => by injection e; omega)⟩
      case xa =>
        obtain ⟨h0, h1, h3, h7⟩ := hi
        obtain ⟨hab, hv, v', hv'⟩ := hab
        exact ⟨h0, h1, h3.grown hab (fun e => by injection e; omega), h7.grown hab h7.size (fun k e => by injection e; omega)⟩
      case io =>
        obtain ⟨s', h1, h2, h3, h4, h5, ⟨v', h6⟩, h7⟩ := hi
        have hk : ∀ (T : TypeId) r, row = some r → ∃ o, A.heap[r]? = some o ∧ (∀ c fz, o ≠ .cells c T fz) := fun T r e => by
          obtain ⟨_, o, ho, hc⟩ := hr r e
          exact ⟨o, ho, fun c fz => notCells hc c _ fz⟩
        exact ⟨s', h1, h2, h3.kinds hg (hk _), h4.kinds hg (hk _), h5.kinds hg (hk _), ⟨v', h6.kinds hg (hk _)⟩, h7.grown hg h7.size (fun k e => by have := (hr k e).1; have := HWs.out; omega)⟩
      case xo =>
        obtain ⟨h0, h1, h3, h7⟩ := hi
        have hk : ∀ (T : TypeId) r, row = some r → ∃ o, A.heap[r]? = some o ∧ (∀ c fz, o ≠ .cells c T fz) := fun T r e => by
          obtain ⟨_, o, ho, hc⟩ := hr r e
          exact ⟨o, ho, fun c fz => notCells hc c _ fz⟩
        exact ⟨h0, h1, h3.kinds hg (hk _), h7.grown hg h7.size (fun k e => by have := (hr k e).1; have := HWs.out; omega)⟩
      case assign =>
        intro l x W K hK
        gi_wp2
        exact hK
      case body =>
        rintro l pre f post W hxs ⟨s, hsc, hbd, hr2, hr3, hr4, ⟨v, hv⟩, hbl⟩
        have hfne := segs_ne lay.length lay (Nat.le_refl _) f (by rw [hxs]; simp)
        obtain ⟨x, t, rfl⟩ : ∃ x t, f = x :: t := by cases f with | nil => exact absurd rfl hfne | cons a b => exact ⟨a, b, rfl⟩
        have hc2 := hr2.cell 0
        have hf2 := hr2.free 0
        have hc30 := hr3.cell 0
        have hc31 := hr3.cell 1
        have hc32 := hr3.cell 2
        have hf30 := hr3.free 0
        have hf31 := hr3.free 1
        have hf32 := hr3.free 2
        have hc4 := hr4.cell 0
        have hf4 := hr4.free 0
        simp at hc2 hc30 hc31 hc32 hc4
        have hx0 : ∀ (h : 0 < (⟨(x :: t).toArray⟩ : ByteArray).size), (⟨(x :: t).toArray⟩ : ByteArray)[0]'h = x := fun _ => rfl
        obtain ⟨k, hk⟩ : ∃ k, ymd x = k := ⟨_, rfl⟩
        have hk4 : k = -1 ∨ k = 0 ∨ k = 1 ∨ k = 2 := by rw [← hk]; exact ymd_cases x
        have Hk := Lib.hid hk
        have hx8 : x.toNat < 256 := UInt8.toNat_lt x
        have Hbd := Lib.hid hbd
        have Hxs := Lib.hid hxs
        have Hsc := Lib.hid hsc
        have hpl := pre_len h40 hxs
        have HX : Hid (∀ c, ((x.toNat : Int)).toNat.toUInt8 = c ↔ x = c) := fun c => by simp
        clear hk hfne hbd hxs hsc
        have HE := Lib.hid (rg_end hlt2 Hsc.out Hbd.out hr2 hr3 hr4 hv hbl (x := x) (t := t))
        have HBD := fun h => Lib.hid (rg_bad (pre := pre) (f := x :: t) hr2 hbl Hsc.out h)
        have call : ∀ {R : Ending → World → Prop}, R (.returned (.int .i64 k)) W → CallsIn (Fence.wide.inRound l) 0 Try.prog 55 #[.string ⟨#[89, 77, 68]⟩, .int .u8 x.toNat] W R := by
          intro R hR
          refine CallsIn.mono (CallsIn.inRound l (callsIn_wide.2 (Try.strings_IndexByte _ _ _))) ?_
          rintro e w' ⟨rfl, hw⟩
          rw [hw, ymd_of Hk.out]; exact hR
        have Hcall : Hid (∀ {R : Ending → World → Prop}, R (.returned (.int .i64 k)) W → CallsIn (Fence.wide.inRound l) 0 Try.prog 55 #[.string ⟨#[89, 77, 68]⟩, .int .u8 x.toNat] W R) := @call
        clear call hr2 hr3 hr4 hv
        rcases Bool.eq_false_or_eq_true ((x :: t) == [89]) with c1 | c1
        · have hb := HBD (scBad_1 c1)
          clear HBD HE
          gi_wp2_with fail
          refine ⟨trivial, Hcall.out ?_⟩
          gi_wp2_with fail
          exact hb.out
        · by_cases c2 : (x.toNat : Int) < 32
          · have hb := HBD (by simp [scBad]; omega)
            clear HBD HE
            gi_wp2_with fail
            refine ⟨trivial, Hcall.out ?_⟩
            gi_wp2_with fail
            exact hb.out
          · by_cases c3 : 126 < (x.toNat : Int)
            · have hb := HBD (by simp [scBad]; omega)
              clear HBD HE
              gi_wp2_with fail
              refine ⟨trivial, Hcall.out ?_⟩
              gi_wp2_with fail
              exact hb.out
            · rcases Bool.eq_false_or_eq_true s.o with ho | ho
              · rw [ho] at hc4
                rcases hk4 with rfl | hk4
                · have hbad : scBad s (x :: t) = false := by have := Hk.out; simp [scBad, c1, ho, this]; omega
                  have Hbad := Lib.hid hbad
                  clear hbad ho HBD
                  rcases Bool.eq_false_or_eq_true ((x :: t) == [77]) with c4 | c4
                  · have HE2 := Lib.hid (HE.out _ Hk.out Hbad.out (one_1 c4))
                    clear HE
                    gi_wp2_with fail
                    refine ⟨trivial, Hcall.out ?_⟩
                    gi_wp2_with fail
                    exact HE2.out.1 (by trivial)
                  · have HE2 := Lib.hid (HE.out _ Hk.out Hbad.out (one_2 c4))
                    clear HE
                    gi_wp2_with fail
                    refine ⟨trivial, Hcall.out ?_⟩
                    gi_wp2_with fail
                    exact HE2.out.1 (by trivial)
                · have hk0 : 0 ≤ k := by omega
                  have hb := HBD (by have := Hk.out; simp [scBad, ho, this]; omega)
                  clear HBD HE ho
                  gi_wp2_with fail
                  refine ⟨trivial, Hcall.out ?_⟩
                  gi_wp2_with fail
                  exact hb.out
              · rw [ho] at hc4
                have hbad : scBad s (x :: t) = false := by simp [scBad, c1, ho]; omega
                have Hbad := Lib.hid hbad
                clear hbad ho HBD
                obtain ⟨e1, e2, e3, e4, e5, e6⟩ := Hbd.out
                have HE2 := fun o h => Lib.hid (HE.out o Hk.out Hbad.out h)
                clear HE
                rcases Bool.eq_false_or_eq_true ((x :: t) == [77]) with c4 | c4
                · have HE3 := HE2 _ (one_1 c4)
                  clear HE2
                  rcases hk4 with rfl | rfl | rfl | rfl
                  · gi_wp2_with fail
                    refine ⟨trivial, Hcall.out ?_⟩
                    gi_wp2_with fail
                    exact HE3.out.1 (by trivial)
                  · gi_wp2_with fail
                    refine ⟨trivial, Hcall.out ?_⟩
                    gi_wp2_with fail
                    exact HE3.out.2.1 (by trivial)
                  · gi_wp2_with fail
                    refine ⟨trivial, Hcall.out ?_⟩
                    gi_wp2_with fail
                    exact HE3.out.2.2.1 (by trivial)
                  · gi_wp2_with fail
                    refine ⟨trivial, Hcall.out ?_⟩
                    gi_wp2_with fail
                    exact HE3.out.2.2.2 (by trivial)
                · have HE3 := HE2 _ (one_2 c4)
                  clear HE2
                  rcases hk4 with rfl | rfl | rfl | rfl
                  · gi_wp2_with fail
                    refine ⟨trivial, Hcall.out ?_⟩
                    gi_wp2_with fail
                    exact HE3.out.1 (by trivial)
                  · gi_wp2_with fail
                    refine ⟨trivial, Hcall.out ?_⟩
                    gi_wp2_with fail
                    exact HE3.out.2.1 (by trivial)
                  · gi_wp2_with fail
                    refine ⟨trivial, Hcall.out ?_⟩
                    gi_wp2_with fail
                    exact HE3.out.2.2.1 (by trivial)
                  · gi_wp2_with fail
                    refine ⟨trivial, Hcall.out ?_⟩
                    gi_wp2_with fail
                    exact HE3.out.2.2.2 (by trivial)
      case done =>
        rintro D W hD ⟨s, hsc, hbd, hr2, hr3, hr4, hv, hbl⟩ hK
        have hr := Hr.out
        rw [hsc] at hr
        simp only at hr
        have Hr2 := Lib.hid hr
        have hc30 := hr3.cell 0
        have hc31 := hr3.cell 1
        have hc32 := hr3.cell 2
        have hf2 := hr2.free 0
        have hc2 := hr2.cell 0
        simp at hc30 hc31 hc32 hc2
        have HK := Lib.hid hK
        have hsz := HWs.out
        clear hr hsc hK hyl hI0
        have H2 := Lib.hid hr2
        clear hr2 hr3 hr4
        gi_wp2_with fail
        refine ⟨by simp, .inl ⟨_, _, rfl, run_takeDeferred ((KeepsOthers.setCell _ _ _).same _ _ HK.out rfl), ?_⟩⟩
        have h2' := H2.out.set 0 (.bool (s.a == 1 && (s.b == 1 && s.c == 1)))
        have hb2 := hbl.setCell (p := ⟨w.heap.size, 0, none⟩) (Nat.le_refl _) (.bool (s.a == 1 && (s.b == 1 && s.c == 1)))
        generalize W.setCell ⟨w.heap.size, 0, none⟩ (.bool (s.a == 1 && (s.b == 1 && s.c == 1))) = W2 at h2' hb2 ⊢
        have h3 := h2'.grown (grownBy_putObj' W2 D (.deferred none)) (fun e => by injection e; omega)
        have hc3 := h3.cell 0
        refine ⟨.bool (s.a == 1 && (s.b == 1 && s.c == 1)), by simp at hc3; simp [results, Try.results42, go_sem, hc3], by rw [Hr2.out], hb2.grown (grownBy_putObj' W2 D _) (by have := hb2.size; omega) (fun k e => by injection e; omega)⟩
      case stop =>
        rintro D c pre W hD hpre ⟨rfl, hsc, hr2, hbl⟩ hK
        have hr : rightB lay = false := by
          obtain ⟨m, hm⟩ := hpre
          have := scan_none pre m hsc
          rw [hm] at this
          rw [Hr.out, this]
        have Hr2 := Lib.hid hr
        have hc2 := hr2.cell 0
        have HK := Lib.hid hK
        have hsz := HWs.out
        clear hr hsc hK hyl hI0
        gi_wp2_with fail
        refine ⟨by simp, .inl ⟨_, _, rfl, run_takeDeferred HK.out, ?_⟩⟩
        have h3 : HoldsA w.heap.size #[.bool false] 4 (W.putObj D (.deferred none)) := hr2.grown (grownBy_putObj' W D _) (fun e => by injection e; omega)
        have hc3 := h3.cell 0
        refine ⟨.bool false, by simp at hc3; simp [results, Try.results42, go_sem, hc3], by rw [Hr2.out], hbl.grown (grownBy_putObj' W D _) (by have := hbl.size; omega) (fun k e => by injection e; omega)⟩
  · have hr : rightB lay = false := by simp [rightB, h40]
    rw [hr]; clear hr
    go_enter Try.func42, Try.ntmps42
    go_wp2_with fail
    refine bodyPost_ret (v := .bool false) (by simp [results, Try.results42, go_sem]) rfl ⟨rfl, (Below.refl w.heap.size w).alloc (Nat.le_refl _) _⟩
end Go.Proofs.Ytbfiflinonnmcaa
