/- The walk over Read of the program. -/
import Derived.Test.YtbfiflinonnmcaaDateS8
namespace Go.Proofs.Ytbfiflinonnmcaa
open Go.RowKit Go.Shelf
attribute [local go_sem] Oper.semAt_some

/-- the parts of a date that have been read, and what is left of the text -/
structure Pr where
  y : Int
  m : Int
  d : Int
  r : List UInt8
def rdStep (p : Pr) (f : List UInt8) : Pr :=
  if f.headD 0 = 89 then { p with y := (takeD (mostOf f) 0 p.r).1, r := (takeD (mostOf f) 0 p.r).2 }
  else if f.headD 0 = 77 then { p with m := (takeD (mostOf f) 0 p.r).1, r := (takeD (mostOf f) 0 p.r).2 }
  else if f.headD 0 = 68 then { p with d := (takeD (mostOf f) 0 p.r).1, r := (takeD (mostOf f) 0 p.r).2 }
  else { p with r := p.r.drop 1 }
def rdAll (s : List UInt8) (l : List (List UInt8)) : Pr := l.foldl rdStep ⟨0, 0, 0, s⟩
theorem rdAll_snoc (s : List UInt8) (l : List (List UInt8)) (f : List UInt8) : rdAll s (l ++ [f]) = rdStep (rdAll s l) f := by simp [rdAll]
theorem takeD_len : ∀ (k : Nat) (n : Int) (s : List UInt8), (takeD k n s).2.length ≤ s.length
  | 0, _, _ => Nat.le_refl _
  | k + 1, n, [] => Nat.le_refl _
  | k + 1, n, b :: t => by
    by_cases h : isDig b = true
    · have := takeD_len k (10 * n + (b.toNat - 48)) t
      simp only [takeD, h, if_true, List.length_cons]; omega
    · simp [takeD, h]
theorem rdStep_len (p : Pr) (f : List UInt8) : (rdStep p f).r.length ≤ p.r.length := by
  have := takeD_len (mostOf f) 0 p.r
  unfold rdStep
  (repeat' split) <;> simp <;> omega
theorem rdAll_len (s : List UInt8) (l : List (List UInt8)) : (rdAll s l).r.length ≤ s.length := by
  have key : ∀ (l : List (List UInt8)) (p : Pr), (l.foldl rdStep p).r.length ≤ p.r.length := by
    intro l
    induction l with
    | nil => intro p; exact Nat.le_refl _
    | cons a b ih => intro p; exact Nat.le_trans (ih _) (rdStep_len p a)
  exact key l _
theorem segs_le4 (k : Nat) : ∀ l : List UInt8, l.length ≤ k → ∀ f ∈ segs l, f.length ≤ 4 := by
  induction k with
  | zero =>
    intro l hl
    have : l = [] := by cases l with | nil => rfl | cons a b => simp at hl
    subst this; intro f hf; cases hf
  | succ k ih =>
    intro l hl f hf
    by_cases h : l = []
    · subst h; cases hf
    · have hb := segLen_bd l h
      rw [segs_cons l h] at hf
      rcases List.mem_cons.1 hf with e | e
      · subst e
        have : segLen l ≤ 4 := by unfold segLen; (repeat' split) <;> omega
        rw [List.length_take]; omega
      · exact ih _ (by rw [List.length_drop]; have := List.length_pos_iff.2 h; omega) f e

def readB (l s : List UInt8) : Bool := rightB l && (Cal.validB (rdAll s (segs l)).y (rdAll s (segs l)).m (rdAll s (segs l)).d && (wrs (rdAll s (segs l)).y (rdAll s (segs l)).m (rdAll s (segs l)).d (segs l) == s))
def readR (l s : List UInt8) : Int := if readB l s = true then Cal.num (rdAll s (segs l)).y (rdAll s (segs l)).m (rdAll s (segs l)).d else 0

theorem byte_ne {x c : UInt8} (h : ¬ x = c) : ((x.toNat : Int) == (c.toNat : Int)) = false := by
  rw [beq_eq_false_iff_ne]; intro e; exact h (UInt8.toNat_inj.1 (by omega))

/-- between two rounds -/
def rdI (w : World) (b : Nat) (s : List UInt8) (pre : List (List UInt8)) (W : World) : Prop :=
  HoldsA b #[.int .i64 (rdAll s pre).y, .int .i64 (rdAll s pre).m, .int .i64 (rdAll s pre).d] 63 W ∧ HoldsA (b + 1) #[Str (rdAll s pre).r] 9 W ∧ (∃ v, HoldsA (b + 2) #[v] 9 W) ∧ Below w.heap.size w W
def rdOk (w : World) (b : Nat) (s : List UInt8) (pre : List (List UInt8)) (f : List UInt8) (W W' : World) : Prop := KeepsOthers W W' ∧ fieldsKp (b + 2) W W' ∧ rdI w b s (pre ++ [f]) W'

theorem rd_end {w W W1 : World} {b : Nat} {s : List UInt8} {pre : List (List UInt8)} {f : List UInt8} {v : Value} {y m d : Int} {r : List UInt8} (hlt : w.heap.size ≤ b) (hp : rdAll s pre = ⟨y, m, d, r⟩)
    (h1 : HoldsA b #[.int .i64 y, .int .i64 m, .int .i64 d] 63 W1) (h2 : HoldsA (b + 1) #[Str r] 9 W1) (h3 : HoldsA (b + 2) #[v] 9 W1) (h30 : HoldsA (b + 2) #[v] 9 W) (hb : Below w.heap.size w W1) (hko : KeepsOthers W W1) :
    (f.headD 0 = 89 → rdOk w b s pre f W ((W1.setCell ⟨b, 0, none⟩ (.int .i64 (takeD (mostOf f) 0 r).1)).setCell ⟨b + 1, 0, none⟩ (Str (takeD (mostOf f) 0 r).2))) ∧
    (f.headD 0 = 77 → rdOk w b s pre f W ((W1.setCell ⟨b, 1, none⟩ (.int .i64 (takeD (mostOf f) 0 r).1)).setCell ⟨b + 1, 0, none⟩ (Str (takeD (mostOf f) 0 r).2))) ∧
    (f.headD 0 = 68 → rdOk w b s pre f W ((W1.setCell ⟨b, 2, none⟩ (.int .i64 (takeD (mostOf f) 0 r).1)).setCell ⟨b + 1, 0, none⟩ (Str (takeD (mostOf f) 0 r).2))) ∧
    (f.headD 0 ≠ 89 → f.headD 0 ≠ 77 → f.headD 0 ≠ 68 → rdOk w b s pre f W (W1.setCell ⟨b + 1, 0, none⟩ (Str (r.drop 1)))) := by
  have key : ∀ (W2 : World) (y' m' d' : Int) (r' : List UInt8), HoldsA b #[.int .i64 y', .int .i64 m', .int .i64 d'] 63 W2 → HoldsA (b + 1) #[Str r] 9 W2 → HoldsA (b + 2) #[v] 9 W2 → Below w.heap.size w W2 → KeepsOthers W W2 →
      rdStep ⟨y, m, d, r⟩ f = ⟨y', m', d', r'⟩ → rdOk w b s pre f W (W2.setCell ⟨b + 1, 0, none⟩ (Str r')) := fun W2 y' m' d' r' g1 g2 g3 gb gk he => by
    refine ⟨gk.trans (keeps_of_set _ _), ?_, ?_, ?_, ⟨v, g3.setOther _ (by simp) _⟩, gb.setCell (p := ⟨b + 1, 0, none⟩) (by simp; omega) _⟩
    · have := g3.setOther ⟨b + 1, 0, none⟩ (by simp) (Str r')
      unfold fieldsKp; unfold HoldsA at this h30; rw [this, h30]
    · rw [rdAll_snoc, hp, he]; exact g1.setOther _ (by simp) _
    · rw [rdAll_snoc, hp, he]
      have := g2.set 0 (Str r'); simpa using this
  have step : ∀ (j : Nat) (u : Value) (y' m' d' : Int) (r' : List UInt8), (#[.int .i64 y, .int .i64 m, .int .i64 d] : Array Value).setIfInBounds j u = #[.int .i64 y', .int .i64 m', .int .i64 d'] → rdStep ⟨y, m, d, r⟩ f = ⟨y', m', d', r'⟩ →
      rdOk w b s pre f W ((W1.setCell ⟨b, j, none⟩ u).setCell ⟨b + 1, 0, none⟩ (Str r')) := fun j u y' m' d' r' ha he => by
    have g := h1.set j u
    rw [ha] at g
    exact key _ y' m' d' r' g (h2.setOther _ (by simp) _) (h3.setOther _ (by simp) _) (hb.setCell (p := ⟨b, j, none⟩) hlt _) (hko.trans (keeps_of_set _ _)) he
  refine ⟨fun h => ?_, fun h => ?_, fun h => ?_, fun e1 e2 e3 => ?_⟩
  · exact step 0 _ (takeD (mostOf f) 0 r).1 m d (takeD (mostOf f) 0 r).2 (by simp) (by unfold rdStep; rw [if_pos h])
  · exact step 1 _ y (takeD (mostOf f) 0 r).1 d (takeD (mostOf f) 0 r).2 (by simp) (by unfold rdStep; rw [if_neg (by rw [h]; decide), if_pos h])
  · exact step 2 _ y m (takeD (mostOf f) 0 r).1 (takeD (mostOf f) 0 r).2 (by simp) (by unfold rdStep; rw [if_neg (by rw [h]; decide), if_neg (by rw [h]; decide), if_pos h])
  · exact key _ y m d (r.drop 1) h1 h2 h3 hb hko (by unfold rdStep; rw [if_neg e1, if_neg e2, if_neg e3])

set_option maxHeartbeats 4000000 in
theorem Read_any (lay s : List UInt8) (w : World) (hm : lay.length ≤ 9223372036854775807) (hms : s.length ≤ 9223372036854775807) :
    Calls Try.prog 25 #[Str lay, Str s] w fun e w' => e = .returned (.tuple #[.int .i64 (readR lay s), .bool (readB lay s)]) ∧ Below w.heap.size w w' := by
  have hmf : ∀ (fn : Fn) (first cap : Array Value) (w : World), (Instr.makeFunc fn first cap).run Try.prog w = .ok (.func fn first cap) w := fun _ _ _ _ => rfl
  rcases Bool.eq_false_or_eq_true (rightB lay) with hr | hr
  · have h40 := right_len hr
    have Hr := Lib.hid hr
    clear hr
    refine (callsIn_wide (n := 3)).1 ?_
    refine callsIn_of_wp_marks Try.func25 rfl trivial ?_ rfl
    simp only [Try.ntmps25, List.size_toArray, List.length_cons, List.length_nil, Nat.reduceAdd, Nat.reduceSub, Array.replicate_succ, Array.replicate_zero, List.push_toArray, List.append_toArray, List.nil_append, List.cons_append]
    gi_wp2_with fail
    refine ⟨trivial, CallsIn.mono (callsIn_wide.2 (right_any _ _ hm)) ?_⟩
    rintro e w1 ⟨rfl, hb0⟩; rw [Hr.out]
    gi_wp2_with (refine ⟨trivial, ?_⟩; gi_at_call 48; refine CallsIn.mono (callsIn_wide.2 (fields_any _ _)) ?_; rintro e w' ⟨rfl, rfl⟩)
    obtain ⟨b, hb⟩ : ∃ b, w1.heap.size = b := ⟨_, rfl⟩
    have hlt : w.heap.size ≤ b := by rw [← hb]; exact hb0.size
    have hI0 : rdI w b s [] (((w1.alloc (.cells #[.int .i64 0, .int .i64 0, .int .i64 0] 63)).alloc (.cells #[Str s] 9)).alloc (.cells #[Str lay] 9)) :=
      ⟨((HoldsA.new b w1 _ _ hb.symm).alloc _).alloc _, (HoldsA.new (b + 1) _ _ _ (by simp [hb])).alloc _, ⟨_, HoldsA.new (b + 2) _ _ _ (by simp [hb])⟩,
        ((hb0.alloc hb0.size _).alloc (by have := hb0.size; simp; omega) _).alloc (by have := hb0.size; simp; omega) _⟩
    have hyl := fields1_any 2 (b + 2) lay (((w1.alloc (.cells #[.int .i64 0, .int .i64 0, .int .i64 0] 63)).alloc (.cells #[Str s] 9)).alloc (.cells #[Str lay] 9)) (by simp [hb]) (HoldsA.new (b + 2) _ _ _ (by simp [hb])) h40
    rw [hb, show b + 1 + 1 = b + 2 from rfl]
    have hWs : (((w1.alloc (.cells #[.int .i64 0, .int .i64 0, .int .i64 0] 63)).alloc (.cells #[Str s] 9)).alloc (.cells #[Str lay] 9)).heap.size = b + 3 := by simp [hb]
    generalize (((w1.alloc (.cells #[.int .i64 0, .int .i64 0, .int .i64 0] 63)).alloc (.cells #[Str s] 9)).alloc (.cells #[Str lay] 9)) = W0 at *
    clear hb0 hb
    have HWs := Lib.hid hWs
    clear hWs
    refine wpIn_range rfl (by decide) (gf := 60) (lb := #[.pointer (some ⟨b + 2, 0, none⟩)]) rfl trivial (enters_of Try.func60 (by kernel_rfl) rfl) hyl
      (fun A B k o hab hk ho => fieldsAb_other hab hk ho) (fun A B C h1 h2 => h2.trans h1) (fun W l o o' hle hl ho => ?kb) (Below.refl _ _) (fun _ => rfl)
      (rdI w b s) (fun _ _ _ => False) (fun s A B hi hab => ?ia) (fun _ _ _ _ h _ => h.elim) (fun s A B row hi hg hr => ?io) (fun _ _ _ _ _ h _ _ => h.elim) hI0
      (fun x => { tmps := #[Str lay, Str s, undef, undef, .int .i64 0, .bool false, .pointer (some ⟨b, 0, none⟩), .pointer (some ⟨b + 1, 0, none⟩), Str x, Str lay, .bool true, .bool false, Str s, Str lay, .func (.func 60) #[] #[.pointer (some ⟨b + 2, 0, none⟩)], Str x,
        undef, undef, undef, undef, undef, undef, undef, undef, undef, undef, undef, undef, undef, undef, undef, undef, undef, undef, undef, undef, undef, undef, undef, undef, undef, undef, undef, undef, undef, undef, undef, undef, undef, undef, undef, undef, undef, undef, undef, undef, undef, undef, undef, undef, undef, undef, undef, undef, undef, undef, undef, undef, undef, undef, undef, undef, undef], defers := [] })
      ?assign ?body ?done ?stop
    case kb => exact World.putObj_heap_other (by have := HWs.out; omega)
    case ia =>
      obtain ⟨h1, h2, h3, h4⟩ := hi
      obtain ⟨hab, hv, v', hv'⟩ := hab
      exact ⟨h1.grown hab (fun e => by injection e; omega), h2.grown hab (fun e => by injection e; omega), ⟨v', hv'⟩, h4.grown hab h4.size (fun k e => by injection e; omega)⟩
    case io =>
      obtain ⟨h1, h2, ⟨v', h3⟩, h4⟩ := hi
      have hk : ∀ (T : TypeId) r, row = some r → ∃ o, A.heap[r]? = some o ∧ (∀ c fz, o ≠ .cells c T fz) := fun T r e => by
        obtain ⟨_, o, ho, hc⟩ := hr r e
        exact ⟨o, ho, fun c fz => notCells hc c _ fz⟩
      exact ⟨h1.kinds hg (hk _), h2.kinds hg (hk _), ⟨v', h3.kinds hg (hk _)⟩, h4.grown hg h4.size (fun k e => by have := (hr k e).1; have := HWs.out; omega)⟩
    case assign =>
      intro l x W K hK
      gi_wp2
      exact hK
    case body =>
      rintro l pre f post W hxs ⟨h1, h2, ⟨v, h3⟩, h4⟩
      have hfne := segs_ne lay.length lay (Nat.le_refl _) f (by rw [hxs]; simp)
      have hf4 := segs_le4 lay.length lay (Nat.le_refl _) f (by rw [hxs]; simp)
      obtain ⟨x, t, rfl⟩ : ∃ x t, f = x :: t := by cases f with | nil => exact absurd rfl hfne | cons a b => exact ⟨a, b, rfl⟩
      obtain ⟨⟨y, m, d, r⟩, hp⟩ : ∃ p, rdAll s pre = p := ⟨_, rfl⟩
      have hrl : r.length ≤ 9223372036854775807 := by
        have := rdAll_len s pre
        rw [hp] at this; simp only at this; omega
      rw [hp] at h1 h2
      simp only at h1 h2
      have hc6 := h1.cell 0
      have hc61 := h1.cell 1
      have hc62 := h1.cell 2
      have hf60 := h1.free 0
      have hf61 := h1.free 1
      have hf62 := h1.free 2
      have hc7 := h2.cell 0
      have hf7 := h2.free 0
      simp at hc6 hc61 hc62 hc7
      have hx0 : ∀ (h : 0 < (⟨(x :: t).toArray⟩ : ByteArray).size), (⟨(x :: t).toArray⟩ : ByteArray)[0]'h = x := fun _ => rfl
      have Hp := Lib.hid hp
      clear hp hxs hfne
      by_cases e1 : x = 89
      · subst e1
        have Hc := Lib.hid (take_any (89 :: t) r W hf4 hrl)
        gi_wp2_with fail
        refine ⟨trivial, CallsIn.mono (CallsIn.inRound l (callsIn_wide.2 Hc.out)) ?_⟩
        rintro e W1 ⟨rfl, hb1⟩
        have g1 := h1.below hb1 h1.lt
        have g2 := h2.below hb1 h2.lt
        have g3 := h3.below hb1 h3.lt
        have HE := Lib.hid (rd_end hlt Hp.out g1 g2 g3 h3 (h4.trans (hb1.mono h4.size)) (keeps_of_below hb1) (f := 89 :: t))
        have hc6 := g1.cell 0
        have hc61 := g1.cell 1
        have hc62 := g1.cell 2
        have hf60 := g1.free 0
        have hf61 := g1.free 1
        have hf62 := g1.free 2
        have hc7 := g2.cell 0
        have hf7 := g2.free 0
        simp at hc6 hc61 hc62 hc7
        obtain ⟨⟨q1, q2⟩, hq⟩ : ∃ q, takeD (mostOf (89 :: t)) 0 r = q := ⟨_, rfl⟩
        rw [hq] at HE ⊢
        clear hq h1 h2 h3 h4 g1 g2 g3 hb1 Hc
        gi_wp2_with fail
        exact HE.out.1 (by trivial)
      · by_cases e2 : x = 77
        · subst e2
          have Hc := Lib.hid (take_any (77 :: t) r W hf4 hrl)
          gi_wp2_with fail
          refine ⟨trivial, CallsIn.mono (CallsIn.inRound l (callsIn_wide.2 Hc.out)) ?_⟩
          rintro e W1 ⟨rfl, hb1⟩
          have g1 := h1.below hb1 h1.lt
          have g2 := h2.below hb1 h2.lt
          have g3 := h3.below hb1 h3.lt
          have HE := Lib.hid (rd_end hlt Hp.out g1 g2 g3 h3 (h4.trans (hb1.mono h4.size)) (keeps_of_below hb1) (f := 77 :: t))
          have hc6 := g1.cell 0
          have hc61 := g1.cell 1
          have hc62 := g1.cell 2
          have hf60 := g1.free 0
          have hf61 := g1.free 1
          have hf62 := g1.free 2
          have hc7 := g2.cell 0
          have hf7 := g2.free 0
          simp at hc6 hc61 hc62 hc7
          obtain ⟨⟨q1, q2⟩, hq⟩ : ∃ q, takeD (mostOf (77 :: t)) 0 r = q := ⟨_, rfl⟩
          rw [hq] at HE ⊢
          clear hq h1 h2 h3 h4 g1 g2 g3 hb1 Hc
          gi_wp2_with fail
          exact HE.out.2.1 (by trivial)
        · by_cases e3 : x = 68
          · subst e3
            have Hc := Lib.hid (take_any (68 :: t) r W hf4 hrl)
            gi_wp2_with fail
            refine ⟨trivial, CallsIn.mono (CallsIn.inRound l (callsIn_wide.2 Hc.out)) ?_⟩
            rintro e W1 ⟨rfl, hb1⟩
            have g1 := h1.below hb1 h1.lt
            have g2 := h2.below hb1 h2.lt
            have g3 := h3.below hb1 h3.lt
            have HE := Lib.hid (rd_end hlt Hp.out g1 g2 g3 h3 (h4.trans (hb1.mono h4.size)) (keeps_of_below hb1) (f := 68 :: t))
            have hc6 := g1.cell 0
            have hc61 := g1.cell 1
            have hc62 := g1.cell 2
            have hf60 := g1.free 0
            have hf61 := g1.free 1
            have hf62 := g1.free 2
            have hc7 := g2.cell 0
            have hf7 := g2.free 0
            simp at hc6 hc61 hc62 hc7
            obtain ⟨⟨q1, q2⟩, hq⟩ : ∃ q, takeD (mostOf (68 :: t)) 0 r = q := ⟨_, rfl⟩
            rw [hq] at HE ⊢
            clear hq h1 h2 h3 h4 g1 g2 g3 hb1 Hc
            gi_wp2_with fail
            exact HE.out.2.2.1 (by trivial)
          · have HE := Lib.hid (rd_end hlt Hp.out h1 h2 h3 h3 h4 (KeepsOthers.refl _) (f := x :: t)).2.2.2 
            have HE2 := Lib.hid (HE.out e1 e2 e3)
            have b1 : ((x.toNat : Int) == 89) = false := byte_ne e1
            have b2 : ((x.toNat : Int) == 77) = false := byte_ne e2
            have b3 : ((x.toNat : Int) == 68) = false := byte_ne e3
            clear HE e1 e2 e3 h1 h2 h3 h4
            cases r with
            | nil =>
              gi_wp2_with fail
              exact HE2.out
            | cons c r' =>
              have hdr : (⟨(c :: r').toArray⟩ : ByteArray).extract 1 (r'.length + 1) = ⟨r'.toArray⟩ := ext_drop (c :: r') 1 (c :: r').length (Nat.le_refl _)
              have hmin : min (1 : Int) ((r'.length : Int) + 1) = 1 := by omega
              gi_wp2_with fail
              exact HE2.out
    case done =>
      rintro D W hD ⟨h1, h2, ⟨v, h3⟩, h4⟩ hK
      have hrb : readB lay s = (Cal.validB (rdAll s (segs lay)).y (rdAll s (segs lay)).m (rdAll s (segs lay)).d && (wrs (rdAll s (segs lay)).y (rdAll s (segs lay)).m (rdAll s (segs lay)).d (segs lay) == s)) := by unfold readB; rw [Hr.out]; rfl
      have hrr : readR lay s = if readB lay s = true then Cal.num (rdAll s (segs lay)).y (rdAll s (segs lay)).m (rdAll s (segs lay)).d else 0 := rfl
      obtain ⟨⟨y, m, d, r⟩, hp⟩ : ∃ p, rdAll s (segs lay) = p := ⟨_, rfl⟩
      rw [hp] at h1 h2 hrb hrr
      simp only at h1 h2 hrb hrr
      have hc6 := h1.cell 0
      have hc61 := h1.cell 1
      have hc62 := h1.cell 2
      simp at hc6 hc61 hc62
      have Hrr := Lib.hid hrr
      have hsz := HWs.out
      clear hp hyl hI0 hrr h2 h3
      rcases Bool.eq_false_or_eq_true (Cal.validB y m d) with hv | hv
      · rw [hv] at hrb
        have hvp := valid_parts hv
        have hdm := Cal.dim_bd y m
        unfold Cal.ValidP at hvp
        obtain ⟨v1, v2, v3, v4, v5, v6⟩ := hvp
        have v7 : d ≤ 31 := by omega
        have Hv := Lib.hid hv
        have Hrb := Lib.hid hrb
        clear hv v6 hdm hrb
        gi_wp2_with fail
        refine ⟨trivial, CallsIn.mono (callsIn_wide.2 (valid_any y m d W)) ?_⟩
        rintro e W1 ⟨rfl, hb1⟩
        rw [Hv.out]
        have g1 := h1.below hb1 h1.lt
        have hK1 : W1.heap[D]? = some (.deferred (some [])) := (keeps_of_below hb1).same _ _ hK rfl
        have hbl1 := h4.trans (hb1.mono h4.size)
        have hc6 := g1.cell 0
        have hc61 := g1.cell 1
        have hc62 := g1.cell 2
        simp at hc6 hc61 hc62
        clear h1 h4 hK hb1
        gi_wp2_with fail
        refine ⟨trivial, CallsIn.mono (callsIn_wide.2 (written_any lay y m d W1 (by omega) (by omega) (by omega) (by omega) (by omega) (by omega) h40)) ?_⟩
        rintro e W2 ⟨rfl, hb2⟩
        have g2 := g1.below hb2 g1.lt
        have hK2 : W2.heap[D]? = some (.deferred (some [])) := (keeps_of_below hb2).same _ _ hK1 rfl
        have hbl2 := hbl1.trans (hb2.mono hbl1.size)
        have hc6 := g2.cell 0
        have hc61 := g2.cell 1
        have hc62 := g2.cell 2
        simp at hc6 hc61 hc62
        have hcmp : (wrs y m d (segs lay) == s) = true ∨ (wrs y m d (segs lay) == s) = false := by cases (wrs y m d (segs lay) == s) <;> simp
        obtain ⟨ws, hws⟩ : ∃ ws, wrs y m d (segs lay) = ws := ⟨_, rfl⟩
        rw [hws] at hcmp ⊢
        have Hws := Lib.hid hws
        clear hK1 hbl1 g1 hws g2
        rcases hcmp with hq | hq
        · have hq2 : (ws != s) = false := by simpa using hq
          have Hq := Lib.hid hq
          have HK := Lib.hid hK2
          clear hK2
          gi_wp2_with fail
          refine ⟨trivial, CallsIn.mono (callsIn_wide.2 (number_any y m d W2 v1 v2 v3 v4 v5 v7)) ?_⟩
          rintro e W3 ⟨rfl, hb3⟩
          have hK3 : W3.heap[D]? = some (.deferred (some [])) := (keeps_of_below hb3).same _ _ HK.out rfl
          have hbl3 := hbl2.trans (hb3.mono hbl2.size)
          have HK3 := Lib.hid hK3
          clear hK3
          gi_wp2_with fail
          refine ⟨by simp, .inl ⟨_, _, rfl, run_takeDeferred HK3.out, ?_⟩⟩
          have e1 : readB lay s = true := by rw [Hrb.out, Hws.out, Hq.out]; rfl
          have e2 : readR lay s = Cal.num y m d := by rw [Hrr.out, if_pos e1]
          exact ⟨_, results_tmp2 rfl _ _ _, by rw [e1, e2]; rfl, hbl3.grown (grownBy_putObj' W3 D _) (by have := hbl3.size; omega) (fun k e => by injection e; omega)⟩
        · have hq2 : (ws != s) = true := by simpa using hq
          have Hq := Lib.hid hq
          have HK := Lib.hid hK2
          clear hK2
          gi_wp2_with fail
          refine ⟨by simp, .inl ⟨_, _, rfl, run_takeDeferred HK.out, ?_⟩⟩
          have e1 : readB lay s = false := by rw [Hrb.out, Hws.out, Hq.out]; rfl
          have e2 : readR lay s = 0 := by rw [Hrr.out, if_neg (by rw [e1]; decide)]
          exact ⟨_, results_tmp2 rfl _ _ _, by rw [e1, e2]; rfl, hbl2.grown (grownBy_putObj' W2 D _) (by have := hbl2.size; omega) (fun k e => by injection e; omega)⟩
      · rw [hv] at hrb
        have Hv := Lib.hid hv
        have Hrb := Lib.hid hrb
        clear hv hrb
        gi_wp2_with fail
        refine ⟨trivial, CallsIn.mono (callsIn_wide.2 (valid_any y m d W)) ?_⟩
        rintro e W1 ⟨rfl, hb1⟩
        rw [Hv.out]
        have hK1 : W1.heap[D]? = some (.deferred (some [])) := (keeps_of_below hb1).same _ _ hK rfl
        have hbl1 := h4.trans (hb1.mono h4.size)
        have HK := Lib.hid hK1
        clear hK hK1 h1 h4
        gi_wp2_with fail
        refine ⟨trivial, ?_⟩
        gi_wp2_with fail
        refine ⟨by simp, .inl ⟨_, _, rfl, run_takeDeferred HK.out, ?_⟩⟩
        have e1 : readB lay s = false := by rw [Hrb.out]; rfl
        have e2 : readR lay s = 0 := by rw [Hrr.out, if_neg (by rw [e1]; decide)]
        exact ⟨_, results_tmp2 rfl _ _ _, by rw [e1, e2]; rfl, hbl1.grown (grownBy_putObj' W1 D _) (by have := hbl1.size; omega) (fun k e => by injection e; omega)⟩
    case stop =>
      rintro D c pre W _ _ h _
      exact h.elim
  · have e1 : readB lay s = false := by simp [readB, hr]
    have e2 : readR lay s = 0 := by simp [readR, e1]
    have Hr := Lib.hid hr
    rw [e1, e2]
    clear e1 e2 hr
    go_enter Try.func25, Try.ntmps25
    go_wp2_with (go_at_call 42; refine (right_any _ _ hm).mono ?_; rintro e w1 ⟨rfl, hb⟩; rw [Hr.out])
    go_ret2
    exact ⟨rfl, hb⟩
end Go.Proofs.Ytbfiflinonnmcaa
