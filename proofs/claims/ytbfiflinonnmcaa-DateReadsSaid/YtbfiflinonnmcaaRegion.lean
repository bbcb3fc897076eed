/- A region that draws its order, by local facts: each operation is run once, under what is known of those that it waits for. Conditions: no operation is guarded; no two write the same slot. -/
import Derived.Orders
import Derived.WalkKit
import Derived.KernelRfl
namespace Go.Proofs.Ytbfiflinonnmcaa
section
variable {P : Program} {Q : Exit → Act → World → Prop}

/-- what stands in an operation's slot -/
def gotV (a : Act) (d : Option Tmp) : Value := match d with | some t => a.tmps.getD t undef | none => undef
def apartB (ops : Array Oper) : Bool :=
  (List.range ops.size).all fun i => (List.range ops.size).all fun j => i == j || ((ops[i]?.bind (·.dst)).isNone || (ops[i]?.bind (·.dst) != ops[j]?.bind (·.dst)))
def edgesB (ops : Array Oper) : Bool := (List.range ops.size).all fun i => (ops[i]?.map fun o => o.after.all fun e => decide (e.on < i)).getD true
def plainB (ops : Array Oper) (n : Nat) : Bool :=
  ops.all (fun o => o.guard.isNone && (match o.dst with | some d => decide (d < n) | none => true)) && apartB ops && edgesB ops
/-- the frame with the operations' values written in -/
def laidT (v : Nat → Value) : List Oper → Nat → Array Value → Array Value
  | [], _, s => s
  | o :: l, i, s => laidT v l (i + 1) (match o.dst with | some d => s.setIfInBounds d (v i) | none => s)

structure RgOk (ops : Array Oper) (φ : Nat → Value → World → Prop) (G : World → Prop) (a0 a : Act) (w : World) (listed : Array Bool) : Prop where
  size : listed.size = ops.size
  good : G w
  defers : a.defers = a0.defers
  tsize : a.tmps.size = a0.tmps.size
  out : ∀ t, (∀ (i : Nat) (o : Oper), ops[i]? = some o → o.dst ≠ some t) → a.tmps[t]? = a0.tmps[t]?
  got : ∀ (i : Nat) (o : Oper), ops[i]? = some o → listed.getD i false = true → φ i (gotV a o.dst) w

theorem laidT_size (v : Nat → Value) : ∀ (l : List Oper) (i : Nat) (s : Array Value), (laidT v l i s).size = s.size
  | [], _, _ => rfl
  | o :: l, i, s => by
    unfold laidT
    rw [laidT_size v l]
    split <;> simp
theorem laidT_eq (A : Array Value) (v : Nat → Value) : ∀ (l : List Oper) (i : Nat) (s : Array Value), s.size = A.size →
    (∀ (k : Nat) (o : Oper) (d : Nat), l[k]? = some o → o.dst = some d → A[d]? = some (v (i + k)) ∨ A.size ≤ d) →
    (∀ t, (∀ (k : Nat) (o : Oper), l[k]? = some o → o.dst ≠ some t) → s[t]? = A[t]?) → laidT v l i s = A
  | [], i, s, hs, _, h => by
    unfold laidT
    apply Array.ext_getElem?
    intro t
    exact h t (by simp)
  | o :: l, i, s, hs, hv, h => by
    unfold laidT
    refine laidT_eq A v l (i + 1) _ ?_ (fun k o' d hk hd => ?_) (fun t ht => ?_)
    · split <;> simp [hs]
    · have := hv (k + 1) o' d (by simpa using hk) hd
      rwa [show i + (k + 1) = i + 1 + k by omega] at this
    · cases hd : o.dst with
      | none =>
        simp only
        exact h t (fun k o' hk => by
          cases k with
          | zero => simp at hk; subst hk; rw [hd]; simp
          | succ k => exact ht k o' (by simpa using hk))
      | some d =>
        simp only
        by_cases e : d = t
        · subst e
          rcases hv 0 o d (by simp) hd with h1 | h1
          · rw [Nat.add_zero] at h1
            have hlt : d < A.size := (Array.getElem?_eq_some_iff.1 h1).1
            have hl2 : d < s.size := by rw [hs]; exact hlt
            rw [h1, Array.getElem?_setIfInBounds_self_of_lt hl2]
          · have e1 : (s.setIfInBounds d (v i)).size ≤ d := by simp [hs]; exact h1
            rw [Array.getElem?_eq_none e1, Array.getElem?_eq_none h1]
        · rw [Array.getElem?_setIfInBounds_ne e]
          exact h t (fun k o' hk => by
            cases k with
            | zero => simp at hk; subst hk; rw [hd]; intro e2; exact e (Option.some.inj e2)
            | succ k => exact ht k o' (by simpa using hk))

def cntT (listed : Array Bool) : Nat := listed.toList.countP (· == true)
theorem cnt_set : ∀ (l : List Bool) (i : Nat), l[i]? = some false → (l.set i true).countP (· == true) = l.countP (· == true) + 1
  | [], _, h => by simp at h
  | b :: l, 0, h => by simp at h; subst h; simp
  | b :: l, i + 1, h => by
    have := cnt_set l i (by simpa using h)
    simp only [List.set_cons_succ, List.countP_cons, this]
    omega
theorem cnt_full : ∀ (l : List Bool), l.countP (· == true) = l.length → ∀ i, i < l.length → l[i]? = some true
  | [], _, _, h => by simp at h
  | b :: l, hc, i, hi => by
    have hle := List.countP_le_length (p := (· == true)) (l := l)
    have hb : b = true := by
      cases b with
      | true => rfl
      | false => rw [List.countP_cons_of_neg (by simp), List.length_cons] at hc; omega
    subst hb
    cases i with
    | zero => rfl
    | succ i =>
      rw [List.countP_cons_of_pos (by simp), List.length_cons] at hc
      simpa using cnt_full l (by omega) i (by simpa using hi)

theorem outside_of {ops : Array Oper} {t : Nat} (h : ops.all (fun o => o.dst != some t) = true) (j : Nat) (o' : Oper) (ho : ops[j]? = some o') : o'.dst ≠ some t := by
  have := Array.all_eq_true_iff_forall_mem.1 h o' (Array.mem_of_getElem? ho)
  simpa using this

theorem wp_region_rg {ops : Array Oper} {id : Nat} {a0 : Act} {w0 : World} (φ : Nat → Value → World → Prop) (G : World → Prop) (hm : P.follows .mixedOrders = true) (hB : plainB ops a0.tmps.size = true)
    (h0 : G { w0 with drawn := w0.drawn + 1 })
    (step : ∀ (i : Nat) (o : Oper), ops[i]? = some o → ∀ (a : Act) (w : World), G w →
      (∀ t, (∀ (j : Nat) (o' : Oper), ops[j]? = some o' → o'.dst ≠ some t) → a.eval (.tmp t) = a0.eval (.tmp t)) →
      (∀ e ∈ o.after, Region.binds .any e = true → ∀ o', ops[e.on]? = some o' → φ e.on (gotV a o'.dst) w) →
      o.wp P a w (fun a' w' => G w' ∧ (∀ j v, φ j v w → φ j v w') ∧ ∃ v, a' = a.put o.dst v ∧ φ i v w' ∧ (o.dst = none → v = undef)) Q)
    (fin : ∀ (v : Nat → Value) (w : World), G w → (∀ (i : Nat) (o : Oper), ops[i]? = some o → φ i (v i) w) → Q .normal { a0 with tmps := laidT v ops.toList 0 a0.tmps } w) :
    (Code.region id ops true).wp P Q a0 w0 := by
  unfold plainB at hB
  rw [Bool.and_eq_true, Bool.and_eq_true, Array.all_eq_true_iff_forall_mem] at hB
  obtain ⟨⟨hpl, hap⟩, hed⟩ := hB
  have hwant : ∀ (i : Nat) (o : Oper) (f : Nat → Option Bool), ops[i]? = some o → Region.wanted o f = true := fun i o f ho => by
    have := hpl o (Array.mem_of_getElem? ho)
    rw [Bool.and_eq_true] at this
    have hg : o.guard = none := by simpa using this.1
    unfold Region.wanted
    rw [hg]
  have hlt : ∀ (i : Nat) (o : Oper) (d : Nat), ops[i]? = some o → o.dst = some d → d < a0.tmps.size := fun i o d ho hd => by
    have := hpl o (Array.mem_of_getElem? ho)
    rw [Bool.and_eq_true, hd] at this
    simpa using this.2
  have hne : ∀ (i j : Nat) (o o' : Oper), ops[i]? = some o → ops[j]? = some o' → i ≠ j → o.dst ≠ none → o.dst ≠ o'.dst := fun i j o o' ho ho' hij hn => by
    unfold apartB at hap
    have hi : i < ops.size := (Array.getElem?_eq_some_iff.1 ho).1
    have hj : j < ops.size := (Array.getElem?_eq_some_iff.1 ho').1
    have h1 := List.all_eq_true.1 hap i (List.mem_range.2 hi)
    have h2 := List.all_eq_true.1 h1 j (List.mem_range.2 hj)
    rw [ho, ho'] at h2
    simp only [Option.bind_some, Bool.or_eq_true, beq_iff_eq, bne_iff_ne, Option.isNone_iff_eq_none] at h2
    rcases h2 with h2 | h2 | h2
    · exact absurd h2 hij
    · exact absurd h2 hn
    · exact h2
  have key : ∀ (fuel : Nat) (listed : Array Bool) (a : Act) (w : World), fuel + cntT listed = ops.size → RgOk ops φ G a0 a w listed → wpAny P .any ops Q fuel listed a w := by
    have done : ∀ (listed : Array Bool) (a : Act) (w : World), (∀ i, i < ops.size → listed.getD i false = true) → RgOk ops φ G a0 a w listed → Q .normal a w := fun listed a w hall ok => by
      have hA : a = { a0 with tmps := laidT (fun i => gotV a (ops[i]?.bind (·.dst))) ops.toList 0 a0.tmps } := by
        have e : laidT (fun i => gotV a (ops[i]?.bind (·.dst))) ops.toList 0 a0.tmps = a.tmps := by
          refine laidT_eq a.tmps _ ops.toList 0 a0.tmps ok.tsize.symm (fun k o d hk hd => ?_) (fun t ht => ?_)
          · left
            have ho : ops[k]? = some o := by simpa using hk
            have hl := hlt k o d ho hd
            rw [← ok.tsize] at hl
            simp only [Nat.zero_add, ho, Option.bind_some, hd, gotV]
            simp [hl]
          · exact (ok.out t (fun i o ho => ht i o (by simpa using ho))).symm
        rw [e]
        have := ok.defers
        cases a; simp only at this; subst this; rfl
      rw [hA]
      refine fin _ w ok.good (fun i o ho => ?_)
      have := ok.got i o ho (hall i (Array.getElem?_eq_some_iff.1 ho).1)
      rw [ho]
      exact this
    intro fuel
    induction fuel with
    | zero =>
      intro listed a w hc ok
      have hfull : ∀ i, i < ops.size → listed.getD i false = true := fun i hi => by
        have := cnt_full listed.toList (by unfold cntT at hc; rw [Nat.zero_add] at hc; rw [hc, Array.length_toList, ok.size]) i (by rw [Array.length_toList, ok.size]; exact hi)
        rw [Array.getElem?_toList] at this
        simp [Array.getD_eq_getD_getElem?, this]
      refine ⟨?_, done listed a w hfull ok⟩
      cases hr : Region.ready .any ops listed with
      | nil => rfl
      | cons j r =>
        have hj : j ∈ Region.ready .any ops listed := by rw [hr]; simp
        obtain ⟨h1, o, ho, _⟩ := mem_ready.1 hj
        have hlt' : j < ops.size := (Array.getElem?_eq_some_iff.1 ho).1
        have h2 := hfull j hlt'
        have hls : j < listed.size := by rw [ok.size]; exact hlt'
        simp [hls] at h1 h2
        rw [h1] at h2; cases h2
    | succ fuel ih =>
      intro listed a w hc ok
      refine ⟨fun hr => ?_, fun i hi => ?_⟩
      · refine done listed a w (fun i => ?_) ok
        induction i using Nat.strongRecOn with
        | _ i ihi =>
          intro hi
          cases hl : listed.getD i false with
          | true => rfl
          | false =>
            exfalso
            obtain ⟨o, ho⟩ : ∃ o, ops[i]? = some o := ⟨ops[i], by simp [hi]⟩
            have hls : i < listed.size := by rw [ok.size]; exact hi
            have hmem : i ∈ Region.ready .any ops listed := by
              refine mem_ready.2 ⟨by simp [hls] at hl ⊢; exact hl, o, ho, fun e he _ => ?_⟩
              unfold edgesB at hed
              have h1 := List.all_eq_true.1 hed i (List.mem_range.2 hi)
              rw [ho] at h1
              simp only [Option.map_some, Option.getD_some] at h1
              have h2 := Array.all_eq_true_iff_forall_mem.1 h1 e he
              have h3 : e.on < i := by simpa using h2
              exact ihi e.on h3 (by omega)
            rw [hr] at hmem; cases hmem
      · obtain ⟨h1, o, ho, hall⟩ := mem_ready.1 hi
        have hi' : i < ops.size := (Array.getElem?_eq_some_iff.1 ho).1
        have hls : i < listed.size := by rw [ok.size]; exact hi'
        unfold wpOp
        simp only [ho]
        rw [if_pos (hwant i o _ ho)]
        left
        refine Oper.wp_mono (fun a' w' h => ?_) (step i o ho a w ok.good (fun t ht => ?_) (fun e he hb o' ho' => ok.got e.on o' ho' (hall e he hb)))
        · obtain ⟨hG, hst, v, rfl, hv, hvn⟩ := h
          refine ih _ _ _ ?_ ⟨by simp [ok.size], hG, ?_, ?_, fun t ht => ?_, fun j o' ho' hl => ?_⟩
          · have : cntT (listed.setIfInBounds i true) = cntT listed + 1 := by
              unfold cntT
              rw [Array.toList_setIfInBounds]
              exact cnt_set _ _ (by
                rw [Array.getElem?_toList]
                simp [hls] at h1 ⊢
                exact h1)
            omega
          · rw [← ok.defers]; cases o.dst <;> rfl
          · rw [← ok.tsize]; cases o.dst <;> simp [Act.put]
          · rw [← ok.out t ht]
            cases hd : o.dst with
            | none => rfl
            | some d =>
              have : d ≠ t := fun e => ht i o ho (by rw [hd, e])
              simp [Act.put, Array.getElem?_setIfInBounds_ne this]
          · by_cases e : i = j
            · subst e
              have : o' = o := Option.some.inj (ho'.symm.trans ho)
              subst this
              cases hd : o'.dst with
              | none =>
                have := hvn hd
                subst this
                exact hv
              | some d =>
                have hl := hlt i o' d ho hd
                rw [← ok.tsize] at hl
                have e2 : gotV (a.put (some d) v) (some d) = v := by simp [gotV, Act.put, hl]
                rw [e2]; exact hv
            · rw [getD_set_ne false e] at hl
              have hold := hst j _ (ok.got j o' ho' hl)
              have e2 : gotV (a.put o.dst v) o'.dst = gotV a o'.dst := by
                cases hd : o.dst with
                | none => rfl
                | some d =>
                  cases hd' : o'.dst with
                  | none => rfl
                  | some d' =>
                    have : d ≠ d' := fun e3 => hne i j o o' ho ho' e (by rw [hd]; simp) (by rw [hd, hd', e3])
                    simp [gotV, Act.put, Array.getElem?_setIfInBounds_ne this]
              rw [e2]; exact hold
        · unfold Act.eval
          simp only [Array.getD_eq_getD_getElem?, ok.out t ht]
  refine wp_region_any hm (key ops.size _ a0 _ (by simp [cntT]) ⟨by simp, h0, rfl, rfl, fun _ _ => rfl, fun i o ho hl => ?_⟩)
  have : (Array.replicate ops.size false).getD i false = false := by
    rcases Nat.lt_or_ge i ops.size with h | h <;> simp [h]
  rw [this] at hl; cases hl
end
end Go.Proofs.Ytbfiflinonnmcaa
