/- A region that draws its order, whose operations move the world in no forced order: what is known of each operation's value is kept by all others. -/
import Derived.Test.YthfnnkfdpnkodaaPlm
namespace Go.Proofs.Ythfnnkfdpnkodaa.ANY

section
variable {P : Program} {ops : Array Oper} {Q : Exit → Act → World → Prop}

/-- No operation is guarded, each writes a slot of its own or none, and stands behind earlier ones alone. -/
def okOps (ops : Array Oper) (n : Nat) : Bool :=
  ops.all (fun o => o.guard.isNone && (match o.dst with | some d => decide (d < n) | none => true)) &&
  ((List.range ops.size).all fun i => match ops[i]? with | some o => o.after.all fun e => !Region.binds .any e || decide (e.on < i) | none => true) &&
  (List.range ops.size).all fun i => (List.range ops.size).all fun k => i == k || (match ops[i]?.bind (·.dst), ops[k]?.bind (·.dst) with | some a, some b => a != b | _, _ => true)

def isDst (ops : Array Oper) (t : Nat) : Bool := ops.any fun o => o.dst == some t

/-- What an operation leaves. -/
def Step (Φ : Value → World → Prop) (G : World → Prop) (R : World → World → Prop) (o : Oper) (a : Act) (w : World) (a' : Act) (w' : World) : Prop := ∃ v, a' = a.put o.dst v ∧ Φ v w' ∧ G w' ∧ R w w'

theorem step_val {Φ : Value → World → Prop} {G : World → Prop} {R : World → World → Prop} {o : Oper} {a : Act} {w w' : World} (v : Value) (hrun : (execOp a.eval o).run P w = .ok (.value v) w') (h1 : Φ v w') (h2 : G w') (h3 : R w w') : o.wp P a w (Step Φ G R o a w) Q := by
  unfold Oper.wp
  rw [hrun]
  exact ⟨v, rfl, h1, h2, h3⟩

/-- What is known between two operations. -/
structure Inv (ops : Array Oper) (Φ : Nat → Value → World → Prop) (G : World → Prop) (a0 : Act) (listed : Array Bool) (a : Act) (w : World) : Prop where
  good : G w
  defers : a.defers = a0.defers
  size : a.tmps.size = a0.tmps.size
  done : ∀ (j : Nat) (o : Oper) (d : Nat), ops[j]? = some o → listed.getD j false = true → o.dst = some d → Φ j (a.tmps.getD d undef) w
  rest : ∀ t, isDst ops t = false → a.tmps.getD t undef = a0.tmps.getD t undef

theorem getD_put_same (a : Act) (d : Nat) (v : Value) (h : d < a.tmps.size) : (a.put (some d) v).tmps.getD d undef = v := by
  simp [Act.put, h]

theorem getD_put_other (a : Act) {d t : Nat} (v : Value) (h : t ≠ d) : (a.put (some d) v).tmps.getD t undef = a.tmps.getD t undef := by
  simp only [Act.put, Array.getD_eq_getD_getElem?]
  rw [Array.getElem?_setIfInBounds_ne (fun e => h e.symm)]

theorem size_put (a : Act) (d : Option Nat) (v : Value) : (a.put d v).tmps.size = a.tmps.size := by
  cases d <;> simp [Act.put]

theorem defers_put (a : Act) (d : Option Nat) (v : Value) : (a.put d v).defers = a.defers := by
  cases d <;> rfl

theorem nodup_lt : ∀ (n : Nat) (c : List Nat), c.Nodup → (∀ j ∈ c, j < n) → c.length ≤ n
  | 0, c, _, h => by
    cases c with
    | nil => exact Nat.le_refl _
    | cons x y => exact absurd (h x (by simp)) (Nat.not_lt_zero _)
  | n + 1, c, hn, h => by
    by_cases hm : n ∈ c
    · have h1 := nodup_lt n (c.erase n) (hn.erase n) (fun j hj => by
        have h2 := (hn.mem_erase_iff).1 hj
        have := h j h2.2
        have h3 := h2.1
        omega)
      rw [List.length_erase_of_mem hm] at h1
      omega
    · have h1 := nodup_lt n c hn (fun j hj => by
        have := h j hj
        have h3 : j ≠ n := fun e => hm (e ▸ hj)
        omega)
      omega

theorem wp_region_any {id : Nat} {l : List Oper} {a0 : Act} {w0 : World} (Φ : Nat → Value → World → Prop) (G : World → Prop) (R : World → World → Prop) (hm : P.follows .mixedOrders = true)
    (hok : okOps l.toArray a0.tmps.size = true) (hG : G w0.drew) (hΦ : ∀ j v w w', Φ j v w → R w w' → Φ j v w')
    (hstep : ∀ (j : Nat) (o : Oper), l[j]? = some o → ∀ (a : Act) (w : World), G w → (∀ e ∈ o.after, Region.binds .any e = true → ∀ o' d', l[e.on]? = some o' → o'.dst = some d' → Φ e.on (a.tmps.getD d' undef) w) →
      (∀ t, isDst l.toArray t = false → a.tmps.getD t undef = a0.tmps.getD t undef) → o.wp P a w (Step (Φ j) G R o a w) Q)
    (hend : ∀ (a : Act) (w : World), Inv l.toArray Φ G a0 (Array.replicate l.toArray.size true) a w → Q .normal a w) : (Code.region id l.toArray true).wp P Q a0 w0 := by
  refine Go.wp_region_any hm ?_
  have hok' := hok
  unfold okOps at hok'
  simp only [Bool.and_eq_true, List.all_eq_true, List.mem_range] at hok'
  obtain ⟨⟨hok0, hok1⟩, hok2⟩ := hok'
  have hgd : ∀ (j : Nat) (o : Oper), l[j]? = some o → o.guard = none ∧ ∀ d, o.dst = some d → d < a0.tmps.size := by
    intro j o ho
    have h1 := Array.all_eq_true_iff_forall_mem.1 hok0 o (by simpa using List.mem_of_getElem? ho)
    simp only [Bool.and_eq_true, Option.isNone_iff_eq_none] at h1
    refine ⟨h1.1, fun d hd => ?_⟩
    have h2 := h1.2
    rw [hd] at h2
    simpa using h2
  have hlt : ∀ (j : Nat) (o : Oper), l[j]? = some o → ∀ e ∈ o.after, Region.binds .any e = true → e.on < j := by
    intro j o ho e he hb
    have h1 := hok1 j (by simpa using (List.getElem?_eq_some_iff.1 ho).1)
    simp only [List.getElem?_toArray, ho, Array.all_eq_true_iff_forall_mem] at h1
    have := h1 e he
    simpa [hb] using this
  have hdd : ∀ (i k : Nat) (oi ok : Oper) (d : Nat), l[i]? = some oi → l[k]? = some ok → oi.dst = some d → ok.dst = some d → i = k := by
    intro i k oi ok d hi hk hdi hdk
    have h1 := hok2 i (by simpa using (List.getElem?_eq_some_iff.1 hi).1) k (by simpa using (List.getElem?_eq_some_iff.1 hk).1)
    simp only [List.getElem?_toArray, hi, hk, Option.bind_some, hdi, hdk, bne_self_eq_false, Bool.or_false, beq_iff_eq] at h1
    exact h1
  have hall : ∀ listed : Array Bool, listed.size = l.toArray.size → Region.ready .any l.toArray listed = [] → listed = Array.replicate l.toArray.size true := by
    intro listed hsz hr
    have key : ∀ n, ∀ j, j < n → j < l.length → listed.getD j true = true := by
      intro n
      induction n with
      | zero => intro j hj; omega
      | succ n ihn =>
        intro j hj hjl
        by_cases hjn : j < n
        · exact ihn j hjn hjl
        · obtain rfl : j = n := by omega
          cases hj1 : listed.getD j true with
          | true => rfl
          | false =>
            have hm : j ∈ Region.ready .any l.toArray listed := by
              refine mem_ready.2 ⟨hj1, l[j], by simp [hjl], fun e he hb => ?_⟩
              have h1 := hlt j l[j] (List.getElem?_eq_getElem hjl) e he hb
              have h2 := ihn e.on h1 (by omega)
              rw [← PLM.getD_size (by rw [hsz]; simp; omega)]
              exact h2
            rw [hr] at hm
            cases hm
    apply Array.ext
    · simp [hsz]
    · intro j h1 h2
      have := key (j + 1) j (by omega) (by rw [hsz] at h1; simpa using h1)
      simpa [h1] using this
  have main : ∀ (fuel : Nat) (listed : Array Bool) (a : Act) (w : World), listed.size = l.toArray.size → (∀ c : List Nat, c.Nodup → (∀ j ∈ c, j < l.toArray.size ∧ listed.getD j true = false) → c.length ≤ fuel) →
      Inv l.toArray Φ G a0 listed a w → wpAny P .any l.toArray Q fuel listed a w := by
    intro fuel
    induction fuel with
    | zero =>
      intro listed a w hsz hc hI
      have hr : Region.ready .any l.toArray listed = [] := by
        refine List.eq_nil_iff_forall_not_mem.2 fun j hj => ?_
        obtain ⟨h1, o, ho, _⟩ := mem_ready.1 hj
        have := hc [j] (by simp) (fun k hk => by
          obtain rfl : k = j := by simpa using hk
          exact ⟨(Array.getElem?_eq_some_iff.1 ho).1, h1⟩)
        simp at this
      exact ⟨hr, hend a w (hall listed hsz hr ▸ hI)⟩
    | succ fuel ih =>
      intro listed a w hsz hc hI
      refine ⟨fun hr => hend a w (hall listed hsz hr ▸ hI), fun i hi => ?_⟩
      obtain ⟨hi0, oi, hoi, hdeps⟩ := mem_ready.1 hi
      have hoi' : l[i]? = some oi := by simpa using hoi
      have hil : i < l.toArray.size := (Array.getElem?_eq_some_iff.1 hoi).1
      have hst := hstep i oi hoi' a w hI.good (fun e he hb o' d' ho' hd' => hI.done e.on o' d' (by simpa using ho') (hdeps e he hb) hd') hI.rest
      have hop : wpOp P l.toArray Q i (Step (Φ i) G R oi a w) a w := by
        unfold wpOp
        simp only [hoi]
        rw [if_pos (by simp [Region.wanted, (hgd i oi hoi').1])]
        exact .inl hst
      refine wpOp_mono (fun a' w' hp => ?_) hop
      obtain ⟨v, rfl, hv, hg', hr'⟩ := hp
      refine ih (listed.setIfInBounds i true) _ w' (by simpa using hsz) (fun c hn hcc => ?_) ⟨hg', by rw [defers_put]; exact hI.defers, by rw [size_put]; exact hI.size, fun j o d ho hl hd => ?_, fun t ht => ?_⟩
      · have hic : i ∉ c := fun hic => by
          have := (hcc i hic).2
          simp [hsz ▸ hil] at this
        have := hc (i :: c) (List.nodup_cons.2 ⟨hic, hn⟩) (fun j hj => by
          rcases List.mem_cons.1 hj with rfl | hj
          · exact ⟨hil, hi0⟩
          · have h1 := hcc j hj
            refine ⟨h1.1, ?_⟩
            have hne : i ≠ j := fun e => hic (e ▸ hj)
            have h2 := h1.2
            simp only [Array.getD_eq_getD_getElem?] at h2 ⊢
            rw [Array.getElem?_setIfInBounds_ne hne] at h2
            exact h2)
        simp only [List.length_cons] at this
        omega
      · by_cases e : j = i
        · subst e
          rw [hoi] at ho
          cases ho
          rw [hd, getD_put_same _ _ _ (by rw [hI.size]; exact (hgd j oi hoi').2 d hd)]
          exact hv
        · have hl' : listed.getD j false = true := by
            simp only [Array.getD_eq_getD_getElem?] at hl ⊢
            rw [Array.getElem?_setIfInBounds_ne (fun h => e h.symm)] at hl
            exact hl
          have hold := hΦ _ _ _ _ (hI.done j o d ho hl' hd) hr'
          cases hdo : oi.dst with
          | none => exact hold
          | some d2 =>
            have hne : d ≠ d2 := fun h => e (hdd j i o oi d (by simpa using ho) hoi' hd (by rw [hdo, h]))
            rw [getD_put_other _ _ hne]
            exact hold
      · have hold := hI.rest t ht
        cases hdo : oi.dst with
        | none => exact hold
        | some d2 =>
          have hne : t ≠ d2 := fun h => by
            unfold isDst at ht
            rw [Array.any_eq_false] at ht
            have := ht i hil
            have h3 : l.toArray[i] = oi := by have := Array.getElem?_eq_getElem hil; rw [hoi] at this; exact (Option.some.inj this).symm
            rw [h3, hdo, h] at this
            simp at this
          rw [getD_put_other _ _ hne]
          exact hold
  refine main _ _ _ _ (by simp) (fun c hn hcc => ?_) ⟨hG, rfl, rfl, fun j o d ho hl => ?_, fun _ _ => rfl⟩
  · exact nodup_lt _ c hn fun j hj => (hcc j hj).1
  · by_cases hj : j < l.length
    · simp [hj] at hl
    · simp [hj] at hl
end
end Go.Proofs.Ythfnnkfdpnkodaa.ANY
