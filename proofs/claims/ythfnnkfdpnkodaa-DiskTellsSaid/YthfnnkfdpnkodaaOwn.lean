/- A struct behind a pointer whose slices lie in memory of its own. No program in sight. -/
import Derived.Test.YthfnnkfdpnkodaaMem
namespace Go.Proofs.Ythfnnkfdpnkodaa

/-- A field: a value as it stands, or a slice in a block of its own. -/
inductive Fld where
  | sc (v : Value)
  | rw (e : TypeId) (sz n : Nat) (xs : List Value)

def FldOk (w : World) (f : Fld) (v : Value) (g : Option Nat) : Prop :=
  match f with
  | .sc u => v = u ∧ g = none
  | .rw e sz n xs => Row w e sz v g n xs

structure Owns (w : World) (b : Nat) (D : Nat → Prop) (T : TypeId) (fs : List Fld) (vals : List Value) (own : Nat → Option Nat) : Prop where
  len : vals.length = fs.length
  blk : Blk w b vals T
  fld : ∀ i f, fs[i]? = some f → ∃ v, vals[i]? = some v ∧ FldOk w f v (own i)
  apart : ∀ i j k, own i = some k → own j = some k → i = j
  notb : ∀ i, own i ≠ some b
  out : ∀ i, fs.length ≤ i → own i = none
  inD : D b ∧ ∀ i k, own i = some k → D k

def Owned (w : World) (b : Nat) (D : Nat → Prop) (T : TypeId) (fs : List Fld) : Prop := ∃ vals own, Owns w b D T fs vals own

theorem FldOk.of_heap {w w' : World} {f : Fld} {v : Value} {g : Option Nat} (h : FldOk w f v g) (hh : ∀ k, g = some k → w'.heap[k]? = w.heap[k]?) : FldOk w' f v g := by
  cases f with
  | sc u => exact h
  | rw e sz n xs => exact Row.of_heap h hh

theorem FldOk.lt {w : World} {f : Fld} {v : Value} {g : Option Nat} (h : FldOk w f v g) {k : Nat} (hk : g = some k) : k < w.heap.size := by
  cases f with
  | sc u => rw [h.2] at hk; cases hk
  | rw e sz n xs => exact Row.lt h hk

section
variable {w w' : World} {b : Nat} {D : Nat → Prop} {T : TypeId} {fs : List Fld}

theorem Owns.lt {vals : List Value} {own : Nat → Option Nat} (h : Owns w b D T fs vals own) {i k : Nat} (hk : own i = some k) : k < w.heap.size := by
  by_cases hi : i < fs.length
  · obtain ⟨v, _, hf⟩ := h.fld i _ (List.getElem?_eq_getElem hi)
    exact hf.lt hk
  · rw [h.out i (by omega)] at hk; cases hk

theorem Owned.lt (h : Owned w b D T fs) : b < w.heap.size := by
  obtain ⟨_, _, h⟩ := h
  exact h.blk.lt

theorem Owned.upd {S : Nat → Prop} (h : Owned w b D T fs) (u : Upd S w w') (hd : ∀ k, D k → k < w.heap.size → ¬ S k) : Owned w' b D T fs := by
  obtain ⟨vals, own, h⟩ := h
  exact ⟨vals, own, h.len, h.blk.upd u (hd b h.inD.1 h.blk.lt), fun i f hf => by
    obtain ⟨v, hv, hk⟩ := h.fld i f hf
    exact ⟨v, hv, hk.of_heap fun k hg => u.block k (hk.lt hg) (hd k (h.inD.2 i k hg) (hk.lt hg))⟩, h.apart, h.notb, h.out, h.inD⟩

theorem Owned.still (h : Owned w b D T fs) (u : Upd (fun _ => False) w w') : Owned w' b D T fs := h.upd u fun _ _ _ h => h

theorem Owned.mono {D' : Nat → Prop} (h : Owned w b D T fs) (hd : ∀ k, k < w.heap.size → D k → D' k) : Owned w b D' T fs := by
  obtain ⟨vals, own, h⟩ := h
  exact ⟨vals, own, h.len, h.blk, h.fld, h.apart, h.notb, h.out, hd b h.blk.lt h.inD.1, fun i k hk => hd k (h.lt hk) (h.inD.2 i k hk)⟩

theorem Owned.sc (h : Owned w b D T fs) {i : Nat} {v : Value} (hi : fs[i]? = some (.sc v)) : w.cell? ⟨b, i, none⟩ = some v := by
  obtain ⟨vals, own, h⟩ := h
  obtain ⟨u, hu, hf⟩ := h.fld i _ hi
  exact h.blk.cell_of (by rw [hu, hf.1])

theorem Owned.froz (h : Owned w b D T fs) {i : Nat} (hi : i < fs.length) : w.frozen? ⟨b, i, none⟩ = false := by
  obtain ⟨vals, own, h⟩ := h
  exact h.blk.frozen (by rw [h.len]; exact hi)

theorem heap_set_other (w : World) (b o : Nat) (u : Value) {k : Nat} (h : k ≠ b) : (w.setCell ⟨b, o, none⟩ u).heap[k]? = w.heap[k]? := RowKit.Below.heap_setCell w ⟨b, o, none⟩ u k h

theorem Owned.setSc (h : Owned w b D T fs) {i : Nat} {v0 : Value} (hi : fs[i]? = some (.sc v0)) (v : Value) : Owned (w.setCell ⟨b, i, none⟩ v) b D T (fs.set i (.sc v)) := by
  obtain ⟨vals, own, h⟩ := h
  have hil : i < fs.length := (List.getElem?_eq_some_iff.1 hi).1
  obtain ⟨u0, _, hf0⟩ := h.fld i _ hi
  refine ⟨vals.set i v, own, by simpa using h.len, h.blk.set i v, fun j f hf => ?_, h.apart, h.notb, by simpa using h.out, h.inD⟩
  by_cases e : i = j
  · subst e
    rw [List.getElem?_set_self hil] at hf
    cases hf
    exact ⟨v, List.getElem?_set_self (by rw [h.len]; exact hil), rfl, hf0.2⟩
  · rw [List.getElem?_set_ne e] at hf
    obtain ⟨u, hu, hk⟩ := h.fld j f hf
    exact ⟨u, by rw [List.getElem?_set_ne e]; exact hu, hk.of_heap fun k hg => heap_set_other w b i v (fun e => h.notb j (e ▸ hg))⟩

/-- Whatever is put in the place of a slice: the struct owns it. -/
def Back (w : World) (b : Nat) (D : Nat → Prop) (T : TypeId) (fs : List Fld) (i : Nat) (v : Value) (g : Option Nat) : Prop :=
  (∀ (w' : World) (v' : Value) (g' : Option Nat) (e' : TypeId) (sz' n' : Nat) (xs' : List Value), Upd (fun k => g = some k) w w' → Row w' e' sz' v' g' n' xs' → (∀ k, g' = some k → g = some k ∨ w.heap.size ≤ k) →
    Owned (w'.setCell ⟨b, i, none⟩ v') b (fun k => D k ∨ w.heap.size ≤ k) T (fs.set i (.rw e' sz' n' xs'))) ∧
  (∀ (w' : World) (e' : TypeId) (sz' n' : Nat) (xs' : List Value), Upd (fun k => g = some k) w w' → Row w' e' sz' v g n' xs' → Owned w' b D T (fs.set i (.rw e' sz' n' xs')))

theorem Owned.focus (h : Owned w b D T fs) {i : Nat} {e : TypeId} {sz n : Nat} {xs : List Value} (hi : fs[i]? = some (.rw e sz n xs)) :
    ∃ v g, w.cell? ⟨b, i, none⟩ = some v ∧ Row w e sz v g n xs ∧ (∀ k, g = some k → D k ∧ k ≠ b) ∧ Back w b D T fs i v g := by
  obtain ⟨vals, own, h⟩ := h
  have hil : i < fs.length := (List.getElem?_eq_some_iff.1 hi).1
  obtain ⟨v, hv, hf⟩ := h.fld i _ hi
  refine ⟨v, own i, h.blk.cell_of hv, hf, fun k hk => ⟨h.inD.2 i k hk, fun e => h.notb i (e ▸ hk)⟩, ?_, ?_⟩
  · intro w' v' g' e' sz' n' xs' u hrow hg
    have hb : ¬ (own i = some b) := h.notb i
    have hb2 := h.blk.upd u hb
    let own' : Nat → Option Nat := fun j => if j = i then g' else own j
    have o1 : own' i = g' := by simp [own']
    have o2 : ∀ {j}, j ≠ i → own' j = own j := fun hj => by simp [own', hj]
    have hgb : g' ≠ some b := fun e => by
      rcases hg b e with h1 | h1
      · exact hb h1
      · have := h.blk.lt; omega
    have key : ∀ j k, j ≠ i → own j = some k → g' ≠ some k := fun j k hj hk e => by
      rcases hg k e with h1 | h1
      · exact hj (h.apart j i k hk h1)
      · have := h.lt hk; omega
    refine ⟨vals.set i v', own', by simpa using h.len, hb2.set i v', fun j f hf' => ?_, fun a c k ha hc => ?_, fun j => ?_, fun j hj => ?_, .inl h.inD.1, fun j k hk => ?_⟩
    · by_cases e : i = j
      · subst e
        rw [List.getElem?_set_self hil] at hf'
        cases hf'
        refine ⟨v', List.getElem?_set_self (by rw [h.len]; exact hil), ?_⟩
        rw [o1]
        exact Row.of_heap hrow fun k hk => heap_set_other w' b i v' (fun e => hgb (e ▸ hk))
      · rw [List.getElem?_set_ne e] at hf'
        obtain ⟨u1, hu1, hk1⟩ := h.fld j f hf'
        refine ⟨u1, by rw [List.getElem?_set_ne e]; exact hu1, ?_⟩
        rw [o2 (fun h => e h.symm)]
        exact hk1.of_heap fun k hk => (heap_set_other w' b i v' (fun e2 => h.notb j (e2 ▸ hk))).trans (u.block k (h.lt hk) fun hk2 => e (h.apart i j k hk2 hk))
    · by_cases ea : a = i
      · by_cases ec : c = i
        · omega
        · rw [ea, o1] at ha; rw [o2 ec] at hc; exact absurd ha (key c k ec hc)
      · by_cases ec : c = i
        · rw [o2 ea] at ha; rw [ec, o1] at hc; exact absurd hc (key a k ea ha)
        · rw [o2 ea] at ha; rw [o2 ec] at hc; exact h.apart a c k ha hc
    · by_cases ej : j = i
      · rw [ej, o1]; exact hgb
      · rw [o2 ej]; exact h.notb j
    · rw [List.length_set] at hj
      rw [o2 (by omega)]; exact h.out j hj
    · by_cases ej : j = i
      · rw [ej, o1] at hk
        exact (hg k hk).imp (fun h1 => h.inD.2 i k h1) id
      · rw [o2 ej] at hk; exact .inl (h.inD.2 j k hk)
  · intro w' e' sz' n' xs' u hrow
    refine ⟨vals, own, by simpa using h.len, h.blk.upd u (h.notb i), fun j f hf' => ?_, h.apart, h.notb, by simpa using h.out, h.inD⟩
    by_cases e : i = j
    · subst e
      rw [List.getElem?_set_self hil] at hf'
      cases hf'
      exact ⟨v, hv, hrow⟩
    · rw [List.getElem?_set_ne e] at hf'
      obtain ⟨u1, hu1, hk1⟩ := h.fld j f hf'
      exact ⟨u1, hu1, hk1.of_heap fun k hk => u.block k (h.lt hk) fun hk2 => e (h.apart i j k hk2 hk)⟩

/-- A new struct. -/
theorem Owned.box (T : TypeId) (fs : List Fld) (vals : List Value) (own : Nat → Option Nat) (hl : vals.length = fs.length) (hf : ∀ i f, fs[i]? = some f → ∃ v, vals[i]? = some v ∧ FldOk w f v (own i))
    (ha : ∀ i j k, own i = some k → own j = some k → i = j) (ho : ∀ i, fs.length ≤ i → own i = none) : Owned (w.alloc (.cells vals.toArray T)) w.heap.size (fun k => k = w.heap.size ∨ ∃ i, own i = some k) T fs := by
  have hlt : ∀ i k, own i = some k → k < w.heap.size := fun i k hk => by
    by_cases hi : i < fs.length
    · obtain ⟨v, _, hf⟩ := hf i _ (List.getElem?_eq_getElem hi)
      exact hf.lt hk
    · rw [ho i (by omega)] at hk; cases hk
  exact ⟨vals, own, hl, Blk.new w vals T, fun i f hfi => by
    obtain ⟨v, hv, hk⟩ := hf i f hfi
    exact ⟨v, hv, hk.of_heap fun k hg => heap_alloc_old w _ (hlt i k hg)⟩, ha, fun i hi => by have := hlt i _ hi; omega, ho, .inl rfl, fun i k hk => .inr ⟨i, hk⟩⟩
end

/-- A call that keeps the blocks of F, and leaves what P says in the others. -/
def KeptP (P : World → (Nat → Prop) → Prop) (F : Nat → Prop) (w : World) (v : Value) (e : Ending) (w' : World) : Prop :=
  e = .returned v ∧ P w' (fun k => ¬ F k) ∧ Upd (fun k => ¬ F k) w w'

end Go.Proofs.Ythfnnkfdpnkodaa
