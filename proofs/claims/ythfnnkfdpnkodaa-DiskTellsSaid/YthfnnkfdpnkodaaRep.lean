/- How a disk lies in memory. -/
import Derived.Test.YthfnnkfdpnkodaaPut
namespace Go.Proofs.Ythfnnkfdpnkodaa
open Go.RowKit

/-- A pending write. -/
structure Pc where
  f : Nat
  at_ : Nat
  s : List UInt8

/-- What a disk is. -/
structure DSt where
  dur : Nat → List UInt8
  siz : Nat → Nat
  pend : List Pc
  down : Bool
  lost : Nat
  armed : Nat
  keep : List Int

def strV (l : List UInt8) : Value := .string ⟨l.toArray⟩
def Pc.cells (p : Pc) : List Value := [.int .i64 p.f, .int .i64 p.at_, strV p.s]
def pendV (l : List Pc) : List Value := l.flatMap Pc.cells
def intsV (l : List Int) : List Value := l.map fun n => .int .i64 n

theorem strV_data (s : ByteArray) : strV s.data.toList = .string s := by cases s; simp [strV]
theorem pendV_snoc (pd : List Pc) (f at_ : Nat) (s : ByteArray) : pendV (pd ++ [⟨f, at_, s.data.toList⟩]) = pendV pd ++ [.int .i64 f, .int .i64 at_, .string s] := by
  simp only [pendV, List.flatMap_append, List.flatMap_cons, List.flatMap_nil, Pc.cells, strV_data, List.append_nil]

def up {α : Type} (g : Nat → α) (i : Nat) (x : α) : Nat → α := fun j => if j = i then x else g j
theorem up_same {α : Type} (g : Nat → α) (i : Nat) (x : α) : up g i x i = x := by simp [up]
theorem up_other {α : Type} (g : Nat → α) {i j : Nat} (x : α) (h : j ≠ i) : up g i x j = g j := by simp [up, h]

def dcell (dv : Nat → Value) (pv kv : Value) (st : DSt) (o : Nat) : Value :=
  if o < 24 then (if o % 2 = 0 then dv (o / 2) else .int .i64 (st.siz (o / 2)))
  else if o = 24 then pv else if o = 25 then .bool st.down else if o = 26 then .int .i64 st.lost else if o = 27 then .int .i64 st.armed else kv

def dcells (dv : Nat → Value) (pv kv : Value) (st : DSt) : List Value := (List.range 29).map (dcell dv pv kv st)

theorem dcells_get {dv : Nat → Value} {pv kv : Value} {st : DSt} {o : Nat} (h : o < 29) : (dcells dv pv kv st)[o]? = some (dcell dv pv kv st o) := by
  simp [dcells, List.getElem?_range h]

theorem dcells_set {dv dv' : Nat → Value} {pv pv' kv kv' : Value} {st st' : DSt} {o : Nat} {u : Value} (h : ∀ i, i < 29 → dcell dv' pv' kv' st' i = if i = o then u else dcell dv pv kv st i) :
    (dcells dv pv kv st).set o u = dcells dv' pv' kv' st' := by
  apply List.ext_getElem?
  intro i
  by_cases hi : i < 29
  · rw [dcells_get hi, h i hi]
    by_cases ho : i = o
    · subst ho
      rw [List.getElem?_set_self (by simp [dcells]; exact hi), if_pos rfl]
    · rw [List.getElem?_set_ne (by omega), dcells_get hi, if_neg ho]
  · rw [List.getElem?_eq_none (by simp [dcells]; omega), List.getElem?_eq_none (by simp [dcells]; omega)]

structure DRep (w : World) (b : Nat) (own : Nat → Option Nat) (dv : Nat → Value) (pv kv : Value) (st : DSt) : Prop where
  blk : Blk w b (dcells dv pv kv st) 57
  dur : ∀ f, f < 12 → Row w 5 1 (dv f) (own f) (st.dur f).length (bytesV (st.dur f))
  pend : Row w 60 3 pv (own 12) st.pend.length (pendV st.pend)
  keep : Row w 3 1 kv (own 13) st.keep.length (intsV st.keep)
  apart : ∀ i j k, i < 14 → j < 14 → own i = some k → own j = some k → i = j
  notb : ∀ i, i < 14 → own i ≠ some b

/-- A disk at block b, its memory among D. -/
def Disk (w : World) (b : Nat) (D : Nat → Prop) (st : DSt) : Prop :=
  ∃ own dv pv kv, DRep w b own dv pv kv st ∧ D b ∧ ∀ i k, i < 14 → own i = some k → D k

section
variable {w w' : World} {b : Nat} {own : Nat → Option Nat} {dv : Nat → Value} {pv kv : Value} {st : DSt}

theorem DRep.lt (h : DRep w b own dv pv kv st) {i k : Nat} (hi : i < 14) (hk : own i = some k) : k < w.heap.size := by
  by_cases h1 : i < 12
  · exact (h.dur i h1).lt hk
  · rcases (show i = 12 ∨ i = 13 by omega) with rfl | rfl
    · exact h.pend.lt hk
    · exact h.keep.lt hk

theorem DRep.upd {S : Nat → Prop} (h : DRep w b own dv pv kv st) (u : Upd S w w') (hb : ¬ S b) (ho : ∀ i k, i < 14 → own i = some k → ¬ S k) : DRep w' b own dv pv kv st :=
  ⟨h.blk.upd u hb, fun f hf => (h.dur f hf).upd u fun k hk => ho f k (by omega) hk, h.pend.upd u fun k hk => ho 12 k (by omega) hk, h.keep.upd u fun k hk => ho 13 k (by omega) hk, h.apart, h.notb⟩

theorem DRep.drew (h : DRep w b own dv pv kv st) : DRep w.drew b own dv pv kv st := ⟨h.blk, h.dur, h.pend, h.keep, h.apart, h.notb⟩

theorem DRep.cell (h : DRep w b own dv pv kv st) {o : Nat} (ho : o < 29) : w.cell? ⟨b, o, none⟩ = some (dcell dv pv kv st o) := h.blk.cell_of (dcells_get ho)
theorem DRep.froz (h : DRep w b own dv pv kv st) {o : Nat} (ho : o < 29) : w.frozen? ⟨b, o, none⟩ = false := h.blk.frozen (by simp [dcells]; exact ho)
theorem DRep.cdur (h : DRep w b own dv pv kv st) {f : Nat} (hf : f < 12) : w.cell? ⟨b, f * 2, none⟩ = some (dv f) := by
  rw [h.cell (by omega)]; simp [dcell, show f * 2 < 24 by omega]
theorem DRep.csiz (h : DRep w b own dv pv kv st) {f : Nat} (hf : f < 12) : w.cell? ⟨b, f * 2 + 1, none⟩ = some (.int .i64 (st.siz f)) := by
  rw [h.cell (by omega)]; simp only [dcell, show f * 2 + 1 < 24 by omega, if_true, show (f * 2 + 1) % 2 = 1 by omega, show (f * 2 + 1) / 2 = f by omega]; rfl
theorem DRep.cpend (h : DRep w b own dv pv kv st) : w.cell? ⟨b, 24, none⟩ = some pv := h.cell (by omega)
theorem DRep.cdown (h : DRep w b own dv pv kv st) : w.cell? ⟨b, 25, none⟩ = some (.bool st.down) := h.cell (by omega)
theorem DRep.clost (h : DRep w b own dv pv kv st) : w.cell? ⟨b, 26, none⟩ = some (.int .i64 st.lost) := h.cell (by omega)
theorem DRep.carmed (h : DRep w b own dv pv kv st) : w.cell? ⟨b, 27, none⟩ = some (.int .i64 st.armed) := h.cell (by omega)
theorem DRep.ckeep (h : DRep w b own dv pv kv st) : w.cell? ⟨b, 28, none⟩ = some kv := h.cell (by omega)

theorem heap_setCell_other (w : World) (b o : Nat) (u : Value) {k : Nat} (h : k ≠ b) : (w.setCell ⟨b, o, none⟩ u).heap[k]? = w.heap[k]? := Below.heap_setCell w ⟨b, o, none⟩ u k h

/-- A store into the disk's own block, its slices as they were. -/
theorem DRep.store (h : DRep w b own dv pv kv st) {o : Nat} {u : Value} {st' : DSt} (hc : ∀ i, i < 29 → dcell dv pv kv st' i = if i = o then u else dcell dv pv kv st i)
    (h1 : st'.dur = st.dur) (h2 : st'.pend = st.pend) (h3 : st'.keep = st.keep) : DRep (w.setCell ⟨b, o, none⟩ u) b own dv pv kv st' := by
  refine ⟨dcells_set hc ▸ h.blk.set o u, fun f hf => ?_, ?_, ?_, h.apart, h.notb⟩
  · rw [h1]; exact (h.dur f hf).of_heap fun k hk => heap_setCell_other w b o u (fun e => h.notb f (by omega) (e ▸ hk))
  · rw [h2]; exact h.pend.of_heap fun k hk => heap_setCell_other w b o u (fun e => h.notb 12 (by omega) (e ▸ hk))
  · rw [h3]; exact h.keep.of_heap fun k hk => heap_setCell_other w b o u (fun e => h.notb 13 (by omega) (e ▸ hk))

theorem DRep.setDown (h : DRep w b own dv pv kv st) (x : Bool) : DRep (w.setCell ⟨b, 25, none⟩ (.bool x)) b own dv pv kv { st with down := x } :=
  h.store (fun i hi => by
    by_cases e : i = 25
    · subst e; rfl
    · rw [if_neg e]; simp only [dcell, e, if_false]) rfl rfl rfl

theorem DRep.setLost (h : DRep w b own dv pv kv st) (x : Nat) : DRep (w.setCell ⟨b, 26, none⟩ (.int .i64 x)) b own dv pv kv { st with lost := x } :=
  h.store (fun i hi => by
    by_cases e : i = 26
    · subst e; rfl
    · rw [if_neg e]; simp only [dcell, e, if_false]) rfl rfl rfl

theorem DRep.setArmed (h : DRep w b own dv pv kv st) (x : Nat) : DRep (w.setCell ⟨b, 27, none⟩ (.int .i64 x)) b own dv pv kv { st with armed := x } :=
  h.store (fun i hi => by
    by_cases e : i = 27
    · subst e; rfl
    · rw [if_neg e]; simp only [dcell, e, if_false]) rfl rfl rfl

theorem DRep.setSiz (h : DRep w b own dv pv kv st) {f : Nat} (hf : f < 12) (x : Nat) : DRep (w.setCell ⟨b, f * 2 + 1, none⟩ (.int .i64 x)) b own dv pv kv { st with siz := up st.siz f x } :=
  h.store (fun i hi => by
    by_cases e : i = f * 2 + 1
    · subst e
      rw [if_pos rfl]
      simp only [dcell, show f * 2 + 1 < 24 by omega, if_true, show (f * 2 + 1) % 2 = 1 by omega, show (f * 2 + 1) / 2 = f by omega, up_same]; rfl
    · rw [if_neg e]
      unfold dcell
      split
      · split
        · rfl
        · rw [show ({ st with siz := up st.siz f x } : DSt).siz (i / 2) = st.siz (i / 2) from up_other _ _ (by omega)]
      · rfl) rfl rfl rfl

/-- A slice of the disk's, number i, is replaced: by one in its own block, in a new block, or by nil. -/
theorem DRep.apart_up (h : DRep w b own dv pv kv st) {i : Nat} (hi : i < 14) {g : Option Nat} (hg : ∀ k, g = some k → own i = some k ∨ w.heap.size ≤ k) :
    (∀ a c k, a < 14 → c < 14 → up own i g a = some k → up own i g c = some k → a = c) ∧ (∀ a, a < 14 → up own i g a ≠ some b) := by
  have key : ∀ c k, c < 14 → c ≠ i → own c = some k → g ≠ some k := by
    intro c k hc hne hk hgk
    rcases hg k hgk with h1 | h1
    · exact hne (h.apart c i k hc hi hk h1)
    · have := h.lt hc hk; omega
  refine ⟨fun a c k ha hc h1 h2 => ?_, fun a ha h1 => ?_⟩
  · by_cases ea : a = i
    · by_cases ec : c = i
      · omega
      · rw [ea, up_same] at h1; rw [up_other _ _ ec] at h2; exact absurd h1 (key c k hc ec h2)
    · by_cases ec : c = i
      · rw [up_other _ _ ea] at h1; rw [ec, up_same] at h2; exact absurd h2 (key a k ha ea h1)
      · rw [up_other _ _ ea] at h1; rw [up_other _ _ ec] at h2; exact h.apart a c k ha hc h1 h2
  · by_cases ea : a = i
    · rw [ea, up_same] at h1
      rcases hg b h1 with h2 | h2
      · exact h.notb i hi h2
      · have := h.blk.lt; omega
    · rw [up_other _ _ ea] at h1; exact h.notb a ha h1

theorem dcell_dur {dv : Nat → Value} {pv kv : Value} {st : DSt} {f : Nat} (hf : f < 12) (v : Value) (l : List UInt8) (i : Nat) (hi : i < 29) :
    dcell (up dv f v) pv kv { st with dur := up st.dur f l } i = if i = f * 2 then v else dcell dv pv kv st i := by
  by_cases e : i = f * 2
  · subst e
    rw [if_pos rfl]
    simp [dcell, show f * 2 < 24 by omega, up_same]
  · rw [if_neg e]
    unfold dcell
    split
    · split
      · exact up_other _ _ (by omega)
      · rfl
    · rfl

theorem DRep.setDur (h : DRep w b own dv pv kv st) {f : Nat} (hf : f < 12) {S : Nat → Prop} (u : Upd S w w') (hS : ∀ k, S k → own f = some k) {v : Value} {g : Option Nat} {l : List UInt8} (hrow : Row w' 5 1 v g l.length (bytesV l)) (hg : ∀ k, g = some k → own f = some k ∨ w.heap.size ≤ k) :
    DRep (w'.setCell ⟨b, f * 2, none⟩ v) b (up own f g) (up dv f v) pv kv { st with dur := up st.dur f l } := by
  have hb : ∀ {k}, S k → k ≠ b := fun hk e => h.notb f (by omega) (e ▸ hS _ hk)
  have hblk := h.blk.upd u (fun hk => hb hk rfl)
  obtain ⟨a1, a2⟩ := h.apart_up (i := f) (by omega) hg
  have hk' : ∀ j, j < 14 → j ≠ f → ∀ k, own j = some k → ¬ S k := fun j hj hne k hk hs => hne (h.apart j f k hj (by omega) hk (hS k hs))
  refine ⟨dcells_set (fun i hi => dcell_dur hf v l i hi) ▸ hblk.set _ _, fun j hj => ?_, ?_, ?_, a1, a2⟩
  · by_cases e : j = f
    · subst e
      rw [up_same, up_same, show ({ st with dur := up st.dur j l } : DSt).dur j = l from up_same _ _ _]
      refine hrow.of_heap fun k hk => heap_setCell_other w' b _ v (fun e => ?_)
      exact a2 j (by omega) (by rw [up_same, hk, e])
    · rw [up_other _ _ e, up_other _ _ e, show ({ st with dur := up st.dur f l } : DSt).dur j = st.dur j from up_other _ _ e]
      exact ((h.dur j hj).upd u (hk' j (by omega) e)).of_heap fun k hk => heap_setCell_other w' b _ v (fun e => h.notb j (by omega) (e ▸ hk))
  · rw [up_other _ _ (by omega)]
    exact (h.pend.upd u (hk' 12 (by omega) (by omega))).of_heap fun k hk => heap_setCell_other w' b _ v (fun e => h.notb 12 (by omega) (e ▸ hk))
  · rw [up_other _ _ (by omega)]
    exact (h.keep.upd u (hk' 13 (by omega) (by omega))).of_heap fun k hk => heap_setCell_other w' b _ v (fun e => h.notb 13 (by omega) (e ▸ hk))

theorem DRep.setPend (h : DRep w b own dv pv kv st) {S : Nat → Prop} (u : Upd S w w') (hS : ∀ k, S k → own 12 = some k) {v : Value} {g : Option Nat} {l : List Pc} (hrow : Row w' 60 3 v g l.length (pendV l)) (hg : ∀ k, g = some k → own 12 = some k ∨ w.heap.size ≤ k) :
    DRep (w'.setCell ⟨b, 24, none⟩ v) b (up own 12 g) dv v kv { st with pend := l } := by
  have hb : ∀ {k}, S k → k ≠ b := fun hk e => h.notb 12 (by omega) (e ▸ hS _ hk)
  have hblk := h.blk.upd u (fun hk => hb hk rfl)
  obtain ⟨a1, a2⟩ := h.apart_up (i := 12) (by omega) hg
  have hk' : ∀ j, j < 14 → j ≠ 12 → ∀ k, own j = some k → ¬ S k := fun j hj hne k hk hs => hne (h.apart j 12 k hj (by omega) hk (hS k hs))
  refine ⟨dcells_set (fun i hi => ?_) ▸ hblk.set _ _, fun j hj => ?_, ?_, ?_, a1, a2⟩
  · by_cases e : i = 24
    · subst e; rfl
    · rw [if_neg e]; simp only [dcell, e, if_false]
  · rw [up_other _ _ (by omega)]
    exact ((h.dur j hj).upd u (hk' j (by omega) (by omega))).of_heap fun k hk => heap_setCell_other w' b _ v (fun e => h.notb j (by omega) (e ▸ hk))
  · rw [up_same]
    refine hrow.of_heap fun k hk => heap_setCell_other w' b _ v (fun e => ?_)
    exact a2 12 (by omega) (by rw [up_same, hk, e])
  · rw [up_other _ _ (by omega)]
    exact (h.keep.upd u (hk' 13 (by omega) (by omega))).of_heap fun k hk => heap_setCell_other w' b _ v (fun e => h.notb 13 (by omega) (e ▸ hk))

theorem DRep.setKeep (h : DRep w b own dv pv kv st) {S : Nat → Prop} (u : Upd S w w') (hS : ∀ k, S k → own 13 = some k) {v : Value} {g : Option Nat} {l : List Int} (hrow : Row w' 3 1 v g l.length (intsV l)) (hg : ∀ k, g = some k → own 13 = some k ∨ w.heap.size ≤ k) :
    DRep (w'.setCell ⟨b, 28, none⟩ v) b (up own 13 g) dv pv v { st with keep := l } := by
  have hb : ∀ {k}, S k → k ≠ b := fun hk e => h.notb 13 (by omega) (e ▸ hS _ hk)
  have hblk := h.blk.upd u (fun hk => hb hk rfl)
  obtain ⟨a1, a2⟩ := h.apart_up (i := 13) (by omega) hg
  have hk' : ∀ j, j < 14 → j ≠ 13 → ∀ k, own j = some k → ¬ S k := fun j hj hne k hk hs => hne (h.apart j 13 k hj (by omega) hk (hS k hs))
  refine ⟨dcells_set (fun i hi => ?_) ▸ hblk.set _ _, fun j hj => ?_, ?_, ?_, a1, a2⟩
  · by_cases e : i = 28
    · subst e; rfl
    · rw [if_neg e]; unfold dcell; split
      · rfl
      · split
        · rfl
        · split
          · rfl
          · split
            · rfl
            · split
              · rfl
              · omega
  · rw [up_other _ _ (by omega)]
    exact ((h.dur j hj).upd u (hk' j (by omega) (by omega))).of_heap fun k hk => heap_setCell_other w' b _ v (fun e => h.notb j (by omega) (e ▸ hk))
  · rw [up_other _ _ (by omega)]
    exact (h.pend.upd u (hk' 12 (by omega) (by omega))).of_heap fun k hk => heap_setCell_other w' b _ v (fun e => h.notb 12 (by omega) (e ▸ hk))
  · rw [up_same]
    refine hrow.of_heap fun k hk => heap_setCell_other w' b _ v (fun e => ?_)
    exact a2 13 (by omega) (by rw [up_same, hk, e])

end

theorem Disk.upd {w w' : World} {b : Nat} {D S : Nat → Prop} {st : DSt} (h : Disk w b D st) (u : Upd S w w') (hd : ∀ k, D k → k < w.heap.size → ¬ S k) : Disk w' b D st := by
  obtain ⟨own, dv, pv, kv, hr, hb, ho⟩ := h
  exact ⟨own, dv, pv, kv, hr.upd u (hd b hb hr.blk.lt) (fun i k hi hk => hd k (ho i k hi hk) (hr.lt hi hk)), hb, ho⟩

theorem Disk.mono {w : World} {b : Nat} {D D' : Nat → Prop} {st : DSt} (h : Disk w b D st) (hd : ∀ k, k < w.heap.size → D k → D' k) : Disk w b D' st := by
  obtain ⟨own, dv, pv, kv, hr, hb, ho⟩ := h
  exact ⟨own, dv, pv, kv, hr, hd b hr.blk.lt hb, fun i k hi hk => hd k (hr.lt hi hk) (ho i k hi hk)⟩

/-- What a step of a disk's does to the world: only its own memory is turned, and it owns some of that and new memory. -/
def After (D : Nat → Prop) (w : World) : Nat → Prop := fun k => D k ∨ w.heap.size ≤ k

end Go.Proofs.Ythfnnkfdpnkodaa
