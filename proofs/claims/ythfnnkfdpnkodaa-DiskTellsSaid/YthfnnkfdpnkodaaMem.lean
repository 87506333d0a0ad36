/- Memory of a call's own: blocks known whole, slices that own a block, what an operation may turn. No program in sight. -/
import Derived.Deep.AppendSrc
import Derived.Laws.CopyOwn
import Derived.Laws.MakeOwn
import Derived.WalkKit
namespace Go.Proofs.Ythfnnkfdpnkodaa

/-- The world w' is w but for the blocks in S and new blocks. -/
structure Upd (S : Nat → Prop) (w w' : World) : Prop where
  os : w'.os = w.os
  tape : w'.tape = w.tape
  output : w'.output = w.output
  size : w.heap.size ≤ w'.heap.size
  block : ∀ k, k < w.heap.size → ¬ S k → w'.heap[k]? = w.heap[k]?

theorem Upd.refl (S : Nat → Prop) (w : World) : Upd S w w := ⟨rfl, rfl, rfl, Nat.le_refl _, fun _ _ _ => rfl⟩

theorem Upd.trans {S S' : Nat → Prop} {a b c : World} (h : Upd S a b) (k : Upd S' b c) (hs : ∀ k, k < a.heap.size → S' k → S k) : Upd S a c :=
  ⟨k.os.trans h.os, k.tape.trans h.tape, k.output.trans h.output, Nat.le_trans h.size k.size, fun i hi hn =>
    (k.block i (Nat.lt_of_lt_of_le hi h.size) (fun hh => hn (hs i hi hh))).trans (h.block i hi hn)⟩

theorem Upd.mono {S S' : Nat → Prop} {a b : World} (h : Upd S a b) (hs : ∀ k, k < a.heap.size → S k → S' k) : Upd S' a b :=
  ⟨h.os, h.tape, h.output, h.size, fun i hi hn => h.block i hi (fun hh => hn (hs i hi hh))⟩

theorem Upd.drew {S : Nat → Prop} {a w : World} (h : Upd S a w) : Upd S a w.drew := ⟨h.os, h.tape, h.output, h.size, h.block⟩

theorem Upd.alloc {S : Nat → Prop} {a w : World} (h : Upd S a w) (o : Obj) : Upd S a (w.alloc o) :=
  ⟨h.os, h.tape, h.output, by have := h.size; simp; omega, fun k hk hn => (heap_alloc_old w o (Nat.lt_of_lt_of_le hk h.size)).trans (h.block k hk hn)⟩

theorem Upd.setCell {S : Nat → Prop} {a w : World} (h : Upd S a w) {p : Addr} (hp : p.block < a.heap.size → S p.block) (u : Value) : Upd S a (w.setCell p u) :=
  ⟨h.os, h.tape, h.output, by have := h.size; simpa [World.setCell] using this, fun k hk hn => by
    have hne : k ≠ p.block := fun e => hn (e ▸ hp (e ▸ hk))
    rw [RowKit.Below.heap_setCell _ _ _ _ hne]; exact h.block k hk hn⟩

theorem Upd.below {S : Nat → Prop} {B : Nat} {w w' : World} (h : Upd S w w') (hB : B ≤ w.heap.size) (hS : ∀ k, S k → B ≤ k) : RowKit.Below B w w' :=
  ⟨h.os, h.tape, h.output, h.size, fun k hk => h.block k (by omega) (fun hh => by have := hS k hh; omega)⟩

theorem Upd.of_below {S : Nat → Prop} {w w' : World} (h : RowKit.Below w.heap.size w w') : Upd S w w' :=
  ⟨h.os, h.tape, h.output, h.size, fun k hk _ => h.block k hk⟩

/-- Block b holds the cells cur, of elements of type e; none of them is frozen. -/
def Blk (w : World) (b : Nat) (cur : List Value) (e : TypeId) : Prop := ∃ fz, w.heap[b]? = some (.cells cur.toArray e fz) ∧ (fz.2 ≤ fz.1 ∨ cur.length ≤ fz.1)

section blk
variable {w w' : World} {b : Nat} {cur : List Value} {e : TypeId}

theorem Blk.lt (h : Blk w b cur e) : b < w.heap.size := by
  obtain ⟨fz, h, _⟩ := h
  exact (Array.getElem?_eq_some_iff.1 h).1

theorem Blk.cell (h : Blk w b cur e) (o : Nat) : w.cell? ⟨b, o, none⟩ = cur[o]? := by
  obtain ⟨fz, h, _⟩ := h
  simp [World.cell?, h]

theorem Blk.cell_of (h : Blk w b cur e) {o : Nat} {v : Value} (hv : cur[o]? = some v) : w.cell? ⟨b, o, none⟩ = some v := by rw [h.cell]; exact hv

theorem Blk.frozen (h : Blk w b cur e) {o : Nat} (ho : o < cur.length) : w.frozen? ⟨b, o, none⟩ = false := by
  obtain ⟨fz, h, hf⟩ := h
  simp only [World.frozen?, h, Bool.and_eq_false_iff, decide_eq_false_iff_not]
  omega

theorem Blk.of_heap (h : Blk w b cur e) (hh : w'.heap[b]? = w.heap[b]?) : Blk w' b cur e := by
  obtain ⟨fz, h, hf⟩ := h
  exact ⟨fz, hh.trans h, hf⟩

theorem Blk.upd {S : Nat → Prop} (h : Blk w b cur e) (u : Upd S w w') (hn : ¬ S b) : Blk w' b cur e := h.of_heap (u.block b h.lt hn)

theorem Blk.drew (h : Blk w b cur e) : Blk w.drew b cur e := h

theorem Blk.set (h : Blk w b cur e) (o : Nat) (u : Value) : Blk (w.setCell ⟨b, o, none⟩ u) b (cur.set o u) e := by
  obtain ⟨fz, h, hf⟩ := h
  refine ⟨fz, ?_, by simpa using hf⟩
  simp [World.setCell, Array.getElem?_modify, h]

theorem Blk.alloc (h : Blk w b cur e) (o : Obj) : Blk (w.alloc o) b cur e := h.of_heap (heap_alloc_old w o h.lt)

theorem Blk.new (w : World) (cur : List Value) (e : TypeId) : Blk (w.alloc (.cells cur.toArray e)) w.heap.size cur e := ⟨(0, 0), heap_alloc_new w _, .inl (Nat.le_refl _)⟩

theorem Blk.newA (w : World) (cur : Array Value) (e : TypeId) : Blk (w.alloc (.cells cur e)) w.heap.size cur.toList e := ⟨(0, 0), by rw [Array.toArray_toList]; exact heap_alloc_new w _, .inl (Nat.le_refl _)⟩

theorem Blk.det {cur' : List Value} {e' : TypeId} (h : Blk w b cur e) (h' : Blk w b cur' e') : cur = cur' := by
  obtain ⟨_, h, _⟩ := h
  obtain ⟨_, h', _⟩ := h'
  rw [h] at h'
  simp only [Option.some.injEq, Obj.cells.injEq] at h'
  simpa using congrArg Array.toList h'.1

theorem splice_get {α : Type} (L : List α) (o : Nat) (cs : List α) (ho : o + cs.length ≤ L.length) (i : Nat) : (splice L o cs)[i]? = if o ≤ i ∧ i < o + cs.length then cs[i - o]? else L[i]? := by
  unfold splice
  by_cases h1 : i < o
  · rw [List.getElem?_append_left (by simp; omega), List.getElem?_take_of_lt h1, if_neg (by omega)]
  · rw [List.getElem?_append_right (by simp; omega), List.length_take, Nat.min_eq_left (by omega)]
    by_cases h2 : i < o + cs.length
    · rw [List.getElem?_append_left (by omega), if_pos (by omega)]
    · rw [List.getElem?_append_right (by omega), List.getElem?_drop, if_neg (by omega)]
      congr 1; omega

theorem set_splice (cur : List Value) (o : Nat) (v : Value) (vs : List Value) (ho : o + (v :: vs).length ≤ cur.length) : splice (cur.set o v) (o + 1) vs = splice cur o (v :: vs) := by
  simp only [List.length_cons] at ho
  apply List.ext_getElem?
  intro i
  rw [splice_get _ _ _ (by simp; omega), splice_get _ _ _ (by simp; omega)]
  simp only [List.length_cons]
  by_cases h1 : i = o
  · subst h1
    rw [if_neg (by omega), if_pos (by omega), List.getElem?_set_self (by omega)]; simp
  · rw [List.getElem?_set_ne (by omega)]
    by_cases h2 : o ≤ i ∧ i < o + (vs.length + 1)
    · rw [if_pos (by omega), if_pos h2, show i - o = (i - (o + 1)) + 1 by omega]; rfl
    · rw [if_neg (by omega), if_neg h2]

theorem Blk.setCells : ∀ (vs : List Value) (o : Nat) {w : World} {cur : List Value}, Blk w b cur e → o + vs.length ≤ cur.length → Blk (w.setCells b o vs) b (splice cur o vs) e
  | [], o, w, cur, h, _ => by simpa [World.setCells, splice] using h
  | v :: vs, o, w, cur, h, hl => by
    rw [← set_splice cur o v vs hl]
    exact Blk.setCells vs (o + 1) (h.set o v) (by simp at hl ⊢; omega)

end blk

theorem Upd.setCells {S : Nat → Prop} {a : World} {b : Nat} : ∀ (vs : List Value) (o : Nat) {w : World}, Upd S a w → (b < a.heap.size → S b) → Upd S a (w.setCells b o vs)
  | [], _, _, h, _ => h
  | v :: vs, o, _, h, hb => Upd.setCells vs (o + 1) (h.setCell (p := ⟨b, o, none⟩) hb v) hb

/-- v is a slice of n elements of type e, sz cells each, whose cells are xs; it stands at the head of a block of its own, g (none: nil). -/
def Row (w : World) (e : TypeId) (sz : Nat) (v : Value) (g : Option Nat) (n : Nat) (xs : List Value) : Prop :=
  xs.length = n * sz ∧ ((v = .slice none 0 0 ∧ g = none ∧ n = 0) ∨
    ∃ b cap cur, v = .slice (some ⟨b, 0, none⟩) n cap ∧ g = some b ∧ Blk w b cur e ∧ n ≤ cap ∧ cap ≤ maxLen ∧ cur.length = cap * sz ∧ cur.take (n * sz) = xs)

section row
variable {w w' : World} {e : TypeId} {sz : Nat} {v : Value} {g : Option Nat} {n : Nat} {xs : List Value}

theorem Row.empty (w : World) (e : TypeId) (sz : Nat) : Row w e sz (.slice none 0 0) none 0 [] := ⟨by simp, .inl ⟨rfl, rfl, rfl⟩⟩

theorem Row.lt (h : Row w e sz v g n xs) {b : Nat} (hb : g = some b) : b < w.heap.size := by
  rcases h.2 with ⟨_, rfl, _⟩ | ⟨b', _, _, _, rfl, hB, _⟩
  · cases hb
  · cases hb; exact hB.lt

theorem Row.of_heap (h : Row w e sz v g n xs) (hh : ∀ b, g = some b → w'.heap[b]? = w.heap[b]?) : Row w' e sz v g n xs := by
  refine ⟨h.1, ?_⟩
  rcases h.2 with h | ⟨b, cap, cur, hv, hg, hB, r⟩
  · exact .inl h
  · exact .inr ⟨b, cap, cur, hv, hg, hB.of_heap (hh b hg), r⟩

theorem Row.upd {S : Nat → Prop} (h : Row w e sz v g n xs) (u : Upd S w w') (hn : ∀ b, g = some b → ¬ S b) : Row w' e sz v g n xs :=
  h.of_heap fun b hb => u.block b (h.lt hb) (hn b hb)

theorem Row.drew (h : Row w e sz v g n xs) : Row w.drew e sz v g n xs := h

theorem Row.form (h : Row w e sz v g n xs) : ∃ a cap, v = .slice a n cap ∧ n ≤ cap ∧ cap ≤ maxLen := by
  rcases h.2 with ⟨rfl, _, rfl⟩ | ⟨b, cap, cur, rfl, _, _, h1, h2, _⟩
  · exact ⟨none, 0, rfl, Nat.le_refl _, Nat.zero_le _⟩
  · exact ⟨_, _, rfl, h1, h2⟩

theorem Row.pos (h : Row w e sz v g n xs) (hn : 0 < n) : ∃ b cap, v = .slice (some ⟨b, 0, none⟩) n cap ∧ g = some b ∧ n ≤ cap ∧ cap ≤ maxLen := by
  rcases h.2 with ⟨_, _, h0⟩ | ⟨b, cap, cur, rfl, hg, _, h1, h2, _⟩
  · omega
  · exact ⟨b, cap, rfl, hg, h1, h2⟩

theorem Row.cell (h : Row w e sz v g n xs) {b : Nat} (hg : g = some b) {j : Nat} {u : Value} (hu : xs[j]? = some u) : w.cell? ⟨b, j, none⟩ = some u := by
  rcases h.2 with ⟨_, h0, _⟩ | ⟨b', cap, cur, _, hg', hB, _, _, _, ht⟩
  · rw [h0] at hg; cases hg
  · rw [hg'] at hg; cases hg
    rw [hB.cell, ← hu, ← ht]
    have hj : j < (cur.take (n * sz)).length := by rw [ht]; exact (List.getElem?_eq_some_iff.1 hu).1
    simp only [List.length_take] at hj
    rw [List.getElem?_take_of_lt (by omega)]

/-- Reading the elements: what appending it takes. -/
theorem Row.src {P : Program} {tx e' : TypeId} (hk : P.underlying tx = some (.slice e')) (h : Row w e sz v g n xs) (h1 : ∀ u ∈ xs, u.oneCell' = true) : Src P sz tx v n xs w := by
  rcases h.2 with ⟨rfl, rfl, rfl⟩ | ⟨b, cap, cur, rfl, hg, hB, _⟩
  · have hx : xs = [] := List.eq_nil_of_length_eq_zero (by simpa using h.1)
    subst hx
    exact Src.ofNil w hk 0
  · exact Src.ofSlice w hk ⟨b, 0, none⟩ n cap xs h.1 (fun j u hj => by rw [Addr.add_lit, Nat.zero_add]; exact h.cell hg hj) h1

theorem Row.take (h : Row w e sz v g n xs) {k : Nat} (hk : k ≤ n) {a : Option Addr} {cap : Nat} (hv : v = .slice a n cap) : Row w e sz (.slice a k cap) g k (xs.take (k * sz)) := by
  have hm := Nat.mul_le_mul_right sz hk
  refine ⟨by rw [List.length_take, h.1]; omega, ?_⟩
  rcases h.2 with ⟨rfl, h1, rfl⟩ | ⟨b, cap', cur, h0, hg, hB, h1, h2, h3, h4⟩
  · cases hv; exact .inl ⟨by rw [Nat.le_zero.1 hk], h1, Nat.le_zero.1 hk⟩
  · rw [h0] at hv; cases hv
    exact .inr ⟨b, _, cur, rfl, hg, hB, by omega, h2, h3, by rw [← h4, List.take_take]; congr 1; omega⟩

theorem Row.set (h : Row w e sz v g n xs) {b : Nat} (hg : g = some b) (j : Nat) (u : Value) : Row (w.setCell ⟨b, j, none⟩ u) e sz v g n (xs.set j u) := by
  refine ⟨by simpa using h.1, ?_⟩
  rcases h.2 with ⟨_, h0, _⟩ | ⟨b', cap, cur, h0, hg', hB, h1, h2, h3, h4⟩
  · rw [h0] at hg; cases hg
  · rw [hg'] at hg; cases hg
    exact .inr ⟨_, cap, _, h0, hg', hB.set j u, h1, h2, by simpa using h3, by rw [← h4, List.take_set]⟩

theorem Row.frozen (h : Row w e sz v g n xs) {b : Nat} (hg : g = some b) {j : Nat} (hj : j < xs.length) : w.frozen? ⟨b, j, none⟩ = false := by
  rcases h.2 with ⟨_, h0, _⟩ | ⟨b', cap, cur, h0, hg', hB, h1, h2, h3, h4⟩
  · rw [h0] at hg; cases hg
  · rw [hg'] at hg; cases hg
    exact hB.frozen (by have := congrArg List.length h4; simp at this; omega)

theorem Row.made (w : World) (e : TypeId) (sz : Nat) (z : Array Value) (n c : Nat) (hn : n ≤ c) (hc : c ≤ maxLen) :
    Row (w.alloc (.cells (madeCells z (c * sz)) e)) e sz (.slice (some ⟨w.heap.size, 0, none⟩) n c) (some w.heap.size) n ((madeCells z (c * sz)).toList.take (n * sz)) := by
  have hm := Nat.mul_le_mul_right sz hn
  have hsz := size_madeCells z (c * sz)
  refine ⟨by rw [List.length_take, Array.length_toList, hsz]; omega, .inr ⟨_, c, _, rfl, rfl, Blk.newA w _ e, hn, hc, by rw [Array.length_toList, hsz], rfl⟩⟩

theorem Row.lit (w : World) (e : TypeId) (sz n : Nat) (cur : Array Value) (hc : n ≤ maxLen) (hl : cur.size = n * sz) :
    Row (w.alloc (.cells cur e)) e sz (.slice (some ⟨w.heap.size, 0, none⟩) n n) (some w.heap.size) n cur.toList :=
  ⟨by simpa using hl, .inr ⟨_, n, _, rfl, rfl, Blk.newA w cur e, Nat.le_refl _, hc, by simpa using hl, by rw [List.take_of_length_le (by simp [hl])]⟩⟩

end row

theorem data_len (s : ByteArray) : s.data.toList.length = s.size := by rw [Array.length_toList]; rfl
theorem str_some {s : ByteArray} (h : s.size ≠ 0) : s.toList.isEmpty = false := by
  rw [ByteArray.toList_eq]
  cases hl : s.data.toList with
  | nil => exact absurd (by rw [← data_len, hl]; rfl) h
  | cons => rfl
theorem str_none {s : ByteArray} (h : s.size = 0) : s.toList = [] := by
  rw [ByteArray.toList_eq]
  exact List.eq_nil_of_length_eq_zero (by rw [data_len]; exact h)

section append
variable {P : Program} {w : World}

theorem run_append_none (t tx ty e : TypeId) (i : TypeInfo) (ht : P.underlying t = some (.slice e)) (hi : P.info? e = some i) (cap : Nat) (x : Value) (news : List Value) (hs : Src P i.size tx x 0 news w) :
    (Builtin.append_ #[t, tx] ty #[.slice none 0 cap, x]).run P w = .ok (.slice none 0 cap) w := by
  rcases hs.kind with ⟨e', hk⟩ | hk <;> simp [Builtin.append_, run_underlying ht, run_underlying hk, sizeOf, typeInfo, hi, hs.len, hs.cells]

theorem firstCells_row {e : TypeId} {sz : Nat} {v : Value} {g : Option Nat} {n : Nat} {xs : List Value} (h : Row w e sz v g n xs) : (Builtin.firstCells sz n v).run P w = .ok xs.toArray w := by
  rcases h.2 with ⟨rfl, rfl, rfl⟩ | ⟨b, cap, cur, rfl, hg, hB, _⟩
  · have hx : xs = [] := List.eq_nil_of_length_eq_zero (by simpa using h.1)
    subst hx
    exact run_firstCells_none w sz 0 0 0
  · exact run_firstCells_some w sz n ⟨b, 0, none⟩ n cap xs h.1 (fun j u hj => by rw [Addr.add_lit, Nat.zero_add]; exact h.cell hg hj)

theorem run_append_row (t tx ty e : TypeId) (i : TypeInfo) (z : Value) (sz bytes : Nat) (ht : P.underlying t = some (.slice e)) (hi : P.info? e = some i) (hz : i.zero = some z) (hsize : i.size = sz) (hby : i.bytes = bytes) (hzs : z.cells.size = sz)
    {v : Value} {g : Option Nat} {n : Nat} {xs : List Value} (hrow : Row w e sz v g n xs) {x : Value} {m : Nat} {news : List Value} (hs : Src P sz tx x m news w)
    (h63 : n + m ≤ maxLen) (hbytes : (n + m) * bytes ≤ 140737488355328) :
    ∃ v' w' g', (Builtin.append_ #[t, tx] ty #[v, x]).run P w = .ok v' w' ∧ Row w' e sz v' g' (n + m) (xs ++ news) ∧ (g' = g ∨ g' = some w.heap.size) ∧ Upd (fun k => g = some k) w w' := by
  subst hsize
  subst hby
  have hsmall : n + m ≤ 9223372036854775807 := by simp only [maxLen] at h63; omega
  have hlen : (xs ++ news).length = (n + m) * i.size := by rw [List.length_append, hrow.1, hs.newsLen, Nat.add_mul]
  have grown : ∀ (a : Option Addr) (old : Nat), v = .slice a n old → old < n + m → ∃ v' w' g', (Builtin.append_ #[t, tx] ty #[v, x]).run P w = .ok v' w' ∧ Row w' e i.size v' g' (n + m) (xs ++ news) ∧ (g' = g ∨ g' = some w.heap.size) ∧ Upd (fun k => g = some k) w w' := by
    intro a old hv ho
    have hold : (Builtin.firstCells i.size n (.slice a n old)).run P w.drew = .ok xs.toArray w.drew := hv ▸ firstCells_row hrow.drew
    have hr := run_append_grow_src (P := P) w t tx ty e i z ht hi hz a n old xs hold x m news hs ho (by omega) (growslice_fits ho hbytes)
    have hge := grownCap_ge w (n + m) old e
    have hcm : grownCap w (n + m) old e ≤ maxLen := grownCap_le_maxLen w (n + m) old e h63
    subst hv
    refine ⟨_, _, some w.heap.size, hr, ⟨hlen, .inr ⟨w.heap.size, _, _, rfl, rfl, Blk.newA w.drew _ e, hge, hcm, ?_, ?_⟩⟩, .inr rfl, ((Upd.refl _ _).drew).alloc _⟩
    · simp only [Array.toList_append, List.length_append, Array.length_toList, size_zeroCells, hzs]
      rw [← List.length_append, hlen, ← Nat.add_mul]
      congr 1
      omega
    · simp only [Array.toList_append]
      rw [List.take_append_of_le_length (by simp only [List.length_append] at hlen ⊢; omega), ← hlen, List.take_length]
  rcases hrow.2 with ⟨rfl, rfl, rfl⟩ | ⟨b, cap, cur, rfl, rfl, hB, hnc, hcm, hcs, htake⟩
  · have hx : xs = [] := List.eq_nil_of_length_eq_zero (by simpa using hrow.1)
    subst hx
    by_cases hm : m = 0
    · subst hm
      have hn : news = [] := List.eq_nil_of_length_eq_zero (by simpa using hs.newsLen)
      subst hn
      exact ⟨.slice none 0 0, w, none, run_append_none t tx ty e i ht hi 0 x [] hs, Row.empty w e i.size, .inl rfl, Upd.refl _ _⟩
    · exact grown none 0 rfl (by omega)
  · by_cases hroom : n + m ≤ cap
    · have hfit : n * i.size + news.length ≤ cur.length := by rw [hs.newsLen, hcs, ← Nat.add_mul]; exact Nat.mul_le_mul_right _ hroom
      have hr := run_append_room_src (P := P) w t tx ty e i ht hi b 0 n cap x m news hs hroom
        (fun j hj => by rw [hB.cell, Nat.zero_add]; simp; omega) (fun j hj => hB.frozen (by omega))
      simp only [Nat.zero_add] at hr
      refine ⟨_, _, some b, hr, ⟨hlen, .inr ⟨b, cap, _, rfl, rfl, hB.setCells news _ hfit, hroom, hcm, by rw [length_splice _ _ _ hfit]; exact hcs, ?_⟩⟩, .inl rfl, (Upd.refl _ _).setCells news _ (fun _ => rfl)⟩
      unfold splice
      rw [htake, ← List.append_assoc, ← hlen]
      exact List.take_left
    · exact grown _ cap rfl (by omega)

/-- 'append(b, make([]T, l)...)'. -/
theorem run_append_zeros (t tx ty e : TypeId) (k : IntKind) (hk : P.underlying tx = some (.int k)) (i : TypeInfo) (z : Value) (sz bytes : Nat) (ht : P.underlying t = some (.slice e)) (hi : P.info? e = some i) (hz : i.zero = some z) (hsize : i.size = sz) (hby : i.bytes = bytes) (hzs : z.cells.size = sz)
    (hz1 : ∀ u ∈ z.cells, u.oneCell' = true) (hsz : 0 < sz)
    {v : Value} {g : Option Nat} {n : Nat} {xs : List Value} (hrow : Row w e sz v g n xs) {kk : IntKind} {m : Nat} (hm0 : 0 < m)
    (h63 : n + m ≤ maxLen) (hbytes : (n + m) * bytes ≤ 140737488355328) :
    ∃ v' w' g', (Builtin.append_ #[t, tx] ty #[v, .int kk (m : Int)]).run P w = .ok v' w' ∧ Row w' e sz v' g' (n + m) (xs ++ (Builtin.zeroCells z.cells m).toList) ∧ (g' = g ∨ g' = some w.heap.size) ∧ Upd (fun k => g = some k) w w' := by
  subst hsize
  subst hby
  have hsmall : n + m ≤ 9223372036854775807 := by simp only [maxLen] at h63; omega
  have hnl : (Builtin.zeroCells z.cells m).toList.length = m * i.size := by simp [size_zeroCells, hzs]
  have hlen : (xs ++ (Builtin.zeroCells z.cells m).toList).length = (n + m) * i.size := by rw [List.length_append, hrow.1, hnl, Nat.add_mul]
  have hw : IntKind.i64.wrap (m : Int) = m := by rw [IntKind.wrap_i64]; omega
  have hbm : (m : Int) * i.bytes ≤ 281474976710656 := by
    have h1 : m * i.bytes ≤ (n + m) * i.bytes := Nat.mul_le_mul_right _ (by omega)
    have h2 : ((m * i.bytes : Nat) : Int) ≤ 281474976710656 := by omega
    rwa [Int.natCast_mul] at h2
  have hb1 : ¬ (281474976710656 < (m : Int) * i.bytes) := by omega
  have hmz : ¬ (m * i.size = 0) := by intro h; rcases Nat.mul_eq_zero.1 h with h | h <;> omega
  have hm0' : m ≠ 0 := by omega
  have hmem : ∀ u ∈ (Builtin.zeroCells z.cells m).toList, u.oneCell' = true := by
    intro u hu
    unfold Builtin.zeroCells at hu
    simp only [Array.toList_map, Array.toList_range, List.mem_map, List.mem_range] at hu
    obtain ⟨j, _, rfl⟩ := hu
    have hlt : j % z.cells.size < z.cells.size := Nat.mod_lt _ (by omega)
    rw [getElem!_pos z.cells _ hlt]
    exact hz1 _ (Array.getElem_mem hlt)
  have grown : ∀ (a : Option Addr) (old : Nat), v = .slice a n old → old < n + m → ∃ v' w' g', (Builtin.append_ #[t, tx] ty #[v, .int kk (m : Int)]).run P w = .ok v' w' ∧ Row w' e i.size v' g' (n + m) (xs ++ (Builtin.zeroCells z.cells m).toList) ∧ (g' = g ∨ g' = some w.heap.size) ∧ Upd (fun k => g = some k) w w' := by
    intro a old hv ho
    have hold : (Builtin.firstCells i.size n (.slice a n old)).run P w.drew = .ok xs.toArray w.drew := hv ▸ firstCells_row hrow.drew
    have hge := grownCap_ge w (n + m) old e
    have hcm : grownCap w (n + m) old e ≤ maxLen := grownCap_le_maxLen w (n + m) old e h63
    have hfit := growslice_fits ho hbytes
    have hn : ¬ (n + m ≤ old) := by omega
    have h63' : ¬ (9223372036854775807 < ((n : Int) + (m : Int))) := by omega
    have h48' : ¬ (281474976710656 < Builtin.nextslicecap (n + m) old * i.bytes) := by omega
    have hr : (Builtin.append_ #[t, tx] ty #[v, .int kk (m : Int)]).run P w = .ok (.slice (some ⟨w.heap.size, 0, none⟩) (n + m) (grownCap w (n + m) old e))
        (w.drew.alloc (.cells ((xs ++ (Builtin.zeroCells z.cells m).toList).toArray ++ Builtin.zeroCells z.cells (grownCap w (n + m) old e - (n + m))) e)) := by
      subst hv
      have hneg : ¬ ((m : Int) < 0) := by omega
      simp [Builtin.append_, run_underlying ht, run_underlying hk, sizeOf, typeInfo, zeroValue, hi, hz, asInt, asIntOf, hw, hb1, hmz, hn, h63', h48', Question.forced, hold, newRow, grownCap, hneg]
      congr 2
      apply Array.ext'
      simp [List.append_assoc]
    subst hv
    refine ⟨_, _, some w.heap.size, hr, ⟨hlen, .inr ⟨w.heap.size, _, _, rfl, rfl, Blk.newA w.drew _ e, hge, hcm, ?_, ?_⟩⟩, .inr rfl, ((Upd.refl _ _).drew).alloc _⟩
    · rw [Array.toList_append, List.length_append]
      simp only [Array.length_toList, size_zeroCells, hzs]
      rw [hlen, ← Nat.add_mul]
      congr 1
      omega
    · simp only [Array.toList_append]
      rw [List.take_append_of_le_length (by simp only [List.length_append] at hlen ⊢; omega), ← hlen, List.take_length]
  rcases hrow.2 with ⟨rfl, rfl, rfl⟩ | ⟨b, cap, cur, rfl, rfl, hB, hnc, hcm, hcs, htake⟩
  · exact grown none 0 rfl (by omega)
  · by_cases hroom : n + m ≤ cap
    · have hfit : n * i.size + (Builtin.zeroCells z.cells m).toList.length ≤ cur.length := by rw [hnl, hcs, ← Nat.add_mul]; exact Nat.mul_le_mul_right _ hroom
      have hst := run_storeCells_cells (P := P) b (n * i.size) (Builtin.zeroCells z.cells m).toList 0 w (fun j hj => by rw [hB.cell]; simp; omega) (fun j hj => hB.frozen (by omega)) hmem
      simp only [Nat.add_zero] at hst
      have hr : (Builtin.append_ #[t, tx] ty #[.slice (some ⟨b, 0, none⟩) n cap, .int kk (m : Int)]).run P w = .ok (.slice (some ⟨b, 0, none⟩) (n + m) cap) (w.setCells b (n * i.size) (Builtin.zeroCells z.cells m).toList) := by
        have hneg : ¬ ((m : Int) < 0) := by omega
        simp [Builtin.append_, run_underlying ht, run_underlying hk, sizeOf, typeInfo, zeroValue, hi, hz, asInt, asIntOf, hw, hb1, hmz, hroom, Addr.add_lit, hst, hneg]
      refine ⟨_, _, some b, hr, ⟨hlen, .inr ⟨b, cap, _, rfl, rfl, hB.setCells _ _ hfit, hroom, hcm, by rw [length_splice _ _ _ hfit]; exact hcs, ?_⟩⟩, .inl rfl, (Upd.refl _ _).setCells _ _ (fun _ => rfl)⟩
      unfold splice
      rw [htake, ← List.append_assoc, ← hlen]
      exact List.take_left
    · exact grown _ cap rfl (by omega)

end append

/-- What the program's tables say of a slice type t and its element type e. -/
structure Elem (P : Program) (t e : TypeId) (sz bytes : Nat) : Prop where
  ht : P.underlying t = some (.slice e)
  info : ∃ i z, P.info? e = some i ∧ i.zero = some z ∧ i.size = sz ∧ i.bytes = bytes ∧ z.cells.size = sz ∧ ∀ u ∈ z.cells, u.oneCell' = true

theorem Elem.of {P : Program} {t e : TypeId} {sz bytes : Nat} {z : Value} (ht : P.underlying t = some (.slice e)) (h : (P.info? e).map (fun i => (i.zero, i.size, i.bytes)) = some (some z, sz, bytes)) (hz : (decide (z.cells.size = sz) && z.cells.all (·.oneCell')) = true) : Elem P t e sz bytes := by
  refine ⟨ht, ?_⟩
  cases hi : P.info? e with
  | none => rw [hi] at h; cases h
  | some i =>
    rw [hi] at h
    simp only [Option.map_some, Option.some.injEq, Prod.mk.injEq] at h
    simp only [Bool.and_eq_true, decide_eq_true_eq, Array.all_eq_true_iff_forall_mem] at hz
    exact ⟨i, z, rfl, h.1, h.2.1, h.2.2, hz.1, hz.2⟩

/-- The block behind an append: the one that was, or a new one. -/
def NewOr (w : World) (g g' : Option Nat) : Prop := g' = g ∨ g' = some w.heap.size

theorem NewOr.some {w : World} {g g' : Option Nat} (h : NewOr w g g') {b : Nat} (hb : g' = Option.some b) : g = Option.some b ∨ b = w.heap.size := by
  rcases h with h | h
  · exact .inl (h ▸ hb)
  · rw [h] at hb; exact .inr (by simpa using hb.symm)

section walk
variable {P : Program} {w : World} {ops : Array Oper} {rest : List Oper} {o : Oper} {a : Act}

theorem wp_append_row {K : Act → World → Prop} {Q : Exit → Act → World → Prop} (s x : Operand) (t tx : TypeId) (ho : o.op = .call { callee := .builtin .append, args := #[s, x], argTypes := #[t, tx] })
    (e : TypeId) (sz bytes : Nat) (he : Elem P t e sz bytes) (v : Value) (g : Option Nat) (n : Nat) (xs : List Value) (hv : a.eval s = v) (hrow : Row w e sz v g n xs) (xv : Value) (m : Nat) (news : List Value) (hx : a.eval x = xv) (hs : Src P sz tx xv m news w)
    (n' : Nat) (hn' : n' = n + m) (xs' : List Value) (hxs' : xs' = xs ++ news) (h63 : n + m ≤ maxLen) (hbytes : (n + m) * bytes ≤ 140737488355328)
    (h : ∀ v' w' g', Row w' e sz v' g' n' xs' → NewOr w g g' → Upd (fun k => g = some k) w w' → K (a.put o.dst v') w') : o.wp P a w K Q := by
  obtain ⟨ht, i, z, hi, hz, h1, h2, h3, _⟩ := he
  obtain ⟨v', w', g', hr, r1, r2, r3⟩ := run_append_row (P := P) t tx o.type e i z sz bytes ht hi hz h1 h2 h3 hrow hs h63 hbytes
  unfold Oper.wp execOp
  simp only [ho, resolve, invoke, builtin, Sem.run_bind, Sem.run_pure, Result.andThen_ok, List.map_toArray, List.map_cons, List.map_nil, hv, hx, hr]
  exact h v' w' g' (by rw [hn', hxs']; exact r1) r2 r3

theorem wpList_append_row {Q : Exit → Act → World → Prop} (hgd : o.guard = none) (s x : Operand) (t tx : TypeId) (ho : o.op = .call { callee := .builtin .append, args := #[s, x], argTypes := #[t, tx] })
    (e : TypeId) (sz bytes : Nat) (he : Elem P t e sz bytes) (v : Value) (g : Option Nat) (n : Nat) (xs : List Value) (hv : a.eval s = v) (hrow : Row w e sz v g n xs) (xv : Value) (m : Nat) (news : List Value) (hx : a.eval x = xv) (hs : Src P sz tx xv m news w)
    (n' : Nat) (hn' : n' = n + m) (xs' : List Value) (hxs' : xs' = xs ++ news) (h63 : n + m ≤ maxLen) (hbytes : (n + m) * bytes ≤ 140737488355328)
    (h : ∀ v' w' g', Row w' e sz v' g' n' xs' → NewOr w g g' → Upd (fun k => g = some k) w w' → wpList P ops Q rest (a.put o.dst v') w') : wpList P ops Q (o :: rest) a w :=
  wpList_plain hgd fun _ hK => wp_append_row s x t tx ho e sz bytes he v g n xs hv hrow xv m news hx hs n' hn' xs' hxs' h63 hbytes fun v' w' g' r1 r2 r3 => hK _ _ (h v' w' g' r1 r2 r3)

theorem zeroCells_one (z : Value) (hz : z.cells = #[z]) (m : Nat) : (Builtin.zeroCells z.cells m).toList = List.replicate m z := by
  rw [hz]
  apply List.ext_getElem?
  intro i
  unfold Builtin.zeroCells
  simp only [Array.toList_map, Array.toList_range, List.getElem?_map, List.size_toArray, List.length_cons, List.length_nil, Nat.zero_add, Nat.mul_one, Nat.mod_one]
  by_cases hi : i < m
  · rw [List.getElem?_range hi, List.getElem?_replicate, if_pos hi]; rfl
  · rw [List.getElem?_eq_none (by simpa using Nat.le_of_not_lt hi), List.getElem?_replicate, if_neg hi]; rfl

theorem wp_append_zeros {K : Act → World → Prop} {Q : Exit → Act → World → Prop} (s x : Operand) (t tx : TypeId) (ho : o.op = .call { callee := .builtin .append, args := #[s, x], argTypes := #[t, tx] })
    (k : IntKind) (hk : P.underlying tx = some (.int k)) (e : TypeId) (bytes : Nat) (he : Elem P t e 1 bytes) (z : Value) (hz : ((P.info? e).bind (·.zero)) = some z) (hzc : z.cells = #[z]) (v : Value) (g : Option Nat) (n : Nat) (xs : List Value) (hv : a.eval s = v) (hrow : Row w e 1 v g n xs) (kk : IntKind) (mi : Int) (hx : a.eval x = .int kk mi) (m : Nat) (hmi : mi = (m : Int)) (hm : 0 < m)
    (n' : Nat) (hn' : n' = n + m) (xs' : List Value) (hxs' : xs' = xs ++ List.replicate m z) (h63 : n + m ≤ maxLen) (hbytes : (n + m) * bytes ≤ 140737488355328)
    (h : ∀ v' w' g', Row w' e 1 v' g' n' xs' → NewOr w g g' → Upd (fun k => g = some k) w w' → K (a.put o.dst v') w') : o.wp P a w K Q := by
  subst hmi
  obtain ⟨ht, i, z', hi, hz', h1, h2, h3, h4⟩ := he
  have hzz : z' = z := by rw [hi] at hz; simpa [hz'] using hz
  subst hzz
  obtain ⟨v', w', g', hr, r1, r2, r3⟩ := run_append_zeros (P := P) t tx o.type e k hk i z' 1 bytes ht hi hz' h1 h2 h3 h4 (by omega) hrow (kk := kk) hm h63 hbytes
  rw [zeroCells_one z' hzc] at r1
  unfold Oper.wp execOp
  simp only [ho, resolve, invoke, builtin, Sem.run_bind, Sem.run_pure, Result.andThen_ok, List.map_toArray, List.map_cons, List.map_nil, hv, hx, hr]
  exact h v' w' g' (by rw [hn', hxs']; exact r1) r2 r3

theorem wpList_append_zeros {Q : Exit → Act → World → Prop} (hgd : o.guard = none) (s x : Operand) (t tx : TypeId) (ho : o.op = .call { callee := .builtin .append, args := #[s, x], argTypes := #[t, tx] })
    (k : IntKind) (hk : P.underlying tx = some (.int k)) (e : TypeId) (bytes : Nat) (he : Elem P t e 1 bytes) (z : Value) (hz : ((P.info? e).bind (·.zero)) = some z) (hzc : z.cells = #[z]) (v : Value) (g : Option Nat) (n : Nat) (xs : List Value) (hv : a.eval s = v) (hrow : Row w e 1 v g n xs) (kk : IntKind) (mi : Int) (hx : a.eval x = .int kk mi) (m : Nat) (hmi : mi = (m : Int)) (hm : 0 < m)
    (n' : Nat) (hn' : n' = n + m) (xs' : List Value) (hxs' : xs' = xs ++ List.replicate m z) (h63 : n + m ≤ maxLen) (hbytes : (n + m) * bytes ≤ 140737488355328)
    (h : ∀ v' w' g', Row w' e 1 v' g' n' xs' → NewOr w g g' → Upd (fun k => g = some k) w w' → wpList P ops Q rest (a.put o.dst v') w') : wpList P ops Q (o :: rest) a w :=
  wpList_plain hgd fun _ hK => wp_append_zeros s x t tx ho k hk e bytes he z hz hzc v g n xs hv hrow kk mi hx m hmi hm n' hn' xs' hxs' h63 hbytes fun v' w' g' r1 r2 r3 => hK _ _ (h v' w' g' r1 r2 r3)

theorem wpList_slice_from {Q : Exit → Act → World → Prop} (hgd : o.guard = none) (x lo : Operand) (t : TypeId) (ho : o.op = .slice t x (some lo) none none) (e : TypeId) (sz bytes : Nat) (he : Elem P t e sz bytes)
    (ad : Option Addr) (n cap : Nat) (hx : a.eval x = .slice ad n cap) (k : IntKind) (i : Int) (hlo : a.eval lo = .int k i) (at_ : Nat) (hi : i = (at_ : Int)) (h0 : at_ ≤ n) (hc : n ≤ cap)
    (h : ∀ dp, (at_ < cap → dp = ad.map (·.add (at_ * sz))) → wpList P ops Q rest (a.put o.dst (.slice dp (n - at_) (cap - at_))) w) : wpList P ops Q (o :: rest) a w := by
  refine wpList_plain hgd fun K hK => ?_
  obtain ⟨ht, ti, z, hti, hz, h1, h2, h3, h4⟩ := he
  subst hi
  have hb : ((0 : Int) ≤ (at_ : Int) ∧ (at_ : Int) ≤ (n : Int)) := by omega
  have hr : (Instr.sliceAt t (.slice ad n cap) (some (.int k (at_ : Int))) none none).run P w = .ok (.slice (if cap = at_ then ad else ad.map (·.add (at_ * sz))) (n - at_) (cap - at_)) w := by
    simp [Instr.sliceAt, Instr.slice, run_underlying ht, Instr.sliceBounds, Instr.sliceBound, asIntOf, hb, sizeOf, typeInfo, hti, h1, h0]
  unfold Oper.wp execOp
  simp only [ho, Sem.run_bind, Sem.run_pure, Result.andThen_ok, Option.map_some, Option.map_none, hx, hlo, hr]
  exact hK _ _ (h _ fun hlt => if_neg (by omega))

theorem run_copy_string (dT sT ty e : TypeId) (hu : P.underlying dT = some (.slice e)) (hsz : (P.info? e).map (·.size) = some 1) {v : Value} {g : Option Nat} {n : Nat} {xs : List Value} (hrow : Row w e 1 v g n xs)
    (dp : Option Addr) (dc at_ : Nat) (ha : at_ ≤ n) (hdp : at_ < n → ∃ b, g = some b ∧ dp = some ⟨b, at_, none⟩) (s : ByteArray) :
    ∃ w', (Builtin.copy_ #[dT, sT] ty #[.slice dp (n - at_) dc, .string s]).run P w = .ok (.int .i64 (Nat.min s.size (n - at_) : Nat)) w' ∧ Row w' e 1 v g n (splice xs at_ ((byteCells s).take (Nat.min s.size (n - at_)))) ∧ Upd (fun k => g = some k) w w' := by
  obtain ⟨i, hi, h1⟩ : ∃ i, P.info? e = some i ∧ i.size = 1 := by
    cases hi : P.info? e with
    | none => rw [hi] at hsz; cases hsz
    | some i => rw [hi] at hsz; exact ⟨i, rfl, by simpa using hsz⟩
  generalize hk : Nat.min s.size (n - at_) = k
  have hks : k ≤ s.size := hk ▸ Nat.min_le_left _ _
  have hkn : k ≤ n - at_ := hk ▸ Nat.min_le_right _ _
  have hfc : (Builtin.firstCells 1 k (.string s)).run P w = .ok ((byteCells s).take k).toArray w := by
    simp only [Builtin.firstCells, Sem.run_pure]
    congr 1
    apply Array.ext'
    simp [byteCells, ByteArray.data_extract, List.map_take]
  have hcl : ((byteCells s).take k).length = k := by rw [List.length_take, byteCells_length]; omega
  have h1c : ∀ u ∈ (byteCells s).take k, u.oneCell' = true := fun u hu => by
    have := List.mem_of_mem_take hu
    unfold byteCells at this
    obtain ⟨_, _, rfl⟩ := List.mem_map.1 this
    rfl
  rcases hrow.2 with ⟨rfl, rfl, rfl⟩ | ⟨b, cap, cur, rfl, rfl, hB, hnc, hcm, hcs, htake⟩
  · have hk0 : k = 0 := by omega
    subst hk0
    refine ⟨w, ?_, ?_, Upd.refl _ _⟩
    · cases dp with
      | none => simp [Builtin.copy_, run_underlying hu, sizeOf, typeInfo, hi, h1, Builtin.lenOf, hk, hfc, goInt]
      | some d => simp [Builtin.copy_, run_underlying hu, sizeOf, typeInfo, hi, h1, Builtin.lenOf, hk, hfc, goInt, storeCells]
    · simpa [splice] using hrow
  · have hnl : n ≤ cur.length := by omega
    by_cases han : at_ < n
    · obtain ⟨b', hb', rfl⟩ := hdp han
      cases hb'
      have hst := run_storeCells_cells (P := P) b at_ ((byteCells s).take k) 0 w (fun j hj => by rw [hB.cell]; simp; omega) (fun j hj => hB.frozen (by omega)) h1c
      simp only [Nat.add_zero] at hst
      refine ⟨_, ?_, ?_, (Upd.refl _ _).setCells ((byteCells s).take k) at_ (fun _ => rfl)⟩
      · simp [Builtin.copy_, run_underlying hu, sizeOf, typeInfo, hi, h1, Builtin.lenOf, hk, hfc, goInt, hst]
      · have hxl : xs.length = n := by simpa using hrow.1
        refine ⟨by rw [length_splice _ _ _ (by omega)]; exact hrow.1, .inr ⟨b, cap, _, rfl, rfl, hB.setCells ((byteCells s).take k) at_ (by omega), hnc, hcm, by rw [length_splice _ _ _ (by omega)]; exact hcs, ?_⟩⟩
        rw [Nat.mul_one] at htake ⊢
        apply List.ext_getElem?
        intro j
        rw [splice_get _ _ _ (by omega), List.getElem?_take]
        by_cases hj : j < n
        · rw [if_pos hj, splice_get _ _ _ (by omega), ← htake, List.getElem?_take_of_lt hj]
        · rw [if_neg hj, if_neg (by omega), List.getElem?_eq_none (by omega)]
    · have hk0 : k = 0 := by omega
      subst hk0
      refine ⟨w, ?_, ?_, Upd.refl _ _⟩
      · cases dp with
        | none => simp [Builtin.copy_, run_underlying hu, sizeOf, typeInfo, hi, h1, Builtin.lenOf, hk, hfc, goInt]
        | some d => simp [Builtin.copy_, run_underlying hu, sizeOf, typeInfo, hi, h1, Builtin.lenOf, hk, hfc, goInt, storeCells]
      · simpa [splice] using hrow

theorem wpList_copy_string {Q : Exit → Act → World → Prop} (hgd : o.guard = none) (d s : Operand) (dT sT : TypeId) (ho : o.op = .call { callee := .builtin .copy, args := #[d, s], argTypes := #[dT, sT] })
    (e : TypeId) (hu : P.underlying dT = some (.slice e)) (hsz : (P.info? e).map (·.size) = some 1) (v : Value) (g : Option Nat) (n : Nat) (xs : List Value) (hrow : Row w e 1 v g n xs)
    (dp : Option Addr) (dl dc at_ : Nat) (hdl : dl = n - at_) (ha : at_ ≤ n) (hdp : at_ < n → ∃ b, g = some b ∧ dp = some ⟨b, at_, none⟩) (st : ByteArray) (hd : a.eval d = .slice dp dl dc) (hs : a.eval s = .string st)
    (k : Nat) (hk : Nat.min st.size (n - at_) = k) (xs' : List Value) (hxs' : xs' = splice xs at_ ((byteCells st).take k))
    (h : ∀ w', Row w' e 1 v g n xs' → Upd (fun k => g = some k) w w' → wpList P ops Q rest (a.put o.dst (.int .i64 (k : Int))) w') : wpList P ops Q (o :: rest) a w := by
  refine wpList_plain hgd fun K hK => ?_
  subst hk
  subst hdl
  obtain ⟨w', hr, r1, r2⟩ := run_copy_string (P := P) dT sT o.type e hu hsz hrow dp dc at_ ha hdp st
  unfold Oper.wp execOp
  simp only [ho, resolve, invoke, builtin, Sem.run_bind, Sem.run_pure, Result.andThen_ok, List.map_toArray, List.map_cons, List.map_nil, hd, hs, hr]
  exact hK _ _ (h w' (by rw [hxs']; exact r1) r2)

theorem zeroCells_one' (z : Value) (hz1 : ∀ u ∈ z.cells, u.oneCell' = true) (hs : 0 < z.cells.size) (m : Nat) : ∀ u ∈ (Builtin.zeroCells z.cells m).toList, u.oneCell' = true := by
  intro u hu
  unfold Builtin.zeroCells at hu
  simp only [Array.toList_map, Array.toList_range, List.mem_map, List.mem_range] at hu
  obtain ⟨j, _, rfl⟩ := hu
  have hlt : j % z.cells.size < z.cells.size := Nat.mod_lt _ hs
  rw [getElem!_pos z.cells _ hlt]
  exact hz1 _ (Array.getElem_mem hlt)

/-- 'clear(s[at:])': what stands before is as it was. -/
theorem wpList_clear_tail {Q : Exit → Act → World → Prop} (hgd : o.guard = none) (x : Operand) (t : TypeId) (ho : o.op = .call { callee := .builtin .clear, args := #[x], argTypes := #[t] })
    (e : TypeId) (sz bytes : Nat) (he : Elem P t e sz bytes) (hsz : 0 < sz) (v : Value) (g : Option Nat) (n : Nat) (xs : List Value) (hrow : Row w e sz v g n xs)
    (dp : Option Addr) (m dc at_ : Nat) (hm : m = n - at_) (ha : at_ ≤ n) (hdp : at_ < n → ∃ b, g = some b ∧ dp = some ⟨b, at_ * sz, none⟩) (hx : a.eval x = .slice dp m dc)
    (h : ∀ w' xs', Row w' e sz v g n xs' → xs'.take (at_ * sz) = xs.take (at_ * sz) → Upd (fun k => g = some k) w w' → wpList P ops Q rest (a.put o.dst (.tuple #[])) w') : wpList P ops Q (o :: rest) a w := by
  refine wpList_plain hgd fun K hK => ?_
  subst hm
  obtain ⟨ht, i, z, hi, hz, h1, h2, h3, h4⟩ := he
  have hfin : ∀ w' xs', (Builtin.clear_ #[t] o.type #[.slice dp (n - at_) dc]).run P w = .ok (.tuple #[]) w' → Row w' e sz v g n xs' → xs'.take (at_ * sz) = xs.take (at_ * sz) → Upd (fun k => g = some k) w w' → o.wp P a w K Q := by
    intro w' xs' hr r1 r2 r3
    unfold Oper.wp execOp
    simp only [ho, resolve, invoke, builtin, Sem.run_bind, Sem.run_pure, Result.andThen_ok, List.map_toArray, List.map_cons, List.map_nil, hx, hr]
    exact hK _ _ (h w' xs' r1 r2 r3)
  by_cases han : at_ < n
  · obtain ⟨b, rfl, rfl⟩ := hdp han
    have hn : ∃ q, n - at_ = q + 1 := ⟨n - at_ - 1, by omega⟩
    obtain ⟨q, hq⟩ := hn
    rcases hrow.2 with ⟨_, h0, _⟩ | ⟨b', cap, cur, rfl, hg, hB, hnc, hcm, hcs, htake⟩
    · cases h0
    · cases hg
      have hzl : (Builtin.zeroCells z.cells (q + 1)).toList.length = (q + 1) * sz := by simp [size_zeroCells, h3]
      have hnm : n * sz = at_ * sz + (q + 1) * sz := by rw [← Nat.add_mul, ← hq]; congr 1; omega
      have hcm2 : n * sz ≤ cap * sz := Nat.mul_le_mul_right _ hnc
      have hst := run_storeCells_cells (P := P) b (at_ * sz) (Builtin.zeroCells z.cells (q + 1)).toList 0 w (fun j hj => by rw [hB.cell]; simp; omega) (fun j hj => hB.frozen (by omega)) (zeroCells_one' z h4 (by omega) _)
      simp only [Nat.add_zero] at hst
      have hsp : at_ * sz + (Builtin.zeroCells z.cells (q + 1)).toList.length ≤ cur.length := by omega
      refine hfin _ ((splice cur (at_ * sz) (Builtin.zeroCells z.cells (q + 1)).toList).take (n * sz)) ?_ ⟨by rw [List.length_take, length_splice _ _ _ hsp]; omega, .inr ⟨b, cap, _, rfl, rfl, hB.setCells _ _ hsp, hnc, hcm, by rw [length_splice _ _ _ hsp]; exact hcs, rfl⟩⟩ ?_ ((Upd.refl _ _).setCells _ _ (fun _ => rfl))
      · rw [hq]
        simp [Builtin.clear_, run_underlying ht, zeroValue, typeInfo, hi, hz, hst]
      · rw [List.take_take, Nat.min_eq_left (by omega), ← htake, List.take_take, Nat.min_eq_left (by omega)]
        unfold splice
        rw [List.take_append_of_le_length (by simp; omega), List.take_take, Nat.min_self]
  · have h0 : n - at_ = 0 := by omega
    refine hfin w xs ?_ hrow rfl (Upd.refl _ _)
    rw [h0]
    cases dp <;> simp [Builtin.clear_, run_underlying ht]

end walk

end Go.Proofs.Ythfnnkfdpnkodaa
