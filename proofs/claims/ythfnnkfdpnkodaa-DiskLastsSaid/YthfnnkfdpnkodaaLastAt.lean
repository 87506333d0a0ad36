/- DiskLasts: where the law stands: a disk, the safe contents, the writes since, and an act, in memory of the call's own. -/
import Derived.Test.YthfnnkfdpnkodaaHere
namespace Go.Proofs.Ythfnnkfdpnkodaa
open Go.RowKit

/-- The blocks that no call on the disk may turn: the old ones, the row of the safe contents, that of the writes since, the act's. -/
def LsF (B sb : Nat) (g x : Option Nat) : Nat → Prop := fun k => k < B ∨ k = sb ∨ g = some k ∨ x = some k

def strsV (l : List ByteArray) : List Value := l.map .string

structure LsAt (B b sb : Nat) (g x : Option Nat) (ob : Obj) (W w : World) (st : DSt) (safe : List ByteArray) (since : Value) (sn : List ActV) : Prop where
  at_ : At (LsF B sb g x) b w st w
  old : Upd (fun k => B ≤ k) W w
  srow : Row w 9 1 (.slice (some ⟨sb, 0, none⟩) 12 12) (some sb) 12 (strsV safe)
  slen : safe.length = 12
  row : Row w 30 6 since g sn.length (actsV sn)
  hsb : B ≤ sb
  hg : ∀ k, g = some k → B ≤ k ∧ k ≠ sb
  hB : B ≤ W.heap.size
  box : ∀ k, x = some k → B ≤ k ∧ k ≠ sb ∧ g ≠ some k ∧ w.heap[k]? = some ob

section
variable {B b sb : Nat} {g x : Option Nat} {ob : Obj} {W w : World} {st : DSt} {safe : List ByteArray} {since : Value} {sn : List ActV} (h : LsAt B b sb g x ob W w st safe since sn)
include h

theorem LsAt.lt {k : Nat} (hk : LsF B sb g x k) : k < w.heap.size := h.at_.1 k hk

/-- A call on the disk. -/
theorem LsAt.call {w' : World} {st' : DSt} (c : At (LsF B sb g x) b w st' w') : LsAt B b sb g x ob W w' st' safe since sn := by
  obtain ⟨c1, c2, c3⟩ := c
  refine ⟨⟨c1, c2, Upd.refl _ _⟩, h.old.trans c3 fun k hk hn => ?_, h.srow.upd c3 fun k hk hn => hn (.inr (.inl (Option.some.inj hk).symm)), h.slen, h.row.upd c3 fun k hk hn => hn (.inr (.inr (.inl hk))), h.hsb, h.hg, h.hB, fun k hk => ?_⟩
  · exact Classical.byContradiction fun hlt => hn (.inl (by omega))
  · obtain ⟨h1, h2, h3, h4⟩ := h.box k hk
    exact ⟨h1, h2, h3, (c3.block k (h.lt (.inr (.inr (.inr hk)))) fun hn => hn (.inr (.inr (.inr hk)))).trans h4⟩

/-- Quiet steps, new blocks. -/
theorem LsAt.still {w' : World} (u : Upd (fun _ => False) w w') : LsAt B b sb g x ob W w' st safe since sn :=
  h.call ⟨fun k hk => Nat.lt_of_lt_of_le (h.lt hk) u.size, h.at_.2.1.still u, u.mono fun _ _ h => h.elim⟩

theorem LsAt.drew : LsAt B b sb g x ob W w.drew st safe since sn := h.still (Upd.refl _ _).drew

theorem LsAt.base : B ≤ w.heap.size := Nat.le_trans h.hB h.old.size

/-- The act's box goes. -/
theorem LsAt.unbox : LsAt B b sb g none default W w st safe since sn := by
  refine ⟨⟨fun k hk => h.lt (hk.imp id (Or.imp id (Or.imp id fun hx => by cases hx))), h.at_.2.1.mono fun k _ hd hf => hd (hf.imp id (Or.imp id (Or.imp id fun hx => by cases hx))), Upd.refl _ _⟩, h.old, h.srow, h.slen, h.row, h.hsb, h.hg, h.hB, fun k hk => by cases hk⟩

/-- The writes since get another row. -/
theorem LsAt.since' {w' : World} {v : Value} {g' : Option Nat} {sn' : List ActV} (u : Upd (fun k => g = some k) w w') (hrow : Row w' 30 6 v g' sn'.length (actsV sn')) (hg : ∀ k, g' = some k → g = some k ∨ w.heap.size ≤ k) : LsAt B b sb g' x ob W w' st safe v sn' := by
  have hlt := @LsAt.lt _ _ _ _ _ _ _ _ _ _ _ _ h
  have hB := h.base
  have hsbl : sb < w.heap.size := hlt (.inr (.inl rfl))
  refine ⟨⟨fun k hk => ?_, ?_, Upd.refl _ _⟩, h.old.trans u fun k _ hk => (h.hg k hk).1, h.srow.upd u fun k hk hn => (h.hg k hn).2 (Option.some.inj hk).symm, h.slen, hrow, h.hsb, fun k hk => ?_, h.hB, fun k hk => ?_⟩
  · rcases hk with hk | hk | hk | hk
    · exact Nat.lt_of_lt_of_le (by omega) u.size
    · exact Nat.lt_of_lt_of_le (by omega) u.size
    · exact hrow.lt hk
    · exact Nat.lt_of_lt_of_le (hlt (.inr (.inr (.inr hk)))) u.size
  · have hd : Disk w' b (fun k => ¬ LsF B sb g x k ∧ k < w.heap.size) st := (h.at_.2.1.mono (D' := fun k => ¬ LsF B sb g x k ∧ k < w.heap.size) fun k hk hd => ⟨hd, hk⟩).upd u fun k hk _ hn => hk.1 (.inr (.inr (.inl hn)))
    refine hd.mono fun k _ hk hf => ?_
    rcases hf with hf | hf | hf | hf
    · exact hk.1 (.inl hf)
    · exact hk.1 (.inr (.inl hf))
    · rcases hg k hf with h1 | h1
      · exact hk.1 (.inr (.inr (.inl h1)))
      · have := hk.2; omega
    · exact hk.1 (.inr (.inr (.inr hf)))
  · rcases hg k hk with h1 | h1
    · exact h.hg k h1
    · exact ⟨by omega, by omega⟩
  · obtain ⟨h1, h2, h3, h4⟩ := h.box k hk
    have hkl := hlt (.inr (.inr (.inr hk)))
    refine ⟨h1, h2, fun e => ?_, (u.block k hkl h3).trans h4⟩
    rcases hg k e with h5 | h5
    · exact h3 h5
    · omega

/-- A safe content is set. -/
theorem LsAt.safe' (f : Nat) (s : ByteArray) : LsAt B b sb g x ob W (w.setCell ⟨sb, f, none⟩ (.string s)) st (safe.set f s) since sn := by
  have u : Upd (fun k => k = sb) w (w.setCell ⟨sb, f, none⟩ (.string s)) := Upd.setCell (S := fun k => k = sb) (Upd.refl _ _) (p := ⟨sb, f, none⟩) (fun _ => rfl) _
  refine ⟨⟨fun k hk => Nat.lt_of_lt_of_le (h.lt hk) u.size, h.at_.2.1.upd u fun k hk _ e => hk (.inr (.inl e)), Upd.refl _ _⟩, h.old.trans u fun k _ e => e ▸ h.hsb, ?_, by simpa using h.slen, h.row.upd u fun k hk e => (h.hg k hk).2 e, h.hsb, h.hg, h.hB, fun k hk => ?_⟩
  · have := h.srow.set rfl f (.string s)
    unfold strsV at this ⊢
    rw [List.map_set]
    exact this
  · obtain ⟨h1, h2, h3, h4⟩ := h.box k hk
    exact ⟨h1, h2, h3, (u.block k (h.lt (.inr (.inr (.inr hk)))) h2).trans h4⟩

theorem LsAt.scell (f : Nat) (hf : f < 12) : w.cell? ⟨sb, f, none⟩ = some (.string (safe[f]'(by rw [h.slen]; exact hf))) := by
  refine h.srow.cell rfl ?_
  unfold strsV
  rw [List.getElem?_map, List.getElem?_eq_getElem (by rw [h.slen]; exact hf)]
  rfl

theorem LsAt.sfroz (f : Nat) (hf : f < 12) : w.frozen? ⟨sb, f, none⟩ = false := h.srow.frozen rfl (by unfold strsV; rw [List.length_map, h.slen]; exact hf)

theorem LsAt.bcell {k : Nat} (hx : x = some k) {cs : Array Value} {e : TypeId} (ho : ob = .cells cs e) (i : Nat) {v : Value} (hv : cs[i]? = some v) : w.cell? ⟨k, i, none⟩ = some v := by
  have hb := (h.box k hx).2.2.2
  rw [ho] at hb
  simp [World.cell?, hb, hv]

end

/-- The act's box. -/
theorem LsAt.inbox {B b sb : Nat} {g : Option Nat} {W w : World} {st : DSt} {safe : List ByteArray} {since : Value} {sn : List ActV} (h : LsAt B b sb g none default W w st safe since sn) (cs : Array Value) (e : TypeId) :
    LsAt B b sb g (some w.heap.size) (.cells cs e) W (w.alloc (.cells cs e)) st safe since sn := by
  have h' := h.still ((Upd.refl _ w).alloc (.cells cs e))
  have hsb : sb < w.heap.size := h.lt (.inr (.inl rfl))
  have hBl := h.base
  refine ⟨⟨fun k hk => ?_, ?_, Upd.refl _ _⟩, h'.old, h'.srow, h'.slen, h'.row, h'.hsb, h'.hg, h'.hB, fun k hk => ?_⟩
  · rcases hk with hk | hk | hk | hk
    · exact h'.lt (.inl hk)
    · exact h'.lt (.inr (.inl hk))
    · exact h'.lt (.inr (.inr (.inl hk)))
    · cases hk; simp
  · have hd : Disk (w.alloc (.cells cs e)) b (fun k => ¬ LsF B sb g none k ∧ k < w.heap.size) st := (h.at_.2.1.mono (D' := fun k => ¬ LsF B sb g none k ∧ k < w.heap.size) fun k hk hd => ⟨hd, hk⟩).still ((Upd.refl _ w).alloc _)
    refine hd.mono fun k _ hk hf => ?_
    rcases hf with hf | hf | hf | hf
    · exact hk.1 (.inl hf)
    · exact hk.1 (.inr (.inl hf))
    · exact hk.1 (.inr (.inr (.inl hf)))
    · cases hf; have := hk.2; omega
  · cases hk
    refine ⟨hBl, by omega, fun e => ?_, heap_alloc_new w _⟩
    have := h.lt (.inr (.inr (.inl e))); omega

/-- What the writes since are made of. -/
def SnSub (acts : List ActV) (sn : List ActV) : Prop := ∀ a ∈ sn, a ∈ acts ∧ 0 ≤ a.n ∧ a.n < 4000

def safeF (safe : List ByteArray) : Nat → List UInt8 := fun f => (safe.getD f ByteArray.empty).data.toList

theorem safeF_set (safe : List ByteArray) (f : Nat) (hf : f < safe.length) (s : ByteArray) : safeF (safe.set f s) = up (safeF safe) f s.data.toList := by
  funext j
  unfold safeF up
  split
  · rename_i e; subst e; simp [List.getD_eq_getElem?_getD, hf]
  · rename_i e
    simp only [List.getD_eq_getElem?_getD]
    rw [List.getElem?_set_ne (by omega)]

theorem LInv.eq {st : DSt} {safe safe' : Nat → List UInt8} {sn : List ActV} (h : LInv st safe sn) (e : ∀ f, f < 12 → safe f = safe' f) : LInv st safe' sn :=
  ⟨fun f hf => (h.dur f hf).trans (e f hf), h.pend, h.down⟩

/-- Behind the test for a write. -/
def LsPre (B b sb : Nat) (W : World) (acts : List ActV) (k : Nat) (U : Bool) (A : ActV) (kv : Value) (ab : Nat) (st : DSt) (safe : List ByteArray) (sn : List ActV) (s : Value) (w : World) : Prop :=
  ∃ (g7 : Option Nat) (sn7 : List ActV), LsAt B b sb g7 (some ab) (.cells #[.int .i64 A.op, .int .i64 A.f, .int .i64 A.g, .int .i64 A.n, .string A.s, kv] 30) W w st safe s sn7 ∧ snNext U A sn = sn7 ∧ SnSub acts sn7 ∧ sn7.length ≤ k + 1

/-- The middle of a round: what the act has left. -/
def LsMid (B b sb : Nat) (W : World) (acts : List ActV) (n k : Nat) (upb : Bool) (A : Array Value) (ab : Nat) (v : Value) (w : World) : Prop :=
  ∃ (g : Option Nat) (safe : List ByteArray) (sn : List ActV) (st : DSt), LsAt B b sb g (some ab) (.cells A 30) W w st safe v sn ∧ Fit st n ∧ SnSub acts sn ∧ sn.length ≤ k + 1 ∧ (upb = true ∧ st.down = true → LCrash st (safeF safe) sn) ∧ (¬ (upb = true ∧ st.down = true) → LInv st (safeF safe) sn)

/-- The head of a round. -/
def LsRel (B b sb : Nat) (W : World) (acts : List ActV) (v i : Value) (w : World) : Prop :=
  ∃ (k : Nat) (g : Option Nat) (safe : List ByteArray) (sn : List ActV) (st : DSt), i = .int .i64 k ∧ k ≤ acts.length ∧ LsAt B b sb g none default W w st safe v sn ∧ Fit st (actSum (acts.take k)) ∧ SnSub acts sn ∧ sn.length ≤ k ∧ LInv st (safeF safe) sn

/-- Behind a crash: file by file. -/
def LsIn (B b sb : Nat) (g : Option Nat) (W : World) (st : DSt) (safe0 : List ByteArray) (v : Value) (sn : List ActV) (j : Value) (w : World) : Prop :=
  ∃ (f : Nat) (safe : List ByteArray), j = .int .i64 f ∧ f ≤ 12 ∧ LsAt B b sb g none default W w st safe v sn ∧ (∀ i, i < f → safeF safe i = st.dur i) ∧ (∀ i, f ≤ i → safeF safe i = safeF safe0 i)

/-- The sizes before the last crash. -/
def wasV (st : DSt) (f : Nat) : List Value := (List.range f).map fun i => .int .i64 (st.siz i)

def LsWas (B b sb : Nat) (g : Option Nat) (W : World) (st : DSt) (safe : List ByteArray) (v : Value) (sn : List ActV) (was j : Value) (w : World) : Prop :=
  ∃ (f : Nat) (gw : Option Nat) (ob : Obj), j = .int .i64 f ∧ f ≤ 12 ∧ LsAt B b sb g gw ob W w st safe v sn ∧ Row w 3 1 was gw f (wasV st f)

theorem LsAt.was {B b sb : Nat} {g x : Option Nat} {ob : Obj} {W w w' : World} {st : DSt} {safe : List ByteArray} {since : Value} {sn : List ActV} (h : LsAt B b sb g x ob W w st safe since sn)
    {v : Value} {g' : Option Nat} {n : Nat} {xs : List Value} (u : Upd (fun k => x = some k) w w') (hrow : Row w' 3 1 v g' n xs) (hg : ∀ k, g' = some k → x = some k ∨ w.heap.size ≤ k) : ∃ ob', LsAt B b sb g g' ob' W w' st safe since sn := by
  have hlt := @LsAt.lt _ _ _ _ _ _ _ _ _ _ _ _ h
  have hB := h.base
  have hsbl : sb < w.heap.size := hlt (.inr (.inl rfl))
  have key : ∃ ob', ∀ k, g' = some k → w'.heap[k]? = some ob' := by
    cases hg' : g' with
    | none => exact ⟨default, fun k hk => by cases hk⟩
    | some k0 => exact ⟨w'.heap[k0]'(hrow.lt hg'), fun k hk => by cases hk; exact Array.getElem?_eq_getElem _⟩
  obtain ⟨ob', hob⟩ := key
  refine ⟨ob', ⟨fun k hk => ?_, ?_, Upd.refl _ _⟩, h.old.trans u fun k _ hk => (h.box k hk).1, h.srow.upd u fun k hk hn => (h.box k hn).2.1 (Option.some.inj hk).symm, h.slen, h.row.upd u fun k hk hn => (h.box k hn).2.2.1 hk, h.hsb, h.hg, h.hB, fun k hk => ?_⟩
  · rcases hk with hk | hk | hk | hk
    · exact Nat.lt_of_lt_of_le (by omega) u.size
    · exact Nat.lt_of_lt_of_le (by omega) u.size
    · exact Nat.lt_of_lt_of_le (hlt (.inr (.inr (.inl hk)))) u.size
    · exact hrow.lt hk
  · have hd : Disk w' b (fun k => ¬ LsF B sb g x k ∧ k < w.heap.size) st := (h.at_.2.1.mono (D' := fun k => ¬ LsF B sb g x k ∧ k < w.heap.size) fun k hk hd => ⟨hd, hk⟩).upd u fun k hk _ hn => hk.1 (.inr (.inr (.inr hn)))
    refine hd.mono fun k _ hk hf => ?_
    rcases hf with hf | hf | hf | hf
    · exact hk.1 (.inl hf)
    · exact hk.1 (.inr (.inl hf))
    · exact hk.1 (.inr (.inr (.inl hf)))
    · rcases hg k hf with h1 | h1
      · exact hk.1 (.inr (.inr (.inr h1)))
      · have := hk.2; omega
  · rcases hg k hk with h1 | h1
    · obtain ⟨h2, h3, h4, _⟩ := h.box k h1
      exact ⟨h2, h3, h4, hob k hk⟩
    · refine ⟨by omega, by omega, fun e => ?_, hob k hk⟩
      have := hlt (.inr (.inr (.inl e)))
      omega

theorem LsAt.same_box {B b sb : Nat} {g x : Option Nat} {ob : Obj} {W w w' : World} {st st' : DSt} {safe : List ByteArray} {since : Value} {sn : List ActV} (h : LsAt B b sb g x ob W w st safe since sn)
    (h' : LsAt B b sb g x ob W w' st' safe since sn) {k : Nat} (hk : x = some k) : w'.heap[k]? = w.heap[k]? := by
  rw [(h.box k hk).2.2.2, (h'.box k hk).2.2.2]
end Go.Proofs.Ythfnnkfdpnkodaa
