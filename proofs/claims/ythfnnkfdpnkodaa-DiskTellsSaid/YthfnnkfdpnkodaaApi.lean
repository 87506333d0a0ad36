/- The methods of a disk, as the laws call them. -/
import Derived.Test.YthfnnkfdpnkodaaClone

import Derived.Test.YthfnnkfdpnkodaaCopy
namespace Go.Proofs.Ythfnnkfdpnkodaa
open Go.RowKit

def DSt.start (st : DSt) : DSt := { st with down := false }
def DSt.lose (st : DSt) (n : Int) : DSt := { st with lost := n.toNat }
def DSt.doCrash (st : DSt) (ks : List Int) : DSt := if st.down then st else st.crash ks
def DSt.read (st : DSt) (f : Int) : List UInt8 × Nat := if st.down then ([], 8) else if bad f then ([], 1) else (rdText st f.toNat, 0)
def DSt.size (st : DSt) (f : Int) : Nat := if bad f then 0 else st.siz f.toNat

/-- What a disk may hold that the code can hold. -/
structure Fit (st : DSt) (n : Nat) : Prop where
  good : DGood st
  pend : st.pend.length ≤ n
  keep : st.keep.length ≤ 17592186044416

/-- The disk at its pointer, all blocks of F as they were, and none its own. -/
def Kept (F : Nat → Prop) (b : Nat) (w : World) (v : Value) (st : DSt) (e : Ending) (w' : World) : Prop :=
  e = .returned v ∧ Disk w' b (fun k => ¬ F k) st ∧ Upd (fun k => ¬ F k) w w'

theorem Moved.kept {F : Nat → Prop} {b : Nat} {w w' : World} {v : Value} {st : DSt} {e : Ending} (h : Moved b (fun k => ¬ F k) w v st e w') (hF : ∀ k, F k → k < w.heap.size) : Kept F b w v st e w' :=
  ⟨h.1, h.2.1.mono fun k _ hk => hk.elim id (fun h hf => by have := hF k hf; omega), h.2.2⟩

theorem Disk.still {w w' : World} {b : Nat} {D : Nat → Prop} {st : DSt} (h : Disk w b D st) (u : Upd (fun _ => False) w w') : Disk w' b D st :=
  h.upd u (fun _ _ _ h => h)

section
variable (F : Nat → Prop) (b : Nat) (st : DSt) (w : World) (hF : ∀ k, F k → k < w.heap.size) (h : Disk w b (fun k => ¬ F k) st)
include hF h

omit hF in
theorem law_start : Calls Try.prog 16 #[dptr b] w (Kept F b w (.tuple #[]) st.start) := by
  obtain ⟨own, dv, pv, kv, hr, hb, ho⟩ := h
  refine (start_any b _ w hr.cdown (hr.froz (by omega))).mono ?_
  rintro e w' ⟨rfl, rfl⟩
  exact ⟨rfl, ⟨_, _, _, _, hr.setDown false, hb, ho⟩, (Upd.refl _ w).setCell (p := ⟨b, 25, none⟩) (fun _ => hb) _⟩

omit hF in
theorem law_lose (n : Int) : Calls Try.prog 23 #[dptr b, .int .i64 n] w (Kept F b w (.tuple #[]) (st.lose n)) := by
  obtain ⟨own, dv, pv, kv, hr, hb, ho⟩ := h
  refine (lose_any b n _ w hr.clost (hr.froz (by omega))).mono ?_
  rintro e w' ⟨rfl, rfl⟩
  have := hr.setLost n.toNat
  rw [show ((n.toNat : Nat) : Int) = max n 0 by omega] at this
  exact ⟨rfl, ⟨_, _, _, _, this, hb, ho⟩, (Upd.refl _ w).setCell (p := ⟨b, 26, none⟩) (fun _ => hb) _⟩

omit hF in
theorem law_down : Calls Try.prog 11 #[dptr b] w (fun e w' => e = .returned (.bool st.down) ∧ w = w') := by
  obtain ⟨own, dv, pv, kv, hr, hb, ho⟩ := h
  exact down_any b _ w hr.cdown


omit hF in
theorem law_size (f : Int) : Calls Try.prog 20 #[dptr b, .int .i64 f] w (fun e w' => e = .returned (.int .i64 (st.size f : Nat)) ∧ w = w') := by
  obtain ⟨own, dv, pv, kv, hr, hb, ho⟩ := h
  unfold DSt.size
  by_cases hf : bad f
  · rw [if_pos hf]
    exact size_no b f hf w
  · rw [if_neg hf]
    have hf' := hf
    unfold bad at hf'
    obtain ⟨f', rfl⟩ := Int.eq_ofNat_of_zero_le (show 0 ≤ f by omega)
    exact size_yes b f' (by omega) w _ (hr.csiz (by omega))

theorem law_write (n : Nat) (hg : Fit st n) (hn : n ≤ 1099511627776) (f at_ : Int) (s : ByteArray) (hs : s.size ≤ 140737488355328) :
    Calls Try.prog 21 #[dptr b, .int .i64 f, .int .i64 at_, .string s] w (Kept F b w (.int .i64 ((st.doWrite f at_ s.data.toList).1 : Nat)) (st.doWrite f at_ s.data.toList).2) :=
  (Write_any b f at_ s _ st w h hg.good (Nat.le_trans hg.pend hn) hs).mono fun _ _ h => h.kept hF

theorem law_flush (n : Nat) (hg : Fit st n) (f : Int) : Calls Try.prog 22 #[dptr b, .int .i64 f] w (Kept F b w (.int .i64 ((st.flush f).1 : Nat)) (st.flush f).2) :=
  (Flush_any b f _ st w h hg.good).mono fun _ _ h => h.kept hF

theorem law_cut (n : Nat) (hg : Fit st n) (f m : Int) : Calls Try.prog 32 #[dptr b, .int .i64 f, .int .i64 m] w (Kept F b w (.int .i64 ((st.cut f m).1 : Nat)) (st.cut f m).2) :=
  (Cut_any b f m _ st w h hg.good).mono fun _ _ h => h.kept hF

theorem law_turn (n : Nat) (hg : Fit st n) (hn : n ≤ 1099511627776) (f g : Int) : Calls Try.prog 33 #[dptr b, .int .i64 f, .int .i64 g] w (Kept F b w (.int .i64 ((st.turn f g).1 : Nat)) (st.turn f g).2) :=
  (Turn_any b f g _ st w h hg.good (by have := hg.pend; omega)).mono fun _ _ h => h.kept hF

theorem law_arm (m : Int) (keep : Value) (ks : List Int) (kb : Nat) (hks : IntsAt w keep ks kb) (hnil : ∀ a c, keep = .slice a ks.length c → a = none → ks = []) (hkl : ks.length ≤ 17592186044416) :
    Calls Try.prog 19 #[dptr b, .int .i64 m, keep] w (Kept F b w (.tuple #[]) (st.arm m ks)) :=
  (Arm_any b m _ st w h keep ks kb hks hnil hkl).mono fun _ _ h => h.kept hF

theorem law_crash (n : Nat) (hg : Fit st n) (keep : Value) (ks : List Int) (kb : Nat) (hks : IntsAt w keep ks kb) (hkb : F kb ∨ w.heap.size ≤ kb) :
    Calls Try.prog 18 #[dptr b, keep] w (Kept F b w (.tuple #[]) (st.doCrash ks)) := by
  have HH := Lib.hid h
  have HF := Lib.hid hF
  obtain ⟨own, dv, pv, kv, hr, hb, ho⟩ := h
  have hc := hr.cdown
  cases hd : st.down with
  | true =>
    rw [hd] at hc
    have : st.doCrash ks = st := by unfold DSt.doCrash; rw [hd]; rfl
    rw [this]
    clear hr hks hd this
    go_enter Try.func18, Try.ntmps18
    go_wp2
    go_end0
    exact ⟨rfl, HH.out, Upd.refl _ _⟩
  | false =>
    rw [hd] at hc
    have : st.doCrash ks = st.crash ks := by unfold DSt.doCrash; rw [hd]; rfl
    rw [this]
    have hcr := Lib.hid ((crashWith b (fun k => ¬ F k ∧ k < w.heap.size) st w (HH.out.mono fun k hk hd => ⟨hd, hk⟩) hg.good keep ks kb hks (fun h => hkb.elim h.1 (fun h' => by have := h.2; omega))).mono fun _ _ h => h.wide (D' := fun k => ¬ F k) fun k h => h.1)
    clear hr hks hd this
    go_enter Try.func18, Try.ntmps18
    go_wp2_with fail
    refine hcr.out.mono ?_
    intro e w1 hm
    have hk := hm.kept HF.out
    obtain ⟨rfl, h1, h2⟩ := hk
    go_wp2
    go_end0
    exact ⟨rfl, h1, h2⟩

omit hF in
theorem law_read (n : Nat) (hg : Fit st n) (f : Int) :
    Calls Try.prog 14 #[dptr b, .int .i64 f] w (Kept F b w (.tuple #[strV (st.read f).1, .int .i64 ((st.read f).2 : Nat)]) st) := by
  have HH := Lib.hid h
  obtain ⟨own, dv, pv, kv, hr, hb, ho⟩ := h
  have hc := hr.cdown
  have hlt := hr.blk.lt
  cases hd : st.down with
  | true =>
    rw [hd] at hc
    have : st.read f = ([], 8) := by unfold DSt.read; rw [hd]; rfl
    rw [this]
    clear hr hd this
    go_enter Try.func14, Try.ntmps14
    go_wp2_with (go_at_call 34; refine (check_down b _ _ (by rw [World.cell?_alloc_past _ _ _ hlt]; exact hc)).mono ?_; rintro e w1 ⟨rfl, rfl⟩)
    go_ret2
    exact ⟨rfl, HH.out.still ((Upd.refl _ _).alloc _), (Upd.refl _ _).alloc _⟩
  | false =>
    by_cases hf : bad f
    · rw [hd] at hc
      have : st.read f = ([], 1) := by unfold DSt.read; rw [hd, if_pos hf]; rfl
      rw [this]
      clear hr hd this
      have HB := Lib.hid hf; clear hf
      go_enter Try.func14, Try.ntmps14
      go_wp2_with (go_at_call 34; refine (check_one b w.heap.size 1 f _ (by rw [World.cell?_alloc_past _ _ _ hlt]; exact hc) (by simp [go_sem]) 1 (.inl ⟨HB.out, rfl⟩)).mono ?_; rintro e w1 ⟨rfl, rfl⟩)
      go_ret2
      exact ⟨rfl, HH.out.still ((Upd.refl _ _).alloc _), (Upd.refl _ _).alloc _⟩
    · have hf' := hf
      unfold bad at hf'
      obtain ⟨f', rfl⟩ := Int.eq_ofNat_of_zero_le (show 0 ≤ f by omega)
      have : st.read (f' : Int) = (rdText st f', 0) := by unfold DSt.read; rw [hd, if_neg hf]; rfl
      rw [this]
      refine (read_yes b f' _ st w HH.out (by omega) hg.good hd).mono ?_
      rintro e w' ⟨rfl, hu⟩
      exact ⟨rfl, HH.out.still hu, hu.mono (fun _ _ h => h.elim)⟩
end

theorem IntsAt.nil (w : World) (kb : Nat) : IntsAt w (.slice none 0 0) [] kb :=
  ⟨⟨none, 0, rfl, by simp⟩, fun _ _ _ j hj => absurd hj (Nat.not_lt_zero _), fun h => absurd h (Nat.not_lt_zero _)⟩

theorem law_crash_nil (F : Nat → Prop) (b : Nat) (st : DSt) (w : World) (hF : ∀ k, F k → k < w.heap.size) (h : Disk w b (fun k => ¬ F k) st) (n : Nat) (hg : Fit st n) :
    Calls Try.prog 18 #[dptr b, .slice none 0 0] w (Kept F b w (.tuple #[]) (st.doCrash [])) :=
  law_crash F b st w hF h n hg _ [] w.heap.size (IntsAt.nil w _) (.inr (Nat.le_refl _))

theorem law_arm_nil (F : Nat → Prop) (b : Nat) (st : DSt) (w : World) (hF : ∀ k, F k → k < w.heap.size) (h : Disk w b (fun k => ¬ F k) st) (m : Int) :
    Calls Try.prog 19 #[dptr b, .int .i64 m, .slice none 0 0] w (Kept F b w (.tuple #[]) (st.arm m [])) :=
  law_arm F b st w hF h m _ [] w.heap.size (IntsAt.nil w _) (fun _ _ _ _ => rfl) (Nat.zero_le _)

theorem law_crash_lit (F : Nat → Prop) (b : Nat) (st : DSt) (w : World) (hF : ∀ k, F k → k < w.heap.size) (h : Disk w b (fun k => ¬ F k) st) (n : Nat) (hg : Fit st n) (ks : List Int) (hk : ks.length ≤ 1000) :
    Calls Try.prog 18 #[dptr b, .slice (some ⟨w.heap.size, 0, none⟩) ks.length ks.length] (w.alloc (.cells (intsV ks).toArray 3)) (Kept F b w (.tuple #[]) (st.doCrash ks)) := by
  have hu := (Upd.refl (fun _ => False) w).alloc (.cells (intsV ks).toArray 3)
  have h1 : Disk (w.alloc (.cells (intsV ks).toArray 3)) b (fun k => ¬ (F k ∨ k = w.heap.size)) st := (h.mono fun k hk hd hf => hf.elim hd (fun e => by omega)).still hu
  have hks : IntsAt (w.alloc (.cells (intsV ks).toArray 3)) (.slice (some ⟨w.heap.size, 0, none⟩) ks.length ks.length) ks w.heap.size := by
    refine ⟨⟨_, _, rfl, by omega⟩, fun a c hv j hj => ?_, fun _ => by simp⟩
    cases hv
    refine ⟨0, rfl, ?_⟩
    have := (Blk.newA w (intsV ks).toArray 3).cell_of (o := j) (v := .int .i64 ks[j]) (by rw [show (intsV ks).toArray.toList = intsV ks from rfl, intsV_get hj])
    rw [Nat.zero_add]
    exact this
  refine (law_crash (fun k => F k ∨ k = w.heap.size) b st _ (fun k hk => ?_) h1 n hg _ ks w.heap.size hks (.inl (.inr rfl))).mono ?_
  · have := hu.size
    rcases hk with hk | hk
    · have := hF k hk; omega
    · rw [hk]; simp
  · rintro e w' ⟨rfl, h2, h3⟩
    exact ⟨rfl, h2.mono fun k _ h hf => h (.inl hf), (hu.mono fun _ _ h => h.elim).trans h3 fun k _ h hf => h (.inl hf)⟩

/-- Where a law stands: the disk b holds st, the blocks of F are as they were in w0. -/
def At (F : Nat → Prop) (b : Nat) (w0 : World) (st : DSt) (w : World) : Prop :=
  (∀ k, F k → k < w.heap.size) ∧ Disk w b (fun k => ¬ F k) st ∧ Upd (fun k => ¬ F k) w0 w

theorem Kept.at {F : Nat → Prop} {b : Nat} {w0 w w' : World} {st st' : DSt} {v : Value} {e : Ending} (h : At F b w0 st w) (hk : Kept F b w v st' e w') : e = .returned v ∧ At F b w0 st' w' :=
  ⟨hk.1, fun k hf => Nat.lt_of_lt_of_le (h.1 k hf) hk.2.2.size, hk.2.1, h.2.2.trans hk.2.2 fun _ _ h => h⟩

section
variable {F : Nat → Prop} {b : Nat} {w0 w : World} {st : DSt} (h : At F b w0 st w)
include h

theorem at_start : Calls Try.prog 16 #[dptr b] w (fun e w' => e = .returned (.tuple #[]) ∧ At F b w0 st.start w') :=
  (law_start F b st w h.2.1).mono fun _ _ k => k.at h
theorem at_lose (n : Int) : Calls Try.prog 23 #[dptr b, .int .i64 n] w (fun e w' => e = .returned (.tuple #[]) ∧ At F b w0 (st.lose n) w') :=
  (law_lose F b st w h.2.1 n).mono fun _ _ k => k.at h
theorem at_down : Calls Try.prog 11 #[dptr b] w (fun e w' => e = .returned (.bool st.down) ∧ At F b w0 st w') :=
  (law_down F b st w h.2.1).mono fun _ _ k => ⟨k.1, k.2 ▸ h⟩

theorem at_size (f : Int) : Calls Try.prog 20 #[dptr b, .int .i64 f] w (fun e w' => e = .returned (.int .i64 (st.size f : Nat)) ∧ At F b w0 st w') :=
  (law_size F b st w h.2.1 f).mono fun _ _ k => ⟨k.1, k.2 ▸ h⟩
theorem at_write {n : Nat} (hg : Fit st n) (hn : n ≤ 1099511627776) (f at_ : Int) (s : ByteArray) (hs : s.size ≤ 140737488355328) :
    Calls Try.prog 21 #[dptr b, .int .i64 f, .int .i64 at_, .string s] w (fun e w' => e = .returned (.int .i64 ((st.doWrite f at_ s.data.toList).1 : Nat)) ∧ At F b w0 (st.doWrite f at_ s.data.toList).2 w') :=
  (law_write F b st w h.1 h.2.1 n hg hn f at_ s hs).mono fun _ _ k => k.at h
theorem at_flush {n : Nat} (hg : Fit st n) (f : Int) : Calls Try.prog 22 #[dptr b, .int .i64 f] w (fun e w' => e = .returned (.int .i64 ((st.flush f).1 : Nat)) ∧ At F b w0 (st.flush f).2 w') :=
  (law_flush F b st w h.1 h.2.1 n hg f).mono fun _ _ k => k.at h
theorem at_cut {n : Nat} (hg : Fit st n) (f m : Int) : Calls Try.prog 32 #[dptr b, .int .i64 f, .int .i64 m] w (fun e w' => e = .returned (.int .i64 ((st.cut f m).1 : Nat)) ∧ At F b w0 (st.cut f m).2 w') :=
  (law_cut F b st w h.1 h.2.1 n hg f m).mono fun _ _ k => k.at h
theorem at_turn {n : Nat} (hg : Fit st n) (hn : n ≤ 1099511627776) (f g : Int) : Calls Try.prog 33 #[dptr b, .int .i64 f, .int .i64 g] w (fun e w' => e = .returned (.int .i64 ((st.turn f g).1 : Nat)) ∧ At F b w0 (st.turn f g).2 w') :=
  (law_turn F b st w h.1 h.2.1 n hg hn f g).mono fun _ _ k => k.at h
theorem at_arm (m : Int) (keep : Value) (ks : List Int) (kb : Nat) (hks : IntsAt w keep ks kb) (hnil : ∀ a c, keep = .slice a ks.length c → a = none → ks = []) (hkl : ks.length ≤ 17592186044416) :
    Calls Try.prog 19 #[dptr b, .int .i64 m, keep] w (fun e w' => e = .returned (.tuple #[]) ∧ At F b w0 (st.arm m ks) w') :=
  (law_arm F b st w h.1 h.2.1 m keep ks kb hks hnil hkl).mono fun _ _ k => k.at h
theorem at_arm_nil (m : Int) : Calls Try.prog 19 #[dptr b, .int .i64 m, .slice none 0 0] w (fun e w' => e = .returned (.tuple #[]) ∧ At F b w0 (st.arm m []) w') :=
  (law_arm_nil F b st w h.1 h.2.1 m).mono fun _ _ k => k.at h
theorem at_crash {n : Nat} (hg : Fit st n) (keep : Value) (ks : List Int) (kb : Nat) (hks : IntsAt w keep ks kb) (hkb : F kb ∨ w.heap.size ≤ kb) :
    Calls Try.prog 18 #[dptr b, keep] w (fun e w' => e = .returned (.tuple #[]) ∧ At F b w0 (st.doCrash ks) w') :=
  (law_crash F b st w h.1 h.2.1 n hg keep ks kb hks hkb).mono fun _ _ k => k.at h
theorem at_crash_nil {n : Nat} (hg : Fit st n) : Calls Try.prog 18 #[dptr b, .slice none 0 0] w (fun e w' => e = .returned (.tuple #[]) ∧ At F b w0 (st.doCrash []) w') :=
  (law_crash_nil F b st w h.1 h.2.1 n hg).mono fun _ _ k => k.at h
theorem at_crash_lit {n : Nat} (hg : Fit st n) (ks : List Int) (hk : ks.length ≤ 1000) :
    Calls Try.prog 18 #[dptr b, .slice (some ⟨w.heap.size, 0, none⟩) ks.length ks.length] (w.alloc (.cells (intsV ks).toArray 3)) (fun e w' => e = .returned (.tuple #[]) ∧ At F b w0 (st.doCrash ks) w') :=
  (law_crash_lit F b st w h.1 h.2.1 n hg ks hk).mono fun _ _ k => k.at h
theorem at_read {n : Nat} (hg : Fit st n) (f : Int) :
    Calls Try.prog 14 #[dptr b, .int .i64 f] w (fun e w' => e = .returned (.tuple #[strV (st.read f).1, .int .i64 ((st.read f).2 : Nat)]) ∧ At F b w0 st w') :=
  (law_read F b st w h.2.1 n hg f).mono fun _ _ k => k.at h
end

theorem at_new (F : Nat → Prop) (w : World) (hF : ∀ k, F k → k < w.heap.size) : Calls Try.prog 9 #[] w (fun e w' => e = .returned (dptr w.heap.size) ∧ At F w.heap.size w st0 w') :=
  (new_any w).mono fun _ w' ⟨h1, h2, h3⟩ => ⟨h1, fun k hf => Nat.lt_of_lt_of_le (hF k hf) h3.size, h2.mono fun k _ e hf => by have := hF k hf; omega, h3.mono fun _ _ h => h.elim⟩


/-- A copy: a second disk in new memory. -/
def Twin (F : Nat → Prop) (b : Nat) (st : DSt) (w : World) (e : Ending) (w' : World) : Prop :=
  ∃ c, e = .returned (dptr c) ∧ Disk w' b (fun k => ¬ F k ∧ k < w.heap.size) st ∧ Disk w' c (fun k => w.heap.size ≤ k) st ∧ Upd (fun _ => False) w w'

theorem law_copy (F : Nat → Prop) (b : Nat) (st : DSt) (w : World) (h : Disk w b (fun k => ¬ F k) st) (n : Nat) (hg : Fit st n) (hn : n ≤ 1099511627776) :
    Calls Try.prog 24 #[dptr b] w (Twin F b st w) := by
  refine (Copy_any b _ st w h hg.good (Nat.le_trans hg.pend hn) hg.keep).mono ?_
  rintro e w' ⟨c, rfl, hd, hu⟩
  exact ⟨c, rfl, Disk.still (h.mono fun k hk hd => ⟨hd, hk⟩) hu, hd, hu⟩

/-- Where a law stands that has two disks. -/
def Two (F : Nat → Prop) (b c : Nat) (w0 : World) (st sc : DSt) (w : World) : Prop :=
  ∃ C : Nat → Prop, (∀ k, C k → ¬ F k ∧ k < w.heap.size) ∧ (∀ k, F k → k < w.heap.size) ∧ Disk w b (fun k => ¬ (F k ∨ C k)) st ∧ Disk w c C sc ∧ Upd (fun k => ¬ F k) w0 w


def Copied2 (F : Nat → Prop) (b : Nat) (w0 : World) (st : DSt) (e : Ending) (w' : World) : Prop := ∃ c, e = .returned (dptr c) ∧ Two F b c w0 st st w'

theorem at_copy {F : Nat → Prop} {b : Nat} {w0 w : World} {st : DSt} (h : At F b w0 st w) {n : Nat} (hg : Fit st n) (hn : n ≤ 1099511627776) :
    Calls Try.prog 24 #[dptr b] w (Copied2 F b w0 st) := by
  refine (law_copy F b st w h.2.1 n hg hn).mono ?_
  rintro e w' ⟨c, rfl, hd, hc, hu⟩
  refine ⟨c, rfl, fun k => w.heap.size ≤ k ∧ k < w'.heap.size, fun k hk => ⟨fun hf => by have := h.1 k hf; omega, hk.2⟩, fun k hf => Nat.lt_of_lt_of_le (h.1 k hf) hu.size, hd.mono fun k _ hk hf => hf.elim hk.1 (fun h => by have := hk.2; omega), hc.mono fun k hk h => ⟨h, hk⟩, h.2.2.trans hu fun _ _ h => h.elim⟩

section
variable {F : Nat → Prop} {b c : Nat} {w0 w : World} {st sc : DSt} (h : Two F b c w0 st sc w)
include h

/-- A call on the first disk. -/
theorem two_b {w1 : World} {fn : Nat} {args : Array Value} {v : Value} {st' : DSt}
    (H : ∀ F' : Nat → Prop, (∀ k, F' k → k < w.heap.size) → Disk w b (fun k => ¬ F' k) st → Calls Try.prog fn args w1 (Kept F' b w v st')) :
    Calls Try.prog fn args w1 (fun e w' => e = .returned v ∧ Two F b c w0 st' sc w') := by
  obtain ⟨C, hC, hF, hb, hc, hu⟩ := h
  refine (H (fun k => F k ∨ C k) (fun k hk => hk.elim (hF k) (fun h => (hC k h).2)) hb).mono ?_
  rintro e w' ⟨rfl, hd, hu2⟩
  have hs := hu2.size
  exact ⟨rfl, C, fun k hk => ⟨(hC k hk).1, Nat.lt_of_lt_of_le (hC k hk).2 hs⟩, fun k hk => Nat.lt_of_lt_of_le (hF k hk) hs, hd, hc.upd hu2 (fun k hk _ h => h (.inr hk)), hu.trans hu2 fun k _ hk hf => hk (.inl hf)⟩

/-- A call on the second disk. -/
theorem two_c {fn : Nat} {args : Array Value} {v : Value} {sc' : DSt}
    (H : ∀ F' : Nat → Prop, (∀ k, F' k → k < w.heap.size) → Disk w c (fun k => ¬ F' k) sc → Calls Try.prog fn args w (Kept F' c w v sc')) :
    Calls Try.prog fn args w (fun e w' => e = .returned v ∧ Two F b c w0 st sc' w') := by
  obtain ⟨C, hC, hF, hb, hc, hu⟩ := h
  refine (H (fun k => k < w.heap.size ∧ ¬ C k) (fun k hk => hk.1) (hc.mono fun k _ hk h => h.2 hk)).mono ?_
  rintro e w' ⟨rfl, hd, hu2⟩
  have hs := hu2.size
  have hb' : Disk w' b (fun k => ¬ (F k ∨ C k) ∧ k < w.heap.size) st := (hb.mono (D' := fun k => ¬ (F k ∨ C k) ∧ k < w.heap.size) fun k hk h => ⟨h, hk⟩).upd hu2 (fun k hk _ h => h ⟨hk.2, fun hc => hk.1 (.inr hc)⟩)
  refine ⟨rfl, fun k => (C k ∨ w.heap.size ≤ k) ∧ k < w'.heap.size, fun k hk => ⟨fun hf => hk.1.elim (fun h => (hC k h).1 hf) (fun h => by have := hF k hf; omega), hk.2⟩, fun k hk => Nat.lt_of_lt_of_le (hF k hk) hs, ?_, ?_, ?_⟩
  · exact hb'.mono fun k _ hk hf => hf.elim (fun h => hk.1 (.inl h)) (fun h => h.1.elim (fun h => hk.1 (.inr h)) (fun h => by have := hk.2; omega))
  · refine hd.mono fun k hk h => ⟨?_, hk⟩
    by_cases hkw : k < w.heap.size
    · exact .inl (Classical.byContradiction fun hn => h ⟨hkw, hn⟩)
    · exact .inr (by omega)
  · exact hu.trans hu2 fun k hk h hf => h ⟨hF k hf, fun hc => (hC k hc).1 hf⟩

theorem Two.cell {k o : Nat} {v : Value} (hc : w0.cell? ⟨k, o, none⟩ = some v) (hF : F k) : w.cell? ⟨k, o, none⟩ = some v := by
  obtain ⟨_, _, _, _, _, hu⟩ := h
  exact (World.cell?_of_block (w := w0) (hu.block k (World.block_lt_of_cell? w0 _ hc) (fun hn => hn hF))).trans hc

theorem two_first : At F b w0 st w := by
  obtain ⟨C, hC, hF, hb, hc, hu⟩ := h
  exact ⟨hF, hb.mono fun k _ hk hf => hk (.inl hf), hu⟩
theorem two_second : At F c w0 sc w := by
  obtain ⟨C, hC, hF, hb, hc, hu⟩ := h
  exact ⟨hF, hc.mono fun k _ hk => (hC k hk).1, hu⟩
end
end Go.Proofs.Ythfnnkfdpnkodaa
