/- The prefix that counts a call and crashes; Write, Flush, Crash, Arm. -/
import Derived.Test.YthfnnkfdpnkodaaRead
namespace Go.Proofs.Ythfnnkfdpnkodaa
open Go.RowKit

def DSt.tick (st : DSt) : DSt := if st.down then st else { st with armed := st.armed - 1 }
def DSt.fires (st : DSt) : Bool := !st.down && st.armed == 1

theorem fires_disk (b : Nat) (D : Nat → Prop) (st : DSt) (w : World) (h : Disk w b D st) (hg : DGood st) :
    Calls Try.prog 38 #[dptr b] w (fun e w' => e = .returned (.bool st.fires) ∧ Disk w' b D st.tick ∧ Upd D w w') := by
  obtain ⟨own, dv, pv, kv, hr, hb, ho⟩ := h
  have h25 := hr.cdown
  have h27 := hr.carmed
  have f27 := hr.froz (o := 27) (by omega)
  cases hd : st.down with
  | true =>
    rw [hd] at h25
    refine (fires_down b w h25).mono ?_
    rintro e w' ⟨rfl, rfl⟩
    exact ⟨by simp [DSt.fires, hd], ⟨own, dv, pv, kv, by unfold DSt.tick; rw [hd]; exact hr, hb, ho⟩, Upd.refl _ _⟩
  | false =>
    rw [hd] at h25
    cases ha : st.armed with
    | zero =>
      rw [ha] at h27
      refine (fires_0 b w h25 h27).mono ?_
      rintro e w' ⟨rfl, rfl⟩
      refine ⟨by simp [DSt.fires, hd, ha], ⟨own, dv, pv, kv, ?_, hb, ho⟩, Upd.refl _ _⟩
      have : st.tick = st := by unfold DSt.tick; rw [hd, ha]; cases st; simp at *; exact ⟨hd, ha.symm⟩
      rw [this]; exact hr
    | succ n =>
      rw [ha] at h27
      refine (fires_arm b n w h25 h27 f27 (by have := hg.armed; omega)).mono ?_
      rintro e w' ⟨rfl, rfl⟩
      refine ⟨by simp [DSt.fires, hd, ha], ⟨own, dv, pv, kv, ?_, hb, ho⟩, (Upd.refl _ _).setCell (fun _ => hb) _⟩
      have : st.tick = { st with armed := n } := by unfold DSt.tick; rw [hd, ha]; rfl
      rw [this]; exact hr.setArmed n

theorem intsV_get {ks : List Int} {j : Nat} (hj : j < ks.length) : (intsV ks)[j]? = some (.int .i64 ks[j]) := by simp [intsV, hj]

theorem keep_ints {w : World} {b : Nat} {own : Nat → Option Nat} {dv : Nat → Value} {pv kv : Value} {st : DSt} (hr : DRep w b own dv pv kv st) :
    ∃ kb, IntsAt w kv st.keep kb ∧ (∀ f, f < 12 → own f ≠ some kb) ∧ kb ≠ b := by
  obtain ⟨a, c, hv, hc1, hc2⟩ := hr.keep.form
  have hl : st.keep.length ≤ 9223372036854775807 := by unfold maxLen at hc2; omega
  by_cases hn : 0 < st.keep.length
  · obtain ⟨kb, kc, hv', hg, _, _⟩ := hr.keep.pos hn
    refine ⟨kb, ⟨⟨_, _, hv', hl⟩, fun a c h j hj => ?_, fun _ => hr.keep.lt hg⟩, fun f hf h => ?_, fun h => hr.notb 13 (by omega) (h ▸ hg)⟩
    · rw [hv'] at h
      cases h
      exact ⟨0, rfl, by rw [Nat.zero_add]; exact hr.keep.cell hg (intsV_get hj)⟩
    · have := hr.apart f 13 kb (by omega) (by omega) h hg; omega
  · refine ⟨w.heap.size, ⟨⟨a, c, hv, hl⟩, fun a c h j hj => absurd hj (by omega), fun h => absurd h hn⟩, fun f hf h => ?_, fun h => ?_⟩
    · have := hr.lt (i := f) (by omega) h; omega
    · have := hr.blk.lt; omega

theorem crashKeep {b : Nat} {D : Nat → Prop} {own : Nat → Option Nat} {dv : Nat → Value} {pv kv : Value} {st : DSt} {w : World} (hr : DRep w b own dv pv kv st) (hb : D b) (ho : ∀ i k, i < 14 → own i = some k → D k) (hg : DGood st) :
    Calls Try.prog 36 #[dptr b, kv] w (Moved b D w (.tuple #[]) (st.crash st.keep)) := by
  obtain ⟨kb, hks, h1, h2⟩ := keep_ints hr
  refine (crash_rep b own dv pv kv st w hr hg kv st.keep kb hks h1 h2).mono ?_
  rintro e w' ⟨rfl, ⟨own', dv', pv', kv', hr', ho'⟩, hu⟩
  refine ⟨rfl, ⟨own', dv', pv', kv', hr', .inl hb, fun i k hi hk => (ho' i k hi hk).imp (ho i k hi) id⟩, hu.mono fun k _ hk => ?_⟩
  rcases hk with rfl | ⟨f, hf, hk⟩
  · exact hb
  · exact ho f k (by omega) hk

theorem crashWith (b : Nat) (D : Nat → Prop) (st : DSt) (w : World) (h : Disk w b D st) (hg : DGood st) (keep : Value) (ks : List Int) (kb : Nat) (hks : IntsAt w keep ks kb) (hkb : ¬ D kb) :
    Calls Try.prog 36 #[dptr b, keep] w (Moved b D w (.tuple #[]) (st.crash ks)) := by
  obtain ⟨own, dv, pv, kv, hr, hb, ho⟩ := h
  refine (crash_rep b own dv pv kv st w hr hg keep ks kb hks (fun f hf h => hkb (ho f kb (by omega) h)) (fun h => hkb (h ▸ hb))).mono ?_
  rintro e w' ⟨rfl, ⟨own', dv', pv', kv', hr', ho'⟩, hu⟩
  refine ⟨rfl, ⟨own', dv', pv', kv', hr', .inl hb, fun i k hi hk => (ho' i k hi hk).imp (ho i k hi) id⟩, hu.mono fun k _ hk => ?_⟩
  rcases hk with rfl | ⟨f, hf, hk⟩
  · exact hb
  · exact ho f k (by omega) hk

theorem Moved.stay {b : Nat} {D : Nat → Prop} {st : DSt} {w w' : World} {v : Value} (h : Disk w b D st) (u : Upd (fun _ => False) w w') : Moved b D w v st (.returned v) w' :=
  ⟨rfl, h.stay u, u.mono fun _ _ h => h.elim⟩

/-- A step behind a step. -/
theorem Moved.then {b : Nat} {D : Nat → Prop} {st : DSt} {w w1 w2 : World} {v : Value} {e : Ending} (hu : Upd D w w1) (h : Moved b D w1 v st e w2) : Moved b D w v st e w2 := by
  obtain ⟨h1, h2, h3⟩ := h
  have := hu.size
  exact ⟨h1, h2.mono fun k _ hk => hk.imp id (fun h => by omega), hu.trans h3 fun _ _ h => h⟩

theorem Moved.then' {b : Nat} {D : Nat → Prop} {st : DSt} {w w1 w2 : World} {v : Value} {e : Ending} (hu : Upd D w w1) (h : Moved b (After D w) w1 v st e w2) : Moved b D w v st e w2 := by
  obtain ⟨h1, h2, h3⟩ := h
  have := hu.size
  refine ⟨h1, h2.mono fun k _ hk => ?_, hu.trans h3 fun k hk h => h.resolve_right (by omega)⟩
  rcases hk with hk | hk
  · exact hk
  · exact .inr (by omega)

def DSt.write (st : DSt) (f at_ : Int) (s : List UInt8) : Nat × DSt :=
  if st.down then (8, st) else if f < 0 ∨ 12 ≤ f then (1, st) else if at_ < 0 then (1, st) else if at_ > 16777216 - (s.length : Int) then (6, st) else (0, st.wrote f.toNat at_.toNat s)


set_option maxHeartbeats 800000 in
theorem write_any (b : Nat) (f at_ : Int) (s : ByteArray) (D : Nat → Prop) (st : DSt) (w : World) (h : Disk w b D st) (hg : DGood st) (hp : st.pend.length ≤ 1099511627776) (hss : s.size ≤ 140737488355328) :
    Calls Try.prog 39 #[dptr b, .int .i64 f, .int .i64 at_, .string s] w (Moved b D w (.int .i64 ((st.write f at_ s.data.toList).1 : Nat)) (st.write f at_ s.data.toList).2) := by
  have hl := data_len s
  obtain ⟨r, st', hw⟩ : ∃ r st', st.write f at_ s.data.toList = (r, st') := ⟨_, _, rfl⟩
  rw [hw]
  unfold DSt.write at hw
  have h' := Lib.hid h
  obtain ⟨own, dv, pv, kv, hr, hb, ho⟩ := h
  have hc := hr.cdown
  have hlt := hr.blk.lt
  clear hr ho hb
  by_cases hd : st.down = true
  · rw [if_pos hd] at hw
    cases hw
    rw [hd] at hc
    go_enter Try.func39, Try.ntmps39
    go_wp2_with (go_at_call 34; refine (check_down b _ _ (by rw [World.cell?_alloc_past _ _ _ hlt]; exact hc)).mono ?_; rintro e w1 ⟨rfl, rfl⟩)
    go_ret
    exact Moved.stay h'.out ((Upd.refl _ _).alloc _)
  · rw [if_neg hd] at hw
    simp only [Bool.not_eq_true] at hd
    rw [hd] at hc
    by_cases hf : f < 0 ∨ 12 ≤ f
    · rw [if_pos hf] at hw
      cases hw
      have HF := Lib.hid hf; clear hf
      go_enter Try.func39, Try.ntmps39
      go_wp2_with (go_at_call 34; refine (check_one b w.heap.size 1 f _ (by rw [World.cell?_alloc_past _ _ _ hlt]; exact hc) (by simp [go_sem]) 1 (.inl ⟨HF.out, rfl⟩)).mono ?_; rintro e w1 ⟨rfl, rfl⟩)
      go_ret
      exact Moved.stay h'.out ((Upd.refl _ _).alloc _)
    · rw [if_neg hf] at hw
      by_cases ha : at_ < 0
      · rw [if_pos ha] at hw
        cases hw
        have HF := Lib.hid hf; clear hf
        go_enter Try.func39, Try.ntmps39
        go_wp2_with (go_at_call 34; refine (check_one b w.heap.size 1 f _ (by rw [World.cell?_alloc_past _ _ _ hlt]; exact hc) (by simp [go_sem]) 0 (.inr ⟨⟨by have := HF.out; omega, by have := HF.out; omega⟩, rfl⟩)).mono ?_; rintro e w1 ⟨rfl, rfl⟩)
        go_ret
        exact Moved.stay h'.out ((Upd.refl _ _).alloc _)
      · rw [if_neg ha] at hw
        by_cases hm : at_ > 16777216 - (s.data.toList.length : Int)
        · rw [if_pos hm] at hw
          cases hw
          have HF := Lib.hid hf; clear hf
          have hm' : 16777216 - (s.size : Int) < at_ := by omega
          clear hl hm
          go_enter Try.func39, Try.ntmps39
          go_wp2_with (go_at_call 34; refine (check_one b w.heap.size 1 f _ (by rw [World.cell?_alloc_past _ _ _ hlt]; exact hc) (by simp [go_sem]) 0 (.inr ⟨⟨by have := HF.out; omega, by have := HF.out; omega⟩, rfl⟩)).mono ?_; rintro e w1 ⟨rfl, rfl⟩)
          go_ret
          exact Moved.stay h'.out ((Upd.refl _ _).alloc _)
        · rw [if_neg hm] at hw
          cases hw
          obtain ⟨f', rfl⟩ := Int.eq_ofNat_of_zero_le (show 0 ≤ f by omega)
          obtain ⟨a', rfl⟩ := Int.eq_ofNat_of_zero_le (show 0 ≤ at_ by omega)
          simp only [Int.toNat_natCast]
          refine write_yes b f' a' s D st w h'.out hd (by omega) (by omega) hp ?_
          rw [hg.siz f' (by omega)]
          exact applyP_le (fun p hp => (hg.pend p hp).2.1) (hg.dur f' (by omega))
end Go.Proofs.Ythfnnkfdpnkodaa
