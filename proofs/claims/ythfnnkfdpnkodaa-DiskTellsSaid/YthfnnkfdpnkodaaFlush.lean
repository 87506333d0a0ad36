/- Flush and Cut. -/
import Derived.Test.YthfnnkfdpnkodaaOps2
namespace Go.Proofs.Ythfnnkfdpnkodaa
open Go.RowKit

def DSt.pre (st : DSt) : DSt := if st.fires then st.tick.crash st.tick.keep else st.tick

theorem crash_good {st : DSt} (h : DGood st) (ks : List Int) : DGood (st.crash ks) := by
  refine ⟨fun f hf => crashN_le (fun p hp => (h.pend p hp).2.1) h.dur _ f hf, fun f hf => ?_, fun p hp => (by cases hp), h.lost, Nat.zero_le _⟩
  show (if f < 12 then _ else _) = _
  rw [if_pos hf]; rfl

theorem pre_good {st : DSt} (h : DGood st) : DGood st.pre := by
  unfold DSt.pre
  split
  · exact crash_good (tick_good h) _
  · exact tick_good h

theorem keepP_mem {f : Nat} {ps : List Pc} {p : Pc} (h : p ∈ keepP f ps) : p ∈ ps ∧ p.f ≠ f := by
  unfold keepP at h
  rw [List.mem_filter] at h
  exact ⟨h.1, by simpa using h.2⟩

theorem applyP_keepP {f g : Nat} (hfg : g ≠ f) : ∀ (ps : List Pc) (l : List UInt8), applyP g (keepP f ps) l = applyP g ps l
  | [], _ => rfl
  | p :: ps, l => by
    by_cases hp : p.f = f
    · have : keepP f (p :: ps) = keepP f ps := by unfold keepP; rw [List.filter_cons, if_neg (by simp [hp])]
      rw [this, applyP_keepP hfg ps l]
      show _ = applyP g ps (if p.f = g then _ else l)
      rw [if_neg (by omega)]
    · have : keepP f (p :: ps) = p :: keepP f ps := by unfold keepP; rw [List.filter_cons, if_pos (by simp [hp])]
      rw [this]
      exact applyP_keepP hfg ps _

theorem forget_good {st : DSt} (h : DGood st) {f : Nat} (l : List UInt8) (hl : l.length ≤ 16777216) : DGood (DSt.forget { st with dur := up st.dur f l } f) := by
  refine ⟨fun g hg => ?_, fun g hg => ?_, fun p hp => h.pend p (keepP_mem hp).1, h.lost, h.armed⟩
  · show (up st.dur f l g).length ≤ _
    by_cases e : g = f
    · rw [e, up_same]; exact hl
    · rw [up_other _ _ e]; exact h.dur g hg
  · show up st.siz f (up st.dur f l f).length g = (applyP g (keepP f st.pend) (up st.dur f l g)).length
    by_cases e : g = f
    · rw [e, up_same, up_same, applyP_other _ _ fun p hp => (keepP_mem hp).2]
    · rw [up_other _ _ e, up_other _ _ e, applyP_keepP e]; exact h.siz g hg

theorem settle_good {st : DSt} (h : DGood st) {f : Nat} (hf : f < 12) : DGood (st.settle f) :=
  forget_good h _ (applyP_le (fun p hp => (h.pend p hp).2.1) (h.dur f hf))

def DSt.flush (st : DSt) (f : Int) : Nat × DSt :=
  if st.pre.down then (8, st.pre) else if f < 0 ∨ 12 ≤ f then (1, st.pre) else if 0 < st.pre.lost then (9, { st.pre with lost := st.pre.lost - 1 }) else (0, st.pre.settle f.toNat)

theorem flush_good {st : DSt} (h : DGood st) (f : Int) : DGood (st.flush f).2 := by
  have hp := pre_good h
  unfold DSt.flush
  split
  · exact hp
  · split
    · exact hp
    · split
      · exact ⟨hp.dur, hp.siz, hp.pend, by have := hp.lost; show st.pre.lost - 1 ≤ _; omega, hp.armed⟩
      · exact settle_good hp (by omega)

set_option maxHeartbeats 800000 in
theorem Flush_any (b : Nat) (f : Int) (D : Nat → Prop) (st : DSt) (w : World) (h : Disk w b D st) (hg : DGood st) :
    Calls Try.prog 22 #[dptr b, .int .i64 f] w (Moved b D w (.int .i64 ((st.flush f).1 : Nat)) (st.flush f).2) := by
  have htg := tick_good hg
  cases hfi : st.fires with
  | true =>
    have hpre : st.pre = st.tick.crash st.tick.keep := by unfold DSt.pre; rw [hfi]; rfl
    have hw : st.flush f = (8, st.tick.crash st.tick.keep) := by unfold DSt.flush; rw [hpre]; rfl
    rw [hw]
    have HF := Lib.hid hfi
    clear hfi hw hpre
    go_enter Try.func22, Try.ntmps22
    go_wp2_with fail
    refine (fires_disk b D st w h hg).mono ?_
    rintro e w1 ⟨rfl, h1, hu1⟩
    rw [HF.out]
    obtain ⟨own, dv, pv, kv, hr1, hb1, ho1⟩ := h1
    have c28 := hr1.ckeep
    obtain ⟨ka, kc, rfl, _, _⟩ := hr1.keep.form
    go_wp2_with fail
    refine (crashKeep hr1 hb1 ho1 htg).mono ?_
    intro e w2 hm
    obtain ⟨rfl, h2, hu2⟩ := hm
    have HD2 := Lib.hid h2
    obtain ⟨own2, dv2, pv2, kv2, hr2, hb2, ho2⟩ := h2
    have hc := hr2.cdown
    rw [show (st.tick.crash st.tick.keep).down = true from rfl] at hc
    have hlt := hr2.blk.lt
    clear hr2 hr1
    go_wp2_with (go_at_call 34; refine (check_down b _ _ (by rw [World.cell?_alloc_past _ _ _ hlt]; exact hc)).mono ?_; rintro e w3 ⟨rfl, rfl⟩)
    go_ret
    exact Moved.then hu1 (Moved.then' hu2 (Moved.stay HD2.out ((Upd.refl _ _).alloc _)))
  | false =>
    have hpre : st.pre = st.tick := by unfold DSt.pre; rw [hfi]; rfl
    obtain ⟨r, st', hw⟩ : ∃ r st', st.flush f = (r, st') := ⟨_, _, rfl⟩
    rw [hw]
    unfold DSt.flush at hw
    rw [hpre] at hw
    have HF := Lib.hid hfi
    clear hfi hpre
    by_cases hd : st.tick.down = true
    · rw [if_pos hd] at hw
      cases hw
      have HDn := Lib.hid hd; clear hd
      go_enter Try.func22, Try.ntmps22
      go_wp2_with fail
      refine (fires_disk b D st w h hg).mono ?_
      rintro e w1 ⟨rfl, h1, hu1⟩
      rw [HF.out]
      have HD1 := Lib.hid h1
      obtain ⟨own, dv, pv, kv, hr1, hb1, ho1⟩ := h1
      have hc := hr1.cdown
      have hlt := hr1.blk.lt
      rw [HDn.out] at hc
      clear hr1
      go_wp2_with (go_at_call 34; refine (check_down b _ _ (by rw [World.cell?_alloc_past _ _ _ hlt]; exact hc)).mono ?_; rintro e w3 ⟨rfl, rfl⟩)
      go_ret
      exact Moved.then hu1 (Moved.stay HD1.out ((Upd.refl _ _).alloc _))
    · rw [if_neg hd] at hw
      simp only [Bool.not_eq_true] at hd
      have HDn := Lib.hid hd; clear hd
      by_cases hf : f < 0 ∨ 12 ≤ f
      · rw [if_pos hf] at hw
        cases hw
        have HFF := Lib.hid hf; clear hf
        go_enter Try.func22, Try.ntmps22
        go_wp2_with fail
        refine (fires_disk b D st w h hg).mono ?_
        rintro e w1 ⟨rfl, h1, hu1⟩
        rw [HF.out]
        have HD1 := Lib.hid h1
        obtain ⟨own, dv, pv, kv, hr1, hb1, ho1⟩ := h1
        have hc := hr1.cdown
        have hlt := hr1.blk.lt
        rw [HDn.out] at hc
        clear hr1
        go_wp2_with (go_at_call 34; refine (check_one b w1.heap.size 1 f _ (by rw [World.cell?_alloc_past _ _ _ hlt]; exact hc) (by simp [go_sem]) 1 (.inl ⟨HFF.out, rfl⟩)).mono ?_; rintro e w3 ⟨rfl, rfl⟩)
        go_ret
        exact Moved.then hu1 (Moved.stay HD1.out ((Upd.refl _ _).alloc _))
      · rw [if_neg hf] at hw
        obtain ⟨f', rfl⟩ := Int.eq_ofNat_of_zero_le (show 0 ≤ f by omega)
        have hf' : f' < 12 := by omega
        have hf2 : (f' : Int) < 12 := by omega
        clear hf
        simp only [Int.toNat_natCast] at hw
        by_cases hlo : 0 < st.tick.lost
        · rw [if_pos hlo] at hw
          cases hw
          have hln := htg.lost
          go_enter Try.func22, Try.ntmps22
          go_wp2_with fail
          refine (fires_disk b D st w h hg).mono ?_
          rintro e w1 ⟨rfl, h1, hu1⟩
          rw [HF.out]
          have HD1 := Lib.hid h1
          obtain ⟨own, dv, pv, kv, hr1, hb1, ho1⟩ := h1
          have hc := hr1.cdown
          have hlt := hr1.blk.lt
          rw [HDn.out] at hc
          have c26 := hr1.clost
          have f26 := hr1.froz (o := 26) (by omega)
          obtain ⟨L, hL⟩ : ∃ L, st.tick.lost = L := ⟨_, rfl⟩
          rw [hL] at c26 hlo hln ⊢
          have hL1 : (0 : Int) < L := by omega
          have HL := Lib.hid hL; clear hL
          have hs0 := hr1.setLost (L - 1)
          rw [show (((L - 1 : Nat) : Nat) : Int) = (L : Int) - 1 by omega] at hs0
          have HR := Lib.hid (hs0.upd ((Upd.refl (fun _ => False) _).alloc (.cells #[.int .i64 (f' : Int)] 3)) (fun h => h) (fun _ _ _ _ h => h))
          clear hs0
          clear hr1
          go_wp2_with (go_at_call 34; refine (check_one b w1.heap.size 1 f' _ (by rw [World.cell?_alloc_past _ _ _ hlt]; exact hc) (by simp [go_sem]) 0 (.inr ⟨⟨by omega, by omega⟩, rfl⟩)).mono ?_; rintro e w3 ⟨rfl, rfl⟩)
          go_ret
          have e := HL.out
          subst e
          exact Moved.then hu1 ⟨rfl, ⟨_, _, _, _, HR.out, .inl hb1, fun i k hi hk => .inl (ho1 i k hi hk)⟩, ((Upd.refl _ _).setCell (fun _ => hb1) _).alloc _⟩
        · rw [if_neg hlo] at hw
          cases hw
          go_enter Try.func22, Try.ntmps22
          go_wp2_with fail
          refine (fires_disk b D st w h hg).mono ?_
          rintro e w1 ⟨rfl, h1, hu1⟩
          rw [HF.out]
          have HD1 := Lib.hid h1
          obtain ⟨own, dv, pv, kv, hr1, hb1, ho1⟩ := h1
          have hc := hr1.cdown
          have hlt := hr1.blk.lt
          rw [HDn.out] at hc
          have c26 := hr1.clost
          rw [show st.tick.lost = 0 by omega] at c26
          clear hr1
          go_wp2_with (first
            | (go_at_call 34; refine (check_one b w1.heap.size 1 f' _ (by rw [World.cell?_alloc_past _ _ _ hlt]; exact hc) (by simp [go_sem]) 0 (.inr ⟨⟨by omega, by omega⟩, rfl⟩)).mono ?_; rintro e w3 ⟨rfl, rfl⟩)
            | fail)
          refine (settle_rep b f' (After D w1) st.tick _ (HD1.out.stay ((Upd.refl _ _).alloc _)) hf' htg).mono ?_
          intro e w3 hm
          obtain ⟨rfl, h3, hu3⟩ := hm
          go_wp2
          go_ret
          exact Moved.then hu1 (Moved.then' ((Upd.refl _ _).alloc _) ⟨rfl, h3, hu3⟩)
end Go.Proofs.Ythfnnkfdpnkodaa
