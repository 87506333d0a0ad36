/- The reference's fits and comes, walked. -/
import Derived.Test.YthfnnkfdpnkodaaRefCrash
namespace Go.Proofs.Ythfnnkfdpnkodaa
open Go.RowKit

def okW (f at_ : Int) (n : Nat) : Prop := 0 ≤ f ∧ f ≤ 11 ∧ 0 ≤ at_ ∧ at_ + n ≤ 16777216
instance (f at_ : Int) (n : Nat) : Decidable (okW f at_ n) := by unfold okW; exact inferInstance

def DSt.comes (st : DSt) (rk : List Int) (f at_ : Int) (s : List UInt8) : DSt :=
  if st.fires then (if okW f at_ s.length then st.tick.wrote f.toNat at_.toNat s else st.tick).crash rk else st.tick

theorem rfits_yes (at_ : Int) (s : ByteArray) (w : World) (h0 : 0 ≤ at_) (h1 : at_ + s.size ≤ 16777216) :
    Calls Try.prog 56 #[.int .i64 at_, .string s] w (fun e w' => e = .returned (.bool true) ∧ w = w') := by
  have h2 : at_ ≤ 16777216 := by omega
  go_enter Try.func56, Try.ntmps56
  go_wp2
  go_ret
  exact ⟨rfl, rfl⟩

theorem rfits_no (at_ : Int) (s : ByteArray) (w : World) (h1 : at_ < 0 ∨ 16777216 < at_ + s.size) (hs : s.size ≤ 140737488355328) :
    Calls Try.prog 56 #[.int .i64 at_, .string s] w (fun e w' => e = .returned (.bool false) ∧ w = w') := by
  by_cases h0 : at_ < 0
  · clear h1
    go_enter Try.func56, Try.ntmps56
    go_wp2
    go_ret
    exact ⟨rfl, rfl⟩
  · have h0' : 0 ≤ at_ := by omega
    have h1' : 16777216 < at_ + s.size := by omega
    clear h1 h0
    by_cases h2 : 16777216 < at_
    · clear h1'
      go_enter Try.func56, Try.ntmps56
      go_wp2
      go_ret
      exact ⟨rfl, rfl⟩
    · have h2' : at_ ≤ 16777216 := by omega
      clear h2
      go_enter Try.func56, Try.ntmps56
      go_wp2
      go_ret
      refine ⟨?_, rfl⟩
      show Ending.returned (.bool (decide _)) = _
      rw [decide_eq_false (by omega)]




section
variable (F : Nat → Prop) (b : Nat) (st : DSt) (rk : List Int) (w : World) (hF : ∀ k, F k → k < w.heap.size) (h : RD b st rk w (fun k => ¬ F k))
include hF h

omit hF in
theorem rcomes_idle (hd : st.down = true ∨ st.armed = 0) (f at_ : Int) (s : ByteArray) : Calls Try.prog 55 #[dptr b, .int .i64 f, .int .i64 at_, .string s] w (KeptR F b w (.tuple #[]) (st.comes rk f at_ s.data.toList) rk) := by
  have e : st.comes rk f at_ s.data.toList = st := by
    unfold DSt.comes DSt.fires DSt.tick
    rcases hd with hd | hd
    · rw [hd]; rfl
    · rw [hd]
      cases st
      simp only at hd ⊢
      subst hd
      simp
  rw [e]
  clear e
  have c3 : w.cell? ⟨b, 3, none⟩ = some (.bool st.down) := Owned.sc h rfl
  have c4 : w.cell? ⟨b, 4, none⟩ = some (.int .i64 st.armed) := Owned.sc h rfl
  have f4 : w.frozen? ⟨b, 4, none⟩ = false := Owned.froz h (by simp [rflds])
  have H := Lib.hid h
  clear h
  cases hdd : st.down with
  | true =>
    rw [hdd] at c3
    clear hdd hd
    go_enter Try.func55, Try.ntmps55
    go_wp2
    go_end0
    exact ⟨rfl, H.out, Upd.refl _ _⟩
  | false =>
    rw [hdd] at c3 hd
    have ha : st.armed = 0 := by rcases hd with hd | hd
                                 · cases hd
                                 · exact hd
    rw [ha] at c4
    clear hdd hd ha
    go_enter Try.func55, Try.ntmps55
    go_wp2
    go_end0
    exact ⟨rfl, H.out, Upd.refl _ _⟩

omit hF in
theorem rcomes_tick (hd : st.down = false) (ha : 2 ≤ st.armed) (ha2 : st.armed ≤ 9223372036854775807) (f at_ : Int) (s : ByteArray) : Calls Try.prog 55 #[dptr b, .int .i64 f, .int .i64 at_, .string s] w (KeptR F b w (.tuple #[]) (st.comes rk f at_ s.data.toList) rk) := by
  obtain ⟨m, hm⟩ : ∃ m, st.armed = m + 2 := ⟨st.armed - 2, by omega⟩
  have e : st.comes rk f at_ s.data.toList = { st with armed := m + 1 } := by
    unfold DSt.comes DSt.fires DSt.tick
    rw [hd, hm]
    simp
  rw [e]
  clear e
  have c3 : w.cell? ⟨b, 3, none⟩ = some (.bool st.down) := Owned.sc h rfl
  have c4 : w.cell? ⟨b, 4, none⟩ = some (.int .i64 st.armed) := Owned.sc h rfl
  have f4 : w.frozen? ⟨b, 4, none⟩ = false := Owned.froz h (by simp [rflds])
  have hbF : ¬ F b := h.b_in
  have h1 := Lib.hid (show RD b { st with armed := m + 1 } rk (w.setCell ⟨b, 4, none⟩ (.int .i64 ((m : Int) + 1))) (fun k => ¬ F k) from Owned.setSc h (i := 4) rfl (.int .i64 ((m : Int) + 1)))
  have hu : Hid (Upd (fun k => ¬ F k) w (w.setCell ⟨b, 4, none⟩ (.int .i64 ((m : Int) + 1)))) := Lib.hid ((Upd.refl _ w).setCell (p := ⟨b, 4, none⟩) (fun _ => hbF) _)
  rw [hd] at c3
  rw [hm] at c4
  have e1 : (((m + 2 : Nat) : Int) == 0) = false := beq_eq_false_iff_ne.2 (by omega)
  have e2 : 0 < (m : Int) + 1 := by omega
  have hm2 : (m : Int) ≤ 9223372036854775805 := by omega
  clear h hd ha ha2 hm
  go_enter Try.func55, Try.ntmps55
  go_wp2
  go_end0
  have e3 : (m : Int) + 2 - 1 = (m : Int) + 1 := by omega
  rw [e3]
  exact ⟨rfl, h1.out, hu.out⟩

omit hF in
theorem RD.keepAt : ∃ a c kb, w.cell? ⟨b, 5, none⟩ = some (.slice a rk.length c) ∧ IntsAt w (.slice a rk.length c) rk kb ∧ (rk ≠ [] → kb ≠ b) := by
  obtain ⟨v, g, c5, r5, hd5, _⟩ := Owned.focus h (i := 5) rfl
  obtain ⟨a, c, rfl, hc1, hc2⟩ := r5.form
  cases hrk : rk with
  | nil =>
    rw [hrk] at c5
    exact ⟨a, c, 0, c5, ⟨⟨a, c, rfl, by simp⟩, fun _ _ _ j hj => absurd hj (by simp), fun h => absurd h (by simp)⟩, fun h => absurd rfl h⟩
  | cons x y =>
    rw [← hrk]
    obtain ⟨kb, cap, hv, hg, _, _⟩ := r5.pos (by rw [hrk]; simp)
    refine ⟨a, c, kb, c5, ⟨⟨a, c, rfl, by unfold maxLen at hc2; omega⟩, fun a' c' hv' j hj => ?_, fun _ => r5.lt hg⟩, fun _ => (hd5 kb hg).2⟩
    cases hv'
    cases hv
    exact ⟨0, rfl, by rw [Nat.zero_add]; exact r5.cell hg (intsV_get hj)⟩

theorem rcomes_fire (n : Nat) (hgd : Fit st n) (hn : n ≤ 1000000000000) (hd : st.down = false) (ha : st.armed = 1) (f at_ : Int) (s : ByteArray) (hs : s.size ≤ 140737488355328) : Calls Try.prog 55 #[dptr b, .int .i64 f, .int .i64 at_, .string s] w (KeptR F b w (.tuple #[]) (st.comes rk f at_ s.data.toList) rk) := by
  have e : st.comes rk f at_ s.data.toList = (if okW f at_ s.data.toList.length then st.tick.wrote f.toNat at_.toNat s.data.toList else st.tick).crash rk := by
    unfold DSt.comes
    rw [if_pos (by unfold DSt.fires; rw [hd, ha]; rfl)]
  have ht : st.tick = { st with armed := 0 } := by unfold DSt.tick; rw [hd, ha]; rfl
  rw [e]
  clear e
  have c3 : w.cell? ⟨b, 3, none⟩ = some (.bool st.down) := Owned.sc h rfl
  have c4 : w.cell? ⟨b, 4, none⟩ = some (.int .i64 st.armed) := Owned.sc h rfl
  have f4 : w.frozen? ⟨b, 4, none⟩ = false := Owned.froz h (by simp [rflds])
  have hbF : ¬ F b := h.b_in
  have h1 : RD b st.tick rk (w.setCell ⟨b, 4, none⟩ (.int .i64 0)) (fun k => ¬ F k) := by rw [ht]; exact Owned.setSc h (i := 4) rfl (.int .i64 0)
  have c4b : (w.setCell ⟨b, 4, none⟩ (.int .i64 0)).cell? ⟨b, 4, none⟩ = some (.int .i64 0) := by
    have := Owned.sc h1 (i := 4) (v := .int .i64 (st.tick.armed : Nat)) rfl
    rw [ht] at this
    exact this
  have hu1 : Upd (fun k => ¬ F k) w (w.setCell ⟨b, 4, none⟩ (.int .i64 0)) := (Upd.refl _ w).setCell (p := ⟨b, 4, none⟩) (fun _ => hbF) _
  obtain ⟨w1, hw1⟩ : ∃ w1, w1 = w.setCell ⟨b, 4, none⟩ (.int .i64 0) := ⟨_, rfl⟩
  rw [← hw1] at h1 hu1 c4b
  rw [hd] at c3
  rw [ha] at c4
  have hgt := Lib.hid hgd.tick
  have hdt : Hid (st.tick.down = false) := Lib.hid (by rw [ht]; exact hd)
  have hF1 : ∀ k, F k → k < w1.heap.size := fun k hk => Nat.lt_of_lt_of_le (hF k hk) hu1.size
  have HF1 := Lib.hid hF1
  have H1 := Lib.hid h1
  have HU1 := Lib.hid hu1
  have HW1 := Lib.hid hw1
  have HSL := Lib.hid (data_len s)
  clear h h1 hu1 hF hF1 hgd hd ha ht
  have key : ∀ (w2 : World) (st2 : DSt), RD b st2 rk w2 (fun k => ¬ F k) → Upd (fun k => ¬ F k) w1 w2 → DGood st2 → st2.pend.length ≤ 1099511627776 → st2.down = false → ∃ a c, w2.cell? ⟨b, 5, none⟩ = some (.slice a rk.length c) ∧ Calls Try.prog 47 #[dptr b, .slice a rk.length c] w2 (KeptR F b w2 (.tuple #[]) (st2.crash rk) rk) := by
    intro w2 st2 h2 hu2 hg2 hp2 hd2
    obtain ⟨a, c, kb, c5, hks, hkb⟩ := RD.keepAt F b st2 rk w2 h2
    exact ⟨a, c, c5, rcrash_up F b st2 rk w2 (fun k hk => Nat.lt_of_lt_of_le (HF1.out k hk) hu2.size) h2 hg2 hp2 _ rk kb hks hkb hd2⟩
  have KEY := Lib.hid key
  clear key
  by_cases hok : okW f at_ s.data.toList.length
  · rw [if_pos hok]
    have hok' := hok
    unfold okW at hok'
    rw [HSL.out] at hok'
    obtain ⟨o1, o2, o3, o4⟩ := hok'
    obtain ⟨f', rfl⟩ := Int.eq_ofNat_of_zero_le o1
    obtain ⟨at', rfl⟩ := Int.eq_ofNat_of_zero_le o3
    have hadd := Lib.hid (radd_any F b f' at' st.tick rk s w1 HF1.out H1.out (by omega) (by have := hgt.out.pend; omega))
    have hgw : Hid (Fit (st.tick.wrote f' at' s.data.toList) (n + s.data.toList.length)) := by
      have := hgt.out.write (f' : Int) (at' : Int) s.data.toList
      unfold DSt.write at this
      rw [hdt.out, if_neg (by simp), if_neg (by omega), if_neg (by omega), if_neg (by have := HSL.out; omega)] at this
      exact Lib.hid this
    rw [Int.toNat_natCast, Int.toNat_natCast]
    clear hok
    go_enter Try.func55, Try.ntmps55
    go_upto_region 2 with fail
    rw [← HW1.out]
    clear hw1 HW1 c3 c4 f4
    go_wp2_with (go_at_call 56; refine (rfits_yes _ _ _ o3 o4).mono ?_; rintro e w6 ⟨rfl, rfl⟩)
    refine hadd.out.mono ?_
    rintro e w2 ⟨rfl, h2, hu2⟩
    obtain ⟨a5, c5, hc5, hcr⟩ := KEY.out w2 _ h2 hu2 hgw.out.good (by have := hgw.out.pend; have := HSL.out; omega) hdt.out
    have HCR := Lib.hid hcr
    have HU2 := Lib.hid (HU1.out.trans hu2 fun _ _ h => h)
    clear h2 hu2 hcr c4b
    go_wp2_with fail
    refine HCR.out.mono ?_
    rintro e w3 ⟨rfl, h3, hu3⟩
    go_wp2_with fail
    go_end0
    exact ⟨rfl, h3, HU2.out.trans hu3 fun _ _ h => h⟩
  · rw [if_neg hok]
    obtain ⟨a5, c5, hc5, hcr⟩ := KEY.out w1 _ H1.out (Upd.refl _ _) hgt.out.good (by have := hgt.out.pend; omega) hdt.out
    have HCR := Lib.hid hcr
    clear hcr
    have HOK := Lib.hid hok
    clear hok
    by_cases g1 : f < 0
    · have g3 : Hid True := Lib.hid trivial
      go_enter Try.func55, Try.ntmps55
      go_upto_region 2 with fail
      rw [← HW1.out]
      clear hw1 HW1 c3 c4 f4
      go_wp2_with fail
      refine HCR.out.mono ?_
      rintro e w3 ⟨rfl, h3, hu3⟩
      go_wp2_with fail
      go_end0
      exact ⟨rfl, h3, HU1.out.trans hu3 fun _ _ h => h⟩
    · have g1' : 0 ≤ f := by omega
      by_cases g2 : 11 < f
      · have g3 : Hid True := Lib.hid trivial
        go_enter Try.func55, Try.ntmps55
        go_upto_region 2 with fail
        rw [← HW1.out]
        clear hw1 HW1 c3 c4 f4
        go_wp2_with fail
        refine HCR.out.mono ?_
        rintro e w3 ⟨rfl, h3, hu3⟩
        go_wp2_with fail
        go_end0
        exact ⟨rfl, h3, HU1.out.trans hu3 fun _ _ h => h⟩
      · have g2' : f ≤ 11 := by omega
        have g3 : Hid (at_ < 0 ∨ 16777216 < at_ + s.size) := Lib.hid (by
          have h1 := HOK.out
          unfold okW at h1
          rw [HSL.out] at h1
          omega)
        clear g1 g2
        go_enter Try.func55, Try.ntmps55
        go_upto_region 2 with fail
        rw [← HW1.out]
        clear hw1 HW1 c3 c4 f4
        go_wp2_with (go_at_call 56; refine (rfits_no _ _ _ g3.out hs).mono ?_; rintro e w6 ⟨rfl, rfl⟩)
        refine HCR.out.mono ?_
        rintro e w3 ⟨rfl, h3, hu3⟩
        go_wp2_with fail
        go_end0
        exact ⟨rfl, h3, HU1.out.trans hu3 fun _ _ h => h⟩
end
end Go.Proofs.Ythfnnkfdpnkodaa
