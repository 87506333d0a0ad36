/- The reference's comes, Write, Read, Size and Flush, walked. -/
import Derived.Test.YthfnnkfdpnkodaaRefComes
import Derived.Test.YthfnnkfdpnkodaaRefWo
namespace Go.Proofs.Ythfnnkfdpnkodaa
open Go.RowKit

def RInv (st : DSt) (rk : List Int) : Prop := st.armed ≠ 0 → rk = st.keep

theorem rcomes_any (F : Nat → Prop) (b : Nat) (st : DSt) (rk : List Int) (w : World) (hF : ∀ k, F k → k < w.heap.size) (h : RD b st rk w (fun k => ¬ F k)) (n : Nat) (hg : Fit st n) (hn : n ≤ 1000000000000) (f at_ : Int) (s : ByteArray) (hs : s.size ≤ 140737488355328) :
    Calls Try.prog 55 #[dptr b, .int .i64 f, .int .i64 at_, .string s] w (KeptR F b w (.tuple #[]) (st.comes rk f at_ s.data.toList) rk) := by
  by_cases hd : st.down = true ∨ st.armed = 0
  · exact rcomes_idle F b st rk w h hd f at_ s
  · have hd' : st.down = false := by
      cases h1 : st.down with
      | true => exact absurd (.inl h1) hd
      | false => rfl
    have ha : st.armed ≠ 0 := fun e => hd (.inr e)
    by_cases h2 : 2 ≤ st.armed
    · exact rcomes_tick F b st rk w h hd' h2 hg.good.armed f at_ s
    · exact rcomes_fire F b st rk w hF h n hg hn hd' (by omega) f at_ s hs

theorem fires_armed {st : DSt} (h : st.fires = true) : st.armed ≠ 0 := by
  unfold DSt.fires at h
  simp at h
  omega

theorem tick_keep (st : DSt) : st.tick.keep = st.keep := by unfold DSt.tick; split <;> rfl

theorem wrote_nil (st : DSt) : st.wrote 0 0 [] = st := by
  unfold DSt.wrote
  rw [pieces_nil, List.append_nil, if_pos rfl, up_id]

theorem comes_pre {st : DSt} {rk : List Int} (hr : RInv st rk) : st.comes rk 0 0 [] = st.pre := by
  unfold DSt.comes DSt.pre
  split
  · rename_i hf
    have e : rk = st.tick.keep := by rw [tick_keep]; exact hr (fires_armed hf)
    rw [e]
    split
    · rw [Int.toNat_zero, wrote_nil]
    · rfl
  · rfl

/-- The state of the reference behind a Write. -/
theorem comes_write {st : DSt} {rk : List Int} (hr : RInv st rk) (f at_ : Int) (s : List UInt8) :
    (st.fires = true → st.comes rk f at_ s = (st.doWrite f at_ s).2 ∧ (st.doWrite f at_ s).1 = 8 ∧ (st.comes rk f at_ s).down = true) ∧ (st.fires = false → st.comes rk f at_ s = st.tick ∧ st.doWrite f at_ s = st.tick.write f at_ s) := by
  unfold DSt.comes DSt.doWrite
  refine ⟨fun hf => ?_, fun hf => ?_⟩
  · rw [if_pos hf, if_pos hf]
    have e : rk = st.keep := hr (fires_armed hf)
    have hd : st.tick.down = false := by
      have h1 := hf
      unfold DSt.fires at h1
      simp at h1
      unfold DSt.tick
      split
      · exact h1.1
      · exact h1.1
    have hw : (st.tick.write f at_ s).2 = if okW f at_ s.length then st.tick.wrote f.toNat at_.toNat s else st.tick := by
      by_cases hok : okW f at_ s.length
      · rw [if_pos hok]
        unfold okW at hok
        unfold DSt.write
        rw [hd, if_neg (by simp), if_neg (by omega), if_neg (by omega), if_neg (by omega)]
      · rw [if_neg hok]
        unfold okW at hok
        unfold DSt.write
        rw [hd, if_neg (by simp)]
        by_cases a1 : f < 0 ∨ 12 ≤ f
        · rw [if_pos a1]
        · rw [if_neg a1]
          by_cases a2 : at_ < 0
          · rw [if_pos a2]
          · rw [if_neg a2, if_pos (by omega)]
    have hk : (st.tick.write f at_ s).2.keep = rk := by
      rw [hw, e]
      split
      · exact tick_keep st
      · exact tick_keep st
    rw [hk, hw]
    exact ⟨rfl, rfl, rfl⟩
  · rw [hf]
    exact ⟨rfl, rfl⟩

theorem fit_comes {st : DSt} {rk : List Int} {n : Nat} (hr : RInv st rk) (h : Fit st n) (f at_ : Int) (s : List UInt8) : Fit (st.comes rk f at_ s) (n + s.length) := by
  by_cases hf : st.fires = true
  · rw [((comes_write hr f at_ s).1 hf).1]; exact h.doWrite f at_ s
  · have hf' : st.fires = false := by simpa using hf
    rw [((comes_write hr f at_ s).2 hf').1]; exact h.tick.mono (Nat.le_add_right _ _)

section
variable (F : Nat → Prop) (b : Nat) (st : DSt) (rk : List Int) (w : World) (hF : ∀ k, F k → k < w.heap.size) (h : RD b st rk w (fun k => ¬ F k))
include hF h



theorem rwrite_any (n : Nat) (hg : Fit st n) (hn : n ≤ 1000000000000) (hr : RInv st rk) (f at_ : Int) (s : ByteArray) (hs : s.size ≤ 140737488355328) :
    Calls Try.prog 43 #[dptr b, .int .i64 f, .int .i64 at_, .string s] w (KeptR F b w (.int .i64 ((st.doWrite f at_ s.data.toList).1 : Nat)) (st.doWrite f at_ s.data.toList).2 rk) := by
  have hc := Lib.hid (rcomes_any F b st rk w hF h n hg hn f at_ s hs)
  have hcw := comes_write hr f at_ s.data.toList
  have hfc := fit_comes hr hg f at_ s.data.toList
  have hg0 := hg
  have HF := Lib.hid hF
  have HSL := Lib.hid (data_len s)
  obtain ⟨P, hP⟩ : ∃ P, P = st.comes rk f at_ s.data.toList := ⟨_, rfl⟩
  rw [← hP] at hc hcw hfc
  clear hP h hF hr hg
  cases hf : st.fires with
  | true =>
    obtain ⟨e1, e2, hd⟩ := hcw.1 hf
    rw [e2, ← e1]
    clear hcw e1 e2 hf hfc hg0
    go_enter Try.func43, Try.ntmps43
    go_wp2_with fail
    refine hc.out.mono ?_
    rintro e w1 ⟨rfl, h1, hu1⟩
    have H1 := Lib.hid h1
    have HU1 := Lib.hid hu1
    have hm := rd_may h1 f
    rw [hd] at hm
    have HM := Lib.hid hm
    clear h1 hu1 hm hd
    go_wp2_with fail
    refine HM.out.mono ?_
    rintro e w2 ⟨rfl, rfl⟩
    go_wp2_with fail
    go_ret
    exact ⟨rfl, H1.out, HU1.out⟩
  | false =>
    obtain ⟨e1, e2⟩ := hcw.2 hf
    rw [e2, ← e1]
    have hg1 : Fit P n := by
      rw [e1]
      exact hg0.tick
    clear hcw e1 e2 hf hfc hg0
    unfold DSt.write
    cases hd : P.down with
    | true =>
      go_enter Try.func43, Try.ntmps43
      go_wp2_with fail
      refine hc.out.mono ?_
      rintro e w1 ⟨rfl, h1, hu1⟩
      have H1 := Lib.hid h1
      have HU1 := Lib.hid hu1
      have hm := rd_may h1 f
      have hF1 : Hid (∀ k, F k → k < w1.heap.size) := Lib.hid (fun k hk => Nat.lt_of_lt_of_le (HF.out k hk) hu1.size)
      rw [hd] at hm; clear hd
      have HM := Lib.hid hm
      clear hm h1 hu1
      go_wp2_with fail
      refine HM.out.mono ?_
      rintro e w2 ⟨rfl, rfl⟩
      go_wp2_with fail
      go_ret
      exact ⟨rfl, H1.out, HU1.out⟩
    | false =>
      by_cases hb : f < 0 ∨ 12 ≤ f
      · rw [if_pos hb]
        have hb' : bad f := hb
        have HB := Lib.hid hb'
        clear hb hb'
        go_enter Try.func43, Try.ntmps43
        go_wp2_with fail
        refine hc.out.mono ?_
        rintro e w1 ⟨rfl, h1, hu1⟩
        have H1 := Lib.hid h1
        have HU1 := Lib.hid hu1
        have hm := rd_may h1 f
        have hF1 : Hid (∀ k, F k → k < w1.heap.size) := Lib.hid (fun k hk => Nat.lt_of_lt_of_le (HF.out k hk) hu1.size)
        rw [hd, if_neg (by simp), if_pos HB.out] at hm; clear hd
        have HM := Lib.hid hm
        clear hm h1 hu1
        go_wp2_with fail
        refine HM.out.mono ?_
        rintro e w2 ⟨rfl, rfl⟩
        go_wp2_with fail
        go_ret
        exact ⟨rfl, H1.out, HU1.out⟩
      · rw [if_neg hb]
        have hb' : ¬ bad f := hb
        have HB := Lib.hid hb'
        have hf0 : 0 ≤ f := by omega
        have hf1 : f ≤ 11 := by omega
        clear hb hb'
        by_cases ha : at_ < 0
        · rw [if_pos ha]
          go_enter Try.func43, Try.ntmps43
          go_wp2_with fail
          refine hc.out.mono ?_
          rintro e w1 ⟨rfl, h1, hu1⟩
          have H1 := Lib.hid h1
          have HU1 := Lib.hid hu1
          have hm := rd_may h1 f
          have hF1 : Hid (∀ k, F k → k < w1.heap.size) := Lib.hid (fun k hk => Nat.lt_of_lt_of_le (HF.out k hk) hu1.size)
          rw [hd, if_neg (by simp), if_neg HB.out] at hm; clear hd
          have HM := Lib.hid hm
          clear hm h1 hu1
          go_wp2_with fail
          refine HM.out.mono ?_
          rintro e w2 ⟨rfl, rfl⟩
          go_wp2_with fail
          go_ret
          exact ⟨rfl, H1.out, HU1.out⟩
        · rw [if_neg ha]
          have ha' : 0 ≤ at_ := by omega
          by_cases ht : at_ > 16777216 - (s.data.toList.length : Int)
          · rw [if_pos ht]
            have ht' := Lib.hid (fun w1 => rfits_no at_ s w1 (.inr (by have := HSL.out; omega)) hs)
            clear ht ha
            go_enter Try.func43, Try.ntmps43
            go_wp2_with fail
            refine hc.out.mono ?_
            rintro e w1 ⟨rfl, h1, hu1⟩
            have H1 := Lib.hid h1
            have HU1 := Lib.hid hu1
            have hm := rd_may h1 f
            have hF1 : Hid (∀ k, F k → k < w1.heap.size) := Lib.hid (fun k hk => Nat.lt_of_lt_of_le (HF.out k hk) hu1.size)
            rw [hd, if_neg (by simp), if_neg HB.out] at hm; clear hd
            have HM := Lib.hid hm
            clear hm h1 hu1
            go_wp2_with fail
            refine HM.out.mono ?_
            rintro e w2 ⟨rfl, rfl⟩
            go_wp2_with (go_at_call 56; refine (ht'.out _).mono ?_; rintro e w6 ⟨rfl, rfl⟩)
            go_ret
            exact ⟨rfl, H1.out, HU1.out⟩
          · rw [if_neg ht]
            have ht2 : at_ + s.size ≤ 16777216 := by have := HSL.out; omega
            have ht' := Lib.hid (fun w1 => rfits_yes at_ s w1 ha' ht2)
            obtain ⟨f', rfl⟩ := Int.eq_ofNat_of_zero_le hf0
            obtain ⟨at', rfl⟩ := Int.eq_ofNat_of_zero_le ha'
            rw [Int.toNat_natCast, Int.toNat_natCast]
            have HPL := Lib.hid hg1.pend
            clear ht ha hg1
            have HT2 := Lib.hid ht2
            clear ht2
            go_enter Try.func43, Try.ntmps43
            go_wp2_with fail
            refine hc.out.mono ?_
            rintro e w1 ⟨rfl, h1, hu1⟩
            have H1 := Lib.hid h1
            have HU1 := Lib.hid hu1
            have hm := rd_may h1 (f' : Int)
            have hF1 : Hid (∀ k, F k → k < w1.heap.size) := Lib.hid (fun k hk => Nat.lt_of_lt_of_le (HF.out k hk) hu1.size)
            rw [hd, if_neg (by simp), if_neg HB.out] at hm; clear hd
            have HM := Lib.hid hm
            clear hm h1 hu1
            go_wp2_with fail
            refine HM.out.mono ?_
            rintro e w2 ⟨rfl, rfl⟩
            have hadd := Lib.hid (radd_any F b f' at' P rk s w1 hF1.out H1.out (by have := HT2.out; omega) (by have := HPL.out; omega))
            go_wp2_with (go_at_call 56; refine (ht'.out _).mono ?_; rintro e w6 ⟨rfl, rfl⟩)
            refine hadd.out.mono ?_
            rintro e w3 ⟨rfl, h3, hu3⟩
            go_wp2_with fail
            go_ret
            exact ⟨rfl, h3, HU1.out.trans hu3 fun _ _ h => h⟩
end
end Go.Proofs.Ythfnnkfdpnkodaa
