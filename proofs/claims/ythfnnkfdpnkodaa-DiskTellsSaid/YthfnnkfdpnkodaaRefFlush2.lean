/- The reference's Read, Flush and Cut, walked. -/
import Derived.Test.YthfnnkfdpnkodaaRefFlush
namespace Go.Proofs.Ythfnnkfdpnkodaa
open Go.RowKit

theorem rd_comes0 (F : Nat → Prop) (b : Nat) (st : DSt) (rk : List Int) (w : World) (hF : ∀ k, F k → k < w.heap.size) (h : RD b st rk w (fun k => ¬ F k)) (n : Nat) (hg : Fit st n) (hn : n ≤ 1000000000000) (hr : RInv st rk) :
    Calls Try.prog 55 #[dptr b, .int .i64 0, .int .i64 0, .string ⟨#[]⟩] w (KeptR F b w (.tuple #[]) st.pre rk) := by
  have := rcomes_any F b st rk w hF h n hg hn 0 0 ⟨#[]⟩ (by simp [ByteArray.size])
  rw [show (⟨#[]⟩ : ByteArray).data.toList = [] from rfl, comes_pre hr] at this
  exact this

/-- The row of pending writes is replaced, the durable one set: what Flush, Cut and Turn leave. -/
theorem RD.setRow0 {b : Nat} {st : DSt} {rk : List Int} {w w' : World} {D : Nat → Prop} (h : RD b st rk w D) {lb : Nat} {lc : Nat} (h' : w' = w) {f : Nat} (hf : f < 12) (l : List UInt8) (hc : w.cell? ⟨b, 0, none⟩ = some (.slice (some ⟨lb, 0, none⟩) 12 lc)) :
    RD b { st with dur := up st.dur f l } rk (w.setCell ⟨lb, f, none⟩ (strV l)) D ∧ D lb ∧ w.frozen? ⟨lb, f, none⟩ = false ∧ (∃ v, w.cell? ⟨lb, f, none⟩ = some v) := by
  obtain ⟨v0, g0, c0, r0, hd0, hback⟩ := Owned.focus h (i := 0) rfl
  rw [hc] at c0
  cases c0
  obtain ⟨lb', lc', hv, hg, _, _⟩ := r0.pos (by omega)
  cases hv
  have u : Upd (fun k => g0 = some k) w (w.setCell ⟨lb, f, none⟩ (strV l)) := (Upd.refl _ w).setCell (p := ⟨lb, f, none⟩) (fun _ => hg) _
  have hset := r0.set hg f (strV l)
  rw [lastsV_set _ hf] at hset
  exact ⟨hback.2 _ _ _ _ _ u hset, (hd0 lb hg).1, r0.frozen hg (by simp [lastsV]; exact hf), ⟨_, r0.cell hg (lastsV_get _ hf)⟩⟩

theorem RD.setQueue {F : Nat → Prop} {b : Nat} {st : DSt} {rk : List Int} {w w' : World} (hF : ∀ k, F k → k < w.heap.size) (h : RD b st rk w (fun k => ¬ F k)) (u : Upd (fun _ => False) w w') {v : Value} {g : Option Nat} {l : List Pc} (hrow : Row w' 76 3 v g l.length (pendV l)) (hg : ∀ k, g = some k → w.heap.size ≤ k) :
    RD b { st with pend := l } rk (w'.setCell ⟨b, 1, none⟩ v) (fun k => ¬ F k) := by
  obtain ⟨v1, g1, c1, r1, hd1, hback⟩ := Owned.focus h (i := 1) rfl
  exact (hback.1 w' v g _ _ _ _ (u.mono fun _ _ h => h.elim) hrow (fun k hk => .inr (hg k hk))).mono fun k _ hk hf => hk.elim (fun h => h hf) (fun h => by have := hF k hf; omega)



section
variable (F : Nat → Prop) (b : Nat) (st : DSt) (rk : List Int) (w : World) (hF : ∀ k, F k → k < w.heap.size) (h : RD b st rk w (fun k => ¬ F k))
include h

theorem rRead_any (n : Nat) (hg : Fit st n) (hn : n ≤ 1000000000000) (f : Int) :
    Calls Try.prog 31 #[dptr b, .int .i64 f] w (KeptR F b w (.tuple #[strV (st.read f).1, .int .i64 ((st.read f).2 : Nat)]) st rk) := by
  have hm := rd_may h f
  have H := Lib.hid h
  unfold DSt.read
  cases hd : st.down with
  | true =>
    rw [hd] at hm
    have HM := Lib.hid hm
    clear hm h hd hg
    go_enter Try.func31, Try.ntmps31
    go_wp2_with fail
    refine HM.out.mono ?_
    rintro e w2 ⟨rfl, rfl⟩
    go_wp2_with fail
    go_ret2
    exact ⟨rfl, H.out, Upd.refl _ _⟩
  | false =>
    rw [hd] at hm
    by_cases hb : bad f
    · rw [if_pos hb] at hm ⊢
      have HM := Lib.hid hm
      clear hm h hd hg hb
      go_enter Try.func31, Try.ntmps31
      go_wp2_with fail
      refine HM.out.mono ?_
      rintro e w2 ⟨rfl, rfl⟩
      go_wp2_with fail
      go_ret2
      exact ⟨rfl, H.out, Upd.refl _ _⟩
    · rw [if_neg hb] at hm ⊢
      have HM := Lib.hid hm
      have hb' := hb
      unfold bad at hb'
      obtain ⟨f', rfl⟩ := Int.eq_ofNat_of_zero_le (show 0 ≤ f by omega)
      obtain ⟨lb, lc, qa, qc, hs⟩ := h.seen
      have hrd := Lib.hid (rread_any b f' (by omega) st hg.good w lb lc qa qc hs (by have := hg.pend; omega))
      obtain ⟨S, hS, _, _⟩ := exStr (rdText st f')
      have hS' := hS
      unfold rdText at hS'
      rw [hS'] at hrd
      show Calls Try.prog 31 #[dptr b, .int .i64 (f' : Int)] w (KeptR F b w (.tuple #[strV (rdText st f'), .int .i64 0]) st rk)
      rw [hS]
      clear hm h hd hg hb hs hS hS' hb'
      go_enter Try.func31, Try.ntmps31
      go_wp2_with fail
      refine HM.out.mono ?_
      rintro e w2 ⟨rfl, rfl⟩
      go_wp2_with fail
      refine hrd.out.mono ?_
      rintro e w3 ⟨rfl, hu3⟩
      go_wp2_with fail
      go_ret2
      exact ⟨rfl, Owned.still H.out hu3, hu3.mono fun _ _ h => h.elim⟩

include hF

set_option maxHeartbeats 1600000 in
theorem rflush_any (n : Nat) (hg : Fit st n) (hn : n ≤ 1000000000000) (hr : RInv st rk) (f : Int) :
    Calls Try.prog 44 #[dptr b, .int .i64 f] w (KeptR F b w (.int .i64 ((st.flush f).1 : Nat)) (st.flush f).2 rk) := by
  have hc := Lib.hid (rd_comes0 F b st rk w hF h n hg hn hr)
  have hgp := hg.pre
  have HF := Lib.hid hF
  unfold DSt.flush
  obtain ⟨P, hP⟩ : ∃ P, P = st.pre := ⟨_, rfl⟩
  rw [← hP] at hc hgp ⊢
  clear hP h hF hr hg
  cases hd : P.down with
  | true =>
    clear hgp
    go_enter Try.func44, Try.ntmps44
    go_wp2_with fail
    refine hc.out.mono ?_
    rintro e w1 ⟨rfl, h1, hu1⟩
    have H1 := Lib.hid h1
    have HU1 := Lib.hid hu1
    have hm := rd_may h1 f
    have hF1 : Hid (∀ k, F k → k < w1.heap.size) := Lib.hid (fun k hk => Nat.lt_of_lt_of_le (HF.out k hk) hu1.size)
    rw [hd] at hm; clear hd
    have HM := Lib.hid hm
    clear hm h1 hu1
    go_wp2_with fail
    refine HM.out.mono ?_
    rintro e w2 ⟨rfl, rfl⟩
    go_wp2_with fail
    go_ret
    exact ⟨rfl, H1.out, HU1.out⟩
  | false =>
    by_cases hb : f < 0 ∨ 12 ≤ f
    · rw [if_pos hb]
      have HB : Hid (bad f) := Lib.hid hb
      clear hb hgp
      go_enter Try.func44, Try.ntmps44
      go_wp2_with fail
      refine hc.out.mono ?_
      rintro e w1 ⟨rfl, h1, hu1⟩
      have H1 := Lib.hid h1
      have HU1 := Lib.hid hu1
      have hm := rd_may h1 f
      have hF1 : Hid (∀ k, F k → k < w1.heap.size) := Lib.hid (fun k hk => Nat.lt_of_lt_of_le (HF.out k hk) hu1.size)
      rw [hd, if_neg (by simp), if_pos HB.out] at hm; clear hd
      have HM := Lib.hid hm
      clear hm h1 hu1
      go_wp2_with fail
      refine HM.out.mono ?_
      rintro e w2 ⟨rfl, rfl⟩
      go_wp2_with fail
      go_ret
      exact ⟨rfl, H1.out, HU1.out⟩
    · rw [if_neg hb]
      have HB : Hid (¬ bad f) := Lib.hid hb
      by_cases hl : 0 < P.lost
      · rw [if_pos hl]
        obtain ⟨m, hm'⟩ : ∃ m, P.lost = m + 1 := ⟨P.lost - 1, by omega⟩
        have HP := Lib.hid hm'
        have hm64 : m ≤ 9223372036854775806 := by have := hgp.good.lost; omega
        clear hb hl hm' hgp
        go_enter Try.func44, Try.ntmps44
        go_wp2_with fail
        refine hc.out.mono ?_
        rintro e w1 ⟨rfl, h1, hu1⟩
        have H1 := Lib.hid h1
        have HU1 := Lib.hid hu1
        have hm := rd_may h1 f
        have hF1 : Hid (∀ k, F k → k < w1.heap.size) := Lib.hid (fun k hk => Nat.lt_of_lt_of_le (HF.out k hk) hu1.size)
        rw [hd, if_neg (by simp), if_neg HB.out] at hm; clear hd
        have HM := Lib.hid hm
        clear hm h1 hu1
        go_wp2_with fail
        refine HM.out.mono ?_
        rintro e w2 ⟨rfl, rfl⟩
        have c2 : w1.cell? ⟨b, 2, none⟩ = some (.int .i64 ((m : Int) + 1)) := by
          have := Owned.sc H1.out (i := 2) (v := .int .i64 (P.lost : Nat)) rfl
          rw [HP.out] at this
          exact this
        have f2 : w1.frozen? ⟨b, 2, none⟩ = false := Owned.froz H1.out (by simp [rflds])
        have hm0 : 0 < (m : Int) + 1 := by omega
        have hbF : Hid (¬ F b) := Lib.hid H1.out.b_in
        have hfin : Hid (RD b { P with lost := P.lost - 1 } rk (w1.setCell ⟨b, 2, none⟩ (.int .i64 (m : Int))) (fun k => ¬ F k)) := by
          rw [HP.out]
          exact Lib.hid (Owned.setSc H1.out (i := 2) rfl (.int .i64 (m : Int)))
        go_wp2_with fail
        go_ret
        exact ⟨rfl, hfin.out, HU1.out.setCell (p := ⟨b, 2, none⟩) (fun _ => hbF.out) _⟩
      · rw [if_neg hl]
        have hl0 : P.lost = 0 := by omega
        have HL := Lib.hid hl0
        obtain ⟨f', rfl⟩ := Int.eq_ofNat_of_zero_le (show 0 ≤ f by omega)
        have hf12 : f' < 12 := by omega
        have hfi : (f' : Int) < 12 := by omega
        rw [Int.toNat_natCast]
        have HGP := Lib.hid hgp
        clear hb hl hl0 hgp
        go_enter Try.func44, Try.ntmps44
        go_wp2_with fail
        refine hc.out.mono ?_
        rintro e w1 ⟨rfl, h1, hu1⟩
        have H1 := Lib.hid h1
        have HU1 := Lib.hid hu1
        have hm := rd_may h1 (f' : Int)
        have hF1 : Hid (∀ k, F k → k < w1.heap.size) := Lib.hid (fun k hk => Nat.lt_of_lt_of_le (HF.out k hk) hu1.size)
        rw [hd, if_neg (by simp), if_neg HB.out] at hm; clear hd
        have HM := Lib.hid hm
        clear hm h1 hu1
        go_wp2_with fail
        refine HM.out.mono ?_
        rintro e w2 ⟨rfl, rfl⟩
        have c2 : w1.cell? ⟨b, 2, none⟩ = some (.int .i64 0) := by
          have := Owned.sc H1.out (i := 2) (v := .int .i64 (P.lost : Nat)) rfl
          rw [HL.out] at this
          exact this
        obtain ⟨lb, lc, qa, qc, hs⟩ := H1.out.seen
        have c0 := hs.c0
        have HS := Lib.hid hs
        have hrd := Lib.hid (fun (w' : World) (hu : Upd (fun _ => False) w1 w') => rread_any b f' hf12 P HGP.out.good w' lb lc qa qc (hs.upd hu) (by have := HGP.out.pend; omega))
        clear hs
        obtain ⟨S, hS, _, _⟩ := exStr (applyP f' P.pend (P.dur f'))
        have HSS := Lib.hid hS
        clear hS
        go_upto_region 8 with fail
        refine PLM.wp_region_plm (fun w9 => w9.cell? ⟨b, 0, none⟩ = some (.slice (some ⟨lb, 0, none⟩) 12 lc)) [(3, 4), (9, 3)] (by kernel_rfl) (by kernel_rfl) c0 ?_
        repeat (first | (refine PLM.step0 rfl (fun K hK => ?_); go_simp; refine hK _ ?_; clear hK K) | (refine PLM.step1 rfl rfl (fun K hK => ?_); go_simp; refine hK _ ?_; clear hK K))
        (refine PLM.step4 rfl (fun w1 hS => by go_simp) (fun K hK => ?_); go_simp; refine hK _ ?_; clear hK K)
        repeat (first | (refine PLM.step0 rfl (fun K hK => ?_); go_simp; refine hK _ ?_; clear hK K) | (refine PLM.step1 rfl rfl (fun K hK => ?_); go_simp; refine hK _ ?_; clear hK K))
        refine PLM.step2 rfl rfl (fun K hK => ?_)
        go_simp
        refine (hrd.out w1.drew (Upd.refl _ _).drew).mono ?_
        rintro e w3 ⟨rfl, hu3⟩
        have hu3' := ((Upd.refl (fun _ => False) w1).drew).trans hu3 fun _ _ h => h
        have h3 : RD b P rk w3 (fun k => ¬ F k) := Owned.still H1.out hu3'
        have c0' := hu3'.cell c0
        obtain ⟨h4, hlb, fz, vv, cc⟩ := RD.setRow0 h3 rfl hf12 (applyP f' P.pend (P.dur f')) c0'
        rw [HSS.out] at h4 ⊢
        have hu4 : Upd (fun k => ¬ F k) w (w3.setCell ⟨lb, f', none⟩ (.string S)) := ((HU1.out.trans hu3' fun _ _ h => h.elim)).setCell (p := ⟨lb, f', none⟩) (fun _ => hlb) _
        have H4 := Lib.hid h4
        have HU4 := Lib.hid hu4
        clear h3 hu3 hu3' h4 hlb hu4 c0 c2
        go_simp
        refine hK _ _ c0' ?_; clear hK K
        repeat (first | (refine PLM.step0 rfl (fun K hK => ?_); go_simp; refine hK _ ?_; clear hK K) | (refine PLM.step1 rfl rfl (fun K hK => ?_); go_simp; refine hK _ ?_; clear hK K))
        (refine PLM.step3 rfl rfl (fun K hK => ?_); go_simp; refine hK _ _ ?_; clear hK K)
        refine PLM.stepNil ?_
        obtain ⟨w4, hw4⟩ : ∃ w4, w4 = w3.setCell ⟨lb, f', none⟩ (.string S) := ⟨_, rfl⟩
        rw [← hw4] at H4 HU4 ⊢
        clear hw4 c0' fz cc
        have hF4 : Hid (∀ k, F k → k < w4.heap.size) := Lib.hid (fun k hk => Nat.lt_of_lt_of_le (HF.out k hk) HU4.out.size)
        obtain ⟨lb4, lc4, qa4, qc4, hs4⟩ := H4.out.seen
        have hwo := Lib.hid (rwithout_any b f' _ w4 lb4 lc4 qa4 qc4 hs4 (by show P.pend.length ≤ _; have := HGP.out.pend; omega))
        clear hs4
        go_wp2_with fail
        refine hwo.out.mono ?_
        intro e w5 hw5
        obtain ⟨v5, g5, rfl, hrow5, hg5, hu5⟩ := hw5
        have h5 := RD.setQueue hF4.out H4.out hu5 hrow5 hg5
        obtain ⟨a5, cc5, hv5, _, _⟩ := hrow5.form
        subst hv5
        have h4' : RD b _ rk w5 (fun k => ¬ F k) := Owned.still H4.out hu5
        obtain ⟨v1, g1, c1, _⟩ := Owned.focus h4' (i := 1) rfl
        have f1 := Owned.froz h4' (i := 1) (by simp [rflds])
        have hbF := h4'.b_in
        have HFIN : Hid (RD b (P.settle f') rk (w5.setCell ⟨b, 1, none⟩ (.slice a5 (keepP f' P.pend).length cc5)) (fun k => ¬ F k)) := Lib.hid h5
        have HUF := Lib.hid ((HU4.out.trans hu5 fun _ _ h => h.elim).setCell (p := ⟨b, 1, none⟩) (fun _ => hbF) (.slice a5 (keepP f' P.pend).length cc5))
        clear h5 h4' hrow5 hg5 hu5 hbF hwo
        go_wp2_with fail
        go_ret
        exact ⟨rfl, HFIN.out, HUF.out⟩
end
end Go.Proofs.Ythfnnkfdpnkodaa
