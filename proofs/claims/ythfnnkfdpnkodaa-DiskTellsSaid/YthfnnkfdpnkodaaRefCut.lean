/- The reference's Cut and Size, walked. -/
import Derived.Test.YthfnnkfdpnkodaaRefFlush2
namespace Go.Proofs.Ythfnnkfdpnkodaa
open Go.RowKit





section
variable (F : Nat → Prop) (b : Nat) (st : DSt) (rk : List Int) (w : World) (hF : ∀ k, F k → k < w.heap.size) (h : RD b st rk w (fun k => ¬ F k))
include h hF

set_option maxHeartbeats 1600000 in
theorem rcut_any (n : Nat) (hg : Fit st n) (hn : n ≤ 1000000000000) (hr : RInv st rk) (f m : Int) :
    Calls Try.prog 45 #[dptr b, .int .i64 f, .int .i64 m] w (KeptR F b w (.int .i64 ((st.cut f m).1 : Nat)) (st.cut f m).2 rk) := by
  have hc := Lib.hid (rd_comes0 F b st rk w hF h n hg hn hr)
  have hgp := hg.pre
  have HF := Lib.hid hF
  unfold DSt.cut
  obtain ⟨P, hP⟩ : ∃ P, P = st.pre := ⟨_, rfl⟩
  rw [← hP] at hc hgp ⊢
  clear hP h hF hr hg
  cases hd : P.down with
  | true =>
    clear hgp
    go_enter Try.func45, Try.ntmps45
    go_wp2_with fail
    refine hc.out.mono ?_
    rintro e w1 ⟨rfl, h1, hu1⟩
    have H1 := Lib.hid h1
    have HU1 := Lib.hid hu1
    have hm := rd_may h1 f
    have hF1 : Hid (∀ k, F k → k < w1.heap.size) := Lib.hid (fun k hk => Nat.lt_of_lt_of_le (HF.out k hk) hu1.size)
    rw [hd] at hm; clear hd
    have HM := Lib.hid hm
    clear hm h1 hu1
    go_wp2_with fail
    refine HM.out.mono ?_
    rintro e w2 ⟨rfl, rfl⟩
    go_wp2_with fail
    go_ret
    exact ⟨rfl, H1.out, HU1.out⟩
  | false =>
    rw [if_neg (show ¬ (false = true) by simp)]
    by_cases hb : f < 0 ∨ 12 ≤ f
    · rw [if_pos hb]
      have HB : Hid (bad f) := Lib.hid hb
      clear hb hgp
      go_enter Try.func45, Try.ntmps45
      go_wp2_with fail
      refine hc.out.mono ?_
      rintro e w1 ⟨rfl, h1, hu1⟩
      have H1 := Lib.hid h1
      have HU1 := Lib.hid hu1
      have hm := rd_may h1 f
      have hF1 : Hid (∀ k, F k → k < w1.heap.size) := Lib.hid (fun k hk => Nat.lt_of_lt_of_le (HF.out k hk) hu1.size)
      rw [hd, if_neg (by simp), if_pos HB.out] at hm; clear hd
      have HM := Lib.hid hm
      clear hm h1 hu1
      go_wp2_with fail
      refine HM.out.mono ?_
      rintro e w2 ⟨rfl, rfl⟩
      go_wp2_with fail
      go_ret
      exact ⟨rfl, H1.out, HU1.out⟩
    · rw [if_neg hb]
      have HB : Hid (¬ bad f) := Lib.hid hb
      obtain ⟨f', rfl⟩ := Int.eq_ofNat_of_zero_le (show 0 ≤ f by omega)
      have hf12 : f' < 12 := by omega
      have hfi : (f' : Int) < 12 := by omega
      rw [Int.toNat_natCast]
      have HGP := Lib.hid hgp
      have hsiz := hgp.good.siz f' hf12
      obtain ⟨S, hS, hSl, hSz⟩ := exStr (applyP f' P.pend (P.dur f'))
      have hSs : S.size ≤ 16777216 := by rw [hSz]; exact applyP_le (fun p hp => (hgp.good.pend p hp).2.1) (hgp.good.dur f' hf12)
      rw [← hSz] at hsiz
      rw [hsiz]
      have HSS := Lib.hid hS
      have HSl := Lib.hid hSl
      clear hb hgp hS hSl hSz hsiz
      by_cases hm0 : m < 0
      · rw [if_pos (.inl hm0)]
        go_enter Try.func45, Try.ntmps45
        go_wp2_with fail
        refine hc.out.mono ?_
        rintro e w1 ⟨rfl, h1, hu1⟩
        have H1 := Lib.hid h1
        have HU1 := Lib.hid hu1
        have hm := rd_may h1 (f' : Int)
        have hF1 : Hid (∀ k, F k → k < w1.heap.size) := Lib.hid (fun k hk => Nat.lt_of_lt_of_le (HF.out k hk) hu1.size)
        rw [hd, if_neg (by simp), if_neg HB.out] at hm; clear hd
        have HM := Lib.hid hm
        clear hm h1 hu1
        go_wp2_with fail
        refine HM.out.mono ?_
        rintro e w2 ⟨rfl, rfl⟩
        obtain ⟨lb, lc, qa, qc, hs⟩ := H1.out.seen
        have c0 := hs.c0
        have hrd := Lib.hid (rread_any b f' hf12 P HGP.out.good w1 lb lc qa qc hs (by have := HGP.out.pend; omega))
        rw [HSS.out] at hrd
        clear hs
        go_wp2_with fail
        refine hrd.out.mono ?_
        rintro e w3 ⟨rfl, hu3⟩
        have HU3 := Lib.hid hu3
        clear hu3 hrd
        go_wp2_with fail
        go_ret
        exact ⟨rfl, Owned.still H1.out HU3.out, HU1.out.trans HU3.out fun _ _ h => h.elim⟩
      · by_cases hm1 : (S.size : Int) < m
        · rw [if_pos (.inr hm1)]
          have hm0' : 0 ≤ m := by omega
          go_enter Try.func45, Try.ntmps45
          go_wp2_with fail
          refine hc.out.mono ?_
          rintro e w1 ⟨rfl, h1, hu1⟩
          have H1 := Lib.hid h1
          have HU1 := Lib.hid hu1
          have hm := rd_may h1 (f' : Int)
          have hF1 : Hid (∀ k, F k → k < w1.heap.size) := Lib.hid (fun k hk => Nat.lt_of_lt_of_le (HF.out k hk) hu1.size)
          rw [hd, if_neg (by simp), if_neg HB.out] at hm; clear hd
          have HM := Lib.hid hm
          clear hm h1 hu1
          go_wp2_with fail
          refine HM.out.mono ?_
          rintro e w2 ⟨rfl, rfl⟩
          obtain ⟨lb, lc, qa, qc, hs⟩ := H1.out.seen
          have c0 := hs.c0
          have hrd := Lib.hid (rread_any b f' hf12 P HGP.out.good w1 lb lc qa qc hs (by have := HGP.out.pend; omega))
          rw [HSS.out] at hrd
          clear hs
          go_wp2_with fail
          refine hrd.out.mono ?_
          rintro e w3 ⟨rfl, hu3⟩
          have HU3 := Lib.hid hu3
          clear hu3 hrd
          go_wp2_with fail
          go_ret
          exact ⟨rfl, Owned.still H1.out HU3.out, HU1.out.trans HU3.out fun _ _ h => h.elim⟩
        · rw [if_neg (fun h => h.elim hm0 hm1)]
          obtain ⟨m', rfl⟩ := Int.eq_ofNat_of_zero_le (show 0 ≤ m by omega)
          have hmS : m' ≤ S.size := by omega
          have hmS' : (m' : Int) ≤ (S.size : Int) := by omega
          rw [Int.toNat_natCast]
          clear hm0 hm1
          go_enter Try.func45, Try.ntmps45
          go_wp2_with fail
          refine hc.out.mono ?_
          rintro e w1 ⟨rfl, h1, hu1⟩
          have H1 := Lib.hid h1
          have HU1 := Lib.hid hu1
          have hm := rd_may h1 (f' : Int)
          have hF1 : Hid (∀ k, F k → k < w1.heap.size) := Lib.hid (fun k hk => Nat.lt_of_lt_of_le (HF.out k hk) hu1.size)
          rw [hd, if_neg (by simp), if_neg HB.out] at hm; clear hd
          have HM := Lib.hid hm
          clear hm h1 hu1
          go_wp2_with fail
          refine HM.out.mono ?_
          rintro e w2 ⟨rfl, rfl⟩
          obtain ⟨lb, lc, qa, qc, hs⟩ := H1.out.seen
          have c0 := hs.c0
          have hrd := Lib.hid (rread_any b f' hf12 P HGP.out.good w1 lb lc qa qc hs (by have := HGP.out.pend; omega))
          rw [HSS.out] at hrd
          clear hs
          go_wp2_with fail
          refine hrd.out.mono ?_
          rintro e w3 ⟨rfl, hu3⟩
          have HU3 := Lib.hid hu3
          clear hu3 hrd
          have h3 : RD b P rk w3 (fun k => ¬ F k) := Owned.still H1.out HU3.out
          have c0' := HU3.out.cell c0
          have hT : Hid (strV ((applyP f' P.pend (P.dur f')).take m') = .string (S.extract 0 m')) := Lib.hid (by
            rw [← HSl.out, ← strV_data (S.extract 0 m'), ByteArray.data_extract, Array.toList_extract, List.extract_eq_take_drop]
            simp)
          obtain ⟨h4, hlb, fz, vv, cc⟩ := RD.setRow0 h3 rfl hf12 ((applyP f' P.pend (P.dur f')).take m') c0'
          rw [hT.out] at h4
          have hu4 : Upd (fun k => ¬ F k) w (w3.setCell ⟨lb, f', none⟩ (.string (S.extract 0 m'))) := ((HU1.out.trans HU3.out fun _ _ h => h.elim)).setCell (p := ⟨lb, f', none⟩) (fun _ => hlb) _
          have H4 : Hid (RD b { P with dur := up P.dur f' ((applyP f' P.pend (P.dur f')).take m') } rk ((w3.setCell ⟨lb, f', none⟩ (.string (S.extract 0 m'))).drew) (fun k => ¬ F k)) := Lib.hid (Owned.still h4 (Upd.refl _ _).drew)
          have HU4 := Lib.hid hu4.drew
          clear h3 h4 hlb hu4 c0
          go_wp2_with fail
          refine PLM.wp_region_plm (fun _ => True) [] (by kernel_rfl) (by kernel_rfl) trivial ?_
          repeat (first | (refine PLM.step0 rfl (fun K hK => ?_); go_simp; refine hK _ ?_; clear hK K) | (refine PLM.step1 rfl rfl (fun K hK => ?_); go_simp; refine hK _ ?_; clear hK K))
          (refine PLM.step2 rfl rfl (fun K hK => ?_); go_simp; refine hK _ _ trivial ?_; clear hK K)
          refine PLM.stepNil ?_
          obtain ⟨w4, hw4⟩ : ∃ w4, w4 = (w3.setCell ⟨lb, f', none⟩ (.string (S.extract 0 m'))).drew := ⟨_, rfl⟩
          rw [← hw4] at H4 HU4 ⊢
          clear hw4 c0' fz cc
          have hF4 : Hid (∀ k, F k → k < w4.heap.size) := Lib.hid (fun k hk => Nat.lt_of_lt_of_le (HF.out k hk) HU4.out.size)
          obtain ⟨lb4, lc4, qa4, qc4, hs4⟩ := H4.out.seen
          have hwo := Lib.hid (rwithout_any b f' _ w4 lb4 lc4 qa4 qc4 hs4 (by show P.pend.length ≤ _; have := HGP.out.pend; omega))
          clear hs4
          go_wp2_with fail
          refine hwo.out.mono ?_
          intro e w5 hw5
          obtain ⟨v5, g5, rfl, hrow5, hg5, hu5⟩ := hw5
          have h5 := RD.setQueue hF4.out H4.out hu5 hrow5 hg5
          obtain ⟨a5, cc5, hv5, _, _⟩ := hrow5.form
          subst hv5
          have h4' : RD b _ rk w5 (fun k => ¬ F k) := Owned.still H4.out hu5
          obtain ⟨v1, g1, c1, _⟩ := Owned.focus h4' (i := 1) rfl
          have f1 := Owned.froz h4' (i := 1) (by simp [rflds])
          have hbF := h4'.b_in
          have HFIN : Hid (RD b (P.cutTo f' m') rk (w5.setCell ⟨b, 1, none⟩ (.slice a5 (keepP f' P.pend).length cc5)) (fun k => ¬ F k)) := by
            have e : (P.cutTo f' m').dur = up P.dur f' ((applyP f' P.pend (P.dur f')).take m') := by
              show up (P.settle f').dur f' (((P.settle f').dur f').take m') = _
              rw [settle_dur]
              show up (up P.dur f' _) f' _ = _
              rw [up_up]
            unfold RD rflds
            rw [e]
            exact Lib.hid h5
          have HUF := Lib.hid ((HU4.out.trans hu5 fun _ _ h => h.elim).setCell (p := ⟨b, 1, none⟩) (fun _ => hbF) (.slice a5 (keepP f' P.pend).length cc5))
          clear h5 h4' hrow5 hg5 hu5 hbF hwo
          go_wp2_with fail
          go_ret
          exact ⟨rfl, HFIN.out, HUF.out⟩
end
end Go.Proofs.Ythfnnkfdpnkodaa
