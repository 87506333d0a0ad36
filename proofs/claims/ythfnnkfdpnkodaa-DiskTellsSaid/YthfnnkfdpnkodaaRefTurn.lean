/- The reference's Turn and Size, walked. -/
import Derived.Test.YthfnnkfdpnkodaaRefCut
namespace Go.Proofs.Ythfnnkfdpnkodaa
open Go.RowKit





theorem keepP_len {g : Nat} {l : List Pc} : (keepP g l).length = l.length ↔ ¬ ∃ p ∈ l, p.f = g := by
  unfold keepP
  rw [List.length_filter_eq_length_iff]
  constructor
  · intro h ⟨p, hp, hf⟩
    have := h p hp
    simp [hf] at this
  · intro h p hp
    simp only [ne_eq, decide_not, Bool.not_eq_true', decide_eq_false_iff_not]
    exact fun e => h ⟨p, hp, e⟩



section
variable (F : Nat → Prop) (b : Nat) (st : DSt) (rk : List Int) (w : World) (hF : ∀ k, F k → k < w.heap.size) (h : RD b st rk w (fun k => ¬ F k))
include h hF

set_option maxHeartbeats 1600000 in
theorem rturn_any (n : Nat) (hg : Fit st n) (hn : n ≤ 1000000000000) (hr : RInv st rk) (f g : Int) :
    Calls Try.prog 46 #[dptr b, .int .i64 f, .int .i64 g] w (KeptR F b w (.int .i64 ((st.turn f g).1 : Nat)) (st.turn f g).2 rk) := by
  have hc := Lib.hid (rd_comes0 F b st rk w hF h n hg hn hr)
  have hgp := hg.pre
  have HF := Lib.hid hF
  unfold DSt.turn
  obtain ⟨P, hP⟩ : ∃ P, P = st.pre := ⟨_, rfl⟩
  rw [← hP] at hc hgp ⊢
  clear hP h hF hr hg
  cases hd : P.down with
  | true =>
    clear hgp
    go_enter Try.func46, Try.ntmps46
    go_wp2_with fail
    refine hc.out.mono ?_
    rintro e w1 ⟨rfl, h1, hu1⟩
    have H1 := Lib.hid h1
    have HU1 := Lib.hid hu1
    have hm := rd_may h1 f
    have hF1 : Hid (∀ k, F k → k < w1.heap.size) := Lib.hid (fun k hk => Nat.lt_of_lt_of_le (HF.out k hk) hu1.size)
    rw [hd] at hm; clear hd
    have HM := Lib.hid hm
    clear hm h1 hu1
    go_wp2_with fail
    refine HM.out.mono ?_
    rintro e w2 ⟨rfl, rfl⟩
    go_wp2_with fail
    go_ret
    exact ⟨rfl, H1.out, HU1.out⟩
  | false =>
    rw [if_neg (show ¬ (false = true) by simp)]
    by_cases hb : bad f
    · rw [if_pos (.inl hb)]
      have HB := Lib.hid hb
      clear hb hgp
      go_enter Try.func46, Try.ntmps46
      go_wp2_with fail
      refine hc.out.mono ?_
      rintro e w1 ⟨rfl, h1, hu1⟩
      have H1 := Lib.hid h1
      have HU1 := Lib.hid hu1
      have hm := rd_may h1 f
      have hF1 : Hid (∀ k, F k → k < w1.heap.size) := Lib.hid (fun k hk => Nat.lt_of_lt_of_le (HF.out k hk) hu1.size)
      rw [hd, if_neg (by simp), if_pos HB.out] at hm; clear hd
      have HM := Lib.hid hm
      clear hm h1 hu1
      go_wp2_with fail
      refine HM.out.mono ?_
      rintro e w2 ⟨rfl, rfl⟩
      go_wp2_with fail
      go_ret
      exact ⟨rfl, H1.out, HU1.out⟩
    · have HB := Lib.hid hb
      by_cases hb2 : bad g
      · rw [if_pos (.inr hb2)]
        have HB2 := Lib.hid hb2
        clear hb hb2 hgp
        go_enter Try.func46, Try.ntmps46
        go_wp2_with fail
        refine hc.out.mono ?_
        rintro e w1 ⟨rfl, h1, hu1⟩
        have H1 := Lib.hid h1
        have HU1 := Lib.hid hu1
        have hm := rd_may h1 f
        have hF1 : Hid (∀ k, F k → k < w1.heap.size) := Lib.hid (fun k hk => Nat.lt_of_lt_of_le (HF.out k hk) hu1.size)
        rw [hd, if_neg (by simp), if_neg HB.out] at hm
        have HM := Lib.hid hm
        clear hm h1 hu1
        go_wp2_with fail
        refine HM.out.mono ?_
        rintro e w2 ⟨rfl, rfl⟩
        have hm := rd_may H1.out g
        rw [hd, if_neg (by simp), if_pos HB2.out] at hm; clear hd
        have HM := Lib.hid hm
        clear hm
        go_wp2_with fail
        refine HM.out.mono ?_
        rintro e w2 ⟨rfl, rfl⟩
        go_wp2_with fail
        go_ret
        exact ⟨rfl, H1.out, HU1.out⟩
      · rw [if_neg (fun h => h.elim hb hb2)]
        have HB2 := Lib.hid hb2
        unfold bad at hb hb2
        obtain ⟨i, rfl⟩ := Int.eq_ofNat_of_zero_le (show 0 ≤ f by omega)
        obtain ⟨j, rfl⟩ := Int.eq_ofNat_of_zero_le (show 0 ≤ g by omega)
        have hi12 : i < 12 := by omega
        have hj12 : j < 12 := by omega
        have hii : (i : Int) < 12 := by omega
        have hjj : (j : Int) < 12 := by omega
        have HGP := Lib.hid hgp
        rw [Int.toNat_natCast, Int.toNat_natCast]
        clear hb hb2 hgp
        by_cases hij : i = j
        · subst hij
          rw [if_pos rfl]
          go_enter Try.func46, Try.ntmps46
          go_wp2_with fail
          refine hc.out.mono ?_
          rintro e w1 ⟨rfl, h1, hu1⟩
          have H1 := Lib.hid h1
          have HU1 := Lib.hid hu1
          have hm := rd_may h1 (i : Int)
          have hF1 : Hid (∀ k, F k → k < w1.heap.size) := Lib.hid (fun k hk => Nat.lt_of_lt_of_le (HF.out k hk) hu1.size)
          rw [hd, if_neg (by simp), if_neg HB.out] at hm
          have HM := Lib.hid hm
          clear hm h1 hu1
          go_wp2_with fail
          refine HM.out.mono ?_
          rintro e w2 ⟨rfl, rfl⟩
          have hm := rd_may H1.out (i : Int)
          rw [hd, if_neg (by simp), if_neg HB2.out] at hm; clear hd
          have HM := Lib.hid hm
          clear hm
          go_wp2_with fail
          refine HM.out.mono ?_
          rintro e w2 ⟨rfl, rfl⟩
          go_wp2_with fail
          go_ret
          exact ⟨rfl, H1.out, HU1.out⟩
        · rw [if_neg (show ¬ ((i : Int) = (j : Int)) by omega)]
          have hij2 : ((i : Int) == (j : Int)) = false := beq_eq_false_iff_ne.2 (by omega)
          by_cases hp : ∃ p ∈ P.pend, p.f = j
          · rw [if_pos hp]
            have HP : Hid ((keepP j P.pend).length ≠ P.pend.length) := Lib.hid (fun e => (keepP_len.1 e) hp)
            have hne : (((keepP j P.pend).length : Int) == (P.pend.length : Int)) = false := beq_eq_false_iff_ne.2 (by have := HP.out; omega)
            have hne2 : (((keepP j P.pend).length : Int) != (P.pend.length : Int)) = true := by rw [bne_iff_ne]; have := HP.out; omega
            clear hp
            go_enter Try.func46, Try.ntmps46
            go_wp2_with fail
            refine hc.out.mono ?_
            rintro e w1 ⟨rfl, h1, hu1⟩
            have H1 := Lib.hid h1
            have HU1 := Lib.hid hu1
            have hm := rd_may h1 (i : Int)
            have hF1 : Hid (∀ k, F k → k < w1.heap.size) := Lib.hid (fun k hk => Nat.lt_of_lt_of_le (HF.out k hk) hu1.size)
            rw [hd, if_neg (by simp), if_neg HB.out] at hm
            have HM := Lib.hid hm
            clear hm h1 hu1
            go_wp2_with fail
            refine HM.out.mono ?_
            rintro e w2 ⟨rfl, rfl⟩
            have hm := rd_may H1.out (j : Int)
            rw [hd, if_neg (by simp), if_neg HB2.out] at hm; clear hd
            have HM := Lib.hid hm
            clear hm
            go_wp2_with fail
            refine HM.out.mono ?_
            rintro e w2 ⟨rfl, rfl⟩
            obtain ⟨lb, lc, qa, qc, hs⟩ := H1.out.seen
            have c1 := hs.c1
            have hwo := Lib.hid (rwithout_any b j P w1.drew lb lc qa qc (hs.upd (Upd.refl _ _).drew) (by have := HGP.out.pend; omega))
            clear hs
            go_upto_region 10 with fail
            refine PLM.wp_region_plm (fun w9 => w9.cell? ⟨b, 1, none⟩ = some (.slice qa P.pend.length qc)) [(7, 4)] (by kernel_rfl) (by kernel_rfl) c1 ?_
            repeat (first | (refine PLM.step0 rfl (fun K hK => ?_); go_simp; refine hK _ ?_; clear hK K) | (refine PLM.step1 rfl rfl (fun K hK => ?_); go_simp; refine hK _ ?_; clear hK K))
            refine PLM.step2 rfl rfl (fun K hK => ?_)
            go_simp
            refine hwo.out.mono ?_
            intro e w3 hw3
            obtain ⟨v3, g3, rfl, hrow3, hg3, hu3⟩ := hw3
            obtain ⟨a3, cc3, rfl, _, _⟩ := hrow3.form
            have hu3' := ((Upd.refl (fun _ => False) w1).drew).trans hu3 fun _ _ h => h
            have H9 : Hid (RD b P rk w3 (fun k => ¬ F k)) := Lib.hid (Owned.still H1.out hu3')
            have HU9 := Lib.hid (HU1.out.trans hu3' fun _ _ h => h.elim)
            have c1' := hu3'.cell c1
            clear hrow3 hg3 hu3 hu3' hwo c1
            go_simp
            refine hK _ _ c1' ?_; clear hK K
            repeat (first | (refine PLM.step0 rfl (fun K hK => ?_); go_simp; refine hK _ ?_; clear hK K) | (refine PLM.step1 rfl rfl (fun K hK => ?_); go_simp; refine hK _ ?_; clear hK K))
            (refine PLM.step4 rfl (fun w1 hS => by go_simp) (fun K hK => ?_); go_simp; refine hK _ ?_; clear hK K)
            repeat (first | (refine PLM.step0 rfl (fun K hK => ?_); go_simp; refine hK _ ?_; clear hK K) | (refine PLM.step1 rfl rfl (fun K hK => ?_); go_simp; refine hK _ ?_; clear hK K))
            refine PLM.stepNil ?_
            go_wp2_with fail
            go_ret
            exact ⟨rfl, H9.out, HU9.out⟩
          · rw [if_neg hp]
            have hkp : keepP j P.pend = P.pend := keepP_none fun p hpp e => hp ⟨p, hpp, e⟩
            have HKP := Lib.hid hkp
            have hne : (((keepP j P.pend).length : Int) == (P.pend.length : Int)) = true := by rw [hkp]; simp
            have hne2 : (((keepP j P.pend).length : Int) != (P.pend.length : Int)) = false := by rw [hkp]; simp
            have HKQ : Hid (keepP j (keepP i P.pend) = keepP i P.pend) := Lib.hid (keepP_none fun p hpp e => hp ⟨p, (keepP_mem hpp).1, e⟩)
            clear hp hkp
            go_enter Try.func46, Try.ntmps46
            go_wp2_with fail
            refine hc.out.mono ?_
            rintro e w1 ⟨rfl, h1, hu1⟩
            have H1 := Lib.hid h1
            have HU1 := Lib.hid hu1
            have hm := rd_may h1 (i : Int)
            have hF1 : Hid (∀ k, F k → k < w1.heap.size) := Lib.hid (fun k hk => Nat.lt_of_lt_of_le (HF.out k hk) hu1.size)
            rw [hd, if_neg (by simp), if_neg HB.out] at hm
            have HM := Lib.hid hm
            clear hm h1 hu1
            go_wp2_with fail
            refine HM.out.mono ?_
            rintro e w2 ⟨rfl, rfl⟩
            have hm := rd_may H1.out (j : Int)
            rw [hd, if_neg (by simp), if_neg HB2.out] at hm; clear hd
            have HM := Lib.hid hm
            clear hm
            go_wp2_with fail
            refine HM.out.mono ?_
            rintro e w2 ⟨rfl, rfl⟩
            obtain ⟨lb, lc, qa, qc, hs⟩ := H1.out.seen
            have c1 := hs.c1
            have hwo := Lib.hid (rwithout_any b j P w1.drew lb lc qa qc (hs.upd (Upd.refl _ _).drew) (by have := HGP.out.pend; omega))
            clear hs
            go_upto_region 10 with fail
            refine PLM.wp_region_plm (fun w9 => w9.cell? ⟨b, 1, none⟩ = some (.slice qa P.pend.length qc)) [(7, 4)] (by kernel_rfl) (by kernel_rfl) c1 ?_
            repeat (first | (refine PLM.step0 rfl (fun K hK => ?_); go_simp; refine hK _ ?_; clear hK K) | (refine PLM.step1 rfl rfl (fun K hK => ?_); go_simp; refine hK _ ?_; clear hK K))
            refine PLM.step2 rfl rfl (fun K hK => ?_)
            go_simp
            refine hwo.out.mono ?_
            intro e w3 hw3
            obtain ⟨v3, g3, rfl, hrow3, hg3, hu3⟩ := hw3
            obtain ⟨a3, cc3, rfl, _, _⟩ := hrow3.form
            have hu3' := ((Upd.refl (fun _ => False) w1).drew).trans hu3 fun _ _ h => h
            have H9 : Hid (RD b P rk w3 (fun k => ¬ F k)) := Lib.hid (Owned.still H1.out hu3')
            have HU9 := Lib.hid (HU1.out.trans hu3' fun _ _ h => h.elim)
            have c1' := hu3'.cell c1
            clear hrow3 hg3 hu3 hu3' hwo c1
            go_simp
            refine hK _ _ c1' ?_; clear hK K
            repeat (first | (refine PLM.step0 rfl (fun K hK => ?_); go_simp; refine hK _ ?_; clear hK K) | (refine PLM.step1 rfl rfl (fun K hK => ?_); go_simp; refine hK _ ?_; clear hK K))
            (refine PLM.step4 rfl (fun w1 hS => by go_simp) (fun K hK => ?_); go_simp; refine hK _ ?_; clear hK K)
            repeat (first | (refine PLM.step0 rfl (fun K hK => ?_); go_simp; refine hK _ ?_; clear hK K) | (refine PLM.step1 rfl rfl (fun K hK => ?_); go_simp; refine hK _ ?_; clear hK K))
            refine PLM.stepNil ?_
            obtain ⟨lb, lc, qa5, qc5, hs5⟩ := H9.out.seen
            have c0 := hs5.c0
            obtain ⟨T, hT, _, _⟩ := exStr (P.dur j)
            have cj := hs5.last j hj12
            rw [hT] at cj
            have HT := Lib.hid hT
            obtain ⟨h4, hlb, fi, vi, ci⟩ := RD.setRow0 H9.out rfl hi12 (P.dur j) c0
            rw [hT] at h4
            have H4 : Hid (RD b { P with dur := up P.dur i (P.dur j) } rk ((w3.setCell ⟨lb, i, none⟩ (.string T)).drew) (fun k => ¬ F k)) := Lib.hid (Owned.still h4 (Upd.refl _ _).drew)
            have HU4 := Lib.hid ((HU9.out.setCell (p := ⟨lb, i, none⟩) (fun _ => hlb) (.string T)).drew)
            obtain ⟨v0, g0, c0', _⟩ := Owned.focus H4.out (i := 0) rfl
            obtain ⟨lb6, lc6, _, _, hs6⟩ := H4.out.seen
            have c06 := hs6.c0
            obtain ⟨h5, hlb5, fj, vj, cj5⟩ := RD.setRow0 H4.out rfl hj12 [] c06
            have H5 := Lib.hid h5
            have HU5 := Lib.hid (HU4.out.setCell (p := ⟨lb6, j, none⟩) (fun _ => hlb5) (strV []))
            clear h4 hlb h5 hlb5 hs5 hs6 hT c0'
            go_upto_region 12 with fail
            refine PLM.wp_region_plm (fun _ => True) [] (by kernel_rfl) (by kernel_rfl) trivial ?_
            repeat (first | (refine PLM.step0 rfl (fun K hK => ?_); go_simp; refine hK _ ?_; clear hK K) | (refine PLM.step1 rfl rfl (fun K hK => ?_); go_simp; refine hK _ ?_; clear hK K))
            (refine PLM.step2 rfl rfl (fun K hK => ?_); go_simp; refine hK _ _ trivial ?_; clear hK K)
            refine PLM.stepNil ?_
            go_upto_region 14 with fail
            obtain ⟨w4, hw4⟩ : ∃ w4, w4 = ((w3.setCell ⟨lb, i, none⟩ (.string T)).setCell ⟨lb6, j, none⟩ (.string ⟨#[]⟩)).drew := ⟨_, rfl⟩
            have h4 : Hid (RD b (P.swap i j) rk (((w3.setCell ⟨lb, i, none⟩ (.string T)).setCell ⟨lb6, j, none⟩ (.string ⟨#[]⟩)).drew) (fun k => ¬ F k)) := H5
            have hu4 : Hid (Upd (fun k => ¬ F k) w (((w3.setCell ⟨lb, i, none⟩ (.string T)).setCell ⟨lb6, j, none⟩ (.string ⟨#[]⟩)).drew)) := HU5
            rw [← hw4] at h4 hu4 ⊢
            clear H4 HU4 H5 HU5 hw4 c0 cj fi vi ci c06 fj vj cj5
            have H4 := h4
            have HU4 := hu4
            clear h4 hu4
            have hF4 : Hid (∀ k, F k → k < w4.heap.size) := Lib.hid (fun k hk => Nat.lt_of_lt_of_le (HF.out k hk) HU4.out.size)
            obtain ⟨lb4, lc4, qa4, qc4, hs4⟩ := H4.out.seen
            have hwo := Lib.hid (rwithout_any b i _ w4 lb4 lc4 qa4 qc4 hs4 (by show P.pend.length ≤ _; have := HGP.out.pend; omega))
            clear hs4
            go_wp2_with fail
            refine hwo.out.mono ?_
            intro e w5 hw5
            obtain ⟨v5, g5, rfl, hrow5, hg5, hu5⟩ := hw5
            have h5 := RD.setQueue hF4.out H4.out hu5 hrow5 hg5
            obtain ⟨a5, cc5, hv5, _, _⟩ := hrow5.form
            subst hv5
            have h4' : RD b _ rk w5 (fun k => ¬ F k) := Owned.still H4.out hu5
            obtain ⟨v1, g1, c1, _⟩ := Owned.focus h4' (i := 1) rfl
            have f1 := Owned.froz h4' (i := 1) (by simp [rflds])
            have hbF := h4'.b_in
            have HFIN : Hid (RD b (((P.swap i j).forget i).forget j) rk (w5.setCell ⟨b, 1, none⟩ (.slice a5 (keepP i P.pend).length cc5)) (fun k => ¬ F k)) := by
              have e : (((P.swap i j).forget i).forget j).pend = keepP i P.pend := HKQ.out
              unfold RD rflds
              rw [e]
              exact Lib.hid h5
            have HUF := Lib.hid ((HU4.out.trans hu5 fun _ _ h => h.elim).setCell (p := ⟨b, 1, none⟩) (fun _ => hbF) (.slice a5 (keepP i P.pend).length cc5))
            clear h5 h4' hrow5 hg5 hu5 hbF hwo
            go_wp2_with fail
            go_ret
            exact ⟨rfl, HFIN.out, HUF.out⟩
end
end Go.Proofs.Ythfnnkfdpnkodaa
