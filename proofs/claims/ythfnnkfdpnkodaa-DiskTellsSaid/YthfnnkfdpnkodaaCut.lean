/- Cut. -/
import Derived.Test.YthfnnkfdpnkodaaFlush
namespace Go.Proofs.Ythfnnkfdpnkodaa
open Go.RowKit

def DSt.cutTo (st : DSt) (f n : Nat) : DSt :=
  { st.settle f with dur := up (st.settle f).dur f (((st.settle f).dur f).take n), siz := up (st.settle f).siz f n }

def DSt.cut (st : DSt) (f n : Int) : Nat × DSt :=
  if st.pre.down then (8, st.pre) else if f < 0 ∨ 12 ≤ f then (1, st.pre) else if n < 0 ∨ (st.pre.siz f.toNat : Int) < n then (1, st.pre) else (0, st.pre.cutTo f.toNat n.toNat)

theorem settle_dur (st : DSt) (f : Nat) : (st.settle f).dur f = applyP f st.pend (st.dur f) := up_same _ _ _
theorem settle_siz (st : DSt) (f : Nat) : (st.settle f).siz f = (applyP f st.pend (st.dur f)).length := by
  show up st.siz f (up st.dur f _ f).length f = _
  rw [up_same, up_same]

theorem cutTo_good {st : DSt} (h : DGood st) {f n : Nat} (hf : f < 12) (hn : n ≤ st.siz f) : DGood (st.cutTo f n) := by
  have hs := settle_good h hf
  rw [h.siz f hf] at hn
  refine ⟨fun g hg => ?_, fun g hg => ?_, hs.pend, hs.lost, hs.armed⟩
  · show (up (st.settle f).dur f (((st.settle f).dur f).take n) g).length ≤ _
    by_cases e : g = f
    · rw [e, up_same, List.length_take]; have := hs.dur f hf; omega
    · rw [up_other _ _ e]; exact hs.dur g hg
  · show up (st.settle f).siz f n g = (applyP g (st.settle f).pend (up (st.settle f).dur f (((st.settle f).dur f).take n) g)).length
    by_cases e : g = f
    · rw [e, up_same, up_same]
      show n = (applyP f (keepP f st.pend) _).length
      rw [applyP_other _ _ (fun p hp => (keepP_mem hp).2), List.length_take, settle_dur]; omega
    · rw [up_other _ _ e, up_other _ _ e]; exact hs.siz g hg

theorem cut_good {st : DSt} (h : DGood st) (f n : Int) : DGood (st.cut f n).2 := by
  have hp := pre_good h
  unfold DSt.cut
  split
  · exact hp
  · split
    · exact hp
    · split
      · exact hp
      · exact cutTo_good hp (by omega) (by omega)

set_option maxHeartbeats 800000 in
theorem Cut_any (b : Nat) (f n : Int) (D : Nat → Prop) (st : DSt) (w : World) (h : Disk w b D st) (hg : DGood st) :
    Calls Try.prog 32 #[dptr b, .int .i64 f, .int .i64 n] w (Moved b D w (.int .i64 ((st.cut f n).1 : Nat)) (st.cut f n).2) := by
  have htg := tick_good hg
  cases hfi : st.fires with
  | true =>
    have hpre : st.pre = st.tick.crash st.tick.keep := by unfold DSt.pre; rw [hfi]; rfl
    have hw : st.cut f n = (8, st.tick.crash st.tick.keep) := by unfold DSt.cut; rw [hpre]; rfl
    rw [hw]
    have HF := Lib.hid hfi
    clear hfi hw hpre
    go_enter Try.func32, Try.ntmps32
    go_wp2_with fail
    refine (fires_disk b D st w h hg).mono ?_
    rintro e w1 ⟨rfl, h1, hu1⟩
    rw [HF.out]
    obtain ⟨own, dv, pv, kv, hr1, hb1, ho1⟩ := h1
    have c28 := hr1.ckeep
    obtain ⟨ka, kc, rfl, _, _⟩ := hr1.keep.form
    go_wp2_with fail
    refine (crashKeep hr1 hb1 ho1 htg).mono ?_
    intro e w2 hm
    obtain ⟨rfl, h2, hu2⟩ := hm
    have HD2 := Lib.hid h2
    obtain ⟨own2, dv2, pv2, kv2, hr2, hb2, ho2⟩ := h2
    have hc := hr2.cdown
    rw [show (st.tick.crash st.tick.keep).down = true from rfl] at hc
    have hlt := hr2.blk.lt
    clear hr2 hr1
    go_wp2_with (go_at_call 34; refine (check_down b _ _ (by rw [World.cell?_alloc_past _ _ _ hlt]; exact hc)).mono ?_; rintro e w3 ⟨rfl, rfl⟩)
    go_ret
    exact Moved.then hu1 (Moved.then' hu2 (Moved.stay HD2.out ((Upd.refl _ _).alloc _)))
  | false =>
    have hpre : st.pre = st.tick := by unfold DSt.pre; rw [hfi]; rfl
    obtain ⟨r, st', hw⟩ : ∃ r st', st.cut f n = (r, st') := ⟨_, _, rfl⟩
    rw [hw]
    unfold DSt.cut at hw
    rw [hpre] at hw
    have HF := Lib.hid hfi
    clear hfi hpre
    by_cases hd : st.tick.down = true
    · rw [if_pos hd] at hw
      cases hw
      have HDn := Lib.hid hd; clear hd
      go_enter Try.func32, Try.ntmps32
      go_wp2_with fail
      refine (fires_disk b D st w h hg).mono ?_
      rintro e w1 ⟨rfl, h1, hu1⟩
      rw [HF.out]
      have HD1 := Lib.hid h1
      obtain ⟨own, dv, pv, kv, hr1, hb1, ho1⟩ := h1
      have hc := hr1.cdown
      have hlt := hr1.blk.lt
      rw [HDn.out] at hc
      clear hr1
      go_wp2_with (go_at_call 34; refine (check_down b _ _ (by rw [World.cell?_alloc_past _ _ _ hlt]; exact hc)).mono ?_; rintro e w3 ⟨rfl, rfl⟩)
      go_ret
      exact Moved.then hu1 (Moved.stay HD1.out ((Upd.refl _ _).alloc _))
    · rw [if_neg hd] at hw
      simp only [Bool.not_eq_true] at hd
      have HDn := Lib.hid hd; clear hd
      by_cases hf : f < 0 ∨ 12 ≤ f
      · rw [if_pos hf] at hw
        cases hw
        have HFF := Lib.hid hf; clear hf
        go_enter Try.func32, Try.ntmps32
        go_wp2_with fail
        refine (fires_disk b D st w h hg).mono ?_
        rintro e w1 ⟨rfl, h1, hu1⟩
        rw [HF.out]
        have HD1 := Lib.hid h1
        obtain ⟨own, dv, pv, kv, hr1, hb1, ho1⟩ := h1
        have hc := hr1.cdown
        have hlt := hr1.blk.lt
        rw [HDn.out] at hc
        clear hr1
        go_wp2_with (go_at_call 34; refine (check_one b w1.heap.size 1 f _ (by rw [World.cell?_alloc_past _ _ _ hlt]; exact hc) (by simp [go_sem]) 1 (.inl ⟨HFF.out, rfl⟩)).mono ?_; rintro e w3 ⟨rfl, rfl⟩)
        go_ret
        exact Moved.then hu1 (Moved.stay HD1.out ((Upd.refl _ _).alloc _))
      · rw [if_neg hf] at hw
        obtain ⟨f', rfl⟩ := Int.eq_ofNat_of_zero_le (show 0 ≤ f by omega)
        have hf' : f' < 12 := by omega
        have hf2 : (f' : Int) < 12 := by omega
        clear hf
        simp only [Int.toNat_natCast] at hw
        obtain ⟨L, hL⟩ : ∃ L, st.tick.siz f' = L := ⟨_, rfl⟩
        rw [hL] at hw
        have HL := Lib.hid hL; clear hL
        by_cases hn : n < 0 ∨ (L : Int) < n
        · rw [if_pos hn] at hw
          cases hw
          by_cases hn0 : n < 0
          · clear hn
            go_enter Try.func32, Try.ntmps32
            go_wp2_with fail
            refine (fires_disk b D st w h hg).mono ?_
            rintro e w1 ⟨rfl, h1, hu1⟩
            rw [HF.out]
            have HD1 := Lib.hid h1
            obtain ⟨own, dv, pv, kv, hr1, hb1, ho1⟩ := h1
            have hc := hr1.cdown
            have hlt := hr1.blk.lt
            rw [HDn.out] at hc
            clear hr1
            go_wp2_with (go_at_call 34; refine (check_one b w1.heap.size 1 f' _ (by rw [World.cell?_alloc_past _ _ _ hlt]; exact hc) (by simp [go_sem]) 0 (.inr ⟨⟨by omega, by omega⟩, rfl⟩)).mono ?_; rintro e w3 ⟨rfl, rfl⟩)
            go_ret
            exact Moved.then hu1 (Moved.stay HD1.out ((Upd.refl _ _).alloc _))
          · have hn1 : (L : Int) < n := by omega
            have hn0' : decide (n < 0) = false := decide_eq_false hn0
            clear hn
            go_enter Try.func32, Try.ntmps32
            go_wp2_with fail
            refine (fires_disk b D st w h hg).mono ?_
            rintro e w1 ⟨rfl, h1, hu1⟩
            rw [HF.out]
            have HD1 := Lib.hid h1
            obtain ⟨own, dv, pv, kv, hr1, hb1, ho1⟩ := h1
            have hc := hr1.cdown
            have hlt := hr1.blk.lt
            rw [HDn.out] at hc
            have hcs := hr1.csiz hf'
            rw [HL.out] at hcs
            clear hr1
            go_wp2_with (go_at_call 34; refine (check_one b w1.heap.size 1 f' _ (by rw [World.cell?_alloc_past _ _ _ hlt]; exact hc) (by simp [go_sem]) 0 (.inr ⟨⟨by omega, by omega⟩, rfl⟩)).mono ?_; rintro e w3 ⟨rfl, rfl⟩)
            go_ret
            exact Moved.then hu1 (Moved.stay HD1.out ((Upd.refl _ _).alloc _))
        · rw [if_neg hn] at hw
          cases hw
          obtain ⟨n', rfl⟩ := Int.eq_ofNat_of_zero_le (show 0 ≤ n by omega)
          have hn1 : (n' : Int) ≤ L := by omega
          clear hn
          simp only [Int.toNat_natCast]
          go_enter Try.func32, Try.ntmps32
          go_wp2_with fail
          refine (fires_disk b D st w h hg).mono ?_
          rintro e w1 ⟨rfl, h1, hu1⟩
          rw [HF.out]
          have HD1 := Lib.hid h1
          obtain ⟨own, dv, pv, kv, hr1, hb1, ho1⟩ := h1
          have hc := hr1.cdown
          have hlt := hr1.blk.lt
          rw [HDn.out] at hc
          have hcs := hr1.csiz hf'
          rw [HL.out] at hcs
          clear hr1
          go_wp2_with (first
            | (go_at_call 34; refine (check_one b w1.heap.size 1 f' _ (by rw [World.cell?_alloc_past _ _ _ hlt]; exact hc) (by simp [go_sem]) 0 (.inr ⟨⟨by omega, by omega⟩, rfl⟩)).mono ?_; rintro e w3 ⟨rfl, rfl⟩)
            | fail)
          refine (settle_rep b f' (After D w1) st.tick _ (HD1.out.stay ((Upd.refl _ _).alloc _)) hf' htg).mono ?_
          intro e w3 hm
          obtain ⟨rfl, h3, hu3⟩ := hm
          obtain ⟨own3, dv3, pv3, kv3, hr3, hb3, ho3⟩ := h3
          obtain ⟨da, dc, hdv, hd1, hd2⟩ := (hr3.dur f' hf').form
          have hcd := hr3.cdur hf'
          have hfd := hr3.froz (o := f' * 2) (by omega)
          have hcs3 := hr3.csiz hf'
          have hfs3 := hr3.froz (o := f' * 2 + 1) (by omega)
          have hrow3 := Lib.hid (hr3.dur f' hf')
          rw [hdv] at hcd hrow3
          clear hdv
          have hLn : ((st.tick.settle f').dur f').length = L := by rw [settle_dur, ← htg.siz f' hf', HL.out]
          rw [hLn] at hcd hd1 hrow3
          have HLn := Lib.hid hLn; clear hLn
          unfold maxLen at hd2
          have hn2 : (n' : Int) ≤ dc := by omega
          have hn3 : n' ≤ dc := by omega
          have HR := Lib.hid hr3; clear hr3
          go_wp2
          refine PLM.wp_region_plm (fun _ => True) [] (by kernel_rfl) (by kernel_rfl) trivial ?_
          repeat (first | (refine PLM.step0 rfl (fun K hK => ?_); go_simp; refine hK _ ?_; clear hK K) | (refine PLM.step1 rfl rfl (fun K hK => ?_); go_simp; refine hK _ ?_; clear hK K))
          (refine PLM.step2 rfl rfl (fun K hK => ?_); go_simp; refine hK _ _ trivial ?_; clear hK K)
          refine PLM.stepNil ?_
          go_wp2
          go_ret
          have hrow4 : Row w3 5 1 (.slice da n' dc) (own3 f') (((st.tick.settle f').dur f').take n').length (bytesV (((st.tick.settle f').dur f').take n')) := by
            have h1 := hrow3.out.take (k := n') (by omega) rfl
            rw [Nat.mul_one] at h1
            have e1 : (((st.tick.settle f').dur f').take n').length = n' := by have := HLn.out; rw [List.length_take]; omega
            rw [e1]
            simpa [bytesV, List.map_take] using h1
          have q1 := (HR.out.setDur hf' (Upd.refl (fun _ => False) w3) (fun _ h => h.elim) hrow4 (fun k hk => .inl hk)).setSiz hf' n'
          refine Moved.then hu1 (Moved.then' ((Upd.refl _ _).alloc _) ⟨rfl, ⟨_, _, _, _, q1.drew, hb3, ?_⟩, ?_⟩)
          · exact foot_up (i := f') ho3 (by omega) (g := own3 f') (fun k hk => ho3 f' k (by omega) hk)
          · exact (((hu3.setCell (fun _ => .inl hb1) _).setCell (fun _ => .inl hb1) _).drew)
end Go.Proofs.Ythfnnkfdpnkodaa
