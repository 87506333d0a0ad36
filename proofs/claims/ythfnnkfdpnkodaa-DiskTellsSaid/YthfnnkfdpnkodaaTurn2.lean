/- Turn walked. -/
import Derived.Test.YthfnnkfdpnkodaaTurn
namespace Go.Proofs.Ythfnnkfdpnkodaa
open Go.RowKit

theorem Moved.wide {b : Nat} {D D' : Nat → Prop} {st : DSt} {w w' : World} {v : Value} {e : Ending} (h : Moved b D w v st e w') (hd : ∀ k, D k → D' k) : Moved b D' w v st e w' :=
  ⟨h.1, h.2.1.mono fun k _ hk => hk.imp (hd k) id, h.2.2.mono fun k _ hk => hd k hk⟩



set_option maxHeartbeats 1600000 in
theorem Turn_any' (b : Nat) (f g : Int) (D : Nat → Prop) (st : DSt) (w : World) (h : Disk w b D st) (hg : DGood st) (hpl : st.pend.length ≤ 9223372036854775807) (hdl : ∀ k, D k → k < w.heap.size) :
    Calls Try.prog 33 #[dptr b, .int .i64 f, .int .i64 g] w (Moved b D w (.int .i64 ((st.turn f g).1 : Nat)) (st.turn f g).2) := by
  have htg := tick_good hg
  have hu0 := Lib.hid ((Upd.refl (fun _ => False) w).alloc (.cells #[.int .i64 g] 3))
  have h0 := Lib.hid (h.upd hu0.out (fun _ _ _ h => h))
  have hbx := Lib.hid (Blk.newA w #[.int .i64 g] 3)
  have hdlt := Lib.hid hdl
  clear hdl
  cases hfi : st.fires with
  | true =>
    have hpre : st.pre = st.tick.crash st.tick.keep := by unfold DSt.pre; rw [hfi]; rfl
    have hw : st.turn f g = (8, st.tick.crash st.tick.keep) := by unfold DSt.turn; rw [hpre]; rfl
    rw [hw]
    have HF := Lib.hid hfi
    clear hfi hw hpre h
    go_enter Try.func33, Try.ntmps33
    go_wp2_with fail
    refine (fires_disk b D st _ h0.out hg).mono ?_
    rintro e w1 ⟨rfl, h1, hu1⟩
    rw [HF.out]
    have hbx1 := Lib.hid (hbx.out.upd hu1 (fun hd => by have := hdlt.out _ hd; omega))
    have cbx1 : w1.cell? ⟨w.heap.size, 0, none⟩ = some (.int .i64 g) := hbx1.out.cell_of rfl
    have hgl := hbx1.out.lt
    obtain ⟨own, dv, pv, kv, hr1, hb1, ho1⟩ := h1
    have c28 := hr1.ckeep
    obtain ⟨ka, kc, rfl, _, _⟩ := hr1.keep.form
    go_wp2_with fail
    refine (crashKeep hr1 hb1 ho1 htg).mono ?_
    intro e w2 hm
    obtain ⟨rfl, h2, hu2⟩ := hm
    have HD2 := Lib.hid h2
    obtain ⟨own2, dv2, pv2, kv2, hr2, hb2, ho2⟩ := h2
    have hc := hr2.cdown
    rw [show (st.tick.crash st.tick.keep).down = true from rfl] at hc
    have hlt := hr2.blk.lt
    have cbx2 : w2.cell? ⟨w.heap.size, 0, none⟩ = some (.int .i64 g) := (hbx1.out.upd hu2 (fun hd => by have := hdlt.out _ hd; omega)).cell_of rfl
    clear hr2 hr1
    go_wp2_with (go_at_call 34; refine (check_down b _ _ (by rw [World.cell?_alloc_past _ _ _ hlt]; exact hc)).mono ?_; rintro e w3 ⟨rfl, rfl⟩)
    go_ret
    exact Moved.then (hu0.out.mono (fun _ _ h => h.elim)) (Moved.then hu1 (Moved.then' hu2 (Moved.stay HD2.out ((Upd.refl _ _).alloc _))))
  | false =>
    have hpre : st.pre = st.tick := by unfold DSt.pre; rw [hfi]; rfl
    obtain ⟨r, st', hw⟩ : ∃ r st', st.turn f g = (r, st') := ⟨_, _, rfl⟩
    rw [hw]
    unfold DSt.turn at hw
    rw [hpre] at hw
    have HF := Lib.hid hfi
    clear hfi hpre h
    by_cases hd : st.tick.down = true
    · rw [if_pos hd] at hw
      cases hw
      have HDn := Lib.hid hd; clear hd
      go_enter Try.func33, Try.ntmps33
      go_wp2_with fail
      refine (fires_disk b D st _ h0.out hg).mono ?_
      rintro e w1 ⟨rfl, h1, hu1⟩
      rw [HF.out]
      have hbx1 := Lib.hid (hbx.out.upd hu1 (fun hd => by have := hdlt.out _ hd; omega))
      have cbx1 : w1.cell? ⟨w.heap.size, 0, none⟩ = some (.int .i64 g) := hbx1.out.cell_of rfl
      have hgl := hbx1.out.lt
      have HD1 := Lib.hid h1
      obtain ⟨own, dv, pv, kv, hr1, hb1, ho1⟩ := h1
      have hc := hr1.cdown
      have hlt := hr1.blk.lt
      rw [HDn.out] at hc
      clear hr1
      go_wp2_with (go_at_call 34; refine (check_down b _ _ (by rw [World.cell?_alloc_past _ _ _ hlt]; exact hc)).mono ?_; rintro e w3 ⟨rfl, rfl⟩)
      go_ret
      exact Moved.then (hu0.out.mono (fun _ _ h => h.elim)) (Moved.then hu1 (Moved.stay HD1.out ((Upd.refl _ _).alloc _)))
    · rw [if_neg hd] at hw
      simp only [Bool.not_eq_true] at hd
      have HDn := Lib.hid hd; clear hd
      by_cases hf : bad f ∨ bad g
      · rw [if_pos hf] at hw
        cases hw
        have HFF := Lib.hid hf; clear hf
        go_enter Try.func33, Try.ntmps33
        go_wp2_with fail
        refine (fires_disk b D st _ h0.out hg).mono ?_
        rintro e w1 ⟨rfl, h1, hu1⟩
        rw [HF.out]
        have hbx1 := Lib.hid (hbx.out.upd hu1 (fun hd => by have := hdlt.out _ hd; omega))
        have cbx1 : w1.cell? ⟨w.heap.size, 0, none⟩ = some (.int .i64 g) := hbx1.out.cell_of rfl
        have hgl := hbx1.out.lt
        have HD1 := Lib.hid h1
        obtain ⟨own, dv, pv, kv, hr1, hb1, ho1⟩ := h1
        have hc := hr1.cdown
        have hlt := hr1.blk.lt
        rw [HDn.out] at hc
        clear hr1
        go_wp2_with (go_at_call 34; refine (check_two b w1.heap.size 2 f g _ (by rw [World.cell?_alloc_past _ _ _ hlt]; exact hc) (by simp [go_sem]) (by simp [go_sem]) 1 (.inl ⟨HFF.out, rfl⟩)).mono ?_; rintro e w3 ⟨rfl, rfl⟩)
        go_ret
        exact Moved.then (hu0.out.mono (fun _ _ h => h.elim)) (Moved.then hu1 (Moved.stay HD1.out ((Upd.refl _ _).alloc _)))
      · rw [if_neg hf] at hw
        have HFF := Lib.hid (show ¬ bad f ∧ ¬ bad g from ⟨fun h => hf (.inl h), fun h => hf (.inr h)⟩); clear hf
        by_cases hfg : f = g
        · rw [if_pos hfg] at hw
          cases hw
          have hfg1 : (f == g) = true := by simp [hfg]
          clear hfg
          go_enter Try.func33, Try.ntmps33
          go_wp2_with fail
          refine (fires_disk b D st _ h0.out hg).mono ?_
          rintro e w1 ⟨rfl, h1, hu1⟩
          rw [HF.out]
          have hbx1 := Lib.hid (hbx.out.upd hu1 (fun hd => by have := hdlt.out _ hd; omega))
          have cbx1 : w1.cell? ⟨w.heap.size, 0, none⟩ = some (.int .i64 g) := hbx1.out.cell_of rfl
          have hgl := hbx1.out.lt
          have HD1 := Lib.hid h1
          obtain ⟨own, dv, pv, kv, hr1, hb1, ho1⟩ := h1
          have hc := hr1.cdown
          have hlt := hr1.blk.lt
          rw [HDn.out] at hc
          clear hr1
          go_wp2_with (go_at_call 34; refine (check_two b w1.heap.size 2 f g _ (by rw [World.cell?_alloc_past _ _ _ hlt]; exact hc) (by simp [go_sem]) (by simp [go_sem]) 0 (.inr ⟨HFF.out, rfl⟩)).mono ?_; rintro e w3 ⟨rfl, rfl⟩)
          go_ret
          exact Moved.then (hu0.out.mono (fun _ _ h => h.elim)) (Moved.then hu1 (Moved.stay HD1.out ((Upd.refl _ _).alloc _)))
        · rw [if_neg hfg] at hw
          have hfg1 : (f == g) = false := beq_eq_false_iff_ne.2 hfg
          obtain ⟨f', rfl⟩ := Int.eq_ofNat_of_zero_le (show 0 ≤ f by have := HFF.out.1; unfold bad at this; omega)
          obtain ⟨g', rfl⟩ := Int.eq_ofNat_of_zero_le (show 0 ≤ g by have := HFF.out.2; unfold bad at this; omega)
          have hf' : f' < 12 := by have := HFF.out.1; unfold bad at this; omega
          have hg' : g' < 12 := by have := HFF.out.2; unfold bad at this; omega
          have hne : f' ≠ g' := fun e => hfg (by rw [e])
          clear hfg
          simp only [Int.toNat_natCast] at hw
          have HNE := Lib.hid hne; clear hne
          have hclo := clo_turn.enter
          have HC := Lib.hid hclo; clear hclo
          have hmf := run_makeFunc'
          have htp : st.tick.pend.length ≤ 9223372036854775807 := by rw [tick_pend]; exact hpl
          by_cases hin : ∃ p ∈ st.tick.pend, p.f = g'
          · rw [if_pos hin] at hw
            cases hw
            have HIN := Lib.hid (decide_eq_true hin); clear hin
            go_enter Try.func33, Try.ntmps33
            go_wp2_with fail
            refine (fires_disk b D st _ h0.out hg).mono ?_
            rintro e w1 ⟨rfl, h1, hu1⟩
            rw [HF.out]
            have hbx1 := Lib.hid (hbx.out.upd hu1 (fun hd => by have := hdlt.out _ hd; omega))
            have cbx1 : w1.cell? ⟨w.heap.size, 0, none⟩ = some (.int .i64 (g' : Int)) := hbx1.out.cell_of rfl
            have hgl := hbx1.out.lt
            have HD1 := Lib.hid h1
            obtain ⟨own, dv, pv, kv, hr1, hb1, ho1⟩ := h1
            have hc := hr1.cdown
            have hlt := hr1.blk.lt
            rw [HDn.out] at hc
            have hr3 := Lib.hid (hr1.upd ((Upd.refl (fun _ => False) w1).alloc (.cells #[.int .i64 (f' : Int), .int .i64 (g' : Int)] 3)) (fun h => h) (fun _ _ _ _ h => h))
            have hbx3 := Lib.hid (hbx1.out.alloc (.cells #[.int .i64 (f' : Int), .int .i64 (g' : Int)] 3))
            have c24 := hr1.cpend
            clear hr1
            go_wp2_with (first
              | (go_at_call 34; refine (check_two b w1.heap.size 2 f' g' _ (by rw [World.cell?_alloc_past _ _ _ hlt]; exact hc) (by simp [go_sem]) (by simp [go_sem]) 0 (.inr ⟨HFF.out, rfl⟩)).mono ?_; rintro e w3 ⟨rfl, rfl⟩)
              | fail)
            refine (contains_any _ clo_turn w.heap.size g' pv (own 12) st.tick.pend _ hr3.out.pend htp (hbx3.out.cell_of rfl) hbx3.out.lt).mono ?_
            rintro e w4 ⟨rfl, hu4⟩
            rw [HIN.out]
            go_wp2
            go_ret
            exact Moved.then (hu0.out.mono (fun _ _ h => h.elim)) (Moved.then hu1 (Moved.stay HD1.out (((Upd.refl _ _).alloc _).trans hu4 (fun _ _ h => h))))
          · rw [if_neg hin] at hw
            cases hw
            have HIN := Lib.hid (decide_eq_false hin); clear hin
            have hf2 : (f' : Int) < 12 := by omega
            have hg2 : (g' : Int) < 12 := by omega
            go_enter Try.func33, Try.ntmps33
            go_wp2_with fail
            refine (fires_disk b D st _ h0.out hg).mono ?_
            rintro e w1 ⟨rfl, h1, hu1⟩
            rw [HF.out]
            have hbx1 := Lib.hid (hbx.out.upd hu1 (fun hd => by have := hdlt.out _ hd; omega))
            have cbx1 : w1.cell? ⟨w.heap.size, 0, none⟩ = some (.int .i64 (g' : Int)) := hbx1.out.cell_of rfl
            have hgl := hbx1.out.lt
            have HD1 := Lib.hid h1
            obtain ⟨own, dv, pv, kv, hr1, hb1, ho1⟩ := h1
            have hc := hr1.cdown
            have hlt := hr1.blk.lt
            rw [HDn.out] at hc
            have hr3 := Lib.hid (hr1.upd ((Upd.refl (fun _ => False) w1).alloc (.cells #[.int .i64 (f' : Int), .int .i64 (g' : Int)] 3)) (fun h => h) (fun _ _ _ _ h => h))
            have hbx3 := Lib.hid (hbx1.out.alloc (.cells #[.int .i64 (f' : Int), .int .i64 (g' : Int)] 3))
            have hu3 := Lib.hid (hu1.alloc (.cells #[.int .i64 (f' : Int), .int .i64 (g' : Int)] 3))
            have c24 := hr1.cpend
            clear hr1
            go_wp2_with (first
              | (go_at_call 34; refine (check_two b w1.heap.size 2 f' g' _ (by rw [World.cell?_alloc_past _ _ _ hlt]; exact hc) (by simp [go_sem]) (by simp [go_sem]) 0 (.inr ⟨HFF.out, rfl⟩)).mono ?_; rintro e w3 ⟨rfl, rfl⟩)
              | fail)
            refine (contains_any _ clo_turn w.heap.size g' pv (own 12) st.tick.pend _ hr3.out.pend htp (hbx3.out.cell_of rfl) hbx3.out.lt).mono ?_
            rintro e w4 ⟨rfl, hu4⟩
            rw [HIN.out]
            have hr4 := hr3.out.upd hu4 (fun h => h) (fun _ _ _ _ h => h)
            have hu5 := Lib.hid (hu3.out.trans hu4 (fun _ _ h => h.elim))
            have hbx4 := Lib.hid (hbx3.out.upd hu4 (fun h => h))
            have cbx4 : w4.cell? ⟨w.heap.size, 0, none⟩ = some (.int .i64 (g' : Int)) := hbx4.out.cell_of rfl
            obtain ⟨ga, gc, hgv, _, _⟩ := (hr4.dur g' hg').form
            have hcg := hr4.cdur hg'
            rw [hgv] at hcg
            have hcf := hr4.cdur hf'
            have hff := hr4.froz (o := f' * 2) (by omega)
            have hfg := hr4.froz (o := g' * 2) (by omega)
            have hsw := hr4.swap hf' hg' HNE.out
            rw [hgv] at hsw
            have HSW := Lib.hid hsw; clear hsw hgv
            have hlt4 := hr4.blk.lt
            clear hr4 c24 cbx1
            obtain ⟨v', hv'⟩ := cell?_setCell_some (w := w4) (p := ⟨b, f' * 2, none⟩) (x := .slice ga (st.tick.dur g').length gc) (q := ⟨b, g' * 2, none⟩) (v := .slice ga (st.tick.dur g').length gc) hcg
            have hbne : w.heap.size ≠ b := by have := hdlt.out _ hb1; omega
            have hS1 := Lib.hid (((hbx4.out).of_heap (heap_setCell_other w4 b (f' * 2) (.slice ga (st.tick.dur g').length gc) hbne)).cell_of (o := 0) rfl)
            have hS2 := Lib.hid ((((hbx4.out).of_heap (heap_setCell_other w4 b (f' * 2) (.slice ga (st.tick.dur g').length gc) hbne)).of_heap (heap_setCell_other _ b (g' * 2) (.slice none 0 0) hbne)).cell_of (o := 0) rfl)
            go_wp2
            refine PLM.wp_region_plm (fun w1 => w1.cell? ⟨w.heap.size, 0, none⟩ = some (.int .i64 (g' : Int))) [(3, 4)] (by kernel_rfl) (by kernel_rfl) cbx4 ?_
            repeat (first | (refine PLM.step0 rfl (fun K hK => ?_); go_simp; refine hK _ ?_; clear hK K) | (refine PLM.step1 rfl rfl (fun K hK => ?_); go_simp; refine hK _ ?_; clear hK K))
            (refine PLM.step4 rfl (fun w1 hS => by go_simp) (fun K hK => ?_); go_simp; refine hK _ ?_; clear hK K)
            repeat (first | (refine PLM.step0 rfl (fun K hK => ?_); go_simp; refine hK _ ?_; clear hK K) | (refine PLM.step1 rfl rfl (fun K hK => ?_); go_simp; refine hK _ ?_; clear hK K))
            (refine PLM.step2 rfl rfl (fun K hK => ?_); go_simp; refine hK _ _ hS1.out ?_; clear hK K)
            repeat (first | (refine PLM.step0 rfl (fun K hK => ?_); go_simp; refine hK _ ?_; clear hK K) | (refine PLM.step1 rfl rfl (fun K hK => ?_); go_simp; refine hK _ ?_; clear hK K))
            (refine PLM.step2 rfl rfl (fun K hK => ?_); go_simp; refine hK _ _ hS2.out ?_; clear hK K)
            refine PLM.stepNil ?_
            obtain ⟨w6, hw6⟩ : ∃ w6, w6 = ((w4.setCell ⟨b, f' * 2, none⟩ (.slice ga (st.tick.dur g').length gc)).setCell ⟨b, g' * 2, none⟩ (.slice none 0 0)).drew := ⟨_, rfl⟩
            have HSW6 := Lib.hid HSW.out.drew
            have hu6 := Lib.hid (((hu5.out.setCell (p := ⟨b, f' * 2, none⟩) (fun _ => hb1) (.slice ga (st.tick.dur g').length gc)).setCell (p := ⟨b, g' * 2, none⟩) (fun _ => hb1) (.slice none 0 0)).drew)
            have hbx6 := Lib.hid (((hbx4.out).of_heap (heap_setCell_other w4 b (f' * 2) (.slice ga (st.tick.dur g').length gc) hbne)).of_heap (heap_setCell_other _ b (g' * 2) (.slice none 0 0) hbne)).drew
            rw [← hw6] at HSW6 hu6 hbx6 ⊢
            clear hw6 hS1 hS2 hcg hcf hff hfg cbx4
            go_wp2_with fail
            have hd6 : Disk w6 b D (st.tick.swap f' g') := ⟨_, _, _, _, HSW6.out, hb1, foot_up (i := g') (foot_up (i := f') ho1 (by omega) (g := own g') (fun k hk => ho1 g' k (by omega) hk)) (by omega) (g := none) (fun _ h => by cases h)⟩
            refine (forget_rep b f' D _ w6 hd6 hf').mono ?_
            intro e w7 hm
            obtain ⟨rfl, h7, hu7⟩ := hm
            have cbx7 : w7.cell? ⟨w.heap.size, 0, none⟩ = some (.int .i64 (g' : Int)) := (hbx6.out.upd hu7 (fun hd => by have := hdlt.out _ hd; omega)).cell_of rfl
            go_wp2_with fail
            refine (forget_rep b g' (After D w6) _ w7 h7 hg').mono ?_
            intro e w8 hm
            obtain ⟨rfl, h8, hu8⟩ := hm
            go_wp2
            go_ret
            exact Moved.then (hu0.out.mono (fun _ _ h => h.elim)) (Moved.then hu6.out (Moved.then' hu7 ⟨rfl, h8, hu8⟩))

theorem Turn_any (b : Nat) (f g : Int) (D : Nat → Prop) (st : DSt) (w : World) (h : Disk w b D st) (hg : DGood st) (hpl : st.pend.length ≤ 9223372036854775807) :
    Calls Try.prog 33 #[dptr b, .int .i64 f, .int .i64 g] w (Moved b D w (.int .i64 ((st.turn f g).1 : Nat)) (st.turn f g).2) :=
  (Turn_any' b f g (fun k => D k ∧ k < w.heap.size) st w (h.mono fun k hk hd => ⟨hd, hk⟩) hg hpl (fun _ h => h.2)).mono fun _ _ h => h.wide fun _ h => h.1
end Go.Proofs.Ythfnnkfdpnkodaa
