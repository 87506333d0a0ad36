/- The reference's Crash, walked. -/
import Derived.Test.YthfnnkfdpnkodaaRefAfter
import Derived.Test.YthfnnkfdpnkodaaRefAdd
import Derived.Deep.DeepCutAuto
namespace Go.Proofs.Ythfnnkfdpnkodaa
open Go.RowKit

theorem IntsAt.upd2 {S : Nat → Prop} {w w' : World} {v : Value} {ks : List Int} {kb : Nat} (h : IntsAt w v ks kb) (u : Upd S w w') (hS : ks ≠ [] → ¬ S kb) : IntsAt w' v ks kb := by
  refine ⟨h.form, fun a c hv j hj => ?_, fun hn => Nat.lt_of_lt_of_le (h.lt hn) u.size⟩
  obtain ⟨o, ha, hc⟩ := h.cells a c hv j hj
  have hne : ks ≠ [] := fun e => by rw [e] at hj; exact absurd hj (Nat.not_lt_zero _)
  refine ⟨o, ha, ?_⟩
  rw [World.cell?_of_block (w := w) (u.block kb (h.lt (by omega)) (hS hne))]
  exact hc

theorem RD.b_in {b : Nat} {st : DSt} {rk : List Int} {w : World} {D : Nat → Prop} (h : RD b st rk w D) : D b := by
  obtain ⟨_, _, ho⟩ := h
  exact ho.inD.1

def DSt.dead (st : DSt) : DSt := { st with down := true, armed := 0 }

def RcRel (w : World) (st : DSt) (ks : List Int) (gk : Nat) (out i : Value) (wr : World) : Prop :=
  ∃ (k : Nat) (g : Option Nat), i = .int .i64 k ∧ k ≤ 12 ∧ gk = 12 - k ∧ Row wr 9 1 out g k ((List.range k).map fun f => strV (crashN st.pend ks st.dur st.pend.length f)) ∧ (∀ k, g = some k → w.heap.size ≤ k) ∧ Upd (fun _ => False) w wr

theorem RSeen.dead {b : Nat} {st : DSt} {w : World} {lb lc : Nat} {qa : Option Addr} {qc : Nat} (h : RSeen b st.dead w lb lc qa qc) : RSeen b st w lb lc qa qc := ⟨h.c0, h.c1, h.last, h.row⟩

theorem cell_focus {b : Nat} {st : DSt} {rk : List Int} {w : World} {D : Nat → Prop} (h : RD b st rk w D) : ∃ v0 v1, w.cell? ⟨b, 0, none⟩ = some v0 ∧ w.cell? ⟨b, 1, none⟩ = some v1 := by
  obtain ⟨v0, _, c0, _⟩ := Owned.focus h (i := 0) rfl
  obtain ⟨v1, _, c1, _⟩ := Owned.focus h (i := 1) rfl
  exact ⟨v0, v1, c0, c1⟩

set_option maxHeartbeats 1600000 in
theorem rcrash_up (F : Nat → Prop) (b : Nat) (st : DSt) (rk : List Int) (w : World) (hF : ∀ k, F k → k < w.heap.size) (h : RD b st rk w (fun k => ¬ F k)) (hg : DGood st) (hp : st.pend.length ≤ 1099511627776) (keep : Value) (ks : List Int) (kb : Nat) (hks : IntsAt w keep ks kb)
    (hkb : ks ≠ [] → kb ≠ b) (hd : st.down = false) : Calls Try.prog 47 #[dptr b, keep] w (KeptR F b w (.tuple #[]) (st.crash ks) rk) := by
  obtain ⟨kq, kc, rfl, hkl⟩ := hks.form
  have hbF : ¬ F b := h.b_in
  have c3 : w.cell? ⟨b, 3, none⟩ = some (.bool false) := hd ▸ Owned.sc h rfl
  have f3 : w.frozen? ⟨b, 3, none⟩ = false := Owned.froz h (by simp [rflds])
  have h1 := Owned.setSc h (i := 3) rfl (.bool true)
  have c4 : (w.setCell ⟨b, 3, none⟩ (.bool true)).cell? ⟨b, 4, none⟩ = some (.int .i64 st.armed) := Owned.sc h1 (i := 4) rfl
  have f4 : (w.setCell ⟨b, 3, none⟩ (.bool true)).frozen? ⟨b, 4, none⟩ = false := Owned.froz h1 (by simp [rflds])
  have h2 : RD b st.dead rk ((w.setCell ⟨b, 3, none⟩ (.bool true)).setCell ⟨b, 4, none⟩ (.int .i64 0)) (fun k => ¬ F k) := Owned.setSc h1 (i := 4) rfl (.int .i64 0)
  have hu2 : Upd (fun k => k = b) w ((w.setCell ⟨b, 3, none⟩ (.bool true)).setCell ⟨b, 4, none⟩ (.int .i64 0)) :=
    (Upd.setCell (S := fun k => k = b) (Upd.refl _ w) (p := ⟨b, 3, none⟩) (fun _ => rfl) _).setCell (p := ⟨b, 4, none⟩) (fun _ => rfl) _
  obtain ⟨w2, hw2⟩ : ∃ w2, w2 = (w.setCell ⟨b, 3, none⟩ (.bool true)).setCell ⟨b, 4, none⟩ (.int .i64 0) := ⟨_, rfl⟩
  rw [← hw2] at h2 hu2
  have hks2 : IntsAt w2 (.slice kq ks.length kc) ks kb := hks.upd2 hu2 hkb
  obtain ⟨lb, lc, qa, qc, hseen⟩ := h2.seen
  obtain ⟨v0, g0, c0, r0, hd0, hback⟩ := Owned.focus h2 (i := 0) rfl
  have hcall := Lib.hid (fun (f : Nat) (hf : f < 12) (w' : World) (hu : Upd (fun _ => False) w2 w') => rafter_any b f hf st hg w' lb lc qa qc (hseen.upd hu).dead hp _ ks kb (hks2.upd2 hu fun _ h => h))
  have H2 := Lib.hid h2
  have HB := Lib.hid hback
  have HU2 := Lib.hid hu2
  have HC0 := Lib.hid c0
  have HD0 := Lib.hid hd0
  have hFw : Hid (∀ k, F k → k < w2.heap.size) := Lib.hid (fun k hk => Nat.lt_of_lt_of_le (hF k hk) hu2.size)
  have h0 : Hid (RcRel w2 st ks 12 (.slice none 0 0) (.int .i64 0) w2) := Lib.hid ⟨0, none, rfl, by omega, rfl, Row.empty _ _ _, (fun _ h => by cases h), Upd.refl _ _⟩
  have HW2 := Lib.hid hw2
  clear h h1 h2 hu2 hseen hback hks hks2 c0 r0 hd0 hg hd hF
  go_enter Try.func47, Try.ntmps47
  go_upto_region 3 with fail
  rw [← HW2.out]
  clear hw2 HW2 c3 f3 c4 f4
  go_wp2_with fail
  go_loopg [4, 5] 12 (fun gk s i wr => RcRel w2 st ks gk s i wr)
  case atStart => exact h0.out
  case round =>
    clear h0
    obtain ⟨k, g, rfl, hk, rfl, hrow, hg, hu⟩ := hrel
    have HR := Lib.hid hrow
    have HG := Lib.hid hg
    clear hrow hg
    by_cases hlt : k < 12
    · have hki : (k : Int) < 12 := by omega
      obtain ⟨S, hS, _, _⟩ := exStr (crashN st.pend ks st.dur st.pend.length k)
      have hc2 := Lib.hid (hcall.out k hlt wr hu)
      rw [hS] at hc2
      have HS := Lib.hid hS
      clear hS
      go_wp2_with fail
      refine hc2.out.mono ?_
      rintro e w3 ⟨rfl, hu3⟩
      have hlit : Hid (Row (w3.alloc (.cells #[.string S] 9)) 9 1 (.slice (some ⟨w3.heap.size, 0, none⟩) 1 1) (some w3.heap.size) 1 [.string S]) := Lib.hid (Row.lit w3 9 1 1 _ (by unfold maxLen; omega) rfl)
      have hone : Hid (∀ u ∈ [Value.string S], u.oneCell' = true) := Lib.hid (by simp [Value.oneCell'])
      have hu3a := hu3.alloc (.cells #[.string S] 9)
      have hrow2 := Lib.hid (HR.out.upd hu3a fun _ _ h => h)
      have HU3 := Lib.hid (hu.trans hu3a fun _ _ h => h)
      have hsz3 := Lib.hid hu3.size
      clear hu3 hu3a hc2
      go_wp2_with (at_builtin; refine wpList_append_row rfl (.tmp 20) (.tmp 25) 28 28 rfl 9 1 16 EStr _ g _ _ rfl hrow2.out _ 1 _ rfl (Row.src (P := Try.prog) (e' := 9) (by kernel_rfl) hlit.out hone.out) _ rfl _ rfl ?b1 ?b2 ?_)
      case b1 => unfold maxLen; omega
      case b2 => omega
      intro v4 w4 g4 hrow4 hg4 hu4
      have hrel4 : Hid (RcRel w2 st ks (12 - (k + 1)) v4 (.int .i64 ((k : Int) + 1)) w4) := by
        refine Lib.hid ⟨k + 1, g4, by simp, by omega, rfl, ?_, fun b hb => ?_, ?_⟩
        · rw [List.range_succ, List.map_append, List.map_singleton, HS.out]; exact hrow4
        · rcases hg4.some hb with h | h
          · exact HG.out b h
          · have := HU3.out.size; omega
        · exact HU3.out.trans hu4 (fun k hk h => by have := HG.out k h; omega)
      clear hrow4 hg4 hu4
      go_wp2_with fail
      go_roundg (12 - (k + 1))
      case rel => exact hrel4.out
      case measure => omega
    · obtain rfl : k = 12 := by omega
      obtain ⟨ra, rc, hrv, _, _⟩ := HR.out.form
      subst hrv
      have c0 := hu.cell HC0.out
      have hw := H2.out
      have f0 : wr.frozen? ⟨b, 0, none⟩ = false := Owned.froz (Owned.still H2.out hu) (i := 0) (by simp [rflds])
      have hnew := HB.out.1 wr (.slice ra 12 rc) g 9 1 12 (lastsV (crashN st.pend ks st.dur st.pend.length)) (hu.mono fun _ _ h => h.elim) HR.out (fun k hk => .inr (HG.out k hk))
      obtain ⟨v1, g1, c1, r1, hd1, hback1⟩ := Owned.focus hnew (i := 1) rfl
      have f1 := Owned.froz hnew (i := 1) (by simp [rflds])
      have hfin := hback1.1 _ (.slice none 0 0) none 76 3 0 [] (Upd.refl _ _) (Row.empty _ _ _) (fun _ h => by cases h)
      have hfin2 : Hid (RD b (st.crash ks) rk ((wr.setCell ⟨b, 0, none⟩ (.slice ra 12 rc)).setCell ⟨b, 1, none⟩ (.slice none 0 0)) (fun k => ¬ F k)) := by
        refine Lib.hid (Owned.mono hfin fun k hk hx hf => ?_)
        have h3 := hu.size
        have h4 := hFw.out k hf
        rcases hx with (hx | hx) | hx
        · exact hx hf
        · omega
        · simp [World.setCell] at hx; omega
      have hu5 : Hid (Upd (fun k => ¬ F k) w ((wr.setCell ⟨b, 0, none⟩ (.slice ra 12 rc)).setCell ⟨b, 1, none⟩ (.slice none 0 0))) :=
        Lib.hid (((HU2.out.mono (S' := fun k => ¬ F k) fun k _ e => e ▸ hbF).trans hu fun _ _ h => h.elim).setCell (p := ⟨b, 0, none⟩) (fun _ => hbF) _ |>.setCell (p := ⟨b, 1, none⟩) (fun _ => hbF) _)
      clear hnew hd1 hback1 hfin r1 hw hu
      go_wp2_with fail
      go_end0
      exact ⟨rfl, hfin2.out, hu5.out⟩

theorem rcrash_any (F : Nat → Prop) (b : Nat) (st : DSt) (rk : List Int) (w : World) (hF : ∀ k, F k → k < w.heap.size) (h : RD b st rk w (fun k => ¬ F k)) (hg : DGood st) (hp : st.pend.length ≤ 1099511627776) (keep : Value) (ks : List Int) (kb : Nat) (hks : IntsAt w keep ks kb)
    (hkb : ks ≠ [] → kb ≠ b) : Calls Try.prog 47 #[dptr b, keep] w (KeptR F b w (.tuple #[]) (st.doCrash ks) rk) := by
  unfold DSt.doCrash
  cases hd : st.down with
  | false => exact rcrash_up F b st rk w hF h hg hp keep ks kb hks hkb hd
  | true =>
    have c3 : w.cell? ⟨b, 3, none⟩ = some (.bool true) := hd ▸ Owned.sc h rfl
    have H := Lib.hid h
    clear h hks hkb hg hd hF hp
    go_enter Try.func47, Try.ntmps47
    go_wp2
    go_end0
    exact ⟨rfl, H.out, Upd.refl _ _⟩
end Go.Proofs.Ythfnnkfdpnkodaa
