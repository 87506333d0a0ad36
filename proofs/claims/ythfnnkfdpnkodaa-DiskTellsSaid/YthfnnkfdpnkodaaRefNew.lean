/- The reference's New, Size and Arm, walked. -/
import Derived.Test.YthfnnkfdpnkodaaRefTurn
namespace Go.Proofs.Ythfnnkfdpnkodaa
open Go.RowKit

theorem make12s (w : World) : (Instr.makeSlice 28 (.int .i64 12) (.int .i64 12)).run Try.prog w = .ok (.slice (some ⟨w.heap.size, 0, none⟩) 12 12) (w.alloc (.cells (madeCells #[.string ByteArray.empty] 12) 9)) := by
  obtain ⟨ht, i, z, hi, hz, h1, h2, h3, h4⟩ := EStr
  have hz0 : z = .string ByteArray.empty := by
    have hk : (Try.prog.info? 9).bind (·.zero) = some (.string ByteArray.empty) := by kernel_rfl
    rw [hi] at hk; simpa [hz] using hk
  subst hz0
  have := run_make (P := Try.prog) w 28 9 i (.string ByteArray.empty) ht hi hz .i64 .i64 12 12 (by omega) (by omega) (by rw [h2]; omega) (by omega)
  rw [h1] at this
  simpa [Value.cells] using this

def NewR (b : Nat) (w : World) (st : DSt) (rk : List Int) (w' : World) : Prop := RD b st rk w' (fun k => w.heap.size ≤ k) ∧ Upd (fun _ => False) w w'

theorem lastsV_new : (madeCells #[.string ByteArray.empty] (12 * 1)).toList.take (12 * 1) = lastsV st0.dur := by
  simp [madeCells, lastsV, List.range_succ, st0, strV]
  rfl

theorem rnew_any (w : World) : Calls Try.prog 25 #[] w (fun e w' => ∃ b, e = .returned (dptr b) ∧ NewR b w st0 [] w') := by
  have hmk := make12s
  have hrow := Row.made w 9 1 #[.string ByteArray.empty] 12 12 (Nat.le_refl _) (by decide)
  rw [lastsV_new] at hrow
  have h1 := Owned.box (w := w.alloc (.cells (madeCells #[.string ByteArray.empty] 12) 9)) 67 (rflds st0 []) [.slice (some ⟨w.heap.size, 0, none⟩) 12 12, .slice none 0 0, .int .i64 0, .bool false, .int .i64 0, .slice none 0 0] (fun i => if i = 0 then some w.heap.size else none) rfl (fun i f hf => by
    match i with
    | 0 => cases hf; exact ⟨_, rfl, hrow⟩
    | 1 => cases hf; exact ⟨_, rfl, Row.empty _ _ _⟩
    | 2 => cases hf; exact ⟨_, rfl, rfl, rfl⟩
    | 3 => cases hf; exact ⟨_, rfl, rfl, rfl⟩
    | 4 => cases hf; exact ⟨_, rfl, rfl, rfl⟩
    | 5 => cases hf; exact ⟨_, rfl, Row.empty _ _ _⟩
    | n + 6 => simp [rflds] at hf) (fun i j k hi hj => by
      split at hi
      · split at hj
        · omega
        · cases hj
      · cases hi) (fun i hi => by
      simp [rflds] at hi
      rw [if_neg (by omega)])
  have H1 : Hid (RD (w.alloc (.cells (madeCells #[.string ByteArray.empty] 12) 9)).heap.size st0 [] ((w.alloc (.cells (madeCells #[.string ByteArray.empty] 12) 9)).alloc (.cells #[.slice (some ⟨w.heap.size, 0, none⟩) 12 12, .slice none 0 0, .int .i64 0, .bool false, .int .i64 0, .slice none 0 0] 67)) (fun k => w.heap.size ≤ k)) := by
    refine Lib.hid (Owned.mono h1 fun k hk hx => ?_)
    rcases hx with hx | ⟨i, hx⟩
    · rw [hx]; simp
    · split at hx
      · cases hx; exact Nat.le_refl _
      · cases hx
  rw [show (w.alloc (.cells (madeCells #[.string ByteArray.empty] 12) 9)).heap.size = w.heap.size + 1 by simp] at H1
  clear h1 hrow
  go_enter Try.func25, Try.ntmps25
  go_wp2
  go_ret
  exact ⟨_, rfl, H1.out, ((Upd.refl _ w).alloc _).alloc _⟩


theorem rsize_any (b : Nat) (st : DSt) (rk : List Int) (w : World) (D : Nat → Prop) (h : RD b st rk w D) (n : Nat) (hg : Fit st n) (hn : n ≤ 1000000000000) (f : Int) :
    Calls Try.prog 29 #[dptr b, .int .i64 f] w (fun e w' => e = .returned (.int .i64 (st.size f : Nat)) ∧ Upd (fun _ => False) w w') := by
  unfold DSt.size
  by_cases hb : bad f
  · rw [if_pos hb]
    unfold bad at hb
    by_cases h0 : f < 0
    · clear hb h hg
      go_enter Try.func29, Try.ntmps29
      go_wp2
      go_ret
      exact ⟨rfl, Upd.refl _ _⟩
    · have h1 : 11 < f := by omega
      clear hb h hg
      go_enter Try.func29, Try.ntmps29
      go_wp2
      go_ret
      exact ⟨rfl, Upd.refl _ _⟩
  · rw [if_neg hb]
    unfold bad at hb
    obtain ⟨f', rfl⟩ := Int.eq_ofNat_of_zero_le (show 0 ≤ f by omega)
    have hf12 : f' < 12 := by omega
    have hfi : (f' : Int) ≤ 11 := by omega
    obtain ⟨lb, lc, qa, qc, hs⟩ := RD.seen h
    have hrd := Lib.hid (rread_any b f' hf12 st hg.good w lb lc qa qc hs (by have := hg.pend; omega))
    obtain ⟨S, hS, _, hSz⟩ := exStr (applyP f' st.pend (st.dur f'))
    rw [hS] at hrd
    have hsz : st.siz f' = S.size := by rw [hSz, hg.good.siz f' hf12]
    rw [Int.toNat_natCast, hsz]
    clear hb h hg hs hS hSz hsz
    go_enter Try.func29, Try.ntmps29
    go_wp2_with fail
    refine hrd.out.mono ?_
    rintro e w3 ⟨rfl, hu3⟩
    go_wp2_with fail
    go_ret
    exact ⟨rfl, hu3⟩


theorem EInt0 : Elem Try.prog 23 3 1 8 := .of (z := .int .i64 0) (by kernel_rfl) (by kernel_rfl) (by kernel_rfl)


set_option maxHeartbeats 1600000 in
theorem rarm_any (F : Nat → Prop) (b : Nat) (st : DSt) (rk : List Int) (w : World) (hF : ∀ k, F k → k < w.heap.size) (h : RD b st rk w (fun k => ¬ F k)) (m : Int) (keep : Value) (ks : List Int) (kb : Nat) (hks : IntsAt w keep ks kb) (hnil : ∀ a c, keep = .slice a ks.length c → a = none → ks = []) (hkl : ks.length ≤ 17592186044416) (hkb : ks ≠ [] → kb ≠ b) :
    Calls Try.prog 49 #[dptr b, .int .i64 m, keep] w (KeptR F b w (.tuple #[]) (st.arm m ks) ks) := by
  obtain ⟨ka, kc, rfl, hkl2⟩ := hks.form
  have hbF : ¬ F b := RD.b_in h
  have c4 : w.cell? ⟨b, 4, none⟩ = some (.int .i64 st.armed) := Owned.sc h rfl
  have f4 : w.frozen? ⟨b, 4, none⟩ = false := Owned.froz h (by simp [rflds])
  by_cases hm : m < 0
  · have hmx : m.toNat = 0 := by omega
    have h1 : RD b { st with armed := 0 } rk (w.setCell ⟨b, 4, none⟩ (.int .i64 ((0 : Nat) : Int))) (fun k => ¬ F k) := Owned.setSc h (i := 4) rfl (.int .i64 ((0 : Nat) : Int))
    have hu1 : Upd (fun k => k = b) w (w.setCell ⟨b, 4, none⟩ (.int .i64 ((0 : Nat) : Int))) := Upd.setCell (S := fun k => k = b) (Upd.refl _ _) (p := ⟨b, 4, none⟩) (fun _ => rfl) _
    have H1 := Lib.hid h1
    have HU1 := Lib.hid hu1
    have HK1 := Lib.hid (hks.upd2 hu1 hkb)
    have HF := Lib.hid hF
    clear h h1 hu1 hks hF hnil
    go_enter Try.func49, Try.ntmps49
    go_upto_region 1 with fail
    obtain ⟨w1, hw1⟩ : ∃ w1, w1 = w.setCell ⟨b, 4, none⟩ (.int .i64 ((0 : Nat) : Int)) := ⟨_, rfl⟩
    rw [← hw1] at H1 HU1 HK1
    try simp only [Int.natCast_zero] at hw1
    rw [← hw1]
    clear hw1 c4 f4
    have hlit : Hid (Row (w1.alloc (.cells #[] 3)) 3 1 (.slice (some ⟨w1.heap.size, 0, none⟩) 0 0) (some w1.heap.size) 0 []) := Lib.hid (Row.lit w1 3 1 0 #[] (by unfold maxLen; omega) rfl)
    have hsrc := Lib.hid (HK1.out.src (.cells #[] 3))
    go_wp2_with (at_builtin; refine wpList_append_row rfl (.tmp 12) (.tmp 13) 23 23 rfl 3 1 8 EInt0 _ _ _ [] rfl hlit.out _ ks.length (intsV ks) rfl hsrc.out ks.length (Nat.zero_add _).symm (intsV ks) rfl ?b1 ?b2 ?_)
    case b1 => unfold maxLen; omega
    case b2 => omega
    intro v3 w3 g3 hrow3 hg3 hu3
    have hu13 : Upd (fun _ => False) w1 w3 := ((Upd.refl _ w1).alloc _).trans hu3 fun k hk e => by cases e; omega
    obtain ⟨v5, g5, c5, r5, hd5, hback⟩ := Owned.focus H1.out (i := 5) rfl
    have hg3' : ∀ k, g3 = some k → w1.heap.size ≤ k := fun k hk => by
      rcases hg3.some hk with e | e
      · cases e; exact Nat.le_refl _
      · rw [e]; simp
    have hfin := hback.1 w3 v3 g3 _ _ _ _ (hu13.mono fun _ _ h => h.elim) hrow3 (fun k hk => .inr (hg3' k hk))
    have c5' := hu13.cell c5
    have f5' : w3.frozen? ⟨b, 5, none⟩ = false := Owned.froz (Owned.still H1.out hu13) (i := 5) (by simp [rflds])
    obtain ⟨a3, cc3, hv3, _, _⟩ := hrow3.form
    subst hv3
    have HFIN : Hid (RD b (st.arm m ks) ks (w3.setCell ⟨b, 5, none⟩ (.slice a3 ks.length cc3)) (fun k => ¬ F k)) := by
      unfold DSt.arm
      rw [hmx]
      refine Lib.hid (Owned.mono hfin fun k _ hk hf => hk.elim (fun h => h hf) (fun h => by have := HF.out k hf; have := HU1.out.size; omega))
    have HUF := Lib.hid (((HU1.out.mono (S' := fun k => ¬ F k) fun k _ e => e ▸ hbF).trans hu13 fun _ _ h => h.elim).setCell (p := ⟨b, 5, none⟩) (fun _ => hbF) (.slice a3 ks.length cc3))
    clear hfin hback hd5 r5 c5 hrow3 hg3 hg3' hu3 hu13 hlit hsrc
    go_wp2_with fail
    go_end0
    exact ⟨rfl, HFIN.out, HUF.out⟩
  · obtain ⟨x, rfl⟩ := Int.eq_ofNat_of_zero_le (show 0 ≤ m by omega)
    have hx0 : ¬ (x : Int) < 0 := by omega
    have hmx : (x : Int).toNat = x := by omega
    clear hm
    have h1 : RD b { st with armed := x } rk (w.setCell ⟨b, 4, none⟩ (.int .i64 ((x : Nat) : Int))) (fun k => ¬ F k) := Owned.setSc h (i := 4) rfl (.int .i64 ((x : Nat) : Int))
    have hu1 : Upd (fun k => k = b) w (w.setCell ⟨b, 4, none⟩ (.int .i64 ((x : Nat) : Int))) := Upd.setCell (S := fun k => k = b) (Upd.refl _ _) (p := ⟨b, 4, none⟩) (fun _ => rfl) _
    have H1 := Lib.hid h1
    have HU1 := Lib.hid hu1
    have HK1 := Lib.hid (hks.upd2 hu1 hkb)
    have HF := Lib.hid hF
    clear h h1 hu1 hks hF hnil
    go_enter Try.func49, Try.ntmps49
    go_upto_region 1 with fail
    obtain ⟨w1, hw1⟩ : ∃ w1, w1 = w.setCell ⟨b, 4, none⟩ (.int .i64 ((x : Nat) : Int)) := ⟨_, rfl⟩
    rw [← hw1] at H1 HU1 HK1
    try simp only [Int.natCast_zero] at hw1
    rw [← hw1]
    clear hw1 c4 f4
    have hlit : Hid (Row (w1.alloc (.cells #[] 3)) 3 1 (.slice (some ⟨w1.heap.size, 0, none⟩) 0 0) (some w1.heap.size) 0 []) := Lib.hid (Row.lit w1 3 1 0 #[] (by unfold maxLen; omega) rfl)
    have hsrc := Lib.hid (HK1.out.src (.cells #[] 3))
    go_wp2_with (at_builtin; refine wpList_append_row rfl (.tmp 12) (.tmp 13) 23 23 rfl 3 1 8 EInt0 _ _ _ [] rfl hlit.out _ ks.length (intsV ks) rfl hsrc.out ks.length (Nat.zero_add _).symm (intsV ks) rfl ?b1 ?b2 ?_)
    case b1 => unfold maxLen; omega
    case b2 => omega
    intro v3 w3 g3 hrow3 hg3 hu3
    have hu13 : Upd (fun _ => False) w1 w3 := ((Upd.refl _ w1).alloc _).trans hu3 fun k hk e => by cases e; omega
    obtain ⟨v5, g5, c5, r5, hd5, hback⟩ := Owned.focus H1.out (i := 5) rfl
    have hg3' : ∀ k, g3 = some k → w1.heap.size ≤ k := fun k hk => by
      rcases hg3.some hk with e | e
      · cases e; exact Nat.le_refl _
      · rw [e]; simp
    have hfin := hback.1 w3 v3 g3 _ _ _ _ (hu13.mono fun _ _ h => h.elim) hrow3 (fun k hk => .inr (hg3' k hk))
    have c5' := hu13.cell c5
    have f5' : w3.frozen? ⟨b, 5, none⟩ = false := Owned.froz (Owned.still H1.out hu13) (i := 5) (by simp [rflds])
    obtain ⟨a3, cc3, hv3, _, _⟩ := hrow3.form
    subst hv3
    have HFIN : Hid (RD b (st.arm (x : Int) ks) ks (w3.setCell ⟨b, 5, none⟩ (.slice a3 ks.length cc3)) (fun k => ¬ F k)) := by
      unfold DSt.arm
      rw [hmx]
      refine Lib.hid (Owned.mono hfin fun k _ hk hf => hk.elim (fun h => h hf) (fun h => by have := HF.out k hf; have := HU1.out.size; omega))
    have HUF := Lib.hid (((HU1.out.mono (S' := fun k => ¬ F k) fun k _ e => e ▸ hbF).trans hu13 fun _ _ h => h.elim).setCell (p := ⟨b, 5, none⟩) (fun _ => hbF) (.slice a3 ks.length cc3))
    clear hfin hback hd5 r5 c5 hrow3 hg3 hg3' hu3 hu13 hlit hsrc
    go_wp2_with fail
    go_end0
    exact ⟨rfl, HFIN.out, HUF.out⟩
end Go.Proofs.Ythfnnkfdpnkodaa
