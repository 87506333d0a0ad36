/- DiskDown walked. -/
import Derived.Test.YthfnnkfdpnkodaaIdle
namespace Go.Proofs.Ythfnnkfdpnkodaa
open Go.RowKit

def DnRel (F : Nat → Prop) (b : Nat) (w0 : World) (acts : List ActV) (i : Value) (w : World) : Prop :=
  ∃ (k : Nat) (st : DSt), i = .int .i64 k ∧ k ≤ acts.length ∧ At F b w0 st w ∧ Fit st (actSum (acts.take k))

def DnRel2 (F : Nat → Prop) (b c : Nat) (w0 : World) (st : DSt) (i : Value) (w : World) : Prop :=
  ∃ k : Nat, i = .int .i64 k ∧ k ≤ 12 ∧ Two F b c w0 st st w

theorem at_eq4 {F : Nat → Prop} {b c : Nat} {w0 w : World} {sc st st' : DSt} {fn : Nat} {args : Array Value} {v : Value} (t : Calls Try.prog fn args w (fun e w' => e = .returned v ∧ Two F b c w0 st sc w')) (hs : st = st') :
    Calls Try.prog fn args w (fun e w' => e = .returned v ∧ Two F b c w0 st' sc w') := by subst hs; exact t

theorem law_down' (F : Nat → Prop) (b : Nat) (st : DSt) (w : World) (_hF : ∀ k, F k → k < w.heap.size) (h : Disk w b (fun k => ¬ F k) st) : Calls Try.prog 11 #[dptr b] w (Kept F b w (.bool st.down) st) :=
  (law_down F b st w h).mono fun _ _ ⟨h1, h2⟩ => ⟨h1, h2 ▸ h, h2 ▸ Upd.refl _ _⟩


/-- A literal slice of one act. -/
theorem actsAt_one (W : World) (a : ActV) : ActsAt (W.alloc (.cells a.cells 30)) (.slice (some ⟨W.heap.size, 0, none⟩) 1 1) [a] := by
  refine ⟨⟨_, _, rfl, by simp⟩, fun q c hv j hj => ?_⟩
  cases hv
  obtain rfl : j = 0 := by simpa using hj
  refine ⟨_, 0, rfl, fun i hi => ?_⟩
  rw [Nat.zero_mul, Nat.add_zero, Nat.zero_add]
  refine (Blk.newA W a.cells 30).cell_of ?_
  rw [List.getElem?_eq_getElem (by simpa [ActV.cells] using hi)]
  rfl

theorem few_one {F : Nat → Prop} {b : Nat} {w0 w : World} {st : DSt} {a : ActV} (h : At F b w0 st w) {W : World} (ha : ActIn W a) :
    Calls Try.prog 10 #[.slice (some ⟨w.heap.size, 0, none⟩) 1 1] (w.alloc (.cells a.cells 30)) (fun e w' => (∃ r : Bool, e = .returned (.bool r) ∧ (r = true → FewOk [a])) ∧ At F b w0 st w') :=
  (few_any _ [a] _ (actsAt_one w a) (fun x hx => by
    obtain rfl : x = a := by simpa using hx
    obtain ⟨h1, q, c, hq⟩ := ha
    exact ⟨h1.s, q, c, hq, h1.k⟩)).mono fun _ w' ⟨r, h1, h2, h3⟩ => by
      have h := h.alloc (.cells a.cells 30)
      exact ⟨⟨r, h1, h2⟩, fun k hk => Nat.lt_of_lt_of_le (h.1 k hk) h3.size, h.2.1.still h3, h.2.2.trans h3 fun _ _ h => h.elim⟩






set_option maxRecDepth 100000 in
set_option maxHeartbeats 3200000 in
theorem down_walk (F : Nat → Prop) (W1 : World) (hF : ∀ k, F k → k < W1.heap.size) (hF' : ∀ k, k < W1.heap.size → F k) (B : Nat) (v : Value) (acts : List ActV) (a : ActV) (hl : ActsIn W1 v acts) (ha : ActIn W1 a) (W : World) (hW1 : W1 = W.alloc (.cells a.cells 30)) (hB : B = W.heap.size) :
    Calls Try.prog 7 #[v, .agg a.cells] W fun e w' => e = .returned (.bool true) ∧ Upd (fun k => ¬ F k) W1 w' := by
  obtain ⟨lq, lc, rfl, hll⟩ := hl.1.form
  have hbox : Blk W1 B a.cells.toList 30 := by rw [hW1, hB]; exact Blk.newA W a.cells 30
  have HFB : F B := hF' _ hbox.lt
  have hHF := Lib.hid hF
  have hHF' := Lib.hid hF'
  have HB0 : Hid (W1.cell? ⟨B, 0, none⟩ = some (.int .i64 a.op)) := hbox.cell_of rfl
  have HB5 : Hid (W1.cell? ⟨B, 5, none⟩ = some a.keep) := hbox.cell_of rfl
  have HB1 : Hid (W1.cell? ⟨B, 1, none⟩ = some (.int .i64 a.f)) := hbox.cell_of rfl
  have HB2 : Hid (W1.cell? ⟨B, 2, none⟩ = some (.int .i64 a.g)) := hbox.cell_of rfl
  have HB3 : Hid (W1.cell? ⟨B, 3, none⟩ = some (.int .i64 a.n)) := hbox.cell_of rfl
  have HB4 : Hid (W1.cell? ⟨B, 4, none⟩ = some (.string a.s)) := hbox.cell_of rfl
  have HL := Lib.hid hl
  have HA := Lib.hid ha
  have HBX := Lib.hid hbox
  clear hbox hF hF' hl ha
  unfold ActV.cells at hW1 ⊢
  go_enter Try.func7, Try.ntmps7
  go_wp2_with fail
  rw [← hW1, ← hB]
  clear hW1 hB W
  refine (small_at F W1 hHF.out).mono ?_
  rintro e w ⟨rfl, hu⟩
  go_wp2_with fail
  refine (at_new F w (fun k hk => Nat.lt_of_lt_of_le (hHF.out k hk) hu.size)).mono ?_
  rintro e w1 ⟨rfl, h⟩
  have h : At F w.heap.size W1 st0 w1 := ⟨h.1, h.2.1, hu.trans h.2.2 fun _ _ h => h⟩
  obtain ⟨b, hb⟩ : ∃ b, b = w.heap.size := ⟨_, rfl⟩
  rw [← hb] at h ⊢
  clear hb hu
  go_wp2_with fail
  refine (few_at h HL.out hHF'.out).mono ?_; clear h
  rintro e w2 ⟨⟨r, rfl, hr⟩, h⟩
  cases r with
  | false =>
    go_wp2
    go_ret
    exact ⟨rfl, h.2.2⟩
  | true =>
    have hfew := Lib.hid (hr rfl)
    clear hr
    have c0 := h.cell HB0.out HFB
    have c5 := h.cell HB5.out HFB
    have c1 := h.cell HB1.out HFB
    have c2 := h.cell HB2.out HFB
    have c3 := h.cell HB3.out HFB
    have c4 := h.cell HB4.out HFB
    go_wp2_with fail
    refine (few_one h HA.out).mono ?_; clear h
    rintro e w3 ⟨⟨r, rfl, hr⟩, h⟩
    clear c0 c1 c2 c3 c4 c5
    cases r with
    | false =>
      go_wp2
      go_ret
      exact ⟨rfl, h.2.2⟩
    | true =>
      have hone := Lib.hid (hr rfl)
      clear hr
      have h0 : Hid (DnRel F b W1 acts (.int .i64 0) w3) := ⟨0, st0, rfl, Nat.zero_le _, h, fit0⟩
      clear h
      go_wp2
      go_loopw [7] (fun i w => DnRel F b W1 acts i w) (fun i _ => acts.length - (intOf i).toNat)
      case atStart => exact h0.out
      case round =>
        clear h0
        obtain ⟨k, st, rfl, hk, h, hg⟩ := hrel
        by_cases hlt : k < acts.length
        · obtain ⟨kb, o, rfl, hcs⟩ := (h.acts HL.out.1 hHF'.out).cells lq lc rfl k hlt
          have hok := (HL.out.2 _ (List.getElem_mem hlt)).ok hHF'.out
          have hok2 := h.act hok hHF.out
          have hfit := Lib.hid (Fit.acts hg hlt hok.n hok.k)
          obtain ⟨A, hA⟩ : ∃ A, A = acts[k] := ⟨_, rfl⟩
          rw [← hA] at hcs hok2 hfit
          have a0 : wr.cell? ⟨kb, o + k * 6, none⟩ = some (.int .i64 A.op) := hcs 0 (by omega)
          have a1 : wr.cell? ⟨kb, o + k * 6 + 1, none⟩ = some (.int .i64 A.f) := hcs 1 (by omega)
          have a2 : wr.cell? ⟨kb, o + k * 6 + 2, none⟩ = some (.int .i64 A.g) := hcs 2 (by omega)
          have a3 : wr.cell? ⟨kb, o + k * 6 + 3, none⟩ = some (.int .i64 A.n) := hcs 3 (by omega)
          have a4 : wr.cell? ⟨kb, o + k * 6 + 4, none⟩ = some (.string A.s) := hcs 4 (by omega)
          have a5 : wr.cell? ⟨kb, o + k * 6 + 5, none⟩ = some A.keep := hcs 5 (by omega)
          have hn : actSum (acts.take k) ≤ 1099511627776 := by have := actSum_take acts k; have := hfew.out.sum; omega
          have HOK := Lib.hid hok2
          have HG := Lib.hid hg
          have HN := Lib.hid hn
          clear hcs hok hok2 hA hg hn
          go_wp2_with fail
          refine (do_at h HG.out HN.out A HOK.out).mono ?_; clear h a0 a1 a2 a3 a4 a5
          intro e w4 hd
          obtain ⟨rfl, h⟩ := hd
          go_wp2
          go_roundw
          case rel => exact ⟨k + 1, _, by simp, hlt, h, hfit.out⟩
          case measure => simp [intOf]; omega
        · have hke : k = acts.length := by omega
          subst hke
          rw [List.take_length] at hg
          have hg' : Fit st 5000 := hg.mono hfew.out.sum
          have HG := Lib.hid hg'
          clear hg hg' hlt
          go_wp2_with fail
          refine (at_arm_nil h 0).mono ?_; clear h
          rintro e w4 ⟨rfl, h⟩
          go_wp2_with fail
          refine (at_start h).mono ?_; clear h
          rintro e w5 ⟨rfl, h⟩
          obtain ⟨s1, hs1⟩ : ∃ s1, s1 = (st.arm 0 []).start := ⟨_, rfl⟩
          rw [← hs1] at h
          have ha1 : Hid (s1.armed = 0) := by rw [hs1]; rfl
          have hd1 : Hid (s1.down = false) := by rw [hs1]; rfl
          have hg1 : Hid (Fit s1 5000) := by rw [hs1]; exact (HG.out.arm (by omega) (by simp)).start
          clear hs1
          have c0 := h.cell HB0.out HFB
          have c5 := h.cell HB5.out HFB
          have c1 := h.cell HB1.out HFB
          have c2 := h.cell HB2.out HFB
          have c3 := h.cell HB3.out HFB
          have c4 := h.cell HB4.out HFB
          by_cases hb1 : a.f < 0
          · have HBAD : Hid (bad a.f) := .inl hb1
            go_wp2_with fail
            refine (at_eq2 (Q := fun w st => At F b W1 st w) (at_write h hg1.out (by omega) a.f a.n a.s HA.out.1.s) (bad_write ha1.out hd1.out HBAD.out _ _) (i := 1) rfl).mono ?_; clear h c0 c1 c2 c3 c4 c5
            rintro e w ⟨rfl, h⟩
            have c0 := h.cell HB0.out HFB
            have c5 := h.cell HB5.out HFB
            have c1 := h.cell HB1.out HFB
            have c2 := h.cell HB2.out HFB
            have c3 := h.cell HB3.out HFB
            have c4 := h.cell HB4.out HFB
            go_wp2_with fail
            refine (at_eq2 (Q := fun w st => At F b W1 st w) (at_flush h hg1.out a.f) (bad_flush ha1.out hd1.out HBAD.out) (i := 1) rfl).mono ?_; clear h c0 c1 c2 c3 c4 c5
            rintro e w ⟨rfl, h⟩
            have c0 := h.cell HB0.out HFB
            have c5 := h.cell HB5.out HFB
            have c1 := h.cell HB1.out HFB
            have c2 := h.cell HB2.out HFB
            have c3 := h.cell HB3.out HFB
            have c4 := h.cell HB4.out HFB
            go_wp2_with fail
            refine (at_eq2 (Q := fun w st => At F b W1 st w) (at_cut h hg1.out a.f 0) (bad_cut ha1.out hd1.out HBAD.out _) (i := 1) rfl).mono ?_; clear h c0 c1 c2 c3 c4 c5
            rintro e w ⟨rfl, h⟩
            have c0 := h.cell HB0.out HFB
            have c5 := h.cell HB5.out HFB
            have c1 := h.cell HB1.out HFB
            have c2 := h.cell HB2.out HFB
            have c3 := h.cell HB3.out HFB
            have c4 := h.cell HB4.out HFB
            go_wp2_with fail
            refine (at_eq2 (Q := fun w st => At F b W1 st w) (at_turn h hg1.out (by omega) a.f 1) (bad_turn ha1.out hd1.out (.inl HBAD.out)) (i := 1) rfl).mono ?_; clear h c0 c1 c2 c3 c4 c5
            rintro e w ⟨rfl, h⟩
            have c0 := h.cell HB0.out HFB
            have c5 := h.cell HB5.out HFB
            have c1 := h.cell HB1.out HFB
            have c2 := h.cell HB2.out HFB
            have c3 := h.cell HB3.out HFB
            have c4 := h.cell HB4.out HFB
            go_wp2_with fail
            refine (at_eq2 (Q := fun w st => At F b W1 st w) (at_turn h hg1.out (by omega) 1 a.f) (bad_turn ha1.out hd1.out (.inr HBAD.out)) (i := 1) rfl).mono ?_; clear h c0 c1 c2 c3 c4 c5
            rintro e w ⟨rfl, h⟩
            have c0 := h.cell HB0.out HFB
            have c5 := h.cell HB5.out HFB
            have c1 := h.cell HB1.out HFB
            have c2 := h.cell HB2.out HFB
            have c3 := h.cell HB3.out HFB
            have c4 := h.cell HB4.out HFB
            go_wp2_with fail
            refine (at_eq3 (Q := fun w st => At F b W1 st w) (at_size h a.f) (v' := .int .i64 0) (by unfold DSt.size; rw [if_pos HBAD.out]; rfl)).mono ?_; clear h c0 c1 c2 c3 c4 c5
            rintro e w ⟨rfl, h⟩
            have c0 := h.cell HB0.out HFB
            have c5 := h.cell HB5.out HFB
            have c1 := h.cell HB1.out HFB
            have c2 := h.cell HB2.out HFB
            have c3 := h.cell HB3.out HFB
            have c4 := h.cell HB4.out HFB
            go_wp2_with fail
            refine (at_crash_nil h hg1.out).mono ?_; clear h c0 c1 c2 c3 c4 c5
            rintro e w ⟨rfl, h⟩
            have c0 := h.cell HB0.out HFB
            have c5 := h.cell HB5.out HFB
            have c1 := h.cell HB1.out HFB
            have c2 := h.cell HB2.out HFB
            have c3 := h.cell HB3.out HFB
            have c4 := h.cell HB4.out HFB
            have hg2 : Hid (Fit (s1.doCrash []) 5000) := hg1.out.doCrash []
            have hd2 : Hid ((s1.doCrash []).down = true) := by unfold DSt.doCrash; rw [hd1.out]; rfl
            obtain ⟨s2, hs2⟩ : ∃ s2, s2 = s1.doCrash [] := ⟨_, rfl⟩
            rw [← hs2] at h hg2 hd2
            clear hs2 hg1 hd1 ha1
            go_wp2_with fail
            refine (at_copy h hg2.out (by omega)).mono ?_; clear h c0 c1 c2 c3 c4 c5
            intro e w hc
            obtain ⟨c, rfl, h⟩ := hc
            have c0 := h.cell HB0.out HFB
            have c5 := h.cell HB5.out HFB
            have c1 := h.cell HB1.out HFB
            have c2 := h.cell HB2.out HFB
            have c3 := h.cell HB3.out HFB
            have c4 := h.cell HB4.out HFB
            go_wp2_with fail
            refine (two_c h fun F' hF hd => law_start F' c _ _ hd).mono ?_; clear h c0 c1 c2 c3 c4 c5
            rintro e w ⟨rfl, h⟩
            have c0 := h.cell HB0.out HFB
            have c5 := h.cell HB5.out HFB
            have c1 := h.cell HB1.out HFB
            have c2 := h.cell HB2.out HFB
            have c3 := h.cell HB3.out HFB
            have c4 := h.cell HB4.out HFB
            go_wp2_with fail
            refine (at_eq3 (Q := fun w st => Two F b c W1 st _ w) (two_b h fun F' hF hd => law_read F' b _ _ hd _ hg2.out a.f) (v' := .tuple #[.string ByteArray.empty, .int .i64 8]) (by rw [down_read hd2.out]; rfl)).mono ?_; clear h c0 c1 c2 c3 c4 c5
            rintro e w ⟨rfl, h⟩
            have c0 := h.cell HB0.out HFB
            have c5 := h.cell HB5.out HFB
            have c1 := h.cell HB1.out HFB
            have c2 := h.cell HB2.out HFB
            have c3 := h.cell HB3.out HFB
            have c4 := h.cell HB4.out HFB
            go_wp2_with fail
            refine (at_eq4 (two_b h fun F' hF hd => law_crash_lit F' b _ _ hF hd _ hg2.out [1, 1] (by decide)) (down_crash hd2.out _)).mono ?_; clear h c0 c1 c2 c3 c4 c5
            rintro e w ⟨rfl, h⟩
            have c0 := h.cell HB0.out HFB
            have c5 := h.cell HB5.out HFB
            have c1 := h.cell HB1.out HFB
            have c2 := h.cell HB2.out HFB
            have c3 := h.cell HB3.out HFB
            have c4 := h.cell HB4.out HFB
            go_wp2_with fail
            refine (at_eq2 (Q := fun w st => Two F b c W1 st _ w) (two_b h fun F' hF hd => law_write F' b _ _ hF hd _ hg2.out (by omega) a.f a.n a.s HA.out.1.s) (down_write hd2.out _ _ _) (i := 8) rfl).mono ?_; clear h c0 c1 c2 c3 c4 c5
            rintro e w ⟨rfl, h⟩
            have c0 := h.cell HB0.out HFB
            have c5 := h.cell HB5.out HFB
            have c1 := h.cell HB1.out HFB
            have c2 := h.cell HB2.out HFB
            have c3 := h.cell HB3.out HFB
            have c4 := h.cell HB4.out HFB
            go_wp2_with fail
            refine (at_eq2 (Q := fun w st => Two F b c W1 st _ w) (two_b h fun F' hF hd => law_flush F' b _ _ hF hd _ hg2.out a.f) (down_flush hd2.out _) (i := 8) rfl).mono ?_; clear h c0 c1 c2 c3 c4 c5
            rintro e w ⟨rfl, h⟩
            have c0 := h.cell HB0.out HFB
            have c5 := h.cell HB5.out HFB
            have c1 := h.cell HB1.out HFB
            have c2 := h.cell HB2.out HFB
            have c3 := h.cell HB3.out HFB
            have c4 := h.cell HB4.out HFB
            go_wp2_with fail
            refine (at_eq2 (Q := fun w st => Two F b c W1 st _ w) (two_b h fun F' hF hd => law_cut F' b _ _ hF hd _ hg2.out a.f a.n) (down_cut hd2.out _ _) (i := 8) rfl).mono ?_; clear h c0 c1 c2 c3 c4 c5
            rintro e w ⟨rfl, h⟩
            have c0 := h.cell HB0.out HFB
            have c5 := h.cell HB5.out HFB
            have c1 := h.cell HB1.out HFB
            have c2 := h.cell HB2.out HFB
            have c3 := h.cell HB3.out HFB
            have c4 := h.cell HB4.out HFB
            go_wp2_with fail
            refine (at_eq2 (Q := fun w st => Two F b c W1 st _ w) (two_b h fun F' hF hd => law_turn F' b _ _ hF hd _ hg2.out (by omega) a.f a.g) (down_turn hd2.out _ _) (i := 8) rfl).mono ?_; clear h c0 c1 c2 c3 c4 c5
            rintro e w ⟨rfl, h⟩
            have c0 := h.cell HB0.out HFB
            have c5 := h.cell HB5.out HFB
            have c1 := h.cell HB1.out HFB
            have c2 := h.cell HB2.out HFB
            have c3 := h.cell HB3.out HFB
            have c4 := h.cell HB4.out HFB
            go_wp2_with fail
            refine (at_eq3 (Q := fun w st => Two F b c W1 st _ w) (two_b h fun F' hF hd => law_down' F' b _ _ hF hd) (v' := .bool true) (by rw [hd2.out])).mono ?_; clear h c0 c1 c2 c3 c4 c5
            rintro e w ⟨rfl, h⟩
            have c0 := h.cell HB0.out HFB
            have c5 := h.cell HB5.out HFB
            have c1 := h.cell HB1.out HFB
            have c2 := h.cell HB2.out HFB
            have c3 := h.cell HB3.out HFB
            have c4 := h.cell HB4.out HFB
            go_wp2_with fail
            refine (two_b h fun F' hF hd => law_start F' b _ _ hd).mono ?_; clear h c0 c1 c2 c3 c4 c5
            rintro e w ⟨rfl, h⟩
            have c0 := h.cell HB0.out HFB
            have c5 := h.cell HB5.out HFB
            have c1 := h.cell HB1.out HFB
            have c2 := h.cell HB2.out HFB
            have c3 := h.cell HB3.out HFB
            have c4 := h.cell HB4.out HFB
            have hg3 : Hid (Fit s2.start 5000) := hg2.out.start
            have hd3 : Hid (s2.start.down = false) := rfl
            obtain ⟨s3, hs3⟩ : ∃ s3, s3 = s2.start := ⟨_, rfl⟩
            rw [← hs3] at h hg3 hd3
            have hr0 : Hid (DnRel2 F b c W1 s3 (.int .i64 0) w) := ⟨0, rfl, by omega, h⟩
            clear hs3 hg2 hd2 h c0 c1 c2 c3 c4 c5
            go_wp2
            go_loopw [11] (fun i w => DnRel2 F b c W1 s3 i w) (fun i _ => 12 - (intOf i).toNat)
            case atStart => exact hr0.out
            case round =>
              clear hr0
              obtain ⟨j, rfl, hj, h⟩ := hrel
              by_cases hj2 : j < 12
              · have hj3 : (j : Int) < 12 := by omega
                obtain ⟨S, hS⟩ : ∃ S : ByteArray, strV (s3.read (j : Int)).1 = .string S := ⟨_, rfl⟩
                obtain ⟨R, hR⟩ : ∃ R : Int, (((s3.read (j : Int)).2 : Nat) : Int) = R := ⟨_, rfl⟩
                have HS := Lib.hid hS
                have HR := Lib.hid hR
                clear hS hR
                go_wp2_with fail
                refine (at_eq3 (Q := fun w st => Two F b c W1 st _ w) (two_b h fun F' hF hd => law_read F' b _ _ hd _ hg3.out j) (v' := .tuple #[.string S, .int .i64 R]) (by rw [HS.out, HR.out])).mono ?_; clear h
                rintro e w ⟨rfl, h⟩
                go_wp2_with fail
                refine (at_eq3 (Q := fun w st => Two F b c W1 _ st w) (two_c h fun F' hF hd => law_read F' c _ _ hd _ hg3.out j) (v' := .tuple #[.string S, .int .i64 R]) (by rw [HS.out, HR.out])).mono ?_; clear h
                rintro e w ⟨rfl, h⟩
                go_wp2
                go_roundw
                case rel => exact ⟨j + 1, by simp, by omega, h⟩
                case measure => simp [intOf]; omega
              · have hje : j = 12 := by omega
                subst hje
                have h := two_first h
                go_wp2_with fail
                refine (at_eq3 (Q := fun w st => At F b W1 st w) (at_down h) (v' := .bool false) (by rw [hd3.out])).mono ?_; clear h
                rintro e w ⟨rfl, h⟩
                go_wp2
                go_ret
                exact ⟨rfl, h.2.2⟩
          · by_cases hb2 : 11 < a.f
            · have HBAD : Hid (bad a.f) := .inr (by omega)
              go_wp2_with fail
              refine (at_eq2 (Q := fun w st => At F b W1 st w) (at_write h hg1.out (by omega) a.f a.n a.s HA.out.1.s) (bad_write ha1.out hd1.out HBAD.out _ _) (i := 1) rfl).mono ?_; clear h c0 c1 c2 c3 c4 c5
              rintro e w ⟨rfl, h⟩
              have c0 := h.cell HB0.out HFB
              have c5 := h.cell HB5.out HFB
              have c1 := h.cell HB1.out HFB
              have c2 := h.cell HB2.out HFB
              have c3 := h.cell HB3.out HFB
              have c4 := h.cell HB4.out HFB
              go_wp2_with fail
              refine (at_eq2 (Q := fun w st => At F b W1 st w) (at_flush h hg1.out a.f) (bad_flush ha1.out hd1.out HBAD.out) (i := 1) rfl).mono ?_; clear h c0 c1 c2 c3 c4 c5
              rintro e w ⟨rfl, h⟩
              have c0 := h.cell HB0.out HFB
              have c5 := h.cell HB5.out HFB
              have c1 := h.cell HB1.out HFB
              have c2 := h.cell HB2.out HFB
              have c3 := h.cell HB3.out HFB
              have c4 := h.cell HB4.out HFB
              go_wp2_with fail
              refine (at_eq2 (Q := fun w st => At F b W1 st w) (at_cut h hg1.out a.f 0) (bad_cut ha1.out hd1.out HBAD.out _) (i := 1) rfl).mono ?_; clear h c0 c1 c2 c3 c4 c5
              rintro e w ⟨rfl, h⟩
              have c0 := h.cell HB0.out HFB
              have c5 := h.cell HB5.out HFB
              have c1 := h.cell HB1.out HFB
              have c2 := h.cell HB2.out HFB
              have c3 := h.cell HB3.out HFB
              have c4 := h.cell HB4.out HFB
              go_wp2_with fail
              refine (at_eq2 (Q := fun w st => At F b W1 st w) (at_turn h hg1.out (by omega) a.f 1) (bad_turn ha1.out hd1.out (.inl HBAD.out)) (i := 1) rfl).mono ?_; clear h c0 c1 c2 c3 c4 c5
              rintro e w ⟨rfl, h⟩
              have c0 := h.cell HB0.out HFB
              have c5 := h.cell HB5.out HFB
              have c1 := h.cell HB1.out HFB
              have c2 := h.cell HB2.out HFB
              have c3 := h.cell HB3.out HFB
              have c4 := h.cell HB4.out HFB
              go_wp2_with fail
              refine (at_eq2 (Q := fun w st => At F b W1 st w) (at_turn h hg1.out (by omega) 1 a.f) (bad_turn ha1.out hd1.out (.inr HBAD.out)) (i := 1) rfl).mono ?_; clear h c0 c1 c2 c3 c4 c5
              rintro e w ⟨rfl, h⟩
              have c0 := h.cell HB0.out HFB
              have c5 := h.cell HB5.out HFB
              have c1 := h.cell HB1.out HFB
              have c2 := h.cell HB2.out HFB
              have c3 := h.cell HB3.out HFB
              have c4 := h.cell HB4.out HFB
              go_wp2_with fail
              refine (at_eq3 (Q := fun w st => At F b W1 st w) (at_size h a.f) (v' := .int .i64 0) (by unfold DSt.size; rw [if_pos HBAD.out]; rfl)).mono ?_; clear h c0 c1 c2 c3 c4 c5
              rintro e w ⟨rfl, h⟩
              have c0 := h.cell HB0.out HFB
              have c5 := h.cell HB5.out HFB
              have c1 := h.cell HB1.out HFB
              have c2 := h.cell HB2.out HFB
              have c3 := h.cell HB3.out HFB
              have c4 := h.cell HB4.out HFB
              go_wp2_with fail
              refine (at_crash_nil h hg1.out).mono ?_; clear h c0 c1 c2 c3 c4 c5
              rintro e w ⟨rfl, h⟩
              have c0 := h.cell HB0.out HFB
              have c5 := h.cell HB5.out HFB
              have c1 := h.cell HB1.out HFB
              have c2 := h.cell HB2.out HFB
              have c3 := h.cell HB3.out HFB
              have c4 := h.cell HB4.out HFB
              have hg2 : Hid (Fit (s1.doCrash []) 5000) := hg1.out.doCrash []
              have hd2 : Hid ((s1.doCrash []).down = true) := by unfold DSt.doCrash; rw [hd1.out]; rfl
              obtain ⟨s2, hs2⟩ : ∃ s2, s2 = s1.doCrash [] := ⟨_, rfl⟩
              rw [← hs2] at h hg2 hd2
              clear hs2 hg1 hd1 ha1
              go_wp2_with fail
              refine (at_copy h hg2.out (by omega)).mono ?_; clear h c0 c1 c2 c3 c4 c5
              intro e w hc
              obtain ⟨c, rfl, h⟩ := hc
              have c0 := h.cell HB0.out HFB
              have c5 := h.cell HB5.out HFB
              have c1 := h.cell HB1.out HFB
              have c2 := h.cell HB2.out HFB
              have c3 := h.cell HB3.out HFB
              have c4 := h.cell HB4.out HFB
              go_wp2_with fail
              refine (two_c h fun F' hF hd => law_start F' c _ _ hd).mono ?_; clear h c0 c1 c2 c3 c4 c5
              rintro e w ⟨rfl, h⟩
              have c0 := h.cell HB0.out HFB
              have c5 := h.cell HB5.out HFB
              have c1 := h.cell HB1.out HFB
              have c2 := h.cell HB2.out HFB
              have c3 := h.cell HB3.out HFB
              have c4 := h.cell HB4.out HFB
              go_wp2_with fail
              refine (at_eq3 (Q := fun w st => Two F b c W1 st _ w) (two_b h fun F' hF hd => law_read F' b _ _ hd _ hg2.out a.f) (v' := .tuple #[.string ByteArray.empty, .int .i64 8]) (by rw [down_read hd2.out]; rfl)).mono ?_; clear h c0 c1 c2 c3 c4 c5
              rintro e w ⟨rfl, h⟩
              have c0 := h.cell HB0.out HFB
              have c5 := h.cell HB5.out HFB
              have c1 := h.cell HB1.out HFB
              have c2 := h.cell HB2.out HFB
              have c3 := h.cell HB3.out HFB
              have c4 := h.cell HB4.out HFB
              go_wp2_with fail
              refine (at_eq4 (two_b h fun F' hF hd => law_crash_lit F' b _ _ hF hd _ hg2.out [1, 1] (by decide)) (down_crash hd2.out _)).mono ?_; clear h c0 c1 c2 c3 c4 c5
              rintro e w ⟨rfl, h⟩
              have c0 := h.cell HB0.out HFB
              have c5 := h.cell HB5.out HFB
              have c1 := h.cell HB1.out HFB
              have c2 := h.cell HB2.out HFB
              have c3 := h.cell HB3.out HFB
              have c4 := h.cell HB4.out HFB
              go_wp2_with fail
              refine (at_eq2 (Q := fun w st => Two F b c W1 st _ w) (two_b h fun F' hF hd => law_write F' b _ _ hF hd _ hg2.out (by omega) a.f a.n a.s HA.out.1.s) (down_write hd2.out _ _ _) (i := 8) rfl).mono ?_; clear h c0 c1 c2 c3 c4 c5
              rintro e w ⟨rfl, h⟩
              have c0 := h.cell HB0.out HFB
              have c5 := h.cell HB5.out HFB
              have c1 := h.cell HB1.out HFB
              have c2 := h.cell HB2.out HFB
              have c3 := h.cell HB3.out HFB
              have c4 := h.cell HB4.out HFB
              go_wp2_with fail
              refine (at_eq2 (Q := fun w st => Two F b c W1 st _ w) (two_b h fun F' hF hd => law_flush F' b _ _ hF hd _ hg2.out a.f) (down_flush hd2.out _) (i := 8) rfl).mono ?_; clear h c0 c1 c2 c3 c4 c5
              rintro e w ⟨rfl, h⟩
              have c0 := h.cell HB0.out HFB
              have c5 := h.cell HB5.out HFB
              have c1 := h.cell HB1.out HFB
              have c2 := h.cell HB2.out HFB
              have c3 := h.cell HB3.out HFB
              have c4 := h.cell HB4.out HFB
              go_wp2_with fail
              refine (at_eq2 (Q := fun w st => Two F b c W1 st _ w) (two_b h fun F' hF hd => law_cut F' b _ _ hF hd _ hg2.out a.f a.n) (down_cut hd2.out _ _) (i := 8) rfl).mono ?_; clear h c0 c1 c2 c3 c4 c5
              rintro e w ⟨rfl, h⟩
              have c0 := h.cell HB0.out HFB
              have c5 := h.cell HB5.out HFB
              have c1 := h.cell HB1.out HFB
              have c2 := h.cell HB2.out HFB
              have c3 := h.cell HB3.out HFB
              have c4 := h.cell HB4.out HFB
              go_wp2_with fail
              refine (at_eq2 (Q := fun w st => Two F b c W1 st _ w) (two_b h fun F' hF hd => law_turn F' b _ _ hF hd _ hg2.out (by omega) a.f a.g) (down_turn hd2.out _ _) (i := 8) rfl).mono ?_; clear h c0 c1 c2 c3 c4 c5
              rintro e w ⟨rfl, h⟩
              have c0 := h.cell HB0.out HFB
              have c5 := h.cell HB5.out HFB
              have c1 := h.cell HB1.out HFB
              have c2 := h.cell HB2.out HFB
              have c3 := h.cell HB3.out HFB
              have c4 := h.cell HB4.out HFB
              go_wp2_with fail
              refine (at_eq3 (Q := fun w st => Two F b c W1 st _ w) (two_b h fun F' hF hd => law_down' F' b _ _ hF hd) (v' := .bool true) (by rw [hd2.out])).mono ?_; clear h c0 c1 c2 c3 c4 c5
              rintro e w ⟨rfl, h⟩
              have c0 := h.cell HB0.out HFB
              have c5 := h.cell HB5.out HFB
              have c1 := h.cell HB1.out HFB
              have c2 := h.cell HB2.out HFB
              have c3 := h.cell HB3.out HFB
              have c4 := h.cell HB4.out HFB
              go_wp2_with fail
              refine (two_b h fun F' hF hd => law_start F' b _ _ hd).mono ?_; clear h c0 c1 c2 c3 c4 c5
              rintro e w ⟨rfl, h⟩
              have c0 := h.cell HB0.out HFB
              have c5 := h.cell HB5.out HFB
              have c1 := h.cell HB1.out HFB
              have c2 := h.cell HB2.out HFB
              have c3 := h.cell HB3.out HFB
              have c4 := h.cell HB4.out HFB
              have hg3 : Hid (Fit s2.start 5000) := hg2.out.start
              have hd3 : Hid (s2.start.down = false) := rfl
              obtain ⟨s3, hs3⟩ : ∃ s3, s3 = s2.start := ⟨_, rfl⟩
              rw [← hs3] at h hg3 hd3
              have hr0 : Hid (DnRel2 F b c W1 s3 (.int .i64 0) w) := ⟨0, rfl, by omega, h⟩
              clear hs3 hg2 hd2 h c0 c1 c2 c3 c4 c5
              go_wp2
              go_loopw [11] (fun i w => DnRel2 F b c W1 s3 i w) (fun i _ => 12 - (intOf i).toNat)
              case atStart => exact hr0.out
              case round =>
                clear hr0
                obtain ⟨j, rfl, hj, h⟩ := hrel
                by_cases hj2 : j < 12
                · have hj3 : (j : Int) < 12 := by omega
                  obtain ⟨S, hS⟩ : ∃ S : ByteArray, strV (s3.read (j : Int)).1 = .string S := ⟨_, rfl⟩
                  obtain ⟨R, hR⟩ : ∃ R : Int, (((s3.read (j : Int)).2 : Nat) : Int) = R := ⟨_, rfl⟩
                  have HS := Lib.hid hS
                  have HR := Lib.hid hR
                  clear hS hR
                  go_wp2_with fail
                  refine (at_eq3 (Q := fun w st => Two F b c W1 st _ w) (two_b h fun F' hF hd => law_read F' b _ _ hd _ hg3.out j) (v' := .tuple #[.string S, .int .i64 R]) (by rw [HS.out, HR.out])).mono ?_; clear h
                  rintro e w ⟨rfl, h⟩
                  go_wp2_with fail
                  refine (at_eq3 (Q := fun w st => Two F b c W1 _ st w) (two_c h fun F' hF hd => law_read F' c _ _ hd _ hg3.out j) (v' := .tuple #[.string S, .int .i64 R]) (by rw [HS.out, HR.out])).mono ?_; clear h
                  rintro e w ⟨rfl, h⟩
                  go_wp2
                  go_roundw
                  case rel => exact ⟨j + 1, by simp, by omega, h⟩
                  case measure => simp [intOf]; omega
                · have hje : j = 12 := by omega
                  subst hje
                  have h := two_first h
                  go_wp2_with fail
                  refine (at_eq3 (Q := fun w st => At F b W1 st w) (at_down h) (v' := .bool false) (by rw [hd3.out])).mono ?_; clear h
                  rintro e w ⟨rfl, h⟩
                  go_wp2
                  go_ret
                  exact ⟨rfl, h.2.2⟩
            · go_wp2_with fail
              refine (at_crash_nil h hg1.out).mono ?_; clear h c0 c1 c2 c3 c4 c5
              rintro e w ⟨rfl, h⟩
              have c0 := h.cell HB0.out HFB
              have c5 := h.cell HB5.out HFB
              have c1 := h.cell HB1.out HFB
              have c2 := h.cell HB2.out HFB
              have c3 := h.cell HB3.out HFB
              have c4 := h.cell HB4.out HFB
              have hg2 : Hid (Fit (s1.doCrash []) 5000) := hg1.out.doCrash []
              have hd2 : Hid ((s1.doCrash []).down = true) := by unfold DSt.doCrash; rw [hd1.out]; rfl
              obtain ⟨s2, hs2⟩ : ∃ s2, s2 = s1.doCrash [] := ⟨_, rfl⟩
              rw [← hs2] at h hg2 hd2
              clear hs2 hg1 hd1 ha1
              go_wp2_with fail
              refine (at_copy h hg2.out (by omega)).mono ?_; clear h c0 c1 c2 c3 c4 c5
              intro e w hc
              obtain ⟨c, rfl, h⟩ := hc
              have c0 := h.cell HB0.out HFB
              have c5 := h.cell HB5.out HFB
              have c1 := h.cell HB1.out HFB
              have c2 := h.cell HB2.out HFB
              have c3 := h.cell HB3.out HFB
              have c4 := h.cell HB4.out HFB
              go_wp2_with fail
              refine (two_c h fun F' hF hd => law_start F' c _ _ hd).mono ?_; clear h c0 c1 c2 c3 c4 c5
              rintro e w ⟨rfl, h⟩
              have c0 := h.cell HB0.out HFB
              have c5 := h.cell HB5.out HFB
              have c1 := h.cell HB1.out HFB
              have c2 := h.cell HB2.out HFB
              have c3 := h.cell HB3.out HFB
              have c4 := h.cell HB4.out HFB
              go_wp2_with fail
              refine (at_eq3 (Q := fun w st => Two F b c W1 st _ w) (two_b h fun F' hF hd => law_read F' b _ _ hd _ hg2.out a.f) (v' := .tuple #[.string ByteArray.empty, .int .i64 8]) (by rw [down_read hd2.out]; rfl)).mono ?_; clear h c0 c1 c2 c3 c4 c5
              rintro e w ⟨rfl, h⟩
              have c0 := h.cell HB0.out HFB
              have c5 := h.cell HB5.out HFB
              have c1 := h.cell HB1.out HFB
              have c2 := h.cell HB2.out HFB
              have c3 := h.cell HB3.out HFB
              have c4 := h.cell HB4.out HFB
              go_wp2_with fail
              refine (at_eq4 (two_b h fun F' hF hd => law_crash_lit F' b _ _ hF hd _ hg2.out [1, 1] (by decide)) (down_crash hd2.out _)).mono ?_; clear h c0 c1 c2 c3 c4 c5
              rintro e w ⟨rfl, h⟩
              have c0 := h.cell HB0.out HFB
              have c5 := h.cell HB5.out HFB
              have c1 := h.cell HB1.out HFB
              have c2 := h.cell HB2.out HFB
              have c3 := h.cell HB3.out HFB
              have c4 := h.cell HB4.out HFB
              go_wp2_with fail
              refine (at_eq2 (Q := fun w st => Two F b c W1 st _ w) (two_b h fun F' hF hd => law_write F' b _ _ hF hd _ hg2.out (by omega) a.f a.n a.s HA.out.1.s) (down_write hd2.out _ _ _) (i := 8) rfl).mono ?_; clear h c0 c1 c2 c3 c4 c5
              rintro e w ⟨rfl, h⟩
              have c0 := h.cell HB0.out HFB
              have c5 := h.cell HB5.out HFB
              have c1 := h.cell HB1.out HFB
              have c2 := h.cell HB2.out HFB
              have c3 := h.cell HB3.out HFB
              have c4 := h.cell HB4.out HFB
              go_wp2_with fail
              refine (at_eq2 (Q := fun w st => Two F b c W1 st _ w) (two_b h fun F' hF hd => law_flush F' b _ _ hF hd _ hg2.out a.f) (down_flush hd2.out _) (i := 8) rfl).mono ?_; clear h c0 c1 c2 c3 c4 c5
              rintro e w ⟨rfl, h⟩
              have c0 := h.cell HB0.out HFB
              have c5 := h.cell HB5.out HFB
              have c1 := h.cell HB1.out HFB
              have c2 := h.cell HB2.out HFB
              have c3 := h.cell HB3.out HFB
              have c4 := h.cell HB4.out HFB
              go_wp2_with fail
              refine (at_eq2 (Q := fun w st => Two F b c W1 st _ w) (two_b h fun F' hF hd => law_cut F' b _ _ hF hd _ hg2.out a.f a.n) (down_cut hd2.out _ _) (i := 8) rfl).mono ?_; clear h c0 c1 c2 c3 c4 c5
              rintro e w ⟨rfl, h⟩
              have c0 := h.cell HB0.out HFB
              have c5 := h.cell HB5.out HFB
              have c1 := h.cell HB1.out HFB
              have c2 := h.cell HB2.out HFB
              have c3 := h.cell HB3.out HFB
              have c4 := h.cell HB4.out HFB
              go_wp2_with fail
              refine (at_eq2 (Q := fun w st => Two F b c W1 st _ w) (two_b h fun F' hF hd => law_turn F' b _ _ hF hd _ hg2.out (by omega) a.f a.g) (down_turn hd2.out _ _) (i := 8) rfl).mono ?_; clear h c0 c1 c2 c3 c4 c5
              rintro e w ⟨rfl, h⟩
              have c0 := h.cell HB0.out HFB
              have c5 := h.cell HB5.out HFB
              have c1 := h.cell HB1.out HFB
              have c2 := h.cell HB2.out HFB
              have c3 := h.cell HB3.out HFB
              have c4 := h.cell HB4.out HFB
              go_wp2_with fail
              refine (at_eq3 (Q := fun w st => Two F b c W1 st _ w) (two_b h fun F' hF hd => law_down' F' b _ _ hF hd) (v' := .bool true) (by rw [hd2.out])).mono ?_; clear h c0 c1 c2 c3 c4 c5
              rintro e w ⟨rfl, h⟩
              have c0 := h.cell HB0.out HFB
              have c5 := h.cell HB5.out HFB
              have c1 := h.cell HB1.out HFB
              have c2 := h.cell HB2.out HFB
              have c3 := h.cell HB3.out HFB
              have c4 := h.cell HB4.out HFB
              go_wp2_with fail
              refine (two_b h fun F' hF hd => law_start F' b _ _ hd).mono ?_; clear h c0 c1 c2 c3 c4 c5
              rintro e w ⟨rfl, h⟩
              have c0 := h.cell HB0.out HFB
              have c5 := h.cell HB5.out HFB
              have c1 := h.cell HB1.out HFB
              have c2 := h.cell HB2.out HFB
              have c3 := h.cell HB3.out HFB
              have c4 := h.cell HB4.out HFB
              have hg3 : Hid (Fit s2.start 5000) := hg2.out.start
              have hd3 : Hid (s2.start.down = false) := rfl
              obtain ⟨s3, hs3⟩ : ∃ s3, s3 = s2.start := ⟨_, rfl⟩
              rw [← hs3] at h hg3 hd3
              have hr0 : Hid (DnRel2 F b c W1 s3 (.int .i64 0) w) := ⟨0, rfl, by omega, h⟩
              clear hs3 hg2 hd2 h c0 c1 c2 c3 c4 c5
              go_wp2
              go_loopw [11] (fun i w => DnRel2 F b c W1 s3 i w) (fun i _ => 12 - (intOf i).toNat)
              case atStart => exact hr0.out
              case round =>
                clear hr0
                obtain ⟨j, rfl, hj, h⟩ := hrel
                by_cases hj2 : j < 12
                · have hj3 : (j : Int) < 12 := by omega
                  obtain ⟨S, hS⟩ : ∃ S : ByteArray, strV (s3.read (j : Int)).1 = .string S := ⟨_, rfl⟩
                  obtain ⟨R, hR⟩ : ∃ R : Int, (((s3.read (j : Int)).2 : Nat) : Int) = R := ⟨_, rfl⟩
                  have HS := Lib.hid hS
                  have HR := Lib.hid hR
                  clear hS hR
                  go_wp2_with fail
                  refine (at_eq3 (Q := fun w st => Two F b c W1 st _ w) (two_b h fun F' hF hd => law_read F' b _ _ hd _ hg3.out j) (v' := .tuple #[.string S, .int .i64 R]) (by rw [HS.out, HR.out])).mono ?_; clear h
                  rintro e w ⟨rfl, h⟩
                  go_wp2_with fail
                  refine (at_eq3 (Q := fun w st => Two F b c W1 _ st w) (two_c h fun F' hF hd => law_read F' c _ _ hd _ hg3.out j) (v' := .tuple #[.string S, .int .i64 R]) (by rw [HS.out, HR.out])).mono ?_; clear h
                  rintro e w ⟨rfl, h⟩
                  go_wp2
                  go_roundw
                  case rel => exact ⟨j + 1, by simp, by omega, h⟩
                  case measure => simp [intOf]; omega
                · have hje : j = 12 := by omega
                  subst hje
                  have h := two_first h
                  go_wp2_with fail
                  refine (at_eq3 (Q := fun w st => At F b W1 st w) (at_down h) (v' := .bool false) (by rw [hd3.out])).mono ?_; clear h
                  rintro e w ⟨rfl, h⟩
                  go_wp2
                  go_ret
                  exact ⟨rfl, h.2.2⟩
end Go.Proofs.Ythfnnkfdpnkodaa
