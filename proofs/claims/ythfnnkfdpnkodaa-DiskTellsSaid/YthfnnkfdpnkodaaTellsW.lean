/- DiskTells walked: the law. -/
import Derived.Test.YthfnnkfdpnkodaaTells
import Derived.Deep.DeepCutAuto
namespace Go.Proofs.Ythfnnkfdpnkodaa
open Go.RowKit

theorem ActOk.mono2 {F F' : Nat → Prop} {w : World} {a : ActV} (h : ActOk F w a) (hF : ∀ k, F k → F' k) : ActOk F' w a := by
  obtain ⟨kb, h1, h2⟩ := h.keep
  exact ⟨h.n, h.s, h.k, ⟨kb, h1, h2.imp (hF kb) id⟩, h.nil⟩

theorem Tl.act {b x : Nat} {W w : World} {st sx : DSt} {rk : List Int} (h : Tl W.heap.size b x W w st sx rk) {a : ActV} (ha : ActIn W a) {F : Nat → Prop} (hF : ∀ k, k < W.heap.size → F k) : ActOk F w a :=
  ((ha.ok (F := fun k => k < W.heap.size) fun _ h => h).upd (fun _ h => h) (h.2.1.mono fun k _ h => Nat.not_lt_of_le h)).mono2 hF

theorem Tl.acts {b x : Nat} {W w : World} {st sx : DSt} {rk : List Int} (h : Tl W.heap.size b x W w st sx rk) {v : Value} {l : List ActV} (ha : ActsIn W v l) : ActsAt w v l :=
  ha.1.upd h.2.1 fun k hk hn => by omega

theorem tl_do {b x : Nat} {W w : World} {st sx : DSt} {rk : List Int} (h : Tl W.heap.size b x W w st sx rk) {n : Nat} (hg : Fit st n) (hn : n ≤ 1000000000000) {a : ActV} (ha : ActIn W a) :
    Calls Try.prog 13 #[dptr b, .agg a.cells] w (fun e w' => e = .returned (.tuple #[strV (st.act a).1.1, .int .i64 ((st.act a).1.2 : Nat)]) ∧ Tl W.heap.size b x W w' (st.act a).2 sx rk) := by
  obtain ⟨F, hF, hFB, hd, hback⟩ := h.d
  refine (do_at (F := F) (w0 := w) ⟨hF, hd, Upd.refl _ _⟩ hg (by omega) a (h.act ha hFB)).mono ?_
  rintro e w' ⟨rfl, h1, h2, h3⟩
  exact ⟨rfl, hback w' _ h2 h3⟩

theorem tl_tw {b x : Nat} {W w : World} {st sx : DSt} {rk : List Int} (h : Tl W.heap.size b x W w st sx rk) {n : Nat} (hg : Fit sx n) (hn : n ≤ 1000000000000) (hr : RInv sx rk) (hkr : rk.length ≤ 17592186044416) {a : ActV} (ha : ActIn W a) :
    Calls Try.prog 27 #[dptr x, .agg a.cells] w (fun e w' => e = .returned (.tuple #[strV (sx.act a).1.1, .int .i64 ((sx.act a).1.2 : Nat)]) ∧ ∃ rk', Tl W.heap.size b x W w' st (sx.act a).2 rk' ∧ RInv (sx.act a).2 rk' ∧ rk'.length ≤ 17592186044416) := by
  obtain ⟨F, hF, hFB, hx, hback⟩ := h.x
  refine (tw_any F x sx rk w hF hx n hg hn hr hkr a (h.act ha hFB)).mono ?_
  rintro e w' ⟨rfl, rk', h1, h2, h3, h4⟩
  exact ⟨rfl, rk', hback w' _ _ h1 h2, h3, h4⟩

section
variable {B b x : Nat} {W w : World} {st sx : DSt} {rk : List Int} (h : Tl B b x W w st sx rk)
include h

theorem tl_down : Calls Try.prog 11 #[dptr b] w (fun e w' => e = .returned (.bool st.down) ∧ w = w') := by
  obtain ⟨F, hF, _, hd, _⟩ := h.d
  exact law_down F b st w hd
theorem tl_rdown : Calls Try.prog 28 #[dptr x] w (fun e w' => e = .returned (.bool sx.down) ∧ w = w') := by
  obtain ⟨_, _, D, _, hx⟩ := h
  exact rd_down hx
theorem tl_size (f : Int) : Calls Try.prog 20 #[dptr b, .int .i64 f] w (fun e w' => e = .returned (.int .i64 (st.size f : Nat)) ∧ w = w') := by
  obtain ⟨F, hF, _, hd, _⟩ := h.d
  exact law_size F b st w hd f
theorem tl_rsize {n : Nat} (hg : Fit sx n) (hn : n ≤ 1000000000000) (f : Int) : Calls Try.prog 29 #[dptr x, .int .i64 f] w (fun e w' => e = .returned (.int .i64 (sx.size f : Nat)) ∧ Upd (fun _ => False) w w') := by
  obtain ⟨_, _, D, _, hx⟩ := h
  exact rsize_any x sx rk w _ hx n hg hn f
theorem tl_start : Calls Try.prog 16 #[dptr b] w (fun e w' => e = .returned (.tuple #[]) ∧ Tl B b x W w' st.start sx rk) := by
  obtain ⟨F, hF, _, hd, hback⟩ := h.d
  exact (law_start F b st w hd).mono fun _ w' ⟨h1, h2, h3⟩ => ⟨h1, hback w' _ h2 h3⟩
theorem tl_rstart : Calls Try.prog 30 #[dptr x] w (fun e w' => e = .returned (.tuple #[]) ∧ Tl B b x W w' st sx.start rk) := by
  obtain ⟨F, hF, _, hx, hback⟩ := h.x
  exact (rd_start hx).mono fun _ w' ⟨h1, h2, h3⟩ => ⟨h1, hback w' _ _ h2 h3⟩
theorem tl_read {n : Nat} (hg : Fit st n) (f : Int) : Calls Try.prog 14 #[dptr b, .int .i64 f] w (fun e w' => e = .returned (.tuple #[strV (st.read f).1, .int .i64 ((st.read f).2 : Nat)]) ∧ Tl B b x W w' st sx rk) := by
  obtain ⟨F, hF, _, hd, hback⟩ := h.d
  exact (law_read F b st w hd n hg f).mono fun _ w' ⟨h1, h2, h3⟩ => ⟨h1, hback w' _ h2 h3⟩
theorem tl_rread {n : Nat} (hg : Fit sx n) (hn : n ≤ 1000000000000) (f : Int) : Calls Try.prog 31 #[dptr x, .int .i64 f] w (fun e w' => e = .returned (.tuple #[strV (sx.read f).1, .int .i64 ((sx.read f).2 : Nat)]) ∧ Tl B b x W w' st sx rk) := by
  obtain ⟨F, hF, _, hx, hback⟩ := h.x
  exact (rRead_any F x sx rk w hx n hg hn f).mono fun _ w' ⟨h1, h2, h3⟩ => ⟨h1, hback w' _ _ h2 h3⟩
end

theorem tl3_gone {B b c x : Nat} {W w : World} {st sc sx : DSt} {rk : List Int} (h : Tl3 B b c x W w st sc sx rk) {n : Nat} (hg : Fit st n) (hn : n ≤ 1000000000000) (s : ByteArray) (hs : s.size ≤ 1000) :
    Calls Try.prog 21 #[dptr b, .int .i64 0, .int .i64 0, .string s] w (fun e w' => (∃ r : Int, e = .returned (.int .i64 r)) ∧ ∃ st', Fit st' (n + 1000) ∧ Tl3 B b c x W w' st' sc sx rk) := by
  obtain ⟨F, hF, hd, hback⟩ := h.b
  refine (law_write F b st w hF hd n hg (by omega) 0 0 s (by omega)).mono ?_
  rintro e w' ⟨rfl, h2, h3⟩
  exact ⟨⟨_, rfl⟩, _, (hg.doWrite 0 0 s.data.toList).mono (by have := data_len s; omega), hback w' _ h2 h3⟩

theorem tl3_crash {B b c x : Nat} {W w : World} {st sc sx : DSt} {rk : List Int} (h : Tl3 B b c x W w st sc sx rk) {n : Nat} (hg : Fit st n) :
    Calls Try.prog 18 #[dptr b, .slice none 0 0] w (fun e w' => e = .returned (.tuple #[]) ∧ Tl B c x W w' sc sx rk) := by
  obtain ⟨F, hF, hd, hback⟩ := h.b
  exact (law_crash_nil F b st w hF hd n hg).mono fun _ w' ⟨h1, h2, h3⟩ => ⟨h1, (hback w' _ h2 h3).drop⟩

theorem tl_new {W w w1 : World} {b : Nat} {st : DSt} (h : At (fun k => k < W.heap.size) b W st w) {y : Nat} (hy : NewR y w st0 [] w1) (hst : st = st0) : Tl W.heap.size b y W w1 st0 st0 [] := by
  subst hst
  obtain ⟨h1, h2, h3⟩ := h
  obtain ⟨g1, g2⟩ := hy
  have hs := h3.size
  have hs2 := g2.size
  refine ⟨by omega, (h3.mono fun k _ h => Nat.le_of_not_lt h).trans g2 fun _ _ h => h.elim, fun k => w.heap.size ≤ k, ?_, Owned.mono g1 fun k _ hk => ⟨by omega, hk⟩⟩
  exact ((h2.mono (D' := fun k => ¬ k < W.heap.size ∧ k < w.heap.size) fun k hk h => ⟨h, hk⟩).still g2).mono fun k _ hk => ⟨by have := hk.1; omega, by have := hk.2; omega⟩


set_option maxRecDepth 100000 in
set_option maxHeartbeats 3200000 in
theorem tells_walk (W : World) (v : Value) (acts : List ActV) (hl : ActsIn W v acts) :
    Calls Try.prog 6 #[v] W fun e w' => e = .returned (.bool true) ∧ Upd (fun k => W.heap.size ≤ k) W w' := by
  obtain ⟨lq, lc, rfl, hll⟩ := hl.1.form
  have HL := Lib.hid hl
  clear hl
  go_enter Try.func6, Try.ntmps6
  go_wp2_with fail
  refine (small_at (fun k => k < W.heap.size) W (fun _ h => h)).mono ?_
  rintro e w ⟨rfl, hu⟩
  go_wp2_with fail
  refine (at_new (fun k => k < W.heap.size) w (fun k hk => Nat.lt_of_lt_of_le hk hu.size)).mono ?_
  rintro e w1 ⟨rfl, h⟩
  have h : At (fun k => k < W.heap.size) w.heap.size W st0 w1 := ⟨h.1, h.2.1, hu.trans h.2.2 fun _ _ h => h⟩
  obtain ⟨b, hb⟩ : ∃ b, b = w.heap.size := ⟨_, rfl⟩
  rw [← hb] at h ⊢
  clear hb hu
  go_wp2_with fail
  refine (few_at h HL.out (fun _ h => h)).mono ?_; clear h
  rintro e w2 ⟨⟨r, rfl, hr⟩, h⟩
  cases r with
  | false =>
    go_wp2
    go_ret
    exact ⟨rfl, h.2.2.mono fun _ _ h => Nat.le_of_not_lt h⟩
  | true =>
    have hfew := Lib.hid (hr rfl)
    have HA := Lib.hid h
    clear hr h
    go_wp2_with fail
    refine (rnew_any w2).mono ?_
    rintro e w3 ⟨y, rfl, hy⟩
    have h0 : Hid (TlRel W.heap.size W acts (dptr b) (dptr y) (.int .i64 0) w3) := Lib.hid ⟨0, b, y, st0, [], rfl, rfl, rfl, Nat.zero_le _, tl_new HA.out hy rfl, fit0, fun h => absurd rfl h, Nat.zero_le _⟩
    clear hy HA
    go_wp2_with fail
    go_loopg [4, 5, 6] acts.length (fun g d x i w' => TlRel W.heap.size W acts d x i w' ∧ (intOf i).toNat + g = acts.length)
    case atStart => exact ⟨h0.out, by simp [intOf]⟩
    case round =>
      clear h0
      obtain ⟨⟨k, b, y, st, rk, rfl, rfl, rfl, hk, h, hg, hri, hkr⟩, hgk⟩ := hrel
      have HRI := Lib.hid hri
      have HKR := Lib.hid hkr
      have HGK := Lib.hid hgk
      clear hri hkr hgk
      by_cases hlt : k < acts.length
      · obtain ⟨kb2, o, rfl, hcs⟩ := (h.acts HL.out).cells lq lc rfl k hlt
        have hcs0 := HL.out.1.cells _ lc rfl k hlt
        have hin := HL.out.2 _ (List.getElem_mem hlt)
        have hfit := Lib.hid (Fit.acts hg hlt (h.act hin (F := fun k => k < W.heap.size) fun _ h => h).n (h.act hin (F := fun k => k < W.heap.size) fun _ h => h).k)
        obtain ⟨A, hA⟩ : ∃ A, A = acts[k] := ⟨_, rfl⟩
        rw [← hA] at hcs hcs0 hfit hin
        have HIN := Lib.hid hin
        obtain ⟨qa, qc, hq⟩ := hin.2
        have HQ := Lib.hid hq
        obtain ⟨kb3, o3, hkb3, hcs0⟩ := hcs0
        cases hkb3
        have hcell : Hid (∀ w', Tl W.heap.size b y W w' st st rk → True) := Lib.hid fun _ _ => trivial
        have HCS := Lib.hid hcs0
        have hn : actSum (acts.take k) ≤ 1000000000000 := by have := actSum_take acts k; have := hfew.out.sum; omega
        have a0 : wr.cell? ⟨kb2, o + k * 6, none⟩ = some (.int .i64 A.op) := hcs 0 (by omega)
        have HG := Lib.hid hg
        have HN := Lib.hid hn
        have H := Lib.hid h
        clear hcs hcs0 hin hA hq hg hn h hcell
        go_upto_if 44 with (go_at_call 12; refine (pick_any _ _).mono ?_; rintro e w6 ⟨rfl, rfl⟩)
        go_cut [4, 5] (fun d x wx => TlMid W.heap.size W st rk d x wx)
        case first =>
          clear a0
          by_cases hp : pickN A.op = 9
          · have hp9 : (pickN A.op == 9) = true := by simp [hp]
            clear hp
            go_wp2_with fail
            refine (tl_copy H.out HG.out HN.out).mono ?_
            rintro e w7 ⟨c, rfl, h7⟩
            go_wp2_with fail
            refine (tl3_gone h7 HG.out HN.out _ (by simp [ByteArray.size])).mono ?_
            rintro e w8 ⟨⟨r8, rfl⟩, st8, hg8, h8⟩
            have HG8 := Lib.hid hg8
            clear hg8 h7
            go_wp2_with fail
            refine (tl3_crash h8 HG8.out).mono ?_
            rintro e w9 ⟨rfl, h9⟩
            clear h8
            go_wp2_with fail
            refine (tl_rcopy h9 HG.out HN.out HKR.out).mono ?_
            rintro e w10 ⟨c2, rfl, h10⟩
            have H10 := Lib.hid h10
            clear h9 h10
            go_wp2_with fail
            go_meet
            exact ⟨c, c2, rfl, rfl, H10.out⟩
          · have hp9 : (pickN A.op == 9) = false := beq_eq_false_iff_ne.2 hp
            go_wp2_with fail
            go_meet
            exact ⟨b, y, rfl, rfl, H.out⟩
        case rest =>
          obtain ⟨b2, y2, rfl, rfl, h⟩ := hcut
          clear a0 H
          have hcc : ∀ i (hi : i < 6), wc.cell? ⟨kb2, o + k * 6 + i, none⟩ = some (A.cells[i]'hi) := fun i hi => (World.cell?_of_block (w := W) (h.2.1.block kb2 (World.block_lt_of_cell? W _ (HCS.out i hi)) (fun hn => by have := World.block_lt_of_cell? W _ (HCS.out i hi); simp at this; omega))).trans (HCS.out i hi)
          have b0 : wc.cell? ⟨kb2, o + k * 6, none⟩ = some (.int .i64 A.op) := hcc 0 (by omega)
          have b1 : wc.cell? ⟨kb2, o + k * 6 + 1, none⟩ = some (.int .i64 A.f) := hcc 1 (by omega)
          have b2' : wc.cell? ⟨kb2, o + k * 6 + 2, none⟩ = some (.int .i64 A.g) := hcc 2 (by omega)
          have b3 : wc.cell? ⟨kb2, o + k * 6 + 3, none⟩ = some (.int .i64 A.n) := hcc 3 (by omega)
          have b4 : wc.cell? ⟨kb2, o + k * 6 + 4, none⟩ = some (.string A.s) := hcc 4 (by omega)
          have b5 : wc.cell? ⟨kb2, o + k * 6 + 5, none⟩ = some (.slice qa A.ks.length qc) := by rw [← HQ.out]; exact hcc 5 (by omega)
          clear hcc
          have hdo := tl_do h HG.out HN.out HIN.out
          unfold ActV.cells at hdo
          rw [HQ.out] at hdo
          have HDO := Lib.hid hdo
          clear hdo h
          go_wp2_with fail
          refine HDO.out.mono ?_
          rintro e w7 ⟨rfl, h7⟩
          clear HDO b0 b1 b2' b3 b4 b5
          obtain ⟨S, hS, _, _⟩ := exStr (st.act A).1.1
          obtain ⟨E, hE⟩ : ∃ E : Nat, E = (st.act A).1.2 := ⟨_, rfl⟩
          obtain ⟨st1, hst1⟩ : ∃ st1, st1 = (st.act A).2 := ⟨_, rfl⟩
          have htw := tl_tw h7 HG.out HN.out HRI.out HKR.out HIN.out
          rw [hS, ← hE, ← hst1] at htw
          rw [← hst1] at h7
          rw [hS, ← hE]
          have hf1 := hfit.out
          rw [← hst1] at hf1
          have HF1 := Lib.hid hf1
          clear hS hE hst1 hf1
          have hcc : ∀ i (hi : i < 6), w7.cell? ⟨kb2, o + k * 6 + i, none⟩ = some (A.cells[i]'hi) := fun i hi => (World.cell?_of_block (w := W) (h7.2.1.block kb2 (World.block_lt_of_cell? W _ (HCS.out i hi)) (fun hn => by have := World.block_lt_of_cell? W _ (HCS.out i hi); simp at this; omega))).trans (HCS.out i hi)
          have b0 : w7.cell? ⟨kb2, o + k * 6, none⟩ = some (.int .i64 A.op) := hcc 0 (by omega)
          have b1 : w7.cell? ⟨kb2, o + k * 6 + 1, none⟩ = some (.int .i64 A.f) := hcc 1 (by omega)
          have b2' : w7.cell? ⟨kb2, o + k * 6 + 2, none⟩ = some (.int .i64 A.g) := hcc 2 (by omega)
          have b3 : w7.cell? ⟨kb2, o + k * 6 + 3, none⟩ = some (.int .i64 A.n) := hcc 3 (by omega)
          have b4 : w7.cell? ⟨kb2, o + k * 6 + 4, none⟩ = some (.string A.s) := hcc 4 (by omega)
          have b5 : w7.cell? ⟨kb2, o + k * 6 + 5, none⟩ = some (.slice qa A.ks.length qc) := by rw [← HQ.out]; exact hcc 5 (by omega)
          clear hcc
          unfold ActV.cells at htw
          rw [HQ.out] at htw
          have HTW := Lib.hid htw
          clear htw h7
          go_wp2_with fail
          refine HTW.out.mono ?_
          rintro e w8 ⟨rfl, rk', h8, hri', hkr'⟩
          clear HTW b0 b1 b2' b3 b4 b5
          have HRI' := Lib.hid hri'
          have HKR' := Lib.hid hkr'
          have hn1 : Hid (actSum (acts.take (k + 1)) ≤ 1000000000000) := Lib.hid (by have := actSum_take acts (k + 1); have := hfew.out.sum; omega)
          clear hri' hkr'
          have hcc : ∀ i (hi : i < 6), w8.cell? ⟨kb2, o + k * 6 + i, none⟩ = some (A.cells[i]'hi) := fun i hi => (World.cell?_of_block (w := W) (h8.2.1.block kb2 (World.block_lt_of_cell? W _ (HCS.out i hi)) (fun hn => by have := World.block_lt_of_cell? W _ (HCS.out i hi); simp at this; omega))).trans (HCS.out i hi)
          have b0 : w8.cell? ⟨kb2, o + k * 6, none⟩ = some (.int .i64 A.op) := hcc 0 (by omega)
          have b1 : w8.cell? ⟨kb2, o + k * 6 + 1, none⟩ = some (.int .i64 A.f) := hcc 1 (by omega)
          have b2' : w8.cell? ⟨kb2, o + k * 6 + 2, none⟩ = some (.int .i64 A.g) := hcc 2 (by omega)
          have b3 : w8.cell? ⟨kb2, o + k * 6 + 3, none⟩ = some (.int .i64 A.n) := hcc 3 (by omega)
          have b4 : w8.cell? ⟨kb2, o + k * 6 + 4, none⟩ = some (.string A.s) := hcc 4 (by omega)
          have b5 : w8.cell? ⟨kb2, o + k * 6 + 5, none⟩ = some (.slice qa A.ks.length qc) := by rw [← HQ.out]; exact hcc 5 (by omega)
          clear hcc
          clear b0 b2' b3 b4 b5
          have H8 := Lib.hid h8
          clear h8
          go_upto_region 19 with fail
          refine PLM.wp_region_plm (fun w9 => w9.cell? ⟨kb2, o + k * 6 + 1, none⟩ = some (.int .i64 A.f)) [(21, 4), (28, 4)] (by kernel_rfl) (by kernel_rfl) b1 ?_
          repeat (first | (refine PLM.step0 rfl (fun K hK => ?_); go_simp; refine hK _ ?_; clear hK K) | (refine PLM.step1 rfl rfl (fun K hK => ?_); go_simp; refine hK _ ?_; clear hK K))
          refine PLM.step2 rfl rfl (fun K hK => ?_)
          go_simp
          refine (tl_down (H8.out.still (Upd.refl _ _).drew)).mono ?_
          rintro e w9 ⟨rfl, rfl⟩
          go_simp
          refine hK _ _ b1 ?_; clear hK K
          repeat (first | (refine PLM.step0 rfl (fun K hK => ?_); go_simp; refine hK _ ?_; clear hK K) | (refine PLM.step1 rfl rfl (fun K hK => ?_); go_simp; refine hK _ ?_; clear hK K))
          refine PLM.step2 rfl rfl (fun K hK => ?_)
          go_simp
          refine (tl_rdown (H8.out.still (Upd.refl _ _).drew)).mono ?_
          rintro e w9 ⟨rfl, rfl⟩
          go_simp
          refine hK _ _ b1 ?_; clear hK K
          repeat (first | (refine PLM.step0 rfl (fun K hK => ?_); go_simp; refine hK _ ?_; clear hK K) | (refine PLM.step1 rfl rfl (fun K hK => ?_); go_simp; refine hK _ ?_; clear hK K))
          (refine PLM.step4 rfl (fun w1 hS => by go_simp) (fun K hK => ?_); go_simp; refine hK _ ?_; clear hK K)
          repeat (first | (refine PLM.step0 rfl (fun K hK => ?_); go_simp; refine hK _ ?_; clear hK K) | (refine PLM.step1 rfl rfl (fun K hK => ?_); go_simp; refine hK _ ?_; clear hK K))
          refine PLM.step2 rfl rfl (fun K hK => ?_)
          go_simp
          refine (tl_size (H8.out.still (Upd.refl _ _).drew) A.f).mono ?_
          rintro e w9 ⟨rfl, rfl⟩
          go_simp
          refine hK _ _ b1 ?_; clear hK K
          repeat (first | (refine PLM.step0 rfl (fun K hK => ?_); go_simp; refine hK _ ?_; clear hK K) | (refine PLM.step1 rfl rfl (fun K hK => ?_); go_simp; refine hK _ ?_; clear hK K))
          (refine PLM.step4 rfl (fun w1 hS => by go_simp) (fun K hK => ?_); go_simp; refine hK _ ?_; clear hK K)
          repeat (first | (refine PLM.step0 rfl (fun K hK => ?_); go_simp; refine hK _ ?_; clear hK K) | (refine PLM.step1 rfl rfl (fun K hK => ?_); go_simp; refine hK _ ?_; clear hK K))
          refine PLM.step2 rfl rfl (fun K hK => ?_)
          go_simp
          refine (tl_rsize (H8.out.still (Upd.refl _ _).drew) HF1.out hn1.out A.f).mono ?_
          rintro e w9 ⟨rfl, hu9⟩
          have b1' := hu9.cell (show w8.drew.cell? ⟨kb2, o + k * 6 + 1, none⟩ = some (.int .i64 A.f) from b1)
          have H9 := Lib.hid ((H8.out.still (Upd.refl _ _).drew).still hu9)
          clear b1 hu9
          go_simp
          refine hK _ _ b1' ?_; clear hK K
          repeat (first | (refine PLM.step0 rfl (fun K hK => ?_); go_simp; refine hK _ ?_; clear hK K) | (refine PLM.step1 rfl rfl (fun K hK => ?_); go_simp; refine hK _ ?_; clear hK K))
          refine PLM.stepNil ?_
          go_wp2_with fail
          go_roundg (acts.length - (k + 1))
          case rel => exact ⟨⟨k + 1, b2, y2, st1, rk', rfl, rfl, by simp, hlt, H9.out, HF1.out, HRI'.out, HKR'.out⟩, by simp [intOf]; omega⟩
          case measure => have := HGK.out; simp [intOf] at this; omega
      · have hke : k = acts.length := by omega
        subst hke
        rw [List.take_length] at hg
        have hg' : Fit st 5000 := hg.mono hfew.out.sum
        have HG := Lib.hid hg'
        clear hg hg' hlt
        go_wp2_with fail
        refine (tl_start h).mono ?_
        rintro e w4 ⟨rfl, h4⟩
        go_wp2_with fail
        refine (tl_rstart h4).mono ?_
        rintro e w5 ⟨rfl, h5⟩
        have HG2 := Lib.hid (HG.out.start)
        have HDN : Hid (st.start.down = false) := Lib.hid rfl
        have h0 : Hid (TlFin W.heap.size b y W st.start rk (.int .i64 0) w5) := Lib.hid ⟨0, rfl, by omega, h5⟩
        clear h h4 h5
        go_wp2_with fail
        go_loopg [12] 12 (fun g j w' => TlFin W.heap.size b y W st.start rk j w' ∧ (intOf j).toNat + g = 12)
        case atStart => exact ⟨h0.out, by simp [intOf]⟩
        case round =>
          clear h0
          obtain ⟨⟨f, rfl, hf12, h⟩, hgf⟩ := hrel
          have HGF := Lib.hid hgf
          clear hgf
          by_cases hf : f < 12
          · have hfi : (f : Int) < 12 := by omega
            obtain ⟨S, hS, _, _⟩ := exStr (rdText st.start f)
            have hrd : st.start.read (f : Int) = (rdText st.start f, 0) := by
              unfold DSt.read
              rw [HDN.out, if_neg (by simp), if_neg (by unfold bad; omega)]
              rfl
            have hr1 := tl_read h HG2.out (f : Int)
            rw [hrd, hS] at hr1
            have HR1 := Lib.hid hr1
            have hr2 := Lib.hid (fun w' (h' : Tl W.heap.size b y W w' st.start st.start rk) => tl_rread h' HG2.out (by omega) (f : Int))
            rw [hrd, hS] at hr2
            clear hr1 hrd hS
            go_wp2_with fail
            refine HR1.out.mono ?_
            rintro e w6 ⟨rfl, h6⟩
            have H6 := Lib.hid h6
            clear h6 h HR1
            go_wp2_with fail
            refine (hr2.out _ H6.out).mono ?_
            rintro e w7 ⟨rfl, h7⟩
            clear hr2
            go_wp2_with fail
            go_roundg (12 - (f + 1))
            case rel => exact ⟨⟨f + 1, by simp, by omega, h7⟩, by simp [intOf]; omega⟩
            case measure => have := HGF.out; simp [intOf] at this; omega
          · obtain rfl : f = 12 := by omega
            go_wp2
            go_ret
            exact ⟨rfl, h.2.1⟩
end Go.Proofs.Ythfnnkfdpnkodaa
