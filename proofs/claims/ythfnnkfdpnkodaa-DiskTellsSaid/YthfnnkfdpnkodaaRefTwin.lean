/- The law's twin, walked. -/
import Derived.Test.YthfnnkfdpnkodaaRefCopy
import Derived.Test.YthfnnkfdpnkodaaIdle
namespace Go.Proofs.Ythfnnkfdpnkodaa
open Go.RowKit

theorem RInv.tick {st : DSt} {rk : List Int} (h : RInv st rk) : RInv st.tick rk := by
  unfold RInv DSt.tick at *
  split
  · exact h
  · intro ha; exact h (fun e => ha (by show st.armed - 1 = 0; omega))

theorem RInv.of {st st' : DSt} {rk : List Int} (h : RInv st rk) (h1 : st'.armed = st.armed) (h2 : st'.keep = st.keep) : RInv st' rk := by
  unfold RInv at *
  rw [h1, h2]
  exact h

theorem RInv.crash (st : DSt) (ks rk : List Int) : RInv (st.crash ks) rk := fun h => absurd rfl h

theorem RInv.pre {st : DSt} {rk : List Int} (h : RInv st rk) : RInv st.pre rk := by
  unfold DSt.pre
  split
  · exact RInv.crash _ _ _
  · exact h.tick

theorem RInv.write {st : DSt} {rk : List Int} (h : RInv st rk) (f at_ : Int) (s : List UInt8) : RInv (st.write f at_ s).2 rk := by
  unfold DSt.write
  split
  · exact h
  · split
    · exact h
    · split
      · exact h
      · split
        · exact h
        · exact h.of rfl rfl

theorem RInv.doWrite {st : DSt} {rk : List Int} (h : RInv st rk) (f at_ : Int) (s : List UInt8) : RInv (st.doWrite f at_ s).2 rk := by
  unfold DSt.doWrite
  split
  · exact RInv.crash _ _ _
  · exact h.tick.write f at_ s

theorem RInv.flush {st : DSt} {rk : List Int} (h : RInv st rk) (f : Int) : RInv (st.flush f).2 rk := by
  unfold DSt.flush
  split
  · exact h.pre
  · split
    · exact h.pre
    · split
      · exact h.pre.of rfl rfl
      · exact h.pre.of rfl rfl

theorem RInv.cut {st : DSt} {rk : List Int} (h : RInv st rk) (f n : Int) : RInv (st.cut f n).2 rk := by
  unfold DSt.cut
  split
  · exact h.pre
  · split
    · exact h.pre
    · split
      · exact h.pre
      · exact h.pre.of rfl rfl

theorem RInv.turn {st : DSt} {rk : List Int} (h : RInv st rk) (f g : Int) : RInv (st.turn f g).2 rk := by
  unfold DSt.turn
  split
  · exact h.pre
  · split
    · exact h.pre
    · split
      · exact h.pre
      · split
        · exact h.pre
        · exact h.pre.of rfl rfl

theorem RInv.doCrash {st : DSt} {rk : List Int} (h : RInv st rk) (ks : List Int) : RInv (st.doCrash ks) rk := by
  unfold DSt.doCrash
  split
  · exact h
  · exact RInv.crash _ _ _

def TwDone (F : Nat → Prop) (x : Nat) (w : World) (r : (List UInt8 × Nat) × DSt) (e : Ending) (w' : World) : Prop :=
  e = .returned (.tuple #[strV r.1.1, .int .i64 (r.1.2 : Nat)]) ∧ ∃ rk, RD x r.2 rk w' (fun k => ¬ F k) ∧ Upd (fun k => ¬ F k) w w' ∧ RInv r.2 rk ∧ rk.length ≤ 17592186044416




section
variable (F : Nat → Prop) (x : Nat) (st : DSt) (rk : List Int) (w : World) (hF : ∀ k, F k → k < w.heap.size) (h : RD x st rk w (fun k => ¬ F k)) (n : Nat) (hg : Fit st n) (hn : n ≤ 1000000000000) (hr : RInv st rk) (hkr : rk.length ≤ 17592186044416) (a : ActV) (ha : ActOk F w a)
include hF h hg hn hr hkr ha

theorem tw0 (hk : pickN a.op = 0) : Calls Try.prog 27 #[dptr x, .agg a.cells] w (TwDone F x w (st.act a)) := by
  have hact : st.act a = (([], (st.doWrite a.f a.n a.s.data.toList).1), (st.doWrite a.f a.n a.s.data.toList).2) := by unfold DSt.act; rw [hk]; rfl
  have hp : pickN a.op = 0 := hk
  have hF1 : ∀ k, F k → k < (w.alloc (.cells a.cells 30)).heap.size := fun k hk => Nat.lt_of_lt_of_le (hF k hk) (by simp)
  have h1 : RD x st rk (w.alloc (.cells a.cells 30)) (fun k => ¬ F k) := Owned.still h ((Upd.refl _ w).alloc _)
  have ha1 := Lib.hid (ha.upd hF ((Upd.refl _ w).alloc (.cells a.cells 30)))
  have hu1 : Hid (Upd (fun k => ¬ F k) w (w.alloc (.cells a.cells 30))) := Lib.hid ((Upd.refl _ w).alloc _)
  have H1 := Lib.hid h1
  have HF1 := Lib.hid hF1
  have HG := Lib.hid hg
  have HR := Lib.hid hr
  rw [hact]
  clear hact h ha hg hr hF hF1 h1
  have hc := Lib.hid (rwrite_any F x st rk _ HF1.out H1.out n HG.out hn HR.out a.f a.n a.s ha1.out.s)
  unfold ActV.cells at *
  go_enter Try.func27, Try.ntmps27
  go_wp2_with fail
  refine (pick_any a.op _).mono ?_
  rintro e w1 ⟨rfl, rfl⟩
  rw [hp]
  go_wp2_with fail
  refine hc.out.mono ?_
  rintro e w2 ⟨rfl, h2, hu2⟩
  go_wp2_with fail
  go_ret2
  exact ⟨rfl, _, h2, hu1.out.trans hu2 fun _ _ h => h, HR.out.doWrite _ _ _, hkr⟩

theorem tw1 (hk : pickN a.op = 1) : Calls Try.prog 27 #[dptr x, .agg a.cells] w (TwDone F x w (st.act a)) := by
  have hact : st.act a = (([], (st.doWrite a.f a.n a.s.data.toList).1), (st.doWrite a.f a.n a.s.data.toList).2) := by unfold DSt.act; rw [hk]; rfl
  have hp : pickN a.op = 1 := hk
  have hF1 : ∀ k, F k → k < (w.alloc (.cells a.cells 30)).heap.size := fun k hk => Nat.lt_of_lt_of_le (hF k hk) (by simp)
  have h1 : RD x st rk (w.alloc (.cells a.cells 30)) (fun k => ¬ F k) := Owned.still h ((Upd.refl _ w).alloc _)
  have ha1 := Lib.hid (ha.upd hF ((Upd.refl _ w).alloc (.cells a.cells 30)))
  have hu1 : Hid (Upd (fun k => ¬ F k) w (w.alloc (.cells a.cells 30))) := Lib.hid ((Upd.refl _ w).alloc _)
  have H1 := Lib.hid h1
  have HF1 := Lib.hid hF1
  have HG := Lib.hid hg
  have HR := Lib.hid hr
  rw [hact]
  clear hact h ha hg hr hF hF1 h1
  have hc := Lib.hid (rwrite_any F x st rk _ HF1.out H1.out n HG.out hn HR.out a.f a.n a.s ha1.out.s)
  unfold ActV.cells at *
  go_enter Try.func27, Try.ntmps27
  go_wp2_with fail
  refine (pick_any a.op _).mono ?_
  rintro e w1 ⟨rfl, rfl⟩
  rw [hp]
  go_wp2_with fail
  refine hc.out.mono ?_
  rintro e w2 ⟨rfl, h2, hu2⟩
  go_wp2_with fail
  go_ret2
  exact ⟨rfl, _, h2, hu1.out.trans hu2 fun _ _ h => h, HR.out.doWrite _ _ _, hkr⟩

theorem tw2 (hk : pickN a.op = 2) : Calls Try.prog 27 #[dptr x, .agg a.cells] w (TwDone F x w (st.act a)) := by
  have hact : st.act a = (([], (st.flush a.f).1), (st.flush a.f).2) := by unfold DSt.act; rw [hk]; rfl
  have hp : pickN a.op = 2 := hk
  have hF1 : ∀ k, F k → k < (w.alloc (.cells a.cells 30)).heap.size := fun k hk => Nat.lt_of_lt_of_le (hF k hk) (by simp)
  have h1 : RD x st rk (w.alloc (.cells a.cells 30)) (fun k => ¬ F k) := Owned.still h ((Upd.refl _ w).alloc _)
  have ha1 := Lib.hid (ha.upd hF ((Upd.refl _ w).alloc (.cells a.cells 30)))
  have hu1 : Hid (Upd (fun k => ¬ F k) w (w.alloc (.cells a.cells 30))) := Lib.hid ((Upd.refl _ w).alloc _)
  have H1 := Lib.hid h1
  have HF1 := Lib.hid hF1
  have HG := Lib.hid hg
  have HR := Lib.hid hr
  rw [hact]
  clear hact h ha hg hr hF hF1 h1
  have hc := Lib.hid (rflush_any F x st rk _ HF1.out H1.out n HG.out hn HR.out a.f)
  unfold ActV.cells at *
  go_enter Try.func27, Try.ntmps27
  go_wp2_with fail
  refine (pick_any a.op _).mono ?_
  rintro e w1 ⟨rfl, rfl⟩
  rw [hp]
  go_wp2_with fail
  refine hc.out.mono ?_
  rintro e w2 ⟨rfl, h2, hu2⟩
  go_wp2_with fail
  go_ret2
  exact ⟨rfl, _, h2, hu1.out.trans hu2 fun _ _ h => h, HR.out.flush _, hkr⟩

theorem tw3 (hk : pickN a.op = 3) : Calls Try.prog 27 #[dptr x, .agg a.cells] w (TwDone F x w (st.act a)) := by
  have hact : st.act a = (([], (st.cut a.f a.n).1), (st.cut a.f a.n).2) := by unfold DSt.act; rw [hk]; rfl
  have hp : pickN a.op = 3 := hk
  have hF1 : ∀ k, F k → k < (w.alloc (.cells a.cells 30)).heap.size := fun k hk => Nat.lt_of_lt_of_le (hF k hk) (by simp)
  have h1 : RD x st rk (w.alloc (.cells a.cells 30)) (fun k => ¬ F k) := Owned.still h ((Upd.refl _ w).alloc _)
  have ha1 := Lib.hid (ha.upd hF ((Upd.refl _ w).alloc (.cells a.cells 30)))
  have hu1 : Hid (Upd (fun k => ¬ F k) w (w.alloc (.cells a.cells 30))) := Lib.hid ((Upd.refl _ w).alloc _)
  have H1 := Lib.hid h1
  have HF1 := Lib.hid hF1
  have HG := Lib.hid hg
  have HR := Lib.hid hr
  rw [hact]
  clear hact h ha hg hr hF hF1 h1
  have hc := Lib.hid (rcut_any F x st rk _ HF1.out H1.out n HG.out hn HR.out a.f a.n)
  unfold ActV.cells at *
  go_enter Try.func27, Try.ntmps27
  go_wp2_with fail
  refine (pick_any a.op _).mono ?_
  rintro e w1 ⟨rfl, rfl⟩
  rw [hp]
  go_wp2_with fail
  refine hc.out.mono ?_
  rintro e w2 ⟨rfl, h2, hu2⟩
  go_wp2_with fail
  go_ret2
  exact ⟨rfl, _, h2, hu1.out.trans hu2 fun _ _ h => h, HR.out.cut _ _, hkr⟩

theorem tw4 (hk : pickN a.op = 4) : Calls Try.prog 27 #[dptr x, .agg a.cells] w (TwDone F x w (st.act a)) := by
  have hact : st.act a = (([], (st.turn a.f a.g).1), (st.turn a.f a.g).2) := by unfold DSt.act; rw [hk]; rfl
  have hp : pickN a.op = 4 := hk
  have hF1 : ∀ k, F k → k < (w.alloc (.cells a.cells 30)).heap.size := fun k hk => Nat.lt_of_lt_of_le (hF k hk) (by simp)
  have h1 : RD x st rk (w.alloc (.cells a.cells 30)) (fun k => ¬ F k) := Owned.still h ((Upd.refl _ w).alloc _)
  have ha1 := Lib.hid (ha.upd hF ((Upd.refl _ w).alloc (.cells a.cells 30)))
  have hu1 : Hid (Upd (fun k => ¬ F k) w (w.alloc (.cells a.cells 30))) := Lib.hid ((Upd.refl _ w).alloc _)
  have H1 := Lib.hid h1
  have HF1 := Lib.hid hF1
  have HG := Lib.hid hg
  have HR := Lib.hid hr
  rw [hact]
  clear hact h ha hg hr hF hF1 h1
  have hc := Lib.hid (rturn_any F x st rk _ HF1.out H1.out n HG.out hn HR.out a.f a.g)
  unfold ActV.cells at *
  go_enter Try.func27, Try.ntmps27
  go_wp2_with fail
  refine (pick_any a.op _).mono ?_
  rintro e w1 ⟨rfl, rfl⟩
  rw [hp]
  go_wp2_with fail
  refine hc.out.mono ?_
  rintro e w2 ⟨rfl, h2, hu2⟩
  go_wp2_with fail
  go_ret2
  exact ⟨rfl, _, h2, hu1.out.trans hu2 fun _ _ h => h, HR.out.turn _ _, hkr⟩

theorem tw5 (hk : pickN a.op = 5) : Calls Try.prog 27 #[dptr x, .agg a.cells] w (TwDone F x w (st.act a)) := by
  have hact : st.act a = (([], 0), st.doCrash a.ks) := by unfold DSt.act; rw [hk]; rfl
  have hp : pickN a.op = 5 := hk
  have hF1 : ∀ k, F k → k < (w.alloc (.cells a.cells 30)).heap.size := fun k hk => Nat.lt_of_lt_of_le (hF k hk) (by simp)
  have h1 : RD x st rk (w.alloc (.cells a.cells 30)) (fun k => ¬ F k) := Owned.still h ((Upd.refl _ w).alloc _)
  have ha1 := Lib.hid (ha.upd hF ((Upd.refl _ w).alloc (.cells a.cells 30)))
  have hu1 : Hid (Upd (fun k => ¬ F k) w (w.alloc (.cells a.cells 30))) := Lib.hid ((Upd.refl _ w).alloc _)
  have H1 := Lib.hid h1
  have HF1 := Lib.hid hF1
  have HG := Lib.hid hg
  have HR := Lib.hid hr
  rw [hact]
  clear hact h ha hg hr hF hF1 h1
  obtain ⟨kb, hkb, hkF⟩ := ha1.out.keep
  have hkx : a.ks ≠ [] → kb ≠ x := fun _ e => by
    have h3 := RD.b_in H1.out
    have h4 := Owned.lt H1.out
    rcases hkF with h5 | h5
    · exact h3 (e ▸ h5)
    · omega
  have hc := Lib.hid (rcrash_any F x st rk _ HF1.out H1.out HG.out.good (by have := HG.out.pend; omega) a.keep a.ks kb hkb hkx)
  clear hkb hkF hkx
  unfold ActV.cells at *
  go_enter Try.func27, Try.ntmps27
  go_wp2_with fail
  refine (pick_any a.op _).mono ?_
  rintro e w1 ⟨rfl, rfl⟩
  rw [hp]
  go_wp2_with fail
  refine hc.out.mono ?_
  rintro e w2 ⟨rfl, h2, hu2⟩
  go_wp2_with fail
  go_ret2
  exact ⟨rfl, _, h2, hu1.out.trans hu2 fun _ _ h => h, HR.out.doCrash _, hkr⟩

theorem tw6 (hk : pickN a.op = 6) : Calls Try.prog 27 #[dptr x, .agg a.cells] w (TwDone F x w (st.act a)) := by
  have _ := hn
  have hact : st.act a = (([], 0), st.lose a.n) := by unfold DSt.act; rw [hk]; rfl
  have hp : pickN a.op = 6 := hk
  have hF1 : ∀ k, F k → k < (w.alloc (.cells a.cells 30)).heap.size := fun k hk => Nat.lt_of_lt_of_le (hF k hk) (by simp)
  have h1 : RD x st rk (w.alloc (.cells a.cells 30)) (fun k => ¬ F k) := Owned.still h ((Upd.refl _ w).alloc _)
  have ha1 := Lib.hid (ha.upd hF ((Upd.refl _ w).alloc (.cells a.cells 30)))
  have hu1 : Hid (Upd (fun k => ¬ F k) w (w.alloc (.cells a.cells 30))) := Lib.hid ((Upd.refl _ w).alloc _)
  have H1 := Lib.hid h1
  have HF1 := Lib.hid hF1
  have HG := Lib.hid hg
  have HR := Lib.hid hr
  rw [hact]
  clear hact h ha hg hr hF hF1 h1
  have hc := Lib.hid (rd_lose H1.out a.n)
  unfold ActV.cells at *
  go_enter Try.func27, Try.ntmps27
  go_wp2_with fail
  refine (pick_any a.op _).mono ?_
  rintro e w1 ⟨rfl, rfl⟩
  rw [hp]
  go_wp2_with fail
  refine hc.out.mono ?_
  rintro e w2 ⟨rfl, h2, hu2⟩
  go_wp2_with fail
  go_ret2
  exact ⟨rfl, _, h2, hu1.out.trans hu2 fun _ _ h => h, HR.out.of rfl rfl, hkr⟩

theorem tw7 (hk : pickN a.op = 7) : Calls Try.prog 27 #[dptr x, .agg a.cells] w (TwDone F x w (st.act a)) := by
  have _ := hn
  have hact : st.act a = (([], 0), st.start) := by unfold DSt.act; rw [hk]; rfl
  have hp : pickN a.op = 7 := hk
  have hF1 : ∀ k, F k → k < (w.alloc (.cells a.cells 30)).heap.size := fun k hk => Nat.lt_of_lt_of_le (hF k hk) (by simp)
  have h1 : RD x st rk (w.alloc (.cells a.cells 30)) (fun k => ¬ F k) := Owned.still h ((Upd.refl _ w).alloc _)
  have ha1 := Lib.hid (ha.upd hF ((Upd.refl _ w).alloc (.cells a.cells 30)))
  have hu1 : Hid (Upd (fun k => ¬ F k) w (w.alloc (.cells a.cells 30))) := Lib.hid ((Upd.refl _ w).alloc _)
  have H1 := Lib.hid h1
  have HF1 := Lib.hid hF1
  have HG := Lib.hid hg
  have HR := Lib.hid hr
  rw [hact]
  clear hact h ha hg hr hF hF1 h1
  have hc := Lib.hid (rd_start H1.out)
  unfold ActV.cells at *
  go_enter Try.func27, Try.ntmps27
  go_wp2_with fail
  refine (pick_any a.op _).mono ?_
  rintro e w1 ⟨rfl, rfl⟩
  rw [hp]
  go_wp2_with fail
  refine hc.out.mono ?_
  rintro e w2 ⟨rfl, h2, hu2⟩
  go_wp2_with fail
  go_ret2
  exact ⟨rfl, _, h2, hu1.out.trans hu2 fun _ _ h => h, HR.out.of rfl rfl, hkr⟩

theorem tw8 (hk : pickN a.op = 8) : Calls Try.prog 27 #[dptr x, .agg a.cells] w (TwDone F x w (st.act a)) := by
  have hact : st.act a = (st.read a.f, st) := by unfold DSt.act; rw [hk]; rfl
  have hp : pickN a.op = 8 := hk
  have hF1 : ∀ k, F k → k < (w.alloc (.cells a.cells 30)).heap.size := fun k hk => Nat.lt_of_lt_of_le (hF k hk) (by simp)
  have h1 : RD x st rk (w.alloc (.cells a.cells 30)) (fun k => ¬ F k) := Owned.still h ((Upd.refl _ w).alloc _)
  have ha1 := Lib.hid (ha.upd hF ((Upd.refl _ w).alloc (.cells a.cells 30)))
  have hu1 : Hid (Upd (fun k => ¬ F k) w (w.alloc (.cells a.cells 30))) := Lib.hid ((Upd.refl _ w).alloc _)
  have H1 := Lib.hid h1
  have HF1 := Lib.hid hF1
  have HG := Lib.hid hg
  have HR := Lib.hid hr
  rw [hact]
  clear hact h ha hg hr hF hF1 h1
  have hc := Lib.hid (rRead_any F x st rk _ H1.out n HG.out hn a.f)
  unfold ActV.cells at *
  go_enter Try.func27, Try.ntmps27
  go_wp2_with fail
  refine (pick_any a.op _).mono ?_
  rintro e w1 ⟨rfl, rfl⟩
  rw [hp]
  go_wp2_with fail
  refine hc.out.mono ?_
  rintro e w2 ⟨rfl, h2, hu2⟩
  go_wp2_with fail
  go_ret2
  exact ⟨rfl, _, h2, hu1.out.trans hu2 fun _ _ h => h, HR.out, hkr⟩

theorem tw9 (hk : pickN a.op = 9) : Calls Try.prog 27 #[dptr x, .agg a.cells] w (TwDone F x w (st.act a)) := by
  have _ := hn
  have hact : st.act a = (([], 0), st) := by unfold DSt.act; rw [hk]; rfl
  have hp : pickN a.op = 9 := hk
  have hF1 : ∀ k, F k → k < (w.alloc (.cells a.cells 30)).heap.size := fun k hk => Nat.lt_of_lt_of_le (hF k hk) (by simp)
  have h1 : RD x st rk (w.alloc (.cells a.cells 30)) (fun k => ¬ F k) := Owned.still h ((Upd.refl _ w).alloc _)
  have ha1 := Lib.hid (ha.upd hF ((Upd.refl _ w).alloc (.cells a.cells 30)))
  have hu1 : Hid (Upd (fun k => ¬ F k) w (w.alloc (.cells a.cells 30))) := Lib.hid ((Upd.refl _ w).alloc _)
  have H1 := Lib.hid h1
  have HF1 := Lib.hid hF1
  have HG := Lib.hid hg
  have HR := Lib.hid hr
  rw [hact]
  clear hact h ha hg hr hF hF1 h1
  unfold ActV.cells at *
  go_enter Try.func27, Try.ntmps27
  go_wp2_with fail
  refine (pick_any a.op _).mono ?_
  rintro e w1 ⟨rfl, rfl⟩
  rw [hp]
  go_wp2_with fail
  go_ret2
  exact ⟨rfl, _, H1.out, hu1.out, HR.out, hkr⟩

theorem tw10 (hk : pickN a.op = 10) : Calls Try.prog 27 #[dptr x, .agg a.cells] w (TwDone F x w (st.act a)) := by
  have _ := hn
  have _ := hkr
  have hact : st.act a = (([], 0), st.arm a.n a.ks) := by unfold DSt.act; rw [hk]; rfl
  have hp : pickN a.op = 10 := hk
  have hF1 : ∀ k, F k → k < (w.alloc (.cells a.cells 30)).heap.size := fun k hk => Nat.lt_of_lt_of_le (hF k hk) (by simp)
  have h1 : RD x st rk (w.alloc (.cells a.cells 30)) (fun k => ¬ F k) := Owned.still h ((Upd.refl _ w).alloc _)
  have ha1 := Lib.hid (ha.upd hF ((Upd.refl _ w).alloc (.cells a.cells 30)))
  have hu1 : Hid (Upd (fun k => ¬ F k) w (w.alloc (.cells a.cells 30))) := Lib.hid ((Upd.refl _ w).alloc _)
  have H1 := Lib.hid h1
  have HF1 := Lib.hid hF1
  have HG := Lib.hid hg
  have HR := Lib.hid hr
  rw [hact]
  clear hact h ha hg hr hF hF1 h1
  obtain ⟨kb, hkb, hkF⟩ := ha1.out.keep
  have hkx : a.ks ≠ [] → kb ≠ x := fun _ e => by
    have h3 := RD.b_in H1.out
    have h4 := Owned.lt H1.out
    rcases hkF with h5 | h5
    · exact h3 (e ▸ h5)
    · omega
  have hkk := Lib.hid ha1.out.k
  have hc := Lib.hid (rarm_any F x st rk _ HF1.out H1.out a.n a.keep a.ks kb hkb ha1.out.nil ha1.out.k hkx)
  clear hkb hkF hkx
  unfold ActV.cells at *
  go_enter Try.func27, Try.ntmps27
  go_wp2_with fail
  refine (pick_any a.op _).mono ?_
  rintro e w1 ⟨rfl, rfl⟩
  rw [hp]
  go_wp2_with fail
  refine hc.out.mono ?_
  rintro e w2 ⟨rfl, h2, hu2⟩
  go_wp2_with fail
  go_ret2
  exact ⟨rfl, _, h2, hu1.out.trans hu2 fun _ _ h => h, fun _ => rfl, hkk.out⟩

theorem tw_any : Calls Try.prog 27 #[dptr x, .agg a.cells] w (TwDone F x w (st.act a)) := by
  have hr' := pickN_range a.op
  by_cases e0 : pickN a.op = 0
  · exact tw0 F x st rk w hF h n hg hn hr hkr a ha e0
  by_cases e1 : pickN a.op = 1
  · exact tw1 F x st rk w hF h n hg hn hr hkr a ha e1
  by_cases e2 : pickN a.op = 2
  · exact tw2 F x st rk w hF h n hg hn hr hkr a ha e2
  by_cases e3 : pickN a.op = 3
  · exact tw3 F x st rk w hF h n hg hn hr hkr a ha e3
  by_cases e4 : pickN a.op = 4
  · exact tw4 F x st rk w hF h n hg hn hr hkr a ha e4
  by_cases e5 : pickN a.op = 5
  · exact tw5 F x st rk w hF h n hg hn hr hkr a ha e5
  by_cases e6 : pickN a.op = 6
  · exact tw6 F x st rk w hF h n hg hn hr hkr a ha e6
  by_cases e7 : pickN a.op = 7
  · exact tw7 F x st rk w hF h n hg hn hr hkr a ha e7
  by_cases e8 : pickN a.op = 8
  · exact tw8 F x st rk w hF h n hg hn hr hkr a ha e8
  by_cases e9 : pickN a.op = 9
  · exact tw9 F x st rk w hF h n hg hn hr hkr a ha e9
  exact tw10 F x st rk w hF h n hg hn hr hkr a ha (by omega)
end
end Go.Proofs.Ythfnnkfdpnkodaa
