/- The laws' helpers: pick, do. -/
import Derived.Test.YthfnnkfdpnkodaaPlain
import Derived.Test.YthfnnkfdpnkodaaSmall
namespace Go.Proofs.Ythfnnkfdpnkodaa
open Go.RowKit

set_option linter.unusedSectionVars false

structure ActV where
  op : Int
  f : Int
  g : Int
  n : Int
  s : ByteArray
  keep : Value
  ks : List Int

def ActV.cells (a : ActV) : Array Value := #[.int .i64 a.op, .int .i64 a.f, .int .i64 a.g, .int .i64 a.n, .string a.s, a.keep]

def pickN (n : Int) : Int := if n.tmod 11 < 0 then n.tmod 11 + 11 else n.tmod 11

theorem pickN_range (n : Int) : 0 ≤ pickN n ∧ pickN n < 11 := by
  unfold pickN
  have h1 : (n.tmod 11) < 11 := Int.tmod_lt_of_pos n (by omega)
  have h2 : -11 < n.tmod 11 := by
    have := Int.tmod_lt_of_pos (-n) (show (0 : Int) < 11 by omega)
    rw [Int.neg_tmod] at this
    omega
  split <;> omega

theorem pick_any (n : Int) (w : World) : Calls Try.prog 12 #[.int .i64 n] w fun e w' => e = .returned (.int .i64 (pickN n)) ∧ w = w' := by
  have h1 : (n.tmod 11) < 11 := Int.tmod_lt_of_pos n (by omega)
  have h2 : -11 < n.tmod 11 := by
    have := Int.tmod_lt_of_pos (-n) (show (0 : Int) < 11 by omega)
    rw [Int.neg_tmod] at this
    omega
  by_cases h : n.tmod 11 < 0
  · have e : pickN n = n.tmod 11 + 11 := by unfold pickN; rw [if_pos h]
    rw [e]
    clear e
    go_enter Try.func12, Try.ntmps12
    go_wp2
    go_ret
    exact ⟨rfl, rfl⟩
  · have e : pickN n = n.tmod 11 := by unfold pickN; rw [if_neg h]
    rw [e]
    clear e
    go_enter Try.func12, Try.ntmps12
    go_wp2
    go_ret
    exact ⟨rfl, rfl⟩

def DSt.act (st : DSt) (a : ActV) : (List UInt8 × Nat) × DSt :=
  if pickN a.op ≤ 1 then (([], (st.doWrite a.f a.n a.s.data.toList).1), (st.doWrite a.f a.n a.s.data.toList).2)
  else if pickN a.op = 2 then (([], (st.flush a.f).1), (st.flush a.f).2)
  else if pickN a.op = 3 then (([], (st.cut a.f a.n).1), (st.cut a.f a.n).2)
  else if pickN a.op = 4 then (([], (st.turn a.f a.g).1), (st.turn a.f a.g).2)
  else if pickN a.op = 5 then (([], 0), st.doCrash a.ks)
  else if pickN a.op = 6 then (([], 0), st.lose a.n)
  else if pickN a.op = 7 then (([], 0), st.start)
  else if pickN a.op = 8 then (st.read a.f, st)
  else if pickN a.op = 10 then (([], 0), st.arm a.n a.ks)
  else (([], 0), st)

/-- What an act may be. -/
structure ActOk (F : Nat → Prop) (w : World) (a : ActV) : Prop where
  n : a.n ≤ 9223372036854775807
  s : a.s.size ≤ 140737488355328
  k : a.ks.length ≤ 17592186044416
  keep : ∃ kb, IntsAt w a.keep a.ks kb ∧ (F kb ∨ w.heap.size ≤ kb)
  nil : ∀ q c, a.keep = .slice q a.ks.length c → q = none → a.ks = []

theorem IntsAt.upd {S : Nat → Prop} {w w' : World} {v : Value} {ks : List Int} {kb : Nat} (h : IntsAt w v ks kb) (u : Upd S w w') (hS : ks ≠ [] → ¬ S kb) : IntsAt w' v ks kb := by
  refine ⟨h.form, fun a c hv j hj => ?_, fun hn => Nat.lt_of_lt_of_le (h.lt hn) u.size⟩
  obtain ⟨o, ha, hc⟩ := h.cells a c hv j hj
  have hne : ks ≠ [] := fun e => by rw [e] at hj; exact absurd hj (Nat.not_lt_zero _)
  refine ⟨o, ha, ?_⟩
  rw [World.cell?_of_block (w := w) (u.block kb (h.lt (by omega)) (hS hne))]
  exact hc

theorem ActOk.upd {F : Nat → Prop} {w w' : World} {a : ActV} (h : ActOk F w a) (hF : ∀ k, F k → k < w.heap.size) (u : Upd (fun k => ¬ F k) w w') : ActOk F w' a := by
  obtain ⟨kb, hk, hkb⟩ := h.keep
  by_cases hn : a.ks = []
  · refine ⟨h.n, h.s, h.k, ⟨w'.heap.size, ?_, .inr (Nat.le_refl _)⟩, h.nil⟩
    exact ⟨hk.form, fun _ _ _ j hj => absurd hj (by simp [hn]), fun hp => absurd hp (by simp [hn])⟩
  · have hl := hk.lt (List.length_pos_iff.2 hn)
    have hf : F kb := hkb.resolve_right (by omega)
    exact ⟨h.n, h.s, h.k, ⟨kb, hk.upd u (fun _ h => h hf), .inl hf⟩, h.nil⟩

theorem At.alloc {F : Nat → Prop} {b : Nat} {w0 w : World} {st : DSt} (h : At F b w0 st w) (o : Obj) : At F b w0 st (w.alloc o) :=
  ⟨fun k hk => Nat.lt_of_lt_of_le (h.1 k hk) (by simp), h.2.1.still ((Upd.refl _ w).alloc o), h.2.2.alloc o⟩

def Done (F : Nat → Prop) (b : Nat) (w0 : World) (r : (List UInt8 × Nat) × DSt) (e : Ending) (w' : World) : Prop :=
  e = .returned (.tuple #[strV r.1.1, .int .i64 (r.1.2 : Nat)]) ∧ At F b w0 r.2 w'


section
variable {F : Nat → Prop} {b : Nat} {w0 w : World} {st : DSt} (h : At F b w0 st w) {n : Nat} (hg : Fit st n) (hn : n ≤ 1099511627776) (a : ActV) (ha : ActOk F w a)
include h hg hn ha

theorem do0 (hk : pickN a.op = 0) : Calls Try.prog 13 #[dptr b, .agg a.cells] w (Done F b w0 (st.act a)) := by
  have hact : st.act a = (([], (st.doWrite a.f a.n a.s.data.toList).1), (st.doWrite a.f a.n a.s.data.toList).2) := by unfold DSt.act; rw [hk]; rfl
  have h1 := Lib.hid (h.alloc (.cells a.cells 30))
  have ha1 := Lib.hid (ha.upd h.1 ((Upd.refl _ w).alloc (.cells a.cells 30)))
  have hG := Lib.hid hg
  rw [hact]
  clear hact h ha hg
  unfold ActV.cells at *
  have hp : pickN a.op = 0 := hk
  go_enter Try.func13, Try.ntmps13
  go_wp2_with fail
  refine (pick_any a.op _).mono ?_
  rintro e w1 ⟨rfl, rfl⟩
  rw [hp]
  go_wp2_with fail
  refine (at_write h1.out hG.out hn a.f a.n a.s ha1.out.s).mono ?_
  rintro e w2 ⟨rfl, h2⟩
  go_wp2
  go_ret2
  exact ⟨rfl, h2⟩

theorem do1 (hk : pickN a.op = 1) : Calls Try.prog 13 #[dptr b, .agg a.cells] w (Done F b w0 (st.act a)) := by
  have hact : st.act a = (([], (st.doWrite a.f a.n a.s.data.toList).1), (st.doWrite a.f a.n a.s.data.toList).2) := by unfold DSt.act; rw [hk]; rfl
  have h1 := Lib.hid (h.alloc (.cells a.cells 30))
  have ha1 := Lib.hid (ha.upd h.1 ((Upd.refl _ w).alloc (.cells a.cells 30)))
  have hG := Lib.hid hg
  rw [hact]
  clear hact h ha hg
  unfold ActV.cells at *
  have hp : pickN a.op = 1 := hk
  go_enter Try.func13, Try.ntmps13
  go_wp2_with fail
  refine (pick_any a.op _).mono ?_
  rintro e w1 ⟨rfl, rfl⟩
  rw [hp]
  go_wp2_with fail
  refine (at_write h1.out hG.out hn a.f a.n a.s ha1.out.s).mono ?_
  rintro e w2 ⟨rfl, h2⟩
  go_wp2
  go_ret2
  exact ⟨rfl, h2⟩

theorem do2 (hk : pickN a.op = 2) : Calls Try.prog 13 #[dptr b, .agg a.cells] w (Done F b w0 (st.act a)) := by
  have hact : st.act a = (([], (st.flush a.f).1), (st.flush a.f).2) := by unfold DSt.act; rw [hk]; rfl
  have h1 := Lib.hid (h.alloc (.cells a.cells 30))
  have ha1 := Lib.hid (ha.upd h.1 ((Upd.refl _ w).alloc (.cells a.cells 30)))
  have hG := Lib.hid hg
  rw [hact]
  clear hact h ha hg
  unfold ActV.cells at *
  have hp : pickN a.op = 2 := hk
  go_enter Try.func13, Try.ntmps13
  go_wp2_with fail
  refine (pick_any a.op _).mono ?_
  rintro e w1 ⟨rfl, rfl⟩
  rw [hp]
  go_wp2_with fail
  refine (at_flush h1.out hG.out a.f).mono ?_
  rintro e w2 ⟨rfl, h2⟩
  go_wp2
  go_ret2
  exact ⟨rfl, h2⟩

theorem do3 (hk : pickN a.op = 3) : Calls Try.prog 13 #[dptr b, .agg a.cells] w (Done F b w0 (st.act a)) := by
  have hact : st.act a = (([], (st.cut a.f a.n).1), (st.cut a.f a.n).2) := by unfold DSt.act; rw [hk]; rfl
  have h1 := Lib.hid (h.alloc (.cells a.cells 30))
  have ha1 := Lib.hid (ha.upd h.1 ((Upd.refl _ w).alloc (.cells a.cells 30)))
  have hG := Lib.hid hg
  rw [hact]
  clear hact h ha hg
  unfold ActV.cells at *
  have hp : pickN a.op = 3 := hk
  go_enter Try.func13, Try.ntmps13
  go_wp2_with fail
  refine (pick_any a.op _).mono ?_
  rintro e w1 ⟨rfl, rfl⟩
  rw [hp]
  go_wp2_with fail
  refine (at_cut h1.out hG.out a.f a.n).mono ?_
  rintro e w2 ⟨rfl, h2⟩
  go_wp2
  go_ret2
  exact ⟨rfl, h2⟩

theorem do4 (hk : pickN a.op = 4) : Calls Try.prog 13 #[dptr b, .agg a.cells] w (Done F b w0 (st.act a)) := by
  have hact : st.act a = (([], (st.turn a.f a.g).1), (st.turn a.f a.g).2) := by unfold DSt.act; rw [hk]; rfl
  have h1 := Lib.hid (h.alloc (.cells a.cells 30))
  have ha1 := Lib.hid (ha.upd h.1 ((Upd.refl _ w).alloc (.cells a.cells 30)))
  have hG := Lib.hid hg
  rw [hact]
  clear hact h ha hg
  unfold ActV.cells at *
  have hp : pickN a.op = 4 := hk
  go_enter Try.func13, Try.ntmps13
  go_wp2_with fail
  refine (pick_any a.op _).mono ?_
  rintro e w1 ⟨rfl, rfl⟩
  rw [hp]
  go_wp2_with fail
  refine (at_turn h1.out hG.out hn a.f a.g).mono ?_
  rintro e w2 ⟨rfl, h2⟩
  go_wp2
  go_ret2
  exact ⟨rfl, h2⟩

theorem do5 (hk : pickN a.op = 5) : Calls Try.prog 13 #[dptr b, .agg a.cells] w (Done F b w0 (st.act a)) := by
  have hact : st.act a = (([], 0), st.doCrash a.ks) := by unfold DSt.act; rw [hk]; rfl
  have h1 := Lib.hid (h.alloc (.cells a.cells 30))
  have ha1 := Lib.hid (ha.upd h.1 ((Upd.refl _ w).alloc (.cells a.cells 30)))
  have hG := Lib.hid hg
  rw [hact]
  clear hact h ha hg
  unfold ActV.cells at *
  have hp : pickN a.op = 5 := hk
  go_enter Try.func13, Try.ntmps13
  go_wp2_with fail
  refine (pick_any a.op _).mono ?_
  rintro e w1 ⟨rfl, rfl⟩
  rw [hp]
  obtain ⟨kb, hkb, hkF⟩ := ha1.out.keep
  go_wp2_with fail
  refine (at_crash h1.out hG.out a.keep a.ks kb hkb hkF).mono ?_
  rintro e w2 ⟨rfl, h2⟩
  go_wp2
  go_ret2
  exact ⟨rfl, h2⟩

theorem do6 (hk : pickN a.op = 6) : Calls Try.prog 13 #[dptr b, .agg a.cells] w (Done F b w0 (st.act a)) := by
  have hact : st.act a = (([], 0), st.lose a.n) := by unfold DSt.act; rw [hk]; rfl
  have h1 := Lib.hid (h.alloc (.cells a.cells 30))
  have ha1 := Lib.hid (ha.upd h.1 ((Upd.refl _ w).alloc (.cells a.cells 30)))
  have hG := Lib.hid hg
  rw [hact]
  clear hact h ha hg
  unfold ActV.cells at *
  have hp : pickN a.op = 6 := hk
  go_enter Try.func13, Try.ntmps13
  go_wp2_with fail
  refine (pick_any a.op _).mono ?_
  rintro e w1 ⟨rfl, rfl⟩
  rw [hp]
  go_wp2_with fail
  refine (at_lose h1.out a.n).mono ?_
  rintro e w2 ⟨rfl, h2⟩
  go_wp2
  go_ret2
  exact ⟨rfl, h2⟩

theorem do7 (hk : pickN a.op = 7) : Calls Try.prog 13 #[dptr b, .agg a.cells] w (Done F b w0 (st.act a)) := by
  have hact : st.act a = (([], 0), st.start) := by unfold DSt.act; rw [hk]; rfl
  have h1 := Lib.hid (h.alloc (.cells a.cells 30))
  have ha1 := Lib.hid (ha.upd h.1 ((Upd.refl _ w).alloc (.cells a.cells 30)))
  have hG := Lib.hid hg
  rw [hact]
  clear hact h ha hg
  unfold ActV.cells at *
  have hp : pickN a.op = 7 := hk
  go_enter Try.func13, Try.ntmps13
  go_wp2_with fail
  refine (pick_any a.op _).mono ?_
  rintro e w1 ⟨rfl, rfl⟩
  rw [hp]
  go_wp2_with fail
  refine (at_start h1.out).mono ?_
  rintro e w2 ⟨rfl, h2⟩
  go_wp2
  go_ret2
  exact ⟨rfl, h2⟩

theorem do8 (hk : pickN a.op = 8) : Calls Try.prog 13 #[dptr b, .agg a.cells] w (Done F b w0 (st.act a)) := by
  have hact : st.act a = (st.read a.f, st) := by unfold DSt.act; rw [hk]; rfl
  have h1 := Lib.hid (h.alloc (.cells a.cells 30))
  have ha1 := Lib.hid (ha.upd h.1 ((Upd.refl _ w).alloc (.cells a.cells 30)))
  have hG := Lib.hid hg
  rw [hact]
  clear hact h ha hg
  unfold ActV.cells at *
  have hp : pickN a.op = 8 := hk
  go_enter Try.func13, Try.ntmps13
  go_wp2_with fail
  refine (pick_any a.op _).mono ?_
  rintro e w1 ⟨rfl, rfl⟩
  rw [hp]
  go_wp2_with fail
  refine (at_read h1.out hG.out a.f).mono ?_
  rintro e w2 ⟨rfl, h2⟩
  go_wp2
  go_ret2
  exact ⟨rfl, h2⟩

theorem do10 (hk : pickN a.op = 10) : Calls Try.prog 13 #[dptr b, .agg a.cells] w (Done F b w0 (st.act a)) := by
  have hact : st.act a = (([], 0), st.arm a.n a.ks) := by unfold DSt.act; rw [hk]; rfl
  have h1 := Lib.hid (h.alloc (.cells a.cells 30))
  have ha1 := Lib.hid (ha.upd h.1 ((Upd.refl _ w).alloc (.cells a.cells 30)))
  have hG := Lib.hid hg
  rw [hact]
  clear hact h ha hg
  unfold ActV.cells at *
  have hp : pickN a.op = 10 := hk
  go_enter Try.func13, Try.ntmps13
  go_wp2_with fail
  refine (pick_any a.op _).mono ?_
  rintro e w1 ⟨rfl, rfl⟩
  rw [hp]
  obtain ⟨kb, hkb, hkF⟩ := ha1.out.keep
  go_wp2_with fail
  refine (at_arm h1.out a.n a.keep a.ks kb hkb ha1.out.nil ha1.out.k).mono ?_
  rintro e w2 ⟨rfl, h2⟩
  go_wp2
  go_ret2
  exact ⟨rfl, h2⟩

theorem do9 (hk : pickN a.op = 9) : Calls Try.prog 13 #[dptr b, .agg a.cells] w (Done F b w0 (st.act a)) := by
  have hact : st.act a = (([], 0), st) := by unfold DSt.act; rw [hk]; rfl
  have h1 := Lib.hid (h.alloc (.cells a.cells 30))
  rw [hact]
  clear hact h ha hg
  unfold ActV.cells at *
  have hp : pickN a.op = 9 := hk
  go_enter Try.func13, Try.ntmps13
  go_wp2_with fail
  refine (pick_any a.op _).mono ?_
  rintro e w1 ⟨rfl, rfl⟩
  rw [hp]
  go_wp2
  go_ret2
  exact ⟨rfl, h1.out⟩

theorem do_at : Calls Try.prog 13 #[dptr b, .agg a.cells] w (Done F b w0 (st.act a)) := by
  have hr := pickN_range a.op
  by_cases e0 : pickN a.op = 0
  · exact do0 h hg hn a ha e0
  by_cases e1 : pickN a.op = 1
  · exact do1 h hg hn a ha e1
  by_cases e2 : pickN a.op = 2
  · exact do2 h hg hn a ha e2
  by_cases e3 : pickN a.op = 3
  · exact do3 h hg hn a ha e3
  by_cases e4 : pickN a.op = 4
  · exact do4 h hg hn a ha e4
  by_cases e5 : pickN a.op = 5
  · exact do5 h hg hn a ha e5
  by_cases e6 : pickN a.op = 6
  · exact do6 h hg hn a ha e6
  by_cases e7 : pickN a.op = 7
  · exact do7 h hg hn a ha e7
  by_cases e8 : pickN a.op = 8
  · exact do8 h hg hn a ha e8
  by_cases e9 : pickN a.op = 9
  · exact do9 h hg hn a ha e9
  exact do10 h hg hn a ha (by omega)
end
end Go.Proofs.Ythfnnkfdpnkodaa
