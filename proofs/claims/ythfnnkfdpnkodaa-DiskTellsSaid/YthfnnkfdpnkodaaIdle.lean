/- What a machine that is down answers, and what calls with an invalid file number are answered. -/
import Derived.Test.YthfnnkfdpnkodaaFew
namespace Go.Proofs.Ythfnnkfdpnkodaa
open Go.RowKit
set_option linter.unusedSectionVars false

theorem idle_tick {st : DSt} (h : st.armed = 0) : st.tick = st := by
  unfold DSt.tick
  split
  · rfl
  · cases st; simp only at h; subst h; rfl

theorem idle_fires {st : DSt} (h : st.armed = 0) : st.fires = false := by unfold DSt.fires; rw [h]; simp
theorem down_tick {st : DSt} (h : st.down = true) : st.tick = st := by unfold DSt.tick; rw [h]; rfl
theorem down_fires {st : DSt} (h : st.down = true) : st.fires = false := by unfold DSt.fires; rw [h]; rfl
theorem idle_pre {st : DSt} (h : st.armed = 0) : st.pre = st := by unfold DSt.pre; rw [idle_fires h, idle_tick h]; rfl
theorem down_pre {st : DSt} (h : st.down = true) : st.pre = st := by unfold DSt.pre; rw [down_fires h, down_tick h]; rfl

section
variable {st : DSt} (ha : st.armed = 0) (hd : st.down = false)
include ha hd

theorem idle_write (f at_ : Int) (s : List UInt8) : st.doWrite f at_ s = st.write f at_ s := by
  unfold DSt.doWrite; rw [idle_fires ha, idle_tick ha]; rfl
theorem bad_write {f : Int} (hf : bad f) (at_ : Int) (s : List UInt8) : st.doWrite f at_ s = (1, st) := by
  rw [idle_write ha hd]
  unfold DSt.write
  rw [hd, if_neg (by simp), if_pos (show f < 0 ∨ 12 ≤ f from hf)]
theorem bad_flush {f : Int} (hf : bad f) : st.flush f = (1, st) := by
  unfold DSt.flush
  rw [idle_pre ha, hd, if_neg (by simp), if_pos (show f < 0 ∨ 12 ≤ f from hf)]
theorem bad_cut {f : Int} (hf : bad f) (n : Int) : st.cut f n = (1, st) := by
  unfold DSt.cut
  rw [idle_pre ha, hd, if_neg (by simp), if_pos (show f < 0 ∨ 12 ≤ f from hf)]
theorem bad_turn {f g : Int} (hf : bad f ∨ bad g) : st.turn f g = (1, st) := by
  unfold DSt.turn
  rw [idle_pre ha, hd, if_neg (by simp), if_pos hf]
end

section
variable {st : DSt} (hd : st.down = true)
include hd
theorem down_write (f at_ : Int) (s : List UInt8) : st.doWrite f at_ s = (8, st) := by
  unfold DSt.doWrite DSt.write
  rw [down_fires hd, down_tick hd, hd]; rfl
theorem down_flush (f : Int) : st.flush f = (8, st) := by
  unfold DSt.flush
  rw [down_pre hd, hd]; rfl
theorem down_cut (f n : Int) : st.cut f n = (8, st) := by
  unfold DSt.cut
  rw [down_pre hd, hd]; rfl
theorem down_turn (f g : Int) : st.turn f g = (8, st) := by
  unfold DSt.turn
  rw [down_pre hd, hd]; rfl
theorem down_read (f : Int) : st.read f = ([], 8) := by
  unfold DSt.read
  rw [hd]; rfl
theorem down_crash (ks : List Int) : st.doCrash ks = st := by
  unfold DSt.doCrash
  rw [hd]; rfl
end

theorem at_eq3 {Q : World → DSt → Prop} {fn : Nat} {args : Array Value} {w : World} {v v' : Value} {st : DSt} (t : Calls Try.prog fn args w (fun e w' => e = .returned v ∧ Q w' st)) (hv : v = v') :
    Calls Try.prog fn args w (fun e w' => e = .returned v' ∧ Q w' st) := by subst hv; exact t

theorem at_eq2 {Q : World → DSt → Prop} {fn : Nat} {args : Array Value} {w : World} {r : Nat × DSt} {n : Nat} {st' : DSt} (t : Calls Try.prog fn args w (fun e w' => e = .returned (.int .i64 (r.1 : Nat)) ∧ Q w' r.2)) (hr : r = (n, st')) {i : Int} (hi : ((n : Nat) : Int) = i) :
    Calls Try.prog fn args w (fun e w' => e = .returned (.int .i64 i) ∧ Q w' st') := by subst hr; subst hi; exact t

section
variable {F : Nat → Prop} {b : Nat} {w0 w : World} {st : DSt} (h : At F b w0 st w)
include h

theorem At.cell {k o : Nat} {v : Value} (hc : w0.cell? ⟨k, o, none⟩ = some v) (hF : F k) : w.cell? ⟨k, o, none⟩ = some v :=
  (World.cell?_of_block (w := w0) (h.2.2.block k (World.block_lt_of_cell? w0 _ hc) (fun hn => hn hF))).trans hc

theorem At.acts {v : Value} {l : List ActV} (hl : ActsAt w0 v l) (hF : ∀ k, k < w0.heap.size → F k) : ActsAt w v l := by
  refine ⟨hl.form, fun a c hv j hj => ?_⟩
  obtain ⟨kb, o, ha, hc⟩ := hl.cells a c hv j hj
  exact ⟨kb, o, ha, fun i hi => h.cell (hc i hi) (hF kb (World.block_lt_of_cell? w0 _ (hc i hi)))⟩

theorem At.act {a : ActV} (ha : ActOk F w0 a) (hF : ∀ k, F k → k < w0.heap.size) : ActOk F w a := ha.upd hF h.2.2
end

/-- An act as it came in. -/
def ActIn (W : World) (x : ActV) : Prop := ActOk (fun k => k < W.heap.size) W x ∧ ∃ q c, x.keep = .slice q x.ks.length c
def ActsIn (W : World) (v : Value) (l : List ActV) : Prop := ActsAt W v l ∧ ∀ x ∈ l, ActIn W x

theorem ActIn.grow {W W1 : World} {x : ActV} (h : ActIn W x) (u : Upd (fun _ => False) W W1) : ActIn W1 x := by
  obtain ⟨h, q, c, hq⟩ := h
  have h2 := h.upd (fun _ hk => hk) (u.mono fun _ _ h => h.elim)
  refine ⟨⟨h2.n, h2.s, h2.k, ?_, h2.nil⟩, q, c, hq⟩
  obtain ⟨kb, hk, hkb⟩ := h2.keep
  exact ⟨kb, hk, hkb.imp (fun h => Nat.lt_of_lt_of_le h u.size) id⟩

theorem ActsAt.upd {S : Nat → Prop} {w w' : World} {v : Value} {l : List ActV} (h : ActsAt w v l) (u : Upd S w w') (hS : ∀ k, k < w.heap.size → ¬ S k) : ActsAt w' v l := by
  refine ⟨h.form, fun a c hv j hj => ?_⟩
  obtain ⟨kb, o, ha, hc⟩ := h.cells a c hv j hj
  refine ⟨kb, o, ha, fun i hi => ?_⟩
  have hlt := World.block_lt_of_cell? w _ (hc i hi)
  exact (World.cell?_of_block (w := w) (u.block kb hlt (hS kb hlt))).trans (hc i hi)

theorem ActsIn.grow {W W1 : World} {v : Value} {l : List ActV} (h : ActsIn W v l) (u : Upd (fun _ => False) W W1) : ActsIn W1 v l :=
  ⟨h.1.upd u (fun _ _ h => h), fun x hx => (h.2 x hx).grow u⟩

theorem ActsIn.few {W : World} {v : Value} {l : List ActV} (h : ActsIn W v l) : ∀ a ∈ l, a.s.size ≤ 140737488355328 ∧ ∃ q c, a.keep = .slice q a.ks.length c ∧ a.ks.length ≤ 17592186044416 := fun a ha => by
  obtain ⟨h1, q, c, hq⟩ := h.2 a ha
  exact ⟨h1.s, q, c, hq, h1.k⟩

theorem ActIn.ok {W : World} {x : ActV} (h : ActIn W x) {F : Nat → Prop} (hF : ∀ k, k < W.heap.size → F k) : ActOk F W x := by
  obtain ⟨kb, hk, hkb⟩ := h.1.keep
  exact ⟨h.1.n, h.1.s, h.1.k, ⟨kb, hk, hkb.imp (hF kb) id⟩, h.1.nil⟩

theorem actSum_take (l : List ActV) (k : Nat) : actSum (l.take k) ≤ actSum l := by
  have h : actSum l = actSum (l.take k) + actSum (l.drop k) := by
    unfold actSum
    rw [← List.sum_append, ← List.map_append, List.take_append_drop]
  omega

theorem Fit.acts {st : DSt} {l : List ActV} {k : Nat} (h : Fit st (actSum (l.take k))) (hk : k < l.length) (h1 : l[k].n ≤ 9223372036854775807) (h2 : l[k].ks.length ≤ 17592186044416) : Fit (st.act l[k]).2 (actSum (l.take (k + 1))) :=
  (h.act h1 h2).mono (by rw [actSum_snoc l k hk]; omega)

/-- A law's few: its acts are as they came in. -/
theorem few_at {F : Nat → Prop} {b : Nat} {w0 w : World} {st : DSt} {v : Value} {l : List ActV} (h : At F b w0 st w) (hl : ActsIn w0 v l) (hF : ∀ k, k < w0.heap.size → F k) :
    Calls Try.prog 10 #[v] w (fun e w' => (∃ r : Bool, e = .returned (.bool r) ∧ (r = true → FewOk l)) ∧ At F b w0 st w') :=
  (few_any v l w (h.acts hl.1 hF) hl.few).mono fun _ w' ⟨r, h1, h2, h3⟩ => ⟨⟨r, h1, h2⟩, fun k hk => Nat.lt_of_lt_of_le (h.1 k hk) h3.size, h.2.1.still h3, h.2.2.trans h3 fun _ _ h => h.elim⟩
end Go.Proofs.Ythfnnkfdpnkodaa
