/- DiskArms without the program: what the disk holds while calls are counted, and behind the crash. -/
import Derived.Test.YthfnnkfdpnkodaaIdle
namespace Go.Proofs.Ythfnnkfdpnkodaa
open Go.RowKit

theorem putL_end (l s : List UInt8) : putL l l.length s = l ++ s := by
  unfold putL
  simp

/-- What a crash may leave of a file: at least safe, behind it whatever was written, no longer than n. -/
def Tail (safe : List UInt8) (n : Nat) (r : List UInt8) : Prop := r.take safe.length = safe ∧ safe.length ≤ r.length ∧ r.length ≤ n

theorem Tail.put {safe : List UInt8} {n : Nat} {r : List UInt8} (h : Tail safe n r) {a : Nat} {t : List UInt8} (h1 : safe.length ≤ a) (h2 : a + t.length ≤ n) : Tail safe n (putL r a t) := by
  obtain ⟨ha, hb, hc⟩ := h
  have hl := putL_length r a t
  refine ⟨?_, by omega, by omega⟩
  apply List.ext_getElem?
  intro i
  rw [List.getElem?_take]
  split
  · rename_i hi
    rw [putL_get, if_pos (by omega), if_pos (by omega)]
    rw [← ha, List.getElem?_take_of_lt (by omega)]
  · rename_i hi
    rw [List.getElem?_eq_none (by omega)]

theorem Tail.crash {safe : List UInt8} {n : Nat} {ps : List Pc} {ks : List Int} {d : Nat → List UInt8} (hd : d 0 = safe) (hn : safe.length ≤ n) (hp : ∀ p ∈ ps, p.f = 0 ∧ safe.length ≤ p.at_ ∧ p.at_ + p.s.length ≤ n) :
    ∀ k, Tail safe n (crashN ps ks d k 0)
  | 0 => by
    show Tail safe n (d 0)
    rw [hd]
    exact ⟨List.take_length, Nat.le_refl _, hn⟩
  | k + 1 => by
    have ih := Tail.crash (ks := ks) hd hn hp k
    by_cases h1 : k < ps.length
    · by_cases h2 : k < ks.length
      · rw [crashN_succ d h1 h2]
        split
        · exact ih
        · obtain ⟨hf, ha, hb⟩ := hp _ (List.getElem_mem h1)
          rw [hf, up_same]
          have := keepText_le ks[k] ps[k].s
          exact ih.put ha (by omega)
      · rw [crashN_skip d (.inr (by omega))]; exact ih
    · rw [crashN_skip d (.inl (by omega))]; exact ih

structure ArmUp (st : DSt) (safe rest : List UInt8) (c n : Nat) (ks : List Int) : Prop where
  down : st.down = false
  lost : st.lost = 0
  armed : st.armed + c = n
  pos : 0 < st.armed
  keep : st.keep = ks
  dur : st.dur 0 = safe
  pend : ∀ p ∈ st.pend, p.f = 0 ∧ safe.length ≤ p.at_ ∧ p.at_ + p.s.length ≤ safe.length + rest.length
  text : applyP 0 st.pend safe = safe ++ rest

structure ArmDown (st : DSt) (safe rest : List UInt8) (ks : List Int) : Prop where
  down : st.down = true
  pend : st.pend = []
  text : Tail safe (safe.length + rest.length) (st.dur 0)
  none : ks = [] → st.dur 0 = safe

theorem ArmUp.tick {st : DSt} {safe rest : List UInt8} {c n : Nat} {ks : List Int} (h : ArmUp st safe rest c n ks) : st.tick = { st with armed := st.armed - 1 } := by
  unfold DSt.tick; rw [h.down]; rfl

theorem ArmUp.crashed {st : DSt} {safe rest : List UInt8} {ks : List Int} (hdur : st.dur 0 = safe) (hkeep : st.keep = ks) (hp : ∀ p ∈ st.pend, p.f = 0 ∧ safe.length ≤ p.at_ ∧ p.at_ + p.s.length ≤ safe.length + rest.length) :
    ArmDown (st.crash st.keep) safe rest ks := by
  refine ⟨rfl, rfl, Tail.crash (ks := st.keep) hdur (by omega) hp _, fun h => ?_⟩
  show crashN st.pend st.keep st.dur st.pend.length 0 = safe
  rw [hkeep, h, crashN_nil]
  exact hdur

theorem ArmUp.write {st : DSt} {safe rest : List UInt8} {c n : Nat} {ks : List Int} (h : ArmUp st safe rest c n ks) (s : List UInt8) (hs : safe.length + rest.length + s.length ≤ 16777216) :
    (c + 1 = n → (st.doWrite 0 ((safe.length : Int) + rest.length) s).1 = 8 ∧ ArmDown (st.doWrite 0 ((safe.length : Int) + rest.length) s).2 safe (rest ++ s) ks) ∧
    (c + 1 < n → (st.doWrite 0 ((safe.length : Int) + rest.length) s).1 = 0 ∧ ArmUp (st.doWrite 0 ((safe.length : Int) + rest.length) s).2 safe (rest ++ s) (c + 1) n ks) := by
  have ha := h.armed
  have hp := h.pos
  have hat : ((safe.length : Int) + rest.length).toNat = safe.length + rest.length := by omega
  have hw : st.tick.write 0 ((safe.length : Int) + rest.length) s = (0, st.tick.wrote 0 (safe.length + rest.length) s) := by
    unfold DSt.write
    rw [h.tick, show ({ st with armed := st.armed - 1 } : DSt).down = false from h.down, if_neg (by simp), if_neg (by omega), if_neg (by omega), if_neg (by omega), hat]
    rfl
  have hpend : (st.tick.wrote 0 (safe.length + rest.length) s).pend = st.pend ++ pieces 0 (safe.length + rest.length) s := by rw [h.tick]; rfl
  have hpp : ∀ p ∈ st.pend ++ pieces 0 (safe.length + rest.length) s, p.f = 0 ∧ safe.length ≤ p.at_ ∧ p.at_ + p.s.length ≤ safe.length + (rest ++ s).length := by
    intro p hp
    rw [List.length_append]
    rcases List.mem_append.1 hp with hp | hp
    · obtain ⟨h1, h2, h3⟩ := h.pend p hp
      exact ⟨h1, h2, by omega⟩
    · obtain ⟨h1, h2, h3, _⟩ := piecesF_good (f := 0) _ _ _ p hp
      exact ⟨h1, by omega, by omega⟩
  unfold DSt.doWrite
  rw [hw]
  constructor
  · intro hn
    have hf : st.fires = true := by unfold DSt.fires; rw [h.down, show st.armed = 1 by omega]; rfl
    rw [hf, if_pos rfl]
    refine ⟨rfl, ArmUp.crashed (by rw [h.tick]; exact h.dur) (by rw [h.tick]; exact h.keep) ?_⟩
    show ∀ p ∈ (st.tick.wrote 0 (safe.length + rest.length) s).pend, _
    rw [hpend]
    exact hpp
  · intro hn
    have hf : st.fires = false := by unfold DSt.fires; rw [h.down]; simp; omega
    rw [hf, if_neg (by simp)]
    refine ⟨rfl, ⟨by rw [h.tick]; exact h.down, by rw [h.tick]; exact h.lost, by rw [h.tick]; show st.armed - 1 + (c + 1) = n; omega, by rw [h.tick]; show 0 < st.armed - 1; omega, by rw [h.tick]; exact h.keep, by rw [h.tick]; exact h.dur, ?_, ?_⟩⟩
    · show ∀ p ∈ (st.tick.wrote 0 (safe.length + rest.length) s).pend, _
      rw [hpend]
      exact hpp
    · show applyP 0 (st.tick.wrote 0 (safe.length + rest.length) s).pend safe = _
      rw [hpend, applyP_append, h.text, apply_pieces]
      split
      · rename_i h0; rw [h0, List.append_nil]
      · rw [← List.length_append, putL_end, List.append_assoc]

theorem ArmUp.flush {st : DSt} {safe rest : List UInt8} {c n : Nat} {ks : List Int} (h : ArmUp st safe rest c n ks) :
    (c + 1 = n → (st.flush 0).1 = 8 ∧ ArmDown (st.flush 0).2 safe rest ks) ∧
    (c + 1 < n → (st.flush 0).1 = 0 ∧ ArmUp (st.flush 0).2 (safe ++ rest) [] (c + 1) n ks) := by
  have ha := h.armed
  have hp := h.pos
  unfold DSt.flush
  constructor
  · intro hn
    have hf : st.fires = true := by unfold DSt.fires; rw [h.down, show st.armed = 1 by omega]; rfl
    have hpre : st.pre = st.tick.crash st.tick.keep := by unfold DSt.pre; rw [hf]; rfl
    rw [hpre, show (st.tick.crash st.tick.keep).down = true from rfl, if_pos rfl]
    exact ⟨rfl, ArmUp.crashed (by rw [h.tick]; exact h.dur) (by rw [h.tick]; exact h.keep) (by rw [h.tick]; exact h.pend)⟩
  · intro hn
    have hf : st.fires = false := by unfold DSt.fires; rw [h.down]; simp; omega
    have hpre : st.pre = st.tick := by unfold DSt.pre; rw [hf]; rfl
    obtain ⟨s1, hs1⟩ : ∃ s1, s1 = st.tick := ⟨_, rfl⟩
    have e1 : s1.down = false := by rw [hs1, h.tick]; exact h.down
    have e2 : s1.lost = 0 := by rw [hs1, h.tick]; exact h.lost
    have e3 : s1.armed = st.armed - 1 := by rw [hs1, h.tick]
    have e4 : s1.keep = ks := by rw [hs1, h.tick]; exact h.keep
    have e5 : s1.dur 0 = safe := by rw [hs1, h.tick]; exact h.dur
    have e6 : s1.pend = st.pend := by rw [hs1, h.tick]
    rw [hpre, ← hs1, e1, if_neg (by simp), if_neg (by omega), e2, if_neg (by omega)]
    have hk : keepP 0 s1.pend = [] := by
      unfold keepP
      rw [List.filter_eq_nil_iff]
      intro p hp
      rw [e6] at hp
      simp [(h.pend p hp).1]
    refine ⟨rfl, ⟨e1, e2, by show s1.armed + (c + 1) = n; omega, by show 0 < s1.armed; omega, e4, ?_, fun p hp => ?_, ?_⟩⟩
    · show (s1.settle 0).dur 0 = _
      rw [settle_dur, e5, e6, h.text]
    · have hp' : p ∈ keepP 0 s1.pend := hp
      rw [hk] at hp'
      cases hp'
    · show applyP 0 (keepP 0 s1.pend) _ = _
      rw [hk, List.append_nil]; rfl

theorem ArmUp.read {st : DSt} {safe rest : List UInt8} {c n : Nat} {ks : List Int} (h : ArmUp st safe rest c n ks) : st.read 0 = (safe ++ rest, 0) ∧ c < n := by
  have ha := h.armed
  have hp := h.pos
  refine ⟨?_, by omega⟩
  unfold DSt.read
  rw [h.down, if_neg (by simp), if_neg (by unfold bad; omega)]
  show (applyP 0 st.pend (st.dur 0), 0) = _
  rw [h.dur, h.text]

theorem ArmDown.read {st : DSt} {safe rest : List UInt8} {ks : List Int} (h : ArmDown st safe rest ks) : ∃ r, st.start.read 0 = (r, 0) ∧ Tail safe (safe.length + rest.length) r ∧ (ks = [] → r = safe) := by
  refine ⟨st.dur 0, ?_, h.text, h.none⟩
  unfold DSt.read
  rw [if_neg (by simp [DSt.start]), if_neg (by unfold bad; omega)]
  show (applyP 0 st.pend (st.dur 0), 0) = _
  rw [h.pend]; rfl

theorem armUp0 (n : Nat) (hn : 0 < n) (ks : List Int) : ArmUp (st0.arm n ks) [] [] 0 n ks :=
  ⟨rfl, rfl, by show (n : Int).toNat + 0 = n; omega, by show 0 < (n : Int).toNat; omega, rfl, rfl, fun p hp => (by cases hp), rfl⟩
end Go.Proofs.Ythfnnkfdpnkodaa
