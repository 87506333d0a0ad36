/- DiskLasts without the program: what a crash may leave of a file. -/
import Derived.Test.YthfnnkfdpnkodaaIdle
namespace Go.Proofs.Ythfnnkfdpnkodaa
open Go.RowKit

/-- A pending write that is part of a write since. -/
def From (sn : List ActV) (p : Pc) : Prop := ∃ a ∈ sn, a.f = p.f ∧ 0 ≤ a.n ∧ a.n ≤ p.at_ ∧ ∀ j, j < p.s.length → p.s[j]? = a.s.data.toList[p.at_ - a.n.toNat + j]?

def ByteOk (safe : List UInt8) (sn : List ActV) (f : Nat) (i : Nat) (x : UInt8) : Prop :=
  (i < safe.length ∧ safe[i]? = some x) ∨ (safe.length ≤ i ∧ x = 0) ∨ ∃ a ∈ sn, a.f = f ∧ 0 ≤ a.n ∧ a.n ≤ i ∧ a.s.data.toList[i - a.n.toNat]? = some x

def Here (safe : List UInt8) (sn : List ActV) (f : Nat) (r : List UInt8) : Prop := safe.length ≤ r.length ∧ ∀ i x, r[i]? = some x → ByteOk safe sn f i x

theorem Here.refl (safe : List UInt8) (sn : List ActV) (f : Nat) : Here safe sn f safe :=
  ⟨Nat.le_refl _, fun i _ h => .inl ⟨(List.getElem?_eq_some_iff.1 h).1, h⟩⟩

theorem Here.put {safe : List UInt8} {sn : List ActV} {f : Nat} {r : List UInt8} (h : Here safe sn f r) {p : Pc} (hp : From sn p) (hf : p.f = f) (m : Nat) : Here safe sn f (putL r p.at_ (p.s.take m)) := by
  obtain ⟨hl, hb⟩ := h
  obtain ⟨a, ha, haf, hn0, hn, htx⟩ := hp
  refine ⟨by rw [putL_length]; omega, fun i x hx => ?_⟩
  rw [putL_get] at hx
  split at hx
  · split at hx
    · exact hb i x hx
    · exact .inr (.inl ⟨by omega, (Option.some.inj hx).symm⟩)
  · split at hx
    · rename_i h1 h2
      have ht : (p.s.take m).length ≤ p.s.length := by simp; omega
      have hlt : i - p.at_ < (p.s.take m).length := by omega
      have hm : i - p.at_ < m := by have : (p.s.take m).length ≤ m := by simp; omega
                                    omega
      rw [List.getElem?_take_of_lt hm, htx _ (by omega)] at hx
      refine .inr (.inr ⟨a, ha, by rw [haf, hf], hn0, by omega, ?_⟩)
      rw [show i - a.n.toNat = p.at_ - a.n.toNat + (i - p.at_) by omega]
      exact hx
    · exact hb i x hx

theorem keepText_take (c : Int) (s : List UInt8) : ∃ m, keepText c s = s.take m := by
  unfold keepText
  split
  · exact ⟨s.length, by rw [List.take_length]⟩
  · split
    · exact ⟨24, rfl⟩
    · exact ⟨0, by simp⟩

theorem Here.crash {safe : List UInt8} {sn : List ActV} {f : Nat} {ps : List Pc} {ks : List Int} {d : Nat → List UInt8} (hd : d f = safe) (hp : ∀ p ∈ ps, From sn p) : ∀ k, Here safe sn f (crashN ps ks d k f)
  | 0 => by
    show Here safe sn f (d f)
    rw [hd]
    exact Here.refl _ _ _
  | k + 1 => by
    have ih := Here.crash (ks := ks) hd hp k
    by_cases h1 : k < ps.length
    · by_cases h2 : k < ks.length
      · rw [crashN_succ d h1 h2]
        split
        · exact ih
        · by_cases e : ps[k].f = f
          · rw [← e, up_same]
            obtain ⟨m, hm⟩ := keepText_take ks[k] ps[k].s
            rw [hm]
            rw [e]
            exact ih.put (hp _ (List.getElem_mem h1)) e m
          · rw [up_other _ _ (fun h => e h.symm)]; exact ih
      · rw [crashN_skip (ps := ps) (ks := ks) d (.inr (by omega))]; exact ih
    · rw [crashN_skip (ps := ps) (ks := ks) d (.inl (by omega))]; exact ih

theorem crash_short {f : Nat} {ps : List Pc} {ks : List Int} {d : Nat → List UInt8} : ∀ k, k ≤ ps.length → (crashN ps ks d k f).length ≤ (applyP f (ps.take k) (d f)).length
  | 0, _ => Nat.le_refl _
  | k + 1, hk => by
    have ih := crash_short (f := f) (ps := ps) (ks := ks) (d := d) k (by omega)
    have h1 : k < ps.length := hk
    rw [applyP_snoc f ps k h1]
    have hmono : (applyP f (ps.take k) (d f)).length ≤ (if ps[k].f = f then putL (applyP f (ps.take k) (d f)) ps[k].at_ ps[k].s else applyP f (ps.take k) (d f)).length := by
      split
      · rw [putL_length]; omega
      · exact Nat.le_refl _
    by_cases h2 : k < ks.length
    · rw [crashN_succ d h1 h2]
      split
      · omega
      · by_cases e : ps[k].f = f
        · rw [← e, up_same, if_pos rfl, putL_length, putL_length]
          rw [← e] at ih
          have := keepText_le ks[k] ps[k].s
          omega
        · rw [up_other _ _ (fun h => e h.symm)]; omega
    · rw [crashN_skip (ps := ps) (ks := ks) d (.inr (by omega))]; omega

theorem piecesF_text (f : Nat) : ∀ (n a : Nat) (s : List UInt8), ∀ p ∈ piecesF f n a s, a ≤ p.at_ ∧ ∀ j, j < p.s.length → p.s[j]? = s[p.at_ - a + j]?
  | 0, _, _, p, hp => by simp [piecesF] at hp
  | n + 1, a, s, p, hp => by
    rw [piecesF_succ] at hp
    split at hp
    · cases hp
    · obtain ⟨m, hm⟩ : ∃ m, m = min s.length (64 - a % 64) := ⟨_, rfl⟩
      rw [← hm] at hp
      rcases List.mem_cons.1 hp with rfl | hp
      · refine ⟨Nat.le_refl _, fun j hj => ?_⟩
        have hj' : j < (s.take m).length := hj
        have : (s.take m).length ≤ m := by simp; omega
        show (s.take m)[j]? = s[a - a + j]?
        rw [List.getElem?_take_of_lt (by omega), Nat.sub_self, Nat.zero_add]
      · obtain ⟨h1, h2⟩ := piecesF_text f n (a + m) (s.drop m) p hp
        refine ⟨by omega, fun j hj => ?_⟩
        rw [h2 j hj, List.getElem?_drop]
        congr 1
        omega

theorem From.mono {sn sn' : List ActV} {p : Pc} (h : From sn p) (hs : ∀ a ∈ sn, a.f = p.f → a ∈ sn') : From sn' p := by
  obtain ⟨a, ha, hf, h⟩ := h
  exact ⟨a, hs a ha hf, hf, h⟩

/-- What a disk holds between the acts. -/
structure LInv (st : DSt) (safe : Nat → List UInt8) (sn : List ActV) : Prop where
  dur : ∀ f, f < 12 → st.dur f = safe f
  pend : ∀ p ∈ st.pend, p.f < 12 ∧ From sn p
  down : st.down = true → st.pend = []

/-- What it holds behind a crash. -/
structure LCrash (st : DSt) (safe : Nat → List UInt8) (sn : List ActV) : Prop where
  down : st.down = true
  pend : st.pend = []
  here : ∀ f, f < 12 → Here (safe f) sn f (st.dur f)

theorem LInv.mono {st : DSt} {safe : Nat → List UInt8} {sn sn' : List ActV} (h : LInv st safe sn) (hs : ∀ a ∈ sn, a ∈ sn') : LInv st safe sn' :=
  ⟨h.dur, fun p hp => ⟨(h.pend p hp).1, (h.pend p hp).2.mono fun a ha _ => hs a ha⟩, h.down⟩

theorem LInv.crash {st : DSt} {safe : Nat → List UInt8} {sn : List ActV} (h : LInv st safe sn) (ks : List Int) : LCrash (st.crash ks) safe sn :=
  ⟨rfl, rfl, fun f hf => Here.crash (h.dur f hf) (fun p hp => (h.pend p hp).2) _⟩

theorem LCrash.mono {st : DSt} {safe : Nat → List UInt8} {sn sn' : List ActV} (h : LCrash st safe sn) (hs : ∀ a ∈ sn, a ∈ sn') : LCrash st safe sn' :=
  ⟨h.down, h.pend, fun f hf => ⟨(h.here f hf).1, fun i x hx => ((h.here f hf).2 i x hx).imp id (Or.imp id fun ⟨a, ha, h⟩ => ⟨a, hs a ha, h⟩)⟩⟩

theorem LInv.tick {st : DSt} {safe : Nat → List UInt8} {sn : List ActV} (h : LInv st safe sn) : LInv st.tick safe sn := by
  unfold DSt.tick
  split
  · exact h
  · exact ⟨h.dur, h.pend, h.down⟩

theorem tick_down (st : DSt) : st.tick.down = st.down := by unfold DSt.tick; split <;> rfl

/-- The writes since, with a if it may have been performed. -/
def snNext (up : Bool) (a : ActV) (sn : List ActV) : List ActV := if pickN a.op ≤ 1 ∧ up = true ∧ 0 ≤ a.n ∧ a.n < 4000 then sn ++ [a] else sn

theorem LInv.write {st : DSt} {safe : Nat → List UInt8} {sn : List ActV} (h : LInv st safe sn) (a : ActV) (hk : pickN a.op ≤ 1) (hfew : a.n < 4000 ∨ 16777216 < a.n) :
    LInv (st.write a.f a.n a.s.data.toList).2 safe (snNext (!st.down) a sn) ∧ (st.write a.f a.n a.s.data.toList).2.down = st.down := by
  have hsub : ∀ x ∈ sn, x ∈ snNext (!st.down) a sn := fun x hx => by
    unfold snNext; split
    · exact List.mem_append_left _ hx
    · exact hx
  unfold DSt.write
  split
  · exact ⟨h.mono hsub, rfl⟩
  · rename_i hd
    split
    · exact ⟨h.mono hsub, rfl⟩
    · split
      · exact ⟨h.mono hsub, rfl⟩
      · split
        · exact ⟨h.mono hsub, rfl⟩
        · rename_i h1 h2 h3
          have hd' : st.down = false := by simpa using hd
          have hsn : snNext (!st.down) a sn = sn ++ [a] := by
            unfold snNext
            rw [if_pos ⟨hk, by rw [hd']; rfl, by omega, by omega⟩]
          rw [hsn]
          refine ⟨⟨h.dur, fun p hp => ?_, fun hdn => absurd hdn (by rw [show ((0, st.wrote a.f.toNat a.n.toNat a.s.data.toList) : Nat × DSt).2.down = st.down from rfl, hd']; simp)⟩, rfl⟩
          have hp' : p ∈ st.pend ++ pieces a.f.toNat a.n.toNat a.s.data.toList := hp
          rcases List.mem_append.1 hp' with hp' | hp'
          · exact ⟨(h.pend p hp').1, (h.pend p hp').2.mono fun x hx _ => List.mem_append_left _ hx⟩
          · obtain ⟨g1, g2, _⟩ := piecesF_good (f := a.f.toNat) _ _ _ p hp'
            obtain ⟨t1, t2⟩ := piecesF_text _ _ _ _ p hp'
            refine ⟨by omega, a, by simp, by omega, by omega, by omega, t2⟩

/-- What follows an act: a crash, or no crash. -/
def LNext (st st1 : DSt) (safe : Nat → List UInt8) (sn : List ActV) : Prop := (st.down = false ∧ st1.down = true → LCrash st1 safe sn) ∧ (¬ (st.down = false ∧ st1.down = true) → LInv st1 safe sn)

theorem LNext.same {st st1 : DSt} {safe : Nat → List UInt8} {sn : List ActV} (h : LInv st1 safe sn) (hd : st1.down = true → st.down = true) : LNext st st1 safe sn :=
  ⟨fun ⟨h1, h2⟩ => absurd (hd h2) (by rw [h1]; simp), fun _ => h⟩

theorem LNext.of_crash {st st1 : DSt} {safe : Nat → List UInt8} {sn : List ActV} (h : LCrash st1 safe sn) (hd : st.down = false) : LNext st st1 safe sn := ⟨fun _ => h, fun hn => absurd ⟨hd, h.down⟩ hn⟩

theorem LInv.doWrite {st : DSt} {safe : Nat → List UInt8} {sn : List ActV} (h : LInv st safe sn) (a : ActV) (hk : pickN a.op ≤ 1) (hfew : a.n < 4000 ∨ 16777216 < a.n) :
    LNext st (st.doWrite a.f a.n a.s.data.toList).2 safe (snNext (!st.down) a sn) := by
  have hw := h.tick.write a hk hfew
  rw [tick_down] at hw
  unfold DSt.doWrite
  split
  · rename_i hf
    have hd : st.down = false := by unfold DSt.fires at hf; simp at hf; exact hf.1
    exact LNext.of_crash (hw.1.crash _) hd
  · exact LNext.same hw.1 (by rw [hw.2]; exact id)

theorem LInv.pre {st : DSt} {safe : Nat → List UInt8} {sn : List ActV} (h : LInv st safe sn) : LNext st st.pre safe sn ∧ (st.pre.down = false → LInv st.pre safe sn) := by
  unfold DSt.pre
  split
  · rename_i hf
    have hd : st.down = false := by unfold DSt.fires at hf; simp at hf; exact hf.1
    exact ⟨LNext.of_crash (h.tick.crash _) hd, fun hx => absurd hx (by simp [DSt.crash])⟩
  · exact ⟨LNext.same h.tick (by rw [tick_down]; exact id), fun _ => h.tick⟩

theorem LInv.forget {st : DSt} {safe : Nat → List UInt8} {sn : List ActV} (h : LInv st safe sn) (hd : st.down = false) {f : Nat} {r : Nat → List UInt8} (hr : ∀ g, g < 12 → g ≠ f → r g = safe g) (l : List UInt8) (hl : r f = l) :
    LInv (DSt.forget { st with dur := up st.dur f l } f) r (sn.filter fun x => x.f ≠ f) := by
  refine ⟨fun g hg => ?_, fun p hp => ?_, fun hx => absurd hx (by rw [show (DSt.forget { st with dur := up st.dur f l } f).down = st.down from rfl, hd]; simp)⟩
  · show up st.dur f l g = r g
    by_cases e : g = f
    · rw [e, up_same, hl]
    · rw [up_other _ _ e, h.dur g hg, hr g hg e]
  · obtain ⟨h1, h2⟩ := keepP_mem (show p ∈ keepP f st.pend from hp)
    refine ⟨(h.pend p h1).1, (h.pend p h1).2.mono fun x hx hxf => List.mem_filter.2 ⟨hx, ?_⟩⟩
    simp only [ne_eq, decide_not, Bool.not_eq_true', decide_eq_false_iff_not]
    omega

theorem keepP_apply (f : Nat) (ps : List Pc) (l : List UInt8) : applyP f (keepP f ps) l = l := applyP_other _ _ fun p hp => (keepP_mem hp).2

def others (f : Nat) (sn : List ActV) : List ActV := sn.filter fun x => x.f ≠ f

theorem LInv.flush {st : DSt} {safe : Nat → List UInt8} {sn : List ActV} (h : LInv st safe sn) (f : Int) :
    ((st.flush f).1 = 0 → ∃ g : Nat, f = g ∧ g < 12 ∧ (st.flush f).2.down = false ∧ ((st.flush f).2.read f).2 = 0 ∧ LInv (st.flush f).2 (up safe g ((st.flush f).2.read f).1) (others g sn)) ∧ ((st.flush f).1 ≠ 0 → LNext st (st.flush f).2 safe sn) := by
  obtain ⟨hp1, hp2⟩ := h.pre
  unfold DSt.flush
  by_cases hd : st.pre.down = true
  · rw [if_pos hd]
    exact ⟨fun h => absurd h (by simp), fun _ => hp1⟩
  rw [if_neg hd]
  have hd' : st.pre.down = false := by simpa using hd
  by_cases hf : f < 0 ∨ 12 ≤ f
  · rw [if_pos hf]
    exact ⟨fun h => absurd h (by simp), fun _ => hp1⟩
  rw [if_neg hf]
  by_cases hl : 0 < st.pre.lost
  · rw [if_pos hl]
    exact ⟨fun h => absurd h (by simp), fun _ => ⟨fun hx => absurd hx.2 (by rw [show ({ st.pre with lost := st.pre.lost - 1 } : DSt).down = st.pre.down from rfl, hd']; simp), fun _ => ⟨(hp2 hd').dur, (hp2 hd').pend, (hp2 hd').down⟩⟩⟩
  rw [if_neg hl]
  obtain ⟨g, rfl⟩ := Int.eq_ofNat_of_zero_le (show 0 ≤ f by omega)
  rw [Int.toNat_natCast]
  have hrd : (st.pre.settle g).read (g : Int) = (applyP g st.pre.pend (st.pre.dur g), 0) := by
    unfold DSt.read
    rw [show (st.pre.settle g).down = st.pre.down from rfl, hd', if_neg (by simp), if_neg (by unfold bad; omega)]
    show (applyP g (keepP g st.pre.pend) ((st.pre.settle g).dur g), 0) = _
    rw [keepP_apply, settle_dur]
  refine ⟨fun _ => ⟨g, rfl, by omega, hd', by rw [hrd], ?_⟩, fun h => absurd rfl h⟩
  show LInv (st.pre.settle g) (up safe g ((st.pre.settle g).read (g : Int)).1) _
  rw [hrd]
  exact (hp2 hd').forget hd' (fun k _ hk => up_other _ _ hk) _ (up_same _ _ _)

theorem LInv.cut {st : DSt} {safe : Nat → List UInt8} {sn : List ActV} (h : LInv st safe sn) (f n : Int) :
    ((st.cut f n).1 = 0 → ∃ g : Nat, f = g ∧ g < 12 ∧ (st.cut f n).2.down = false ∧ ((st.cut f n).2.read f).2 = 0 ∧ LInv (st.cut f n).2 (up safe g ((st.cut f n).2.read f).1) (others g sn)) ∧ ((st.cut f n).1 ≠ 0 → LNext st (st.cut f n).2 safe sn) := by
  obtain ⟨hp1, hp2⟩ := h.pre
  unfold DSt.cut
  by_cases hd : st.pre.down = true
  · rw [if_pos hd]
    exact ⟨fun h => absurd h (by simp), fun _ => hp1⟩
  rw [if_neg hd]
  have hd' : st.pre.down = false := by simpa using hd
  by_cases hf : f < 0 ∨ 12 ≤ f
  · rw [if_pos hf]
    exact ⟨fun h => absurd h (by simp), fun _ => hp1⟩
  rw [if_neg hf]
  by_cases hl : n < 0 ∨ (st.pre.siz f.toNat : Int) < n
  · rw [if_pos hl]
    exact ⟨fun h => absurd h (by simp), fun _ => hp1⟩
  rw [if_neg hl]
  obtain ⟨g, rfl⟩ := Int.eq_ofNat_of_zero_le (show 0 ≤ f by omega)
  rw [Int.toNat_natCast]
  have hrd : (st.pre.cutTo g n.toNat).read (g : Int) = ((applyP g st.pre.pend (st.pre.dur g)).take n.toNat, 0) := by
    unfold DSt.read
    rw [show (st.pre.cutTo g n.toNat).down = st.pre.down from rfl, hd', if_neg (by simp), if_neg (by unfold bad; omega)]
    show (applyP g (keepP g st.pre.pend) (up (st.pre.settle g).dur g (((st.pre.settle g).dur g).take n.toNat) g), 0) = _
    rw [keepP_apply, up_same, settle_dur]
  refine ⟨fun _ => ⟨g, rfl, by omega, hd', by rw [hrd], ?_⟩, fun h => absurd rfl h⟩
  show LInv (st.pre.cutTo g n.toNat) (up safe g ((st.pre.cutTo g n.toNat).read (g : Int)).1) _
  rw [hrd]
  have hk := (hp2 hd').forget hd' (f := g) (r := up safe g ((applyP g st.pre.pend (st.pre.dur g)).take n.toNat)) (fun k _ hk => up_other _ _ hk) ((applyP g st.pre.pend (st.pre.dur g)).take n.toNat) (up_same _ _ _)
  refine ⟨fun k hk2 => ?_, hk.pend, hk.down⟩
  have := hk.dur k hk2
  show up (st.pre.settle g).dur g (((st.pre.settle g).dur g).take n.toNat) k = _
  rw [settle_dur, ← this]
  show up (up st.pre.dur g _) g _ k = up st.pre.dur g _ k
  rw [up_up]

theorem LInv.turn {st : DSt} {safe : Nat → List UInt8} {sn : List ActV} (h : LInv st safe sn) (f g : Int) :
    ((st.turn f g).1 = 0 → ∃ i j : Nat, f = i ∧ g = j ∧ i < 12 ∧ j < 12 ∧ i ≠ j ∧ (st.turn f g).2.down = false ∧ LInv (st.turn f g).2 (up (up safe i (safe j)) j []) (others j (others i sn))) ∧ ((st.turn f g).1 ≠ 0 → LNext st (st.turn f g).2 safe sn) := by
  obtain ⟨hp1, hp2⟩ := h.pre
  unfold DSt.turn
  by_cases hd : st.pre.down = true
  · rw [if_pos hd]
    exact ⟨fun h => absurd h (by simp), fun _ => hp1⟩
  rw [if_neg hd]
  have hd' : st.pre.down = false := by simpa using hd
  by_cases hf : bad f ∨ bad g
  · rw [if_pos hf]
    exact ⟨fun h => absurd h (by simp), fun _ => hp1⟩
  rw [if_neg hf]
  by_cases he : f = g
  · rw [if_pos he]
    exact ⟨fun h => absurd h (by simp), fun _ => hp1⟩
  rw [if_neg he]
  by_cases hq : ∃ p ∈ st.pre.pend, p.f = g.toNat
  · rw [if_pos hq]
    exact ⟨fun h => absurd h (by simp), fun _ => hp1⟩
  rw [if_neg hq]
  unfold bad at hf
  obtain ⟨i, rfl⟩ := Int.eq_ofNat_of_zero_le (show 0 ≤ f by omega)
  obtain ⟨j, rfl⟩ := Int.eq_ofNat_of_zero_le (show 0 ≤ g by omega)
  rw [Int.toNat_natCast, Int.toNat_natCast]
  refine ⟨fun _ => ⟨i, j, rfl, rfl, by omega, by omega, by omega, hd', ?_⟩, fun h => absurd rfl h⟩
  have hi := hp2 hd'
  refine ⟨fun k hk => ?_, fun p hp => ?_, fun hx => absurd (show st.pre.down = true from hx) (by rw [hd']; simp)⟩
  · show up (up st.pre.dur i (st.pre.dur j)) j [] k = _
    by_cases e1 : k = j
    · rw [e1, up_same, up_same]
    · rw [up_other _ _ e1, up_other _ _ e1]
      by_cases e2 : k = i
      · rw [e2, up_same, up_same, hi.dur j (by omega)]
      · rw [up_other _ _ e2, up_other _ _ e2, hi.dur k hk]
  · have hp' : p ∈ keepP j (keepP i st.pre.pend) := hp
    obtain ⟨h1, h2⟩ := keepP_mem hp'
    obtain ⟨h3, h4⟩ := keepP_mem h1
    refine ⟨(hi.pend p h3).1, (hi.pend p h3).2.mono fun x hx hxf => ?_⟩
    unfold others
    refine List.mem_filter.2 ⟨List.mem_filter.2 ⟨hx, ?_⟩, ?_⟩
    · simp only [ne_eq, decide_not, Bool.not_eq_true', decide_eq_false_iff_not]; omega
    · simp only [ne_eq, decide_not, Bool.not_eq_true', decide_eq_false_iff_not]; omega

/-- An act, of whatever kind, that is not an OK of Flush, Cut or Turn. -/
theorem LInv.act {st : DSt} {safe : Nat → List UInt8} {sn : List ActV} (h : LInv st safe sn) (a : ActV) (hfew : a.n < 4000 ∨ 16777216 < a.n)
    (hno : 2 ≤ pickN a.op → pickN a.op ≤ 4 → (st.act a).1.2 ≠ 0) : LNext st (st.act a).2 safe (snNext (!st.down) a sn) := by
  have hr := pickN_range a.op
  by_cases h1 : pickN a.op ≤ 1
  · unfold DSt.act
    rw [if_pos h1]
    exact h.doWrite a h1 hfew
  have hsn : snNext (!st.down) a sn = sn := by unfold snNext; rw [if_neg (fun h => h1 h.1)]
  rw [hsn]
  unfold DSt.act at hno ⊢
  rw [if_neg h1] at hno ⊢
  by_cases h2 : pickN a.op = 2
  · rw [if_pos h2] at hno ⊢
    exact (h.flush a.f).2 (hno (by omega) (by omega))
  rw [if_neg h2] at hno ⊢
  by_cases h3 : pickN a.op = 3
  · rw [if_pos h3] at hno ⊢
    exact (h.cut a.f a.n).2 (hno (by omega) (by omega))
  rw [if_neg h3] at hno ⊢
  by_cases h4 : pickN a.op = 4
  · rw [if_pos h4] at hno ⊢
    exact (h.turn a.f a.g).2 (hno (by omega) (by omega))
  rw [if_neg h4]
  by_cases h5 : pickN a.op = 5
  · rw [if_pos h5]
    show LNext st (st.doCrash a.ks) safe sn
    unfold DSt.doCrash
    split
    · exact LNext.same h id
    · rename_i hd
      exact LNext.of_crash (h.crash _) (by simpa using hd)
  rw [if_neg h5]
  by_cases h6 : pickN a.op = 6
  · rw [if_pos h6]
    exact LNext.same ⟨h.dur, h.pend, h.down⟩ id
  rw [if_neg h6]
  by_cases h7 : pickN a.op = 7
  · rw [if_pos h7]
    exact LNext.same (st1 := st.start) ⟨h.dur, h.pend, fun hx => absurd hx (by simp [DSt.start])⟩ (fun hx => absurd hx (by simp [DSt.start]))
  rw [if_neg h7]
  by_cases h8 : pickN a.op = 8
  · rw [if_pos h8]
    exact LNext.same h id
  rw [if_neg h8]
  by_cases h10 : pickN a.op = 10
  · rw [if_pos h10]
    exact LNext.same (st1 := st.arm a.n a.ks) ⟨h.dur, h.pend, h.down⟩ id
  rw [if_neg h10]
  exact LNext.same h id

/-- Behind a crash: each file may be read, and the machine is taken down again. -/
theorem LCrash.read {st : DSt} {safe : Nat → List UInt8} {sn : List ActV} (h : LCrash st safe sn) (f : Nat) (hf : f < 12) : st.start.read f = (st.dur f, 0) ∧ Here (safe f) sn f (st.dur f) := by
  refine ⟨?_, h.here f hf⟩
  unfold DSt.read
  rw [if_neg (by simp [DSt.start]), if_neg (by unfold bad; omega)]
  show (applyP f st.pend (st.dur f), 0) = _
  rw [h.pend]; rfl

theorem LCrash.again {st : DSt} {safe : Nat → List UInt8} {sn : List ActV} (h : LCrash st safe sn) (safe' : Nat → List UInt8) (hs : ∀ f, f < 12 → safe' f = st.dur f) : LInv (st.start.doCrash []) safe' [] := by
  unfold DSt.doCrash
  rw [if_neg (by simp [DSt.start])]
  refine ⟨fun f hf => ?_, fun p hp => (by cases hp), fun _ => rfl⟩
  show crashN st.start.pend [] st.start.dur _ f = _
  rw [crashN_nil, hs f hf]
  rfl

/-- The last crash. -/
theorem LInv.last {st : DSt} {safe : Nat → List UInt8} {sn : List ActV} (h : LInv st safe sn) (hg : DGood st) (hd : st.down = false) (ks : List Int) (f : Nat) (hf : f < 12) :
    (st.doCrash ks).start.read f = ((st.doCrash ks).dur f, 0) ∧ Here (safe f) sn f ((st.doCrash ks).dur f) ∧ ((st.doCrash ks).dur f).length ≤ st.siz f := by
  have e : st.doCrash ks = st.crash ks := by unfold DSt.doCrash; rw [hd]; rfl
  rw [e]
  obtain ⟨h1, h2⟩ := (h.crash ks).read f hf
  refine ⟨h1, h2, ?_⟩
  rw [hg.siz f hf]
  have := crash_short (f := f) (ks := ks) (d := st.dur) st.pend.length (Nat.le_refl _)
  rw [List.take_length] at this
  exact this
end Go.Proofs.Ythfnnkfdpnkodaa
