/- Turn. -/
import Derived.Test.YthfnnkfdpnkodaaCut
namespace Go.Proofs.Ythfnnkfdpnkodaa
open Go.RowKit

def bad (f : Int) : Prop := f < 0 ∨ 12 ≤ f
instance (f : Int) : Decidable (bad f) := by unfold bad; exact inferInstance

def DSt.swap (st : DSt) (f g : Nat) : DSt := { st with dur := up (up st.dur f (st.dur g)) g [] }

def DSt.turn (st : DSt) (f g : Int) : Nat × DSt :=
  if st.pre.down then (8, st.pre) else if bad f ∨ bad g then (1, st.pre) else if f = g then (1, st.pre)
  else if ∃ p ∈ st.pre.pend, p.f = g.toNat then (7, st.pre) else (0, ((st.pre.swap f.toNat g.toNat).forget f.toNat).forget g.toNat)

theorem check_two (b nb c : Nat) (f g : Int) (w : World) (h0 : w.cell? ⟨b, 25, none⟩ = some (.bool false)) (h1 : w.cell? ⟨nb, 0, none⟩ = some (.int .i64 f)) (h2 : w.cell? ⟨nb, 1, none⟩ = some (.int .i64 g)) (r : Int) (hr : (bad f ∨ bad g) ∧ r = 1 ∨ (¬ bad f ∧ ¬ bad g) ∧ r = 0) :
    Calls Try.prog 34 #[dptr b, .slice (some ⟨nb, 0, none⟩) 2 c] w fun e w' => e = .returned (.int .i64 r) ∧ w = w' := by
  unfold bad at hr
  rcases hr with ⟨h, rfl⟩ | ⟨⟨h, h'⟩, rfl⟩
  · by_cases ha : f < 0
    · clear h
      go_enter Try.func34, Try.ntmps34
      go_wp2
      refine wp_loop_rounds 3 ?_
      rw [rounds_succ]
      go_wp2
      go_ret
      exact ⟨rfl, rfl⟩
    · by_cases hb : 12 ≤ f
      · clear h
        go_enter Try.func34, Try.ntmps34
        go_wp2
        refine wp_loop_rounds 3 ?_
        rw [rounds_succ]
        go_wp2
        go_ret
        exact ⟨rfl, rfl⟩
      · have hf0 : 0 ≤ f := by omega
        have hf1 : f < 12 := by omega
        by_cases hg : g < 0
        · clear h ha hb
          go_enter Try.func34, Try.ntmps34
          go_wp2
          refine wp_loop_rounds 3 ?_
          rw [rounds_succ]
          go_wp2
          rw [rounds_succ]
          go_wp2
          go_ret
          exact ⟨rfl, rfl⟩
        · have hg1 : 12 ≤ g := by omega
          clear h ha hb hg
          go_enter Try.func34, Try.ntmps34
          go_wp2
          refine wp_loop_rounds 3 ?_
          rw [rounds_succ]
          go_wp2
          rw [rounds_succ]
          go_wp2
          go_ret
          exact ⟨rfl, rfl⟩
  · have hf0 : 0 ≤ f := by omega
    have hf1 : f < 12 := by omega
    have hg0 : 0 ≤ g := by omega
    have hg1 : g < 12 := by omega
    clear h h'
    go_enter Try.func34, Try.ntmps34
    go_wp2
    refine wp_loop_rounds 3 ?_
    rw [rounds_succ]
    go_wp2
    rw [rounds_succ]
    go_wp2
    rw [rounds_succ]
    go_wp2
    go_ret
    exact ⟨rfl, rfl⟩

theorem DRep.swap {w : World} {b : Nat} {own : Nat → Option Nat} {dv : Nat → Value} {pv kv : Value} {st : DSt} (h : DRep w b own dv pv kv st) {f g : Nat} (hf : f < 12) (hg : g < 12) (hne : f ≠ g) :
    DRep ((w.setCell ⟨b, f * 2, none⟩ (dv g)).setCell ⟨b, g * 2, none⟩ (.slice none 0 0)) b (up (up own f (own g)) g none) (up (up dv f (dv g)) g (.slice none 0 0)) pv kv (st.swap f g) := by
  have hoth : ∀ k, k ≠ b → ((w.setCell ⟨b, f * 2, none⟩ (dv g)).setCell ⟨b, g * 2, none⟩ (.slice none 0 0)).heap[k]? = w.heap[k]? := fun k hk => by
    rw [heap_setCell_other _ _ _ _ hk, heap_setCell_other _ _ _ _ hk]
  have ho : ∀ j k, j < 14 → up (up own f (own g)) g none j = some k → (j = f ∧ own g = some k) ∨ (j ≠ f ∧ j ≠ g ∧ own j = some k) := by
    intro j k hj hk
    by_cases e1 : j = g
    · rw [e1, up_same] at hk; cases hk
    · rw [up_other _ _ e1] at hk
      by_cases e2 : j = f
      · rw [e2, up_same] at hk; exact .inl ⟨e2, hk⟩
      · rw [up_other _ _ e2] at hk; exact .inr ⟨e2, e1, hk⟩
  refine ⟨?_, fun j hj => ?_, ?_, ?_, ?_, ?_⟩
  · have h1 := (h.blk.set (f * 2) (dv g)).set (g * 2) (.slice none 0 0)
    rw [dcells_set (fun i hi => dcell_dur hf (dv g) (st.dur g) i hi), dcells_set (fun i hi => dcell_dur (st := { st with dur := up st.dur f (st.dur g) }) hg (.slice none 0 0) [] i hi)] at h1
    exact h1
  · show Row _ _ 1 _ _ (up (up st.dur f (st.dur g)) g [] j).length (bytesV (up (up st.dur f (st.dur g)) g [] j))
    by_cases e1 : j = g
    · rw [e1, up_same, up_same, up_same]; exact Row.empty _ _ _
    · rw [up_other _ _ e1, up_other _ _ e1, up_other _ _ e1]
      by_cases e2 : j = f
      · rw [e2, up_same, up_same, up_same]
        exact (h.dur g hg).of_heap fun k hk => hoth k (fun e => h.notb g (by omega) (e ▸ hk))
      · rw [up_other _ _ e2, up_other _ _ e2, up_other _ _ e2]
        exact (h.dur j hj).of_heap fun k hk => hoth k (fun e => h.notb j (by omega) (e ▸ hk))
  · rw [up_other _ _ (by omega), up_other _ _ (by omega)]
    exact h.pend.of_heap fun k hk => hoth k (fun e => h.notb 12 (by omega) (e ▸ hk))
  · rw [up_other _ _ (by omega), up_other _ _ (by omega)]
    exact h.keep.of_heap fun k hk => hoth k (fun e => h.notb 13 (by omega) (e ▸ hk))
  · intro i j k hi hj h1 h2
    rcases ho i k hi h1 with ⟨e1, h1⟩ | ⟨e1, e1', h1⟩ <;> rcases ho j k hj h2 with ⟨e2, h2⟩ | ⟨e2, e2', h2⟩
    · omega
    · exact absurd (h.apart g j k (by omega) hj h1 h2) (by omega)
    · exact absurd (h.apart i g k hi (by omega) h1 h2) (by omega)
    · exact h.apart i j k hi hj h1 h2
  · intro i hi h1
    rcases ho i b hi h1 with ⟨_, h1⟩ | ⟨_, _, h1⟩
    · exact h.notb g (by omega) h1
    · exact h.notb i hi h1

/-- What the pending list's rows need of a state's lengths before 'forget'. -/
theorem turn_good {st : DSt} (h : DGood st) (f g : Int) : DGood (st.turn f g).2 := by
  have hp := pre_good h
  unfold DSt.turn
  split
  · exact hp
  · split
    · exact hp
    · split
      · exact hp
      · split
        · exact hp
        · rename_i hb _ _
          have hf : f.toNat < 12 := by unfold bad at hb; omega
          have hg : g.toNat < 12 := by unfold bad at hb; omega
          generalize f.toNat = f' at *
          generalize g.toNat = g' at *
          refine ⟨fun j hj => ?_, fun j hj => ?_, fun p hq => hp.pend p (keepP_mem (keepP_mem hq).1).1, hp.lost, hp.armed⟩
          · show (up (up st.pre.dur f' (st.pre.dur g')) g' [] j).length ≤ _
            by_cases e1 : j = g'
            · rw [e1, up_same]; simp
            · rw [up_other _ _ e1]
              by_cases e2 : j = f'
              · rw [e2, up_same]; exact hp.dur g' hg
              · rw [up_other _ _ e2]; exact hp.dur j hj
          · show up (up st.pre.siz f' (up (up st.pre.dur f' (st.pre.dur g')) g' [] f').length) g' (up (up st.pre.dur f' (st.pre.dur g')) g' [] g').length j = (applyP j (keepP g' (keepP f' st.pre.pend)) (up (up st.pre.dur f' (st.pre.dur g')) g' [] j)).length
            by_cases e1 : j = g'
            · rw [e1, up_same, up_same, applyP_other _ _ fun p hq => (keepP_mem hq).2]
            · rw [up_other _ _ e1, applyP_keepP e1]
              by_cases e2 : j = f'
              · rw [e2, up_same, applyP_other _ _ fun p hq => (keepP_mem hq).2]
              · rw [up_other _ _ e2, applyP_keepP e2, up_other _ _ e1, up_other _ _ e2]
                exact hp.siz j hj
end Go.Proofs.Ythfnnkfdpnkodaa
