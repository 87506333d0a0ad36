/- Write, Flush, Crash, Start, Lose, Size, Down as methods of a disk. -/
import Derived.Test.YthfnnkfdpnkodaaOps
namespace Go.Proofs.Ythfnnkfdpnkodaa
open Go.RowKit

def DSt.doWrite (st : DSt) (f at_ : Int) (s : List UInt8) : Nat × DSt :=
  if st.fires then (8, (st.tick.write f at_ s).2.crash (st.tick.write f at_ s).2.keep) else st.tick.write f at_ s

theorem tick_good {st : DSt} (h : DGood st) : DGood st.tick := by
  unfold DSt.tick
  split
  · exact h
  · exact ⟨h.dur, h.siz, h.pend, h.lost, by have := h.armed; show st.armed - 1 ≤ _; omega⟩

theorem tick_pend (st : DSt) : st.tick.pend = st.pend := by unfold DSt.tick; split <;> rfl

theorem piecesF_good {f : Nat} : ∀ (n at_ : Nat) (s : List UInt8), ∀ p ∈ piecesF f n at_ s, p.f = f ∧ at_ ≤ p.at_ ∧ p.at_ + p.s.length ≤ at_ + s.length ∧ p.s ≠ [] ∧ p.s.length ≤ 64
  | 0, _, _, p, hp => by simp [piecesF] at hp
  | n + 1, at_, s, p, hp => by
    rw [piecesF_succ] at hp
    split at hp
    · cases hp
    · rename_i hs
      have hl : 0 < s.length := List.length_pos_iff.2 hs
      have h64 : 0 < 64 - at_ % 64 := by omega
      rcases List.mem_cons.1 hp with rfl | hp
      · refine ⟨rfl, Nat.le_refl _, by simp only [List.length_take]; omega, fun h => ?_, by simp only [List.length_take]; omega⟩
        have := congrArg List.length h
        simp only [List.length_take, List.length_nil] at this; omega
      · obtain ⟨h1, h2, h3, h4, h5⟩ := piecesF_good n _ _ p hp
        rw [List.length_drop] at h3
        exact ⟨h1, by omega, by omega, h4, h5⟩

theorem applyP_append (f : Nat) (ps qs : List Pc) (l : List UInt8) : applyP f (ps ++ qs) l = applyP f qs (applyP f ps l) := by unfold applyP; rw [List.foldl_append]

theorem applyP_other {f : Nat} : ∀ (ps : List Pc) (l : List UInt8), (∀ p ∈ ps, p.f ≠ f) → applyP f ps l = l
  | [], _, _ => rfl
  | p :: ps, l, h => by
    show applyP f ps (if p.f = f then putL l p.at_ p.s else l) = l
    rw [if_neg (h p (by simp))]
    exact applyP_other ps l fun q hq => h q (by simp [hq])

theorem pieces_len {f : Nat} : ∀ (n at_ : Nat) (s : List UInt8) (l : List UInt8), s.length ≤ n → (applyP f (piecesF f n at_ s) l).length = if s = [] then l.length else max l.length (at_ + s.length)
  | 0, at_, s, l, h => by
    have : s = [] := List.eq_nil_of_length_eq_zero (by omega)
    subst this; rfl
  | n + 1, at_, s, l, h => by
    rw [piecesF_succ]
    split
    · rfl
    · rename_i hs
      have hl : 0 < s.length := List.length_pos_iff.2 hs
      have h64 : 0 < 64 - at_ % 64 := by omega
      show (applyP f (piecesF f n _ _) (if f = f then putL l at_ (s.take (min s.length (64 - at_ % 64))) else l)).length = _
      rw [if_pos rfl, pieces_len n _ _ _ (by rw [List.length_drop]; omega), putL_length, List.length_take, List.length_drop]
      split
      · rename_i hd
        have := congrArg List.length hd
        rw [List.length_drop, List.length_nil] at this; omega
      · rename_i hd
        have : s.length - min s.length (64 - at_ % 64) ≠ 0 := fun h => hd (List.eq_nil_of_length_eq_zero (by rw [List.length_drop]; exact h))
        omega

theorem write_good {st : DSt} (h : DGood st) (f at_ : Int) (s : List UInt8) : DGood (st.write f at_ s).2 := by
  unfold DSt.write
  split
  · exact h
  · split
    · exact h
    · rename_i hf
      split
      · exact h
      · rename_i ha
        split
        · exact h
        · rename_i hm
          obtain ⟨f', rfl⟩ := Int.eq_ofNat_of_zero_le (show 0 ≤ f by omega)
          obtain ⟨a', rfl⟩ := Int.eq_ofNat_of_zero_le (show 0 ≤ at_ by omega)
          simp only [Int.toNat_natCast]
          refine ⟨h.dur, fun g hg => ?_, fun p hp => ?_, h.lost, h.armed⟩
          · show up st.siz f' _ g = (applyP g (st.pend ++ pieces f' a' s) (st.dur g)).length
            rw [applyP_append]
            by_cases e : g = f'
            · subst e
              rw [up_same, pieces, pieces_len _ _ _ _ (Nat.le_refl _), h.siz g hg]
            · rw [up_other _ _ e, applyP_other _ _ (fun p hp => by rw [(piecesF_good _ _ _ p hp).1]; omega)]
              exact h.siz g hg
          · rcases List.mem_append.1 hp with hp | hp
            · exact h.pend p hp
            · obtain ⟨h1, _, h3, h4, h5⟩ := piecesF_good _ _ _ p hp
              exact ⟨by omega, by omega, h4, h5⟩

set_option maxHeartbeats 800000 in
theorem Write_any (b : Nat) (f at_ : Int) (s : ByteArray) (D : Nat → Prop) (st : DSt) (w : World) (h : Disk w b D st) (hg : DGood st) (hp : st.pend.length ≤ 1099511627776) (hss : s.size ≤ 140737488355328) :
    Calls Try.prog 21 #[dptr b, .int .i64 f, .int .i64 at_, .string s] w (Moved b D w (.int .i64 ((st.doWrite f at_ s.data.toList).1 : Nat)) (st.doWrite f at_ s.data.toList).2) := by
  have htg := tick_good hg
  have htp : st.tick.pend.length ≤ 1099511627776 := by rw [tick_pend]; exact hp
  have hwg := write_good htg f at_ s.data.toList
  cases hfi : st.fires with
  | false =>
    have hw : st.doWrite f at_ s.data.toList = st.tick.write f at_ s.data.toList := by unfold DSt.doWrite; rw [hfi]; rfl
    rw [hw]
    have HF := Lib.hid hfi
    clear hfi hw hwg
    go_enter Try.func21, Try.ntmps21
    go_wp2_with fail
    refine (fires_disk b D st w h hg).mono ?_
    rintro e w1 ⟨rfl, h1, hu1⟩
    rw [HF.out]
    go_wp2_with fail
    refine (write_any b f at_ s D st.tick w1 h1 htg htp hss).mono ?_
    intro e w2 hm
    obtain ⟨rfl, h2, hu2⟩ := hm
    go_wp2
    go_ret
    exact Moved.then hu1 ⟨rfl, h2, hu2⟩
  | true =>
    have hw : st.doWrite f at_ s.data.toList = (8, (st.tick.write f at_ s.data.toList).2.crash (st.tick.write f at_ s.data.toList).2.keep) := by unfold DSt.doWrite; rw [hfi]; rfl
    rw [hw]
    have HF := Lib.hid hfi
    clear hfi hw
    go_enter Try.func21, Try.ntmps21
    go_wp2_with fail
    refine (fires_disk b D st w h hg).mono ?_
    rintro e w1 ⟨rfl, h1, hu1⟩
    rw [HF.out]
    go_wp2_with fail
    refine (write_any b f at_ s D st.tick w1 h1 htg htp hss).mono ?_
    intro e w2 hm
    obtain ⟨rfl, h2, hu2⟩ := hm
    obtain ⟨own, dv, pv, kv, hr2, hb2, ho2⟩ := h2
    have c28 := hr2.ckeep
    obtain ⟨ka, kc, rfl, _, _⟩ := hr2.keep.form
    go_wp2_with fail
    refine (crashKeep hr2 hb2 ho2 hwg).mono ?_
    intro e w3 hm
    obtain ⟨rfl, h3, hu3⟩ := hm
    go_wp2
    go_ret
    exact Moved.then hu1 (Moved.then' hu2 ⟨rfl, h3, hu3⟩)
end Go.Proofs.Ythfnnkfdpnkodaa
