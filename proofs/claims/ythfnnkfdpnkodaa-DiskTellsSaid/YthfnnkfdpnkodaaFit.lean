/- The bounds of a disk behind each method. -/
import Derived.Test.YthfnnkfdpnkodaaApi
namespace Go.Proofs.Ythfnnkfdpnkodaa
open Go.RowKit

theorem piecesF_count (f : Nat) : ∀ (n at_ : Nat) (s : List UInt8), (piecesF f n at_ s).length ≤ s.length
  | 0, _, _ => Nat.zero_le _
  | n + 1, at_, s => by
    rw [piecesF_succ]
    split
    · exact Nat.zero_le _
    · rename_i h
      have hl : 0 < s.length := List.length_pos_iff.2 h
      have := piecesF_count f n (at_ + min s.length (64 - at_ % 64)) (s.drop (min s.length (64 - at_ % 64)))
      rw [List.length_drop] at this
      rw [List.length_cons]
      have : 0 < 64 - at_ % 64 := by omega
      omega

theorem keepP_count (f : Nat) (ps : List Pc) : (keepP f ps).length ≤ ps.length := by unfold keepP; exact List.length_filter_le _ _

section
variable {st : DSt} {n : Nat} (h : Fit st n)
include h

theorem Fit.mono {m : Nat} (hm : n ≤ m) : Fit st m := ⟨h.good, Nat.le_trans h.pend hm, h.keep⟩
theorem Fit.start : Fit st.start n := ⟨⟨h.good.dur, h.good.siz, h.good.pend, h.good.lost, h.good.armed⟩, h.pend, h.keep⟩
theorem Fit.lose {m : Int} (hm : m ≤ 9223372036854775807) : Fit (st.lose m) n := ⟨⟨h.good.dur, h.good.siz, h.good.pend, by show m.toNat ≤ _; omega, h.good.armed⟩, h.pend, h.keep⟩
theorem Fit.arm {m : Int} (hm : m ≤ 9223372036854775807) {ks : List Int} (hk : ks.length ≤ 17592186044416) : Fit (st.arm m ks) n := ⟨⟨h.good.dur, h.good.siz, h.good.pend, h.good.lost, by show m.toNat ≤ _; omega⟩, h.pend, hk⟩
theorem Fit.crash (ks : List Int) : Fit (st.crash ks) n := ⟨crash_good h.good ks, Nat.zero_le _, Nat.zero_le _⟩
theorem Fit.doCrash (ks : List Int) : Fit (st.doCrash ks) n := by
  unfold DSt.doCrash
  split
  · exact h
  · exact h.crash ks
theorem Fit.tick : Fit st.tick n := ⟨tick_good h.good, by rw [tick_pend]; exact h.pend, by unfold DSt.tick; split <;> exact h.keep⟩
theorem Fit.pre : Fit st.pre n := by
  unfold DSt.pre
  split
  · exact h.tick.crash _
  · exact h.tick
theorem Fit.settle {f : Nat} (hf : f < 12) : Fit (st.settle f) n := ⟨settle_good h.good hf, Nat.le_trans (keepP_count f st.pend) h.pend, h.keep⟩
theorem Fit.flush (f : Int) : Fit (st.flush f).2 n := by
  refine ⟨flush_good h.good f, ?_, ?_⟩
  · unfold DSt.flush
    split
    · exact h.pre.pend
    · split
      · exact h.pre.pend
      · split
        · exact h.pre.pend
        · exact Nat.le_trans (keepP_count _ _) h.pre.pend
  · unfold DSt.flush
    split
    · exact h.pre.keep
    · split
      · exact h.pre.keep
      · split
        · exact h.pre.keep
        · exact h.pre.keep
theorem Fit.cut (f m : Int) : Fit (st.cut f m).2 n := by
  refine ⟨cut_good h.good f m, ?_, ?_⟩
  · unfold DSt.cut
    split
    · exact h.pre.pend
    · split
      · exact h.pre.pend
      · split
        · exact h.pre.pend
        · exact Nat.le_trans (keepP_count _ _) h.pre.pend
  · unfold DSt.cut
    split
    · exact h.pre.keep
    · split
      · exact h.pre.keep
      · split
        · exact h.pre.keep
        · exact h.pre.keep
theorem Fit.turn (f g : Int) : Fit (st.turn f g).2 n := by
  refine ⟨turn_good h.good f g, ?_, ?_⟩
  · unfold DSt.turn
    split
    · exact h.pre.pend
    · split
      · exact h.pre.pend
      · split
        · exact h.pre.pend
        · split
          · exact h.pre.pend
          · exact Nat.le_trans (keepP_count _ _) (Nat.le_trans (keepP_count _ _) h.pre.pend)
  · unfold DSt.turn
    split
    · exact h.pre.keep
    · split
      · exact h.pre.keep
      · split
        · exact h.pre.keep
        · split <;> exact h.pre.keep
theorem Fit.write (f at_ : Int) (s : List UInt8) : Fit (st.write f at_ s).2 (n + s.length) := by
  have hm := h.mono (Nat.le_add_right n s.length)
  refine ⟨write_good h.good f at_ s, ?_, ?_⟩
  · unfold DSt.write
    split
    · exact hm.pend
    · split
      · exact hm.pend
      · split
        · exact hm.pend
        · split
          · exact hm.pend
          · show (st.pend ++ pieces f.toNat at_.toNat s).length ≤ _
            rw [List.length_append]
            have := piecesF_count f.toNat s.length at_.toNat s
            have := h.pend
            unfold pieces
            omega
  · unfold DSt.write
    split
    · exact hm.keep
    · split
      · exact hm.keep
      · split
        · exact hm.keep
        · split <;> exact hm.keep
theorem Fit.doWrite (f at_ : Int) (s : List UInt8) : Fit (st.doWrite f at_ s).2 (n + s.length) := by
  unfold DSt.doWrite
  split
  · exact (h.tick.write f at_ s).crash _
  · exact h.tick.write f at_ s
end

theorem fit0 : Fit st0 0 := by
  refine ⟨⟨fun _ _ => Nat.zero_le _, fun _ _ => rfl, fun p hp => (by cases hp), Nat.zero_le _, Nat.zero_le _⟩, Nat.le_refl _, Nat.zero_le _⟩
end Go.Proofs.Ythfnnkfdpnkodaa
