/- The reference's without, walked. -/
import Derived.Test.YthfnnkfdpnkodaaRefRead
namespace Go.Proofs.Ythfnnkfdpnkodaa
open Go.RowKit

def RwPost (w : World) (l : List Pc) (e : Ending) (w' : World) : Prop :=
  ∃ v g, e = .returned v ∧ Row w' 76 3 v g l.length (pendV l) ∧ (∀ k, g = some k → w.heap.size ≤ k) ∧ Upd (fun _ => False) w w'

def RwRel (f : Nat) (w : World) (l : List Pc) (gk : Nat) (out i : Value) (wr : World) : Prop :=
  ∃ (k : Nat) (g : Option Nat), i = .int .i64 k ∧ k ≤ l.length ∧ gk = l.length - k ∧ Row wr 76 3 out g (keepP f (l.take k)).length (pendV (keepP f (l.take k))) ∧ (∀ k, g = some k → w.heap.size ≤ k) ∧ Upd (fun _ => False) w wr

set_option maxHeartbeats 1600000 in
theorem rwithout_any (b f : Nat) (st : DSt) (w : World) (lb lc : Nat) (qa : Option Addr) (qc : Nat) (h : RSeen b st w lb lc qa qc) (hp : st.pend.length ≤ 1099511627776) :
    Calls Try.prog 58 #[dptr b, .int .i64 (f : Int)] w (RwPost w (keepP f st.pend)) := by
  have H := Lib.hid h
  have h0 : Hid (RwRel f w st.pend st.pend.length (.slice none 0 0) (.int .i64 0) w) := Lib.hid ⟨0, none, rfl, Nat.zero_le _, rfl, Row.empty _ _ _, (fun _ h => by cases h), Upd.refl _ _⟩
  clear h
  go_enter Try.func58, Try.ntmps58
  go_wp2_with fail
  go_loopg [5, 6] st.pend.length (fun gk s i wr => RwRel f w st.pend gk s i wr)
  case atStart => exact h0.out
  case round =>
    clear h0
    obtain ⟨k, g, rfl, hk, rfl, hrow, hg, hu⟩ := hrel
    have h' := H.out.upd hu
    have c1 := h'.c1
    have HR := Lib.hid hrow
    have HG := Lib.hid hg
    have hlk : (keepP f (st.pend.take k)).length ≤ 1099511627776 := by
      have := keepP_count f (st.pend.take k)
      have h2 : (st.pend.take k).length ≤ st.pend.length := by rw [List.length_take]; omega
      omega
    clear hg
    by_cases hlt : k < st.pend.length
    · obtain ⟨g1, hprow⟩ := h'.row
      obtain ⟨kb, rfl, p0, p1, p2⟩ := hprow.pc rfl hlt
      obtain ⟨T, hT, hTl, hTz⟩ := exStr st.pend[k].s
      rw [hT] at p2
      have hsnoc := Lib.hid (keepP_snoc f st.pend k hlt)
      have HTl := Lib.hid hTl
      clear hT hTl hTz hprow h'
      by_cases hpf : st.pend[k].f = f
      · have hp1 : ((st.pend[k].f : Int) == (f : Int)) = true := by simp [hpf]
        have HP := Lib.hid hpf
        clear hpf hrow
        go_wp2_with fail
        go_roundg (st.pend.length - (k + 1))
        case rel => exact ⟨k + 1, g, by simp, by omega, rfl, by rw [hsnoc.out, if_pos HP.out, List.append_nil]; exact HR.out, HG.out, hu⟩
        case measure => omega
      · have hp1 : ((st.pend[k].f : Int) == (f : Int)) = false := beq_eq_false_iff_ne.2 (by omega)
        have HP := Lib.hid hpf
        have hlit : Hid (Row (wr.alloc (.cells #[.int .i64 (st.pend[k].f : Int), .int .i64 (st.pend[k].at_ : Int), .string T] 76)) 76 3 (.slice (some ⟨wr.heap.size, 0, none⟩) 1 1) (some wr.heap.size) 1 [.int .i64 (st.pend[k].f : Int), .int .i64 (st.pend[k].at_ : Int), .string T]) := Lib.hid (Row.lit wr 76 3 1 _ (by unfold maxLen; omega) rfl)
        have hone : Hid (∀ u ∈ [Value.int .i64 (st.pend[k].f : Int), .int .i64 (st.pend[k].at_ : Int), .string T], u.oneCell' = true) := Lib.hid (by simp [Value.oneCell'])
        have hrow2 := Lib.hid (HR.out.of_heap (w' := wr.alloc (.cells #[.int .i64 (st.pend[k].f : Int), .int .i64 (st.pend[k].at_ : Int), .string T] 76)) (fun k hk => heap_alloc_old wr _ (HR.out.lt hk)))
        clear hpf hrow
        go_wp2_with (at_builtin; refine wpList_append_row rfl (.tmp 26) (.tmp 34) 65 65 rfl 76 3 32 EPiece _ g _ _ rfl hrow2.out _ 1 _ rfl (Row.src (P := Try.prog) (e' := 76) (by kernel_rfl) hlit.out hone.out) _ rfl _ rfl ?b1 ?b2 ?_)
        case b1 => unfold maxLen; omega
        case b2 => omega
        intro v3 w3 g3 hrow3 hg3 hu3
        have hrel3 : Hid (RwRel f w st.pend (st.pend.length - (k + 1)) v3 (.int .i64 ((k : Int) + 1)) w3) := by
          refine Lib.hid ⟨k + 1, g3, by simp, by omega, rfl, ?_, fun b hb => ?_, ?_⟩
          · rw [hsnoc.out, if_neg HP.out]
            have e : st.pend[k] = ⟨st.pend[k].f, st.pend[k].at_, T.data.toList⟩ := by rw [HTl.out]
            rw [e, pendV_snoc, List.length_append]
            exact hrow3
          · rcases hg3.some hb with h | h
            · exact HG.out b h
            · have := hu.size; rw [h]; simp; omega
          · exact (hu.alloc _).trans hu3 (fun k hk h => by have := HG.out k h; omega)
        clear hrow3 hg3 hu3
        go_wp2_with fail
        go_roundg (st.pend.length - (k + 1))
        case rel => exact hrel3.out
        case measure => omega
    · have hke : k = st.pend.length := by omega
      subst hke
      rw [List.take_length] at HR
      clear hrow
      go_wp2
      go_ret
      exact ⟨_, g, rfl, HR.out, HG.out, hu⟩
end Go.Proofs.Ythfnnkfdpnkodaa
