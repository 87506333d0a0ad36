/- The reference's Put, walked. -/
import Derived.Test.YthfnnkfdpnkodaaRefRep
import Derived.Test.YthfnnkfdpnkodaaPlain
import Derived.Deep.LoopGhost
namespace Go.Proofs.Ythfnnkfdpnkodaa
open Go.RowKit

def PutRel (w : World) (s : List UInt8) (n : Nat) (gk : Nat) (v : Value) (wr : World) : Prop :=
  ∃ (m : Nat) (g : Option Nat), s.length ≤ m ∧ m ≤ n ∧ gk = n - m ∧ Row wr 5 1 v g m (bytesV (s ++ List.replicate (m - s.length) 0)) ∧ (∀ k, g = some k → w.heap.size ≤ k) ∧ Upd (fun _ => False) w wr

def PutRel2 (w : World) (l : List UInt8) (t : List UInt8) (at_ : Nat) (g : Option Nat) (v : Value) (gk : Nat) (i : Value) (wr : World) : Prop :=
  ∃ k : Nat, i = .int .i64 k ∧ k ≤ t.length ∧ gk = t.length - k ∧ Row wr 5 1 v g l.length (bytesV (putL l at_ (t.take k))) ∧ Upd (fun _ => False) w wr

theorem putL_pad (s : List UInt8) (at_ : Nat) (t : List UInt8) : putL (s ++ List.replicate (at_ + t.length - s.length) 0) at_ t = putL s at_ t := by
  apply List.ext_getElem?
  intro i
  rw [putL_get, putL_get]
  simp only [List.length_append, List.length_replicate]
  by_cases h1 : i < at_
  · rw [if_pos h1, if_pos h1]
    by_cases h2 : i < s.length
    · rw [if_pos (by omega), if_pos h2, List.getElem?_append_left h2]
    · rw [if_neg h2]
      split
      · rw [List.getElem?_append_right (by omega), List.getElem?_replicate, if_pos (by omega)]
      · omega
  · rw [if_neg h1, if_neg h1]
    by_cases h2 : i < at_ + t.length
    · rw [if_pos h2, if_pos h2]
    · rw [if_neg h2, if_neg h2]
      by_cases h3 : i < s.length
      · rw [List.getElem?_append_left h3]
      · rw [List.getElem?_append_right (by omega), List.getElem?_replicate, if_neg (by omega), List.getElem?_eq_none (by omega)]

theorem putL_take0 (l : List UInt8) (at_ : Nat) (h : at_ ≤ l.length) : putL l at_ [] = l := by
  unfold putL
  rw [show at_ - l.length = 0 by omega]
  simp

theorem putL_step (l t : List UInt8) (at_ k : Nat) (hk : k < t.length) (hl : at_ + t.length ≤ l.length) : (putL l at_ (t.take k)).set (at_ + k) t[k] = putL l at_ (t.take (k + 1)) := by
  apply List.ext_getElem?
  intro i
  have h1 : (t.take k).length = k := by simp; omega
  have h2 : (t.take (k + 1)).length = k + 1 := by simp; omega
  have h3 := putL_length l at_ (t.take k)
  by_cases e : at_ + k = i
  · subst e
    rw [List.getElem?_set_self (by rw [h3, h1]; omega), putL_get, if_neg (by omega), if_pos (by rw [h2]; omega), Nat.add_sub_cancel_left, List.getElem?_take_of_lt (by omega), List.getElem?_eq_getElem hk]
  · rw [List.getElem?_set_ne e, putL_get, putL_get, h1, h2]
    by_cases g1 : i < at_
    · rw [if_pos g1, if_pos g1]
    · rw [if_neg g1, if_neg g1]
      by_cases g2 : i < at_ + k
      · rw [if_pos g2, if_pos (by omega), List.getElem?_take_of_lt (by omega), List.getElem?_take_of_lt (by omega)]
      · rw [if_neg g2, if_neg (by omega)]

theorem bytesV_set (l : List UInt8) (i : Nat) (x : UInt8) : (bytesV l).set i (.int .u8 x.toNat) = bytesV (l.set i x) := by unfold bytesV; rw [List.map_set]

set_option maxHeartbeats 1600000 in
theorem rput_any (s : ByteArray) (at_ : Nat) (t : ByteArray) (w : World) (hs : s.size ≤ 16777216) (hat : at_ + t.size ≤ 16777216) :
    Calls Try.prog 60 #[.string s, .int .i64 (at_ : Int), .string t] w (fun e w' => e = .returned (strV (putL s.data.toList at_ t.data.toList)) ∧ Upd (fun _ => False) w w') := by
  have hsl := data_len s
  have htl := data_len t
  have HSL := Lib.hid hsl
  have HTL := Lib.hid htl
  clear hsl htl
  go_enter Try.func60, Try.ntmps60
  go_wp2_with (refine wpList_conv_bytes rfl (.tmp 9) 9 51 rfl 5 (u := .string) ?c1 ?c2 ?c3 s rfl ?c4 ?_)
  case c1 => kernel_rfl
  case c2 => kernel_rfl
  case c3 => kernel_rfl
  case c4 => unfold maxLen; omega
  intro v1 w1 hrow1 hu1
  have h0 : Hid (PutRel w s.data.toList (max s.size (at_ + t.size)) (max s.size (at_ + t.size) - s.size) v1 w1) := Lib.hid ⟨s.size, _, by have := HSL.out; omega, by omega, rfl, by
    rw [show s.size - s.data.toList.length = 0 by have := HSL.out; omega, List.replicate_zero, List.append_nil]
    exact hrow1, fun k hk => by cases hk; omega, hu1⟩
  clear hrow1 hu1
  go_wp2_with fail
  go_loopg [7] (max s.size (at_ + t.size) - s.size) (fun gk v wr => PutRel w s.data.toList (max s.size (at_ + t.size)) gk v wr)
  case atStart => exact h0.out
  case round =>
    clear h0
    obtain ⟨m, g, hm1, hm2, rfl, hrow, hg, hu⟩ := hrel
    obtain ⟨ra, rc, rfl, hrc1, hrc2⟩ := hrow.form
    have HROW := Lib.hid hrow
    have HG := Lib.hid hg
    have HU := Lib.hid hu
    have HM := Lib.hid hm1
    clear hrow hg hu
    have hm16 : m ≤ 33554432 := by omega
    by_cases hlt : m < at_ + t.size
    · have hlti : (m : Int) < (at_ : Int) + (t.size : Int) := by omega
      have hlit : Hid (Row (wr.alloc (.cells #[.int .u8 0] 5)) 5 1 (.slice (some ⟨wr.heap.size, 0, none⟩) 1 1) (some wr.heap.size) 1 [.int .u8 0]) := Lib.hid (Row.lit wr 5 1 1 _ (by unfold maxLen; omega) rfl)
      have hone : Hid (∀ u ∈ [Value.int .u8 0], u.oneCell' = true) := Lib.hid (by simp [Value.oneCell'])
      have hrow2 := Lib.hid (HROW.out.of_heap (w' := wr.alloc (.cells #[.int .u8 0] 5)) (fun k hk => heap_alloc_old wr _ (HROW.out.lt hk)))
      clear hm1 hm2
      go_wp2_with (at_builtin; refine wpList_append_row rfl (.tmp 18) (.tmp 19) 51 51 rfl 5 1 1 E51 _ g _ _ rfl hrow2.out _ 1 _ rfl (Row.src (P := Try.prog) (e' := 5) (by kernel_rfl) hlit.out hone.out) _ rfl _ rfl ?b1 ?b2 ?_)
      case b1 => unfold maxLen; omega
      case b2 => omega
      intro v3 w3 g3 hrow3 hg3 hu3
      have hrel3 : Hid (PutRel w s.data.toList (max s.size (at_ + t.size)) (max s.size (at_ + t.size) - (m + 1)) v3 w3) := by
        have h1 := HM.out
        refine Lib.hid ⟨m + 1, g3, by omega, by omega, rfl, ?_, fun k hk => ?_, ?_⟩
        · rw [show m + 1 - s.data.toList.length = (m - s.data.toList.length) + 1 by omega, List.replicate_succ', ← List.append_assoc]
          unfold bytesV at hrow3 ⊢
          rw [List.map_append]
          exact hrow3
        · rcases hg3.some hk with h | h
          · exact HG.out k h
          · have := HU.out.size; rw [h]; simp; omega
        · exact (HU.out.alloc _).trans hu3 (fun k hk h => by have := HG.out k h; omega)
      clear hrow3 hg3 hu3
      go_wp2_with fail
      go_roundg (max s.size (at_ + t.size) - (m + 1))
      case rel => exact hrel3.out
      case measure => omega
    · have hge : ¬ (m : Int) < (at_ : Int) + (t.size : Int) := by omega
      have hmm : m = max s.size (at_ + t.size) := by have := HM.out; have := HSL.out; omega
      obtain ⟨L, hL⟩ : ∃ L, L = s.data.toList ++ List.replicate (m - s.data.toList.length) 0 := ⟨_, rfl⟩
      have hLl : L.length = m := by rw [hL, List.length_append, List.length_replicate]; have := HM.out; omega
      have hfin : Hid (putL L at_ t.data.toList = putL s.data.toList at_ t.data.toList) := by
        have hx := HTL.out
        have hy := HSL.out
        rw [hL]
        by_cases e : s.size ≤ at_ + t.size
        · rw [show m - s.data.toList.length = at_ + t.data.toList.length - s.data.toList.length by omega]
          exact Lib.hid (putL_pad _ _ _)
        · rw [show m - s.data.toList.length = 0 by omega, List.replicate_zero, List.append_nil]
          exact Lib.hid rfl
      have hrow := HROW.out
      rw [← hL] at hrow
      have hrel0 : Hid (PutRel2 w L t.data.toList at_ g (.slice ra m rc) t.size (.int .i64 0) wr) := Lib.hid ⟨0, rfl, Nat.zero_le _, by have := HTL.out; omega, by rw [List.take_zero, putL_take0 _ _ (by omega), hLl]; exact hrow, HU.out⟩
      have HLl := Lib.hid hLl
      clear hrow hL hLl HROW hm1 hm2 hmm
      go_wp2_with fail
      go_loopg [8] t.size (fun gk i w' => PutRel2 w L t.data.toList at_ g (.slice ra m rc) gk i w')
      case atStart => exact hrel0.out
      case round =>
        clear hrel0
        obtain ⟨k, rfl, hk, rfl, hrow, hu⟩ := hrel
        have htl2 := HTL.out
        by_cases hlt2 : k < t.size
        · obtain ⟨rb, rcc, hv, hgb, _, _⟩ := hrow.pos (by have := HLl.out; omega)
          rw [HLl.out] at hv
          cases hv
          have hlen : at_ + k < (putL L at_ (t.data.toList.take k)).length := by rw [putL_length]; have := HLl.out; omega
          obtain ⟨x0, hcell⟩ : ∃ x0, wr.cell? ⟨rb, at_ + k, none⟩ = some x0 := ⟨_, hrow.cell hgb (by unfold bytesV; rw [List.getElem?_map, List.getElem?_eq_getElem hlen]; rfl)⟩
          have hfz : wr.frozen? ⟨rb, at_ + k, none⟩ = false := hrow.frozen hgb (by rw [bytesV_length]; exact hlen)
          have hset := hrow.set hgb (at_ + k) (.int .u8 (t[k]'hlt2).toNat)
          rw [bytesV_set] at hset
          have hstep := putL_step L t.data.toList at_ k (by omega) (by have := HLl.out; omega)
          rw [show t.data.toList[k]'(by omega) = t[k]'hlt2 from rfl] at hstep
          rw [hstep] at hset
          have HSET := Lib.hid hset
          have hbn : Hid (¬ rb < w.heap.size) := Lib.hid (by have := HG.out rb hgb; omega)
          have hidx : (at_ : Int) + (k : Int) < (m : Int) := by have := HLl.out; rw [putL_length] at hlen; simp at hlen; omega
          have hm64 : (m : Int) ≤ 33554432 := by omega
          clear hset hstep hlen htl2 hrow hgb
          go_wp2_with fail
          go_roundg (t.size - (k + 1))
          case rel => exact ⟨k + 1, by simp, by have := HTL.out; omega, by have := HTL.out; omega, HSET.out, hu.setCell (p := ⟨rb, at_ + k, none⟩) (fun h => absurd h hbn.out) _⟩
          case measure => have := HTL.out; omega
        · have hke : k = t.data.toList.length := by omega
          subst hke
          rw [List.take_length, hfin.out] at hrow
          have hrow' : Row wr 5 1 (.slice ra m rc) g (putL s.data.toList at_ t.data.toList).length (bytesV (putL s.data.toList at_ t.data.toList)) := by
            have hl2 := congrArg List.length hfin.out
            rw [putL_length] at hl2
            have := HLl.out
            rw [show (putL s.data.toList at_ t.data.toList).length = L.length by omega]
            exact hrow
          have hconv := run_convert_row (P := Try.prog) (src := 51) (dst := 9) (by kernel_rfl) (by kernel_rfl) (by kernel_rfl) hrow'
          unfold strV at hconv
          clear hrow hrow' htl2
          go_wp2
          go_ret
          exact ⟨rfl, hu⟩
end Go.Proofs.Ythfnnkfdpnkodaa
