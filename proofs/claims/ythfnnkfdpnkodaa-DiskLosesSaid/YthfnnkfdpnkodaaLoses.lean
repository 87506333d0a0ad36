/- DiskLoses walked. -/
import Derived.Test.YthfnnkfdpnkodaaPlain
namespace Go.Proofs.Ythfnnkfdpnkodaa
open Go.RowKit

theorem at_eq {Q : World → DSt → Prop} {fn : Nat} {args : Array Value} {w : World} {v v' : Value} {st st' : DSt} (t : Calls Try.prog fn args w (fun e w' => e = .returned v ∧ Q w' st)) (hv : v = v') (hs : st = st') :
    Calls Try.prog fn args w (fun e w' => e = .returned v' ∧ Q w' st') := by subst hv hs; exact t

def LsRel (F : Nat → Prop) (b : Nat) (w0 : World) (s : List UInt8) (n : Int) (i : Value) (w : World) : Prop :=
  ∃ k : Nat, i = .int .i64 k ∧ k ≤ n.toNat ∧ At F b w0 (ls s (n.toNat - k)) w

set_option maxRecDepth 20000 in
set_option maxHeartbeats 1600000 in
theorem loses_at (F : Nat → Prop) (w0 : World) (hF : ∀ k, F k → k < w0.heap.size) (s : ByteArray) (n : Int) (hss : s.size ≤ 9223372036854775807) :
    Calls Try.prog 5 #[.string s, .int .i64 n] w0 fun e w' => e = .returned (.bool true) ∧ Upd (fun k => ¬ F k) w0 w' := by
  have hsl := data_len s
  go_enter Try.func5, Try.ntmps5
  go_wp2_with fail
  refine (small_at F w0 hF).mono ?_
  rintro e w ⟨rfl, hu⟩
  go_wp2_with fail
  refine (at_new F w (fun k hk => Nat.lt_of_lt_of_le (hF k hk) hu.size)).mono ?_
  rintro e w1 ⟨rfl, h⟩
  have h : At F w.heap.size w0 st0 w1 := ⟨h.1, h.2.1, hu.trans h.2.2 fun _ _ h => h⟩
  obtain ⟨b, hb⟩ : ∃ b, b = w.heap.size := ⟨_, rfl⟩
  rw [← hb] at h ⊢
  clear hb hu
  by_cases h1 : 50000 < s.size
  · go_wp2
    go_ret
    exact ⟨rfl, h.2.2⟩
  · by_cases h2 : 20 < n
    · go_wp2
      go_ret
      exact ⟨rfl, h.2.2⟩
    · go_wp2_with fail
      refine (at_lose h n).mono ?_; clear h
      rintro e w2 ⟨rfl, h⟩
      go_wp2_with fail
      refine (at_eq (Q := fun w st => At F b w0 st w) (at_write h (fit0.lose (by omega)) (by omega) 0 0 s (by omega)) (v' := .int .i64 0) (st' := ls s.data.toList n.toNat) (by rw [ls_write _ _ (by omega)]; rfl) (by rw [ls_write _ _ (by omega)])).mono ?_; clear h
      rintro e w3 ⟨rfl, h⟩
      have h0 : Hid (LsRel F b w0 s.data.toList n (.int .i64 0) w3) := ⟨0, rfl, Nat.zero_le _, h⟩
      have HL := Lib.hid hsl
      clear h hsl
      go_wp2
      go_loopw [7] (fun i w => LsRel F b w0 s.data.toList n i w) (fun i _ => n.toNat - (intOf i).toNat)
      case atStart => exact h0.out
      case round =>
        clear h0
        obtain ⟨k, rfl, hk, h⟩ := hrel
        have hfit := ls_fit s.data.toList (n.toNat - k) (by have := HL.out; omega) (by omega)
        by_cases hlt : (k : Int) < n
        · obtain ⟨m, hm⟩ : ∃ m, n.toNat - k = m + 1 := ⟨n.toNat - k - 1, by omega⟩
          rw [hm] at h hfit
          have HM := Lib.hid hm; clear hm
          have HFT := Lib.hid hfit; clear hfit
          go_wp2_with fail
          refine (at_copy h HFT.out (by omega)).mono ?_; clear h
          intro e w4 hc
          obtain ⟨c, rfl, h⟩ := hc
          go_wp2_with fail
          refine (at_eq (Q := fun w st => Two F b c w0 st (ls s.data.toList (m + 1)) w) (two_b h fun F' hF hd => law_flush F' b _ _ hF hd _ HFT.out 0) (v' := .int .i64 9) (st' := ls s.data.toList m) (by rw [ls_flush]; rfl) (by rw [ls_flush])).mono ?_; clear h
          rintro e w5 ⟨rfl, h⟩
          go_wp2_with fail
          refine (at_eq (Q := fun w st => Two F b c w0 _ st w) (two_c h fun F' hF hd => law_flush F' c _ _ hF hd _ HFT.out 0) (v' := .int .i64 9) (st' := ls s.data.toList m) (by rw [ls_flush]; rfl) (by rw [ls_flush])).mono ?_; clear h
          rintro e w6 ⟨rfl, h⟩
          have hfit := ls_fit s.data.toList m (by have := HL.out; omega) (by have := HM.out; omega)
          have HFT2 := Lib.hid hfit; clear hfit HFT
          go_wp2_with fail
          refine (two_c h fun F' hF hd => law_crash_nil F' c _ _ hF hd _ HFT2.out).mono ?_; clear h
          rintro e w7 ⟨rfl, h⟩
          go_wp2_with fail
          refine (two_c h fun F' hF hd => law_start F' c _ _ hd).mono ?_; clear h
          rintro e w8 ⟨rfl, h⟩
          go_wp2_with fail
          refine (at_eq (Q := fun w st => Two F b c w0 _ st w) (two_c h fun F' hF hd => law_read F' c _ _ hd _ (HFT2.out.doCrash []).start 0) (v' := .tuple #[.string ByteArray.empty, .int .i64 0]) (by rw [ls_lost]; rfl) rfl).mono ?_; clear h
          rintro e w9 ⟨rfl, h⟩
          go_wp2
          go_roundw
          case rel => exact ⟨k + 1, by simp, by omega, by rw [show n.toNat - (k + 1) = m by have := HM.out; omega]; exact two_first h⟩
          case measure => simp [intOf]; omega
        · have hn : n.toNat - k = 0 := by omega
          rw [hn] at h hfit
          have hlt2 : n ≤ (k : Int) := by omega
          clear hn hlt
          have HFT := Lib.hid hfit; clear hfit
          have hl := Lib.hid (ls_last s.data.toList)
          go_wp2_with fail
          refine (at_eq (Q := fun w st => At F b w0 st w) (at_flush h HFT.out 0) (v' := .int .i64 0) (by rw [hl.out.1]; rfl) rfl).mono ?_; clear h
          rintro e w4 ⟨rfl, h⟩
          go_wp2_with fail
          refine (at_crash_nil h (HFT.out.flush 0)).mono ?_; clear h
          rintro e w5 ⟨rfl, h⟩
          go_wp2_with fail
          refine (at_start h).mono ?_; clear h
          rintro e w6 ⟨rfl, h⟩
          go_wp2_with fail
          refine (at_eq (Q := fun w st => At F b w0 st w) (at_read h ((HFT.out.flush 0).doCrash []).start 0) (v' := .tuple #[.string s, .int .i64 0]) (by rw [hl.out.2]; show Value.tuple #[strV s.data.toList, _] = _; rw [strV_data]; rfl) rfl).mono ?_; clear h
          rintro e w7 ⟨rfl, h⟩
          go_wp2
          go_ret
          exact ⟨rfl, h.2.2⟩
end Go.Proofs.Ythfnnkfdpnkodaa
