/- The small example walked. -/
import Derived.Test.YthfnnkfdpnkodaaSmallSt
namespace Go.Proofs.Ythfnnkfdpnkodaa
open Go.RowKit

def sU : ByteArray := ⟨(List.replicate 64 (0 : UInt8) ++ [99, 100]).toArray⟩

section
variable {F : Nat → Prop} {b : Nat} {w0 w : World}
theorem sc0 (h : At F b w0 sm0 w) : Calls Try.prog 21 #[dptr b, .int .i64 1, .int .i64 0, .string ⟨#[104, 101, 108, 108, 111]⟩] w (fun e w' => e = .returned (.int .i64 0) ∧ At F b w0 sm1 w') := by
  have t := at_write h smf0 (by decide) 1 0 ⟨#[104, 101, 108, 108, 111]⟩ (by decide)
  rw [show ((sm0.doWrite 1 0 (⟨_⟩ : ByteArray).data.toList).1) = 0 from sr1] at t
  exact t
theorem sc1 (h : At F b w0 sm1 w) : Calls Try.prog 22 #[dptr b, .int .i64 1] w (fun e w' => e = .returned (.int .i64 0) ∧ At F b w0 sm2 w') := by
  have t := at_flush h smf1 1
  rw [sr2] at t
  exact t
theorem sc2 (h : At F b w0 sm2 w) : Calls Try.prog 21 #[dptr b, .int .i64 1, .int .i64 5, .string ⟨#[121]⟩] w (fun e w' => e = .returned (.int .i64 0) ∧ At F b w0 sm3 w') := by
  have t := at_write h smf2 (by decide) 1 5 ⟨#[121]⟩ (by decide)
  rw [show ((sm2.doWrite 1 5 (⟨_⟩ : ByteArray).data.toList).1) = 0 from sr3] at t
  exact t
theorem sc3 (h : At F b w0 sm3 w) : Calls Try.prog 21 #[dptr b, .int .i64 1, .int .i64 8, .string ⟨#[122]⟩] w (fun e w' => e = .returned (.int .i64 0) ∧ At F b w0 sm4 w') := by
  have t := at_write h smf3 (by decide) 1 8 ⟨#[122]⟩ (by decide)
  rw [show ((sm3.doWrite 1 8 (⟨_⟩ : ByteArray).data.toList).1) = 0 from sr4] at t
  exact t
theorem sc4 (h : At F b w0 sm4 w) : Calls Try.prog 18 #[dptr b, .slice (some ⟨w.heap.size, 0, none⟩) 1 1] (w.alloc (.cells #[.int .i64 1] 3)) (fun e w' => e = .returned (.tuple #[]) ∧ At F b w0 sm5 w') :=
  at_crash_lit h smf4 [1] (by decide)
theorem sc5 (h : At F b w0 sm5 w) : Calls Try.prog 14 #[dptr b, .int .i64 1] w (fun e w' => e = .returned (.tuple #[.string ⟨#[]⟩, .int .i64 8]) ∧ At F b w0 sm5 w') := by
  have t := at_read h smf5 1
  rw [sx5] at t
  exact t
theorem sc6 (h : At F b w0 sm5 w) : Calls Try.prog 11 #[dptr b] w (fun e w' => e = .returned (.bool true) ∧ At F b w0 sm5 w') := by
  have t := at_down h
  rw [sd5] at t
  exact t
theorem sc7 (h : At F b w0 sm5 w) : Calls Try.prog 16 #[dptr b] w (fun e w' => e = .returned (.tuple #[]) ∧ At F b w0 sm6 w') := at_start h
theorem sc8 (h : At F b w0 sm6 w) : Calls Try.prog 14 #[dptr b, .int .i64 1] w (fun e w' => e = .returned (.tuple #[.string ⟨#[104, 101, 108, 108, 111, 121]⟩, .int .i64 0]) ∧ At F b w0 sm6 w') := by
  have t := at_read h smf6 1
  rw [sx6] at t
  exact t
theorem sc9 (h : At F b w0 sm6 w) : Calls Try.prog 23 #[dptr b, .int .i64 1] w (fun e w' => e = .returned (.tuple #[]) ∧ At F b w0 sm7 w') := at_lose h 1
theorem sc10 (h : At F b w0 sm7 w) : Calls Try.prog 22 #[dptr b, .int .i64 1] w (fun e w' => e = .returned (.int .i64 9) ∧ At F b w0 sm8 w') := by
  have t := at_flush h smf7 1
  rw [sr8] at t
  exact t
theorem sc11 (h : At F b w0 sm8 w) : Calls Try.prog 21 #[dptr b, .int .i64 2, .int .i64 0, .string ⟨#[120]⟩] w (fun e w' => e = .returned (.int .i64 0) ∧ At F b w0 sm9 w') := by
  have t := at_write h smf8 (by decide) 2 0 ⟨#[120]⟩ (by decide)
  rw [show ((sm8.doWrite 2 0 (⟨_⟩ : ByteArray).data.toList).1) = 0 from sr9] at t
  exact t
theorem sc12 (h : At F b w0 sm9 w) : Calls Try.prog 33 #[dptr b, .int .i64 1, .int .i64 2] w (fun e w' => e = .returned (.int .i64 7) ∧ At F b w0 sm10 w') := by
  have t := at_turn h smf9 (by decide) 1 2
  rw [sr10] at t
  exact t
theorem sc13 (h : At F b w0 sm10 w) : Calls Try.prog 22 #[dptr b, .int .i64 2] w (fun e w' => e = .returned (.int .i64 0) ∧ At F b w0 sm11 w') := by
  have t := at_flush h smf10 2
  rw [sr11] at t
  exact t
theorem sc14 (h : At F b w0 sm11 w) : Calls Try.prog 33 #[dptr b, .int .i64 1, .int .i64 2] w (fun e w' => e = .returned (.int .i64 0) ∧ At F b w0 sm12 w') := by
  have t := at_turn h smf11 (by decide) 1 2
  rw [sr12] at t
  exact t
theorem sc15 (h : At F b w0 sm12 w) : Calls Try.prog 14 #[dptr b, .int .i64 1] w (fun e w' => e = .returned (.tuple #[.string ⟨#[120]⟩, .int .i64 0]) ∧ At F b w0 sm12 w') := by
  have t := at_read h smf12 1
  rw [sx12] at t
  exact t
theorem sc16 (h : At F b w0 sm12 w) : Calls Try.prog 21 #[dptr b, .int .i64 3, .int .i64 62, .string ⟨#[97, 98, 99, 100]⟩] w (fun e w' => e = .returned (.int .i64 0) ∧ At F b w0 sm13 w') := by
  have t := at_write h smf12 (by decide) 3 62 ⟨#[97, 98, 99, 100]⟩ (by decide)
  rw [show ((sm12.doWrite 3 62 (⟨_⟩ : ByteArray).data.toList).1) = 0 from sr13] at t
  exact t
theorem sc17 (h : At F b w0 sm13 w) : Calls Try.prog 18 #[dptr b, .slice (some ⟨w.heap.size, 0, none⟩) 2 2] (w.alloc (.cells #[.int .i64 0, .int .i64 1] 3)) (fun e w' => e = .returned (.tuple #[]) ∧ At F b w0 sm14 w') :=
  at_crash_lit h smf13 [0, 1] (by decide)
theorem sc18 (h : At F b w0 sm14 w) : Calls Try.prog 16 #[dptr b] w (fun e w' => e = .returned (.tuple #[]) ∧ At F b w0 sm15 w') := at_start h
theorem sc19 (h : At F b w0 sm15 w) : Calls Try.prog 14 #[dptr b, .int .i64 3] w (fun e w' => e = .returned (.tuple #[.string sU, .int .i64 0]) ∧ At F b w0 sm15 w') := by
  have t := at_read h smf15 3
  rw [sx15] at t
  exact t
theorem sc20 (h : At F b w0 sm15 w) : Calls Try.prog 20 #[dptr b, .int .i64 2] w (fun e w' => e = .returned (.int .i64 0) ∧ At F b w0 sm15 w') := by
  have t := at_size h 2
  rw [sz15] at t
  exact t
theorem sc21 (h : At F b w0 sm15 w) : Calls Try.prog 21 #[dptr b, .int .i64 12, .int .i64 0, .string ⟨#[]⟩] w (fun e w' => e = .returned (.int .i64 1) ∧ At F b w0 sm16 w') := by
  have t := at_write h smf15 (by decide) 12 0 ⟨#[]⟩ (by decide)
  rw [show ((sm15.doWrite 12 0 (⟨_⟩ : ByteArray).data.toList).1) = 1 from sr16] at t
  exact t
theorem sc22 (h : At F b w0 sm16 w) : Calls Try.prog 21 #[dptr b, .int .i64 0, .int .i64 (-1), .string ⟨#[]⟩] w (fun e w' => e = .returned (.int .i64 1) ∧ At F b w0 sm17 w') := by
  have t := at_write h smf16 (by decide) 0 (-1) ⟨#[]⟩ (by decide)
  rw [show ((sm16.doWrite 0 (-1) (⟨_⟩ : ByteArray).data.toList).1) = 1 from sr17] at t
  exact t
theorem sc23 (h : At F b w0 sm17 w) : Calls Try.prog 32 #[dptr b, .int .i64 1, .int .i64 2] w (fun e w' => e = .returned (.int .i64 1) ∧ At F b w0 sm18 w') := by
  have t := at_cut h smf17 1 2
  rw [sr18] at t
  exact t
end

theorem sU1 : sU.size = 66 := by kernel_rfl
theorem sU2 : sU.extract 64 66 = ⟨#[99, 100]⟩ := by kernel_rfl
theorem sU3 : sU.data[0]? = some 0 := by kernel_rfl
theorem sU4 : sU.data[63]? = some 0 := by kernel_rfl

set_option maxRecDepth 20000 in
set_option maxHeartbeats 1600000 in
theorem small_at (F : Nat → Prop) (w0 : World) (hF : ∀ k, F k → k < w0.heap.size) : Calls Try.prog 8 #[] w0 fun e w' => e = .returned (.bool true) ∧ Upd (fun k => ¬ F k) w0 w' := by
  go_enter Try.func8, Try.ntmps8
  go_wp2_with fail
  refine (at_new F w0 hF).mono ?_
  rintro e w ⟨rfl, h⟩
  obtain ⟨b, hb⟩ : ∃ b, b = w0.heap.size := ⟨_, rfl⟩
  rw [← hb] at h ⊢
  clear hb
  go_wp2_with fail
  refine (sc0 h).mono ?_; clear h
  rintro e w ⟨rfl, h⟩
  go_wp2_with fail
  refine (sc1 h).mono ?_; clear h
  rintro e w ⟨rfl, h⟩
  go_wp2_with fail
  refine (sc2 h).mono ?_; clear h
  rintro e w ⟨rfl, h⟩
  go_wp2_with fail
  refine (sc3 h).mono ?_; clear h
  rintro e w ⟨rfl, h⟩
  go_wp2_with fail
  refine (sc4 h).mono ?_; clear h
  rintro e w ⟨rfl, h⟩
  go_wp2_with fail
  refine (sc5 h).mono ?_; clear h
  rintro e w ⟨rfl, h⟩
  go_wp2_with fail
  refine (sc6 h).mono ?_; clear h
  rintro e w ⟨rfl, h⟩
  go_wp2_with fail
  refine (sc7 h).mono ?_; clear h
  rintro e w ⟨rfl, h⟩
  go_wp2_with fail
  refine (sc8 h).mono ?_; clear h
  rintro e w ⟨rfl, h⟩
  go_wp2_with fail
  refine (sc9 h).mono ?_; clear h
  rintro e w ⟨rfl, h⟩
  go_wp2_with fail
  refine (sc10 h).mono ?_; clear h
  rintro e w ⟨rfl, h⟩
  go_wp2_with fail
  refine (sc11 h).mono ?_; clear h
  rintro e w ⟨rfl, h⟩
  go_wp2_with fail
  refine (sc12 h).mono ?_; clear h
  rintro e w ⟨rfl, h⟩
  go_wp2_with fail
  refine (sc13 h).mono ?_; clear h
  rintro e w ⟨rfl, h⟩
  go_wp2_with fail
  refine (sc14 h).mono ?_; clear h
  rintro e w ⟨rfl, h⟩
  go_wp2_with fail
  refine (sc15 h).mono ?_; clear h
  rintro e w ⟨rfl, h⟩
  go_wp2_with fail
  refine (sc16 h).mono ?_; clear h
  rintro e w ⟨rfl, h⟩
  go_wp2_with fail
  refine (sc17 h).mono ?_; clear h
  rintro e w ⟨rfl, h⟩
  go_wp2_with fail
  refine (sc18 h).mono ?_; clear h
  rintro e w ⟨rfl, h⟩
  go_wp2_with fail
  refine (sc19 h).mono ?_; clear h
  rintro e w ⟨rfl, h⟩
  have e1 := sU1; have e2 := sU2; have e3 := sU3; have e4 := sU4
  go_wp2_with fail
  refine (sc20 h).mono ?_; clear h
  rintro e w ⟨rfl, h⟩
  go_wp2_with fail
  refine (sc21 h).mono ?_; clear h
  rintro e w ⟨rfl, h⟩
  go_wp2_with fail
  refine (sc22 h).mono ?_; clear h
  rintro e w ⟨rfl, h⟩
  go_wp2_with fail
  refine (sc23 h).mono ?_; clear h
  rintro e w ⟨rfl, h⟩
  go_wp2
  go_ret
  exact ⟨rfl, h.2.2⟩
end Go.Proofs.Ythfnnkfdpnkodaa
