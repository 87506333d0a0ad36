/- The small methods of a disk. -/
import Derived.Test.YthfnnkfdpnkodaaRep
namespace Go.Proofs.Ythfnnkfdpnkodaa
open Go.RowKit

abbrev dptr (b : Nat) : Value := .pointer (some ⟨b, 0, none⟩)
def errInt (n : Nat) : Value := .int .i64 n

def st0 : DSt := { dur := fun _ => [], siz := fun _ => 0, pend := [], down := false, lost := 0, armed := 0, keep := [] }

/-- The state after the call, at the disk's pointer. -/
def Moved (b : Nat) (D : Nat → Prop) (w : World) (v : Value) (st : DSt) (e : Ending) (w' : World) : Prop :=
  e = .returned v ∧ Disk w' b (After D w) st ∧ Upd D w w'

theorem new_any (w : World) : Calls Try.prog 9 #[] w fun e w' => e = .returned (dptr w.heap.size) ∧ Disk w' w.heap.size (fun k => k = w.heap.size) st0 ∧ Upd (fun _ => False) w w' := by
  go_enter Try.func9, Try.ntmps9
  go_wp2
  go_ret
  refine ⟨rfl, ⟨fun _ => none, fun _ => .slice none 0 0, .slice none 0 0, .slice none 0 0, ⟨Blk.newA w _ _, fun f hf => Row.empty _ _ _, Row.empty _ _ _, Row.empty _ _ _, fun i j k _ _ h => by (cases h), fun i _ h => by (cases h)⟩, rfl, fun i k _ h => by (cases h)⟩, (Upd.refl _ _).alloc _⟩

theorem down_any (b : Nat) (x : Bool) (w : World) (h : w.cell? ⟨b, 25, none⟩ = some (.bool x)) : Calls Try.prog 11 #[dptr b] w fun e w' => e = .returned (.bool x) ∧ w = w' := by
  go_enter Try.func11, Try.ntmps11
  go_wp2
  go_ret
  exact ⟨rfl, rfl⟩

theorem start_any (b : Nat) (x : Value) (w : World) (h : w.cell? ⟨b, 25, none⟩ = some x) (hf : w.frozen? ⟨b, 25, none⟩ = false) : Calls Try.prog 16 #[dptr b] w fun e w' => e = .returned (.tuple #[]) ∧ w.setCell ⟨b, 25, none⟩ (.bool false) = w' := by
  go_enter Try.func16, Try.ntmps16
  go_wp2
  go_end0
  exact ⟨rfl, rfl⟩

theorem lose_any (b : Nat) (n : Int) (x : Value) (w : World) (h : w.cell? ⟨b, 26, none⟩ = some x) (hf : w.frozen? ⟨b, 26, none⟩ = false) : Calls Try.prog 23 #[dptr b, .int .i64 n] w fun e w' => e = .returned (.tuple #[]) ∧ w.setCell ⟨b, 26, none⟩ (.int .i64 (max n 0)) = w' := by
  go_enter Try.func23, Try.ntmps23
  go_wp2
  all_goals go_end0
  all_goals exact ⟨rfl, by first | rfl | rw [show max n 0 = 0 by omega] | rw [show max n 0 = n by omega]⟩


theorem size_yes (b f : Nat) (hf : f < 12) (w : World) (n : Int) (h : w.cell? ⟨b, f * 2 + 1, none⟩ = some (.int .i64 n)) :
    Calls Try.prog 20 #[dptr b, .int .i64 (f : Int)] w fun e w' => e = .returned (.int .i64 n) ∧ w = w' := by
  have h1 : (f : Int) < 12 := by omega
  go_enter Try.func20, Try.ntmps20
  go_wp2
  go_ret
  exact ⟨rfl, rfl⟩

theorem size_no (b : Nat) (f : Int) (hf : f < 0 ∨ 12 ≤ f) (w : World) :
    Calls Try.prog 20 #[dptr b, .int .i64 f] w fun e w' => e = .returned (.int .i64 0) ∧ w = w' := by
  by_cases h0 : f < 0
  · clear hf
    go_enter Try.func20, Try.ntmps20
    go_wp2
    go_ret
    exact ⟨rfl, rfl⟩
  · have h1 : 12 ≤ f := by omega
    clear hf
    go_enter Try.func20, Try.ntmps20
    go_wp2
    go_ret
    exact ⟨rfl, rfl⟩

theorem fires_down (b : Nat) (w : World) (h0 : w.cell? ⟨b, 25, none⟩ = some (.bool true)) :
    Calls Try.prog 38 #[dptr b] w fun e w' => e = .returned (.bool false) ∧ w = w' := by
  go_enter Try.func38, Try.ntmps38
  go_wp2
  go_ret
  exact ⟨rfl, rfl⟩

theorem fires_0 (b : Nat) (w : World) (h0 : w.cell? ⟨b, 25, none⟩ = some (.bool false)) (h1 : w.cell? ⟨b, 27, none⟩ = some (.int .i64 0)) :
    Calls Try.prog 38 #[dptr b] w fun e w' => e = .returned (.bool false) ∧ w = w' := by
  go_enter Try.func38, Try.ntmps38
  go_wp2
  go_ret
  exact ⟨rfl, rfl⟩

theorem fires_arm (b arm : Nat) (w : World) (h0 : w.cell? ⟨b, 25, none⟩ = some (.bool false)) (h1 : w.cell? ⟨b, 27, none⟩ = some (.int .i64 ((arm + 1 : Nat) : Int))) (hf : w.frozen? ⟨b, 27, none⟩ = false) (hb : arm < 9223372036854775807) :
    Calls Try.prog 38 #[dptr b] w fun e w' => e = .returned (.bool (arm == 0)) ∧ w.setCell ⟨b, 27, none⟩ (.int .i64 (arm : Nat)) = w' := by
  obtain ⟨n, hn⟩ : ∃ n : Int, n = ((arm + 1 : Nat) : Int) := ⟨_, rfl⟩
  have hn0 : 0 < n := by omega
  have hn1 : n ≤ 9223372036854775807 := by omega
  have h2 : (n == 0) = false := beq_eq_false_iff_ne.2 (by omega)
  rw [← hn] at h1
  have HN := Lib.hid hn; clear hn
  go_enter Try.func38, Try.ntmps38
  go_wp2
  go_ret
  have e1 : n - 1 = (arm : Int) := by have := HN.out; omega
  refine ⟨?_, by rw [e1]⟩
  simp only [Array.getD_eq_getD_getElem?]
  show Ending.returned (.bool (n - 1 == 0)) = _
  rw [e1]
  congr 2
  exact Bool.eq_iff_iff.2 (by simp)

def errOf (dn : Bool) (f : Int) : Nat := if dn then 8 else if f < 0 ∨ 12 ≤ f then 1 else 0

theorem check_down (b : Nat) (v : Value) (w : World) (h0 : w.cell? ⟨b, 25, none⟩ = some (.bool true)) :
    Calls Try.prog 34 #[dptr b, v] w fun e w' => e = .returned (.int .i64 8) ∧ w = w' := by
  go_enter Try.func34, Try.ntmps34
  go_wp2
  go_ret
  exact ⟨rfl, rfl⟩

theorem check_one (b nb c : Nat) (f : Int) (w : World) (h0 : w.cell? ⟨b, 25, none⟩ = some (.bool false)) (h1 : w.cell? ⟨nb, 0, none⟩ = some (.int .i64 f)) (r : Int) (hr : (f < 0 ∨ 12 ≤ f) ∧ r = 1 ∨ (0 ≤ f ∧ f < 12) ∧ r = 0) :
    Calls Try.prog 34 #[dptr b, .slice (some ⟨nb, 0, none⟩) 1 c] w fun e w' => e = .returned (.int .i64 r) ∧ w = w' := by
  rcases hr with ⟨h | h, rfl⟩ | ⟨⟨h, h'⟩, rfl⟩
  all_goals
    go_enter Try.func34, Try.ntmps34
    go_wp2
    refine wp_loop_rounds 2 ?_
    rw [rounds_succ]
    go_wp2
    try (rw [rounds_succ]; go_wp2)
    go_ret
    exact ⟨rfl, rfl⟩
end Go.Proofs.Ythfnnkfdpnkodaa
