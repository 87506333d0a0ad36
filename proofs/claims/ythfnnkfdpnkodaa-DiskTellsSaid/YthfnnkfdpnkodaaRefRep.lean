/- The reference's disk in memory; its simple methods. -/
import Derived.Test.YthfnnkfdpnkodaaFit
import Derived.Test.YthfnnkfdpnkodaaOwn
import Derived.Test.YthfnnkfdpnkodaaConv
namespace Go.Proofs.Ythfnnkfdpnkodaa
open Go.RowKit

def lastsV (d : Nat → List UInt8) : List Value := (List.range 12).map fun f => strV (d f)

def rflds (st : DSt) (rk : List Int) : List Fld :=
  [.rw 9 1 12 (lastsV st.dur), .rw 76 3 st.pend.length (pendV st.pend), .sc (.int .i64 st.lost), .sc (.bool st.down), .sc (.int .i64 st.armed), .rw 3 1 rk.length (intsV rk)]

/-- The reference's disk at block b. What it keeps is rk. -/
def RD (b : Nat) (st : DSt) (rk : List Int) : World → (Nat → Prop) → Prop := fun w D => Owned w b D 67 (rflds st rk)

theorem EStr : Elem Try.prog 28 9 1 16 := .of (z := .string ByteArray.empty) (by kernel_rfl) (by kernel_rfl) (by kernel_rfl)
theorem EPiece : Elem Try.prog 65 76 3 32 := .of (z := .agg #[.int .i64 0, .int .i64 0, .string ByteArray.empty]) (by kernel_rfl) (by kernel_rfl) (by kernel_rfl)

theorem lastsV_get (d : Nat → List UInt8) {f : Nat} (hf : f < 12) : (lastsV d)[f]? = some (strV (d f)) := by
  unfold lastsV
  rw [List.getElem?_map, List.getElem?_range hf]; rfl

theorem lastsV_set (d : Nat → List UInt8) {f : Nat} (hf : f < 12) (l : List UInt8) : (lastsV d).set f (strV l) = lastsV (up d f l) := by
  apply List.ext_getElem?
  intro i
  by_cases hi : i < 12
  · rw [lastsV_get _ hi]
    by_cases e : f = i
    · subst e; rw [List.getElem?_set_self (by simp [lastsV]; exact hf), up_same]
    · rw [List.getElem?_set_ne e, lastsV_get _ hi, up_other _ _ (fun h => e h.symm)]
  · rw [List.getElem?_eq_none (by simp [lastsV]; omega), List.getElem?_eq_none (by simp [lastsV]; omega)]

section
variable {b : Nat} {st : DSt} {rk : List Int} {w : World} {D : Nat → Prop} (h : RD b st rk w D)
include h

theorem rd_down : Calls Try.prog 28 #[dptr b] w (fun e w' => e = .returned (.bool st.down) ∧ w = w') := by
  have c3 : w.cell? ⟨b, 3, none⟩ = some (.bool st.down) := Owned.sc h rfl
  unfold dptr
  clear h
  go_enter Try.func28, Try.ntmps28
  go_wp2
  go_ret
  exact ⟨rfl, rfl⟩

theorem rd_start : Calls Try.prog 30 #[dptr b] w (fun e w' => e = .returned (.tuple #[]) ∧ RD b st.start rk w' D ∧ Upd D w w') := by
  have c3 : w.cell? ⟨b, 3, none⟩ = some (.bool st.down) := Owned.sc h rfl
  have f3 : w.frozen? ⟨b, 3, none⟩ = false := Owned.froz h (by simp [rflds])
  have H := Lib.hid (Owned.setSc h (i := 3) rfl (.bool false))
  have HB : D b := by obtain ⟨_, _, ho⟩ := h; exact ho.inD.1
  unfold dptr
  clear h
  go_enter Try.func30, Try.ntmps30
  go_wp2
  go_end0
  exact ⟨rfl, H.out, (Upd.refl _ w).setCell (p := ⟨b, 3, none⟩) (fun _ => HB) _⟩

theorem rd_lose (n : Int) : Calls Try.prog 48 #[dptr b, .int .i64 n] w (fun e w' => e = .returned (.tuple #[]) ∧ RD b (st.lose n) rk w' D ∧ Upd D w w') := by
  have c2 : w.cell? ⟨b, 2, none⟩ = some (.int .i64 st.lost) := Owned.sc h rfl
  have f2 : w.frozen? ⟨b, 2, none⟩ = false := Owned.froz h (by simp [rflds])
  have H := Owned.setSc h (i := 2) rfl (.int .i64 (max n 0))
  have HB : D b := by obtain ⟨_, _, ho⟩ := h; exact ho.inD.1
  have H' : Hid (RD b (st.lose n) rk (w.setCell ⟨b, 2, none⟩ (.int .i64 (max n 0))) D) := by
    have e : (max n 0 : Int) = ((n.toNat : Nat) : Int) := by omega
    rw [e] at H ⊢
    exact Lib.hid H
  unfold dptr
  clear h H
  go_enter Try.func48, Try.ntmps48
  go_wp2
  all_goals go_end0
  all_goals exact ⟨rfl, by first | exact H'.out | (have := H'.out; rwa [show max n 0 = 0 by omega] at this) | (have := H'.out; rwa [show max n 0 = n by omega] at this), (Upd.refl _ w).setCell (p := ⟨b, 2, none⟩) (fun _ => HB) _⟩

theorem rd_may (f : Int) : Calls Try.prog 51 #[dptr b, .int .i64 f] w (fun e w' => e = .returned (.int .i64 (if st.down then 8 else if bad f then 1 else 0)) ∧ w = w') := by
  have c3 : w.cell? ⟨b, 3, none⟩ = some (.bool st.down) := Owned.sc h rfl
  unfold dptr
  clear h
  cases hd : st.down with
  | true =>
    rw [hd] at c3
    clear hd
    go_enter Try.func51, Try.ntmps51
    go_wp2
    go_ret
    exact ⟨rfl, rfl⟩
  | false =>
    rw [hd] at c3
    clear hd
    by_cases h1 : f < 0
    · have e : bad f := .inl h1
      rw [if_pos e]
      clear e
      go_enter Try.func51, Try.ntmps51
      go_wp2
      go_ret
      exact ⟨rfl, rfl⟩
    · by_cases h2 : 11 < f
      · have e : bad f := .inr (by omega)
        rw [if_pos e]
        clear e
        go_enter Try.func51, Try.ntmps51
        go_wp2
        go_ret
        exact ⟨rfl, rfl⟩
      · have e : ¬ bad f := by unfold bad; omega
        rw [if_neg e]
        clear e
        go_enter Try.func51, Try.ntmps51
        go_wp2
        go_ret
        exact ⟨rfl, rfl⟩
end
end Go.Proofs.Ythfnnkfdpnkodaa
