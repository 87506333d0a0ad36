/- The closures of forget and Turn; slices.IndexFunc, ContainsFunc and DeleteFunc at pending writes. -/
import Derived.Test.YthfnnkfdpnkodaaWrite
namespace Go.Proofs.Ythfnnkfdpnkodaa
open Go.RowKit

theorem Disk.stay {w w' : World} {b : Nat} {D : Nat → Prop} {st : DSt} (h : Disk w b D st) (u : Upd (fun _ => False) w w') : Disk w' b (After D w) st :=
  (h.upd u (fun _ _ _ h => h)).mono (fun _ _ hk => .inl hk)

/-- What a closure of the disk's says of a pending write. -/
structure Clo (c : Nat) : Prop where
  enter : ∀ (args : Array Value) (w : World), (callFunc c args).run Try.prog w = .ok (.enter c args) w
  says : ∀ (bx : Nat) (f a0 a1 : Int) (s : ByteArray) (w : World), w.cell? ⟨bx, 0, none⟩ = some (.int .i64 f) → bx < w.heap.size →
    Calls Try.prog c #[.agg #[.int .i64 a0, .int .i64 a1, .string s], .pointer (some ⟨bx, 0, none⟩)] w fun e w' => e = .returned (.bool (a0 == f)) ∧ Upd (fun _ => False) w w'

theorem clo_forget : Clo 63 := by
  refine ⟨fun _ _ => by kernel_rfl, ?_⟩
  intro bx f a0 a1 s w hc hb
  go_enter Try.func63, Try.ntmps63
  go_wp2
  go_ret
  exact ⟨rfl, (Upd.refl _ _).alloc _⟩

theorem clo_turn : Clo 53 := by
  refine ⟨fun _ _ => by kernel_rfl, ?_⟩
  intro bx f a0 a1 s w hc hb
  go_enter Try.func53, Try.ntmps53
  go_wp2
  go_ret
  exact ⟨rfl, (Upd.refl _ _).alloc _⟩

def idxP (f : Nat) : List Pc → Nat
  | [] => 0
  | p :: ps => if p.f = f then 0 else idxP f ps + 1

theorem pendV_length (ps : List Pc) : (pendV ps).length = ps.length * 3 := by
  induction ps with
  | nil => rfl
  | cons p ps ih => simp only [pendV, List.flatMap_cons, List.length_append, List.length_cons] at *; rw [ih]; simp [Pc.cells]; omega

theorem pendV_get : ∀ (ps : List Pc) (k : Nat) (hk : k < ps.length), (pendV ps)[k * 3]? = some (.int .i64 (ps[k].f : Int)) ∧ (pendV ps)[k * 3 + 1]? = some (.int .i64 (ps[k].at_ : Int)) ∧ (pendV ps)[k * 3 + 2]? = some (strV ps[k].s)
  | p :: ps, 0, _ => by simp [pendV, Pc.cells]
  | p :: ps, k + 1, hk => by
    have := pendV_get ps k (by simpa using hk)
    simp only [pendV, List.flatMap_cons, Pc.cells] at *
    simp only [show (k + 1) * 3 = k * 3 + 3 by omega, show k * 3 + 3 + 1 = (k * 3 + 1) + 3 by omega, show k * 3 + 3 + 2 = (k * 3 + 2) + 3 by omega]
    simpa using this

theorem Row.pcell {w : World} {e : TypeId} {g : Option Nat} {ps : List Pc} {ab cap k : Nat} (h : Row w e 3 (.slice (some ⟨ab, 0, none⟩) ps.length cap) g ps.length (pendV ps)) (hk : k < ps.length) :
    w.cell? ⟨ab, k * 3, none⟩ = some (.int .i64 (ps[k].f : Int)) ∧ w.cell? ⟨ab, k * 3 + 1, none⟩ = some (.int .i64 (ps[k].at_ : Int)) ∧ w.cell? ⟨ab, k * 3 + 2, none⟩ = some (strV ps[k].s) := by
  obtain ⟨b', cap', hv, hg, _, _⟩ := h.pos (by omega)
  cases hv
  obtain ⟨h1, h2, h3⟩ := pendV_get ps k hk
  exact ⟨h.cell hg h1, h.cell hg h2, h.cell hg h3⟩

def IRel (bx f : Nat) (w : World) (ps : List Pc) (i : Value) (wr : World) : Prop :=
  ∃ k : Nat, i = .int .i64 k ∧ k ≤ ps.length ∧ (∀ j (hj : j < ps.length), j < k → ps[j].f ≠ f) ∧ Upd (fun _ => False) w wr

set_option maxHeartbeats 800000 in
theorem index_any (c : Nat) (hclo : Clo c) (bx f : Nat) (v : Value) (g : Option Nat) (ps : List Pc) (w : World) (hrow : Row w 60 3 v g ps.length (pendV ps)) (hbx : w.cell? ⟨bx, 0, none⟩ = some (.int .i64 (f : Int))) (hbl : bx < w.heap.size) :
    Calls Try.prog 61 #[v, .func (.func c) #[] #[.pointer (some ⟨bx, 0, none⟩)]] w fun e w' =>
      (∃ k : Nat, ∃ hk : k < ps.length, e = .returned (.int .i64 k) ∧ ps[k].f = f ∧ (∀ j (hj : j < ps.length), j < k → ps[j].f ≠ f) ∧ Upd (fun _ => False) w w') ∨
      (e = .returned (.int .i64 (-1)) ∧ (∀ p ∈ ps, p.f ≠ f) ∧ Upd (fun _ => False) w w') := by
  obtain ⟨a, cap, rfl, hc1, hc2⟩ := hrow.form
  unfold maxLen at hc2
  go_enter Try.func61, Try.ntmps61
  go_wp2
  go_loopw [8] (fun i wr => IRel bx f w ps i wr) (fun i _ => ps.length - (intOf i).toNat)
  case atStart => exact ⟨0, rfl, Nat.zero_le _, fun j _ h => absurd h (Nat.not_lt_zero _), Upd.refl _ _⟩
  case round =>
    obtain ⟨k, rfl, hk, hno, hu⟩ := hrel
    by_cases hlt : k < ps.length
    · obtain ⟨ab, cap', hv, hg, _, _⟩ := hrow.pos (by omega)
      cases hv
      have hrow' := hrow.upd hu (fun _ _ h => h)
      obtain ⟨h1, h2, h3⟩ := hrow'.pcell hlt
      unfold strV at h3
      have hent := hclo.enter
      have hb1 : bx < wr.heap.size := Nat.lt_of_lt_of_le hbl hu.size
      have hbx' : wr.cell? ⟨bx, 0, none⟩ = some (.int .i64 (f : Int)) := by rw [World.cell?_of_block (w := w) (hu.block bx hbl (fun h => h))]; exact hbx
      have hsay := Lib.hid (hclo.says bx f ps[k].f ps[k].at_ ⟨ps[k].s.toArray⟩ wr hbx' hb1)
      by_cases hp : ps[k].f = f
      · have hp1 : ((ps[k].f : Int) == (f : Int)) = true := by simp [hp]
        rw [hp1] at hsay
        have HP := Lib.hid hp; clear hp
        go_wp2_with fail
        refine hsay.out.mono ?_
        rintro e w1 ⟨rfl, hu1⟩
        go_wp2
        go_ret
        exact .inl ⟨k, hlt, rfl, HP.out, hno, hu.trans hu1 (fun _ _ h => h)⟩
      · have hp1 : ((ps[k].f : Int) == (f : Int)) = false := beq_eq_false_iff_ne.2 (by omega)
        rw [hp1] at hsay
        have HP := Lib.hid hp; clear hp
        have HN := Lib.hid hno; clear hno
        go_wp2_with fail
        refine hsay.out.mono ?_
        rintro e w1 ⟨rfl, hu1⟩
        go_wp2
        go_roundw
        case rel =>
          refine ⟨k + 1, by simp, by omega, fun j hj hjk => ?_, hu.trans hu1 (fun _ _ h => h)⟩
          by_cases e : j = k
          · subst e; exact HP.out
          · exact HN.out j hj (by omega)
        case measure => simp [intOf]; omega
    · have hke : k = ps.length := by omega
      subst hke
      have HN := Lib.hid hno; clear hno
      go_wp2
      go_ret
      refine .inr ⟨rfl, fun p hp => ?_, hu⟩
      obtain ⟨j, hj, rfl⟩ := List.getElem_of_mem hp
      exact HN.out j hj hj
end Go.Proofs.Ythfnnkfdpnkodaa
