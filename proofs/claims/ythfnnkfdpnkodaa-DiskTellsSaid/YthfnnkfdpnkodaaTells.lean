/- DiskTells walked. -/
import Derived.Test.YthfnnkfdpnkodaaRefTwin
import Derived.Deep.LoopGhost
namespace Go.Proofs.Ythfnnkfdpnkodaa
open Go.RowKit

/-- Where the law stands: the disk b and the reference's x, both in memory of the call's own, apart. -/
def Tl (B b x : Nat) (W w : World) (st sx : DSt) (rk : List Int) : Prop :=
  B ≤ w.heap.size ∧ Upd (fun k => B ≤ k) W w ∧ ∃ D : Nat → Prop, Disk w b (fun k => B ≤ k ∧ ¬ D k) st ∧ RD x sx rk w (fun k => B ≤ k ∧ D k)

theorem Tl.d {B b x : Nat} {W w : World} {st sx : DSt} {rk : List Int} (h : Tl B b x W w st sx rk) :
    ∃ F : Nat → Prop, (∀ k, F k → k < w.heap.size) ∧ (∀ k, k < B → F k) ∧ Disk w b (fun k => ¬ F k) st ∧ ∀ w' st', Disk w' b (fun k => ¬ F k) st' → Upd (fun k => ¬ F k) w w' → Tl B b x W w' st' sx rk := by
  obtain ⟨hB, hu, D, hd, hx⟩ := h
  refine ⟨fun k => k < w.heap.size ∧ (k < B ∨ D k), fun k hk => hk.1, fun k hk => ⟨by omega, .inl hk⟩, hd.mono fun k _ hk hf => hf.2.elim (fun h => by omega) hk.2, fun w' st' hd' hu' => ?_⟩
  have hs := hu'.size
  refine ⟨by omega, hu.trans hu' fun k hk hf => ?_, fun k => D k ∧ k < w.heap.size, hd'.mono fun k _ hk => ?_, ?_⟩
  · have hsz := hu.size
    by_cases hb : B ≤ k
    · exact hb
    · exact absurd ⟨by omega, .inl (by omega)⟩ hf
  · by_cases hkw : k < w.heap.size
    · exact ⟨by have := fun h => hk ⟨hkw, .inl h⟩; omega, fun h => hk ⟨hkw, .inr h.1⟩⟩
    · exact ⟨by omega, fun h => hkw h.2⟩
  · exact Owned.mono (Owned.upd (Owned.mono (D' := fun k => (B ≤ k ∧ D k) ∧ k < w.heap.size) hx fun k hk h => ⟨h, hk⟩) hu' fun k hk _ hf => hf ⟨hk.2, .inr hk.1.2⟩) fun k _ hk => ⟨hk.1.1, hk.1.2, hk.2⟩

theorem Tl.x {B b x : Nat} {W w : World} {st sx : DSt} {rk : List Int} (h : Tl B b x W w st sx rk) :
    ∃ F : Nat → Prop, (∀ k, F k → k < w.heap.size) ∧ (∀ k, k < B → F k) ∧ RD x sx rk w (fun k => ¬ F k) ∧ ∀ w' sx' rk', RD x sx' rk' w' (fun k => ¬ F k) → Upd (fun k => ¬ F k) w w' → Tl B b x W w' st sx' rk' := by
  obtain ⟨hB, hu, D, hd, hx⟩ := h
  refine ⟨fun k => k < w.heap.size ∧ (k < B ∨ ¬ D k), fun k hk => hk.1, fun k hk => ⟨by omega, .inl hk⟩, Owned.mono hx fun k _ hk hf => hf.2.elim (fun h => by omega) (fun h => h hk.2), fun w' sx' rk' hx' hu' => ?_⟩
  have hs := hu'.size
  refine ⟨by omega, hu.trans hu' fun k hk hf => ?_, fun k => D k ∨ w.heap.size ≤ k, ?_, Owned.mono hx' fun k _ hk => ?_⟩
  · have hsz := hu.size
    by_cases hb : B ≤ k
    · exact hb
    · exact absurd ⟨by omega, .inl (by omega)⟩ hf
  · exact ((hd.mono (D' := fun k => (B ≤ k ∧ ¬ D k) ∧ k < w.heap.size) fun k hk h => ⟨h, hk⟩).upd hu' fun k hk _ hf => hf ⟨hk.2, .inr hk.1.2⟩).mono fun k _ hk => ⟨hk.1.1, fun h => h.elim hk.1.2 (fun h => by have := hk.2; omega)⟩
  · by_cases hkw : k < w.heap.size
    · have h1 : B ≤ k := by have := fun h => hk ⟨hkw, .inl h⟩; omega
      exact ⟨h1, .inl (Classical.byContradiction fun h => hk ⟨hkw, .inr h⟩)⟩
    · exact ⟨by omega, .inr (by omega)⟩

theorem Tl.still {B b x : Nat} {W w w' : World} {st sx : DSt} {rk : List Int} (h : Tl B b x W w st sx rk) (u : Upd (fun _ => False) w w') : Tl B b x W w' st sx rk := by
  obtain ⟨hB, hu, D, hd, hx⟩ := h
  exact ⟨Nat.le_trans hB u.size, hu.trans u fun _ _ h => h.elim, D, hd.still u, Owned.still hx u⟩

/-- The same with a copy c of the disk. -/
def Tl3 (B b c x : Nat) (W w : World) (st sc sx : DSt) (rk : List Int) : Prop :=
  B ≤ w.heap.size ∧ Upd (fun k => B ≤ k) W w ∧ ∃ D E : Nat → Prop, Disk w b (fun k => B ≤ k ∧ ¬ D k ∧ ¬ E k) st ∧ Disk w c (fun k => B ≤ k ∧ E k ∧ ¬ D k) sc ∧ RD x sx rk w (fun k => B ≤ k ∧ D k)

theorem Tl3.b {B b c x : Nat} {W w : World} {st sc sx : DSt} {rk : List Int} (h : Tl3 B b c x W w st sc sx rk) :
    ∃ F : Nat → Prop, (∀ k, F k → k < w.heap.size) ∧ Disk w b (fun k => ¬ F k) st ∧ ∀ w' st', Disk w' b (fun k => ¬ F k) st' → Upd (fun k => ¬ F k) w w' → Tl3 B b c x W w' st' sc sx rk := by
  obtain ⟨hB, hu, D, E, hd, hc, hx⟩ := h
  refine ⟨fun k => k < w.heap.size ∧ (k < B ∨ D k ∨ E k), fun k hk => hk.1, hd.mono fun k _ hk hf => hf.2.elim (fun h => by omega) (fun h => h.elim hk.2.1 hk.2.2), fun w' st' hd' hu' => ?_⟩
  have hs := hu'.size
  refine ⟨by omega, hu.trans hu' fun k hk hf => ?_, fun k => D k ∧ k < w.heap.size, fun k => E k ∧ k < w.heap.size, hd'.mono fun k _ hk => ?_, ?_, ?_⟩
  · have hsz := hu.size
    by_cases hb : B ≤ k
    · exact hb
    · exact absurd ⟨by omega, .inl (by omega)⟩ hf
  · by_cases hkw : k < w.heap.size
    · exact ⟨by have := fun h => hk ⟨hkw, .inl h⟩; omega, fun h => hk ⟨hkw, .inr (.inl h.1)⟩, fun h => hk ⟨hkw, .inr (.inr h.1)⟩⟩
    · exact ⟨by omega, fun h => hkw h.2, fun h => hkw h.2⟩
  · exact ((hc.mono (D' := fun k => (B ≤ k ∧ E k ∧ ¬ D k) ∧ k < w.heap.size) fun k hk h => ⟨h, hk⟩).upd hu' fun k hk _ hf => hf ⟨hk.2, .inr (.inr hk.1.2.1)⟩).mono fun k _ hk => ⟨hk.1.1, ⟨hk.1.2.1, hk.2⟩, fun h => hk.1.2.2 h.1⟩
  · exact Owned.mono (Owned.upd (Owned.mono (D' := fun k => (B ≤ k ∧ D k) ∧ k < w.heap.size) hx fun k hk h => ⟨h, hk⟩) hu' fun k hk _ hf => hf ⟨hk.2, .inr (.inl hk.1.2)⟩) fun k _ hk => ⟨hk.1.1, hk.1.2, hk.2⟩

theorem Tl3.drop {B b c x : Nat} {W w : World} {st sc sx : DSt} {rk : List Int} (h : Tl3 B b c x W w st sc sx rk) : Tl B c x W w sc sx rk := by
  obtain ⟨hB, hu, D, E, hd, hc, hx⟩ := h
  exact ⟨hB, hu, D, hc.mono fun k _ hk => ⟨hk.1, hk.2.2⟩, hx⟩

theorem tl_copy {B b x : Nat} {W w : World} {st sx : DSt} {rk : List Int} (h : Tl B b x W w st sx rk) {n : Nat} (hg : Fit st n) (hn : n ≤ 1000000000000) :
    Calls Try.prog 24 #[dptr b] w (fun e w' => ∃ c, e = .returned (dptr c) ∧ Tl3 B b c x W w' st st sx rk) := by
  obtain ⟨hB, hu, D, hd, hx⟩ := h
  refine (law_copy (fun k => k < w.heap.size ∧ (k < B ∨ D k)) b st w (hd.mono fun k _ hk hf => hf.2.elim (fun h => by omega) hk.2) n hg (by omega)).mono ?_
  rintro e w' ⟨c, rfl, h1, h2, h3⟩
  have hs := h3.size
  refine ⟨c, rfl, by omega, hu.trans h3 fun _ _ h => h.elim, fun k => D k ∧ k < w.heap.size, fun k => w.heap.size ≤ k, h1.mono fun k _ hk => ?_, h2.mono fun k _ hk => ⟨by omega, hk, fun h => by omega⟩, ?_⟩
  · have h4 := hk.2
    have h5 : ¬ (k < B ∨ D k) := fun h => hk.1 ⟨hk.2, h⟩
    exact ⟨by omega, fun h => h5 (.inr h.1), by omega⟩
  · exact Owned.mono (Owned.still (Owned.mono (D' := fun k => (B ≤ k ∧ D k) ∧ k < w.heap.size) hx fun k hk h => ⟨h, hk⟩) h3) fun k _ hk => ⟨hk.1.1, hk.1.2, hk.2⟩

theorem tl_rcopy {B b x : Nat} {W w : World} {st sx : DSt} {rk : List Int} (h : Tl B b x W w st sx rk) {n : Nat} (hg : Fit sx n) (hn : n ≤ 1000000000000) (hk : rk.length ≤ 17592186044416) :
    Calls Try.prog 26 #[dptr x] w (fun e w' => ∃ c, e = .returned (dptr c) ∧ Tl B b c W w' st sx rk) := by
  obtain ⟨hB, hu, D, hd, hx⟩ := h
  refine (rcopy_any x sx rk w _ hx (by have := hg.pend; omega) hk).mono ?_
  rintro e w' ⟨c, rfl, h1, h2⟩
  have hs := h2.size
  refine ⟨c, rfl, by omega, hu.trans h2 fun _ _ h => h.elim, fun k => w.heap.size ≤ k, ?_, Owned.mono h1 fun k _ hk => ⟨by omega, hk⟩⟩
  exact ((hd.mono (D' := fun k => (B ≤ k ∧ ¬ D k) ∧ k < w.heap.size) fun k hk h => ⟨h, hk⟩).still h2).mono fun k _ hk => ⟨hk.1.1, by have := hk.2; omega⟩

/-- The head of a round. -/
def TlRel (B : Nat) (W : World) (acts : List ActV) (d x i : Value) (w : World) : Prop :=
  ∃ (k b y : Nat) (st : DSt) (rk : List Int), d = dptr b ∧ x = dptr y ∧ i = .int .i64 k ∧ k ≤ acts.length ∧ Tl B b y W w st st rk ∧ Fit st (actSum (acts.take k)) ∧ RInv st rk ∧ rk.length ≤ 17592186044416

def TlMid (B : Nat) (W : World) (st : DSt) (rk : List Int) (d x : Value) (w : World) : Prop :=
  ∃ b y : Nat, d = dptr b ∧ x = dptr y ∧ Tl B b y W w st st rk

def TlFin (B b y : Nat) (W : World) (st : DSt) (rk : List Int) (j : Value) (w : World) : Prop :=
  ∃ f : Nat, j = .int .i64 f ∧ f ≤ 12 ∧ Tl B b y W w st st rk
end Go.Proofs.Ythfnnkfdpnkodaa
