/- slices.Clone at bytes, numbers and pending writes; Arm; Crash. -/
import Derived.Test.YthfnnkfdpnkodaaTurn2
import Derived.WalkSpells
import Derived.Deep.MidRow
namespace Go.Proofs.Ythfnnkfdpnkodaa
open Go.RowKit

theorem E23 : Elem Try.prog 23 3 1 8 := .of (z := .int .i64 0) (by kernel_rfl) (by kernel_rfl) (by kernel_rfl)

def Cloned (e : TypeId) (sz n : Nat) (xs : List Value) (w : World) (en : Ending) (w' : World) : Prop :=
  ∃ v' g', en = .returned v' ∧ Row w' e sz v' g' n xs ∧ (∀ k, g' = some k → w.heap.size ≤ k) ∧ Upd (fun _ => False) w w'



theorem clone_int_src (a : Option Addr) (n cap : Nat) (xs : List Value) (w : World) (hz : a = none → n = 0 ∧ xs = []) (hsrc : ∀ o, Src Try.prog 1 23 (.slice a n cap) n xs (w.alloc o)) (hn : n ≤ 17592186044416) :
    Calls Try.prog 37 #[.slice a n cap] w (Cloned 3 1 n xs w) := by
  have heq := fun w => Lib.run_eql_slice_nil (P := Try.prog) w 23 3 a n cap 0 0 (by kernel_rfl)
  cases a with
  | none =>
    obtain ⟨rfl, rfl⟩ := hz rfl
    go_enter Try.func37, Try.ntmps37
    go_wp2
    go_ret
    exact ⟨.slice none 0 0, none, rfl, Row.empty _ _ _, (fun _ h => by cases h), Upd.refl _ _⟩
  | some ad =>
    have hlit : Row (w.alloc (.cells #[] 3)) 3 1 (.slice (some ⟨w.heap.size, 0, none⟩) 0 0) (some w.heap.size) 0 [] := Row.lit w 3 1 0 #[] (Nat.zero_le _) (by simp)
    have HL := Lib.hid hlit; clear hlit
    have HR := Lib.hid hsrc
    clear hsrc hz
    go_enter Try.func37, Try.ntmps37
    go_wp2_with (at_builtin; refine wpList_append_row rfl (.tmp 5) (.tmp 6) 23 23 rfl 3 1 8 E23 _ _ _ [] rfl HL.out _ n xs rfl ?src n ?nn xs ?xx ?b1 ?b2 ?_)
    case src => exact HR.out _
    case nn => omega
    case xx => rfl
    case b1 => unfold maxLen; omega
    case b2 => omega
    intro v3 w3 g3 hrow3 hg3 hu3
    go_wp2
    go_ret
    refine ⟨v3, g3, rfl, hrow3, fun k hk => ?_, ((Upd.refl (fun _ => False) w).alloc (.cells #[] 3)).trans hu3 (fun k hk h => by omega)⟩
    rcases hg3.some hk with h | h
    · have := Option.some.inj h; omega
    · rw [h]; simp

theorem clone_int (v : Value) (g : Option Nat) (n : Nat) (xs : List Value) (w : World) (hrow : Row w 3 1 v g n xs) (h1 : ∀ u ∈ xs, u.oneCell' = true) (hn : n ≤ 17592186044416) :
    Calls Try.prog 37 #[v] w (Cloned 3 1 n xs w) := by
  obtain ⟨a, cap, rfl, hc1, hc2⟩ := hrow.form
  refine clone_int_src a n cap xs w (fun h => ?_) (fun o => Row.src (P := Try.prog) (e' := 3) (by kernel_rfl) (hrow.of_heap (fun k hk => heap_alloc_old w _ (hrow.lt hk))) h1) hn
  subst h
  have hn0 : n = 0 := by
    rcases hrow.2 with ⟨_, _, h⟩ | ⟨_, _, _, h, _⟩
    · exact h
    · cases h
  subst hn0
  exact ⟨rfl, List.eq_nil_of_length_eq_zero (by simpa using hrow.1)⟩


theorem clone_u8_src (a : Option Addr) (n cap : Nat) (xs : List Value) (w : World) (hz : a = none → n = 0 ∧ xs = []) (hsrc : ∀ o, Src Try.prog 1 51 (.slice a n cap) n xs (w.alloc o)) (hn : n ≤ 4398046511104) :
    Calls Try.prog 41 #[.slice a n cap] w (Cloned 5 1 n xs w) := by
  have heq := fun w => Lib.run_eql_slice_nil (P := Try.prog) w 51 5 a n cap 0 0 (by kernel_rfl)
  cases a with
  | none =>
    obtain ⟨rfl, rfl⟩ := hz rfl
    go_enter Try.func41, Try.ntmps41
    go_wp2
    go_ret
    exact ⟨.slice none 0 0, none, rfl, Row.empty _ _ _, (fun _ h => by cases h), Upd.refl _ _⟩
  | some ad =>
    have hlit : Row (w.alloc (.cells #[] 5)) 5 1 (.slice (some ⟨w.heap.size, 0, none⟩) 0 0) (some w.heap.size) 0 [] := Row.lit w 5 1 0 #[] (Nat.zero_le _) (by simp)
    have HL := Lib.hid hlit; clear hlit
    have HR := Lib.hid hsrc
    clear hsrc hz
    go_enter Try.func41, Try.ntmps41
    go_wp2_with (at_builtin; refine wpList_append_row rfl (.tmp 5) (.tmp 6) 51 51 rfl 5 1 1 E51 _ _ _ [] rfl HL.out _ n xs rfl ?src n ?nn xs ?xx ?b1 ?b2 ?_)
    case src => exact HR.out _
    case nn => omega
    case xx => rfl
    case b1 => unfold maxLen; omega
    case b2 => omega
    intro v3 w3 g3 hrow3 hg3 hu3
    go_wp2
    go_ret
    refine ⟨v3, g3, rfl, hrow3, fun k hk => ?_, ((Upd.refl (fun _ => False) w).alloc (.cells #[] 5)).trans hu3 (fun k hk h => by omega)⟩
    rcases hg3.some hk with h | h
    · have := Option.some.inj h; omega
    · rw [h]; simp

theorem clone_u8 (v : Value) (g : Option Nat) (n : Nat) (xs : List Value) (w : World) (hrow : Row w 5 1 v g n xs) (h1 : ∀ u ∈ xs, u.oneCell' = true) (hn : n ≤ 4398046511104) :
    Calls Try.prog 41 #[v] w (Cloned 5 1 n xs w) := by
  obtain ⟨a, cap, rfl, hc1, hc2⟩ := hrow.form
  refine clone_u8_src a n cap xs w (fun h => ?_) (fun o => Row.src (P := Try.prog) (e' := 5) (by kernel_rfl) (hrow.of_heap (fun k hk => heap_alloc_old w _ (hrow.lt hk))) h1) hn
  subst h
  have hn0 : n = 0 := by
    rcases hrow.2 with ⟨_, _, h⟩ | ⟨_, _, _, h, _⟩
    · exact h
    · cases h
  subst hn0
  exact ⟨rfl, List.eq_nil_of_length_eq_zero (by simpa using hrow.1)⟩



theorem clone_write_src (a : Option Addr) (n cap : Nat) (xs : List Value) (w : World) (hz : a = none → n = 0 ∧ xs = []) (hsrc : ∀ o, Src Try.prog 3 55 (.slice a n cap) n xs (w.alloc o)) (hn : n ≤ 1099511627776) :
    Calls Try.prog 42 #[.slice a n cap] w (Cloned 60 3 n xs w) := by
  have heq := fun w => Lib.run_eql_slice_nil (P := Try.prog) w 55 60 a n cap 0 0 (by kernel_rfl)
  cases a with
  | none =>
    obtain ⟨rfl, rfl⟩ := hz rfl
    go_enter Try.func42, Try.ntmps42
    go_wp2
    go_ret
    exact ⟨.slice none 0 0, none, rfl, Row.empty _ _ _, (fun _ h => by cases h), Upd.refl _ _⟩
  | some ad =>
    have hlit : Row (w.alloc (.cells #[] 60)) 60 3 (.slice (some ⟨w.heap.size, 0, none⟩) 0 0) (some w.heap.size) 0 [] := Row.lit w 60 3 0 #[] (Nat.zero_le _) (by simp)
    have HL := Lib.hid hlit; clear hlit
    have HR := Lib.hid hsrc
    clear hsrc hz
    go_enter Try.func42, Try.ntmps42
    go_wp2_with (at_builtin; refine wpList_append_row rfl (.tmp 5) (.tmp 6) 55 55 rfl 60 3 32 E55 _ _ _ [] rfl HL.out _ n xs rfl ?src n ?nn xs ?xx ?b1 ?b2 ?_)
    case src => exact HR.out _
    case nn => omega
    case xx => rfl
    case b1 => unfold maxLen; omega
    case b2 => omega
    intro v3 w3 g3 hrow3 hg3 hu3
    go_wp2
    go_ret
    refine ⟨v3, g3, rfl, hrow3, fun k hk => ?_, ((Upd.refl (fun _ => False) w).alloc (.cells #[] 60)).trans hu3 (fun k hk h => by omega)⟩
    rcases hg3.some hk with h | h
    · have := Option.some.inj h; omega
    · rw [h]; simp

theorem clone_write (v : Value) (g : Option Nat) (n : Nat) (xs : List Value) (w : World) (hrow : Row w 60 3 v g n xs) (h1 : ∀ u ∈ xs, u.oneCell' = true) (hn : n ≤ 1099511627776) :
    Calls Try.prog 42 #[v] w (Cloned 60 3 n xs w) := by
  obtain ⟨a, cap, rfl, hc1, hc2⟩ := hrow.form
  refine clone_write_src a n cap xs w (fun h => ?_) (fun o => Row.src (P := Try.prog) (e' := 60) (by kernel_rfl) (hrow.of_heap (fun k hk => heap_alloc_old w _ (hrow.lt hk))) h1) hn
  subst h
  have hn0 : n = 0 := by
    rcases hrow.2 with ⟨_, _, h⟩ | ⟨_, _, _, h, _⟩
    · exact h
    · cases h
  subst hn0
  exact ⟨rfl, List.eq_nil_of_length_eq_zero (by simpa using hrow.1)⟩


theorem intsV_one (ks : List Int) : ∀ u ∈ intsV ks, u.oneCell' = true := by
  intro u hu
  unfold intsV at hu
  obtain ⟨_, _, rfl⟩ := List.mem_map.1 hu
  rfl

theorem IntsAt.src {w : World} {a : Option Addr} {ks : List Int} {c kb : Nat} (h : IntsAt w (.slice a ks.length c) ks kb) (o : Obj) : Src Try.prog 1 23 (.slice a ks.length c) ks.length (intsV ks) (w.alloc o) := by
  by_cases hn : 0 < ks.length
  · obtain ⟨ko, rfl, _⟩ := h.cells _ _ rfl 0 hn
    refine Src.ofSlice (e' := 3) _ (by kernel_rfl) ⟨kb, ko, none⟩ ks.length c _ (by simp [intsV]) (fun j u hj => ?_) (intsV_one ks)
    have hjl : j < ks.length := by have := (List.getElem?_eq_some_iff.1 hj).1; simpa [intsV] using this
    obtain ⟨ko', hk, hc⟩ := h.cells _ _ rfl j hjl
    cases hk
    rw [intsV_get hjl] at hj
    cases hj
    rw [Addr.add_lit, World.cell?_alloc_past _ _ _ (h.lt hn)]
    exact hc
  · have : ks = [] := List.eq_nil_of_length_eq_zero (by omega)
    subst this
    cases a with
    | none => exact Src.ofNil (e' := 3) _ (by kernel_rfl) c
    | some ad => exact Src.ofSlice (e' := 3) _ (by kernel_rfl) ad 0 c [] rfl (fun j u hj => by cases hj) (fun _ h => by cases h)

theorem Upd.setBoth {S : Nat → Prop} {w w' : World} (u : Upd S w w') {b : Nat} (hb : ¬ S b) (hlt : b < w.heap.size) (o : Nat) (x : Value) : Upd S (w.setCell ⟨b, o, none⟩ x) (w'.setCell ⟨b, o, none⟩ x) := by
  refine ⟨u.os, u.tape, u.output, by simpa [World.setCell] using u.size, fun k hk hn => ?_⟩
  have hk' : k < w.heap.size := by simpa [World.setCell] using hk
  have := u.block k hk' hn
  simp only [World.setCell, Array.getElem?_modify, this]

def DSt.arm (st : DSt) (n : Int) (ks : List Int) : DSt := { st with armed := n.toNat, keep := ks }

set_option maxHeartbeats 800000 in
theorem Arm_any (b : Nat) (n : Int) (D : Nat → Prop) (st : DSt) (w : World) (h : Disk w b D st) (keep : Value) (ks : List Int) (kb : Nat) (hks : IntsAt w keep ks kb) (hnil : ∀ a c, keep = .slice a ks.length c → a = none → ks = []) (hkl : ks.length ≤ 17592186044416) :
    Calls Try.prog 19 #[dptr b, .int .i64 n, keep] w (Moved b D w (.tuple #[]) (st.arm n ks)) := by
  obtain ⟨a, c, rfl, hl⟩ := hks.form
  obtain ⟨own, dv, pv, kv, hr, hb, ho⟩ := h
  have HC := Lib.hid (clone_int_src a ks.length c (intsV ks) w (fun h => by have := hnil _ _ rfl h; subst this; exact ⟨rfl, rfl⟩) hks.src hkl)
  clear hks hnil
  go_enter Try.func19, Try.ntmps19
  go_wp2_with fail
  all_goals
    refine HC.out.mono ?_
    rintro e w1 ⟨v', g', rfl, hrow, hg, hu⟩
    obtain ⟨ha', hc', rfl, _, _⟩ := hrow.form
    have hr1 := hr.upd hu (fun h => h) (fun _ _ _ _ h => h)
    have HR1 := Lib.hid hr1
    have HROW := Lib.hid hrow
    have HU := Lib.hid hu
    have HG := Lib.hid hg
    have c27 := hr1.carmed
    have f27 := hr1.froz (o := 27) (by omega)
    have c28 := hr1.ckeep
    have f28 := hr1.froz (o := 28) (by omega)
    clear hr1 hu hg hrow
    go_wp2
    go_end0
    have hblt := hr.blk.lt
    have hset : ∀ x : Nat, DRep _ b _ _ _ _ _ := fun x => (hr.setArmed x).setKeep (HU.out.setBoth (fun h => h) hblt 27 (.int .i64 x)) (fun _ h => h.elim) (HROW.out.of_heap fun k hk => heap_setCell_other w1 b 27 _ (fun e => by have := HG.out k hk; omega)) (fun k hk => .inr (by have := HG.out k hk; simpa [World.setCell] using this))
    have hset := hset n.toNat
    first
      | rw [show ((n.toNat : Nat) : Int) = 0 by omega] at hset
      | rw [show ((n.toNat : Nat) : Int) = n by omega] at hset
    refine ⟨rfl, ⟨_, _, _, _, hset, .inl hb, foot_up (fun i k hi h => .inl (ho i k hi h)) (by omega) (fun k hk => .inr (HG.out k hk))⟩, ((HU.out.mono (fun _ _ h => h.elim)).setCell (p := ⟨b, 27, none⟩) (fun _ => hb) _).setCell (p := ⟨b, 28, none⟩) (fun _ => hb) _⟩
end Go.Proofs.Ythfnnkfdpnkodaa
