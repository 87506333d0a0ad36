/- The acts on other files: 'without' walked. -/
import Derived.Test.YthfnnkfdpnkodaaLastPlain
namespace Go.Proofs.Ythfnnkfdpnkodaa
open Go.RowKit

def actsV (l : List ActV) : List Value := l.flatMap fun a => a.cells.toList
theorem EAct : Elem Try.prog 22 30 6 72 := .of (z := .agg #[.int .i64 0, .int .i64 0, .int .i64 0, .int .i64 0, .string ByteArray.empty, .slice none 0 0]) (by kernel_rfl) (by kernel_rfl) (by kernel_rfl)

theorem actsV_length (l : List ActV) : (actsV l).length = l.length * 6 := by
  induction l with
  | nil => rfl
  | cons a l ih =>
    unfold actsV at *
    rw [List.flatMap_cons, List.length_append, ih]
    simp [ActV.cells]
    omega

theorem actsV_get : ∀ (l : List ActV) (k : Nat) (hk : k < l.length) (i : Nat) (hi : i < 6), (actsV l)[k * 6 + i]? = some (l[k].cells[i]'hi)
  | [], k, hk, _, _ => absurd hk (Nat.not_lt_zero _)
  | a :: l, 0, _, i, hi => by
    unfold actsV
    rw [List.flatMap_cons, List.getElem?_append_left (by simp [ActV.cells]; omega), Nat.zero_mul, Nat.zero_add, Array.getElem?_toList]
    exact Array.getElem?_eq_getElem hi
  | a :: l, k + 1, hk, i, hi => by
    have ih := actsV_get l k (by simpa using hk) i hi
    unfold actsV at *
    rw [List.flatMap_cons, List.getElem?_append_right (by simp [ActV.cells]; omega)]
    rw [show (k + 1) * 6 + i - a.cells.toList.length = k * 6 + i by simp [ActV.cells]; omega]
    exact ih

theorem actsV_snoc (l : List ActV) (a : ActV) : actsV (l ++ [a]) = actsV l ++ a.cells.toList := by
  unfold actsV; simp

theorem actsV_one (l : List ActV) (h : ∀ a ∈ l, ∃ q c, a.keep = .slice q a.ks.length c) : ∀ u ∈ actsV l, u.oneCell' = true := by
  intro u hu
  unfold actsV at hu
  obtain ⟨a, ha, hu⟩ := List.mem_flatMap.1 hu
  obtain ⟨q, c, hq⟩ := h a ha
  simp only [ActV.cells, List.mem_cons, List.not_mem_nil, or_false] at hu
  rcases hu with rfl | rfl | rfl | rfl | rfl | rfl <;> first | rfl | (rw [hq]; rfl)

theorem Row.actsAt {w : World} {v : Value} {g : Option Nat} {l : List ActV} (h : Row w 30 6 v g l.length (actsV l)) : ActsAt w v l := by
  obtain ⟨a, c, hv, hc1, hc2⟩ := h.form
  unfold maxLen at hc2
  refine ⟨⟨a, c, hv, by omega⟩, fun a' c' hv' j hj => ?_⟩
  obtain ⟨b', cap', hv2, hg, _, _⟩ := h.pos (by omega)
  rw [hv'] at hv2
  cases hv2
  refine ⟨b', 0, rfl, fun i hi => ?_⟩
  rw [Nat.zero_add]
  exact h.cell hg (actsV_get l j hj i hi)

theorem others_snoc (f : Nat) (l : List ActV) (k : Nat) (hk : k < l.length) : others f (l.take (k + 1)) = if l[k].f ≠ f then others f (l.take k) ++ [l[k]] else others f (l.take k) := by
  unfold others
  rw [List.take_succ_eq_append_getElem hk, List.filter_append]
  by_cases h : l[k].f ≠ f
  · rw [if_pos h]; simp [h]
  · rw [if_neg h]; simp at h; simp [h]

theorem others_mem {f : Nat} {l : List ActV} {a : ActV} (h : a ∈ others f l) : a ∈ l := (List.mem_filter.1 h).1
theorem others_len (f : Nat) (l : List ActV) : (others f l).length ≤ l.length := List.length_filter_le _ _

def WoRel (f : Nat) (w : World) (sn : List ActV) (out i : Value) (wr : World) : Prop :=
  ∃ (k : Nat) (g : Option Nat), i = .int .i64 k ∧ k ≤ sn.length ∧ Row wr 30 6 out g (others f (sn.take k)).length (actsV (others f (sn.take k))) ∧ (∀ b, g = some b → w.heap.size ≤ b) ∧ Upd (fun _ => False) w wr

def WoPost (f : Nat) (sn : List ActV) (w : World) (e : Ending) (w' : World) : Prop :=
  ∃ v g, e = .returned v ∧ Row w' 30 6 v g (others f sn).length (actsV (others f sn)) ∧ (∀ b, g = some b → w.heap.size ≤ b) ∧ Upd (fun _ => False) w w'

set_option maxHeartbeats 1600000 in
theorem without_any (v : Value) (sn : List ActV) (f : Nat) (w : World) (h : ActsAt w v sn) (hk : ∀ a ∈ sn, ∃ q c, a.keep = .slice q a.ks.length c) (hlen : sn.length ≤ 1000) :
    Calls Try.prog 15 #[v, .int .i64 (f : Int)] w (WoPost f sn w) := by
  obtain ⟨a, c, rfl, hl⟩ := h.form
  have HC := Lib.hid (h.cells a c rfl)
  have HK := Lib.hid hk
  clear h hk
  have h0 : Hid (WoRel f w sn (.slice none 0 0) (.int .i64 0) w) := ⟨0, none, rfl, Nat.zero_le _, Row.empty _ _ _, fun _ h => (by cases h), Upd.refl _ _⟩
  go_enter Try.func15, Try.ntmps15
  go_wp2
  go_loopw [5, 6] (fun o i w' => WoRel f w sn o i w') (fun _ i _ => sn.length - (intOf i).toNat)
  case atStart => exact h0.out
  case round =>
    clear h0
    obtain ⟨k, g, rfl, hkk, hrow, hg, hu⟩ := hrel
    have HR := Lib.hid hrow
    by_cases hlt : k < sn.length
    · obtain ⟨kb, o, rfl, hcs⟩ := HC.out k hlt
      obtain ⟨A, hA⟩ : ∃ A, A = sn[k] := ⟨_, rfl⟩
      rw [← hA] at hcs
      have HA := Lib.hid hA
      have hcs' : ∀ i (hi : i < 6), wr.cell? ⟨kb, o + k * 6 + i, none⟩ = some (A.cells[i]'hi) := fun i hi => (World.cell?_of_block (w := w) (hu.block kb (World.block_lt_of_cell? w _ (hcs i hi)) (fun h => h))).trans (hcs i hi)
      have c0 : wr.cell? ⟨kb, o + k * 6, none⟩ = some (.int .i64 A.op) := hcs' 0 (by omega)
      have c1 : wr.cell? ⟨kb, o + k * 6 + 1, none⟩ = some (.int .i64 A.f) := hcs' 1 (by omega)
      have c2 : wr.cell? ⟨kb, o + k * 6 + 2, none⟩ = some (.int .i64 A.g) := hcs' 2 (by omega)
      have c3 : wr.cell? ⟨kb, o + k * 6 + 3, none⟩ = some (.int .i64 A.n) := hcs' 3 (by omega)
      have c4 : wr.cell? ⟨kb, o + k * 6 + 4, none⟩ = some (.string A.s) := hcs' 4 (by omega)
      have c5 : wr.cell? ⟨kb, o + k * 6 + 5, none⟩ = some A.keep := hcs' 5 (by omega)
      have hol := others_len f (sn.take k)
      have htl : (sn.take k).length ≤ 1000 := by simp; omega
      have HO := Lib.hid (show (others f (sn.take k)).length ≤ 1000 by omega)
      have HG := Lib.hid hg
      clear hcs hcs' hA hrow hg hol htl
      have hsn := Lib.hid (others_snoc f sn k hlt)
      by_cases hf : A.f = (f : Int)
      · have hro : others f (sn.take (k + 1)) = others f (sn.take k) := by rw [hsn.out, ← HA.out, if_neg (by simpa using hf)]
        have HRO := Lib.hid hro; clear hro
        go_wp2
        go_roundw
        case rel => exact ⟨k + 1, g, by simp, hlt, by rw [HRO.out]; exact HR.out, HG.out, hu⟩
        case measure => simp [intOf]; omega
      · have hro : others f (sn.take (k + 1)) = others f (sn.take k) ++ [A] := by rw [hsn.out, ← HA.out, if_pos hf]
        have HRO := Lib.hid hro; clear hro
        have hlit : Hid (Row (wr.alloc (.cells A.cells 30)) 30 6 (.slice (some ⟨wr.heap.size, 0, none⟩) 1 1) (some wr.heap.size) 1 A.cells.toList) := Row.lit wr 30 6 1 A.cells (by unfold maxLen; omega) rfl
        have hone : Hid (∀ u ∈ A.cells.toList, u.oneCell' = true) := by
          have := actsV_one [A] (fun x hx => by obtain rfl : x = A := by simpa using hx
                                                exact HK.out _ (HA.out ▸ List.getElem_mem hlt))
          intro u hu'
          exact this u (by unfold actsV; simpa using hu')
        have hrow2 : Hid (Row (wr.alloc (.cells A.cells 30)) 30 6 _ g _ _) := HR.out.of_heap (fun k hk => heap_alloc_old wr _ (HR.out.lt hk))
        unfold ActV.cells at hlit hone hrow2
        go_wp2_with (at_builtin; refine wpList_append_row rfl (.tmp 20) (.tmp 25) 22 22 rfl 30 6 72 EAct _ g _ _ rfl hrow2.out _ 1 _ rfl (Row.src (P := Try.prog) (e' := 30) (by kernel_rfl) hlit.out hone.out) _ rfl _ rfl ?b1 ?b2 ?_)
        case b1 => have := HO.out; unfold maxLen; omega
        case b2 => have := HO.out; omega
        intro v3 w3 g3 hrow3 hg3 hu3
        have hrel3 : Hid (WoRel f w sn v3 (.int .i64 ((k : Int) + 1)) w3) := by
          refine ⟨k + 1, g3, by simp, hlt, ?_, fun b hb => ?_, ?_⟩
          · rw [HRO.out, actsV_snoc, List.length_append]; exact hrow3
          · rcases hg3.some hb with h | h
            · exact HG.out b h
            · have := hu.size; rw [h]; simp; omega
          · exact (hu.alloc _).trans hu3 (fun k hk h => by have := HG.out k h; omega)
        clear hrow3 hg3 hu3
        go_wp2
        go_roundw
        case rel => exact hrel3.out
        case measure => simp [intOf]; omega
    · have hke : k = sn.length := by omega
      subst hke
      rw [List.take_length] at HR
      clear hlt
      go_wp2
      go_ret
      exact ⟨_, g, rfl, HR.out, hg, hu⟩
end Go.Proofs.Ythfnnkfdpnkodaa
