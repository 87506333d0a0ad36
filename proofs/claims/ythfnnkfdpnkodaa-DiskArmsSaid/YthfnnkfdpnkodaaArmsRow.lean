/- DiskArms holds for every input. No condition. -/
import Derived.Test.YthfnnkfdpnkodaaArms
import Derived.Test.YthfnnkfdpnkodaaActRead
namespace Go.Proofs.Ythfnnkfdpnkodaa
open Go.ChangeShapes Go.WideShapes Go.ChangeAt Go.RowKit

section
variable {H : Type} {enc : TypeId × Value → H} {W : World} {sp : Nat → Bool}

theorem rd_strs {f : Nat} {v : Value} {d : DataW H} {y : List MemPlace} (h : DataW.trod enc Try.prog W 0 sp true f 28 [v] = some (d, y)) (hw : Within Try.prog 28 d) :
    ∃ l : List ByteArray, StrsAt W v l ∧ ∀ s ∈ l, s.size ≤ 140737488355328 := by
  obtain ⟨a, n, cap, elems, rest, rfl, hl, hm, hx, hr⟩ := sliceRead Try.underlying28 (by rw [cells_string]; omega) h
  have hel : ∀ i, i < n → ∃ (s : ByteArray), s.size ≤ 140737488355328 ∧ ∃ kb o, a = some ⟨kb, o, none⟩ ∧ W.cell? ⟨kb, o + i, none⟩ = some (.string s) := by
    intro i hi
    have hi' : i < elems.length := by rw [hr.len]; exact hi
    obtain ⟨kb, o, cs, f', y', ha, hcl, hcc, htr⟩ := hr.elem i elems[i] (List.getElem?_eq_getElem _)
    have hd : d = .slice elems rest := by
      rcases hx with ⟨_, he⟩ | he
      · rw [he] at hi'; simp at hi'
      · exact he
    have hwe := within_elem Try.underlying28 (hd ▸ hw) (List.getElem?_eq_getElem hi')
    rw [cells_string] at hcl hcc
    match cs, hcl with
    | [c0], _ =>
      obtain ⟨s, rfl, he⟩ := rd_string Try.underlying9 htr
      rw [he] at hwe
      have hs := within_string hwe
      rw [data_len] at hs
      unfold reachBytes at hs
      refine ⟨s, by omega, kb, o, ha, ?_⟩
      have := hcc 0 (by omega)
      simpa using this
  have hch : ∃ z : Nat → ByteArray, ∀ i, i < n → (z i).size ≤ 140737488355328 ∧ ∃ kb o, a = some ⟨kb, o, none⟩ ∧ W.cell? ⟨kb, o + i, none⟩ = some (.string (z i)) := by
    refine ⟨fun i => if hi : i < n then (hel i hi).choose else ByteArray.empty, fun i hi => ?_⟩
    have := (hel i hi).choose_spec
    simp only [dif_pos hi]
    exact this
  obtain ⟨z, hz⟩ := hch
  have hll : ((List.range n).map z).length = n := by simp
  refine ⟨(List.range n).map z, ⟨⟨a, cap, by rw [hll], by rw [hll]; unfold maxLen at hm; omega⟩, fun a' c' hv j hj => ?_⟩, fun x hx => ?_⟩
  · simp only [Value.slice.injEq] at hv
    obtain ⟨rfl, _, rfl⟩ := hv
    obtain ⟨_, kb, o, rfl, hc⟩ := hz j (by omega)
    refine ⟨kb, o, rfl, ?_⟩
    rw [hc]
    simp
  · obtain ⟨i, hi, rfl⟩ := List.mem_map.1 hx
    exact (hz i (by simpa using hi)).1
end

set_option maxRecDepth 100000 in
theorem arms_lifted (os : Os) (started : os.Started) (H : Type) (enc : TypeId × Value → H) :
    ReturnsInHanded {} Try.checked os 4 .any (Rows.diskArmsSpec.pre6 enc Try.prog Try.f4 Rows.diskArmsRow.domain false) (Rows.diskArmsSpec.post enc Try.prog Try.f4 false true false false) := by
  refine returnsInHanded_of_change_sized (C := Try.checked) lawOwn started (by kernel_rfl) Try.func4
    (ChangeSpec.witness6 (enc := enc) (C := Try.checked) false ⟨#[], #[.slice none 0 0, .int .i64 0, .slice none 0 0], []⟩ 8 (by kernel_rfl) (by kernel_rfl) (by kernel_rfl) (by kernel_rfl)) ?_
  intro W base args ds gs before hval0 hW hcnd hsz0 hholds
  have hval : ∀ (j : Nat) t v, Try.f4.params[j]? = some t → args[j]? = some v → Value.okWide Try.prog W .any base t v := hval0
  have hW' := hW
  obtain ⟨p, q, hA0, hV, rfl, hfz, hnd⟩ := hW
  have hA : DataW.TrodAll enc Try.prog W 0 (fun _ => true) true Try.f4.params.toList args.toList ds p := hA0
  have hsz : (DataW.weightsEach Try.prog (Try.f4.params.toList ++ Rows.diskArmsSpec.plain.varTypes Try.prog) (ds ++ gs)).all (· ≤ reachBytes) = true := hsz0
  rw [Try.params4] at hA hval hsz
  obtain ⟨v0, v1, v2, d0, d1, d2, p0, p1, p2, rfl, rfl, rfl, h0, h1, h2⟩ := trodAll_three hA
  obtain ⟨rfl, rfl⟩ := trodVars_none hV
  obtain ⟨q0, n0, c0, rfl⟩ := okWide_slice Try.underlying28 (hval 0 28 v0 rfl rfl)
  obtain ⟨n, rfl, rfl, rfl, wn⟩ := open_int Try.underlying3 (hval 1 3 v1 rfl rfl) h1
  obtain ⟨q2, n2, c2, rfl⟩ := okWide_slice Try.underlying23 (hval 2 23 v2 rfl rfl)
  obtain ⟨f0, h0⟩ := h0
  obtain ⟨f2, h2⟩ := h2
  obtain ⟨l, hl, hls⟩ := rd_strs (v := .slice q0 n0 c0) h0 (within_arg hsz (j := 0) rfl rfl)
  obtain ⟨q, c, ks, kb, hv, hks, _, hnil, hkl⟩ := rd_ints (v := .slice q2 n2 c2) h2 (within_arg hsz (j := 2) rfl rfl)
  clear hA0 hval0
  refine (arms_walk (fun k => k < W.heap.size) W (fun _ h => h) (fun _ h => h) _ l hl hls n _ ks kb hks (fun a c' hq hn => ?_) hkl).mono fun e W' hr => ?_
  · rw [hv] at hq
    cases hq
    exact hnil hn
  obtain ⟨he, hu2⟩ := hr
  subst he
  exact ⟨_, rfl, law_post lawLaid (by kernel_rfl) rfl rfl Try.underlying4 rfl rfl rfl hW' (hu2.below (Nat.le_refl _) (fun k h => by omega))⟩

theorem arms_holds : Rows.DiskArmsSaid :=
  OpenClaim.holds_of_wide 4 Try.f4 rfl rfl rfl rfl rfl rfl rfl ⟨rfl, rfl, rfl, rfl, rfl⟩ rfl rfl rfl rfl rfl (by kernel_rfl) Try.func4 (by kernel_rfl)
    (of_decide_eq_true (by kernel_rfl)) (by unfold Func.isWrapper; rw [if_neg (by decide +kernel)]; exact ⟨rfl, rfl⟩)
    (fun os started H enc _ => arms_lifted os started H enc)
end Go.Proofs.Ythfnnkfdpnkodaa
