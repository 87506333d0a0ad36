/- The laws' arguments, as they come in. -/
import Derived.Test.YthfnnkfdpnkodaaIdle
import Derived.Test.YthfnnkfdpnkodaaReads
namespace Go.Proofs.Ythfnnkfdpnkodaa
open Go.ChangeShapes Go.WideShapes Go.ChangeAt Go.RowKit

theorem bytes_int : Try.prog.bytesOf 3 = 8 := by kernel_rfl
theorem cells_int : Try.prog.cellsOf 3 = 1 := by kernel_rfl
theorem cells_act : Try.prog.cellsOf 30 = 6 := by kernel_rfl
theorem cells_ints : Try.prog.cellsOf 23 = 1 := by kernel_rfl
theorem cells_string : Try.prog.cellsOf 9 = 1 := by kernel_rfl

theorem act_fields : ∃ fs, Try.prog.underlying 30 = some (.struct fs) ∧ fs.size = 6 ∧ fs.map (fun f => (f.type, f.offset)) = #[(3, 0), (3, 1), (3, 2), (3, 3), (9, 4), (23, 5)] := by
  have h : (Try.prog.underlying 30).map (fun d => match d with | .struct fs => some (fs.size, fs.map fun f => (f.type, f.offset)) | _ => none) = some (some (6, #[(3, 0), (3, 1), (3, 2), (3, 3), (9, 4), (23, 5)])) := by kernel_rfl
  cases hu : Try.prog.underlying 30 with
  | none => rw [hu] at h; simp at h
  | some d =>
    rw [hu] at h
    cases d <;> simp at h
    rename_i fs
    exact ⟨fs, rfl, h.1, h.2⟩

section
variable {H : Type} {enc : TypeId × Value → H} {W : World} {sp : Nat → Bool}

theorem rd_ints {f : Nat} {v : Value} {d : DataW H} {y : List MemPlace} (h : DataW.trod enc Try.prog W 0 sp true f 23 [v] = some (d, y)) (hw : Within Try.prog 23 d) :
    ∃ (q : Option Addr) (c : Nat) (ks : List Int) (kb : Nat), v = .slice q ks.length c ∧ IntsAt W v ks kb ∧ (kb < W.heap.size ∨ W.heap.size ≤ kb) ∧ (q = none → ks = []) ∧ ks.length ≤ 17592186044416 := by
  obtain ⟨a, n, cap, elems, rest, rfl, hl, hm, hx, hr⟩ := sliceRead Try.underlying23 (by rw [cells_int]; omega) h
  have hel : ∀ i, i < n → ∃ kb o z, a = some ⟨kb, o, none⟩ ∧ W.cell? ⟨kb, o + i, none⟩ = some (.int .i64 z) := by
    intro i hi
    obtain ⟨kb, o, cs, f', y', ha, hcl, hcc, htr⟩ := hr.elem i (elems[i]'(by rw [hr.len]; exact hi)) (List.getElem?_eq_getElem _)
    rw [cells_int] at hcl hcc
    match cs, hcl with
    | [c0], _ =>
      obtain ⟨z, rfl, _, _⟩ := rd_int Try.underlying3 htr
      refine ⟨kb, o, z, ha, ?_⟩
      have := hcc 0 (by omega)
      simpa using this
  have hlen : n ≤ 17592186044416 := by
    rcases hx with ⟨_, he⟩ | he
    · have := hr.len; rw [he] at this; simp at this; omega
    · have hd : d = .slice elems rest := he
      rw [hd] at hw
      have := within_slice Try.underlying23 hw
      rw [bytes_int, hr.len] at this
      unfold reachBytes at this
      omega
  have hch : ∃ z : Nat → Int, ∀ i, i < n → ∃ kb o, a = some ⟨kb, o, none⟩ ∧ W.cell? ⟨kb, o + i, none⟩ = some (.int .i64 (z i)) := by
    refine ⟨fun i => if hi : i < n then (hel i hi).choose_spec.choose_spec.choose else 0, fun i hi => ?_⟩
    dsimp only
    rw [dif_pos hi]
    exact ⟨_, _, (hel i hi).choose_spec.choose_spec.choose_spec⟩
  obtain ⟨z, hz⟩ := hch
  have hll : ((List.range n).map z).length = n := by simp
  refine ⟨a, cap, (List.range n).map z, (match a with | some q => q.block | none => 0), by rw [hll], ⟨⟨a, cap, by rw [hll], by rw [hll]; unfold maxLen at hm; omega⟩, fun a' c' hv j hj => ?_, fun h0 => ?_⟩, Nat.lt_or_ge _ _, fun h0 => ?_, by rw [hll]; exact hlen⟩
  · simp only [Value.slice.injEq] at hv
    obtain ⟨rfl, _, rfl⟩ := hv
    obtain ⟨kb, o, rfl, hc⟩ := hz j (by omega)
    refine ⟨o, rfl, ?_⟩
    simpa using hc
  · obtain ⟨kb, o, rfl, hc⟩ := hz 0 (by omega)
    exact World.block_lt_of_cell? W _ hc
  · have := hr.nil h0
    rw [this]; rfl

theorem rd_act {f : Nat} {cs : List Value} {d : DataW H} {y : List MemPlace} (h : DataW.trod enc Try.prog W 0 sp true f 30 cs = some (d, y)) (hlen : cs.length = 6) (hw : Within Try.prog 30 d) :
    ∃ a : ActV, cs = a.cells.toList ∧ ActIn W a := by
  obtain ⟨fs, hfs, hsz, hmap⟩ := act_fields
  obtain ⟨parts, rfl, hpl, hp⟩ := rd_struct hfs h
  have hf : ∀ i (hi : i < 6), ∃ fd, fs[i]? = some fd ∧ (fd.type, fd.offset) = ([(3, 0), (3, 1), (3, 2), (3, 3), (9, 4), (23, 5)] : List (Nat × Nat))[i]'hi := by
    intro i hi
    have h1 : i < fs.size := by omega
    refine ⟨fs[i], Array.getElem?_eq_getElem h1, ?_⟩
    have h2 : (fs.map (fun f => (f.type, f.offset)))[i]? = some (fs[i].type, fs[i].offset) := by simp [h1]
    rw [hmap] at h2
    have h3 : (#[(3, 0), (3, 1), (3, 2), (3, 3), (9, 4), (23, 5)] : Array (Nat × Nat))[i]? = some (([(3, 0), (3, 1), (3, 2), (3, 3), (9, 4), (23, 5)] : List (Nat × Nat))[i]'hi) := by
      rw [List.getElem?_toArray, List.getElem?_eq_getElem]
    rw [h3] at h2
    exact (Option.some.inj h2).symm
  match cs, hlen with
  | [c0, c1, c2, c3, c4, c5], _ =>
    have get : ∀ i (hi : i < 6) (t o : Nat), ([(3, 0), (3, 1), (3, 2), (3, 3), (9, 4), (23, 5)] : List (Nat × Nat))[i]'hi = (t, o) → ∃ p z f', parts[i]? = some p ∧ DataW.trod enc Try.prog W 0 sp true f' t (([c0, c1, c2, c3, c4, c5].drop o).take (Try.prog.cellsOf t)) = some (p, z) ∧ Within Try.prog t p := by
      intro i hi t o hto
      obtain ⟨fd, h1, h2⟩ := hf i hi
      rw [hto] at h2
      obtain ⟨p, z, f', h3, h4⟩ := hp i fd h1
      have ht : fd.type = t := congrArg Prod.fst h2
      have ho : fd.offset = o := congrArg Prod.snd h2
      rw [ht, ho] at h4
      refine ⟨p, z, f', h3, h4, within_field hfs hw ?_ h3⟩
      rw [List.getElem?_map, Array.getElem?_toList, h1, Option.map_some, ht]
    obtain ⟨p0, z0, f0, _, t0, _⟩ := get 0 (by omega) _ _ rfl
    obtain ⟨p1, z1, f1, _, t1, _⟩ := get 1 (by omega) _ _ rfl
    obtain ⟨p2, z2, f2, _, t2, _⟩ := get 2 (by omega) _ _ rfl
    obtain ⟨p3, z3, f3, _, t3, _⟩ := get 3 (by omega) _ _ rfl
    obtain ⟨p4, z4, f4, _, t4, w4⟩ := get 4 (by omega) _ _ rfl
    obtain ⟨p5, z5, f5, _, t5, w5⟩ := get 5 (by omega) _ _ rfl
    rw [cells_int] at t0 t1 t2 t3
    rw [cells_string] at t4
    rw [cells_ints] at t5
    obtain ⟨n0, rfl, _, _⟩ := rd_int Try.underlying3 t0
    obtain ⟨n1, rfl, _, _⟩ := rd_int Try.underlying3 t1
    obtain ⟨n2, rfl, _, _⟩ := rd_int Try.underlying3 t2
    obtain ⟨n3, rfl, _, wf3⟩ := rd_int Try.underlying3 t3
    obtain ⟨s, rfl, rfl⟩ := rd_string Try.underlying9 t4
    obtain ⟨q, c, ks, kb, hv, hks, _, hnil, hkl⟩ := rd_ints t5 w5
    have hs := within_string w4
    rw [data_len] at hs
    unfold reachBytes at hs
    refine ⟨⟨n0, n1, n2, n3, s, c5, ks⟩, rfl, ⟨⟨?_, by dsimp only; omega, hkl, ⟨kb, hks, Nat.lt_or_ge _ _⟩, fun q' c' hq hn => ?_⟩, q, c, hv⟩⟩
    · have := wf3
      simp [Lit.wf, IntKind.min, IntKind.max, IntKind.signed, IntKind.bits] at this
      dsimp only
      omega
    · dsimp only at hq ⊢
      rw [hv] at hq
      cases hq
      exact hnil hn

theorem rd_acts {f : Nat} {v : Value} {d : DataW H} {y : List MemPlace} (h : DataW.trod enc Try.prog W 0 sp true f 22 [v] = some (d, y)) (hw : Within Try.prog 22 d) :
    ∃ acts : List ActV, ActsIn W v acts := by
  obtain ⟨a, n, cap, elems, rest, rfl, hl, hm, hx, hr⟩ := sliceRead Try.underlying22 (by rw [cells_act]; omega) h
  have hel : ∀ i, i < n → ∃ A : ActV, ActIn W A ∧ ∃ kb o, a = some ⟨kb, o, none⟩ ∧ ∀ j (hj : j < 6), W.cell? ⟨kb, o + i * 6 + j, none⟩ = some (A.cells[j]'hj) := by
    intro i hi
    have hi' : i < elems.length := by rw [hr.len]; exact hi
    obtain ⟨kb, o, cs, f', y', ha, hcl, hcc, htr⟩ := hr.elem i elems[i] (List.getElem?_eq_getElem _)
    rw [cells_act] at hcl hcc
    have hd : d = .slice elems rest := by
      rcases hx with ⟨_, he⟩ | he
      · rw [he] at hi'; simp at hi'
      · exact he
    obtain ⟨A, rfl, hA⟩ := rd_act htr hcl (within_elem Try.underlying22 (hd ▸ hw) (List.getElem?_eq_getElem hi'))
    refine ⟨A, hA, kb, o, ha, fun j hj => ?_⟩
    rw [hcc j hj, Array.getElem?_toList]
    exact Array.getElem?_eq_getElem hj
  have hch : ∃ z : Nat → ActV, ∀ i, i < n → ActIn W (z i) ∧ ∃ kb o, a = some ⟨kb, o, none⟩ ∧ ∀ j (hj : j < 6), W.cell? ⟨kb, o + i * 6 + j, none⟩ = some ((z i).cells[j]'hj) := by
    refine ⟨fun i => if hi : i < n then (hel i hi).choose else ⟨0, 0, 0, 0, ByteArray.empty, .int .i64 0, []⟩, fun i hi => ?_⟩
    have := (hel i hi).choose_spec
    simp only [dif_pos hi]
    exact this
  obtain ⟨z, hz⟩ := hch
  have hll : ((List.range n).map z).length = n := by simp
  refine ⟨(List.range n).map z, ⟨⟨a, cap, by rw [hll], by rw [hll]; unfold maxLen at hm; omega⟩, fun a' c' hv j hj => ?_⟩, fun x hx => ?_⟩
  · simp only [Value.slice.injEq] at hv
    obtain ⟨rfl, _, rfl⟩ := hv
    obtain ⟨_, kb, o, rfl, hc⟩ := hz j (by omega)
    refine ⟨kb, o, rfl, fun i hi => ?_⟩
    rw [hc i hi]
    simp
    rfl
  · obtain ⟨i, hi, rfl⟩ := List.mem_map.1 hx
    exact (hz i (by simpa using hi)).1
end
end Go.Proofs.Ythfnnkfdpnkodaa
