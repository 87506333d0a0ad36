/- DiskDown holds for every input. No condition. -/
import Derived.Test.YthfnnkfdpnkodaaDown
import Derived.Test.YthfnnkfdpnkodaaActRead
namespace Go.Proofs.Ythfnnkfdpnkodaa
open Go.ChangeShapes Go.WideShapes Go.ChangeAt Go.RowKit

set_option maxRecDepth 100000 in
theorem down_lifted (os : Os) (started : os.Started) (H : Type) (enc : TypeId × Value → H) :
    ReturnsInHanded {} Try.checked os 7 .any (Rows.diskDownSpec.pre6 enc Try.prog Try.f7 Rows.diskDownRow.domain false) (Rows.diskDownSpec.post enc Try.prog Try.f7 false true false false) := by
  refine returnsInHanded_of_change_sized (C := Try.checked) lawOwn started (by kernel_rfl) Try.func7
    (ChangeSpec.witness6 (enc := enc) (C := Try.checked) false ⟨#[], #[.slice none 0 0, .agg #[.int .i64 0, .int .i64 0, .int .i64 0, .int .i64 0, .string ByteArray.empty, .slice none 0 0]], []⟩ 8 (by kernel_rfl) (by kernel_rfl) (by kernel_rfl) (by kernel_rfl)) ?_
  intro W base args ds gs before hval0 hW hcnd hsz0 hholds
  have hval : ∀ (j : Nat) t v, Try.f7.params[j]? = some t → args[j]? = some v → Value.okWide Try.prog W .any base t v := hval0
  have hW' := hW
  obtain ⟨p, q, hA0, hV, rfl, hfz, hnd⟩ := hW
  have hA : DataW.TrodAll enc Try.prog W 0 (fun _ => true) true Try.f7.params.toList args.toList ds p := hA0
  have hsz : (DataW.weightsEach Try.prog (Try.f7.params.toList ++ Rows.diskDownSpec.plain.varTypes Try.prog) (ds ++ gs)).all (· ≤ reachBytes) = true := hsz0
  rw [Try.params7] at hA hval hsz
  obtain ⟨v0, v1, d0, d1, p0, p1, rfl, rfl, rfl, h0, h1⟩ := trodAll_two hA
  obtain ⟨rfl, rfl⟩ := trodVars_none hV
  obtain ⟨q0, n0, c0, rfl⟩ := okWide_slice Try.underlying22 (hval 0 22 v0 rfl rfl)
  obtain ⟨f0, h0⟩ := h0
  obtain ⟨f1, h1⟩ := h1
  obtain ⟨acts, hacts⟩ := rd_acts (v := .slice q0 n0 c0) h0 (within_arg hsz (j := 0) rfl rfl)
  obtain ⟨fs, hfs, _, _⟩ := act_fields
  obtain ⟨cs, rfl, hcs⟩ := okWide_struct hfs (hval 1 30 v1 rfl rfl)
  obtain ⟨a, ha, hact⟩ := rd_act (cs := cs.toList) h1 (by rw [Array.length_toList, hcs, cells_act]) (within_arg hsz (j := 1) rfl rfl)
  have hcs2 : cs = a.cells := Array.toList_inj.1 ha
  subst hcs2
  clear hA0 hval0
  have hu : Upd (fun _ => False) W (W.alloc (.cells a.cells 30)) := (Upd.refl _ _).alloc _
  refine (down_walk (fun k => k < (W.alloc (.cells a.cells 30)).heap.size) _ (fun _ h => h) (fun _ h => h) W.heap.size _ acts a (hacts.grow hu) (hact.grow hu) W rfl rfl).mono fun e W' hr => ?_
  obtain ⟨he, hu2⟩ := hr
  subst he
  have hu3 : Upd (fun k => ¬ k < W.heap.size) W W' := (hu.mono fun _ _ h => h.elim).trans hu2 fun k hk h => absurd (Nat.lt_of_lt_of_le hk hu.size) h
  exact ⟨_, rfl, law_post lawLaid (by kernel_rfl) rfl rfl Try.underlying4 rfl rfl rfl hW' (hu3.below (Nat.le_refl _) (fun k h => by omega))⟩

theorem down_holds : Rows.DiskDownSaid :=
  OpenClaim.holds_of_wide 7 Try.f7 rfl rfl rfl rfl rfl rfl rfl ⟨rfl, rfl, rfl, rfl, rfl⟩ rfl rfl rfl rfl rfl (by kernel_rfl) Try.func7 (by kernel_rfl)
    (of_decide_eq_true (by kernel_rfl)) (by unfold Func.isWrapper; rw [if_neg (by decide +kernel)]; exact ⟨rfl, rfl⟩)
    (fun os started H enc _ => down_lifted os started H enc)
end Go.Proofs.Ythfnnkfdpnkodaa
