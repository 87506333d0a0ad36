/- DiskLasts holds for every input. No condition. -/
import Derived.Test.YthfnnkfdpnkodaaLasts
import Derived.Test.YthfnnkfdpnkodaaActRead
namespace Go.Proofs.Ythfnnkfdpnkodaa
open Go.ChangeShapes Go.WideShapes Go.ChangeAt Go.RowKit

set_option maxRecDepth 100000 in
theorem lasts_lifted (os : Os) (started : os.Started) (H : Type) (enc : TypeId × Value → H) :
    ReturnsInHanded {} Try.checked os 3 .any (Rows.diskLastsSpec.pre6 enc Try.prog Try.f3 Rows.diskLastsRow.domain false) (Rows.diskLastsSpec.post enc Try.prog Try.f3 false true false false) := by
  refine returnsInHanded_of_change_sized (C := Try.checked) lawOwn started (by kernel_rfl) Try.func3
    (ChangeSpec.witness6 (enc := enc) (C := Try.checked) false ⟨#[], #[.slice none 0 0, .slice none 0 0], []⟩ 8 (by kernel_rfl) (by kernel_rfl) (by kernel_rfl) (by kernel_rfl)) ?_
  intro W base args ds gs before hval0 hW hcnd hsz0 hholds
  have hval : ∀ (j : Nat) t v, Try.f3.params[j]? = some t → args[j]? = some v → Value.okWide Try.prog W .any base t v := hval0
  have hW' := hW
  obtain ⟨p, q, hA0, hV, rfl, hfz, hnd⟩ := hW
  have hA : DataW.TrodAll enc Try.prog W 0 (fun _ => true) true Try.f3.params.toList args.toList ds p := hA0
  have hsz : (DataW.weightsEach Try.prog (Try.f3.params.toList ++ Rows.diskLastsSpec.plain.varTypes Try.prog) (ds ++ gs)).all (· ≤ reachBytes) = true := hsz0
  rw [Try.params3] at hA hval hsz
  obtain ⟨v0, v1, d0, d1, p0, p1, rfl, rfl, rfl, h0, h1⟩ := trodAll_two hA
  obtain ⟨rfl, rfl⟩ := trodVars_none hV
  obtain ⟨q0, n0, c0, rfl⟩ := okWide_slice Try.underlying22 (hval 0 22 v0 rfl rfl)
  obtain ⟨q1, n1, c1, rfl⟩ := okWide_slice Try.underlying23 (hval 1 23 v1 rfl rfl)
  obtain ⟨f0, h0⟩ := h0
  obtain ⟨f1, h1⟩ := h1
  obtain ⟨acts, hacts⟩ := rd_acts (v := .slice q0 n0 c0) h0 (within_arg hsz (j := 0) rfl rfl)
  obtain ⟨q, c, ks, kb, hv, hks, hkb, hnil, hkl⟩ := rd_ints (v := .slice q1 n1 c1) h1 (within_arg hsz (j := 1) rfl rfl)
  clear hA0 hval0
  have hk : ActIn W ⟨0, 0, 0, 0, ByteArray.empty, .slice q1 n1 c1, ks⟩ :=
    ⟨⟨by dsimp only; omega, by simp, hkl, ⟨kb, hks, hkb⟩, fun q' c' hq hn => by
      dsimp only at hq ⊢
      rw [hv] at hq
      cases hq
      exact hnil hn⟩, q, c, hv⟩
  refine (lasts_walk W _ acts hacts _ ks hk).mono fun e W' hr => ?_
  obtain ⟨he, hu2⟩ := hr
  subst he
  exact ⟨_, rfl, law_post lawLaid (by kernel_rfl) rfl rfl Try.underlying4 rfl rfl rfl hW' (hu2.below (Nat.le_refl _) (fun k h => h))⟩

theorem lasts_holds : Rows.DiskLastsSaid :=
  OpenClaim.holds_of_wide 3 Try.f3 rfl rfl rfl rfl rfl rfl rfl ⟨rfl, rfl, rfl, rfl, rfl⟩ rfl rfl rfl rfl rfl (by kernel_rfl) Try.func3 (by kernel_rfl)
    (of_decide_eq_true (by kernel_rfl)) (by unfold Func.isWrapper; rw [if_neg (by decide +kernel)]; exact ⟨rfl, rfl⟩)
    (fun os started H enc _ => lasts_lifted os started H enc)
end Go.Proofs.Ythfnnkfdpnkodaa
