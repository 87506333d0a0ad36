/- What a crash may leave: 'here' walked. -/
import Derived.Test.YthfnnkfdpnkodaaWithout
import Derived.Deep.DeepCutAuto
import Derived.Deep.LoopGhost
namespace Go.Proofs.Ythfnnkfdpnkodaa
open Go.RowKit

structure SnOk (sn : List ActV) : Prop where
  n : ∀ a ∈ sn, 0 ≤ a.n ∧ a.n < 4000
  s : ∀ a ∈ sn, a.s.size ≤ 140737488355328
  keep : ∀ a ∈ sn, ∃ q c, a.keep = .slice q a.ks.length c
  len : sn.length ≤ 1000

def HereRel (w : World) (m : Nat) (g : Nat) (i : Value) (wr : World) : Prop := ∃ k : Nat, i = .int .i64 k ∧ k ≤ m ∧ g = m - k ∧ Upd (fun _ => False) w wr


/-- Write number j since laid byte x at offset k. -/
def Laid (sn : List ActV) (f k : Nat) (x : UInt8) (j : Nat) : Prop := ∃ hj : j < sn.length, sn[j].f = (f : Int) ∧ 0 ≤ sn[j].n ∧ sn[j].n ≤ k ∧ sn[j].s.data.toList[k - sn[j].n.toNat]? = some x

def HereOk (w : World) (sn : List ActV) (f k : Nat) (x : UInt8) (ok : Value) (wr : World) : Prop := ∃ b : Bool, ok = .bool b ∧ (b = false → ∃ j, Laid sn f k x j) ∧ Upd (fun _ => False) w wr

def HereIn (w : World) (sn : List ActV) (f k : Nat) (x : UInt8) (g : Nat) (ok c : Value) (wr : World) : Prop :=
  ∃ (i : Nat) (b : Bool), c = .int .i64 i ∧ g = sn.length - i ∧ ok = .bool b ∧ i ≤ sn.length ∧ (b = false → ∃ j, i ≤ j ∧ Laid sn f k x j) ∧ Upd (fun _ => False) w wr

theorem laid_of {safe : List UInt8} {sn : List ActV} {f k : Nat} {x : UInt8} (h : (k < safe.length ∧ safe[k]? = some x) ∨ (safe.length ≤ k ∧ x = 0) ∨ ∃ a ∈ sn, a.f = f ∧ 0 ≤ a.n ∧ a.n ≤ k ∧ a.s.data.toList[k - a.n.toNat]? = some x)
    (h1 : ¬ (k < safe.length ∧ safe[k]? = some x)) (h2 : ¬ (safe.length ≤ k ∧ x = 0)) : ∃ j, Laid sn f k x j := by
  rcases h with h | h | ⟨a, ha, h⟩
  · exact absurd h h1
  · exact absurd h h2
  · obtain ⟨j, hj, rfl⟩ := List.mem_iff_getElem.1 ha
    exact ⟨j, hj, h⟩



set_option maxRecDepth 100000 in
set_option maxHeartbeats 3200000 in
theorem here_any (S T : ByteArray) (v : Value) (sn : List ActV) (f : Nat) (w : World) (h : ActsAt w v sn) (hok : SnOk sn) (hS : S.size ≤ 140737488355328) (hT : T.size ≤ 140737488355328) (hh : Here T.data.toList sn f S.data.toList) :
    Calls Try.prog 17 #[.string S, .string T, v, .int .i64 (f : Int)] w (fun e w' => e = .returned (.bool true) ∧ Upd (fun _ => False) w w') := by
  obtain ⟨a, c, rfl, hl⟩ := h.form
  have HC := Lib.hid (h.cells a c rfl)
  have hle : T.size ≤ S.size := by have := hh.1; rwa [data_len, data_len] at this
  have HH := Lib.hid hh.2
  have HOK := Lib.hid hok
  clear h hh hok
  have h0 : Hid (HereRel w S.size S.size (.int .i64 0) w) := ⟨0, rfl, Nat.zero_le _, rfl, Upd.refl _ _⟩
  go_enter Try.func17, Try.ntmps17
  go_wp2
  go_loopg [9] S.size (fun g i w' => HereRel w S.size g i w')
  case atStart => exact h0.out
  case round =>
    clear h0
    obtain ⟨k, rfl, hk, rfl, hu⟩ := hrel
    by_cases hlt : k < S.size
    · have hby := HH.out k (S[k]'hlt) (by rw [Array.getElem?_toList, Array.getElem?_eq_getElem (show k < S.data.size from hlt)]; rfl)
      unfold ByteOk at hby
      rw [data_len] at hby
      have HBY := Lib.hid hby
      clear hby
      go_upto_region 4 with fail
      go_cut [10] (fun ok wx => HereOk w sn f k (S[k]'hlt) ok wx)
      case first =>
        by_cases hk1 : k < T.size
        · by_cases hb1 : (S[k]'hlt).toNat = (T[k]'hk1).toNat
          · have hb2 : ((S[k]'hlt).toNat : Int) = ((T[k]'hk1).toNat : Int) := by omega
            have hj0 : Hid (true = false → ∃ j, Laid sn f k (S[k]'hlt) j) := fun h => by cases h
            refine PLM.wp_region_plm (fun _ => True) [] (by kernel_rfl) (by kernel_rfl) trivial ?_
            repeat (first | (refine PLM.step0 rfl (fun K hK => ?_); go_simp; refine hK _ ?_; clear hK K) | (refine PLM.step1 rfl rfl (fun K hK => ?_); go_simp; refine hK _ ?_; clear hK K))
            refine PLM.stepNil ?_
            go_wp2_with fail
            go_meet
            exact ⟨true, rfl, hj0.out, hu.drew⟩
          · have hb2 : (((S[k]'hlt).toNat : Int) == ((T[k]'hk1).toNat : Int)) = false := beq_eq_false_iff_ne.2 (by omega)
            have hk2 : ¬ T.size ≤ k := by omega
            have hj0 : Hid (false = false → ∃ j, Laid sn f k (S[k]'hlt) j) := fun _ => laid_of (safe := T.data.toList) (by rw [data_len]; exact HBY.out) (fun ⟨_, h⟩ => by
              rw [Array.getElem?_toList, Array.getElem?_eq_getElem (show k < T.data.size from hk1)] at h
              have h5 : T[k]'hk1 = S[k]'hlt := Option.some.inj h
              exact hb1 (by rw [h5])) (fun ⟨h, _⟩ => by rw [data_len] at h; omega)
            refine PLM.wp_region_plm (fun _ => True) [] (by kernel_rfl) (by kernel_rfl) trivial ?_
            repeat (first | (refine PLM.step0 rfl (fun K hK => ?_); go_simp; refine hK _ ?_; clear hK K) | (refine PLM.step1 rfl rfl (fun K hK => ?_); go_simp; refine hK _ ?_; clear hK K))
            refine PLM.stepNil ?_
            go_wp2_with fail
            go_meet
            exact ⟨false, rfl, fun _ => hj0.out trivial, hu.drew⟩
        · by_cases hb1 : (S[k]'hlt).toNat = 0
          · have hb2 : ((S[k]'hlt).toNat : Int) = 0 := by omega
            have hk2 : T.size ≤ k := by omega
            have hj0 : Hid (true = false → ∃ j, Laid sn f k (S[k]'hlt) j) := fun h => by cases h
            refine PLM.wp_region_plm (fun _ => True) [] (by kernel_rfl) (by kernel_rfl) trivial ?_
            repeat (first | (refine PLM.step0 rfl (fun K hK => ?_); go_simp; refine hK _ ?_; clear hK K) | (refine PLM.step1 rfl rfl (fun K hK => ?_); go_simp; refine hK _ ?_; clear hK K))
            refine PLM.stepNil ?_
            go_wp2_with fail
            go_meet
            exact ⟨true, rfl, hj0.out, hu.drew⟩
          · have hb2 : (((S[k]'hlt).toNat : Int) == 0) = false := beq_eq_false_iff_ne.2 (by omega)
            have hk2 : T.size ≤ k := by omega
            have hj0 : Hid (false = false → ∃ j, Laid sn f k (S[k]'hlt) j) := fun _ => laid_of (safe := T.data.toList) (by rw [data_len]; exact HBY.out) (fun ⟨h, _⟩ => by rw [data_len] at h; omega) (fun ⟨_, h⟩ => hb1 (by rw [h]; rfl))
            refine PLM.wp_region_plm (fun _ => True) [] (by kernel_rfl) (by kernel_rfl) trivial ?_
            repeat (first | (refine PLM.step0 rfl (fun K hK => ?_); go_simp; refine hK _ ?_; clear hK K) | (refine PLM.step1 rfl rfl (fun K hK => ?_); go_simp; refine hK _ ?_; clear hK K))
            refine PLM.stepNil ?_
            go_wp2_with fail
            go_meet
            exact ⟨false, rfl, fun _ => hj0.out trivial, hu.drew⟩
      case rest =>
        obtain ⟨b0, rfl, hj, hu⟩ := hcut
        have hj0 := Lib.hid hj; clear hj
        have hin0 : Hid (HereIn w sn f k (S[k]'hlt) sn.length (.bool b0) (.int .i64 0) wc) := ⟨0, b0, rfl, rfl, rfl, Nat.zero_le _, fun hb => (hj0.out hb).elim fun j hj => ⟨j, Nat.zero_le _, hj⟩, hu⟩
        go_wp2
        go_loopg [10, 11] sn.length (fun g ok c w' => HereIn w sn f k (S[k]'hlt) g ok c w')
        case atStart => exact hin0.out
        case round =>
          clear hin0 hj0
          obtain ⟨i, b, rfl, rfl, rfl, hi, hb, hu⟩ := hrel
          have HB := Lib.hid hb; clear hb
          cases b with
          | true =>
            by_cases hi2 : i < sn.length
            · go_wp2
              go_roundg (S.size - (k + 1))
              case rel => exact ⟨k + 1, by simp, by omega, rfl, hu⟩
              case measure => omega
            · go_wp2
              go_roundg (S.size - (k + 1))
              case rel => exact ⟨k + 1, by simp, by omega, rfl, hu⟩
              case measure => omega
          | false =>
            have hi2 : i < sn.length := by obtain ⟨j, hij, hj, _⟩ := HB.out rfl; omega
            obtain ⟨kb, o, rfl, hcs⟩ := HC.out i hi2
            obtain ⟨A, hA⟩ : ∃ A, A = sn[i] := ⟨_, rfl⟩
            rw [← hA] at hcs
            have HA := Lib.hid hA
            have hcs' : ∀ j (hj : j < 6), wr.cell? ⟨kb, o + i * 6 + j, none⟩ = some (A.cells[j]'hj) := fun j hj => (World.cell?_of_block (w := w) (hu.block kb (World.block_lt_of_cell? w _ (hcs j hj)) (fun h => h))).trans (hcs j hj)
            obtain ⟨m, hm⟩ := Int.eq_ofNat_of_zero_le (HOK.out.n A (hA ▸ List.getElem_mem hi2)).1
            have hm4 : m < 4000 := by have := (HOK.out.n A (hA ▸ List.getElem_mem hi2)).2; omega
            have hAs := HOK.out.s A (hA ▸ List.getElem_mem hi2)
            have c1 : wr.cell? ⟨kb, o + i * 6 + 1, none⟩ = some (.int .i64 A.f) := hcs' 1 (by omega)
            have c3 : wr.cell? ⟨kb, o + i * 6 + 3, none⟩ = some (.int .i64 A.n) := hcs' 3 (by omega)
            have c4 : wr.cell? ⟨kb, o + i * 6 + 4, none⟩ = some (.string A.s) := hcs' 4 (by omega)
            rw [hm] at c3
            have HM := Lib.hid hm
            clear hcs hcs' hA hm
            have hnext : Hid (¬ Laid sn f k (S[k]'hlt) i → ∃ j, i + 1 ≤ j ∧ Laid sn f k (S[k]'hlt) j) := fun hno => by
              obtain ⟨j, hij, hj⟩ := HB.out rfl
              exact ⟨j, by by_cases e : j = i
                           · subst e; exact absurd hj hno
                           · omega, hj⟩
            by_cases g1 : A.f = (f : Int)
            · by_cases g2 : m ≤ k
              · obtain ⟨t, ht⟩ : ∃ t, k = m + t := ⟨k - m, by omega⟩
                have ht2 : (k : Int) - (m : Int) = (t : Int) := by omega
                by_cases g3 : t < A.s.size
                · by_cases g4 : (A.s[t]'g3).toNat = (S[k]'hlt).toNat
                  · have g5 : ((A.s[t]'g3).toNat : Int) = ((S[k]'hlt).toNat : Int) := by omega
                    clear ht
                    go_wp2
                    refine PLM.wp_region_plm (fun _ => True) [] (by kernel_rfl) (by kernel_rfl) trivial ?_
                    repeat (first | (refine PLM.step0 rfl (fun K hK => ?_); go_simp; refine hK _ ?_; clear hK K) | (refine PLM.step1 rfl rfl (fun K hK => ?_); go_simp; refine hK _ ?_; clear hK K))
                    refine PLM.stepNil ?_
                    go_wp2
                    go_roundg (sn.length - (i + 1))
                    case rel => exact ⟨i + 1, true, by simp, rfl, rfl, hi2, fun h => (by cases h), hu.drew⟩
                    case measure => omega
                  · have hno : ¬ Laid sn f k (S[k]'hlt) i := by
                      rintro ⟨hj, _, _, _, h4⟩
                      rw [← HA.out, HM.out, Int.toNat_natCast, show k - m = t by omega, Array.getElem?_toList, Array.getElem?_eq_getElem (show t < A.s.data.size from g3)] at h4
                      have h5 : A.s[t]'g3 = S[k]'hlt := Option.some.inj h4
                      exact g4 (by rw [h5])
                    have HX := Lib.hid (hnext.out hno)
                    have g5 : (((A.s[t]'g3).toNat : Int) == ((S[k]'hlt).toNat : Int)) = false := beq_eq_false_iff_ne.2 (by omega)
                    clear ht hno
                    go_wp2
                    refine PLM.wp_region_plm (fun _ => True) [] (by kernel_rfl) (by kernel_rfl) trivial ?_
                    repeat (first | (refine PLM.step0 rfl (fun K hK => ?_); go_simp; refine hK _ ?_; clear hK K) | (refine PLM.step1 rfl rfl (fun K hK => ?_); go_simp; refine hK _ ?_; clear hK K))
                    refine PLM.stepNil ?_
                    go_wp2
                    go_roundg (sn.length - (i + 1))
                    case rel => exact ⟨i + 1, false, by simp, rfl, rfl, hi2, fun _ => HX.out, hu.drew⟩
                    case measure => omega
                · have hno : ¬ Laid sn f k (S[k]'hlt) i := by
                    rintro ⟨hj, _, _, _, h4⟩
                    rw [← HA.out, HM.out, Int.toNat_natCast] at h4
                    have := (List.getElem?_eq_some_iff.1 h4).1
                    rw [data_len] at this
                    omega
                  have HX := Lib.hid (hnext.out hno)
                  clear ht hno
                  go_wp2
                  refine PLM.wp_region_plm (fun _ => True) [] (by kernel_rfl) (by kernel_rfl) trivial ?_
                  repeat (first | (refine PLM.step0 rfl (fun K hK => ?_); go_simp; refine hK _ ?_; clear hK K) | (refine PLM.step1 rfl rfl (fun K hK => ?_); go_simp; refine hK _ ?_; clear hK K))
                  refine PLM.stepNil ?_
                  go_wp2
                  go_roundg (sn.length - (i + 1))
                  case rel => exact ⟨i + 1, false, by simp, rfl, rfl, hi2, fun _ => HX.out, hu.drew⟩
                  case measure => omega
              · have hno : ¬ Laid sn f k (S[k]'hlt) i := by
                  rintro ⟨hj, _, _, h3, _⟩
                  rw [← HA.out, HM.out] at h3
                  omega
                have HX := Lib.hid (hnext.out hno)
                have g5 : (k : Int) - (m : Int) < 0 := by omega
                clear hno
                go_wp2
                refine PLM.wp_region_plm (fun _ => True) [] (by kernel_rfl) (by kernel_rfl) trivial ?_
                repeat (first | (refine PLM.step0 rfl (fun K hK => ?_); go_simp; refine hK _ ?_; clear hK K) | (refine PLM.step1 rfl rfl (fun K hK => ?_); go_simp; refine hK _ ?_; clear hK K))
                refine PLM.stepNil ?_
                go_wp2
                go_roundg (sn.length - (i + 1))
                case rel => exact ⟨i + 1, false, by simp, rfl, rfl, hi2, fun _ => HX.out, hu.drew⟩
                case measure => omega
            · have hno : ¬ Laid sn f k (S[k]'hlt) i := by
                rintro ⟨hj, h1, _⟩
                rw [← HA.out] at h1
                exact g1 h1
              have HX := Lib.hid (hnext.out hno)
              clear hno
              go_wp2
              refine PLM.wp_region_plm (fun _ => True) [] (by kernel_rfl) (by kernel_rfl) trivial ?_
              repeat (first | (refine PLM.step0 rfl (fun K hK => ?_); go_simp; refine hK _ ?_; clear hK K) | (refine PLM.step1 rfl rfl (fun K hK => ?_); go_simp; refine hK _ ?_; clear hK K))
              refine PLM.stepNil ?_
              go_wp2
              go_roundg (sn.length - (i + 1))
              case rel => exact ⟨i + 1, false, by simp, rfl, rfl, hi2, fun _ => HX.out, hu.drew⟩
              case measure => omega
    · have hke : k = S.size := by omega
      subst hke
      go_wp2
      go_ret
      exact ⟨rfl, hu⟩
end Go.Proofs.Ythfnnkfdpnkodaa
