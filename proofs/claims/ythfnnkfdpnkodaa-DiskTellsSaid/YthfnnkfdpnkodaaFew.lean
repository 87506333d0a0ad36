/- The laws' bounds: few; a disk behind an act. -/
import Derived.Test.YthfnnkfdpnkodaaDo
namespace Go.Proofs.Ythfnnkfdpnkodaa
open Go.RowKit

theorem Fit.act {st : DSt} {n : Nat} (h : Fit st n) {a : ActV} (h1 : a.n ≤ 9223372036854775807) (h2 : a.ks.length ≤ 17592186044416) : Fit (st.act a).2 (n + a.s.size) := by
  have hl := data_len a.s
  have hm : ∀ {s : DSt}, Fit s n → Fit s (n + a.s.size) := fun h => h.mono (Nat.le_add_right _ _)
  unfold DSt.act
  split
  · have := h.doWrite a.f a.n a.s.data.toList
    rw [hl] at this
    exact this
  · split
    · exact hm (h.flush _)
    · split
      · exact hm (h.cut _ _)
      · split
        · exact hm (h.turn _ _)
        · split
          · exact hm (h.doCrash _)
          · split
            · exact hm (h.lose h1)
            · split
              · exact hm h.start
              · split
                · exact hm h
                · split
                  · exact hm (h.arm h1 h2)
                  · exact hm h

structure ActsAt (w : World) (v : Value) (acts : List ActV) : Prop where
  form : ∃ a c, v = .slice a acts.length c ∧ acts.length ≤ 9223372036854775807
  cells : ∀ (a : Option Addr) (c : Nat), v = .slice a acts.length c → ∀ (j : Nat) (hj : j < acts.length), ∃ kb o, a = some ⟨kb, o, none⟩ ∧ ∀ i (hi : i < 6), w.cell? ⟨kb, o + j * 6 + i, none⟩ = some (acts[j].cells[i]'hi)

def actSum (l : List ActV) : Nat := (l.map fun a => a.s.size + a.ks.length).sum

structure FewOk (l : List ActV) : Prop where
  at_ : ∀ a ∈ l, a.n < 4000 ∨ 16777216 < a.n
  len : l.length ≤ 200
  sum : actSum l ≤ 5000

theorem actSum_snoc (l : List ActV) (k : Nat) (hk : k < l.length) : actSum (l.take (k + 1)) = actSum (l.take k) + (l[k].s.size + l[k].ks.length) := by
  unfold actSum
  rw [List.take_succ_eq_append_getElem hk, List.map_append, List.sum_append]
  simp

theorem actSum_le (l : List ActV) (M : Nat) (h : ∀ a ∈ l, a.s.size + a.ks.length ≤ M) : actSum l ≤ l.length * M := by
  induction l with
  | nil => simp [actSum]
  | cons a l ih =>
    have := ih (fun b hb => h b (List.mem_cons_of_mem _ hb))
    have := h a (List.mem_cons_self ..)
    unfold actSum at *
    simp only [List.map_cons, List.sum_cons, List.length_cons, Nat.add_mul, Nat.one_mul]
    omega


def FewPost (w : World) (acts : List ActV) (e : Ending) (w' : World) : Prop := ∃ r : Bool, e = .returned (.bool r) ∧ (r = true → FewOk acts) ∧ Upd (fun _ => False) w w'

def FewRel (w : World) (acts : List ActV) (n i : Value) (w' : World) : Prop :=
  ∃ (k : Nat) (m : Int), i = .int .i64 k ∧ n = .int .i64 m ∧ k ≤ acts.length ∧ (acts.length ≤ 200 → m = (actSum (acts.take k) : Nat)) ∧ (∀ j (hj : j < acts.length), j < k → acts[j].n < 4000 ∨ 16777216 < acts[j].n) ∧ Upd (fun _ => False) w w'

theorem wrap_id (x : Int) (h1 : 0 ≤ x) (h2 : x ≤ 9223372036854775807) : IntKind.i64.wrap x = x := by
  simp [IntKind.wrap, IntKind.signed, IntKind.bits, IntKind.min, IntKind.max]
  omega

theorem few_step {w w' : World} {acts : List ActV} {k : Nat} {m : Int} {A : ActV} (hlt : k < acts.length) (hA : A = acts[k]) (hb : A.n < 4000 ∨ 16777216 < A.n) (hm : acts.length ≤ 200 → m = (actSum (acts.take k) : Nat))
    (hbad : ∀ (j : Nat) (hj : j < acts.length), j < k → acts[j].n < 4000 ∨ 16777216 < acts[j].n) (hu : Upd (fun _ => False) w w') (h1 : A.s.size ≤ 140737488355328) (h2 : A.ks.length ≤ 17592186044416)
    (hall : ∀ a ∈ acts, a.s.size ≤ 140737488355328 ∧ a.ks.length ≤ 17592186044416) :
    FewRel w acts (.int .i64 (IntKind.i64.wrap (IntKind.i64.wrap (m + (A.s.size : Int)) + (A.ks.length : Int)))) (.int .i64 ((k : Int) + 1)) w' := by
  refine ⟨k + 1, _, by simp, rfl, hlt, fun h200 => ?_, fun j hj hjk => ?_, hu⟩
  · have hmv := hm h200
    have hmb : actSum (acts.take k) ≤ (acts.take k).length * 158329674399744 := actSum_le _ _ fun a ha => by have := hall a (List.mem_of_mem_take ha); omega
    have h3 : (acts.take k).length ≤ 200 := by simp; omega
    have := Nat.mul_le_mul_right 158329674399744 h3
    rw [wrap_id (m + _) (by omega) (by omega), wrap_id _ (by omega) (by omega), actSum_snoc acts k hlt, ← hA]
    omega
  · by_cases e : j = k
    · subst e; rw [← hA]; exact hb
    · exact hbad j hj (by omega)

set_option maxHeartbeats 1600000 in
theorem few_any (v : Value) (acts : List ActV) (w : World) (h : ActsAt w v acts) (hf : ∀ a ∈ acts, a.s.size ≤ 140737488355328 ∧ ∃ q c, a.keep = .slice q a.ks.length c ∧ a.ks.length ≤ 17592186044416) :
    Calls Try.prog 10 #[v] w (FewPost w acts) := by
  obtain ⟨a, c, rfl, hl⟩ := h.form
  have hcell := h.cells a c rfl
  clear h
  have h0 : Hid (FewRel w acts (.int .i64 0) (.int .i64 0) w) := ⟨0, 0, rfl, rfl, Nat.zero_le _, fun _ => by simp [actSum], fun _ _ h => by omega, Upd.refl _ _⟩
  have HC := Lib.hid hcell; clear hcell
  have HFF := Lib.hid hf; clear hf
  go_enter Try.func10, Try.ntmps10
  go_wp2
  go_loopw [3, 4] (fun n i w' => FewRel w acts n i w') (fun _ i _ => acts.length - (intOf i).toNat)
  case atStart => exact h0.out
  case round =>
    clear h0
    obtain ⟨k, m, rfl, rfl, hk, hm, hbad, hu⟩ := hrel
    have HM := Lib.hid hm; clear hm
    have HBAD := Lib.hid hbad; clear hbad
    by_cases hlt : k < acts.length
    · obtain ⟨kb, o, rfl, hcs⟩ := HC.out k hlt
      obtain ⟨A, hA⟩ : ∃ A, A = acts[k] := ⟨_, rfl⟩
      rw [← hA] at hcs
      have HA := Lib.hid hA; clear hA
      have hcs' : ∀ i (hi : i < 6), wr.cell? ⟨kb, o + k * 6 + i, none⟩ = some (A.cells[i]'hi) := fun i hi => (World.cell?_of_block (w := w) (hu.block kb (World.block_lt_of_cell? w _ (hcs i hi)) (fun h => h))).trans (hcs i hi)
      have c3 : wr.cell? ⟨kb, o + k * 6 + 3, none⟩ = some (.int .i64 A.n) := hcs' 3 (by omega)
      have c4 : wr.cell? ⟨kb, o + k * 6 + 4, none⟩ = some (.string A.s) := hcs' 4 (by omega)
      have c5 : wr.cell? ⟨kb, o + k * 6 + 5, none⟩ = some A.keep := hcs' 5 (by omega)
      obtain ⟨hs, q, qc, hq, hql⟩ := HFF.out A (HA.out ▸ List.getElem_mem hlt)
      rw [hq] at c5
      have HQ := Lib.hid hq
      clear hcs hcs' hq
      by_cases hb : A.n < 4000 ∨ 16777216 < A.n
      · have HB := Lib.hid hb
        rcases hb with hb | hb
        · go_wp2
          refine PLM.wp_region_plm (fun _ => True) [] (by kernel_rfl) (by kernel_rfl) trivial ?_
          repeat (first | (refine PLM.step0 rfl (fun K hK => ?_); go_simp; refine hK _ ?_; clear hK K) | (refine PLM.step1 rfl rfl (fun K hK => ?_); go_simp; refine hK _ ?_; clear hK K))
          refine PLM.stepNil ?_
          go_wp2
          go_roundw
          case rel => exact few_step hlt HA.out HB.out HM.out HBAD.out hu.drew hs hql (fun a ha => by obtain ⟨h1, _, _, _, h2⟩ := HFF.out a ha; exact ⟨h1, h2⟩)
          case measure => simp [intOf]; omega
        · have hb4 : 4000 ≤ A.n := by omega
          go_wp2
          refine PLM.wp_region_plm (fun _ => True) [] (by kernel_rfl) (by kernel_rfl) trivial ?_
          repeat (first | (refine PLM.step0 rfl (fun K hK => ?_); go_simp; refine hK _ ?_; clear hK K) | (refine PLM.step1 rfl rfl (fun K hK => ?_); go_simp; refine hK _ ?_; clear hK K))
          refine PLM.stepNil ?_
          go_wp2
          go_roundw
          case rel => exact few_step hlt HA.out HB.out HM.out HBAD.out hu.drew hs hql (fun a ha => by obtain ⟨h1, _, _, _, h2⟩ := HFF.out a ha; exact ⟨h1, h2⟩)
          case measure => simp [intOf]; omega
      · have hb1 : 4000 ≤ A.n := by omega
        have hb2 : A.n ≤ 16777216 := by omega
        clear hb
        go_wp2
        go_ret
        exact ⟨false, rfl, fun h => (by simp at h), hu⟩
    · have hke : k = acts.length := by omega
      subst hke
      rw [List.take_length] at HM
      clear hlt
      have hall : ∀ a ∈ acts, a.n < 4000 ∨ 16777216 < a.n := fun a ha => by
        obtain ⟨j, hj, rfl⟩ := List.mem_iff_getElem.1 ha
        exact HBAD.out j hj hj
      have HALL := Lib.hid hall; clear hall
      by_cases h200 : acts.length ≤ 200
      · go_wp2
        go_ret
        exact ⟨decide (m ≤ 5000), rfl, fun h => ⟨HALL.out, h200, by have := HM.out h200; have := of_decide_eq_true h; omega⟩, hu⟩
      · go_wp2
        go_ret
        exact ⟨false, rfl, fun h => (by simp at h), hu⟩
end Go.Proofs.Ythfnnkfdpnkodaa
