/- disk.forget. -/
import Derived.Test.YthfnnkfdpnkodaaFunc2
namespace Go.Proofs.Ythfnnkfdpnkodaa
open Go.RowKit


def DSt.forget (st : DSt) (f : Nat) : DSt := { st with pend := keepP f st.pend, siz := up st.siz f (st.dur f).length }

theorem run_makeFunc' (fn : Fn) (first cap : Array Value) (w : World) : (Instr.makeFunc fn first cap).run Try.prog w = .ok (.func fn first cap) w := rfl

set_option maxHeartbeats 1600000 in
theorem forget_rep (b f : Nat) (D : Nat → Prop) (st : DSt) (w : World) (h : Disk w b D st) (hf : f < 12) :
    Calls Try.prog 54 #[dptr b, .int .i64 (f : Int)] w (Moved b D w (.tuple #[]) (st.forget f)) := by
  obtain ⟨own, dv, pv, kv, hr, hb, ho⟩ := h
  have hf1 : (f : Int) < 12 := by omega
  have hmf := run_makeFunc'
  have hu1 := Lib.hid ((Upd.refl (fun _ => False) w).alloc (.cells #[.int .i64 (f : Int)] 3))
  have hr1 := Lib.hid (hr.upd hu1.out (fun h => h) (fun _ _ _ _ h => h))
  have hbx := Lib.hid (Blk.newA w #[.int .i64 (f : Int)] 3)
  have hbl := hr.blk.lt
  have hp1 : (w.alloc (.cells #[.int .i64 (f : Int)] 3)).cell? ⟨b, 24, none⟩ = some pv := hr1.out.cpend
  have hown := fun k (hk : own 12 = some k) => hr.lt (i := 12) (by omega) hk
  have HO := Lib.hid hown; clear hown
  clear hr
  go_enter Try.func54, Try.ntmps54
  go_wp2_with fail
  refine (delete_any _ clo_forget w.heap.size f pv (own 12) st.pend (w.alloc (.cells #[.int .i64 (f : Int)] 3)) hr1.out.pend (hbx.out.cell_of rfl) hbx.out.lt (fun h => by have := HO.out _ h; omega)).mono ?_
  rintro e w2 ⟨v2, rfl, hrow2, hu2⟩
  obtain ⟨a2, c2, rfl, hc21, hc22⟩ := hrow2.form
  have hblk2 := hr1.out.blk.upd hu2 (fun h => hr1.out.notb 12 (by omega) h)
  have hcell2 : w2.cell? ⟨b, 24, none⟩ = some pv := hblk2.cell_of (dcells_get (by omega))
  have hfz2 : w2.frozen? ⟨b, 24, none⟩ = false := hblk2.frozen (by simp [dcells])
  have hr3 := Lib.hid (hr1.out.setPend hu2 (fun k h => h) hrow2 (fun k hk => .inl hk))
  have hu3 := Lib.hid ((((hu1.out).mono (S' := D) (fun _ _ h => h.elim)).trans hu2 (fun k _ h => ho 12 k (by omega) h)).setCell (p := ⟨b, 24, none⟩) (fun _ => hb) (.slice a2 (keepP f st.pend).length c2))
  have hbx3 := Lib.hid ((hbx.out.upd hu2 (fun h => by have := HO.out _ h; omega)).of_heap (heap_setCell_other w2 b 24 (.slice a2 (keepP f st.pend).length c2) (by omega)))
  have ho3 := Lib.hid (foot_up (F := D) (i := 12) ho (by omega) (g := own 12) (fun k hk => ho 12 k (by omega) hk))
  clear hblk2 hp1
  go_wp2
  obtain ⟨w3, hw3⟩ : ∃ w3, w3 = w2.setCell ⟨b, 24, none⟩ (.slice a2 (keepP f st.pend).length c2) := ⟨_, rfl⟩
  rw [← hw3] at hr3 hu3 hbx3 ⊢
  clear hw3 hcell2 hfz2 hu2 hrow2 hr1 hu1 hbx hc21 hc22
  obtain ⟨da, dc, hdv, hd1, hd2⟩ := (hr3.out.dur f hf).form
  have hcd := hr3.out.cdur hf
  rw [hdv] at hcd
  clear hdv
  have hcs := hr3.out.csiz hf
  have hfs := hr3.out.froz (o := f * 2 + 1) (by omega)
  have hcb : w3.cell? ⟨w.heap.size, 0, none⟩ = some (.int .i64 (f : Int)) := hbx3.out.cell_of rfl
  refine PLM.wp_region_plm (fun _ => True) [] (by kernel_rfl) (by kernel_rfl) trivial ?_
  repeat (first | (refine PLM.step0 rfl (fun K hK => ?_); go_simp; refine hK _ ?_; clear hK K) | (refine PLM.step1 rfl rfl (fun K hK => ?_); go_simp; refine hK _ ?_; clear hK K))
  (refine PLM.step2 rfl rfl (fun K hK => ?_); go_simp; refine hK _ _ trivial ?_; clear hK K)
  refine PLM.stepNil ?_
  go_wp2
  go_end0
  refine ⟨rfl, ⟨_, _, _, _, (hr3.out.drew.setSiz hf (st.dur f).length), .inl hb, fun i k hi hk => .inl (ho3.out i k hi hk)⟩, ?_⟩
  exact (hu3.out.drew).setCell (fun _ => hb) _
end Go.Proofs.Ythfnnkfdpnkodaa
