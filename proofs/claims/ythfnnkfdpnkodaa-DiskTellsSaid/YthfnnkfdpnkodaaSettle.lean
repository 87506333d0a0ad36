/- disk.settle: the pending writes of a file become durable. -/
import Derived.Test.YthfnnkfdpnkodaaForget
namespace Go.Proofs.Ythfnnkfdpnkodaa
open Go.RowKit


/-- A file with pending writes laid over it. -/
def applyP (f : Nat) (ps : List Pc) (l : List UInt8) : List UInt8 := ps.foldl (fun l p => if p.f = f then putL l p.at_ p.s else l) l

/-- The bounds of a disk. -/
structure DGood (st : DSt) : Prop where
  dur : ∀ f, f < 12 → (st.dur f).length ≤ 16777216
  siz : ∀ f, f < 12 → st.siz f = (applyP f st.pend (st.dur f)).length
  pend : ∀ p ∈ st.pend, p.f < 12 ∧ p.at_ + p.s.length ≤ 16777216 ∧ p.s ≠ [] ∧ p.s.length ≤ 64
  lost : st.lost ≤ 9223372036854775807
  armed : st.armed ≤ 9223372036854775807

theorem applyP_snoc (f : Nat) (ps : List Pc) (k : Nat) (hk : k < ps.length) (l : List UInt8) : applyP f (ps.take (k + 1)) l = if ps[k].f = f then putL (applyP f (ps.take k) l) ps[k].at_ ps[k].s else applyP f (ps.take k) l := by
  unfold applyP
  rw [List.take_succ_eq_append_getElem hk, List.foldl_append]
  rfl

theorem applyP_le {f : Nat} : ∀ {ps : List Pc} {l : List UInt8} {M : Nat}, (∀ p ∈ ps, p.at_ + p.s.length ≤ M) → l.length ≤ M → (applyP f ps l).length ≤ M
  | [], l, M, _, h => h
  | p :: ps, l, M, hp, h => by
    show (applyP f ps (if p.f = f then putL l p.at_ p.s else l)).length ≤ M
    refine applyP_le (fun q hq => hp q (by simp [hq])) ?_
    split
    · rw [putL_length]; have := hp p (by simp); omega
    · exact h

def DSt.settle (st : DSt) (f : Nat) : DSt := DSt.forget { st with dur := up st.dur f (applyP f st.pend (st.dur f)) } f

def SRel (b f : Nat) (D : Nat → Prop) (w : World) (st : DSt) (pv kv : Value) (i : Value) (wr : World) : Prop :=
  ∃ (k : Nat) (own : Nat → Option Nat) (dv : Nat → Value), i = .int .i64 k ∧ k ≤ st.pend.length ∧ DRep wr b own dv pv kv { st with dur := up st.dur f (applyP f (st.pend.take k) (st.dur f)) } ∧ (∀ i k, i < 14 → own i = some k → D k ∨ w.heap.size ≤ k) ∧ Upd D w wr

theorem up_up {α : Type} (g : Nat → α) (i : Nat) (x y : α) : up (up g i x) i y = up g i y := by funext j; unfold up; split <;> rfl
theorem up_id {α : Type} (g : Nat → α) (i : Nat) : up g i (g i) = g := by funext j; unfold up; split <;> simp_all

set_option maxHeartbeats 1600000 in
theorem settle_rep (b f : Nat) (D : Nat → Prop) (st : DSt) (w : World) (h : Disk w b D st) (hf : f < 12) (hg : DGood st) :
    Calls Try.prog 40 #[dptr b, .int .i64 (f : Int)] w (Moved b D w (.tuple #[]) (st.settle f)) := by
  obtain ⟨own, dv, pv, kv, hr, hb, ho⟩ := h
  have hf1 : (f : Int) < 12 := by omega
  obtain ⟨pa, pc, rfl, hpc1, hpc2⟩ := hr.pend.form
  unfold maxLen at hpc2
  have hp1 := hr.cpend
  have h0 : Hid (SRel b f D w st (.slice pa st.pend.length pc) kv (.int .i64 0) w) := ⟨0, own, dv, rfl, Nat.zero_le _, by
    have : ({ st with dur := up st.dur f (applyP f (st.pend.take 0) (st.dur f)) } : DSt) = st := by
      rw [List.take_zero, show applyP f [] (st.dur f) = st.dur f from rfl, up_id]
    rw [this]; exact hr, fun i k hi hk => .inl (ho i k hi hk), Upd.refl _ _⟩
  clear hr ho
  go_enter Try.func40, Try.ntmps40
  go_wp2
  go_loopw [11] (fun i wr => SRel b f D w st (.slice pa st.pend.length pc) kv i wr) (fun i _ => st.pend.length - (intOf i).toNat)
  case atStart => exact h0.out
  case round =>
    clear h0
    obtain ⟨k, own', dv', rfl, hk, hr', ho', hu⟩ := hrel
    by_cases hlt : k < st.pend.length
    · have hpp := hg.pend _ (List.getElem_mem hlt)
      have hlen : (applyP f (st.pend.take k) (st.dur f)).length ≤ 16777216 := applyP_le (fun p hp => (hg.pend p (List.mem_of_mem_take hp)).2.1) (hg.dur f hf)
      obtain ⟨ab, cap', hv, hgg, _, _⟩ := hr'.pend.pos (by exact Nat.lt_of_le_of_lt (Nat.zero_le _) hlt)
      cases hv
      obtain ⟨h1, h2, h3⟩ := hr'.pend.pcell (k := k) hlt
      unfold strV at h3
      have hu2 := Lib.hid (hu.alloc (.cells #[.int .i64 (st.pend[k].f : Int), .int .i64 (st.pend[k].at_ : Int), .string ⟨st.pend[k].s.toArray⟩] 60))
      have hr2 := Lib.hid (hr'.upd ((Upd.refl (fun _ => False) wr).alloc (.cells #[.int .i64 (st.pend[k].f : Int), .int .i64 (st.pend[k].at_ : Int), .string ⟨st.pend[k].s.toArray⟩] 60)) (fun h => h) (fun _ _ _ _ h => h))
      have hbx := Lib.hid (Blk.newA wr #[.int .i64 (st.pend[k].f : Int), .int .i64 (st.pend[k].at_ : Int), .string ⟨st.pend[k].s.toArray⟩] 60)
      have hsz := hu.size
      by_cases hp : st.pend[k].f = f
      · have hp1 : ((st.pend[k].f : Int) == (f : Int)) = true := by simp [hp]
        have HP := Lib.hid hp; clear hp
        have HG := Lib.hid hpp; clear hpp
        go_wp2
        obtain ⟨w2, hw2⟩ : ∃ w2, w2 = wr.alloc (.cells #[.int .i64 (st.pend[k].f : Int), .int .i64 (st.pend[k].at_ : Int), .string ⟨st.pend[k].s.toArray⟩] 60) := ⟨_, rfl⟩
        rw [← hw2] at hr2 hu2 hbx ⊢
        clear hw2 h1 h2 h3 hr' hu
        have b1 : w2.cell? ⟨wr.heap.size, 1, none⟩ = some (.int .i64 (st.pend[k].at_ : Int)) := hbx.out.cell_of rfl
        have b2 : w2.cell? ⟨wr.heap.size, 2, none⟩ = some (.string ⟨st.pend[k].s.toArray⟩) := hbx.out.cell_of rfl
        have hcd := hr2.out.cdur hf
        obtain ⟨vd, hvd⟩ : ∃ vd, vd = dv' f := ⟨_, rfl⟩
        have hrow := hr2.out.dur f hf
        rw [show ({ st with dur := up st.dur f (applyP f (st.pend.take k) (st.dur f)) } : DSt).dur f = applyP f (st.pend.take k) (st.dur f) from up_same _ _ _, ← hvd] at hrow
        rw [← hvd] at hcd
        obtain ⟨da, dc, rfl, hd1, hd2⟩ := hrow.form
        have HV := Lib.hid hvd; clear hvd
        have HR := Lib.hid hrow; clear hrow
        refine PLM.wp_region_plm (fun _ => True) [] (by kernel_rfl) (by kernel_rfl) trivial ?_
        repeat (first | (refine PLM.step0 rfl (fun K hK => ?_); go_simp; refine hK _ ?_; clear hK K) | (refine PLM.step1 rfl rfl (fun K hK => ?_); go_simp; refine hK _ ?_; clear hK K))
        refine PLM.step2 rfl rfl (fun K hK => ?_)
        go_simp
        refine (put_any _ (own' f) (applyP f (st.pend.take k) (st.dur f)) st.pend[k].at_ ⟨st.pend[k].s.toArray⟩ _ HR.out.drew ?p1 ?p2 ?p3).mono ?_
        case p1 => have := HG.out; omega
        case p2 => have := HG.out; have e := data_len ⟨st.pend[k].s.toArray⟩; simp at e ⊢; omega
        case p3 => omega
        rintro e w3 ⟨v3, g3, rfl, hrow3, hg3, hu3⟩
        have hr4 := Lib.hid (hr2.out.drew.setDur hf hu3 (fun _ h => h) hrow3 hg3)
        obtain ⟨a3, c3, rfl, hc31, hc32⟩ := hrow3.form
        have hblk3 := hr2.out.drew.blk.upd hu3 (fun h => hr2.out.notb f (by omega) h)
        have hcell3 : w3.cell? ⟨b, f * 2, none⟩ = some (.slice da (applyP f (st.pend.take k) (st.dur f)).length dc) := by
          rw [hblk3.cell_of (dcells_get (by omega))]
          have := HV.out
          simp only [dcell, show f * 2 < 24 by omega, if_true, show f * 2 % 2 = 0 by omega, show f * 2 / 2 = f by omega, ← this]
        have hfz3 : w3.frozen? ⟨b, f * 2, none⟩ = false := hblk3.frozen (by simp [dcells]; omega)
        have hu4 := Lib.hid (((hu2.out.drew).trans hu3 (fun k hk h => (ho' f k (by omega) h).resolve_right (by omega))).setCell (p := ⟨b, f * 2, none⟩) (fun _ => hb) (.slice a3 (putL (applyP f (st.pend.take k) (st.dur f)) st.pend[k].at_ st.pend[k].s).length c3))
        have ho4 := Lib.hid (foot_up (i := f) ho' (by omega) (g := g3) (fun k hk => by
          have h2 := hu2.out.size
          rcases hg3 k hk with h | h
          · exact ho' f k (by omega) h
          · exact .inr (Nat.le_trans h2 h)))
        clear ho' hblk3
        refine hK _ _ trivial ?_; clear hK K
        repeat (first | (refine PLM.step0 rfl (fun K hK => ?_); go_simp; refine hK _ ?_; clear hK K) | (refine PLM.step1 rfl rfl (fun K hK => ?_); go_simp; refine hK _ ?_; clear hK K))
        (refine PLM.step2 rfl rfl (fun K hK => ?_); go_simp; refine hK _ _ trivial ?_; clear hK K)
        refine PLM.stepNil ?_
        go_wp2
        go_roundw
        case rel =>
          refine ⟨k + 1, up own' f g3, up dv' f (.slice a3 (putL (applyP f (st.pend.take k) (st.dur f)) st.pend[k].at_ st.pend[k].s).length c3), by simp, by omega, ?_, ho4.out, ?_⟩
          · have := hr4.out
            simp only [up_up] at this
            rw [applyP_snoc f st.pend k hlt, if_pos HP.out]
            exact this
          · exact hu4.out
        case measure => simp [intOf]; omega
      · have hp1 : ((st.pend[k].f : Int) == (f : Int)) = false := beq_eq_false_iff_ne.2 (by omega)
        have HP := Lib.hid hp; clear hp
        clear hr' hu
        go_wp2
        go_roundw
        case rel => exact ⟨k + 1, own', dv', by simp, by omega, by rw [applyP_snoc f st.pend k hlt, if_neg HP.out]; exact hr2.out, ho', hu2.out⟩
        case measure => simp [intOf]; omega
    · have hke : k = st.pend.length := by omega
      subst hke
      rw [List.take_length] at hr'
      go_wp2_with fail
      refine (forget_rep b f (fun k => D k ∨ w.heap.size ≤ k) _ wr ⟨own', dv', _, kv, hr', .inl hb, ho'⟩ hf).mono ?_
      rintro e w2 ⟨rfl, hd2, hu2⟩
      go_wp2
      go_end0
      exact ⟨rfl, hd2.mono (fun k _ hk => by have := hu.size; rcases hk with hk | hk; exact hk; exact .inr (by omega)), hu.trans hu2 (fun k hk h => h.resolve_right (by omega))⟩
end Go.Proofs.Ythfnnkfdpnkodaa
