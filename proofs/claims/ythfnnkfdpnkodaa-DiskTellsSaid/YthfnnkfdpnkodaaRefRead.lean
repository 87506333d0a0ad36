/- The reference's read, after and without, walked. -/
import Derived.Test.YthfnnkfdpnkodaaRefPut
namespace Go.Proofs.Ythfnnkfdpnkodaa
open Go.RowKit

theorem Upd.cell {w w' : World} (hu : Upd (fun _ => False) w w') {p : Addr} {v : Value} (h : w.cell? p = some v) : w'.cell? p = some v :=
  (World.cell?_of_block (w := w) (hu.block p.block (World.block_lt_of_cell? w _ h) (fun h => h))).trans h

theorem Row.pc {w : World} {e : TypeId} {v : Value} {g : Option Nat} {l : List Pc} (h : Row w e 3 v g l.length (pendV l)) {a : Option Addr} {cap : Nat} (hv : v = .slice a l.length cap) {k : Nat} (hk : k < l.length) :
    ∃ kb, a = some ⟨kb, 0, none⟩ ∧ w.cell? ⟨kb, k * 3, none⟩ = some (.int .i64 (l[k].f : Int)) ∧ w.cell? ⟨kb, k * 3 + 1, none⟩ = some (.int .i64 (l[k].at_ : Int)) ∧ w.cell? ⟨kb, k * 3 + 2, none⟩ = some (strV l[k].s) := by
  obtain ⟨kb, c, hv', hg, _, _⟩ := h.pos (by omega)
  rw [hv] at hv'
  cases hv'
  obtain ⟨h1, h2, h3⟩ := pendV_get l k hk
  exact ⟨kb, rfl, h.cell hg h1, h.cell hg h2, h.cell hg h3⟩

/-- What the reference's methods read. -/
structure RSeen (b : Nat) (st : DSt) (w : World) (lb : Nat) (lc : Nat) (qa : Option Addr) (qc : Nat) : Prop where
  c0 : w.cell? ⟨b, 0, none⟩ = some (.slice (some ⟨lb, 0, none⟩) 12 lc)
  c1 : w.cell? ⟨b, 1, none⟩ = some (.slice qa st.pend.length qc)
  last : ∀ f, f < 12 → w.cell? ⟨lb, f, none⟩ = some (strV (st.dur f))
  row : ∃ g, Row w 76 3 (.slice qa st.pend.length qc) g st.pend.length (pendV st.pend)

theorem RD.seen {b : Nat} {st : DSt} {rk : List Int} {w : World} {D : Nat → Prop} (h : RD b st rk w D) : ∃ lb lc qa qc, RSeen b st w lb lc qa qc := by
  obtain ⟨v0, g0, c0, r0, _, _⟩ := Owned.focus h (i := 0) rfl
  obtain ⟨v1, g1, c1, r1, _, _⟩ := Owned.focus h (i := 1) rfl
  obtain ⟨lb, lc, rfl, hg0, _, _⟩ := r0.pos (by omega)
  obtain ⟨qa, qc, rfl, _, _⟩ := r1.form
  exact ⟨lb, lc, qa, qc, c0, c1, fun f hf => r0.cell hg0 (lastsV_get _ hf), g1, r1⟩

theorem RSeen.upd {b : Nat} {st : DSt} {w w' : World} {lb lc : Nat} {qa : Option Addr} {qc : Nat} (h : RSeen b st w lb lc qa qc) (u : Upd (fun _ => False) w w') : RSeen b st w' lb lc qa qc := by
  obtain ⟨g, hr⟩ := h.row
  exact ⟨u.cell h.c0, u.cell h.c1, fun f hf => u.cell (h.last f hf), g, hr.upd u fun _ _ h => h⟩

def RrRel (f : Nat) (w : World) (st : DSt) (gk : Nat) (s i : Value) (wr : World) : Prop :=
  ∃ k : Nat, i = .int .i64 k ∧ k ≤ st.pend.length ∧ gk = st.pend.length - k ∧ s = strV (applyP f (st.pend.take k) (st.dur f)) ∧ Upd (fun _ => False) w wr

theorem exStr (l : List UInt8) : ∃ S : ByteArray, strV l = .string S ∧ S.data.toList = l ∧ S.size = l.length := ⟨⟨l.toArray⟩, rfl, by simp, by simp [ByteArray.size]⟩

set_option maxHeartbeats 1600000 in
theorem rread_any (b f : Nat) (hf : f < 12) (st : DSt) (hg : DGood st) (w : World) (lb lc : Nat) (qa : Option Addr) (qc : Nat) (h : RSeen b st w lb lc qa qc) (hp : st.pend.length ≤ 1099511627776) :
    Calls Try.prog 50 #[dptr b, .int .i64 (f : Int)] w (fun e w' => e = .returned (strV (applyP f st.pend (st.dur f))) ∧ Upd (fun _ => False) w w') := by
  have H := Lib.hid h
  have HG := Lib.hid hg
  have c0 := h.c0
  obtain ⟨S0, hS0, hS0l, _⟩ := exStr (st.dur f)
  have cl := h.last f hf
  rw [hS0] at cl
  have HS0 := Lib.hid hS0
  have h0 : Hid (RrRel f w st st.pend.length (.string S0) (.int .i64 0) w) := Lib.hid ⟨0, rfl, Nat.zero_le _, rfl, by rw [List.take_zero]; exact hS0.symm, Upd.refl _ _⟩
  have hfi : (f : Int) < 12 := by omega
  clear h hg hS0 hS0l
  go_enter Try.func50, Try.ntmps50
  go_wp2_with fail
  go_loopg [5, 6] st.pend.length (fun gk s i wr => RrRel f w st gk s i wr)
  case atStart => exact h0.out
  case round =>
    clear h0 c0 cl
    obtain ⟨k, rfl, hk, rfl, rfl, hu⟩ := hrel
    have h' := H.out.upd hu
    have c1 := h'.c1
    obtain ⟨S, hS, hSl, hSz⟩ := exStr (applyP f (st.pend.take k) (st.dur f))
    rw [hS]
    have hlen : (applyP f (st.pend.take k) (st.dur f)).length ≤ 16777216 := applyP_le (fun p hp => (HG.out.pend p (List.mem_of_mem_take hp)).2.1) (HG.out.dur f hf)
    by_cases hlt : k < st.pend.length
    · obtain ⟨g, hrow⟩ := h'.row
      obtain ⟨kb, rfl, p0, p1, p2⟩ := hrow.pc rfl hlt
      obtain ⟨T, hT, hTl, hTz⟩ := exStr st.pend[k].s
      rw [hT] at p2
      have hpp := HG.out.pend _ (List.getElem_mem hlt)
      have hsnoc := Lib.hid (applyP_snoc f st.pend k hlt (st.dur f))
      have HSl := Lib.hid hSl
      have HTl := Lib.hid hTl
      have hT16 : st.pend[k].at_ + T.size ≤ 16777216 := by omega
      have hS16 : S.size ≤ 16777216 := by omega
      clear hS hT hSl hTl hrow h' hpp hlen hSz hTz
      by_cases hp : st.pend[k].f = f
      · have hp1 : ((st.pend[k].f : Int) == (f : Int)) = true := by simp [hp]
        have HP := Lib.hid hp; clear hp
        have hcall := Lib.hid (rput_any S st.pend[k].at_ T wr.drew hS16 hT16)
        go_wp2_with fail
        refine PLM.wp_region_plm (fun _ => True) [] (by kernel_rfl) (by kernel_rfl) trivial ?_
        repeat (first | (refine PLM.step0 rfl (fun K hK => ?_); go_simp; refine hK _ ?_; clear hK K) | (refine PLM.step1 rfl rfl (fun K hK => ?_); go_simp; refine hK _ ?_; clear hK K))
        refine PLM.step2 rfl rfl (fun K hK => ?_)
        go_simp
        refine hcall.out.mono ?_
        rintro e w5 ⟨rfl, hu5⟩
        have hu5' := Lib.hid ((hu.drew).trans hu5 (fun _ _ h => h))
        have hres : Hid (strV (putL S.data.toList st.pend[k].at_ T.data.toList) = strV (applyP f (st.pend.take (k + 1)) (st.dur f))) := Lib.hid (by rw [hsnoc.out, if_pos HP.out, HSl.out, HTl.out])
        rw [hres.out]
        clear hu5 hcall c1 p0 p1 p2
        unfold strV
        go_simp
        refine hK _ _ trivial ?_; clear hK K
        repeat (first | (refine PLM.step0 rfl (fun K hK => ?_); go_simp; refine hK _ ?_; clear hK K) | (refine PLM.step1 rfl rfl (fun K hK => ?_); go_simp; refine hK _ ?_; clear hK K))
        refine PLM.stepNil ?_
        go_wp2_with fail
        go_roundg (st.pend.length - (k + 1))
        case rel => exact ⟨k + 1, by simp, by omega, rfl, rfl, hu5'.out⟩
        case measure => omega
      · have hp1 : ((st.pend[k].f : Int) == (f : Int)) = false := beq_eq_false_iff_ne.2 (by omega)
        have HP := Lib.hid hp; clear hp
        go_wp2_with fail
        go_roundg (st.pend.length - (k + 1))
        case rel => exact ⟨k + 1, by simp, by omega, rfl, by rw [hsnoc.out, if_neg HP.out, ← HSl.out, strV_data], hu⟩
        case measure => omega
    · have hke : k = st.pend.length := by omega
      subst hke
      rw [List.take_length] at hS
      have HS := Lib.hid hS
      clear hS hSl hSz hlen
      go_wp2
      go_ret
      exact ⟨by rw [HS.out]; rfl, hu⟩
end Go.Proofs.Ythfnnkfdpnkodaa
