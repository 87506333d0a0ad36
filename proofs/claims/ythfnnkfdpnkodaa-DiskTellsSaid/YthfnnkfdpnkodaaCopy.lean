/- Copy walked. -/
import Derived.Test.YthfnnkfdpnkodaaClone
namespace Go.Proofs.Ythfnnkfdpnkodaa
open Go.RowKit

theorem bytesV_one (l : List UInt8) : ∀ u ∈ bytesV l, u.oneCell' = true := by
  intro u hu
  unfold bytesV at hu
  obtain ⟨_, _, rfl⟩ := List.mem_map.1 hu
  rfl

theorem pendV_one (l : List Pc) : ∀ u ∈ pendV l, u.oneCell' = true := by
  intro u hu
  unfold pendV at hu
  obtain ⟨p, _, hp⟩ := List.mem_flatMap.1 hu
  simp only [Pc.cells, List.mem_cons, List.not_mem_nil, or_false] at hp
  rcases hp with rfl | rfl | rfl <;> rfl

theorem up_self {α : Type} (g : Nat → α) (i : Nat) : up g i (g i) = g := by
  funext j
  by_cases h : j = i
  · rw [h, up_same]
  · rw [up_other _ _ h]

def Copied (b : Nat) (st : DSt) (w : World) (e : Ending) (w' : World) : Prop :=
  ∃ c, e = .returned (dptr c) ∧ Disk w' c (fun k => w.heap.size ≤ k) st ∧ Upd (fun _ => False) w w'

def DSt.blank (st : DSt) : DSt := { st with pend := [], down := false, lost := 0, armed := 0, keep := [] }

def CopyRel (w : World) (c : Nat) (own : Nat → Option Nat) (dv : Nat → Value) (st : DSt) (kval : Value) (w' : World) : Prop :=
  ∃ (k : Nat) (own' : Nat → Option Nat) (dv' : Nat → Value) (pv' kv' : Value), kval = .int .i64 (k : Int) ∧ k ≤ 12 ∧
    DRep w' c own' dv' pv' kv' st.blank ∧
    (∀ f b', f < k → own' f = some b' → w.heap.size ≤ b') ∧ (∀ f, k ≤ f → f < 12 → own' f = own f ∧ dv' f = dv f) ∧ own' 12 = none ∧ own' 13 = none ∧ Upd (fun _ => False) w w'

def filesV (dv : Nat → Value) (st : DSt) : List Value := (List.range 24).map fun o => if o % 2 = 0 then dv (o / 2) else .int .i64 (st.siz (o / 2))

theorem filesV_size (dv : Nat → Value) (st : DSt) : (filesV dv st).toArray.size = 24 := by simp [filesV]

theorem files_desc : Try.prog.underlying 54 = some (.array 12 53) := by kernel_rfl
theorem files_size (dv : Nat → Value) (st : DSt) : (Try.prog.info? 54).map (·.size) = some (filesV dv st).toArray.size := by rw [filesV_size]; kernel_rfl

theorem filesV_at {w : World} {b : Nat} {own : Nat → Option Nat} {dv : Nat → Value} {pv kv : Value} {st : DSt} (h : DRep w b own dv pv kv st) : w.rangeAt b 0 (filesV dv st) := by
  intro j v hj
  have hj' : j < 24 := by have := (List.getElem?_eq_some_iff.1 hj).1; simpa [filesV] using this
  rw [Nat.zero_add, h.cell (by omega)]
  simp only [filesV, List.getElem?_map, List.getElem?_range hj', Option.map_some] at hj
  cases hj
  simp [dcell, hj']

theorem filesV_one {w : World} {b : Nat} {own : Nat → Option Nat} {dv : Nat → Value} {pv kv : Value} {st : DSt} (h : DRep w b own dv pv kv st) : (filesV dv st).toArray.all (·.oneCell') = true := by
  refine all_oneCell_toArray fun v hv => ?_
  obtain ⟨o, ho, rfl⟩ := List.mem_map.1 hv
  have ho' : o < 24 := by simpa using ho
  split
  · obtain ⟨a, c, hv, _⟩ := (h.dur (o / 2) (by omega)).form
    rw [hv]; rfl
  · rfl

theorem files_rep {w1 : World} {c b : Nat} {own1 own : Nat → Option Nat} {dv1 dv : Nat → Value} {pv1 kv1 pv kv : Value} {st : DSt} (hr1 : DRep w1 c own1 dv1 pv1 kv1 st0) (hn : ∀ i, i < 14 → own1 i = none) (hr : DRep w1 b own dv pv kv st) (hc : ∀ i, i < 14 → own i ≠ some c) :
    DRep (w1.setCells c 0 (filesV dv st)) c (fun i => if i < 12 then own i else none) dv pv1 kv1 st.blank := by
  have hu : Upd (fun k => k = c) w1 (w1.setCells c 0 (filesV dv st)) := (Upd.refl _ w1).setCells _ _ (fun _ => rfl)
  have hl : (filesV dv st).length = 24 := by simp [filesV]
  have hl2 : (dcells dv1 pv1 kv1 st0).length = 29 := by simp [dcells]
  refine ⟨?_, fun f hf => ?_, ?_, ?_, fun i j k hi hj h1 h2 => ?_, fun i hi h => ?_⟩
  · have hb := hr1.blk.setCells (filesV dv st) 0 (by omega)
    rw [show splice (dcells dv1 pv1 kv1 st0) 0 (filesV dv st) = dcells dv pv1 kv1 st.blank from ?_] at hb
    · exact hb
    · apply List.ext_getElem?
      intro i
      rw [splice_get _ _ _ (by omega)]
      by_cases h1 : i < 24
      · rw [if_pos ⟨Nat.zero_le _, by omega⟩, dcells_get (by omega)]
        simp only [filesV, Nat.sub_zero, List.getElem?_map, List.getElem?_range h1, Option.map_some, dcell, if_pos h1]
        rfl
      · rw [if_neg (by omega)]
        by_cases h2 : i < 29
        · rw [dcells_get h2, dcells_get h2]
          simp only [dcell, if_neg h1]
          rfl
        · rw [List.getElem?_eq_none (by omega), List.getElem?_eq_none (by simp [dcells]; omega)]
  · rw [if_pos hf]
    exact (hr.dur f hf).upd hu (fun k hk e => hc f (by omega) (e ▸ hk))
  · have := hr1.pend.upd hu (fun k hk e => by rw [hn 12 (by omega)] at hk; cases hk)
    rw [hn 12 (by omega)] at this
    exact this
  · have := hr1.keep.upd hu (fun k hk e => by rw [hn 13 (by omega)] at hk; cases hk)
    rw [hn 13 (by omega)] at this
    exact this
  · split at h1 <;> split at h2
    · exact hr.apart i j k hi hj h1 h2
    · cases h2
    · cases h1
    · cases h1
  · split at h
    · exact hc i hi h
    · cases h

set_option maxHeartbeats 1600000 in
theorem Copy_any (b : Nat) (D : Nat → Prop) (st : DSt) (w : World) (h : Disk w b D st) (hg : DGood st) (hpl : st.pend.length ≤ 1099511627776) (hkl : st.keep.length ≤ 17592186044416) :
    Calls Try.prog 24 #[dptr b] w (Copied b st w) := by
  obtain ⟨own, dv, pv, kv, hr, hb, ho⟩ := h
  go_enter Try.func24, Try.ntmps24
  go_wp2_with fail
  refine (new_any w).mono ?_
  rintro e w1 ⟨rfl, hd1, hu1⟩
  obtain ⟨c, hc⟩ : ∃ c, c = w.heap.size := ⟨_, rfl⟩
  rw [← hc] at hd1 ⊢
  obtain ⟨own1, dv1, pv1, kv1, hr1, -, ho1⟩ := hd1
  have hcl := hr1.blk.lt
  have hbl := hr.blk.lt
  have hon : ∀ i, i < 14 → own1 i = none := fun i hi => by
    cases hx : own1 i with
    | none => rfl
    | some k => have h1 : k = c := ho1 i k hi hx; exact absurd hx (h1 ▸ hr1.notb i hi)
  have HON := Lib.hid hon; clear hon ho1
  have HC := Lib.hid hc; clear hc
  have hrd1 := Lib.hid (hr.upd hu1 (fun h => h) (fun _ _ _ _ h => h))
  have hrng : w1.rangeAt b 0 (filesV dv st) := filesV_at hrd1.out
  have hth : w1.there c 0 (filesV dv st).toArray.size := by
    rw [filesV_size]
    intro j hj
    rw [Nat.zero_add]
    exact ⟨by rw [hr1.cell (by omega)]; rfl, hr1.froz (by omega)⟩
  go_wp2_with (first
    | refine wpList_load_mid rfl 54 (.tmp 9) rfl b 0 rfl (filesV dv st) (.array 12 53) hrng files_desc rfl (files_size dv st) ?_
    | refine wpList_store_mid rfl 54 (.tmp 12) (.tmp 10) rfl _ 0 (filesV dv st).toArray rfl rfl hth (files_size dv st) (filesV_one hrd1.out) ?_)
  have h0 : Hid (CopyRel w c own dv st (.int .i64 0) (w1.setCells c 0 (filesV dv st))) := by
    refine ⟨0, _, dv, pv1, kv1, rfl, by omega, files_rep hr1 HON.out hrd1.out (fun i hi h => by have := hr.lt hi h; have := HC.out; omega), fun f b' h => by omega, fun f _ hf => ⟨if_pos hf, rfl⟩, rfl, rfl, ?_⟩
    exact Upd.setCells (a := w) _ _ hu1 (fun h => by have := HC.out; omega)
  have HKC := Lib.hid (show ∀ i, i < 14 → own i ≠ some c from fun i hi h => by have := hr.lt hi h; have := HC.out; omega)
  have HR := Lib.hid hr
  clear hr hr1 hrng hth hu1 hrd1
  go_loopw [13] (fun i wr => CopyRel w c own dv st i wr) (fun i _ => 12 - (intOf i).toNat)
  case atStart => exact h0.out
  case round =>
    clear h0
    obtain ⟨k, own2, dv2, pv2, kv2, rfl, hk, hr2, ho2, he2, h12, h13, hu2⟩ := hrel
    have hsz2 := hu2.size
    by_cases hlt : k < 12
    · have hi2 : (k : Int) < 12 := by omega
      obtain ⟨da, dc, hdv, hd1, hd2⟩ := (hr2.dur k hlt).form
      have hcd := hr2.cdur hlt
      have hff := hr2.froz (o := k * 2) (by omega)
      rw [hdv] at hcd
      have hrow2 := hr2.dur k hlt
      rw [hdv] at hrow2
      have HROW := Lib.hid hrow2
      clear hrow2 hdv
      go_wp2
      refine PLM.wp_region_plm (fun _ => True) [] (by kernel_rfl) (by kernel_rfl) trivial ?_
      repeat (first | (refine PLM.step0 rfl (fun K hK => ?_); go_simp; refine hK _ ?_; clear hK K) | (refine PLM.step1 rfl rfl (fun K hK => ?_); go_simp; refine hK _ ?_; clear hK K))
      refine PLM.step2 rfl rfl (fun K hK => ?_)
      go_simp
      refine (clone_u8 _ _ _ _ _ HROW.out.drew (bytesV_one _) (Nat.le_trans (hg.dur k hlt) (by omega))).mono ?_
      rintro e w3 ⟨v3, g3, rfl, hrow3, hg3, hu3⟩
      have hu3' : Upd (fun _ => False) wr w3 := ((Upd.refl _ wr).drew).trans hu3 (fun _ _ h => h)
      have hr3 := hr2.upd hu3' (fun h => h) (fun _ _ _ _ h => h)
      have c3 := hr3.cdur hlt
      have f3 := hr3.froz (o := k * 2) (by omega)
      have h3 := Lib.hid (hr2.setDur (S := fun _ => False) hlt hu3' (fun _ h => h.elim) hrow3 (fun b' hb' => .inr (hg3 b' hb')))
      have hu4 := Lib.hid ((hu2.trans hu3' (fun _ _ h => h)).setCell (p := ⟨c, k * 2, none⟩) (fun h => by have h : c < w.heap.size := h; have := HC.out; omega) v3)
      obtain ⟨a3, cc3, rfl, _, _⟩ := hrow3.form
      have hg3' := hg3
      clear hrow3 hr3
      go_simp
      refine hK _ _ trivial ?_; clear hK K
      repeat (first | (refine PLM.step0 rfl (fun K hK => ?_); go_simp; refine hK _ ?_; clear hK K) | (refine PLM.step1 rfl rfl (fun K hK => ?_); go_simp; refine hK _ ?_; clear hK K))
      (refine PLM.step2 rfl rfl (fun K hK => ?_); go_simp; refine hK _ _ trivial ?_; clear hK K)
      refine PLM.stepNil ?_
      go_wp2
      go_roundw
      case rel =>
        have h4 := h3.out
        rw [up_self] at h4
        refine ⟨k + 1, _, _, _, _, by simp, by omega, h4, fun f b' hf h => ?_, fun f hf hf2 => ?_, ?_, ?_, hu4.out⟩
        · by_cases e : f = k
          · rw [e, up_same] at h; have : wr.heap.size ≤ b' := hg3' b' h; omega
          · rw [up_other _ _ e] at h; exact ho2 f b' (by omega) h
        · rw [up_other _ _ (by omega), up_other _ _ (by omega)]; exact he2 f (by omega) hf2
        · rw [up_other _ _ (by omega)]; exact h12
        · rw [up_other _ _ (by omega)]; exact h13
      case measure => simp [intOf]; omega
    · have hke : k = 12 := by omega
      subst hke
      clear he2 hlt
      have hrb := HR.out.upd hu2 (fun h => h) (fun _ _ _ _ h => h)
      obtain ⟨pa, pc, rfl, _, _⟩ := hrb.pend.form
      obtain ⟨ka, kc, rfl, _, _⟩ := hrb.keep.form
      have b24 := hrb.cpend
      have b28 := hrb.ckeep
      have HRB := Lib.hid hrb; clear hrb
      have HRC := Lib.hid hr2; clear hr2
      go_wp2
      refine PLM.wp_region_plm (fun w1 => w1.cell? ⟨b, 28, none⟩ = some (.slice ka st.keep.length kc)) [(10, 4)] (by kernel_rfl) (by kernel_rfl) b28 ?_
      repeat (first | (refine PLM.step0 rfl (fun K hK => ?_); go_simp; refine hK _ ?_; clear hK K) | (refine PLM.step1 rfl rfl (fun K hK => ?_); go_simp; refine hK _ ?_; clear hK K))
      refine PLM.step2 rfl rfl (fun K hK => ?_)
      go_simp
      refine (clone_write _ _ _ _ _ HRB.out.pend.drew (pendV_one _) hpl).mono ?_
      rintro e w3 ⟨v3, g3, rfl, hrow3, hg3, hu3⟩
      have hu3' : Upd (fun _ => False) wr w3 := ((Upd.refl _ wr).drew).trans hu3 (fun _ _ h => h)
      have hrb3 := HRB.out.upd hu3' (fun h => h) (fun _ _ _ _ h => h)
      have b28 := hrb3.ckeep
      have HRB3 := Lib.hid hrb3; clear hrb3
      have hrc3 := HRC.out.upd hu3' (fun h => h) (fun _ _ _ _ h => h)
      have hp3 := Lib.hid (HRC.out.setPend (S := fun _ => False) hu3' (fun _ h => h.elim) hrow3 (fun b' hb' => .inr (hg3 b' hb')))
      obtain ⟨a3, cc3, rfl, _, _⟩ := hrow3.form
      have hg3' := Lib.hid hg3
      have HU3 := Lib.hid hu3'
      have HROW3 := Lib.hid hrow3
      clear hu3 hrow3 hg3 hu3'
      go_simp
      refine hK _ _ b28 ?_; clear hK K
      repeat (first | (refine PLM.step0 rfl (fun K hK => ?_); go_simp; refine hK _ ?_; clear hK K) | (refine PLM.step1 rfl rfl (fun K hK => ?_); go_simp; refine hK _ ?_; clear hK K))
      (refine PLM.step4 rfl (fun w1 hS => by go_simp) (fun K hK => ?_); go_simp; refine hK _ ?_; clear hK K)
      refine PLM.step2 rfl rfl (fun K hK => ?_)
      go_simp
      refine (clone_int _ _ _ _ _ HRB3.out.keep (intsV_one _) hkl).mono ?_
      rintro e w4 ⟨v4, g4, rfl, hrow4, hg4, hu4⟩
      have hrb4 := HRB3.out.upd hu4 (fun h => h) (fun _ _ _ _ h => h)
      have b28 := hrb4.ckeep
      have hcl3 := hrc3.blk.lt
      have hbase := hu4.setBoth (b := c) (fun h => h) hcl3 24 (.slice a3 st.pend.length cc3)
      have hrow4' := hrow4.of_heap (w' := w4.setCell ⟨c, 24, none⟩ (.slice a3 st.pend.length cc3)) (fun k hk => heap_setCell_other w4 c 24 _ (fun e => by have := hg4 k hk; omega))
      have hk4 := hp3.out.setKeep (S := fun _ => False) hbase (fun _ h => h.elim) hrow4' (fun k hk => .inr (by have := hg4 k hk; simpa [World.setCell] using this))
      have hub := hrb4.blk
      have hrc4 := hrc3.upd hu4 (fun h => h) (fun _ _ _ _ h => h)
      have c24 := hrc4.cpend
      have f24 := hrc4.froz (o := 24) (by omega)
      have c28 := hrc4.ckeep
      have f28 := hrc4.froz (o := 28) (by omega)
      have hcb : c ≠ b := by have := HC.out; omega
      obtain ⟨a4, cc4, rfl, _, _⟩ := hrow4.form
      have hS1 := (World.cell?_setCell_other w4 ⟨c, 24, none⟩ ⟨b, 28, none⟩ (.slice a3 st.pend.length cc3) (fun e => hcb (congrArg Addr.block e))).trans b28
      have hS2 := (World.cell?_setCell_other _ ⟨c, 28, none⟩ ⟨b, 28, none⟩ (.slice a4 st.keep.length cc4) (fun e => hcb (congrArg Addr.block e))).trans hS1
      have HS1 := Lib.hid hS1
      have HS2 := Lib.hid hS2
      have HK4 := Lib.hid hk4
      have hb4' := Lib.hid (hrb4.upd (((Upd.refl (fun k => k = c) w4).setCell (p := ⟨c, 24, none⟩) (fun _ => rfl) (.slice a3 st.pend.length cc3)).setCell (p := ⟨c, 28, none⟩) (fun _ => rfl) (.slice a4 st.keep.length cc4)) (fun h => hcb h.symm) (fun i k hi hk h => by have := HRB.out.lt hi hk; subst h; exact absurd hk (HKC.out i hi)))
      clear hS1 hS2 hk4 hbase hrow4' hub hrc3 hrc4 hrb4
      go_simp
      refine hK _ _ b28 ?_; clear hK K
      repeat (first | (refine PLM.step0 rfl (fun K hK => ?_); go_simp; refine hK _ ?_; clear hK K) | (refine PLM.step1 rfl rfl (fun K hK => ?_); go_simp; refine hK _ ?_; clear hK K))
      (refine PLM.step2 rfl rfl (fun K hK => ?_); go_simp; refine hK _ _ HS1.out ?_; clear hK K)
      repeat (first | (refine PLM.step0 rfl (fun K hK => ?_); go_simp; refine hK _ ?_; clear hK K) | (refine PLM.step1 rfl rfl (fun K hK => ?_); go_simp; refine hK _ ?_; clear hK K))
      (refine PLM.step2 rfl rfl (fun K hK => ?_); go_simp; refine hK _ _ HS2.out ?_; clear hK K)
      refine PLM.stepNil ?_
      have hu5 := Lib.hid ((((hu2.trans HU3.out (fun _ _ h => h)).trans hu4 (fun _ _ h => h)).setCell (p := ⟨c, 24, none⟩) (fun h => by have h : c < w.heap.size := h; have := HC.out; omega) (.slice a3 st.pend.length cc3)).setCell (p := ⟨c, 28, none⟩) (fun h => by have h : c < w.heap.size := h; have := HC.out; omega) (.slice a4 st.keep.length cc4))
      have hw4 := hu4.size
      have hw3 := HU3.out.size
      obtain ⟨w5, hw5⟩ : ∃ w5, w5 = (w4.setCell ⟨c, 24, none⟩ (.slice a3 st.pend.length cc3)).setCell ⟨c, 28, none⟩ (.slice a4 st.keep.length cc4) := ⟨_, rfl⟩
      rw [← hw5] at hb4' HK4 hu5 ⊢
      clear hw5 HS1 HS2 c24 c28 f24 f28 b28 hrow4
      have d25 := hb4'.out.cdown
      have d26 := hb4'.out.clost
      have d27 := hb4'.out.carmed
      have c25 := HK4.out.cdown
      have c26 := HK4.out.clost
      have c27 := HK4.out.carmed
      have f25 := HK4.out.froz (o := 25) (by omega)
      have f26 := HK4.out.froz (o := 26) (by omega)
      have f27 := HK4.out.froz (o := 27) (by omega)
      go_wp2
      refine PLM.wp_region_plm (fun _ => True) [] (by kernel_rfl) (by kernel_rfl) trivial ?_
      repeat (first | (refine PLM.step0 rfl (fun K hK => ?_); go_simp; refine hK _ ?_; clear hK K) | (refine PLM.step1 rfl rfl (fun K hK => ?_); go_simp; refine hK _ ?_; clear hK K))
      (refine PLM.step2 rfl rfl (fun K hK => ?_); go_simp; refine hK _ _ trivial ?_; clear hK K)
      repeat (first | (refine PLM.step0 rfl (fun K hK => ?_); go_simp; refine hK _ ?_; clear hK K) | (refine PLM.step1 rfl rfl (fun K hK => ?_); go_simp; refine hK _ ?_; clear hK K))
      (refine PLM.step2 rfl rfl (fun K hK => ?_); go_simp; refine hK _ _ trivial ?_; clear hK K)
      repeat (first | (refine PLM.step0 rfl (fun K hK => ?_); go_simp; refine hK _ ?_; clear hK K) | (refine PLM.step1 rfl rfl (fun K hK => ?_); go_simp; refine hK _ ?_; clear hK K))
      (refine PLM.step2 rfl rfl (fun K hK => ?_); go_simp; refine hK _ _ trivial ?_; clear hK K)
      refine PLM.stepNil ?_
      go_wp2
      go_ret
      refine ⟨c, rfl, ⟨_, _, _, _, ((HK4.out.drew.setDown st.down).setLost st.lost).setArmed st.armed, by have := HC.out; omega, ?_⟩, ?_⟩
      · intro i k hi hk
        by_cases e : i = 13
        · rw [e, up_same] at hk; have := hg4 k hk; omega
        · rw [up_other _ _ e] at hk
          by_cases e2 : i = 12
          · rw [e2, up_same] at hk; have : wr.heap.size ≤ k := hg3'.out k hk; omega
          · rw [up_other _ _ e2] at hk
            exact ho2 i k (by omega) hk
      · have hcs : c < w.heap.size → False := fun h => by have := HC.out; omega
        exact ((hu5.out.drew.setCell (p := ⟨c, 25, none⟩) hcs _).setCell (p := ⟨c, 26, none⟩) hcs _).setCell (p := ⟨c, 27, none⟩) hcs _
end Go.Proofs.Ythfnnkfdpnkodaa
