/- disk.crash: what survives. -/
import Derived.Test.YthfnnkfdpnkodaaSettle
namespace Go.Proofs.Ythfnnkfdpnkodaa
open Go.RowKit


/-- What survives of a pending write. -/
def keepText (c : Int) (s : List UInt8) : List UInt8 := if c = 1 then s else if c = 2 then s.take 24 else []

def crashN (ps : List Pc) (ks : List Int) (d : Nat → List UInt8) : Nat → Nat → List UInt8
  | 0 => d
  | k + 1 => match ps[k]?, ks[k]? with
    | some p, some c => if keepText c p.s = [] then crashN ps ks d k else up (crashN ps ks d k) p.f (putL (crashN ps ks d k p.f) p.at_ (keepText c p.s))
    | _, _ => crashN ps ks d k

theorem crashN_succ {ps : List Pc} {ks : List Int} (d : Nat → List UInt8) {k : Nat} (h1 : k < ps.length) (h2 : k < ks.length) :
    crashN ps ks d (k + 1) = if keepText ks[k] ps[k].s = [] then crashN ps ks d k else up (crashN ps ks d k) ps[k].f (putL (crashN ps ks d k ps[k].f) ps[k].at_ (keepText ks[k] ps[k].s)) := by
  rw [crashN, List.getElem?_eq_getElem h1, List.getElem?_eq_getElem h2]

theorem crashN_skip {ps : List Pc} {ks : List Int} (d : Nat → List UInt8) {k : Nat} (h : ps.length ≤ k ∨ ks.length ≤ k) : crashN ps ks d (k + 1) = crashN ps ks d k := by
  rw [crashN]
  rcases h with h | h
  · rw [List.getElem?_eq_none h]
  · rw [List.getElem?_eq_none h]
    cases ps[k]? <;> rfl

theorem crashN_stop {ps : List Pc} {ks : List Int} (d : Nat → List UInt8) {k : Nat} (h : ks.length ≤ k) : ∀ n, crashN ps ks d (k + n) = crashN ps ks d k
  | 0 => rfl
  | n + 1 => by rw [show k + (n + 1) = k + n + 1 by omega, crashN_skip d (.inr (by omega)), crashN_stop d h n]

theorem keepText_le (c : Int) (s : List UInt8) : (keepText c s).length ≤ s.length := by
  unfold keepText
  split
  · exact Nat.le_refl _
  · split
    · rw [List.length_take]; omega
    · simp

theorem crashN_le {ps : List Pc} {ks : List Int} {d : Nat → List UInt8} {M : Nat} (hp : ∀ p ∈ ps, p.at_ + p.s.length ≤ M) (hd : ∀ f, f < 12 → (d f).length ≤ M) : ∀ (k f : Nat), f < 12 → (crashN ps ks d k f).length ≤ M
  | 0, f, hf => hd f hf
  | k + 1, f, hf => by
    have ih := crashN_le hp hd (ks := ks) k f hf
    by_cases h1 : k < ps.length
    · by_cases h2 : k < ks.length
      · rw [crashN_succ d h1 h2]
        split
        · exact ih
        · by_cases e : f = ps[k].f
          · subst e
            rw [up_same, putL_length]
            have h3 := hp _ (List.getElem_mem h1)
            have h4 := keepText_le ks[k] ps[k].s
            omega
          · rw [up_other _ _ e]; exact ih
      · rw [crashN_skip d (.inr (by omega))]; exact ih
    · rw [crashN_skip d (.inl (by omega))]; exact ih

def DSt.crash (st : DSt) (ks : List Int) : DSt :=
  { dur := crashN st.pend ks st.dur st.pend.length, siz := fun j => if j < 12 then (crashN st.pend ks st.dur st.pend.length j).length else st.siz j, pend := [], down := true, lost := st.lost, armed := 0, keep := [] }

/-- A slice of numbers that is only read. -/
structure IntsAt (w : World) (v : Value) (ks : List Int) (kb : Nat) : Prop where
  form : ∃ a c, v = .slice a ks.length c ∧ ks.length ≤ 9223372036854775807
  cells : ∀ (a : Option Addr) (c : Nat), v = .slice a ks.length c → ∀ (j : Nat) (hj : j < ks.length), ∃ o, a = some ⟨kb, o, none⟩ ∧ w.cell? ⟨kb, o + j, none⟩ = some (.int .i64 ks[j])
  lt : 0 < ks.length → kb < w.heap.size

def CRel (b : Nat) (M : Nat → Prop) (own : Nat → Option Nat) (w : World) (st : DSt) (ks : List Int) (pv kv : Value) (i : Value) (wr : World) : Prop :=
  ∃ (k : Nat) (own' : Nat → Option Nat) (dv : Nat → Value), i = .int .i64 k ∧ k ≤ st.pend.length ∧ DRep wr b own' dv pv kv { st with dur := crashN st.pend ks st.dur k } ∧ (∀ i k, i < 14 → own' i = some k → own i = some k ∨ w.heap.size ≤ k) ∧ Upd M w wr

def CRel2 (b : Nat) (M : Nat → Prop) (own : Nat → Option Nat) (w : World) (st : DSt) (ks : List Int) (pv kv : Value) (i : Value) (wr : World) : Prop :=
  ∃ (k : Nat) (own' : Nat → Option Nat) (dv : Nat → Value), i = .int .i64 k ∧ k ≤ 12 ∧ DRep wr b own' dv pv kv { st with dur := crashN st.pend ks st.dur st.pend.length, siz := fun j => if j < k then (crashN st.pend ks st.dur st.pend.length j).length else st.siz j } ∧ (∀ i k, i < 14 → own' i = some k → own i = some k ∨ w.heap.size ≤ k) ∧ Upd M w wr


theorem foot_up2 {own : Nat → Option Nat} {F : Nat → Nat → Prop} {i : Nat} (h : ∀ i k, i < 14 → own i = some k → F i k) {g : Option Nat} (hg : ∀ k, g = some k → F i k) : ∀ j k, j < 14 → up own i g j = some k → F j k := by
  intro j k hj hk
  by_cases e : j = i
  · rw [e, up_same] at hk; exact e ▸ hg k hk
  · rw [up_other _ _ e] at hk; exact h j k hj hk

def Crashed (b : Nat) (own : Nat → Option Nat) (st : DSt) (ks : List Int) (w : World) (e : Ending) (w' : World) : Prop :=
  e = .returned (.tuple #[]) ∧ (∃ own' dv' pv' kv', DRep w' b own' dv' pv' kv' (st.crash ks) ∧ ∀ i k, i < 14 → own' i = some k → own i = some k ∨ w.heap.size ≤ k) ∧ Upd (fun k => k = b ∨ ∃ f, f < 12 ∧ own f = some k) w w'


theorem siz_up (d : Nat → Nat) (s : Nat → Nat) (k : Nat) : up (fun j => if j < k then d j else s j) k (d k) = fun j => if j < k + 1 then d j else s j := by
  funext j
  unfold up
  dsimp only
  by_cases h : j = k
  · subst h; simp
  · by_cases h2 : j < k
    · rw [if_neg h, if_pos h2, if_pos (by omega)]
    · rw [if_neg h, if_neg h2, if_neg (by omega)]

set_option maxHeartbeats 3200000 in
theorem crash_rep (b : Nat) (own : Nat → Option Nat) (dv : Nat → Value) (pv kv : Value) (st : DSt) (w : World) (hr : DRep w b own dv pv kv st) (hg : DGood st) (keep : Value) (ks : List Int) (kb : Nat) (hks : IntsAt w keep ks kb) (hkb : ∀ f, f < 12 → own f ≠ some kb) (hkb' : kb ≠ b) :
    Calls Try.prog 36 #[dptr b, keep] w (Crashed b own st ks w) := by
  obtain ⟨pa, pc, rfl, hpc1, hpc2⟩ := hr.pend.form
  unfold maxLen at hpc2
  obtain ⟨ka, kc, rfl, hkl0⟩ := hks.form
  have hp1 := hr.cpend
  have h0 : Hid (CRel b (fun k => k = b ∨ ∃ f, f < 12 ∧ own f = some k) own w st ks (.slice pa st.pend.length pc) kv (.int .i64 0) w) := ⟨0, own, dv, rfl, Nat.zero_le _, hr, fun i k hi hk => .inl hk, Upd.refl _ _⟩
  have hks' := Lib.hid hks
  clear hr hks
  go_enter Try.func36, Try.ntmps36
  go_wp2
  go_loopw [13] (fun i wr => CRel b (fun k => k = b ∨ ∃ f, f < 12 ∧ own f = some k) own w st ks (.slice pa st.pend.length pc) kv i wr) (fun i _ => st.pend.length - (intOf i).toNat)
  case atStart => exact h0.out
  case round =>
    clear h0
    obtain ⟨k, own', dv', rfl, hk, hr', ho', hu⟩ := hrel
    have hsz := hu.size
    have hkbM : kb < w.heap.size → wr.heap[kb]? = w.heap[kb]? := fun hl => hu.block kb hl (fun h => h.elim hkb' (fun ⟨f, hf, h⟩ => hkb f hf h))
    by_cases hlt : k < st.pend.length
    · have hpp := hg.pend _ (List.getElem_mem hlt)
      obtain ⟨ab, cap', hv, hgg, _, _⟩ := hr'.pend.pos (by exact Nat.lt_of_le_of_lt (Nat.zero_le _) hlt)
      cases hv
      obtain ⟨h1, h2, h3⟩ := hr'.pend.pcell (k := k) hlt
      obtain ⟨S, hSv, hSl⟩ : ∃ S : ByteArray, strV st.pend[k].s = .string S ∧ S.data.toList = st.pend[k].s := ⟨⟨st.pend[k].s.toArray⟩, rfl, by simp⟩
      rw [hSv] at h3
      clear hSv
      have hu2 := Lib.hid (hu.alloc (.cells #[.int .i64 (st.pend[k].f : Int), .int .i64 (st.pend[k].at_ : Int), .string S] 60))
      have hr2 := Lib.hid (hr'.upd ((Upd.refl (fun _ => False) wr).alloc (.cells #[.int .i64 (st.pend[k].f : Int), .int .i64 (st.pend[k].at_ : Int), .string S] 60)) (fun h => h) (fun _ _ _ _ h => h))
      have hbx := Lib.hid (Blk.newA wr #[.int .i64 (st.pend[k].f : Int), .int .i64 (st.pend[k].at_ : Int), .string S] 60)
      have HG := Lib.hid hpp; clear hpp
      have hdl : S.size = st.pend[k].s.length := by rw [← data_len, hSl]
      have HS := Lib.hid hSl; clear hSl
      have hSp : S.size ≠ 0 := by rw [hdl]; intro h; exact HG.out.2.2.1 (List.eq_nil_of_length_eq_zero h)
      have hSn : ¬ S.data.toList = [] := by rw [HS.out]; exact HG.out.2.2.1
      have HD := Lib.hid hdl; clear hdl
      have HE0 := Lib.hid hSn; clear hSn
      have hne0 := str_some hSp
      clear hSp
      by_cases hkl : k < ks.length
      · obtain ⟨ko, rfl, hkc0⟩ := hks'.out.cells _ _ rfl k hkl
        have hkbl := hks'.out.lt (by omega)
        have hkc : wr.cell? ⟨kb, ko + k, none⟩ = some (.int .i64 ks[k]) := by rw [World.cell?_of_block (w := w) (hkbM hkbl)]; exact hkc0
        have hkbl' : kb < wr.heap.size := by omega
        clear hkc0 hkbM
        by_cases c1 : ks[k] = 1
        · have hc1 : (ks[k] == 1) = true := by simp [c1]
          have HT := Lib.hid (show keepText ks[k] st.pend[k].s = S.data.toList by unfold keepText; rw [if_pos c1, HS.out])
          have HE := HE0
          have HC := Lib.hid c1; clear c1
          go_wp2
          obtain ⟨w2, hw2⟩ : ∃ w2, w2 = wr.alloc (.cells #[.int .i64 (st.pend[k].f : Int), .int .i64 (st.pend[k].at_ : Int), .string S] 60) := ⟨_, rfl⟩
          rw [← hw2] at hr2 hu2 hbx ⊢
          have HO := Lib.hid (fun k' (h : own' st.pend[k].f = some k') => hr'.lt (i := st.pend[k].f) (by have := HG.out.1; omega) h)
          clear hw2 h1 h2 h3 hr' hu hkc
          have b0 : w2.cell? ⟨wr.heap.size, 0, none⟩ = some (.int .i64 (st.pend[k].f : Int)) := hbx.out.cell_of rfl
          have b1 : w2.cell? ⟨wr.heap.size, 1, none⟩ = some (.int .i64 (st.pend[k].at_ : Int)) := hbx.out.cell_of rfl
          have b2 : w2.cell? ⟨wr.heap.size, 2, none⟩ = some (.string S) := hbx.out.cell_of rfl
          have hf := HG.out.1
          have hf1 : (st.pend[k].f : Int) < 12 := by omega
          have hcd := hr2.out.cdur hf
          obtain ⟨vd, hvd⟩ : ∃ vd, vd = dv' st.pend[k].f := ⟨_, rfl⟩
          have hrow := hr2.out.dur st.pend[k].f hf
          dsimp only at hrow
          rw [← hvd] at hrow
          rw [← hvd] at hcd
          obtain ⟨da, dc, rfl, hd1, hd2⟩ := hrow.form
          have HV := Lib.hid hvd; clear hvd
          have HR := Lib.hid hrow; clear hrow
          have hlen := crashN_le (ks := ks) (M := 16777216) (fun p hp => (hg.pend p hp).2.1) hg.dur k _ hf
          refine PLM.wp_region_plm (fun w1 => w1.cell? ⟨wr.heap.size, 0, none⟩ = some (.int .i64 (st.pend[k].f : Int))) [(2, 4), (19, 3)] (by kernel_rfl) (by kernel_rfl) b0 ?_
          repeat (first | (refine PLM.step0 rfl (fun K hK => ?_); go_simp; refine hK _ ?_; clear hK K) | (refine PLM.step1 rfl rfl (fun K hK => ?_); go_simp; refine hK _ ?_; clear hK K))
          (refine PLM.step4 rfl (fun w1 hS => by go_simp) (fun K hK => ?_); go_simp; refine hK _ ?_; clear hK K)
          repeat (first | (refine PLM.step0 rfl (fun K hK => ?_); go_simp; refine hK _ ?_; clear hK K) | (refine PLM.step1 rfl rfl (fun K hK => ?_); go_simp; refine hK _ ?_; clear hK K))
          refine PLM.step2 rfl rfl (fun K hK => ?_)
          go_simp
          refine (put_any _ (own' st.pend[k].f) (crashN st.pend ks st.dur k st.pend[k].f) st.pend[k].at_ S _ HR.out.drew ?p1 ?p2 ?p3).mono ?_
          case p1 => have := HG.out; omega
          case p2 => have e := HD.out; have := HG.out; omega
          case p3 => omega
          rintro e w3 ⟨v3, g3, rfl, hrow3, hg3, hu3⟩
          have hr4 := Lib.hid (hr2.out.drew.setDur hf hu3 (fun _ h => h) hrow3 hg3)
          obtain ⟨a3, c3, rfl, hc31, hc32⟩ := hrow3.form
          have hblk3 := hr2.out.drew.blk.upd hu3 (fun h => hr2.out.notb st.pend[k].f (by omega) h)
          have hcell3 : w3.cell? ⟨b, st.pend[k].f * 2, none⟩ = some (.slice da (crashN st.pend ks st.dur k st.pend[k].f).length dc) := by
            rw [hblk3.cell_of (dcells_get (by omega))]
            have := HV.out
            simp only [dcell, show st.pend[k].f * 2 < 24 by omega, if_true, show st.pend[k].f * 2 % 2 = 0 by omega, show st.pend[k].f * 2 / 2 = st.pend[k].f by omega, ← this]
          have hfz3 : w3.frozen? ⟨b, st.pend[k].f * 2, none⟩ = false := hblk3.frozen (by simp [dcells]; omega)
          have hu4 := Lib.hid (((hu2.out.drew).trans hu3 (fun k' hk' h => .inr ⟨st.pend[k].f, hf, (ho' _ k' (by omega) h).resolve_right (by omega)⟩)).setCell (p := ⟨b, st.pend[k].f * 2, none⟩) (fun _ => .inl rfl) (.slice a3 (putL (crashN st.pend ks st.dur k st.pend[k].f) st.pend[k].at_ (S).data.toList).length c3))
          have ho4 := Lib.hid (foot_up2 (F := fun i k => own i = some k ∨ w.heap.size ≤ k) (i := st.pend[k].f) ho' (g := g3) (fun k' hk' => by
            have h2 := hu2.out.size
            rcases hg3 k' hk' with h | h
            · exact ho' _ k' (by omega) h
            · exact .inr (Nat.le_trans h2 h)))
          clear ho' hblk3
          refine hK _ _ ((hbx.out.drew.upd hu3 (fun h => by have := HO.out _ h; omega)).cell_of rfl) ?_; clear hK K
          repeat (first | (refine PLM.step0 rfl (fun K hK => ?_); go_simp; refine hK _ ?_; clear hK K) | (refine PLM.step1 rfl rfl (fun K hK => ?_); go_simp; refine hK _ ?_; clear hK K))
          (refine PLM.step3 rfl rfl (fun K hK => ?_); go_simp; refine hK _ _ ?_; clear hK K)
          refine PLM.stepNil ?_
          go_wp2
          go_roundw
          case rel =>
            refine ⟨k + 1, up own' st.pend[k].f g3, up dv' st.pend[k].f (.slice a3 (putL (crashN st.pend ks st.dur k st.pend[k].f) st.pend[k].at_ (S).data.toList).length c3), by simp, by omega, ?_, ho4.out, hu4.out⟩
            rw [crashN_succ st.dur hlt hkl, if_neg (by rw [HT.out]; exact HE.out), HT.out]
            exact hr4.out
          case measure => simp [intOf]; omega
        · have hc1 : (ks[k] == 1) = false := beq_eq_false_iff_ne.2 c1
          have C1 := Lib.hid c1; clear c1
          by_cases c2 : ks[k] = 2
          · have hc2 : (ks[k] == 2) = true := by simp [c2]
            have C2 := Lib.hid c2; clear c2
            by_cases hl24 : S.size < 24
            · have hl24' : (S.size : Int) < 24 := by omega
              have HT := Lib.hid (show keepText ks[k] st.pend[k].s = S.data.toList by have := HD.out; unfold keepText; rw [if_neg C1.out, if_pos C2.out, List.take_of_length_le (by omega), HS.out])
              have HE := HE0
              go_wp2
              obtain ⟨w2, hw2⟩ : ∃ w2, w2 = wr.alloc (.cells #[.int .i64 (st.pend[k].f : Int), .int .i64 (st.pend[k].at_ : Int), .string S] 60) := ⟨_, rfl⟩
              rw [← hw2] at hr2 hu2 hbx ⊢
              have HO := Lib.hid (fun k' (h : own' st.pend[k].f = some k') => hr'.lt (i := st.pend[k].f) (by have := HG.out.1; omega) h)
              clear hw2 h1 h2 h3 hr' hu hkc
              have b0 : w2.cell? ⟨wr.heap.size, 0, none⟩ = some (.int .i64 (st.pend[k].f : Int)) := hbx.out.cell_of rfl
              have b1 : w2.cell? ⟨wr.heap.size, 1, none⟩ = some (.int .i64 (st.pend[k].at_ : Int)) := hbx.out.cell_of rfl
              have b2 : w2.cell? ⟨wr.heap.size, 2, none⟩ = some (.string S) := hbx.out.cell_of rfl
              have hf := HG.out.1
              have hf1 : (st.pend[k].f : Int) < 12 := by omega
              have hcd := hr2.out.cdur hf
              obtain ⟨vd, hvd⟩ : ∃ vd, vd = dv' st.pend[k].f := ⟨_, rfl⟩
              have hrow := hr2.out.dur st.pend[k].f hf
              dsimp only at hrow
              rw [← hvd] at hrow
              rw [← hvd] at hcd
              obtain ⟨da, dc, rfl, hd1, hd2⟩ := hrow.form
              have HV := Lib.hid hvd; clear hvd
              have HR := Lib.hid hrow; clear hrow
              have hlen := crashN_le (ks := ks) (M := 16777216) (fun p hp => (hg.pend p hp).2.1) hg.dur k _ hf
              refine PLM.wp_region_plm (fun w1 => w1.cell? ⟨wr.heap.size, 0, none⟩ = some (.int .i64 (st.pend[k].f : Int))) [(2, 4), (19, 3)] (by kernel_rfl) (by kernel_rfl) b0 ?_
              repeat (first | (refine PLM.step0 rfl (fun K hK => ?_); go_simp; refine hK _ ?_; clear hK K) | (refine PLM.step1 rfl rfl (fun K hK => ?_); go_simp; refine hK _ ?_; clear hK K))
              (refine PLM.step4 rfl (fun w1 hS => by go_simp) (fun K hK => ?_); go_simp; refine hK _ ?_; clear hK K)
              repeat (first | (refine PLM.step0 rfl (fun K hK => ?_); go_simp; refine hK _ ?_; clear hK K) | (refine PLM.step1 rfl rfl (fun K hK => ?_); go_simp; refine hK _ ?_; clear hK K))
              refine PLM.step2 rfl rfl (fun K hK => ?_)
              go_simp
              refine (put_any _ (own' st.pend[k].f) (crashN st.pend ks st.dur k st.pend[k].f) st.pend[k].at_ S _ HR.out.drew ?p1 ?p2 ?p3).mono ?_
              case p1 => have := HG.out; omega
              case p2 => have e := HD.out; have := HG.out; omega
              case p3 => omega
              rintro e w3 ⟨v3, g3, rfl, hrow3, hg3, hu3⟩
              have hr4 := Lib.hid (hr2.out.drew.setDur hf hu3 (fun _ h => h) hrow3 hg3)
              obtain ⟨a3, c3, rfl, hc31, hc32⟩ := hrow3.form
              have hblk3 := hr2.out.drew.blk.upd hu3 (fun h => hr2.out.notb st.pend[k].f (by omega) h)
              have hcell3 : w3.cell? ⟨b, st.pend[k].f * 2, none⟩ = some (.slice da (crashN st.pend ks st.dur k st.pend[k].f).length dc) := by
                rw [hblk3.cell_of (dcells_get (by omega))]
                have := HV.out
                simp only [dcell, show st.pend[k].f * 2 < 24 by omega, if_true, show st.pend[k].f * 2 % 2 = 0 by omega, show st.pend[k].f * 2 / 2 = st.pend[k].f by omega, ← this]
              have hfz3 : w3.frozen? ⟨b, st.pend[k].f * 2, none⟩ = false := hblk3.frozen (by simp [dcells]; omega)
              have hu4 := Lib.hid (((hu2.out.drew).trans hu3 (fun k' hk' h => .inr ⟨st.pend[k].f, hf, (ho' _ k' (by omega) h).resolve_right (by omega)⟩)).setCell (p := ⟨b, st.pend[k].f * 2, none⟩) (fun _ => .inl rfl) (.slice a3 (putL (crashN st.pend ks st.dur k st.pend[k].f) st.pend[k].at_ (S).data.toList).length c3))
              have ho4 := Lib.hid (foot_up2 (F := fun i k => own i = some k ∨ w.heap.size ≤ k) (i := st.pend[k].f) ho' (g := g3) (fun k' hk' => by
                have h2 := hu2.out.size
                rcases hg3 k' hk' with h | h
                · exact ho' _ k' (by omega) h
                · exact .inr (Nat.le_trans h2 h)))
              clear ho' hblk3
              refine hK _ _ ((hbx.out.drew.upd hu3 (fun h => by have := HO.out _ h; omega)).cell_of rfl) ?_; clear hK K
              repeat (first | (refine PLM.step0 rfl (fun K hK => ?_); go_simp; refine hK _ ?_; clear hK K) | (refine PLM.step1 rfl rfl (fun K hK => ?_); go_simp; refine hK _ ?_; clear hK K))
              (refine PLM.step3 rfl rfl (fun K hK => ?_); go_simp; refine hK _ _ ?_; clear hK K)
              refine PLM.stepNil ?_
              go_wp2
              go_roundw
              case rel =>
                refine ⟨k + 1, up own' st.pend[k].f g3, up dv' st.pend[k].f (.slice a3 (putL (crashN st.pend ks st.dur k st.pend[k].f) st.pend[k].at_ (S).data.toList).length c3), by simp, by omega, ?_, ho4.out, hu4.out⟩
                rw [crashN_succ st.dur hlt hkl, if_neg (by rw [HT.out]; exact HE.out), HT.out]
                exact hr4.out
              case measure => simp [intOf]; omega
            · have hl24' : 24 ≤ (S.size : Int) := by omega
              have hl24'' : 24 ≤ S.size := by omega
              obtain ⟨T, hTe⟩ : ∃ T, S.extract 0 24 = T := ⟨_, rfl⟩
              have hex : T.data.toList = st.pend[k].s.take 24 := by rw [← hTe, ByteArray.data_extract, Array.toList_extract, List.extract_eq_take_drop, ← HS.out]; simp
              have HT := Lib.hid (show keepText ks[k] st.pend[k].s = T.data.toList by unfold keepText; rw [if_neg C1.out, if_pos C2.out, hex])
              have hsl : T.size = 24 := by rw [← data_len, hex, List.length_take, Nat.min_eq_left (by have := HD.out; omega)]
              have HE := Lib.hid (show ¬ T.data.toList = [] by intro h; have h2 := data_len T; rw [h] at h2; simp at h2; omega)
              have hne : T.toList.isEmpty = false := str_some (by omega)
              have HD2 := Lib.hid hsl; clear hl24 hex hsl
              go_wp2
              clear hTe
              obtain ⟨w2, hw2⟩ : ∃ w2, w2 = wr.alloc (.cells #[.int .i64 (st.pend[k].f : Int), .int .i64 (st.pend[k].at_ : Int), .string S] 60) := ⟨_, rfl⟩
              rw [← hw2] at hr2 hu2 hbx ⊢
              have HO := Lib.hid (fun k' (h : own' st.pend[k].f = some k') => hr'.lt (i := st.pend[k].f) (by have := HG.out.1; omega) h)
              clear hw2 h1 h2 h3 hr' hu hkc
              have b0 : w2.cell? ⟨wr.heap.size, 0, none⟩ = some (.int .i64 (st.pend[k].f : Int)) := hbx.out.cell_of rfl
              have b1 : w2.cell? ⟨wr.heap.size, 1, none⟩ = some (.int .i64 (st.pend[k].at_ : Int)) := hbx.out.cell_of rfl
              have b2 : w2.cell? ⟨wr.heap.size, 2, none⟩ = some (.string S) := hbx.out.cell_of rfl
              have hf := HG.out.1
              have hf1 : (st.pend[k].f : Int) < 12 := by omega
              have hcd := hr2.out.cdur hf
              obtain ⟨vd, hvd⟩ : ∃ vd, vd = dv' st.pend[k].f := ⟨_, rfl⟩
              have hrow := hr2.out.dur st.pend[k].f hf
              dsimp only at hrow
              rw [← hvd] at hrow
              rw [← hvd] at hcd
              obtain ⟨da, dc, rfl, hd1, hd2⟩ := hrow.form
              have HV := Lib.hid hvd; clear hvd
              have HR := Lib.hid hrow; clear hrow
              have hlen := crashN_le (ks := ks) (M := 16777216) (fun p hp => (hg.pend p hp).2.1) hg.dur k _ hf
              refine PLM.wp_region_plm (fun w1 => w1.cell? ⟨wr.heap.size, 0, none⟩ = some (.int .i64 (st.pend[k].f : Int))) [(2, 4), (19, 3)] (by kernel_rfl) (by kernel_rfl) b0 ?_
              repeat (first | (refine PLM.step0 rfl (fun K hK => ?_); go_simp; refine hK _ ?_; clear hK K) | (refine PLM.step1 rfl rfl (fun K hK => ?_); go_simp; refine hK _ ?_; clear hK K))
              (refine PLM.step4 rfl (fun w1 hS => by go_simp) (fun K hK => ?_); go_simp; refine hK _ ?_; clear hK K)
              repeat (first | (refine PLM.step0 rfl (fun K hK => ?_); go_simp; refine hK _ ?_; clear hK K) | (refine PLM.step1 rfl rfl (fun K hK => ?_); go_simp; refine hK _ ?_; clear hK K))
              refine PLM.step2 rfl rfl (fun K hK => ?_)
              go_simp
              refine (put_any _ (own' st.pend[k].f) (crashN st.pend ks st.dur k st.pend[k].f) st.pend[k].at_ T _ HR.out.drew ?p1 ?p2 ?p3).mono ?_
              case p1 => have := HG.out; omega
              case p2 => have e := HD2.out; omega
              case p3 => omega
              rintro e w3 ⟨v3, g3, rfl, hrow3, hg3, hu3⟩
              have hr4 := Lib.hid (hr2.out.drew.setDur hf hu3 (fun _ h => h) hrow3 hg3)
              obtain ⟨a3, c3, rfl, hc31, hc32⟩ := hrow3.form
              have hblk3 := hr2.out.drew.blk.upd hu3 (fun h => hr2.out.notb st.pend[k].f (by omega) h)
              have hcell3 : w3.cell? ⟨b, st.pend[k].f * 2, none⟩ = some (.slice da (crashN st.pend ks st.dur k st.pend[k].f).length dc) := by
                rw [hblk3.cell_of (dcells_get (by omega))]
                have := HV.out
                simp only [dcell, show st.pend[k].f * 2 < 24 by omega, if_true, show st.pend[k].f * 2 % 2 = 0 by omega, show st.pend[k].f * 2 / 2 = st.pend[k].f by omega, ← this]
              have hfz3 : w3.frozen? ⟨b, st.pend[k].f * 2, none⟩ = false := hblk3.frozen (by simp [dcells]; omega)
              have hu4 := Lib.hid (((hu2.out.drew).trans hu3 (fun k' hk' h => .inr ⟨st.pend[k].f, hf, (ho' _ k' (by omega) h).resolve_right (by omega)⟩)).setCell (p := ⟨b, st.pend[k].f * 2, none⟩) (fun _ => .inl rfl) (.slice a3 (putL (crashN st.pend ks st.dur k st.pend[k].f) st.pend[k].at_ (T).data.toList).length c3))
              have ho4 := Lib.hid (foot_up2 (F := fun i k => own i = some k ∨ w.heap.size ≤ k) (i := st.pend[k].f) ho' (g := g3) (fun k' hk' => by
                have h2 := hu2.out.size
                rcases hg3 k' hk' with h | h
                · exact ho' _ k' (by omega) h
                · exact .inr (Nat.le_trans h2 h)))
              clear ho' hblk3
              refine hK _ _ ((hbx.out.drew.upd hu3 (fun h => by have := HO.out _ h; omega)).cell_of rfl) ?_; clear hK K
              repeat (first | (refine PLM.step0 rfl (fun K hK => ?_); go_simp; refine hK _ ?_; clear hK K) | (refine PLM.step1 rfl rfl (fun K hK => ?_); go_simp; refine hK _ ?_; clear hK K))
              (refine PLM.step3 rfl rfl (fun K hK => ?_); go_simp; refine hK _ _ ?_; clear hK K)
              refine PLM.stepNil ?_
              go_wp2
              go_roundw
              case rel =>
                refine ⟨k + 1, up own' st.pend[k].f g3, up dv' st.pend[k].f (.slice a3 (putL (crashN st.pend ks st.dur k st.pend[k].f) st.pend[k].at_ (T).data.toList).length c3), by simp, by omega, ?_, ho4.out, hu4.out⟩
                rw [crashN_succ st.dur hlt hkl, if_neg (by rw [HT.out]; exact HE.out), HT.out]
                exact hr4.out
              case measure => simp [intOf]; omega
          · have hc2 : (ks[k] == 2) = false := beq_eq_false_iff_ne.2 c2
            have C2 := Lib.hid c2; clear c2
            clear hr' hu
            go_wp2
            go_roundw
            case rel =>
              refine ⟨k + 1, own', dv', by simp, by omega, ?_, ho', hu2.out⟩
              rw [crashN_succ st.dur hlt hkl, if_pos (by unfold keepText; rw [if_neg C1.out, if_neg C2.out])]
              exact hr2.out
            case measure => simp [intOf]; omega
      · have hS : Hid (CRel2 b (fun k => k = b ∨ ∃ f, f < 12 ∧ own f = some k) own w st ks (.slice (some ⟨ab, 0, none⟩) st.pend.length pc) kv (.int .i64 0) (wr.alloc (.cells #[.int .i64 (st.pend[k].f : Int), .int .i64 (st.pend[k].at_ : Int), .string S] 60))) :=
          ⟨0, own', dv', rfl, by omega, by
            have e : crashN st.pend ks st.dur st.pend.length = crashN st.pend ks st.dur k := by
              have := crashN_stop (ps := st.pend) (ks := ks) st.dur (k := k) (by omega) (st.pend.length - k)
              rwa [show k + (st.pend.length - k) = st.pend.length by omega] at this
            rw [e]
            simpa using hr2.out, ho', hu2.out⟩
        obtain ⟨pvv, hpvv⟩ : ∃ pvv : Value, pvv = .slice (some ⟨ab, 0, none⟩) st.pend.length pc := ⟨_, rfl⟩
        rw [← hpvv] at hS
        clear hpvv hr' hu hbx hr2 hu2 ho'
        go_wp2
        go_loopw [61] (fun i wr => CRel2 b (fun k => k = b ∨ ∃ f, f < 12 ∧ own f = some k) own w st ks pvv kv i wr) (fun i _ => 12 - (intOf i).toNat)
        case atStart => exact hS.out
        case round =>
          clear hS
          obtain ⟨k2, own2, dv2, rfl, hk2, hr2, ho2, hu2⟩ := hrel
          have hsz2 := hu2.size
          by_cases hlt2 : k2 < 12
          · have hi2 : (k2 : Int) < 12 := by omega
            obtain ⟨da, dc, hdv, hd1, hd2⟩ := (hr2.dur k2 hlt2).form
            have hcd := hr2.cdur hlt2
            rw [hdv] at hcd
            clear hdv
            have hcs := hr2.csiz hlt2
            have hfs := hr2.froz (o := k2 * 2 + 1) (by omega)
            have HR2 := Lib.hid hr2; clear hr2
            go_wp2
            refine PLM.wp_region_plm (fun _ => True) [] (by kernel_rfl) (by kernel_rfl) trivial ?_
            repeat (first | (refine PLM.step0 rfl (fun K hK => ?_); go_simp; refine hK _ ?_; clear hK K) | (refine PLM.step1 rfl rfl (fun K hK => ?_); go_simp; refine hK _ ?_; clear hK K))
            (refine PLM.step2 rfl rfl (fun K hK => ?_); go_simp; refine hK _ _ trivial ?_; clear hK K)
            refine PLM.stepNil ?_
            go_wp2
            go_roundw
            case rel =>
              refine ⟨k2 + 1, own2, dv2, by simp, by omega, ?_, ho2, hu2.drew.setCell (fun _ => .inl rfl) _⟩
              have := HR2.out.drew.setSiz hlt2 (crashN st.pend ks st.dur st.pend.length k2).length
              rw [show up (fun j => if j < k2 then (crashN st.pend ks st.dur st.pend.length j).length else st.siz j) k2 (crashN st.pend ks st.dur st.pend.length k2).length = (fun j => if j < k2 + 1 then (crashN st.pend ks st.dur st.pend.length j).length else st.siz j) from siz_up _ _ _] at this
              exact this
            case measure => simp [intOf]; omega
          · have hke : k2 = 12 := by omega
            subst hke
            have c24 := hr2.cpend
            have f24 := hr2.froz (o := 24) (by omega)
            have c25 := hr2.cdown
            have f25 := hr2.froz (o := 25) (by omega)
            have c27 := hr2.carmed
            have f27 := hr2.froz (o := 27) (by omega)
            have c28 := hr2.ckeep
            have f28 := hr2.froz (o := 28) (by omega)
            have HR2 := Lib.hid hr2; clear hr2
            go_wp2
            go_end0
            have q1 := HR2.out.setPend (S := fun _ => False) (Upd.refl _ _) (fun _ h => h.elim) (Row.empty _ _ _) (g := none) (l := []) (fun _ h => by cases h)
            have q2 := (q1.setDown true).setArmed 0
            have q3 := q2.setKeep (S := fun _ => False) (Upd.refl _ _) (fun _ h => h.elim) (Row.empty _ _ _) (g := none) (l := []) (fun _ h => by cases h)
            refine ⟨rfl, ⟨_, _, _, _, q3, ?_⟩, (((hu2.setCell (fun _ => .inl rfl) _).setCell (fun _ => .inl rfl) _).setCell (fun _ => .inl rfl) _).setCell (fun _ => .inl rfl) _⟩
            exact foot_up2 (F := fun i k => own i = some k ∨ w.heap.size ≤ k) (i := 13) (foot_up2 (F := fun i k => own i = some k ∨ w.heap.size ≤ k) (i := 12) ho2 (fun _ h => by cases h)) (fun _ h => by cases h)
    · have hke : k = st.pend.length := by omega
      subst hke
      have hS : Hid (CRel2 b (fun k => k = b ∨ ∃ f, f < 12 ∧ own f = some k) own w st ks (.slice pa st.pend.length pc) kv (.int .i64 0) wr) :=
        ⟨0, own', dv', rfl, by omega, by simpa using hr', ho', hu⟩
      obtain ⟨pvv, hpvv⟩ : ∃ pvv : Value, pvv = .slice pa st.pend.length pc := ⟨_, rfl⟩
      rw [← hpvv] at hS
      clear hpvv hr' hu ho'
      go_wp2
      go_loopw [61] (fun i wr => CRel2 b (fun k => k = b ∨ ∃ f, f < 12 ∧ own f = some k) own w st ks pvv kv i wr) (fun i _ => 12 - (intOf i).toNat)
      case atStart => exact hS.out
      case round =>
        clear hS
        obtain ⟨k2, own2, dv2, rfl, hk2, hr2, ho2, hu2⟩ := hrel
        have hsz2 := hu2.size
        by_cases hlt2 : k2 < 12
        · have hi2 : (k2 : Int) < 12 := by omega
          obtain ⟨da, dc, hdv, hd1, hd2⟩ := (hr2.dur k2 hlt2).form
          have hcd := hr2.cdur hlt2
          rw [hdv] at hcd
          clear hdv
          have hcs := hr2.csiz hlt2
          have hfs := hr2.froz (o := k2 * 2 + 1) (by omega)
          have HR2 := Lib.hid hr2; clear hr2
          go_wp2
          refine PLM.wp_region_plm (fun _ => True) [] (by kernel_rfl) (by kernel_rfl) trivial ?_
          repeat (first | (refine PLM.step0 rfl (fun K hK => ?_); go_simp; refine hK _ ?_; clear hK K) | (refine PLM.step1 rfl rfl (fun K hK => ?_); go_simp; refine hK _ ?_; clear hK K))
          (refine PLM.step2 rfl rfl (fun K hK => ?_); go_simp; refine hK _ _ trivial ?_; clear hK K)
          refine PLM.stepNil ?_
          go_wp2
          go_roundw
          case rel =>
            refine ⟨k2 + 1, own2, dv2, by simp, by omega, ?_, ho2, hu2.drew.setCell (fun _ => .inl rfl) _⟩
            have := HR2.out.drew.setSiz hlt2 (crashN st.pend ks st.dur st.pend.length k2).length
            rw [show up (fun j => if j < k2 then (crashN st.pend ks st.dur st.pend.length j).length else st.siz j) k2 (crashN st.pend ks st.dur st.pend.length k2).length = (fun j => if j < k2 + 1 then (crashN st.pend ks st.dur st.pend.length j).length else st.siz j) from siz_up _ _ _] at this
            exact this
          case measure => simp [intOf]; omega
        · have hke : k2 = 12 := by omega
          subst hke
          have c24 := hr2.cpend
          have f24 := hr2.froz (o := 24) (by omega)
          have c25 := hr2.cdown
          have f25 := hr2.froz (o := 25) (by omega)
          have c27 := hr2.carmed
          have f27 := hr2.froz (o := 27) (by omega)
          have c28 := hr2.ckeep
          have f28 := hr2.froz (o := 28) (by omega)
          have HR2 := Lib.hid hr2; clear hr2
          go_wp2
          go_end0
          have q1 := HR2.out.setPend (S := fun _ => False) (Upd.refl _ _) (fun _ h => h.elim) (Row.empty _ _ _) (g := none) (l := []) (fun _ h => by cases h)
          have q2 := (q1.setDown true).setArmed 0
          have q3 := q2.setKeep (S := fun _ => False) (Upd.refl _ _) (fun _ h => h.elim) (Row.empty _ _ _) (g := none) (l := []) (fun _ h => by cases h)
          refine ⟨rfl, ⟨_, _, _, _, q3, ?_⟩, (((hu2.setCell (fun _ => .inl rfl) _).setCell (fun _ => .inl rfl) _).setCell (fun _ => .inl rfl) _).setCell (fun _ => .inl rfl) _⟩
          exact foot_up2 (F := fun i k => own i = some k ∨ w.heap.size ≤ k) (i := 13) (foot_up2 (F := fun i k => own i = some k ∨ w.heap.size ≤ k) (i := 12) ho2 (fun _ h => by cases h)) (fun _ h => by cases h)
end Go.Proofs.Ythfnnkfdpnkodaa
