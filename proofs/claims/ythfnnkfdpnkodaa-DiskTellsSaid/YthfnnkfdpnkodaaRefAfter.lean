/- The reference's after, walked. -/
import Derived.Test.YthfnnkfdpnkodaaRefRead
namespace Go.Proofs.Ythfnnkfdpnkodaa
open Go.RowKit

/-- File f behind k pending writes in a crash, as the reference reckons it. -/
def afterN (ps : List Pc) (ks : List Int) (f : Nat) (l : List UInt8) : Nat → List UInt8
  | 0 => l
  | k + 1 => match ps[k]?, ks[k]? with
    | some p, some c => if p.f ≠ f then afterN ps ks f l k else if c = 1 then putL (afterN ps ks f l k) p.at_ p.s else if c = 2 then putL (afterN ps ks f l k) p.at_ (p.s.take 24) else afterN ps ks f l k
    | _, _ => afterN ps ks f l k

theorem afterN_skip {ps : List Pc} {ks : List Int} (f : Nat) (l : List UInt8) {k : Nat} (h : ps.length ≤ k ∨ ks.length ≤ k) : afterN ps ks f l (k + 1) = afterN ps ks f l k := by
  conv => lhs; unfold afterN
  rcases h with h | h
  · rw [List.getElem?_eq_none (l := ps) (by omega)]
  · rw [List.getElem?_eq_none (l := ks) (by omega)]
    cases ps[k]? <;> rfl

theorem afterN_succ {ps : List Pc} {ks : List Int} (f : Nat) (l : List UInt8) {k : Nat} (h1 : k < ps.length) (h2 : k < ks.length) :
    afterN ps ks f l (k + 1) = if ps[k].f ≠ f then afterN ps ks f l k else if ks[k] = 1 then putL (afterN ps ks f l k) ps[k].at_ ps[k].s else if ks[k] = 2 then putL (afterN ps ks f l k) ps[k].at_ (ps[k].s.take 24) else afterN ps ks f l k := by
  conv => lhs; unfold afterN
  rw [List.getElem?_eq_getElem h1, List.getElem?_eq_getElem h2]

theorem afterN_crash {ps : List Pc} {ks : List Int} {d : Nat → List UInt8} (hp : ∀ p ∈ ps, p.s ≠ []) (f : Nat) : ∀ k, afterN ps ks f (d f) k = crashN ps ks d k f
  | 0 => rfl
  | k + 1 => by
    have ih := afterN_crash (ks := ks) (d := d) hp f k
    by_cases h1 : k < ps.length
    · by_cases h2 : k < ks.length
      · have hne := hp _ (List.getElem_mem h1)
        rw [crashN_succ d h1 h2, afterN_succ f (d f) h1 h2]
        by_cases hf : ps[k].f = f
        · subst hf
          rw [if_neg (by simp)]
          unfold keepText
          by_cases c1 : ks[k] = 1
          · rw [if_pos c1, if_pos c1, if_neg hne, up_same, ih]
          · rw [if_neg c1, if_neg c1]
            by_cases c2 : ks[k] = 2
            · have h24 : ¬ (ps[k].s.take 24 = []) := fun e => hne (by
                cases hs : ps[k].s with
                | nil => rfl
                | cons x y => rw [hs] at e; simp at e)
              rw [if_pos c2, if_pos c2, if_neg h24, up_same, ih]
            · rw [if_neg c2, if_neg c2, if_pos rfl, ih]
        · rw [if_pos hf]
          by_cases hk : keepText ks[k] ps[k].s = []
          · rw [if_pos hk]; exact ih
          · rw [if_neg hk, up_other _ _ (fun e => hf e.symm)]; exact ih
      · rw [crashN_skip d (.inr (by omega)), afterN_skip f _ (.inr (by omega))]; exact ih
    · rw [crashN_skip d (.inl (by omega)), afterN_skip f _ (.inl (by omega))]; exact ih

theorem afterN_stop {ps : List Pc} {ks : List Int} (f : Nat) (l : List UInt8) {k : Nat} (h : ps.length ≤ k ∨ ks.length ≤ k) : ∀ n, afterN ps ks f l (k + n) = afterN ps ks f l k
  | 0 => rfl
  | n + 1 => (afterN_skip f l (k := k + n) (h.imp (fun h => by omega) (fun h => by omega))).trans (afterN_stop f l h n)

theorem afterN_len {ps : List Pc} {ks : List Int} {f : Nat} {l : List UInt8} {M : Nat} (hp : ∀ p ∈ ps, p.at_ + p.s.length ≤ M) (hl : l.length ≤ M) : ∀ k, (afterN ps ks f l k).length ≤ M
  | 0 => hl
  | k + 1 => by
    have ih := afterN_len (ks := ks) (f := f) hp hl k
    unfold afterN
    split
    · rename_i p c hps hks
      have hpp := hp p (List.mem_of_getElem? hps)
      split
      · exact ih
      · split
        · rw [putL_length]; omega
        · split
          · rw [putL_length, List.length_take]; omega
          · exact ih
    · exact ih

def RaRel (f : Nat) (w : World) (st : DSt) (ks : List Int) (gk : Nat) (s i : Value) (wr : World) : Prop :=
  ∃ k : Nat, i = .int .i64 k ∧ k ≤ st.pend.length ∧ k ≤ ks.length ∧ gk = st.pend.length - k ∧ s = strV (afterN st.pend ks f (st.dur f) k) ∧ Upd (fun _ => False) w wr


set_option maxHeartbeats 3200000 in
theorem rafter_any (b f : Nat) (hf : f < 12) (st : DSt) (hg : DGood st) (w : World) (lb lc : Nat) (qa : Option Addr) (qc : Nat) (h : RSeen b st w lb lc qa qc) (hp : st.pend.length ≤ 1099511627776) (keep : Value) (ks : List Int) (kb : Nat) (hks : IntsAt w keep ks kb) :
    Calls Try.prog 59 #[dptr b, .int .i64 (f : Int), keep] w (fun e w' => e = .returned (strV (crashN st.pend ks st.dur st.pend.length f)) ∧ Upd (fun _ => False) w w') := by
  obtain ⟨kq, kc, rfl, hkl⟩ := hks.form
  have H := Lib.hid h
  have HG := Lib.hid hg
  have HKS := Lib.hid hks.cells
  have c0 := h.c0
  obtain ⟨S0, hS0, hS0l, _⟩ := exStr (st.dur f)
  have cl := h.last f hf
  rw [hS0] at cl
  have h0 : Hid (RaRel f w st ks st.pend.length (.string S0) (.int .i64 0) w) := Lib.hid ⟨0, rfl, Nat.zero_le _, Nat.zero_le _, rfl, hS0.symm, Upd.refl _ _⟩
  have hfi : (f : Int) < 12 := by omega
  clear h hg hS0 hS0l hks
  go_enter Try.func59, Try.ntmps59
  go_wp2_with fail
  go_loopg [7, 8] st.pend.length (fun gk s i wr => RaRel f w st ks gk s i wr)
  case atStart => exact h0.out
  case round =>
    clear h0 c0 cl
    obtain ⟨k, rfl, hk, hkk, rfl, rfl, hu⟩ := hrel
    have h' := H.out.upd hu
    have c1 := h'.c1
    obtain ⟨S, hS, hSl, hSz⟩ := exStr (afterN st.pend ks f (st.dur f) k)
    rw [hS]
    have hlen : (afterN st.pend ks f (st.dur f) k).length ≤ 16777216 := afterN_len (fun p hp => (HG.out.pend p hp).2.1) (HG.out.dur f hf) k
    by_cases hlt : k < st.pend.length
    · by_cases hltk : k < ks.length
      · obtain ⟨g, hrow⟩ := h'.row
        obtain ⟨kb2, rfl, p0, p1, p2⟩ := hrow.pc rfl hlt
        obtain ⟨T, hT, hTl, hTz⟩ := exStr st.pend[k].s
        rw [hT] at p2
        obtain ⟨o, rfl, hkc⟩ := HKS.out kq kc rfl k hltk
        have hkc' := hu.cell hkc
        have HKC := Lib.hid hkc
        have hkc2 := (hu.alloc (.cells #[.int .i64 (st.pend[k].f : Int), .int .i64 (st.pend[k].at_ : Int), .string T] 76)).cell hkc
        have hpp := HG.out.pend _ (List.getElem_mem hlt)
        have hnext : Hid (afterN st.pend ks f (st.dur f) (k + 1) = if st.pend[k].f ≠ f then S.data.toList else if ks[k] = 1 then putL S.data.toList st.pend[k].at_ T.data.toList else if ks[k] = 2 then putL S.data.toList st.pend[k].at_ (T.data.toList.take 24) else S.data.toList) := by
          rw [afterN_succ f _ hlt hltk, hSl, hTl]
          exact Lib.hid rfl
        have hT16 : st.pend[k].at_ + T.size ≤ 16777216 := by omega
        have hT64 : T.size ≤ 64 := by omega
        have hS16 : S.size ≤ 16777216 := by omega
        have hua := Lib.hid (hu.alloc (.cells #[.int .i64 (st.pend[k].f : Int), .int .i64 (st.pend[k].at_ : Int), .string T] 76))
        have HSl := Lib.hid hSl
        have hkl1 : (k : Int) < ks.length := by omega
        clear hS hT hSl hTl hrow h' hpp hlen hSz hTz hkc
        by_cases hpf : st.pend[k].f = f
        · have hp1 : ((st.pend[k].f : Int) == (f : Int)) = true := by simp [hpf]
          have HP := Lib.hid hpf
          clear hpf
          by_cases q1 : ks[k] = 1
          · have q1' : (ks[k] == 1) = true := by simp [q1]
            have q2' : (ks[k] == 2) = false := by rw [q1]; rfl
            have HQ := Lib.hid q1
            clear q1
            have hcall := Lib.hid (fun (w1 : World) => rput_any S st.pend[k].at_ T w1 hS16 hT16)
            go_wp2_with fail
            refine (hcall.out _).mono ?_
            rintro e w5 ⟨rfl, hu5⟩
            have hu6 := hua.out.trans hu5 fun _ _ h => h
            have hkc5 := hu6.cell HKC.out
            have HU6 := Lib.hid hu6
            clear hu5 hu6 hkc2 hkc' hcall
            go_wp2_with fail
            go_roundg (st.pend.length - (k + 1))
            case rel => exact ⟨k + 1, by simp, by omega, by omega, rfl, by rw [hnext.out, if_neg (by simpa using HP.out), if_pos HQ.out], HU6.out⟩
            case measure => omega
          · have q1' : (ks[k] == 1) = false := beq_eq_false_iff_ne.2 q1
            have HQ := Lib.hid q1
            clear q1
            by_cases q2 : ks[k] = 2
            · have q2' : (ks[k] == 2) = true := by simp [q2]
              have HQ2 := Lib.hid q2
              clear q2
              have hfinal : Hid (∀ x : List UInt8, x = S.data.toList → afterN st.pend ks f (st.dur f) (k + 1) = putL x st.pend[k].at_ (T.data.toList.take 24)) := Lib.hid (fun x hx => by rw [hnext.out, if_neg (by simpa using HP.out), if_neg HQ.out, if_pos HQ2.out, hx])
              go_wp2_with fail
              by_cases h24 : 24 ≤ T.size
              · have h24' : (24 : Int) ≤ (T.size : Int) := by omega
                have hTz2 : (T.extract 0 24).size = 24 := by rw [ByteArray.size_extract]; omega
                have hT2l : Hid ((T.extract 0 24).data.toList = T.data.toList.take 24) := Lib.hid (by rw [ByteArray.data_extract, Array.toList_extract, List.extract_eq_take_drop]; simp)
                have hcall := Lib.hid (fun (w1 : World) => rput_any S st.pend[k].at_ (T.extract 0 24) w1 hS16 (by omega))
                clear hTz2
                have h24n : ¬ (T.size : Int) < 24 := by omega
                refine PLM.wp_region_plm (fun _ => True) [] (by kernel_rfl) (by kernel_rfl) trivial ?_
                repeat (first | (refine PLM.step0 rfl (fun K hK => ?_); go_simp; refine hK _ ?_; clear hK K) | (refine PLM.step1 rfl rfl (fun K hK => ?_); go_simp; refine hK _ ?_; clear hK K))
                refine PLM.step2 rfl rfl (fun K hK => ?_)
                go_simp
                refine (hcall.out _).mono ?_
                rintro e w5 ⟨rfl, hu5⟩
                have hu6 := hua.out.drew.trans hu5 fun _ _ h => h
                have HU6 := Lib.hid hu6
                have hres := Lib.hid (hfinal.out _ rfl)
                rw [← hT2l.out] at hres
                rw [← hres.out]
                clear hu5 hu6 hkc2 hkc' hcall
                unfold strV
                go_simp
                refine hK _ _ trivial ?_; clear hK K
                repeat (first | (refine PLM.step0 rfl (fun K hK => ?_); go_simp; refine hK _ ?_; clear hK K) | (refine PLM.step1 rfl rfl (fun K hK => ?_); go_simp; refine hK _ ?_; clear hK K))
                refine PLM.stepNil ?_
                go_wp2_with fail
                go_roundg (st.pend.length - (k + 1))
                case rel => exact ⟨k + 1, by simp, by omega, by omega, rfl, rfl, HU6.out⟩
                case measure => omega
              · have h24' : (T.size : Int) < 24 := by omega
                have h24'' : T.size < 24 := by omega
                clear h24
                have hT2l : Hid (T.data.toList = T.data.toList.take 24) := Lib.hid (by rw [List.take_of_length_le (by rw [data_len]; omega)])
                have hcall := Lib.hid (fun (w1 : World) => rput_any S st.pend[k].at_ T w1 hS16 hT16)
                refine PLM.wp_region_plm (fun _ => True) [] (by kernel_rfl) (by kernel_rfl) trivial ?_
                repeat (first | (refine PLM.step0 rfl (fun K hK => ?_); go_simp; refine hK _ ?_; clear hK K) | (refine PLM.step1 rfl rfl (fun K hK => ?_); go_simp; refine hK _ ?_; clear hK K))
                refine PLM.step2 rfl rfl (fun K hK => ?_)
                go_simp
                refine (hcall.out _).mono ?_
                rintro e w5 ⟨rfl, hu5⟩
                have hu6 := hua.out.drew.trans hu5 fun _ _ h => h
                have HU6 := Lib.hid hu6
                have hres := Lib.hid (hfinal.out _ rfl)
                rw [← hT2l.out] at hres
                rw [← hres.out]
                clear hu5 hu6 hkc2 hkc' hcall
                unfold strV
                go_simp
                refine hK _ _ trivial ?_; clear hK K
                repeat (first | (refine PLM.step0 rfl (fun K hK => ?_); go_simp; refine hK _ ?_; clear hK K) | (refine PLM.step1 rfl rfl (fun K hK => ?_); go_simp; refine hK _ ?_; clear hK K))
                refine PLM.stepNil ?_
                go_wp2_with fail
                go_roundg (st.pend.length - (k + 1))
                case rel => exact ⟨k + 1, by simp, by omega, by omega, rfl, rfl, HU6.out⟩
                case measure => omega
            · have q2' : (ks[k] == 2) = false := beq_eq_false_iff_ne.2 q2
              have HQ2 := Lib.hid q2
              clear q2
              go_wp2_with fail
              go_roundg (st.pend.length - (k + 1))
              case rel => exact ⟨k + 1, by simp, by omega, by omega, rfl, by rw [hnext.out, if_neg (by simpa using HP.out), if_neg HQ.out, if_neg HQ2.out, strV_data], hua.out⟩
              case measure => omega
        · have hp1 : ((st.pend[k].f : Int) == (f : Int)) = false := beq_eq_false_iff_ne.2 (by omega)
          have HP := Lib.hid hpf; clear hpf
          go_wp2_with fail
          go_roundg (st.pend.length - (k + 1))
          case rel => exact ⟨k + 1, by simp, by omega, by omega, rfl, by rw [hnext.out, if_pos HP.out, strV_data], hua.out⟩
          case measure => omega
      · have hke : k = ks.length := by omega
        have hfin : Hid (afterN st.pend ks f (st.dur f) st.pend.length = S.data.toList) := by
          have := afterN_stop (ps := st.pend) (ks := ks) f (st.dur f) (k := k) (.inr (by omega)) (st.pend.length - k)
          rw [show k + (st.pend.length - k) = st.pend.length by omega] at this
          rw [this, hSl]
          exact Lib.hid rfl
        have hcr := Lib.hid (afterN_crash (ps := st.pend) (ks := ks) (d := st.dur) (fun p hp => (HG.out.pend p hp).2.2.1) f st.pend.length)
        have hkn : ¬ (k : Int) < ks.length := by omega
        clear hS hSl hSz hlen h'
        go_wp2
        go_ret
        exact ⟨by rw [← hcr.out, hfin.out, strV_data]; rfl, hu⟩
    · have hke : k = st.pend.length := by omega
      subst hke
      have HS := Lib.hid hS
      have hcr := Lib.hid (afterN_crash (ps := st.pend) (ks := ks) (d := st.dur) (fun p hp => (HG.out.pend p hp).2.2.1) f st.pend.length)
      clear hS hSl hSz hlen h'
      go_wp2
      go_ret
      exact ⟨by rw [← hcr.out, HS.out]; rfl, hu⟩
end Go.Proofs.Ythfnnkfdpnkodaa
