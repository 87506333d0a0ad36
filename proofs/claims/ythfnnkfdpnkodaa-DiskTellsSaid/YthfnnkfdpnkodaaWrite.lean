/- disk.write: the pending writes of a write. -/
import Derived.Test.YthfnnkfdpnkodaaSimple
namespace Go.Proofs.Ythfnnkfdpnkodaa
open Go.RowKit


def piecesF (f : Nat) : Nat → Nat → List UInt8 → List Pc
  | 0, _, _ => []
  | fuel + 1, at_, s => if s = [] then [] else ⟨f, at_, s.take (min s.length (64 - at_ % 64))⟩ :: piecesF f fuel (at_ + min s.length (64 - at_ % 64)) (s.drop (min s.length (64 - at_ % 64)))

/-- The pending writes of a write. -/
def pieces (f at_ : Nat) (s : List UInt8) : List Pc := piecesF f s.length at_ s

theorem piecesF_fuel (f : Nat) : ∀ (n m at_ : Nat) (s : List UInt8), s.length ≤ n → s.length ≤ m → piecesF f n at_ s = piecesF f m at_ s
  | 0, m, at_, s, h, _ => by
    have : s = [] := List.eq_nil_of_length_eq_zero (by omega)
    subst this
    cases m <;> simp [piecesF]
  | n + 1, 0, at_, s, _, h => by
    have : s = [] := List.eq_nil_of_length_eq_zero (by omega)
    subst this
    simp [piecesF]
  | n + 1, m + 1, at_, s, h, h' => by
    unfold piecesF
    split
    · rfl
    · rename_i hs
      have hl : 0 < s.length := List.length_pos_iff.2 hs
      have h64 : 0 < 64 - at_ % 64 := by omega
      congr 1
      exact piecesF_fuel f n m _ _ (by rw [List.length_drop]; omega) (by rw [List.length_drop]; omega)

theorem piecesF_succ (f k at_ : Nat) (s : List UInt8) : piecesF f (k + 1) at_ s = if s = [] then [] else ⟨f, at_, s.take (min s.length (64 - at_ % 64))⟩ :: piecesF f k (at_ + min s.length (64 - at_ % 64)) (s.drop (min s.length (64 - at_ % 64))) := rfl
theorem pieces_nil (f at_ : Nat) : pieces f at_ [] = [] := rfl
theorem pieces_cons (f at_ : Nat) (s : List UInt8) (hs : s ≠ []) (n : Nat) (hn : min s.length (64 - at_ % 64) = n) : pieces f at_ s = ⟨f, at_, s.take n⟩ :: pieces f (at_ + n) (s.drop n) := by
  have hl : 0 < s.length := List.length_pos_iff.2 hs
  have h64 : 0 < 64 - at_ % 64 := by omega
  obtain ⟨k, hk⟩ : ∃ k, s.length = k + 1 := ⟨s.length - 1, by omega⟩
  have h1 : pieces f at_ s = piecesF f (k + 1) at_ s := by unfold pieces; rw [hk]
  rw [h1, piecesF_succ, if_neg hs, hn]
  congr 1
  exact piecesF_fuel f k _ _ _ (by rw [List.length_drop]; omega) (Nat.le_refl _)

theorem foot_up {own : Nat → Option Nat} {F : Nat → Prop} {i : Nat} (h : ∀ i k, i < 14 → own i = some k → F k) (_hi : i < 14) {g : Option Nat} (hg : ∀ k, g = some k → F k) : ∀ j k, j < 14 → up own i g j = some k → F k := by
  intro j k hj hk
  by_cases e : j = i
  · rw [e, up_same] at hk; exact hg k hk
  · rw [up_other _ _ e] at hk; exact h j k hj hk

theorem E55 : Elem Try.prog 55 60 3 32 := .of (z := .agg #[.int .i64 0, .int .i64 0, .string ByteArray.empty]) (by kernel_rfl) (by kernel_rfl) (by kernel_rfl)

/-- What a disk is behind 'write'. -/
def DSt.wrote (st : DSt) (f at_ : Nat) (s : List UInt8) : DSt :=
  { st with pend := st.pend ++ pieces f at_ s, siz := up st.siz f (if s = [] then st.siz f else max (st.siz f) (at_ + s.length)) }


def strLen : Value → Nat
  | .string s => s.size
  | _ => 0

def WInv (b : Nat) (D : Nat → Prop) (f : Nat) (w : World) (st : DSt) (fin : Nat) (pall : List Pc) (szl : Nat) (a s : Value) (wr : World) : Prop :=
  ∃ (at_ : Nat) (s' : ByteArray) (own : Nat → Option Nat) (dv : Nat → Value) (pv kv : Value) (pd : List Pc) (sz : Nat),
    a = .int .i64 (at_ : Nat) ∧ s = .string s' ∧ DRep wr b own dv pv kv { st with pend := pd, siz := up st.siz f sz } ∧ pd ++ pieces f at_ s'.data.toList = pall ∧ at_ + s'.size = fin ∧
    (s'.size = 0 → sz = szl) ∧ (0 < s'.size → max sz fin = szl) ∧ sz ≤ 16777216 ∧ Upd D w wr ∧ D b ∧ (∀ i k, i < 14 → own i = some k → D k ∨ w.heap.size ≤ k) ∧ pd.length + s'.size ≤ 1099528404992

theorem winv_next {b : Nat} {D : Nat → Prop} {f : Nat} {w w4 : World} {st : DSt} {fin : Nat} {pall : List Pc} {szl at' : Nat} {s' t rest : ByteArray} {own : Nat → Option Nat} {dv : Nat → Value} {pv kv : Value} {pd : List Pc} {sz n : Nat}
    (hf : f < 12) (ht : t.data.toList = s'.data.toList.take n) (hrest : rest.data.toList = s'.data.toList.drop n) (hn : min s'.size (64 - at' % 64) = n) (hs : s'.size ≠ 0)
    (hr : DRep w4 b own dv pv kv { st with pend := pd ++ [⟨f, at', t.data.toList⟩], siz := up st.siz f sz }) (hpd : pd ++ pieces f at' s'.data.toList = pall) (hend : at' + s'.size = fin)
    (hz1 : 0 < s'.size → max sz fin = szl) (hz2 : sz ≤ 16777216) (hfin : fin ≤ 16777216) (hu : Upd D w w4) (hb : D b) (ho : ∀ i k, i < 14 → own i = some k → D k ∨ w.heap.size ≤ k) (hlen : pd.length + s'.size ≤ 1099528404992)
    {x y : Value} {wz : World} (hx : x = .int .i64 ((at' : Int) + (n : Nat))) (hy : y = .string rest) (hw : wz.heap = (w4.setCell ⟨b, f * 2 + 1, none⟩ (.int .i64 (if (sz : Int) < (at' : Int) + (n : Nat) then (at' : Int) + (n : Nat) else (sz : Int)))).heap) (hwo : wz.os = w4.os) (hwt : wz.tape = w4.tape) (hwp : wz.output = w4.output) :
    WInv b D f w st fin pall szl x y wz := by
  have h64 : 0 < 64 - at' % 64 := by omega
  have hl := data_len s'
  have hlr : rest.size = s'.size - n := by rw [← data_len, hrest, List.length_drop, hl]
  have hne : s'.data.toList ≠ [] := fun h => by rw [h] at hl; simp at hl; omega
  have hmax : (if (sz : Int) < (at' : Int) + (n : Nat) then (at' : Int) + (n : Nat) else (sz : Int)) = ((max sz (at' + n) : Nat) : Int) := by split <;> omega
  rw [hmax] at hw
  have hr5 := hr.setSiz hf (max sz (at' + n))
  have huu : up (up st.siz f sz) f (max sz (at' + n)) = up st.siz f (max sz (at' + n)) := by funext j; unfold up; split <;> rfl
  rw [show ({ ({ st with pend := pd ++ [⟨f, at', t.data.toList⟩], siz := up st.siz f sz } : DSt) with siz := up (up st.siz f sz) f (max sz (at' + n)) } : DSt) = { st with pend := pd ++ [⟨f, at', t.data.toList⟩], siz := up st.siz f (max sz (at' + n)) } by rw [huu]] at hr5
  have hu5 : Upd D w (w4.setCell ⟨b, f * 2 + 1, none⟩ (.int .i64 ((max sz (at' + n) : Nat) : Int))) := hu.setCell (fun _ => hb) _
  refine ⟨at' + n, rest, own, dv, pv, kv, pd ++ [⟨f, at', t.data.toList⟩], max sz (at' + n), by rw [hx]; simp, hy, ?_, ?_, by omega, fun h0 => ?_, fun h0 => ?_, by omega, ?_, hb, ho, by simp; omega⟩
  · exact ⟨hr5.blk.of_heap (by rw [hw]), fun j hj => (hr5.dur j hj).of_heap fun _ _ => by rw [hw], hr5.pend.of_heap fun _ _ => by rw [hw], hr5.keep.of_heap fun _ _ => by rw [hw], hr5.apart, hr5.notb⟩
  · rw [← hpd, pieces_cons f at' _ hne n (by rw [hl]; exact hn), hrest, ht, List.append_assoc]; rfl
  · have := hz1 (by omega); omega
  · have := hz1 (by omega); omega
  · exact ⟨hwo.trans hu.os, hwt.trans hu.tape, hwp.trans hu.output, by rw [hw]; exact hu5.size, fun k hk hn => by rw [hw]; exact hu5.block k hk hn⟩

set_option maxHeartbeats 1600000 in
theorem write_yes (b f at_ : Nat) (s₀ : ByteArray) (D : Nat → Prop) (st : DSt) (w : World) (h : Disk w b D st) (hd : st.down = false) (hf : f < 12) (hfit : at_ + s₀.size ≤ 16777216) (hp : st.pend.length ≤ 1099511627776) (hsz : st.siz f ≤ 16777216) :
    Calls Try.prog 39 #[dptr b, .int .i64 (f : Int), .int .i64 (at_ : Int), .string s₀] w (Moved b D w (.int .i64 0) (st.wrote f at_ s₀.data.toList)) := by
  obtain ⟨own, dv, pv, kv, hr, hb, ho⟩ := h
  have hf1 : (f : Int) < 12 := by omega
  have ha1 : (at_ : Int) + s₀.size ≤ 16777216 := by omega
  have hc := hr.cdown
  rw [hd] at hc
  go_enter Try.func39, Try.ntmps39
  go_wp2_with (go_at_call 34; refine (check_one b w.heap.size 1 (f : Int) _ (by rw [World.cell?_alloc_past _ _ _ hr.blk.lt]; exact hc) (by simp [go_sem]) 0 (.inr ⟨⟨by omega, by omega⟩, rfl⟩)).mono ?_)
  rintro e w1 ⟨rfl, rfl⟩
  go_wp2
  go_loopw [2, 3] (fun a s wr => WInv b D f w st (at_ + s₀.size) (st.pend ++ pieces f at_ s₀.data.toList) (if s₀.data.toList = [] then st.siz f else max (st.siz f) (at_ + s₀.data.toList.length)) a s wr) (fun _ s _ => strLen s)
  case atStart =>
    refine ⟨at_, s₀, own, dv, pv, kv, st.pend, st.siz f, rfl, rfl, ?_, rfl, rfl, ?_, ?_, hsz, (Upd.refl _ _).alloc _, hb, fun i k hi hk => .inl (ho i k hi hk), by omega⟩
    · have hup : up st.siz f (st.siz f) = st.siz := by funext j; unfold up; split <;> simp_all
      rw [hup]
      exact hr.upd ((Upd.refl (fun _ => False) _).alloc _) (fun h => h) (fun _ _ _ _ h => h)
    · intro h0
      have : s₀.data.toList = [] := List.eq_nil_of_length_eq_zero (by rw [Array.length_toList]; exact h0)
      rw [if_pos this]
    · intro h0
      have hl : s₀.data.toList.length = s₀.size := by rw [Array.length_toList]; rfl
      rw [if_neg (fun h => by rw [h] at hl; simp at hl; omega), hl]
  case round =>
    obtain ⟨at', s', own', dv', pv', kv', pd, sz, rfl, rfl, hr', hpd, hend, hz0, hz1, hz2, hu, hb', ho', hlen⟩ := hrel
    clear hr
    by_cases hs : s'.size = 0
    · have he : s'.toList = [] := str_none hs
      have he2 : s'.data.toList = [] := by rw [← ByteArray.toList_eq]; exact he
      rw [he2, pieces_nil, List.append_nil] at hpd
      have H1 := Lib.hid hpd; clear hpd
      have H2 := Lib.hid (hz0 hs); clear hz0 hz1 he2
      go_wp2
      go_ret
      have e1 := H1.out
      have e2 := H2.out
      subst e1
      subst e2
      have hl : s₀.data.toList.length = s₀.size := data_len s₀
      exact ⟨rfl, ⟨own', dv', pv', kv', hr', .inl hb', fun i k hi hk => ho' i k hi hk⟩, hu⟩
    · have he1 : s'.toList.isEmpty = false := str_some hs
      obtain ⟨pa, pc, rfl, hpc1, hpc2⟩ := hr'.pend.form
      unfold maxLen at hpc2
      have hcp := hr'.cpend
      have hdr := Lib.hid hr'.drew
      have hrr := Lib.hid hr'
      clear hr'
      have H1 := Lib.hid hpd; clear hpd
      have H2 := Lib.hid hz0; clear hz0
      have H3 := Lib.hid hz1; clear hz1
      have H4 := Lib.hid hend
      by_cases hcase : s'.size ≤ 64 - at' % 64
      · have hcase' : (s'.size : Int) ≤ 64 - (at' : Int) % 64 := by omega
        have hfit' : (at' : Int) + s'.size ≤ 16777216 := by omega
        clear hend
        go_wp2
        refine PLM.wp_region_plm (fun w1 => w1.cell? ⟨b, 24, none⟩ = some (.slice pa pd.length pc)) [(4, 4), (15, 3)] (by kernel_rfl) (by kernel_rfl) hcp ?_
        repeat (refine PLM.step0 rfl (fun K hK => ?_); go_simp; refine hK _ ?_; clear hK K)
        (refine PLM.step4 rfl (fun w1 hS => by go_simp) (fun K hK => ?_); go_simp; refine hK _ ?_; clear hK K)
        repeat (refine PLM.step0 rfl (fun K hK => ?_); go_simp; refine hK _ ?_; clear hK K)
        (refine PLM.step2 rfl rfl (fun K hK => ?_); go_simp; refine hK _ _ ((World.cell?_alloc_past _ _ _ hdr.out.blk.lt).trans hcp) ?_; clear hK K)
        have hr2 := Lib.hid (hdr.out.upd ((Upd.refl (fun _ => False) _).alloc (.cells #[.int .i64 (f : Int), .int .i64 (at' : Int), .string s'] 60)) (fun h => h) (fun _ _ _ _ h => h))
        have hu2 := Lib.hid (((Upd.refl (fun _ => False) wr).drew).alloc (.cells #[.int .i64 (f : Int), .int .i64 (at' : Int), .string s'] 60))
        have hl2 := Lib.hid (Row.lit wr.drew 60 3 1 #[.int .i64 (f : Int), .int .i64 (at' : Int), .string s'] (by decide) rfl)
        obtain ⟨w2, hw2⟩ : ∃ w2, w2 = wr.drew.alloc (.cells #[.int .i64 (f : Int), .int .i64 (at' : Int), .string s'] 60) := ⟨_, rfl⟩
        rw [← hw2] at hr2 hu2 hl2
        change PLM.wpL _ _ _ _ _ _ _ _ (wr.drew.alloc (.cells #[.int .i64 (f : Int), .int .i64 (at' : Int), .string s'] 60))
        rw [← hw2]
        clear hw2
        refine PLM.step2p rfl rfl rfl (fun K hK => ?_)
        refine wp_append_row (.tmp 37) (.tmp 44) 55 55 rfl 60 3 32 E55 _ _ _ _ rfl hr2.out.pend _ 1 [.int .i64 (f : Int), .int .i64 (at' : Int), .string s'] rfl ?a1 (pd.length + 1) rfl (pendV (pd ++ [⟨f, at', s'.data.toList⟩])) ?a2 ?a3 ?a4 ?_
        case a1 => exact Row.src (P := Try.prog) (e' := 60) (by kernel_rfl) hl2.out (by simp [Value.oneCell'])
        case a2 => exact pendV_snoc _ _ _ _
        case a3 => dsimp only; unfold maxLen; omega
        case a4 => dsimp only; omega
        intro v3 w3 g3 hrow3 hg3 hu3
        obtain ⟨a3, c3, rfl, hc31, hc32⟩ := hrow3.form
        have hb3 := hr2.out.blk.upd hu3 (fun h => hr2.out.notb 12 (by omega) h)
        have hcell3 : w3.cell? ⟨b, 24, none⟩ = some (.slice pa pd.length pc) := hb3.cell_of (dcells_get (by omega))
        have hfz3 : w3.frozen? ⟨b, 24, none⟩ = false := hb3.frozen (by simp [dcells])
        have hr4 := Lib.hid (hr2.out.setPend hu3 (fun k h => h) (l := pd ++ [⟨f, at', s'.data.toList⟩]) (by simpa using hrow3) (fun k hk => (hg3.some hk).imp id (fun h => by omega)))
        have hu4 := Lib.hid (((hu.trans hu2.out (fun _ _ h => h.elim)).trans hu3 (fun k hk h => (ho' 12 k (by omega) h).resolve_right (by omega))).setCell (p := ⟨b, 24, none⟩) (fun _ => hb') (.slice a3 (pd.length + 1) c3))
        have ho4 := Lib.hid (foot_up (i := 12) ho' (by omega) (g := g3) (fun k hk => by
          have h1 := hu.size; have h2 := hu2.out.size
          rcases hg3.some hk with h | h
          · exact ho' 12 k (by omega) h
          · exact .inr (by omega)))
        clear ho'
        refine hK _ _ hcell3 ?_; clear hK K
        repeat (refine PLM.step0 rfl (fun K hK => ?_); go_simp; refine hK _ ?_; clear hK K)
        (refine PLM.step3 rfl rfl (fun K hK => ?_); go_simp; refine hK _ _ ?_; clear hK K)
        refine PLM.stepNil ?_
        go_wp2
        obtain ⟨w4, hw4⟩ : ∃ w4, w4 = w3.setCell ⟨b, 24, none⟩ (.slice a3 (pd.length + 1) c3) := ⟨_, rfl⟩
        rw [← hw4] at hr4 hu4 ⊢
        clear hw4 hb3 hfz3 hcell3 hrow3 hu3 hg3 hc31 hc32 hr2 hu2 hl2 hdr hrr hpc1 hpc2 hcp hu
        have hwp : IntKind.i64.wrap ((at' : Int) + (s'.size : Nat)) = (at' : Int) + (s'.size : Nat) := IntWalk.i64_in _ (by omega)
        refine PLM.wp_region_plm (fun _ => True) [] (by kernel_rfl) (by kernel_rfl) trivial ?_
        repeat (refine PLM.step0 rfl (fun K hK => ?_); go_simp; refine hK _ ?_; clear hK K)
        refine PLM.stepNil ?_
        clear hwp
        go_wp2
        have hr5 := Lib.hid hr4.out.drew.drew
        have hu5 := Lib.hid hu4.out.drew.drew
        have hcs := hr4.out.csiz hf
        have hfs := hr4.out.froz (o := f * 2 + 1) (by omega)
        rw [show ({ st with pend := pd ++ [⟨f, at', s'.data.toList⟩], siz := up st.siz f sz } : DSt).siz f = sz from up_same _ _ _] at hcs
        clear hr4 hu4
        refine PLM.wp_region_plm (fun _ => True) [] (by kernel_rfl) (by kernel_rfl) trivial ?_
        repeat (first | (refine PLM.step0 rfl (fun K hK => ?_); go_simp; refine hK _ ?_; clear hK K) | (refine PLM.step1 rfl rfl (fun K hK => ?_); go_simp; refine hK _ ?_; clear hK K))
        (refine PLM.step2 rfl rfl (fun K hK => ?_); go_simp; refine hK _ _ trivial ?_; clear hK K)
        refine PLM.stepNil ?_
        go_wp2
        go_roundw
        case rel =>
          refine winv_next (t := s') (n := s'.size) hf ?t1 ?t2 ?t3 hs hr5.out H1.out H4.out H3.out hz2 hfit hu5.out hb' ho4.out hlen rfl rfl rfl rfl rfl rfl
          case t1 => rw [← data_len, List.take_length]
          case t2 => rw [← data_len, List.drop_length]; rfl
          case t3 => omega
        case measure => simp [strLen]; omega
      · obtain ⟨n, hn⟩ : ∃ n, 64 - at' % 64 = n := ⟨_, rfl⟩
        have hn' : (64 : Int) - (at' : Int) % 64 = (n : Int) := by omega
        have hn1 : (n : Int) < s'.size := by omega
        have hn2 : 0 < n := by omega
        have hn3 : n ≤ s'.size := by omega
        have hfit' : (at' : Int) + s'.size ≤ 16777216 := by omega
        have HN := Lib.hid hn
        clear hend hn
        go_wp2
        have HN' := Lib.hid hn'
        clear hn'
        refine PLM.wp_region_plm (fun w1 => w1.cell? ⟨b, 24, none⟩ = some (.slice pa pd.length pc)) [(4, 4), (15, 3)] (by kernel_rfl) (by kernel_rfl) hcp ?_
        repeat (refine PLM.step0 rfl (fun K hK => ?_); go_simp; refine hK _ ?_; clear hK K)
        (refine PLM.step4 rfl (fun w1 hS => by go_simp) (fun K hK => ?_); go_simp; refine hK _ ?_; clear hK K)
        repeat (refine PLM.step0 rfl (fun K hK => ?_); go_simp; refine hK _ ?_; clear hK K)
        (refine PLM.step2 rfl rfl (fun K hK => ?_); go_simp; refine hK _ _ ((World.cell?_alloc_past _ _ _ hdr.out.blk.lt).trans hcp) ?_; clear hK K)
        have hr2 := Lib.hid (hdr.out.upd ((Upd.refl (fun _ => False) _).alloc (.cells #[.int .i64 (f : Int), .int .i64 (at' : Int), .string (s'.extract 0 n)] 60)) (fun h => h) (fun _ _ _ _ h => h))
        have hu2 := Lib.hid (((Upd.refl (fun _ => False) wr).drew).alloc (.cells #[.int .i64 (f : Int), .int .i64 (at' : Int), .string (s'.extract 0 n)] 60))
        have hl2 := Lib.hid (Row.lit wr.drew 60 3 1 #[.int .i64 (f : Int), .int .i64 (at' : Int), .string (s'.extract 0 n)] (by decide) rfl)
        obtain ⟨w2, hw2⟩ : ∃ w2, w2 = wr.drew.alloc (.cells #[.int .i64 (f : Int), .int .i64 (at' : Int), .string (s'.extract 0 n)] 60) := ⟨_, rfl⟩
        rw [← hw2] at hr2 hu2 hl2
        change PLM.wpL _ _ _ _ _ _ _ _ (wr.drew.alloc (.cells #[.int .i64 (f : Int), .int .i64 (at' : Int), .string (s'.extract 0 n)] 60))
        rw [← hw2]
        clear hw2
        refine PLM.step2p rfl rfl rfl (fun K hK => ?_)
        refine wp_append_row (.tmp 37) (.tmp 44) 55 55 rfl 60 3 32 E55 _ _ _ _ rfl hr2.out.pend _ 1 [.int .i64 (f : Int), .int .i64 (at' : Int), .string (s'.extract 0 n)] rfl ?a1 (pd.length + 1) rfl (pendV (pd ++ [⟨f, at', (s'.extract 0 n).data.toList⟩])) ?a2 ?a3 ?a4 ?_
        case a1 => exact Row.src (P := Try.prog) (e' := 60) (by kernel_rfl) hl2.out (by simp [Value.oneCell'])
        case a2 => exact pendV_snoc _ _ _ _
        case a3 => dsimp only; unfold maxLen; omega
        case a4 => dsimp only; omega
        intro v3 w3 g3 hrow3 hg3 hu3
        obtain ⟨a3, c3, rfl, hc31, hc32⟩ := hrow3.form
        have hb3 := hr2.out.blk.upd hu3 (fun h => hr2.out.notb 12 (by omega) h)
        have hcell3 : w3.cell? ⟨b, 24, none⟩ = some (.slice pa pd.length pc) := hb3.cell_of (dcells_get (by omega))
        have hfz3 : w3.frozen? ⟨b, 24, none⟩ = false := hb3.frozen (by simp [dcells])
        have hr4 := Lib.hid (hr2.out.setPend hu3 (fun k h => h) (l := pd ++ [⟨f, at', (s'.extract 0 n).data.toList⟩]) (by simpa using hrow3) (fun k hk => (hg3.some hk).imp id (fun h => by omega)))
        have hu4 := Lib.hid (((hu.trans hu2.out (fun _ _ h => h.elim)).trans hu3 (fun k hk h => (ho' 12 k (by omega) h).resolve_right (by omega))).setCell (p := ⟨b, 24, none⟩) (fun _ => hb') (.slice a3 (pd.length + 1) c3))
        have ho4 := Lib.hid (foot_up (i := 12) ho' (by omega) (g := g3) (fun k hk => by
          have h1 := hu.size; have h2 := hu2.out.size
          rcases hg3.some hk with h | h
          · exact ho' 12 k (by omega) h
          · exact .inr (by omega)))
        clear ho'
        refine hK _ _ hcell3 ?_; clear hK K
        repeat (refine PLM.step0 rfl (fun K hK => ?_); go_simp; refine hK _ ?_; clear hK K)
        (refine PLM.step3 rfl rfl (fun K hK => ?_); go_simp; refine hK _ _ ?_; clear hK K)
        refine PLM.stepNil ?_
        go_wp2
        obtain ⟨w4, hw4⟩ : ∃ w4, w4 = w3.setCell ⟨b, 24, none⟩ (.slice a3 (pd.length + 1) c3) := ⟨_, rfl⟩
        rw [← hw4] at hr4 hu4 ⊢
        clear hw4 hb3 hfz3 hcell3 hrow3 hu3 hg3 hc31 hc32 hr2 hu2 hl2 hdr hrr hpc1 hpc2 hcp hu
        have hwp : IntKind.i64.wrap ((at' : Int) + (n : Nat)) = (at' : Int) + (n : Nat) := IntWalk.i64_in _ (by omega)
        refine PLM.wp_region_plm (fun _ => True) [] (by kernel_rfl) (by kernel_rfl) trivial ?_
        repeat (refine PLM.step0 rfl (fun K hK => ?_); go_simp; refine hK _ ?_; clear hK K)
        refine PLM.stepNil ?_
        clear hwp
        go_wp2
        have hr5 := Lib.hid hr4.out.drew.drew
        have hu5 := Lib.hid hu4.out.drew.drew
        have hcs := hr4.out.csiz hf
        have hfs := hr4.out.froz (o := f * 2 + 1) (by omega)
        rw [show ({ st with pend := pd ++ [⟨f, at', (s'.extract 0 n).data.toList⟩], siz := up st.siz f sz } : DSt).siz f = sz from up_same _ _ _] at hcs
        clear hr4 hu4
        refine PLM.wp_region_plm (fun _ => True) [] (by kernel_rfl) (by kernel_rfl) trivial ?_
        repeat (first | (refine PLM.step0 rfl (fun K hK => ?_); go_simp; refine hK _ ?_; clear hK K) | (refine PLM.step1 rfl rfl (fun K hK => ?_); go_simp; refine hK _ ?_; clear hK K))
        (refine PLM.step2 rfl rfl (fun K hK => ?_); go_simp; refine hK _ _ trivial ?_; clear hK K)
        refine PLM.stepNil ?_
        go_wp2
        go_roundw
        case rel =>
          refine winv_next (t := (s'.extract 0 n)) (n := n) hf ?t1 ?t2 ?t3 hs hr5.out H1.out H4.out H3.out hz2 hfit hu5.out hb' ho4.out hlen rfl rfl rfl rfl rfl rfl
          case t1 => rw [ByteArray.data_extract, Array.toList_extract, List.extract_eq_take_drop]; simp
          case t2 => exact extract_drop _ _
          case t3 => have := HN.out; omega
        case measure => simp [strLen]; omega
end Go.Proofs.Ythfnnkfdpnkodaa
