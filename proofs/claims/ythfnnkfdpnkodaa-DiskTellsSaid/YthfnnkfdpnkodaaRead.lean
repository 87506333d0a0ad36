/- disk.Read. -/
import Derived.Test.YthfnnkfdpnkodaaCrash
namespace Go.Proofs.Ythfnnkfdpnkodaa
open Go.RowKit

theorem run_convert_row {P : Program} {w : World} {src dst e : TypeId} (hs : P.underlying src = some (.slice e)) (he : P.underlying e = some (.int .u8)) (hd : P.underlying dst = some .string)
    {v : Value} {g : Option Nat} {l : List UInt8} (h : Row w e 1 v g l.length (bytesV l)) : (convert src dst v).run P w = .ok (strV l) w := by
  have hfold : ∀ (l : List UInt8) (s : ByteArray), (l.map fun b => (b.toNat : Int)).foldl (fun r n => r.push (UInt8.ofNat n.toNat)) s = ⟨s.data ++ l.toArray⟩ := by
    intro l
    induction l with
    | nil => intro s; simp
    | cons b l ih => intro s; rw [List.map_cons, List.foldl_cons, ih]; simp [ByteArray.push]
  rcases h.2 with ⟨rfl, _, h0⟩ | ⟨b, cap, cur, rfl, hg, hB, _⟩
  · have : l = [] := List.eq_nil_of_length_eq_zero h0
    subst this
    rw [run_convert_bytes_nil w src e hs he 0 0 dst hd]; rfl
  · rw [run_convert_bytes_string w src dst e _ _ _ hs he hd]
    rw [run_bytesToString w ⟨b, 0, none⟩ l.length cap (l.map fun b => (b.toNat : Int))]
    · rw [hfold]; simp [strV]
    · have := firstCells_row (P := P) h
      rw [List.map_map]
      simpa [Builtin.firstCells, bytesV, Function.comp_def] using this

def RdRel (f : Nat) (w : World) (st : DSt) (v i : Value) (wr : World) : Prop :=
  ∃ (k : Nat) (g : Option Nat), i = .int .i64 k ∧ k ≤ st.pend.length ∧ Row wr 5 1 v g (applyP f (st.pend.take k) (st.dur f)).length (bytesV (applyP f (st.pend.take k) (st.dur f))) ∧ (∀ b, g = some b → w.heap.size ≤ b) ∧ Upd (fun _ => False) w wr

def rdText (st : DSt) (f : Nat) : List UInt8 := applyP f st.pend (st.dur f)

set_option maxHeartbeats 1600000 in
theorem read_yes (b f : Nat) (D : Nat → Prop) (st : DSt) (w : World) (h : Disk w b D st) (hf : f < 12) (hg : DGood st) (hd : st.down = false) :
    Calls Try.prog 14 #[dptr b, .int .i64 (f : Int)] w fun e w' => e = .returned (.tuple #[strV (rdText st f), .int .i64 0]) ∧ Upd (fun _ => False) w w' := by
  obtain ⟨own, dv, pv, kv, hr, hb, ho⟩ := h
  clear ho hb D
  have hf1 : (f : Int) < 12 := by omega
  have hc := hr.cdown
  rw [hd] at hc
  clear hd
  obtain ⟨pa, pc, rfl, hpc1, hpc2⟩ := hr.pend.form
  unfold maxLen at hpc2
  obtain ⟨da, dc, hdv, hd1, hd2⟩ := (hr.dur f hf).form
  have hcd := hr.cdur hf
  have hcs := hr.csiz hf
  have hrow := Lib.hid (hr.dur f hf)
  rw [hdv] at hcd hrow
  clear hdv
  have hdl := hg.dur f hf
  have hsl : st.siz f ≤ 16777216 := by rw [hg.siz f hf]; exact applyP_le (fun p hp => (hg.pend p hp).2.1) hdl
  have hmk : ∀ w : World, (Instr.makeSlice 51 (.int .i64 0) (.int .i64 (st.siz f : Int))).run Try.prog w = .ok (.slice (some ⟨w.heap.size, 0, none⟩) 0 (st.siz f)) (w.alloc (.cells (madeCells #[.int .u8 0] (st.siz f)) 5)) := by
    intro w
    obtain ⟨ht, i, z, hi, hz, h1, h2, h3, h4⟩ := E51
    have hz0 : z = .int .u8 0 := by
      have hk : (Try.prog.info? 5).bind (·.zero) = some (.int .u8 0) := by kernel_rfl
      rw [hi] at hk; simpa [hz] using hk
    subst hz0
    have := run_make (P := Try.prog) w 51 5 i (.int .u8 0) ht hi hz .i64 .i64 0 (st.siz f : Int) (by omega) (by omega) (by rw [h2]; omega) (by omega)
    rw [h1] at this
    simpa [Value.cells] using this
  have hp1 := hr.cpend
  have hlt := hr.blk.lt
  obtain ⟨W1, hW1⟩ : ∃ W1, W1 = w.alloc (.cells #[.int .i64 (f : Int)] 3) := ⟨_, rfl⟩
  have hu1 : Upd (fun _ => False) w W1 := hW1 ▸ (Upd.refl _ _).alloc _
  have hz1 : W1.heap.size = w.heap.size + 1 := by rw [hW1]; simp
  have hmade := Row.made W1 5 1 #[.int .u8 0] 0 (st.siz f) (Nat.zero_le _) (by unfold maxLen; omega)
  have hu2 := hu1.alloc (.cells (madeCells #[.int .u8 0] (st.siz f * 1)) 5)
  rw [Nat.mul_one, hz1, Nat.zero_mul, List.take_zero] at hmade
  rw [Nat.mul_one] at hu2
  have HRw := Lib.hid hr
  rw [hW1] at hmade hu2
  have HM := Lib.hid hmade
  have HU := Lib.hid hu2
  clear hr hW1 hu1 hz1 hmade hu2 W1
  go_enter Try.func14, Try.ntmps14
  go_wp2_with (first
    | (go_at_call 34; refine (check_one b w.heap.size 1 (f : Int) _ (by rw [World.cell?_alloc_past _ _ _ hlt]; exact hc) (by simp [go_sem]) 0 (.inr ⟨⟨by omega, by omega⟩, rfl⟩)).mono ?_; rintro e w1 ⟨rfl, rfl⟩)
    | (at_builtin; refine wpList_append_row rfl (.tmp 25) (.tmp 32) 51 51 rfl 5 1 1 E51 _ _ _ [] rfl HM.out _ (st.dur f).length (bytesV (st.dur f)) rfl ?src (st.dur f).length ?nn (bytesV (st.dur f)) ?xx ?b1 ?b2 ?_))
  case src => exact Row.src (P := Try.prog) (e' := 5) (by kernel_rfl) (hrow.out.of_heap (fun k hk => HU.out.block k (hrow.out.lt hk) (fun h => h))) (by intro u hu; unfold bytesV at hu; obtain ⟨_, _, rfl⟩ := List.mem_map.1 hu; rfl)
  case nn => omega
  case xx => rfl
  case b1 => unfold maxLen; omega
  case b2 => omega
  intro v3 w3 g3 hrow3 hg3 hu3
  have hg4 : ∀ k, g3 = some k → w.heap.size ≤ k := by
    intro k hk
    rcases hg3.some hk with h | h
    · have := Option.some.inj h; omega
    · have := HU.out.size; omega
  have hu4 : Upd (fun _ => False) w w3 := HU.out.trans hu3 (fun k hk h => by omega)
  have h0 : Hid (RdRel f w st v3 (.int .i64 0) w3) := ⟨0, g3, rfl, Nat.zero_le _, hrow3, hg4, hu4⟩
  have hp3 := (HRw.out.upd hu4 (fun h => h) (fun _ _ _ _ h => h)).cpend
  clear hg4 hu4 hu3 hg3 hrow3
  go_wp2
  go_loopw [7, 39] (fun v i wr => RdRel f w st v i wr) (fun _ i _ => st.pend.length - (intOf i).toNat)
  case atStart => exact h0.out
  case round =>
    clear h0
    obtain ⟨k, g, rfl, hk, hrow', hgw, hu⟩ := hrel
    have hr' := HRw.out.upd hu (fun h => h) (fun _ _ _ _ h => h)
    have hsz := hu.size
    by_cases hlt2 : k < st.pend.length
    · have hpp := hg.pend _ (List.getElem_mem hlt2)
      have hlen : (applyP f (st.pend.take k) (st.dur f)).length ≤ 16777216 := applyP_le (fun p hp => (hg.pend p (List.mem_of_mem_take hp)).2.1) (hg.dur f hf)
      obtain ⟨ab, cap', hv, hgg, _, _⟩ := hr'.pend.pos (by exact Nat.lt_of_le_of_lt (Nat.zero_le _) hlt2)
      cases hv
      obtain ⟨h1, h2, h3⟩ := hr'.pend.pcell (k := k) hlt2
      obtain ⟨S, hSv, hSl⟩ : ∃ S : ByteArray, strV st.pend[k].s = .string S ∧ S.data.toList = st.pend[k].s := ⟨⟨st.pend[k].s.toArray⟩, rfl, by simp⟩
      rw [hSv] at h3
      clear hSv
      have hSz : S.size = st.pend[k].s.length := by rw [← data_len, hSl]
      have HS := Lib.hid hSl; clear hSl
      have HZ := Lib.hid hSz; clear hSz
      have HG := Lib.hid hpp; clear hpp
      obtain ⟨a0, c0, rfl, _, _⟩ := hrow'.form
      have hux := Lib.hid (hu.alloc (.cells #[.int .i64 (st.pend[k].f : Int), .int .i64 (st.pend[k].at_ : Int), .string S] 60))
      have hrowx := Lib.hid (hrow'.upd ((Upd.refl (fun _ => False) wr).alloc (.cells #[.int .i64 (st.pend[k].f : Int), .int .i64 (st.pend[k].at_ : Int), .string S] 60)) (fun _ _ h => h))
      clear hr' hu hrow'
      by_cases hp : st.pend[k].f = f
      · have hp1' : ((st.pend[k].f : Int) == (f : Int)) = true := by simp [hp]
        have HP := Lib.hid hp; clear hp
        go_wp2_with fail
        refine (put_any _ g (applyP f (st.pend.take k) (st.dur f)) st.pend[k].at_ S _ hrowx.out ?p1 ?p2 ?p3).mono ?_
        case p1 => have := HG.out; omega
        case p2 => have := HG.out; have := HZ.out; omega
        case p3 => omega
        rintro e w5 ⟨v5, g5, rfl, hrow5, hg5, hu5⟩
        have h5 : Hid (RdRel f w st v5 (.int .i64 ((k : Int) + 1)) w5) := by
          refine ⟨k + 1, g5, by simp, by omega, ?_, fun b hb => ?_, hux.out.trans hu5 (fun k' hk' h => by have := hgw k' h; omega)⟩
          · rw [applyP_snoc f st.pend k hlt2, if_pos HP.out, ← HS.out]; exact hrow5
          · rcases hg5 b hb with h | h
            · exact hgw b h
            · have := hux.out.size; omega
        clear hrow5 hg5 hu5 hux hrowx
        go_wp2
        go_roundw
        case rel => exact h5.out
        case measure => simp [intOf]; omega
      · have hp1' : ((st.pend[k].f : Int) == (f : Int)) = false := beq_eq_false_iff_ne.2 (by omega)
        have HP := Lib.hid hp; clear hp
        go_wp2
        go_roundw
        case rel => exact ⟨k + 1, g, by simp, by omega, by rw [applyP_snoc f st.pend k hlt2, if_neg HP.out]; exact hrowx.out, hgw, hux.out⟩
        case measure => simp [intOf]; omega
    · have hke : k = st.pend.length := by omega
      subst hke
      rw [List.take_length] at hrow'
      have hconv := run_convert_row (P := Try.prog) (src := 51) (dst := 9) (by kernel_rfl) (by kernel_rfl) (by kernel_rfl) hrow'
      unfold strV at hconv
      obtain ⟨a0, c0, rfl, _, _⟩ := hrow'.form
      have HW := Lib.hid hrow'
      clear hrow' hr'
      go_wp2
      go_ret2
      exact ⟨rfl, hu⟩
end Go.Proofs.Ythfnnkfdpnkodaa
