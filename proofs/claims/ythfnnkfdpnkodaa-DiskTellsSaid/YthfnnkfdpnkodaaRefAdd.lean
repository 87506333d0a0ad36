/- The reference's add and without, walked. -/
import Derived.Test.YthfnnkfdpnkodaaRefRead
namespace Go.Proofs.Ythfnnkfdpnkodaa
open Go.RowKit

/-- A call that leaves the blocks of F as they were, and the reference's disk as told. -/
def KeptR (F : Nat → Prop) (b : Nat) (w : World) (v : Value) (st : DSt) (rk : List Int) (e : Ending) (w' : World) : Prop :=
  e = .returned v ∧ RD b st rk w' (fun k => ¬ F k) ∧ Upd (fun k => ¬ F k) w w'

/-- What add has done up to byte k: the piece begins at byte m. -/
structure AddInv (st : DSt) (f at_ : Nat) (s : List UInt8) (k m : Nat) (pd : List Pc) : Prop where
  le : m ≤ k
  ks : k ≤ s.length
  part : k - m < 64 - (at_ + m) % 64
  all : pd ++ pieces f (at_ + m) (s.drop m) = st.pend ++ pieces f at_ s

theorem AddInv.zero (st : DSt) (f at_ : Nat) (s : List UInt8) : AddInv st f at_ s 0 0 st.pend := ⟨Nat.le_refl _, Nat.zero_le _, by omega, rfl⟩

theorem AddInv.more {st : DSt} {f at_ : Nat} {s : List UInt8} {k m : Nat} {pd : List Pc} (h : AddInv st f at_ s k m pd) (hk : k < s.length) (h1 : (at_ + k + 1) % 64 ≠ 0) : AddInv st f at_ s (k + 1) m pd :=
  ⟨by have := h.le; omega, hk, by have := h.part; have := h.le; omega, h.all⟩

theorem AddInv.cut {st : DSt} {f at_ : Nat} {s : List UInt8} {k m : Nat} {pd : List Pc} (h : AddInv st f at_ s k m pd) (hk : k < s.length) (h1 : (at_ + k + 1) % 64 = 0 ∨ k + 1 = s.length) :
    AddInv st f at_ s (k + 1) (k + 1) (pd ++ [⟨f, at_ + m, (s.drop m).take (k + 1 - m)⟩]) := by
  obtain ⟨hm, _, hp, ha⟩ := h
  have hl : (s.drop m).length = s.length - m := by simp
  have hn : min (s.drop m).length (64 - (at_ + m) % 64) = k + 1 - m := by rw [hl]; omega
  have hc := pieces_cons f (at_ + m) (s.drop m) (fun e => by have := congrArg List.length e; simp at this; omega) (k + 1 - m) hn
  refine ⟨Nat.le_refl _, hk, by omega, ?_⟩
  rw [← ha, hc, List.append_assoc, List.drop_drop]
  simp only [List.singleton_append]
  rw [show m + (k + 1 - m) = k + 1 by omega, show at_ + m + (k + 1 - m) = at_ + (k + 1) by omega]

theorem AddInv.fin {st : DSt} {f at_ : Nat} {s : List UInt8} {m : Nat} {pd : List Pc} (h : AddInv st f at_ s s.length m pd) (hm : m = s.length) : pd = st.pend ++ pieces f at_ s := by
  have := h.all
  rw [hm, List.drop_length, pieces_nil, List.append_nil] at this
  exact this

def AddRel (F : Nat → Prop) (b f at_ : Nat) (w : World) (st : DSt) (rk : List Int) (s : ByteArray) (gk : Nat) (pc fr i : Value) (wr : World) : Prop :=
  ∃ (k m : Nat) (pd : List Pc), i = .int .i64 k ∧ fr = .int .i64 ((at_ : Int) + (m : Int)) ∧ gk = s.size - k ∧ pc = strV ((s.data.toList.drop m).take (k - m)) ∧ AddInv st f at_ s.data.toList k m pd ∧ (k = s.size → m = k) ∧
    pd.length ≤ st.pend.length + k ∧ RD b { st with pend := pd } rk wr (fun k => ¬ F k) ∧ Upd (fun k => ¬ F k) w wr

theorem extract_one (s : ByteArray) (k : Nat) (hk : k < s.size) : (s.extract k (k + 1)).data.toList = [s[k]] := by
  have h1 : k < s.data.toList.length := by rw [data_len]; exact hk
  rw [ByteArray.data_extract]
  simp only [Array.toList_extract, List.extract_eq_take_drop]
  rw [show k + 1 - k = 1 by omega]
  rw [List.drop_eq_getElem_cons h1]
  rfl

theorem cat_toList (a b : ByteArray) : (a ++ b).data.toList = a.data.toList ++ b.data.toList := by
  rw [ByteArray.data_append, Array.toList_append]

theorem piece_snoc (s : ByteArray) (k m : Nat) (hm : m ≤ k) (hk : k < s.size) (S : ByteArray) (hS : S.data.toList = (s.data.toList.drop m).take (k - m)) :
    Value.string (S ++ s.extract k (k + 1)) = strV ((s.data.toList.drop m).take (k + 1 - m)) := by
  rw [← strV_data, cat_toList, extract_one s k hk, hS]
  congr 1
  have h1 : k - m < (s.data.toList.drop m).length := by rw [List.length_drop, data_len]; omega
  rw [show k + 1 - m = (k - m) + 1 by omega, List.take_succ_eq_append_getElem h1]
  congr 2
  rw [List.getElem_drop]
  have e : m + (k - m) = k := by omega
  simp only [e]
  rfl


set_option maxHeartbeats 1600000 in
theorem radd_any (F : Nat → Prop) (b f at_ : Nat) (st : DSt) (rk : List Int) (s : ByteArray) (w : World) (hF : ∀ k, F k → k < w.heap.size) (h : RD b st rk w (fun k => ¬ F k)) (hat : at_ + s.size ≤ 16777216) (hp : st.pend.length ≤ 1099511627776) :
    Calls Try.prog 57 #[dptr b, .int .i64 (f : Int), .int .i64 (at_ : Int), .string s] w (KeptR F b w (.tuple #[]) (st.wrote f at_ s.data.toList) rk) := by
  have HF := Lib.hid hF
  have h0 : Hid (AddRel F b f at_ w st rk s s.size (.string ByteArray.empty) (.int .i64 (at_ : Int)) (.int .i64 0) w) :=
    Lib.hid ⟨0, 0, st.pend, rfl, by simp, rfl, rfl, AddInv.zero st f at_ _, fun _ => rfl, Nat.le_refl _, h, Upd.refl _ _⟩
  clear h hF
  go_enter Try.func57, Try.ntmps57
  go_wp2_with fail
  go_loopg [8, 9, 10] s.size (fun gk p fr i wr => AddRel F b f at_ w st rk s gk p fr i wr)
  case atStart => exact h0.out
  case round =>
    clear h0
    obtain ⟨k, m, pd, rfl, rfl, rfl, rfl, hinv, hend, hpl, h, hu⟩ := hrel
    obtain ⟨S, hS, hSl, hSz⟩ := exStr ((s.data.toList.drop m).take (k - m))
    rw [hS]
    have hks := hinv.ks
    rw [data_len] at hks
    have hmk := hinv.le
    have HI := Lib.hid hinv
    by_cases hlt : k < s.size
    · have hsn := Lib.hid (piece_snoc s k m hmk hlt S hSl)
      have hsz : S.size ≤ k := by rw [hSz, List.length_take]; omega
      have HPL := Lib.hid hpl
      have hk24 : k ≤ 16777216 := by omega
      have hm24 : at_ + m ≤ 33554432 := by omega
      have hk1 : (k : Int) + 1 ≤ s.size := by omega
      clear hinv hend hS hSl hSz hpl
      by_cases hc : (at_ + k + 1) % 64 = 0 ∨ k + 1 = s.size
      · have HI2 := Lib.hid (HI.out.cut (by rw [data_len]; exact hlt) (by rw [data_len]; exact hc))
        have hlit : Hid (Row (wr.alloc (.cells #[.int .i64 (f : Int), .int .i64 ((at_ : Int) + (m : Int)), .string (S ++ s.extract k (k + 1))] 76)) 76 3 (.slice (some ⟨wr.heap.size, 0, none⟩) 1 1) (some wr.heap.size) 1 [.int .i64 (f : Int), .int .i64 ((at_ : Int) + (m : Int)), .string (S ++ s.extract k (k + 1))]) := Lib.hid (Row.lit wr 76 3 1 _ (by unfold maxLen; omega) rfl)
        have hone : Hid (∀ u ∈ [Value.int .i64 (f : Int), .int .i64 ((at_ : Int) + (m : Int)), .string (S ++ s.extract k (k + 1))], u.oneCell' = true) := Lib.hid (by simp [Value.oneCell'])
        have hua := (Upd.refl (fun _ => False) wr).alloc (.cells #[.int .i64 (f : Int), .int .i64 ((at_ : Int) + (m : Int)), .string (S ++ s.extract k (k + 1))] 76)
        obtain ⟨v1, g1, c1, r1, hd1, hback⟩ := Owned.focus (Owned.still h hua) (i := 1) rfl
        obtain ⟨v1', g1', c1o, _⟩ := Owned.focus h (i := 1) rfl
        obtain rfl : v1' = v1 := by have := hua.cell c1o; rw [c1] at this; exact (Option.some.inj this).symm
        obtain ⟨qa, qc, rfl, _, _⟩ := r1.form
        have fz := Lib.hid (Owned.froz (Owned.still h hua) (i := 1) (by simp [rflds]))
        have HB := Lib.hid hback
        have R1 := Lib.hid r1
        have HD1 := Lib.hid hd1
        have HC1 := Lib.hid c1
        have HU := Lib.hid (hu.trans hua fun _ _ h => h.elim)
        have hfw := Lib.hid (show ∀ j, F j → j < (wr.alloc (.cells #[.int .i64 (f : Int), .int .i64 ((at_ : Int) + (m : Int)), .string (S ++ s.extract k (k + 1))] 76)).heap.size from fun j hk => Nat.lt_of_lt_of_le (HF.out j hk) HU.out.size)
        have hpb : pd.length ≤ 1099528404992 := by have := HPL.out; omega
        clear c1 r1 hd1 hback hu hua h
        by_cases hc1 : (at_ + k + 1) % 64 = 0
        · have hc1' : (((at_ : Int) + (k : Int) + 1) % 64 == 0) = true := by
            rw [beq_iff_eq]; omega
          go_wp2_with (at_builtin; refine wpList_append_row rfl (.tmp 42) (.tmp 47) 65 65 rfl 76 3 32 EPiece _ _ _ _ rfl R1.out _ 1 _ rfl (Row.src (P := Try.prog) (e' := 76) (by kernel_rfl) hlit.out hone.out) _ rfl _ rfl ?b1 ?b2 ?_)
          case b1 => unfold maxLen; omega
          case b2 => omega
          intro v3 w3 g3 hrow3 hg3 hu3
          obtain ⟨a3, cc3, hv3, _, _⟩ := hrow3.form
          subst hv3
          have hbl : ∀ k, g1 = some k → k ≠ b := fun k hk => (HD1.out k hk).2
          have c3 : w3.cell? ⟨b, 1, none⟩ = some (.slice qa pd.length qc) := (World.cell?_of_block (hu3.block b (World.block_lt_of_cell? _ _ HC1.out) (fun hk => hbl b hk rfl))).trans HC1.out
          have f3 : w3.frozen? ⟨b, 1, none⟩ = false := by
            have := fz.out
            unfold World.frozen? at this ⊢
            rw [hu3.block b (World.block_lt_of_cell? _ _ HC1.out) (fun hk => hbl b hk rfl)]
            exact this
          have hrow3' : Row w3 76 3 (.slice a3 (pd.length + 1) cc3) g3 (pd ++ [(⟨f, at_ + m, (S ++ s.extract k (k + 1)).data.toList⟩ : Pc)]).length (pendV (pd ++ [(⟨f, at_ + m, (S ++ s.extract k (k + 1)).data.toList⟩ : Pc)])) := by
            rw [pendV_snoc, List.length_append]
            simp only [Int.natCast_add]
            exact hrow3
          have hfin := (HB.out.1 w3 _ g3 _ _ _ _ hu3 hrow3' (fun k hk => (hg3.some hk).imp id (fun h => by omega))).mono (D' := fun j => ¬ F j) (fun j _ hk hf => hk.elim (fun h => h hf) (fun h => by have := hfw.out j hf; omega))
          have hfin2 : Hid (RD b { st with pend := pd ++ [⟨f, at_ + m, (s.data.toList.drop m).take (k + 1 - m)⟩] } rk (w3.setCell ⟨b, 1, none⟩ (.slice a3 (pd.length + 1) cc3)) (fun k => ¬ F k)) := by
            have e : (S ++ s.extract k (k + 1)).data.toList = (s.data.toList.drop m).take (k + 1 - m) := by
              have := hsn.out
              rw [← strV_data] at this
              unfold strV at this
              have := Value.string.inj this
              simpa using congrArg (fun x : ByteArray => x.data.toList) this
            rw [e] at hfin
            exact Lib.hid hfin
          have hbF : ¬ F b := by obtain ⟨_, _, ho⟩ := hfin; exact ho.inD.1
          have hu4 := Lib.hid ((HU.out.trans hu3 fun k _ hk => (HD1.out k hk).1).setCell (p := ⟨b, 1, none⟩) (fun _ => hbF) (.slice a3 (pd.length + 1) cc3))
          clear hrow3 hrow3' hg3 hfin hu3 hbl hbF
          go_wp2_with fail
          go_roundg (s.size - (k + 1))
          case rel => exact ⟨k + 1, k + 1, _, by simp, by simp; omega, rfl, by rw [Nat.sub_self, List.take_zero]; rfl, HI2.out, fun _ => rfl, by rw [List.length_append]; show _ + 1 ≤ _; have := HPL.out; omega, hfin2.out, hu4.out⟩
          case measure => omega
        · have hc1' : (((at_ : Int) + (k : Int) + 1) % 64 == 0) = false := by
            rw [beq_eq_false_iff_ne]; omega
          have hc2' : ((k : Int) == (s.size : Int) - 1) = true := by
            rw [beq_iff_eq]; omega
          go_wp2_with (at_builtin; refine wpList_append_row rfl (.tmp 42) (.tmp 47) 65 65 rfl 76 3 32 EPiece _ _ _ _ rfl R1.out _ 1 _ rfl (Row.src (P := Try.prog) (e' := 76) (by kernel_rfl) hlit.out hone.out) _ rfl _ rfl ?b1 ?b2 ?_)
          case b1 => unfold maxLen; omega
          case b2 => omega
          intro v3 w3 g3 hrow3 hg3 hu3
          obtain ⟨a3, cc3, hv3, _, _⟩ := hrow3.form
          subst hv3
          have hbl : ∀ k, g1 = some k → k ≠ b := fun k hk => (HD1.out k hk).2
          have c3 : w3.cell? ⟨b, 1, none⟩ = some (.slice qa pd.length qc) := (World.cell?_of_block (hu3.block b (World.block_lt_of_cell? _ _ HC1.out) (fun hk => hbl b hk rfl))).trans HC1.out
          have f3 : w3.frozen? ⟨b, 1, none⟩ = false := by
            have := fz.out
            unfold World.frozen? at this ⊢
            rw [hu3.block b (World.block_lt_of_cell? _ _ HC1.out) (fun hk => hbl b hk rfl)]
            exact this
          have hrow3' : Row w3 76 3 (.slice a3 (pd.length + 1) cc3) g3 (pd ++ [(⟨f, at_ + m, (S ++ s.extract k (k + 1)).data.toList⟩ : Pc)]).length (pendV (pd ++ [(⟨f, at_ + m, (S ++ s.extract k (k + 1)).data.toList⟩ : Pc)])) := by
            rw [pendV_snoc, List.length_append]
            simp only [Int.natCast_add]
            exact hrow3
          have hfin := (HB.out.1 w3 _ g3 _ _ _ _ hu3 hrow3' (fun k hk => (hg3.some hk).imp id (fun h => by omega))).mono (D' := fun j => ¬ F j) (fun j _ hk hf => hk.elim (fun h => h hf) (fun h => by have := hfw.out j hf; omega))
          have hfin2 : Hid (RD b { st with pend := pd ++ [⟨f, at_ + m, (s.data.toList.drop m).take (k + 1 - m)⟩] } rk (w3.setCell ⟨b, 1, none⟩ (.slice a3 (pd.length + 1) cc3)) (fun k => ¬ F k)) := by
            have e : (S ++ s.extract k (k + 1)).data.toList = (s.data.toList.drop m).take (k + 1 - m) := by
              have := hsn.out
              rw [← strV_data] at this
              unfold strV at this
              have := Value.string.inj this
              simpa using congrArg (fun x : ByteArray => x.data.toList) this
            rw [e] at hfin
            exact Lib.hid hfin
          have hbF : ¬ F b := by obtain ⟨_, _, ho⟩ := hfin; exact ho.inD.1
          have hu4 := Lib.hid ((HU.out.trans hu3 fun k _ hk => (HD1.out k hk).1).setCell (p := ⟨b, 1, none⟩) (fun _ => hbF) (.slice a3 (pd.length + 1) cc3))
          clear hrow3 hrow3' hg3 hfin hu3 hbl hbF
          go_wp2_with fail
          go_roundg (s.size - (k + 1))
          case rel => exact ⟨k + 1, k + 1, _, by simp, by simp; omega, rfl, by rw [Nat.sub_self, List.take_zero]; rfl, HI2.out, fun _ => rfl, by rw [List.length_append]; show _ + 1 ≤ _; have := HPL.out; omega, hfin2.out, hu4.out⟩
          case measure => omega
      · have HI2 := Lib.hid (HI.out.more (by rw [data_len]; exact hlt) (by omega))
        have hc1' : (((at_ : Int) + (k : Int) + 1) % 64 == 0) = false := by
          rw [beq_eq_false_iff_ne]; omega
        have hc2' : ((k : Int) == (s.size : Int) - 1) = false := by
          rw [beq_eq_false_iff_ne]; omega
        have HC := Lib.hid hc
        clear hc
        go_wp2_with fail
        go_roundg (s.size - (k + 1))
        case rel => exact ⟨k + 1, m, pd, by simp, rfl, rfl, hsn.out, HI2.out, fun e => absurd (.inr e) HC.out, by have := HPL.out; omega, h, hu⟩
        case measure => omega
    · have hke : k = s.size := by omega
      subst hke
      have hm : m = s.size := hend rfl
      have hfin := HI.out
      rw [← data_len s] at hfin
      have hpd := hfin.fin (by rw [data_len]; exact hm)
      go_wp2_with fail
      go_end0
      refine ⟨rfl, ?_, hu⟩
      rw [hpd] at h
      exact h
end Go.Proofs.Ythfnnkfdpnkodaa
