/- DiskArms walked. -/
import Derived.Test.YthfnnkfdpnkodaaArmPlain
namespace Go.Proofs.Ythfnnkfdpnkodaa
open Go.RowKit

/-- A slice of strings that is only read. -/
structure StrsAt (w : World) (v : Value) (l : List ByteArray) : Prop where
  form : ∃ a c, v = .slice a l.length c ∧ l.length ≤ 9223372036854775807
  cells : ∀ (a : Option Addr) (c : Nat), v = .slice a l.length c → ∀ (j : Nat) (hj : j < l.length), ∃ kb o, a = some ⟨kb, o, none⟩ ∧ w.cell? ⟨kb, o + j, none⟩ = some (.string l[j])

def strSum (l : List ByteArray) : Nat := (l.map fun s => s.size).sum

theorem strSum_snoc (l : List ByteArray) (k : Nat) (hk : k < l.length) : strSum (l.take (k + 1)) = strSum (l.take k) + l[k].size := by
  unfold strSum
  rw [List.take_succ_eq_append_getElem hk, List.map_append, List.sum_append]
  simp

theorem strSum_take (l : List ByteArray) (k : Nat) : strSum (l.take k) ≤ strSum l := by
  have h : strSum l = strSum (l.take k) + strSum (l.drop k) := by
    unfold strSum
    rw [← List.sum_append, ← List.map_append, List.take_append_drop]
  omega

theorem strSum_le (l : List ByteArray) (M : Nat) (h : ∀ a ∈ l, a.size ≤ M) : strSum l ≤ l.length * M := by
  induction l with
  | nil => simp [strSum]
  | cons a l ih =>
    have := ih (fun b hb => h b (List.mem_cons_of_mem _ hb))
    have := h a (List.mem_cons_self ..)
    unfold strSum at *
    simp only [List.map_cons, List.sum_cons, List.length_cons, Nat.add_mul, Nat.one_mul]
    omega

def SumRel (F : Nat → Prop) (b : Nat) (w0 : World) (l : List ByteArray) (n i : Value) (w : World) : Prop :=
  ∃ (k : Nat) (m : Int), i = .int .i64 k ∧ n = .int .i64 m ∧ k ≤ l.length ∧ (l.length ≤ 50 → m = (strSum (l.take k) : Nat)) ∧ At F b w0 st0 w

theorem sum_step {F : Nat → Prop} {b : Nat} {w0 w : World} {l : List ByteArray} {k : Nat} {m : Int} {S : ByteArray} (hlt : k < l.length) (hS : S = l[k]) (hm : l.length ≤ 50 → m = (strSum (l.take k) : Nat))
    (hall : ∀ a ∈ l, a.size ≤ 140737488355328) (h : At F b w0 st0 w) : SumRel F b w0 l (.int .i64 (wrap64 (m + (S.size : Int)))) (.int .i64 ((k : Int) + 1)) w := by
  rw [← IntWalk.i64_left]
  refine ⟨k + 1, _, by simp, rfl, hlt, fun h50 => ?_, h⟩
  have hmv := hm h50
  have hmb : strSum (l.take k) ≤ (l.take k).length * 140737488355328 := strSum_le _ _ fun a ha => hall a (List.mem_of_mem_take ha)
  have h3 : (l.take k).length ≤ 50 := by simp; omega
  have := Nat.mul_le_mul_right 140737488355328 h3
  have := hall S (hS ▸ List.getElem_mem hlt)
  rw [wrap_id _ (by omega) (by omega), strSum_snoc l k hlt, ← hS]
  omega

def ArmRel (F : Nat → Prop) (b : Nat) (w0 : World) (l : List ByteArray) (n : Nat) (ks : List Int) (safe rest calls i : Value) (w : World) : Prop :=
  ∃ (k c : Nat) (S R : ByteArray) (st : DSt), safe = .string S ∧ rest = .string R ∧ calls = .int .i64 c ∧ i = .int .i64 k ∧ k ≤ l.length ∧ S.size + R.size = strSum (l.take k) ∧ c ≤ n ∧ At F b w0 st w ∧ Fit st (strSum (l.take k)) ∧
    (ArmUp st S.data.toList R.data.toList c n ks ∨ ArmDown st S.data.toList R.data.toList ks)

theorem cat_list (a b : ByteArray) : (a ++ b).data.toList = a.data.toList ++ b.data.toList := by
  rw [ByteArray.data_append, Array.toList_append]

theorem arm_end {F : Nat → Prop} {b : Nat} {w0 w : World} {l : List ByteArray} {n : Nat} {ks : List Int} {k c : Nat} {S R A : ByteArray} {st : DSt} (hlt : k < l.length) (hA : A = l[k]) (hsz : S.size + R.size = strSum (l.take k)) (hc : c ≤ n) (h : At F b w0 st w)
    (hg : Fit st (strSum (l.take k) + A.data.toList.length)) {x : Int} (hx : x = (c : Int)) (hcase : ArmUp st S.data.toList (R.data.toList ++ A.data.toList) c n ks ∨ ArmDown st S.data.toList (R.data.toList ++ A.data.toList) ks) :
    ArmRel F b w0 l n ks (.string S) (.string (R ++ A)) (.int .i64 x) (.int .i64 ((k : Int) + 1)) w := by
  have hs := strSum_snoc l k hlt
  rw [← hA] at hs
  refine ⟨k + 1, c, S, R ++ A, st, rfl, rfl, by rw [hx], by simp, hlt, ?_, hc, h, ?_, ?_⟩
  · rw [hs, ← hsz]; simp; omega
  · rw [hs]; rw [data_len] at hg; exact hg
  · rw [cat_list]; exact hcase

theorem arm_end2 {F : Nat → Prop} {b : Nat} {w0 w : World} {l : List ByteArray} {n : Nat} {ks : List Int} {k c : Nat} {S R A : ByteArray} {st : DSt} (hlt : k < l.length) (hA : A = l[k]) (hsz : S.size + R.size = strSum (l.take k)) (hc : c ≤ n) (h : At F b w0 st w)
    (hg : Fit st (strSum (l.take k) + A.data.toList.length)) {x : Int} (hx : x = (c : Int)) (hcase : ArmUp st (S.data.toList ++ (R.data.toList ++ A.data.toList)) [] c n ks) :
    ArmRel F b w0 l n ks (.string (S ++ (R ++ A))) (.string ByteArray.empty) (.int .i64 x) (.int .i64 ((k : Int) + 1)) w := by
  have hs := strSum_snoc l k hlt
  rw [← hA] at hs
  refine ⟨k + 1, c, S ++ (R ++ A), ByteArray.empty, st, rfl, rfl, by rw [hx], by simp, hlt, ?_, hc, h, ?_, .inl ?_⟩
  · rw [hs, ← hsz]; simp; omega
  · rw [hs]; rw [data_len] at hg; exact hg
  · rw [cat_list, cat_list]; exact hcase


set_option maxRecDepth 100000 in
set_option maxHeartbeats 3200000 in
theorem arms_walk (F : Nat → Prop) (W : World) (hF : ∀ k, F k → k < W.heap.size) (hF' : ∀ k, k < W.heap.size → F k) (v : Value) (l : List ByteArray) (hl : StrsAt W v l) (hls : ∀ a ∈ l, a.size ≤ 140737488355328)
    (n : Int) (keep : Value) (ks : List Int) (kb : Nat) (hks : IntsAt W keep ks kb) (hnil : ∀ a c, keep = .slice a ks.length c → a = none → ks = []) (hkl : ks.length ≤ 17592186044416) :
    Calls Try.prog 4 #[v, .int .i64 n, keep] W fun e w' => e = .returned (.bool true) ∧ Upd (fun k => ¬ F k) W w' := by
  obtain ⟨lq, lc, rfl, hll⟩ := hl.form
  obtain ⟨kq, kc, rfl, hkll⟩ := hks.form
  have hHF := Lib.hid hF
  have hHF' := Lib.hid hF'
  have HL := Lib.hid hl
  have HLS := Lib.hid hls
  have HK := Lib.hid hks
  have HN := Lib.hid hnil
  clear hF hF' hl hls hks hnil
  go_enter Try.func4, Try.ntmps4
  go_wp2_with fail
  refine (small_at F W hHF.out).mono ?_
  rintro e w ⟨rfl, hu⟩
  go_wp2_with fail
  refine (at_new F w (fun k hk => Nat.lt_of_lt_of_le (hHF.out k hk) hu.size)).mono ?_
  rintro e w1 ⟨rfl, h⟩
  have h : At F w.heap.size W st0 w1 := ⟨h.1, h.2.1, hu.trans h.2.2 fun _ _ h => h⟩
  obtain ⟨b, hb⟩ : ∃ b, b = w.heap.size := ⟨_, rfl⟩
  rw [← hb] at h ⊢
  clear hb hu
  have h0 : Hid (SumRel F b W l (.int .i64 0) (.int .i64 0) w1) := ⟨0, 0, rfl, rfl, Nat.zero_le _, fun _ => by simp [strSum], h⟩
  clear h
  go_wp2
  go_loopw [9, 10] (fun n i w' => SumRel F b W l n i w') (fun _ i _ => l.length - (intOf i).toNat)
  case atStart => exact h0.out
  case round =>
    clear h0
    obtain ⟨k, m, rfl, rfl, hk, hm, h⟩ := hrel
    have HM := Lib.hid hm; clear hm
    by_cases hlt : k < l.length
    · obtain ⟨lb, o, rfl, hcs⟩ := HL.out.cells lq lc rfl k hlt
      have hcs' := h.cell hcs (hHF'.out lb (World.block_lt_of_cell? W _ hcs))
      obtain ⟨S, hS⟩ : ∃ S, S = l[k] := ⟨_, rfl⟩
      rw [← hS] at hcs'
      have hS2 : S.size ≤ 140737488355328 := HLS.out S (hS ▸ List.getElem_mem hlt)
      have HS := Lib.hid hS
      clear hcs hS
      go_wp2
      go_roundw
      case rel => exact sum_step hlt HS.out HM.out HLS.out h
      case measure => simp [intOf]; omega
    · have hke : k = l.length := by omega
      subst hke
      rw [List.take_length] at HM
      clear hlt hk
      by_cases b1 : 50 < l.length
      · go_wp2
        go_ret
        exact ⟨rfl, h.2.2⟩
      have hmv := HM.out (by omega)
      by_cases b2 : 20000 < m
      · clear hmv
        go_wp2
        go_ret
        exact ⟨rfl, h.2.2⟩
      by_cases b3 : n < 1
      · clear hmv
        go_wp2
        go_ret
        exact ⟨rfl, h.2.2⟩
      by_cases b4 : 100 < n
      · clear hmv
        go_wp2
        go_ret
        exact ⟨rfl, h.2.2⟩
      by_cases b5 : 1000 < ks.length
      · clear hmv
        go_wp2
        go_ret
        exact ⟨rfl, h.2.2⟩
      have hsum : Hid (strSum l ≤ 20000) := by show strSum l ≤ 20000; omega
      clear hmv
      obtain ⟨n', rfl⟩ := Int.eq_ofNat_of_zero_le (show 0 ≤ n by omega)
      have hks : IntsAt _ _ _ _ := HK.out.upd h.2.2 (fun hne hn => hn (hHF'.out kb (HK.out.lt (List.length_pos_iff.2 hne))))
      have HKS := Lib.hid hks; clear hks
      go_wp2_with fail
      refine (at_arm h n' _ ks kb HKS.out HN.out hkl).mono ?_; clear h HKS
      rintro e w2 ⟨rfl, h⟩
      have h0 : Hid (ArmRel F b W l n' ks (.string ByteArray.empty) (.string ByteArray.empty) (.int .i64 0) (.int .i64 0) w2) :=
        ⟨0, 0, ByteArray.empty, ByteArray.empty, _, rfl, rfl, rfl, rfl, Nat.zero_le _, by simp [strSum], Nat.zero_le _, h, (fit0.arm (by omega) (by omega)).mono (Nat.zero_le _), .inl (armUp0 n' (by omega) ks)⟩
      clear h
      go_wp2
      go_loopw [11, 12, 13, 14] (fun s r c i w' => ArmRel F b W l n' ks s r c i w') (fun _ _ _ i _ => l.length - (intOf i).toNat)
      case atStart => exact h0.out
      case round =>
        clear h0
        obtain ⟨k, c, S, R, st, rfl, rfl, rfl, rfl, hk, hsz, hc, h, hg, hcase⟩ := hrel
        have htk := strSum_take l k
        have hsum2 := hsum.out
        have hSs : S.size ≤ 20000 := by omega
        have hRs : R.size ≤ 20000 := by omega
        have hSR : S.size + R.size ≤ 20000 := by omega
        have HSZ := Lib.hid hsz
        have HG := Lib.hid (hg.mono (show strSum (l.take k) ≤ 20000 by omega))
        have HGk := Lib.hid hg
        have hsl := data_len S
        have hrl := data_len R
        have HSL := Lib.hid hsl
        have HRL := Lib.hid hrl
        clear hg hsz htk hsum2 hsl hrl
        rcases hcase with hup | hdn
        · have HUP := Lib.hid hup
          have hcn : c < n' := by have := hup.armed; have := hup.pos; omega
          have hdown := hup.down
          clear hup
          by_cases hlt : k < l.length
          · obtain ⟨lb, o, rfl, hcs⟩ := HL.out.cells lq lc rfl k hlt
            obtain ⟨A, hA⟩ : ∃ A, A = l[k] := ⟨_, rfl⟩
            rw [← hA] at hcs
            have HFL := Lib.hid (hHF'.out lb (World.block_lt_of_cell? W _ hcs))
            have HCS := Lib.hid hcs
            have HAA := Lib.hid hA
            have hAs : A.size ≤ 20000 := by
              have := strSum_snoc l k hlt
              have := strSum_take l (k + 1)
              have := hsum.out
              rw [← hA] at *
              omega
            have hRA : R.size + A.size ≤ 20000 ∧ S.size + R.size + A.size ≤ 20000 := by
              have := strSum_snoc l k hlt
              have := strSum_take l (k + 1)
              have := hsum.out
              have := HSZ.out
              rw [← hA] at *
              omega
            clear hcs hA
            have c0 := h.cell HCS.out HFL.out
            go_wp2_with fail
            refine (at_eq3 (Q := fun w st => At F b W st w) (at_down h) (v' := .bool false) (by rw [hdown])).mono ?_; clear h c0
            rintro e w3 ⟨rfl, h⟩
            have c0 := h.cell HCS.out HFL.out
            have hw := HUP.out.write A.data.toList (by rw [HSL.out, HRL.out, data_len]; omega)
            rw [HSL.out, HRL.out] at hw
            have HFW := Lib.hid (HGk.out.doWrite 0 ((S.size : Int) + R.size) A.data.toList)
            have HW := Lib.hid hw
            clear hw hdown
            obtain ⟨X, hX⟩ : ∃ X, X = st.doWrite 0 ((S.size : Int) + R.size) A.data.toList := ⟨_, rfl⟩
            rw [← hX] at HW HFW
            have hRAs : (R ++ A).size ≤ 20000 := by simp; omega
            have hSRA : S.size + (R ++ A).size ≤ 20000 := by simp; omega
            go_wp2_with fail
            by_cases hfire : c + 1 = n'
            · obtain ⟨hr8, hdn⟩ := HW.out.1 hfire
              have HDN := Lib.hid hdn
              have HR8 := Lib.hid hr8
              have hfi : (c : Int) + 1 = (n' : Int) := by omega
              clear hdn hr8
              refine (at_eq2 (Q := fun w st => At F b W st w) (at_write h HG.out (by omega) 0 ((S.size : Int) + R.size) A (by omega)) (n := 8) (st' := X.2) (by rw [← hX]; exact Prod.ext HR8.out rfl) (i := 8) rfl).mono ?_; clear h c0
              rintro e w4 ⟨rfl, h⟩
              have c0 := h.cell HCS.out HFL.out
              by_cases hpar : (k : Int).tmod 2 = 1
              · go_wp2_with fail
                refine (at_eq3 (Q := fun w st => At F b W st w) (at_down h) (v' := .bool true) (by rw [HDN.out.down])).mono ?_; clear h c0
                rintro e w5 ⟨rfl, h⟩
                go_wp2
                go_roundw
                case rel => exact arm_end hlt HAA.out HSZ.out (c := c + 1) (by omega) h HFW.out (by omega) (.inr HDN.out)
                case measure => simp [intOf]; omega
              · go_wp2
                go_roundw
                case rel => exact arm_end hlt HAA.out HSZ.out (c := c + 1) (by omega) h HFW.out (by omega) (.inr HDN.out)
                case measure => simp [intOf]; omega
            · obtain ⟨hr0, hup⟩ := HW.out.2 (by omega)
              have HU2 := Lib.hid hup
              have HR0 := Lib.hid hr0
              have hfi : ¬ ((c : Int) + 1 = (n' : Int)) := by omega
              have hfi2 : (c : Int) + 1 < (n' : Int) := by omega
              clear hup hr0
              refine (at_eq2 (Q := fun w st => At F b W st w) (at_write h HG.out (by omega) 0 ((S.size : Int) + R.size) A (by omega)) (n := 0) (st' := X.2) (by rw [← hX]; exact Prod.ext HR0.out rfl) (i := 0) rfl).mono ?_; clear h c0
              rintro e w4 ⟨rfl, h⟩
              have c0 := h.cell HCS.out HFL.out
              by_cases hpar : (k : Int).tmod 2 = 1
              · have hfl := Lib.hid HU2.out.flush
                have HFF := Lib.hid (HFW.out.flush 0)
                obtain ⟨Y, hY⟩ : ∃ Y, Y = X.2.flush 0 := ⟨_, rfl⟩
                rw [← hY] at hfl HFF
                have HY := Lib.hid hY
                clear hY
                go_wp2_with fail
                refine (at_eq3 (Q := fun w st => At F b W st w) (at_down h) (v' := .bool false) (by rw [HU2.out.down])).mono ?_; clear h c0
                rintro e w5 ⟨rfl, h⟩
                have c0 := h.cell HCS.out HFL.out
                go_wp2_with fail
                by_cases hfire2 : c + 1 + 1 = n'
                · obtain ⟨hr8, hdn⟩ := hfl.out.1 hfire2
                  have HDN := Lib.hid hdn
                  have HR8 := Lib.hid hr8
                  have hfi3 : (c : Int) + 1 + 1 = (n' : Int) := by omega
                  clear hdn hr8
                  refine (at_eq2 (Q := fun w st => At F b W st w) (at_flush h HFW.out 0) (n := 8) (st' := Y.2) (by rw [← HY.out]; exact Prod.ext HR8.out rfl) (i := 8) rfl).mono ?_; clear h c0
                  rintro e w6 ⟨rfl, h⟩
                  go_wp2
                  go_roundw
                  case rel => exact arm_end hlt HAA.out HSZ.out (c := c + 1 + 1) (by omega) h HFF.out (by omega) (.inr HDN.out)
                  case measure => simp [intOf]; omega
                · obtain ⟨hr0, hup⟩ := hfl.out.2 (by omega)
                  have HU3 := Lib.hid hup
                  have HR0' := Lib.hid hr0
                  have hfi3 : ¬ ((c : Int) + 1 + 1 = (n' : Int)) := by omega
                  have hfi4 : (c : Int) + 1 + 1 < (n' : Int) := by omega
                  clear hup hr0
                  refine (at_eq2 (Q := fun w st => At F b W st w) (at_flush h HFW.out 0) (n := 0) (st' := Y.2) (by rw [← HY.out]; exact Prod.ext HR0'.out rfl) (i := 0) rfl).mono ?_; clear h c0
                  rintro e w6 ⟨rfl, h⟩
                  go_wp2
                  go_roundw
                  case rel => exact arm_end2 hlt HAA.out HSZ.out (c := c + 1 + 1) (by omega) h HFF.out (by omega) HU3.out
                  case measure => simp [intOf]; omega
              · go_wp2
                go_roundw
                case rel => exact arm_end hlt HAA.out HSZ.out (c := c + 1) (by omega) h HFW.out (by omega) (.inl HU2.out)
                case measure => simp [intOf]; omega
          · have hke : k = l.length := by omega
            subst hke
            have hrd := HUP.out.read
            clear hlt hcn
            have hcn := hrd.2
            have hcn' : (c : Int) < (n' : Int) := by omega
            have HRD := Lib.hid hrd.1
            clear hrd
            go_wp2_with fail
            refine (at_eq3 (Q := fun w st => At F b W st w) (at_down h) (v' := .bool false) (by rw [hdown])).mono ?_; clear h
            rintro e w3 ⟨rfl, h⟩
            go_wp2_with fail
            refine (at_eq3 (Q := fun w st => At F b W st w) (at_read h HG.out 0) (v' := .tuple #[.string (S ++ R), .int .i64 0]) (by rw [HRD.out]; show Value.tuple #[strV (S.data.toList ++ R.data.toList), _] = _; rw [← cat_list, strV_data]; rfl)).mono ?_; clear h
            rintro e w4 ⟨rfl, h⟩
            go_wp2
            go_ret
            exact ⟨rfl, h.2.2⟩
        · have HDN := Lib.hid hdn
          have hdown := hdn.down
          clear hdn
          obtain ⟨r, hr1, hr2, hr3⟩ := HDN.out.read
          obtain ⟨T, hT⟩ : ∃ T : ByteArray, T.data.toList = r := ⟨⟨r.toArray⟩, rfl⟩
          have hT1 : S.size ≤ T.size := by rw [← data_len S, ← data_len T, hT]; exact hr2.2.1
          have hT2 : T.size ≤ S.size + R.size := by rw [← data_len S, ← data_len R, ← data_len T, hT]; exact hr2.2.2
          have hT3 : T.extract 0 S.size = S := by
            have h1 := hr2.1
            rw [← hT, data_len] at h1
            apply ByteArray.ext
            apply Array.toList_inj.1
            rw [ByteArray.data_extract, Array.toList_extract, List.extract_eq_take_drop]
            simpa using h1
          have hT4 : ks = [] → T = S := fun hk0 => by
            have := hr3 hk0
            rw [← hT] at this
            apply ByteArray.ext
            exact Array.toList_inj.1 this
          have HT4 := Lib.hid hT4
          have HR1 := Lib.hid hr1
          have HT := Lib.hid hT
          clear hr1 hr2 hr3 hT hT4
          by_cases hlt : k < l.length
          · go_wp2_with fail
            refine (at_eq3 (Q := fun w st => At F b W st w) (at_down h) (v' := .bool true) (by rw [hdown])).mono ?_; clear h
            rintro e w3 ⟨rfl, h⟩
            go_wp2_with fail
            refine (at_eq3 (Q := fun w st => At F b W st w) (at_down h) (v' := .bool true) (by rw [hdown])).mono ?_; clear h
            rintro e w4 ⟨rfl, h⟩
            go_wp2_with fail
            refine (at_start h).mono ?_; clear h
            rintro e w5 ⟨rfl, h⟩
            go_wp2_with fail
            refine (at_eq3 (Q := fun w st => At F b W st w) (at_read h HG.out.start 0) (v' := .tuple #[.string T, .int .i64 0]) (by rw [HR1.out, ← HT.out, strV_data]; rfl)).mono ?_; clear h
            rintro e w6 ⟨rfl, h⟩
            by_cases hk0 : 0 < ks.length
            · go_wp2
              go_ret
              exact ⟨rfl, h.2.2⟩
            · have hTS : T = S := HT4.out (List.eq_nil_of_length_eq_zero (by omega))
              subst hTS
              have hk1 : ks.length = 0 := by omega
              go_wp2
              go_ret
              exact ⟨rfl, h.2.2⟩
          · have hke : k = l.length := by omega
            subst hke
            clear hlt
            go_wp2_with fail
            refine (at_eq3 (Q := fun w st => At F b W st w) (at_down h) (v' := .bool true) (by rw [hdown])).mono ?_; clear h
            rintro e w4 ⟨rfl, h⟩
            go_wp2_with fail
            refine (at_start h).mono ?_; clear h
            rintro e w5 ⟨rfl, h⟩
            go_wp2_with fail
            refine (at_eq3 (Q := fun w st => At F b W st w) (at_read h HG.out.start 0) (v' := .tuple #[.string T, .int .i64 0]) (by rw [HR1.out, ← HT.out, strV_data]; rfl)).mono ?_; clear h
            rintro e w6 ⟨rfl, h⟩
            by_cases hk0 : 0 < ks.length
            · go_wp2
              go_ret
              exact ⟨rfl, h.2.2⟩
            · have hTS : T = S := HT4.out (List.eq_nil_of_length_eq_zero (by omega))
              subst hTS
              have hk1 : ks.length = 0 := by omega
              go_wp2
              go_ret
              exact ⟨rfl, h.2.2⟩
end Go.Proofs.Ythfnnkfdpnkodaa
