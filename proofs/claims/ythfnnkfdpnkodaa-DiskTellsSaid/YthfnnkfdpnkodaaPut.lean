/- disk.put: bytes laid into a slice of bytes at an offset. -/
import Derived.Test.YthfnnkfdpnkodaaChecked
import Derived.Test.YthfnnkfdpnkodaaMem
import Derived.Test.YthfnnkfdpnkodaaPlm
import Derived.WalkKit
import Derived.ProofKit
import Derived.BigQuiet
import Derived.Deep.QuietTactic
import Derived.Outline
import Derived.WalkLawsBesides
import Derived.Lib.Hide
namespace Go.Proofs.Ythfnnkfdpnkodaa
open Go.RowKit

theorem E51 : Elem Try.prog 51 5 1 1 := .of (z := .int .u8 0) (by kernel_rfl) (by kernel_rfl) (by kernel_rfl)
def bytesV (l : List UInt8) : List Value := l.map fun b => .int .u8 b.toNat

def putL (l : List UInt8) (at_ : Nat) (s : List UInt8) : List UInt8 := (l ++ List.replicate (at_ - l.length) 0).take at_ ++ (s ++ l.drop (at_ + s.length))

theorem bytesV_length (l : List UInt8) : (bytesV l).length = l.length := by simp [bytesV]
theorem byteCells_eq (s : ByteArray) : byteCells s = bytesV s.data.toList := rfl
theorem splice_map {α β : Type} (f : α → β) (L cs : List α) (o : Nat) : (splice L o cs).map f = splice (L.map f) o (cs.map f) := by simp [splice, List.map_take, List.map_drop]

theorem put_tail (l : List UInt8) (at_ n1 k : Nat) (s : List UInt8) (l1 : List UInt8) (h1 : l1 = l ++ List.replicate (at_ - l.length) 0) (hn : n1 = l1.length) (hk : Nat.min s.length (n1 - at_) = k) : splice l1 at_ (s.take k) ++ s.drop k = putL l at_ s := by
  subst h1
  have hl : n1 = l.length + (at_ - l.length) := by rw [hn]; simp
  unfold splice putL
  rw [List.append_assoc, List.append_assoc]
  congr 1
  rcases Nat.le_total s.length (n1 - at_) with h | h
  · have hk' : k = s.length := by rw [← hk]; exact Nat.min_eq_left h
    subst hk'
    simp only [List.take_length, List.drop_length, List.append_nil]
    congr 1
    by_cases hle : at_ ≤ l.length
    · rw [Nat.sub_eq_zero_of_le hle]; simp
    · have : s.length = 0 := by omega
      rw [List.drop_of_length_le (by simp; omega), List.drop_of_length_le (by omega)]
  · have hk' : k = n1 - at_ := by rw [← hk]; exact Nat.min_eq_right h
    have hln : (s.take k).length = k := by rw [List.length_take]; omega
    rw [List.drop_of_length_le (by rw [hln]; simp; omega), List.drop_of_length_le (i := at_ + s.length) (by omega)]
    simp

theorem putL_length (l : List UInt8) (at_ : Nat) (s : List UInt8) : (putL l at_ s).length = max l.length (at_ + s.length) := by
  unfold putL
  simp
  omega

theorem extract_drop (s : ByteArray) (k : Nat) : (s.extract k s.size).data.toList = s.data.toList.drop k := by
  rw [ByteArray.data_extract, Array.toList_extract, List.extract_eq_take_drop]
  exact List.take_of_length_le (by rw [List.length_drop, Array.length_toList]; exact Nat.le_refl _)


set_option maxHeartbeats 800000 in
theorem put_any (v : Value) (g : Option Nat) (l : List UInt8) (at_ : Nat) (s : ByteArray) (w : World) (hrow : Row w 5 1 v g l.length (bytesV l)) (ha : at_ ≤ 33554432) (hs : s.size ≤ 33554432) (hn : l.length ≤ 67108864) :
    Calls Try.prog 35 #[v, .int .i64 (at_ : Int), .string s] w fun e w' => ∃ (v' : Value) (g' : Option Nat), e = .returned v' ∧ Row w' 5 1 v' g' (putL l at_ s.data.toList).length (bytesV (putL l at_ s.data.toList)) ∧ (∀ b, g' = some b → g = some b ∨ w.heap.size ≤ b) ∧ Upd (fun k => g = some k) w w' := by
  obtain ⟨a, cap, rfl, hc1, hc2⟩ := hrow.form
  unfold maxLen at hc2
  have hsl : s.data.toList.length = s.size := by rw [Array.length_toList]; rfl
  by_cases hlt : l.length < at_
  · have h0 : (l.length : Int) < at_ := by omega
    obtain ⟨k, hk⟩ : ∃ k, Nat.min s.size (at_ - at_) = k := ⟨_, rfl⟩
    have hk1 : k ≤ s.size := hk ▸ Nat.min_le_left _ _
    have hk2 : (k : Int) ≤ s.size := by omega
    obtain ⟨l1, hl1⟩ : ∃ l1, l1 = l ++ List.replicate (at_ - l.length) 0 := ⟨_, rfl⟩
    obtain ⟨l2, hl2⟩ : ∃ l2, l2 = splice l1 at_ (s.data.toList.take k) := ⟨_, rfl⟩
    have htail := put_tail l at_ at_ k s.data.toList l1 hl1 (by rw [hl1]; simp; omega) (by rw [hsl]; exact hk)
    have HK := Lib.hid hk; clear hk
    have HT := Lib.hid htail; clear htail
    have HL := Lib.hid hl1; clear hl1
    have HL2 := Lib.hid hl2; clear hl2
    have HS := Lib.hid hsl; clear hsl
    go_enter Try.func35, Try.ntmps35
    go_wp2_with (at_builtin; refine wpList_append_zeros rfl (.tmp 12) (.tmp 16) 51 3 rfl .i64 (by kernel_rfl) 5 1 E51 (.int .u8 0) (by kernel_rfl) rfl _ g _ _ rfl hrow .i64 _ rfl (at_ - l.length) ?c1 ?c2 at_ ?c5 (bytesV l1) ?c6 ?c3 ?c4 ?_)
    case c1 => omega
    case c2 => omega
    case c5 => omega
    case c6 => rw [HL.out]; simp [bytesV]
    case c3 => simp [maxLen]; omega
    case c4 => omega
    intro v1 w1 g1 hrow1 hg1 hu1
    obtain ⟨a1, cap1, rfl, hd1, hd2⟩ := hrow1.form
    unfold maxLen at hd2
    go_wp2_with (first
      | (refine wpList_slice_from rfl (.tmp 18) (.tmp 19) 51 rfl 5 1 1 E51 _ _ _ rfl .i64 _ rfl at_ rfl ?s1 hd1 ?_)
      | (at_builtin; fail))
    case s1 => omega
    intro dp hdp
    have HD := Lib.hid hdp; clear hdp
    go_wp2_with (refine wpList_copy_string (o := ⟨some 22, _, _, _, _, _⟩) rfl (.tmp 20) (.tmp 21) 51 9 rfl 5 (by kernel_rfl) (by kernel_rfl) _ _ _ _ hrow1 dp _ _ at_ ?k1 ?k2 ?k3 s rfl rfl k HK.out (bytesV l2) ?k4 ?_)
    case k1 => omega
    case k2 => omega
    case k3 =>
      intro hlt
      obtain ⟨b, cap', hv, hg, _, _⟩ := Row.pos hrow1 (by omega)
      cases hv
      exact ⟨b, hg, by rw [HD.out (by omega)]; simp [Addr.add_lit]⟩
    case k4 => rw [HL2.out, byteCells_eq]; simp [bytesV, splice_map, List.map_take]
    intro w2 hrow2 hu2
    go_wp2_with (at_builtin; refine wpList_append_row rfl (.tmp 23) (.tmp 26) 51 9 rfl 5 1 1 E51 _ _ _ _ rfl hrow2 _ (s.size - k) (bytesV (s.data.toList.drop k)) rfl ?a1 (putL l at_ s.data.toList).length ?a2 (bytesV (putL l at_ s.data.toList)) ?a3 ?a4 ?a5 ?_)
    case a1 =>
      have hsz : (s.extract k s.size).size = s.size - k := by simp
      have := Src.ofString (P := Try.prog) w2 (tx := 9) (by kernel_rfl) (s.extract k s.size)
      rw [hsz, byteCells_eq, extract_drop] at this
      exact this
    case a2 => have h1 := HS.out; have h2 : min s.size (at_ - at_) = k := HK.out; rw [putL_length]; omega
    case a3 => rw [← HT.out]; simp [bytesV, HL2.out]
    case a4 => unfold maxLen; omega
    case a5 => omega
    intro v3 w3 g3 hrow3 hg3 hu3
    go_wp2
    go_ret
    refine ⟨v3, g3, rfl, hrow3, fun b hb => ?_, ?_⟩
    · have s1 := hu1.size
      have s2 := hu2.size
      rcases hg3.some hb with h | h
      · rcases hg1.some h with h | h
        · exact .inl h
        · exact .inr (by omega)
      · exact .inr (by omega)
    · exact (hu1.trans hu2 fun k hk h => (hg1.some h).resolve_right (by omega)).trans hu3 fun k hk h => (hg1.some h).resolve_right (by omega)
  · have h0 : (at_ : Int) ≤ l.length := by omega
    obtain ⟨k, hk⟩ : ∃ k, Nat.min s.size (l.length - at_) = k := ⟨_, rfl⟩
    have hk1 : k ≤ s.size := hk ▸ Nat.min_le_left _ _
    have hk2 : (k : Int) ≤ s.size := by omega
    obtain ⟨l2, hl2⟩ : ∃ l2, l2 = splice l at_ (s.data.toList.take k) := ⟨_, rfl⟩
    have htail := put_tail l at_ l.length k s.data.toList l (by rw [Nat.sub_eq_zero_of_le (by omega)]; simp) rfl (by rw [hsl]; exact hk)
    have HK := Lib.hid hk; clear hk
    have HT := Lib.hid htail; clear htail
    have HL2 := Lib.hid hl2; clear hl2
    have HS := Lib.hid hsl; clear hsl
    go_enter Try.func35, Try.ntmps35
    go_wp2_with (first
      | (refine wpList_slice_from rfl (.tmp 18) (.tmp 19) 51 rfl 5 1 1 E51 _ _ _ rfl .i64 _ rfl at_ rfl ?s1 hc1 ?_)
      | (at_builtin; fail))
    case s1 => omega
    intro dp hdp
    have HD := Lib.hid hdp; clear hdp
    go_wp2_with (refine wpList_copy_string (o := ⟨some 22, _, _, _, _, _⟩) rfl (.tmp 20) (.tmp 21) 51 9 rfl 5 (by kernel_rfl) (by kernel_rfl) _ _ _ _ hrow dp _ _ at_ ?k1 ?k2 ?k3 s rfl rfl k HK.out (bytesV l2) ?k4 ?_)
    case k1 => omega
    case k2 => omega
    case k3 =>
      intro hlt
      obtain ⟨b, cap', hv, hg, _, _⟩ := Row.pos hrow (by omega)
      cases hv
      exact ⟨b, hg, by rw [HD.out (by omega)]; simp [Addr.add_lit]⟩
    case k4 => rw [HL2.out, byteCells_eq]; simp [bytesV, splice_map, List.map_take]
    intro w2 hrow2 hu2
    go_wp2_with (at_builtin; refine wpList_append_row rfl (.tmp 23) (.tmp 26) 51 9 rfl 5 1 1 E51 _ _ _ _ rfl hrow2 _ (s.size - k) (bytesV (s.data.toList.drop k)) rfl ?a1 (putL l at_ s.data.toList).length ?a2 (bytesV (putL l at_ s.data.toList)) ?a3 ?a4 ?a5 ?_)
    case a1 =>
      have hsz : (s.extract k s.size).size = s.size - k := by simp
      have := Src.ofString (P := Try.prog) w2 (tx := 9) (by kernel_rfl) (s.extract k s.size)
      rw [hsz, byteCells_eq, extract_drop] at this
      exact this
    case a2 => have h1 := HS.out; have h2 : min s.size (l.length - at_) = k := HK.out; rw [putL_length]; omega
    case a3 => rw [← HT.out]; simp [bytesV, HL2.out]
    case a4 => unfold maxLen; omega
    case a5 => omega
    intro v3 w3 g3 hrow3 hg3 hu3
    go_wp2
    go_ret
    refine ⟨v3, g3, rfl, hrow3, fun b hb => ?_, ?_⟩
    · have s2 := hu2.size
      rcases hg3.some hb with h | h
      · exact .inl h
      · exact .inr (by omega)
    · exact hu2.trans hu3 fun k hk h => h
end Go.Proofs.Ythfnnkfdpnkodaa
