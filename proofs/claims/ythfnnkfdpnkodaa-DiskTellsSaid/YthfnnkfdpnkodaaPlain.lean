/- What the pieces of a write do to a file. -/
import Derived.Test.YthfnnkfdpnkodaaFit
namespace Go.Proofs.Ythfnnkfdpnkodaa
open Go.RowKit

theorem putL_get (l : List UInt8) (a : Nat) (s : List UInt8) (i : Nat) :
    (putL l a s)[i]? = if i < a then (if i < l.length then l[i]? else some 0) else if i < a + s.length then s[i - a]? else l[i]? := by
  unfold putL
  have hl : ((l ++ List.replicate (a - l.length) 0).take a).length = a := by simp; omega
  by_cases h1 : i < a
  · rw [List.getElem?_append_left (by omega), List.getElem?_take_of_lt h1, if_pos h1]
    by_cases h2 : i < l.length
    · rw [List.getElem?_append_left h2, if_pos h2]
    · rw [List.getElem?_append_right (by omega), if_neg h2, List.getElem?_replicate, if_pos (by omega)]
  · rw [List.getElem?_append_right (by omega), if_neg h1, hl]
    by_cases h2 : i < a + s.length
    · rw [List.getElem?_append_left (by omega), if_pos h2]
    · rw [List.getElem?_append_right (by omega), if_neg h2, List.getElem?_drop, show a + s.length + (i - a - s.length) = i by omega]

theorem putL_putL (l : List UInt8) (a n : Nat) (s : List UInt8) (hn : n ≤ s.length) : putL (putL l a (s.take n)) (a + n) (s.drop n) = putL l a s := by
  apply List.ext_getElem?
  intro i
  have ht : (s.take n).length = n := by simp; omega
  have hd : (s.drop n).length = s.length - n := by simp
  rw [putL_get, putL_get l a s, putL_length, putL_get, ht, hd]
  by_cases h1 : i < a
  · rw [if_pos (by omega), if_pos (by omega), if_pos h1, if_pos h1]
  · rw [if_neg h1, if_neg h1]
    by_cases h2 : i < a + n
    · rw [if_pos h2, if_pos (by omega), if_pos h2, if_pos (by omega), List.getElem?_take_of_lt (by omega)]
    · rw [if_neg h2, if_neg h2]
      by_cases h3 : i < a + s.length
      · rw [if_pos (by omega), if_pos h3, List.getElem?_drop, show n + (i - (a + n)) = i - a by omega]
      · rw [if_neg (by omega), if_neg h3]

theorem applyP_cons (f : Nat) (p : Pc) (ps : List Pc) (l : List UInt8) : applyP f (p :: ps) l = applyP f ps (if p.f = f then putL l p.at_ p.s else l) := rfl

theorem apply_piecesF (f : Nat) : ∀ (n a : Nat) (s l : List UInt8), s.length ≤ n → applyP f (piecesF f n a s) l = if s = [] then l else putL l a s
  | 0, a, s, l, h => by
    have : s = [] := List.eq_nil_of_length_eq_zero (by omega)
    subst this; rfl
  | n + 1, a, s, l, h => by
    rw [piecesF_succ]
    by_cases hs : s = []
    · rw [if_pos hs, if_pos hs]; rfl
    · rw [if_neg hs, if_neg hs, applyP_cons, if_pos rfl]
      have hl : 0 < s.length := List.length_pos_iff.2 hs
      have hm : 0 < 64 - a % 64 := by omega
      obtain ⟨m, hmm⟩ : ∃ m, m = min s.length (64 - a % 64) := ⟨_, rfl⟩
      rw [← hmm]
      have hm1 : m ≤ s.length := by omega
      have hm0 : 0 < m := by omega
      rw [apply_piecesF f n (a + m) (s.drop m) _ (by simp; omega)]
      by_cases hd : s.drop m = []
      · rw [if_pos hd]
        have : s.length ≤ m := by simpa using hd
        show putL l a (s.take m) = _
        rw [List.take_of_length_le this]
      · rw [if_neg hd]
        exact putL_putL l a m s hm1

theorem apply_pieces (f a : Nat) (s l : List UInt8) : applyP f (pieces f a s) l = if s = [] then l else putL l a s := apply_piecesF f _ a s l (Nat.le_refl _)

theorem putL_nil (s : List UInt8) : putL [] 0 s = s := by simp [putL]

theorem crashN_nil (ps : List Pc) (d : Nat → List UInt8) (n : Nat) : crashN ps [] d n = d := by
  have := crashN_stop (ps := ps) (ks := []) d (k := 0) (Nat.zero_le _) n
  rw [Nat.zero_add] at this
  exact this

theorem keepP_pieces (f a : Nat) (s : List UInt8) : keepP f (pieces f a s) = [] := by
  unfold keepP
  rw [List.filter_eq_nil_iff]
  intro p hp
  have := (piecesF_good (f := f) _ _ _ p hp).1
  simp [this]

/-! ### DiskLoses -/
def ls (s : List UInt8) (k : Nat) : DSt := { st0.wrote 0 0 s with lost := k }

theorem ls_write (n : Int) (s : List UInt8) (hs : s.length ≤ 50000) : (st0.lose n).doWrite 0 0 s = (0, ls s n.toNat) := by
  have h1 : (st0.lose n).fires = false := rfl
  have h2 : (st0.lose n).tick = st0.lose n := rfl
  unfold DSt.doWrite DSt.write
  rw [h1, h2, if_neg (by simp), show (st0.lose n).down = false from rfl, if_neg (by simp), if_neg (by omega), if_neg (by omega), if_neg (by omega)]
  rfl

theorem ls_fit (s : List UInt8) (k : Nat) (hs : s.length ≤ 50000) (hk : k ≤ 1000) : Fit (ls s k) 50000 := by
  have h := (fit0.lose (m := (k : Int)) (by omega)).doWrite 0 0 s
  rw [ls_write _ s hs] at h
  have h' : Fit (ls s (k : Int).toNat) (0 + s.length) := h
  rw [Int.toNat_natCast] at h'
  exact h'.mono (by omega)

theorem ls_flush (s : List UInt8) (k : Nat) : (ls s (k + 1)).flush 0 = (9, ls s k) := by
  unfold DSt.flush
  rw [show (ls s (k + 1)).pre = ls s (k + 1) from rfl, if_neg (by simp [ls, DSt.wrote, st0]), if_neg (by omega), if_pos (show 0 < (ls s (k + 1)).lost from Nat.succ_pos k)]
  rfl

theorem ls_lost (s : List UInt8) (k : Nat) : ((ls s k).doCrash []).start.read 0 = ([], 0) := by
  unfold DSt.doCrash
  rw [show (ls s k).down = false from rfl, if_neg (by simp)]
  unfold DSt.read
  rw [if_neg (by simp [DSt.start]), if_neg (by unfold bad; omega)]
  show (applyP 0 [] (crashN (ls s k).pend [] (fun _ => []) _ 0), 0) = _
  rw [crashN_nil]
  rfl

theorem ls_last (s : List UInt8) : ((ls s 0).flush 0).1 = 0 ∧ (((ls s 0).flush 0).2.doCrash []).start.read 0 = (s, 0) := by
  have h : (ls s 0).flush 0 = (0, (ls s 0).settle 0) := by
    unfold DSt.flush
    rw [show (ls s 0).pre = ls s 0 from rfl, if_neg (by simp [ls, DSt.wrote, st0]), if_neg (by omega), if_neg (by simp [ls])]
    rfl
  rw [h]
  refine ⟨rfl, ?_⟩
  unfold DSt.doCrash
  rw [show ((ls s 0).settle 0).down = false from rfl, if_neg (by simp)]
  unfold DSt.read
  rw [if_neg (by simp [DSt.start]), if_neg (by unfold bad; omega)]
  show (applyP 0 [] (crashN ((ls s 0).settle 0).pend [] ((ls s 0).settle 0).dur _ 0), 0) = _
  rw [crashN_nil, settle_dur]
  show (applyP 0 (pieces 0 0 s) [], 0) = _
  rw [apply_pieces]
  by_cases hs : s = []
  · rw [if_pos hs, hs]
  · rw [if_neg hs, putL_nil]
end Go.Proofs.Ythfnnkfdpnkodaa
