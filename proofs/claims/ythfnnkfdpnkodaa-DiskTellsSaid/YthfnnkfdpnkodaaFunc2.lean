/- slices.ContainsFunc and slices.DeleteFunc at pending writes. -/
import Derived.Test.YthfnnkfdpnkodaaFunc
namespace Go.Proofs.Ythfnnkfdpnkodaa
open Go.RowKit

set_option maxHeartbeats 800000 in
theorem contains_any (c : Nat) (hclo : Clo c) (bx f : Nat) (v : Value) (g : Option Nat) (ps : List Pc) (w : World) (hrow : Row w 60 3 v g ps.length (pendV ps)) (hl : ps.length ≤ 9223372036854775807) (hbx : w.cell? ⟨bx, 0, none⟩ = some (.int .i64 (f : Int))) (hbl : bx < w.heap.size) :
    Calls Try.prog 52 #[v, .func (.func c) #[] #[.pointer (some ⟨bx, 0, none⟩)]] w fun e w' =>
      e = .returned (.bool (decide (∃ p ∈ ps, p.f = f))) ∧ Upd (fun _ => False) w w' := by
  go_enter Try.func52, Try.ntmps52
  go_wp2_with fail
  refine (index_any c hclo bx f v g ps w hrow hbx hbl).mono ?_
  rintro e w1 (⟨k, hk, rfl, hp, _, hu⟩ | ⟨rfl, hno, hu⟩)
  · have hd := Lib.hid (show decide (∃ p ∈ ps, p.f = f) = true from decide_eq_true ⟨_, List.getElem_mem hk, hp⟩)
    clear hp
    go_wp2
    go_ret
    exact ⟨by rw [hd.out]; rfl, hu⟩
  · have hd := Lib.hid (show decide (∃ p ∈ ps, p.f = f) = false from decide_eq_false fun ⟨p, h1, h2⟩ => hno p h1 h2)
    clear hno
    go_wp2
    go_ret
    exact ⟨by rw [hd.out]; rfl, hu⟩

def keepP (f : Nat) (ps : List Pc) : List Pc := ps.filter fun p => decide (p.f ≠ f)

theorem pendV_set : ∀ (ps : List Pc) (i : Nat) (p : Pc), ((((pendV ps).set (i * 3) (.int .i64 p.f)).set (i * 3 + 1) (.int .i64 p.at_)).set (i * 3 + 2) (strV p.s)) = pendV (ps.set i p)
  | [], i, p => by simp [pendV]
  | q :: ps, 0, p => by simp [pendV, Pc.cells]
  | q :: ps, i + 1, p => by
    have := pendV_set ps i p
    simp only [pendV, List.flatMap_cons, List.set_cons_succ] at *
    rw [← this]
    simp only [show (i + 1) * 3 = i * 3 + 3 by omega, show i * 3 + 3 + 1 = (i * 3 + 1) + 3 by omega, show i * 3 + 3 + 2 = (i * 3 + 2) + 3 by omega]
    simp [Pc.cells]

theorem pendV_take : ∀ (ps : List Pc) (i : Nat), (pendV ps).take (i * 3) = pendV (ps.take i)
  | [], i => by simp [pendV]
  | q :: ps, 0 => by simp [pendV]
  | q :: ps, i + 1 => by
    have := pendV_take ps i
    simp only [pendV, List.flatMap_cons, List.take_succ_cons] at *
    rw [← this, show (i + 1) * 3 = i * 3 + 3 by omega]
    simp [Pc.cells]

def DelRel (f : Nat) (w : World) (v : Value) (g : Option Nat) (ps : List Pc) (i j : Value) (wr : World) : Prop :=
  ∃ (i' j' : Nat) (ys : List Pc), i = .int .i64 i' ∧ j = .int .i64 j' ∧ Row wr 60 3 v g ps.length (pendV ys) ∧ ys.length = ps.length ∧ i' < j' ∧ j' ≤ ps.length ∧ ys.take i' = keepP f (ps.take j') ∧ ys.drop j' = ps.drop j' ∧ Upd (fun k => g = some k) w wr

theorem keepP_none {f : Nat} {ps : List Pc} (h : ∀ p ∈ ps, p.f ≠ f) : keepP f ps = ps := List.filter_eq_self.2 fun p hp => by simpa using h p hp
theorem keepP_snoc (f : Nat) (ps : List Pc) (j : Nat) (hj : j < ps.length) : keepP f (ps.take (j + 1)) = keepP f (ps.take j) ++ if ps[j].f = f then [] else [ps[j]] := by
  rw [List.take_succ_eq_append_getElem hj]
  unfold keepP
  rw [List.filter_append]
  congr 1
  by_cases h : ps[j].f = f <;> simp [h]

set_option maxHeartbeats 1600000 in
theorem delete_any (c : Nat) (hclo : Clo c) (bx f : Nat) (v : Value) (g : Option Nat) (ps : List Pc) (w : World) (hrow : Row w 60 3 v g ps.length (pendV ps)) (hbx : w.cell? ⟨bx, 0, none⟩ = some (.int .i64 (f : Int))) (hbl : bx < w.heap.size) (hbg : g ≠ some bx) :
    Calls Try.prog 62 #[v, .func (.func c) #[] #[.pointer (some ⟨bx, 0, none⟩)]] w fun e w' =>
      ∃ v', e = .returned v' ∧ Row w' 60 3 v' g (keepP f ps).length (pendV (keepP f ps)) ∧ Upd (fun k => g = some k) w w' := by
  obtain ⟨a, cap, rfl, hc1, hc2⟩ := hrow.form
  unfold maxLen at hc2
  go_enter Try.func62, Try.ntmps62
  go_wp2_with fail
  refine (index_any c hclo bx f _ g ps w hrow hbx hbl).mono ?_
  rintro e w1 (⟨k, hk, rfl, hp, hno, hu⟩ | ⟨rfl, hno, hu⟩)
  · have hk0 : ((k : Int) == -1) = false := beq_eq_false_iff_ne.2 (by omega)
    obtain ⟨ab, cap', hv, rfl, _, _⟩ := hrow.pos (by omega)
    cases hv
    have h0 := Lib.hid (show DelRel f w (.slice (some ⟨ab, 0, none⟩) ps.length cap) (some ab) ps (.int .i64 (k : Int)) (.int .i64 ((k : Int) + 1)) w1 from
      ⟨k, k + 1, ps, rfl, by simp, hrow.upd hu (fun _ _ h => h), rfl, by omega, by omega, by
        rw [keepP_snoc f ps k hk, if_pos hp, List.append_nil, keepP_none]
        intro p hp'
        obtain ⟨j, hj, rfl⟩ := List.getElem_of_mem hp'
        rw [List.getElem_take]
        exact hno j _ (by simp at hj; omega), rfl, hu.mono (fun _ _ h => h.elim)⟩)
    clear hp hno
    go_wp2
    go_loopw [5, 6] (fun i j wr => DelRel f w (.slice (some ⟨ab, 0, none⟩) ps.length cap) (some ab) ps i j wr) (fun _ j _ => ps.length - (intOf j).toNat)
    case atStart => exact h0.out
    case round =>
      clear h0 hu
      obtain ⟨i, j, ys, rfl, rfl, hry, hyl, hij, hj, htk, hdr, hu⟩ := hrel
      by_cases hlt : j < ps.length
      · have hsz := hu.size
        have hrz : Row wr 60 3 (.slice (some ⟨ab, 0, none⟩) ys.length cap) (some ab) ys.length (pendV ys) := hyl ▸ hry
        obtain ⟨h1, h2, h3⟩ := hrz.pcell (k := j) (by omega)
        have hyj : ys[j]'(by omega) = ps[j] := by
          have e1 : (ys.drop j)[0]? = (ps.drop j)[0]? := by rw [hdr]
          simp only [List.getElem?_drop, Nat.add_zero] at e1
          rw [List.getElem?_eq_getElem (by omega), List.getElem?_eq_getElem hlt] at e1
          exact Option.some.inj e1
        rw [hyj] at h1 h2 h3
        unfold strV at h3
        have hent := hclo.enter
        have hbx' : wr.cell? ⟨bx, 0, none⟩ = some (.int .i64 (f : Int)) := by rw [World.cell?_of_block (w := w) (hu.block bx hbl hbg)]; exact hbx
        have hbl' : bx < wr.heap.size := by omega
        have hsay := Lib.hid (hclo.says bx f ps[j].f ps[j].at_ ⟨ps[j].s.toArray⟩ (wr.alloc (.cells #[.int .i64 (ps[j].f : Int), .int .i64 (ps[j].at_ : Int), .string ⟨ps[j].s.toArray⟩] 60)) (by rw [World.cell?_alloc_past _ _ _ hbl']; exact hbx') (by simp; omega))
        have hboxx := Lib.hid (Blk.newA wr #[.int .i64 (ps[j].f : Int), .int .i64 (ps[j].at_ : Int), .string ⟨ps[j].s.toArray⟩] 60)
        have hux := Lib.hid (hu.alloc (.cells #[.int .i64 (ps[j].f : Int), .int .i64 (ps[j].at_ : Int), .string ⟨ps[j].s.toArray⟩] 60))
        clear hyj
        have HT := Lib.hid htk; clear htk
        have HD := Lib.hid hdr; clear hdr
        have HL := Lib.hid hyl; clear hyl
        by_cases hp : ps[j].f = f
        · have hp1 : ((ps[j].f : Int) == (f : Int)) = true := by simp [hp]
          rw [hp1] at hsay
          have HP := Lib.hid hp; clear hp
          go_wp2_with fail
          refine hsay.out.mono ?_
          rintro e w2 ⟨rfl, hu2⟩
          have hry2 := Lib.hid ((hry.upd (u := (Upd.refl (fun _ => False) wr).alloc (.cells #[.int .i64 (ps[j].f : Int), .int .i64 (ps[j].at_ : Int), .string ⟨ps[j].s.toArray⟩] 60)) (fun _ _ h => h)).upd hu2 (fun _ _ h => h))
          go_wp2
          go_roundw
          case rel =>
            refine ⟨i, j + 1, ys, rfl, by simp, hry2.out, HL.out, by omega, by omega, by rw [keepP_snoc f ps j hlt, if_pos HP.out, List.append_nil]; exact HT.out, ?_, hux.out.trans hu2 (fun _ _ h => h.elim)⟩
            have := congrArg (List.drop 1) HD.out
            simpa [List.drop_drop, Nat.add_comm] using this
          case measure => simp [intOf]; omega
        · have hp1 : ((ps[j].f : Int) == (f : Int)) = false := beq_eq_false_iff_ne.2 (by omega)
          rw [hp1] at hsay
          have HP := Lib.hid hp; clear hp
          go_wp2_with fail
          refine hsay.out.mono ?_
          rintro e w2 ⟨rfl, hu2⟩
          have hry2 := Lib.hid ((hry.upd (u := (Upd.refl (fun _ => False) wr).alloc (.cells #[.int .i64 (ps[j].f : Int), .int .i64 (ps[j].at_ : Int), .string ⟨ps[j].s.toArray⟩] 60)) (fun _ _ h => h)).upd hu2 (fun _ _ h => h))
          have hbb := hboxx.out.upd hu2 (fun h => h)
          have b0 : w2.cell? ⟨wr.heap.size, 0, none⟩ = some (.int .i64 (ps[j].f : Int)) := hbb.cell_of rfl
          have b1 : w2.cell? ⟨wr.heap.size, 1, none⟩ = some (.int .i64 (ps[j].at_ : Int)) := hbb.cell_of rfl
          have b2 : w2.cell? ⟨wr.heap.size, 2, none⟩ = some (.string ⟨ps[j].s.toArray⟩) := hbb.cell_of rfl
          have hrz2 : Row w2 60 3 (.slice (some ⟨ab, 0, none⟩) ys.length cap) (some ab) ys.length (pendV ys) := by have := hry2.out; rw [← HL.out] at this; exact this
          obtain ⟨c0, c1, c2⟩ := hrz2.pcell (k := i) (by have := HL.out; omega)
          have hpl := pendV_length ys
          have f0 := hrz2.frozen rfl (j := i * 3) (by have := HL.out; omega)
          have f1 := hrz2.frozen rfl (j := i * 3 + 1) (by have := HL.out; omega)
          have f2 := hrz2.frozen rfl (j := i * 3 + 2) (by have := HL.out; omega)
          clear hbb hpl hrz2 h1 h2 h3 hbx' hent
          have hi0 : (i : Int) < ps.length := by omega
          go_wp2
          go_roundw
          case rel =>
            have hset := ((hry2.out.set rfl (i * 3) (.int .i64 (ps[j].f : Int))).set rfl (i * 3 + 1) (.int .i64 (ps[j].at_ : Int))).set rfl (i * 3 + 2) (strV ps[j].s)
            rw [pendV_set] at hset
            have hl := HL.out
            refine ⟨i + 1, j + 1, ys.set i ps[j], by simp, by simp, hset, by simpa using hl, by omega, by omega, ?_, ?_, ?_⟩
            · rw [keepP_snoc f ps j hlt, if_neg HP.out, ← HT.out, List.take_succ_eq_append_getElem (by simp; omega), List.take_set_of_le (by omega)]
              simp
            · rw [List.drop_set_of_lt (by omega)]
              have := congrArg (List.drop 1) HD.out
              simpa [List.drop_drop, Nat.add_comm] using this
            · exact (((hux.out.trans hu2 (fun _ _ h => h.elim)).setCell (fun _ => rfl) _).setCell (fun _ => rfl) _).setCell (fun _ => rfl) _
          case measure => simp [intOf]; omega
      · have hje : j = ps.length := by omega
        subst hje
        have HT := Lib.hid htk; clear htk
        have HL := Lib.hid hyl; clear hyl
        clear hdr
        have hkl : (keepP f ps).length = i := by
          have := HT.out
          rw [List.take_length] at this
          rw [← this, List.length_take, HL.out]; omega
        go_wp2_with (first
          | (refine wpList_slice_from rfl (.tmp 36) (.tmp 37) 55 rfl 60 3 32 E55 _ _ _ rfl .i64 _ rfl i rfl (by omega) hc1 ?_)
          | (at_builtin; fail))
        intro dp hdp
        have HD := Lib.hid hdp; clear hdp
        go_wp2_with (refine wpList_clear_tail (o := ⟨none, _, _, _, _, _⟩) rfl (.tmp 38) 55 rfl 60 3 32 E55 (by decide) _ _ _ _ hry _ _ _ i rfl (by omega) (fun hlt => ⟨ab, rfl, HD.out (by omega)⟩) rfl ?_)
        intro w2 xs2 hr2 ht2 hu2
        have HX := Lib.hid ht2; clear ht2
        go_wp2
        go_ret
        have hr3 := hr2.take (k := i) (by omega) rfl
        rw [HX.out, pendV_take, HT.out, List.take_length] at hr3
        exact ⟨.slice (some ⟨ab, 0, none⟩) i cap, rfl, by rw [hkl]; exact hr3, hu.trans hu2 (fun _ _ h => congrArg some h)⟩
  · have hd := Lib.hid (keepP_none hno)
    clear hno
    go_wp2
    go_ret
    exact ⟨_, rfl, by rw [hd.out]; exact hrow.upd hu (fun _ _ h => h), hu.mono (fun _ _ h => h.elim)⟩
end Go.Proofs.Ythfnnkfdpnkodaa
