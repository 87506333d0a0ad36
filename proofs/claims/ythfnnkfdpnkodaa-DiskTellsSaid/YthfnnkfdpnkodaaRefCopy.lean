/- The reference's Copy, walked. Written by copygen.py. -/
import Derived.Test.YthfnnkfdpnkodaaRefNew
import Derived.Test.YthfnnkfdpnkodaaAny
namespace Go.Proofs.Ythfnnkfdpnkodaa
open Go.RowKit

def RCopied (w : World) (st : DSt) (rk : List Int) (e : Ending) (w' : World) : Prop :=
  ∃ c, e = .returned (dptr c) ∧ RD c st rk w' (fun k => w.heap.size ≤ k) ∧ Upd (fun _ => False) w w'

def LitAt (w : World) (v : Value) (e : TypeId) (w1 : World) : Prop := ∃ g, v = .slice (some ⟨g, 0, none⟩) 0 0 ∧ w.heap.size ≤ g ∧ Blk w1 g [] e
def RowAt (w : World) (v : Value) (e : TypeId) (sz n : Nat) (xs : List Value) (w1 : World) : Prop := ∃ g, Row w1 e sz v g n xs ∧ ∀ k, g = some k → w.heap.size ≤ k
def BuiltAt (w : World) (v : Value) (st : DSt) (rk : List Int) (w1 : World) : Prop :=
  ∃ x0 x1 x5, v = .agg #[x0, x1, .int .i64 (st.lost : Int), .bool st.down, .int .i64 (st.armed : Int), x5] ∧ RowAt w x0 9 1 12 (lastsV st.dur) w1 ∧ RowAt w x1 76 3 st.pend.length (pendV st.pend) w1 ∧ RowAt w x5 3 1 rk.length (intsV rk) w1
def BoxAt (w : World) (v : Value) (st : DSt) (rk : List Int) (w1 : World) : Prop := ∃ c, v = dptr c ∧ RD c st rk w1 (fun k => w.heap.size ≤ k)

theorem LitAt.keep {w w1 w2 : World} {v : Value} {e : TypeId} (h : LitAt w v e w1) (u : Upd (fun _ => False) w1 w2) : LitAt w v e w2 := by
  obtain ⟨g, h1, h2, h3⟩ := h
  exact ⟨g, h1, h2, h3.upd u fun h => h⟩
theorem RowAt.keep {w w1 w2 : World} {v : Value} {e : TypeId} {sz n : Nat} {xs : List Value} (h : RowAt w v e sz n xs w1) (u : Upd (fun _ => False) w1 w2) : RowAt w v e sz n xs w2 := by
  obtain ⟨g, h1, h2⟩ := h
  exact ⟨g, h1.upd u fun _ _ h => h, h2⟩
theorem BuiltAt.keep {w w1 w2 : World} {v : Value} {st : DSt} {rk : List Int} (h : BuiltAt w v st rk w1) (u : Upd (fun _ => False) w1 w2) : BuiltAt w v st rk w2 := by
  obtain ⟨x0, x1, x5, h1, h2, h3, h4⟩ := h
  exact ⟨x0, x1, x5, h1, h2.keep u, h3.keep u, h4.keep u⟩
theorem BoxAt.keep {w w1 w2 : World} {v : Value} {st : DSt} {rk : List Int} (h : BoxAt w v st rk w1) (u : Upd (fun _ => False) w1 w2) : BoxAt w v st rk w2 := by
  obtain ⟨c, h1, h2⟩ := h
  exact ⟨c, h1, Owned.still h2 u⟩

theorem Row.ne {w : World} {e e' : TypeId} {sz sz' : Nat} {v v' : Value} {g g' : Option Nat} {n n' : Nat} {xs xs' : List Value} (h : Row w e sz v g n xs) (h' : Row w e' sz' v' g' n' xs') (hne : e ≠ e') {k : Nat} (hk : g = some k) : g' ≠ some k := by
  intro hk'
  rcases h.2 with ⟨_, h0, _⟩ | ⟨b1, _, _, _, hb1, ⟨_, hB1, _⟩, _⟩
  · rw [h0] at hk; cases hk
  · rcases h'.2 with ⟨_, h0, _⟩ | ⟨b2, _, _, _, hb2, ⟨_, hB2, _⟩, _⟩
    · rw [h0] at hk'; cases hk'
    · rw [hk] at hb1; cases hb1
      rw [hk'] at hb2; cases hb2
      rw [hB1] at hB2
      simp only [Option.some.injEq, Obj.cells.injEq] at hB2
      exact hne hB2.2.1

theorem BuiltAt.box {w w1 : World} {v : Value} {st : DSt} {rk : List Int} (h : BuiltAt w v st rk w1) (hs : w.heap.size ≤ w1.heap.size) : ∃ cs, v = .agg cs ∧ BoxAt w (dptr w1.heap.size) st rk (w1.alloc (.cells cs 67)) := by
  obtain ⟨x0, x1, x5, rfl, ⟨g0, r0, f0⟩, ⟨g1, r1, f1⟩, ⟨g5, r5, f5⟩⟩ := h
  refine ⟨_, rfl, _, rfl, ?_⟩
  have h1 := Owned.box (w := w1) 67 (rflds st rk) [x0, x1, .int .i64 (st.lost : Int), .bool st.down, .int .i64 (st.armed : Int), x5] (fun i => if i = 0 then g0 else if i = 1 then g1 else if i = 5 then g5 else none) rfl (fun i f hf => by
    match i with
    | 0 => cases hf; exact ⟨_, rfl, r0⟩
    | 1 => cases hf; exact ⟨_, rfl, r1⟩
    | 2 => cases hf; exact ⟨_, rfl, rfl, rfl⟩
    | 3 => cases hf; exact ⟨_, rfl, rfl, rfl⟩
    | 4 => cases hf; exact ⟨_, rfl, rfl, rfl⟩
    | 5 => cases hf; exact ⟨_, rfl, r5⟩
    | n + 6 => simp [rflds] at hf) (fun i j k hi hj => by
      have n01 : (9 : Nat) ≠ 76 := by decide
      have n05 : (9 : Nat) ≠ 3 := by decide
      have n15 : (76 : Nat) ≠ 3 := by decide
      by_cases i0 : i = 0
      · rw [if_pos i0] at hi
        by_cases j0 : j = 0
        · omega
        · rw [if_neg j0] at hj
          by_cases j1 : j = 1
          · rw [if_pos j1] at hj; exact absurd hj (r0.ne r1 n01 hi)
          · rw [if_neg j1] at hj
            by_cases j5 : j = 5
            · rw [if_pos j5] at hj; exact absurd hj (r0.ne r5 n05 hi)
            · rw [if_neg j5] at hj; cases hj
      · rw [if_neg i0] at hi
        by_cases i1 : i = 1
        · rw [if_pos i1] at hi
          by_cases j0 : j = 0
          · rw [if_pos j0] at hj; exact absurd hi (r0.ne r1 n01 hj)
          · rw [if_neg j0] at hj
            by_cases j1 : j = 1
            · omega
            · rw [if_neg j1] at hj
              by_cases j5 : j = 5
              · rw [if_pos j5] at hj; exact absurd hj (r1.ne r5 n15 hi)
              · rw [if_neg j5] at hj; cases hj
        · rw [if_neg i1] at hi
          by_cases i5 : i = 5
          · rw [if_pos i5] at hi
            by_cases j0 : j = 0
            · rw [if_pos j0] at hj; exact absurd hi (r0.ne r5 n05 hj)
            · rw [if_neg j0] at hj
              by_cases j1 : j = 1
              · rw [if_pos j1] at hj; exact absurd hi (r1.ne r5 n15 hj)
              · rw [if_neg j1] at hj
                by_cases j5 : j = 5
                · omega
                · rw [if_neg j5] at hj; cases hj
          · rw [if_neg i5] at hi; cases hi) (fun i hi => by
      simp [rflds] at hi
      rw [if_neg (by omega), if_neg (by omega), if_neg (by omega)])
  refine Owned.mono h1 fun k hk hx => ?_
  rcases hx with hx | ⟨i, hx⟩
  · rw [hx]; exact hs
  · split at hx
    · exact f0 k hx
    · split at hx
      · exact f1 k hx
      · split at hx
        · exact f5 k hx
        · cases hx

def cpΦ (w : World) (b : Nat) (st : DSt) (rk : List Int) (a0 a1 a5 : Option Addr) (k0 k1 k5 : Nat) : Nat → Value → World → Prop := fun j v w1 => match j with
  | 0 => LitAt w v 9 w1
  | 1 => v = dptr b
  | 2 => v = dptr b
  | 3 => v = .pointer (some ⟨b, 0, none⟩)
  | 4 => v = .slice a0 12 k0
  | 5 => RowAt w v 9 1 12 (lastsV st.dur) w1
  | 6 => LitAt w v 76 w1
  | 7 => v = dptr b
  | 8 => v = dptr b
  | 9 => v = .pointer (some ⟨b, 1, none⟩)
  | 10 => v = .slice a1 st.pend.length k1
  | 11 => RowAt w v 76 3 st.pend.length (pendV st.pend) w1
  | 12 => v = dptr b
  | 13 => v = dptr b
  | 14 => v = .pointer (some ⟨b, 2, none⟩)
  | 15 => v = .int .i64 (st.lost : Int)
  | 16 => v = dptr b
  | 17 => v = dptr b
  | 18 => v = .pointer (some ⟨b, 3, none⟩)
  | 19 => v = .bool st.down
  | 20 => v = dptr b
  | 21 => v = dptr b
  | 22 => v = .pointer (some ⟨b, 4, none⟩)
  | 23 => v = .int .i64 (st.armed : Int)
  | 24 => LitAt w v 3 w1
  | 25 => v = dptr b
  | 26 => v = dptr b
  | 27 => v = .pointer (some ⟨b, 5, none⟩)
  | 28 => v = .slice a5 rk.length k5
  | 29 => RowAt w v 3 1 rk.length (intsV rk) w1
  | 30 => BuiltAt w v st rk w1
  | 31 => BoxAt w v st rk w1
  | 32 => BoxAt w v st rk w1
  | _ => True

theorem cpΦ_keep {w : World} {b : Nat} {st : DSt} {rk : List Int} {a0 a1 a5 : Option Addr} {k0 k1 k5 : Nat} (j : Nat) (v : Value) (w1 w2 : World) (h : cpΦ w b st rk a0 a1 a5 k0 k1 k5 j v w1) (u : Upd (fun _ => False) w1 w2) : cpΦ w b st rk a0 a1 a5 k0 k1 k5 j v w2 := by
  unfold cpΦ at h ⊢
  split at h <;> first | exact h | exact LitAt.keep h u | exact RowAt.keep h u | exact BuiltAt.keep h u | exact BoxAt.keep h u

theorem strsOne {d : Nat → List UInt8} : ∀ u ∈ lastsV d, u.oneCell' = true := by
  intro u hu
  unfold lastsV at hu
  obtain ⟨_, _, rfl⟩ := List.mem_map.1 hu
  rfl

set_option maxRecDepth 100000 in
set_option maxHeartbeats 3200000 in
theorem rcopy_any (b : Nat) (st : DSt) (rk : List Int) (w : World) (D : Nat → Prop) (h : RD b st rk w D) (hp : st.pend.length ≤ 1099511627776) (hk : rk.length ≤ 17592186044416) :
    Calls Try.prog 26 #[dptr b] w (RCopied w st rk) := by
  obtain ⟨v0, g0, c0, r0, _, _⟩ := Owned.focus h (i := 0) rfl
  obtain ⟨v1, g1, c1, r1, _, _⟩ := Owned.focus h (i := 1) rfl
  obtain ⟨v5, g5, c5, r5, _, _⟩ := Owned.focus h (i := 5) rfl
  have c2 : w.cell? ⟨b, 2, none⟩ = some (.int .i64 st.lost) := Owned.sc h rfl
  have c3 : w.cell? ⟨b, 3, none⟩ = some (.bool st.down) := Owned.sc h rfl
  have c4 : w.cell? ⟨b, 4, none⟩ = some (.int .i64 st.armed) := Owned.sc h rfl
  obtain ⟨a0, k0, rfl, _, _⟩ := r0.form
  obtain ⟨a1, k1, rfl, _, _⟩ := r1.form
  obtain ⟨a5, k5, rfl, _, _⟩ := r5.form
  clear h
  go_enter Try.func26, Try.ntmps26
  go_upto_region 1 with fail
  refine ANY.wp_region_any (cpΦ w b st rk a0 a1 a5 k0 k1 k5) (fun w1 => Upd (fun _ => False) w w1) (fun w1 w2 => Upd (fun _ => False) w1 w2) (by kernel_rfl) (by kernel_rfl) (Upd.refl _ _).drew cpΦ_keep ?_ ?_
  · intro j o ho a w1 hG hd h0
    have e0 : a.eval (.tmp 0) = dptr b := (h0 0 (by kernel_rfl)).trans rfl
    revert ho hd
    match j with
    | 0 =>
      intro ho hd
      obtain rfl := Option.some.inj ho
      exact ANY.step_val (.slice (some ⟨w1.heap.size, 0, none⟩) 0 0) (w' := w1.alloc (.cells #[] 9)) (by unfold execOp; go_simp) ⟨_, rfl, hG.size, Blk.newA w1 #[] _⟩ (hG.alloc _) ((Upd.refl _ _).alloc _)
    | 1 =>
      intro ho hd
      obtain rfl := Option.some.inj ho
      exact ANY.step_val (dptr b) (by unfold execOp; simp only [e0]; go_simp) rfl hG (Upd.refl _ _)
    | 2 =>
      intro ho hd
      obtain rfl := Option.some.inj ho
      have d4 := hd ⟨1, .data⟩ (by simp) rfl _ 4 rfl rfl
      have e4 : a.eval (.tmp 4) = dptr b := d4
      exact ANY.step_val (dptr b) (by unfold execOp; simp only [e4]; go_simp) rfl hG (Upd.refl _ _)
    | 3 =>
      intro ho hd
      obtain rfl := Option.some.inj ho
      have d5 := hd ⟨2, .data⟩ (by simp) rfl _ 5 rfl rfl
      have e5 : a.eval (.tmp 5) = dptr b := d5
      exact ANY.step_val (.pointer (some ⟨b, 0, none⟩)) (by unfold execOp; simp only [e5]; go_simp) rfl hG (Upd.refl _ _)
    | 4 =>
      intro ho hd
      obtain rfl := Option.some.inj ho
      have d6 := hd ⟨3, .data⟩ (by simp) rfl _ 6 rfl rfl
      have e6 : a.eval (.tmp 6) = .pointer (some ⟨b, 0, none⟩) := d6
      have cc := hG.cell c0
      exact ANY.step_val (.slice a0 12 k0) (by unfold execOp; simp only [e6]; go_simp) rfl hG (Upd.refl _ _)
    | 5 =>
      intro ho hd
      obtain rfl := Option.some.inj ho
      have d3 := hd ⟨0, .data⟩ (by simp) rfl _ 3 rfl rfl
      have d7 := hd ⟨4, .data⟩ (by simp) rfl _ 7 rfl rfl
      have e7 : a.eval (.tmp 7) = .slice a0 12 k0 := d7
      obtain ⟨g, eg, hgs, hgb⟩ := d3
      have e3 : a.eval (.tmp 3) = .slice (some ⟨g, 0, none⟩) 0 0 := eg
      obtain ⟨v', w2, g', hr, q1, q2, q3⟩ := run_append_empty (P := Try.prog) 28 28 28 9 _ _ EStr hgb (Row.src (P := Try.prog) (e' := 9) (by kernel_rfl) (r0.upd hG fun _ _ h => h) (strsOne)) (by unfold maxLen; omega) (by omega)
      refine ANY.step_val v' (w' := w2) (by unfold execOp; simp only [resolve, invoke, builtin, Sem.run_bind, Sem.run_pure, Result.andThen_ok, List.map_toArray, List.map_cons, List.map_nil, e3, e7, hr]) ⟨g', q1, fun k hk => ?_⟩ (hG.trans q3 fun _ _ h => h) q3
      rcases q2 k hk with h | h
      · rw [h]; exact hgs
      · rw [h]; exact hG.size
    | 6 =>
      intro ho hd
      obtain rfl := Option.some.inj ho
      exact ANY.step_val (.slice (some ⟨w1.heap.size, 0, none⟩) 0 0) (w' := w1.alloc (.cells #[] 76)) (by unfold execOp; go_simp) ⟨_, rfl, hG.size, Blk.newA w1 #[] _⟩ (hG.alloc _) ((Upd.refl _ _).alloc _)
    | 7 =>
      intro ho hd
      obtain rfl := Option.some.inj ho
      exact ANY.step_val (dptr b) (by unfold execOp; simp only [e0]; go_simp) rfl hG (Upd.refl _ _)
    | 8 =>
      intro ho hd
      obtain rfl := Option.some.inj ho
      have d10 := hd ⟨7, .data⟩ (by simp) rfl _ 10 rfl rfl
      have e10 : a.eval (.tmp 10) = dptr b := d10
      exact ANY.step_val (dptr b) (by unfold execOp; simp only [e10]; go_simp) rfl hG (Upd.refl _ _)
    | 9 =>
      intro ho hd
      obtain rfl := Option.some.inj ho
      have d11 := hd ⟨8, .data⟩ (by simp) rfl _ 11 rfl rfl
      have e11 : a.eval (.tmp 11) = dptr b := d11
      exact ANY.step_val (.pointer (some ⟨b, 1, none⟩)) (by unfold execOp; simp only [e11]; go_simp) rfl hG (Upd.refl _ _)
    | 10 =>
      intro ho hd
      obtain rfl := Option.some.inj ho
      have d12 := hd ⟨9, .data⟩ (by simp) rfl _ 12 rfl rfl
      have e12 : a.eval (.tmp 12) = .pointer (some ⟨b, 1, none⟩) := d12
      have cc := hG.cell c1
      exact ANY.step_val (.slice a1 st.pend.length k1) (by unfold execOp; simp only [e12]; go_simp) rfl hG (Upd.refl _ _)
    | 11 =>
      intro ho hd
      obtain rfl := Option.some.inj ho
      have d9 := hd ⟨6, .data⟩ (by simp) rfl _ 9 rfl rfl
      have d13 := hd ⟨10, .data⟩ (by simp) rfl _ 13 rfl rfl
      have e13 : a.eval (.tmp 13) = .slice a1 st.pend.length k1 := d13
      obtain ⟨g, eg, hgs, hgb⟩ := d9
      have e9 : a.eval (.tmp 9) = .slice (some ⟨g, 0, none⟩) 0 0 := eg
      obtain ⟨v', w2, g', hr, q1, q2, q3⟩ := run_append_empty (P := Try.prog) 65 65 65 76 _ _ EPiece hgb (Row.src (P := Try.prog) (e' := 76) (by kernel_rfl) (r1.upd hG fun _ _ h => h) (pendV_one _)) (by unfold maxLen; omega) (by omega)
      refine ANY.step_val v' (w' := w2) (by unfold execOp; simp only [resolve, invoke, builtin, Sem.run_bind, Sem.run_pure, Result.andThen_ok, List.map_toArray, List.map_cons, List.map_nil, e9, e13, hr]) ⟨g', q1, fun k hk => ?_⟩ (hG.trans q3 fun _ _ h => h) q3
      rcases q2 k hk with h | h
      · rw [h]; exact hgs
      · rw [h]; exact hG.size
    | 12 =>
      intro ho hd
      obtain rfl := Option.some.inj ho
      exact ANY.step_val (dptr b) (by unfold execOp; simp only [e0]; go_simp) rfl hG (Upd.refl _ _)
    | 13 =>
      intro ho hd
      obtain rfl := Option.some.inj ho
      have d15 := hd ⟨12, .data⟩ (by simp) rfl _ 15 rfl rfl
      have e15 : a.eval (.tmp 15) = dptr b := d15
      exact ANY.step_val (dptr b) (by unfold execOp; simp only [e15]; go_simp) rfl hG (Upd.refl _ _)
    | 14 =>
      intro ho hd
      obtain rfl := Option.some.inj ho
      have d16 := hd ⟨13, .data⟩ (by simp) rfl _ 16 rfl rfl
      have e16 : a.eval (.tmp 16) = dptr b := d16
      exact ANY.step_val (.pointer (some ⟨b, 2, none⟩)) (by unfold execOp; simp only [e16]; go_simp) rfl hG (Upd.refl _ _)
    | 15 =>
      intro ho hd
      obtain rfl := Option.some.inj ho
      have d17 := hd ⟨14, .data⟩ (by simp) rfl _ 17 rfl rfl
      have e17 : a.eval (.tmp 17) = .pointer (some ⟨b, 2, none⟩) := d17
      have cc := hG.cell c2
      exact ANY.step_val (.int .i64 (st.lost : Int)) (by unfold execOp; simp only [e17]; go_simp) rfl hG (Upd.refl _ _)
    | 16 =>
      intro ho hd
      obtain rfl := Option.some.inj ho
      exact ANY.step_val (dptr b) (by unfold execOp; simp only [e0]; go_simp) rfl hG (Upd.refl _ _)
    | 17 =>
      intro ho hd
      obtain rfl := Option.some.inj ho
      have d19 := hd ⟨16, .data⟩ (by simp) rfl _ 19 rfl rfl
      have e19 : a.eval (.tmp 19) = dptr b := d19
      exact ANY.step_val (dptr b) (by unfold execOp; simp only [e19]; go_simp) rfl hG (Upd.refl _ _)
    | 18 =>
      intro ho hd
      obtain rfl := Option.some.inj ho
      have d20 := hd ⟨17, .data⟩ (by simp) rfl _ 20 rfl rfl
      have e20 : a.eval (.tmp 20) = dptr b := d20
      exact ANY.step_val (.pointer (some ⟨b, 3, none⟩)) (by unfold execOp; simp only [e20]; go_simp) rfl hG (Upd.refl _ _)
    | 19 =>
      intro ho hd
      obtain rfl := Option.some.inj ho
      have d21 := hd ⟨18, .data⟩ (by simp) rfl _ 21 rfl rfl
      have e21 : a.eval (.tmp 21) = .pointer (some ⟨b, 3, none⟩) := d21
      have cc := hG.cell c3
      exact ANY.step_val (.bool st.down) (by unfold execOp; simp only [e21]; go_simp) rfl hG (Upd.refl _ _)
    | 20 =>
      intro ho hd
      obtain rfl := Option.some.inj ho
      exact ANY.step_val (dptr b) (by unfold execOp; simp only [e0]; go_simp) rfl hG (Upd.refl _ _)
    | 21 =>
      intro ho hd
      obtain rfl := Option.some.inj ho
      have d23 := hd ⟨20, .data⟩ (by simp) rfl _ 23 rfl rfl
      have e23 : a.eval (.tmp 23) = dptr b := d23
      exact ANY.step_val (dptr b) (by unfold execOp; simp only [e23]; go_simp) rfl hG (Upd.refl _ _)
    | 22 =>
      intro ho hd
      obtain rfl := Option.some.inj ho
      have d24 := hd ⟨21, .data⟩ (by simp) rfl _ 24 rfl rfl
      have e24 : a.eval (.tmp 24) = dptr b := d24
      exact ANY.step_val (.pointer (some ⟨b, 4, none⟩)) (by unfold execOp; simp only [e24]; go_simp) rfl hG (Upd.refl _ _)
    | 23 =>
      intro ho hd
      obtain rfl := Option.some.inj ho
      have d25 := hd ⟨22, .data⟩ (by simp) rfl _ 25 rfl rfl
      have e25 : a.eval (.tmp 25) = .pointer (some ⟨b, 4, none⟩) := d25
      have cc := hG.cell c4
      exact ANY.step_val (.int .i64 (st.armed : Int)) (by unfold execOp; simp only [e25]; go_simp) rfl hG (Upd.refl _ _)
    | 24 =>
      intro ho hd
      obtain rfl := Option.some.inj ho
      exact ANY.step_val (.slice (some ⟨w1.heap.size, 0, none⟩) 0 0) (w' := w1.alloc (.cells #[] 3)) (by unfold execOp; go_simp) ⟨_, rfl, hG.size, Blk.newA w1 #[] _⟩ (hG.alloc _) ((Upd.refl _ _).alloc _)
    | 25 =>
      intro ho hd
      obtain rfl := Option.some.inj ho
      exact ANY.step_val (dptr b) (by unfold execOp; simp only [e0]; go_simp) rfl hG (Upd.refl _ _)
    | 26 =>
      intro ho hd
      obtain rfl := Option.some.inj ho
      have d28 := hd ⟨25, .data⟩ (by simp) rfl _ 28 rfl rfl
      have e28 : a.eval (.tmp 28) = dptr b := d28
      exact ANY.step_val (dptr b) (by unfold execOp; simp only [e28]; go_simp) rfl hG (Upd.refl _ _)
    | 27 =>
      intro ho hd
      obtain rfl := Option.some.inj ho
      have d29 := hd ⟨26, .data⟩ (by simp) rfl _ 29 rfl rfl
      have e29 : a.eval (.tmp 29) = dptr b := d29
      exact ANY.step_val (.pointer (some ⟨b, 5, none⟩)) (by unfold execOp; simp only [e29]; go_simp) rfl hG (Upd.refl _ _)
    | 28 =>
      intro ho hd
      obtain rfl := Option.some.inj ho
      have d30 := hd ⟨27, .data⟩ (by simp) rfl _ 30 rfl rfl
      have e30 : a.eval (.tmp 30) = .pointer (some ⟨b, 5, none⟩) := d30
      have cc := hG.cell c5
      exact ANY.step_val (.slice a5 rk.length k5) (by unfold execOp; simp only [e30]; go_simp) rfl hG (Upd.refl _ _)
    | 29 =>
      intro ho hd
      obtain rfl := Option.some.inj ho
      have d27 := hd ⟨24, .data⟩ (by simp) rfl _ 27 rfl rfl
      have d31 := hd ⟨28, .data⟩ (by simp) rfl _ 31 rfl rfl
      have e31 : a.eval (.tmp 31) = .slice a5 rk.length k5 := d31
      obtain ⟨g, eg, hgs, hgb⟩ := d27
      have e27 : a.eval (.tmp 27) = .slice (some ⟨g, 0, none⟩) 0 0 := eg
      obtain ⟨v', w2, g', hr, q1, q2, q3⟩ := run_append_empty (P := Try.prog) 23 23 23 3 _ _ EInt0 hgb (Row.src (P := Try.prog) (e' := 3) (by kernel_rfl) (r5.upd hG fun _ _ h => h) (intsV_one _)) (by unfold maxLen; omega) (by omega)
      refine ANY.step_val v' (w' := w2) (by unfold execOp; simp only [resolve, invoke, builtin, Sem.run_bind, Sem.run_pure, Result.andThen_ok, List.map_toArray, List.map_cons, List.map_nil, e27, e31, hr]) ⟨g', q1, fun k hk => ?_⟩ (hG.trans q3 fun _ _ h => h) q3
      rcases q2 k hk with h | h
      · rw [h]; exact hgs
      · rw [h]; exact hG.size
    | 30 =>
      intro ho hd
      obtain rfl := Option.some.inj ho
      have d8 := hd ⟨5, .data⟩ (by simp) rfl _ 8 rfl rfl
      have d14 := hd ⟨11, .data⟩ (by simp) rfl _ 14 rfl rfl
      have d18 := hd ⟨15, .data⟩ (by simp) rfl _ 18 rfl rfl
      have e18 : a.eval (.tmp 18) = .int .i64 (st.lost : Int) := d18
      have d22 := hd ⟨19, .data⟩ (by simp) rfl _ 22 rfl rfl
      have e22 : a.eval (.tmp 22) = .bool st.down := d22
      have d26 := hd ⟨23, .data⟩ (by simp) rfl _ 26 rfl rfl
      have e26 : a.eval (.tmp 26) = .int .i64 (st.armed : Int) := d26
      have d32 := hd ⟨29, .data⟩ (by simp) rfl _ 32 rfl rfl
      obtain ⟨q0, z0, hz0, _, _⟩ := d8.choose_spec.1.form
      obtain ⟨q1, z1, hz1, _, _⟩ := d14.choose_spec.1.form
      obtain ⟨q5, z5, hz5, _, _⟩ := d32.choose_spec.1.form
      have e8 : a.eval (.tmp 8) = .slice q0 12 z0 := hz0
      have e14 : a.eval (.tmp 14) = .slice q1 st.pend.length z1 := hz1
      have e32 : a.eval (.tmp 32) = .slice q5 rk.length z5 := hz5
      rw [hz0] at d8
      rw [hz1] at d14
      rw [hz5] at d32
      have t8 : a.tmps[8]?.getD undef = .slice q0 12 z0 := by have h := e8; simpa only [Act.eval, Array.getD_eq_getD_getElem?] using h
      have t14 : a.tmps[14]?.getD undef = .slice q1 st.pend.length z1 := by have h := e14; simpa only [Act.eval, Array.getD_eq_getD_getElem?] using h
      have t18 : a.tmps[18]?.getD undef = .int .i64 (st.lost : Int) := by have h := e18; simpa only [Act.eval, Array.getD_eq_getD_getElem?] using h
      have t22 : a.tmps[22]?.getD undef = .bool st.down := by have h := e22; simpa only [Act.eval, Array.getD_eq_getD_getElem?] using h
      have t26 : a.tmps[26]?.getD undef = .int .i64 (st.armed : Int) := by have h := e26; simpa only [Act.eval, Array.getD_eq_getD_getElem?] using h
      have t32 : a.tmps[32]?.getD undef = .slice q5 rk.length z5 := by have h := e32; simpa only [Act.eval, Array.getD_eq_getD_getElem?] using h
      exact ANY.step_val (.agg #[.slice q0 12 z0, .slice q1 st.pend.length z1, .int .i64 (st.lost : Int), .bool st.down, .int .i64 (st.armed : Int), .slice q5 rk.length z5]) (by unfold execOp; go_simp) ⟨_, _, _, rfl, d8, d14, d32⟩ hG (Upd.refl _ _)
    | 31 =>
      intro ho hd
      obtain rfl := Option.some.inj ho
      have d33 := hd ⟨30, .data⟩ (by simp) rfl _ 33 rfl rfl
      obtain ⟨cs, hcs, hbx⟩ := BuiltAt.box d33 hG.size
      have e33 : a.eval (.tmp 33) = .agg cs := hcs
      exact ANY.step_val (dptr w1.heap.size) (w' := w1.alloc (.cells cs 67)) (by unfold execOp; simp only [e33]; go_simp) hbx (hG.alloc _) ((Upd.refl _ _).alloc _)
    | 32 =>
      intro ho hd
      obtain rfl := Option.some.inj ho
      have d34 := hd ⟨31, .data⟩ (by simp) rfl _ 34 rfl rfl
      obtain ⟨c, hc, hbx⟩ := d34
      have e34 : a.eval (.tmp 34) = dptr c := hc
      exact ANY.step_val (dptr c) (by unfold execOp; simp only [e34]; go_simp) ⟨c, rfl, hbx⟩ hG (Upd.refl _ _)
    | n + 33 =>
      intro ho hd
      simp at ho
  · intro a w1 hI
    obtain ⟨tm, df⟩ := a
    have hdf : df = [] := hI.defers
    subst hdf
    have hb2 := hI.done 32 _ 2 rfl (by simp) rfl
    obtain ⟨c, hc, hbx⟩ := hb2
    go_wp2
    go_ret
    exact ⟨c, congrArg Ending.returned hc, hbx, hI.good⟩
end Go.Proofs.Ythfnnkfdpnkodaa
