/- '[]byte(s)': a row of the call's own. No program in sight. -/
import Derived.Test.YthfnnkfdpnkodaaMem
import Derived.Lib.ConvBytes
namespace Go.Proofs.Ythfnnkfdpnkodaa

section
variable {P : Program} {ops : Array Oper} {rest : List Oper} {o : Oper} {a : Act} {w : World}

theorem byteCells_len (s : ByteArray) : (byteCells s).length = s.size := by unfold byteCells; simp

theorem bytesWorld_row (w : World) (e : TypeId) (s : ByteArray) (h : s.size ≤ maxLen) : Row (Lib.bytesWorld w e s) e 1 (.slice (some ⟨w.heap.size, 0, none⟩) s.size (grownCap w s.size 0 e)) (some w.heap.size) s.size (byteCells s) := by
  have hge := grownCap_ge w s.size 0 e
  have hsz : (Lib.bytesCells w e s).size = grownCap w s.size 0 e := by
    unfold Lib.bytesCells
    rw [Array.size_append, Array.size_map, Array.size_replicate]
    show s.size + _ = _
    omega
  refine ⟨by rw [byteCells_len, Nat.mul_one], .inr ⟨_, _, (Lib.bytesCells w e s).toList, rfl, rfl, ⟨_, by rw [Array.toArray_toList]; exact Lib.bytesWorld_at_new w e s, .inr (by simp)⟩, hge, grownCap_le_maxLen w _ _ e h, by rw [Array.length_toList, hsz, Nat.mul_one], ?_⟩⟩
  unfold Lib.bytesCells
  rw [Array.toList_append, Nat.mul_one]
  have : (s.data.map fun b => Value.int .u8 b.toNat).toList = byteCells s := by unfold byteCells; simp
  rw [this, ← byteCells_len s]
  exact List.take_left

theorem bytesWorld_upd (w : World) (e : TypeId) (s : ByteArray) : Upd (fun _ => False) w (Lib.bytesWorld w e s) := by
  refine ⟨?_, ?_, ?_, by rw [Lib.bytesWorld_size]; omega, fun k hk _ => Lib.bytesWorld_at_old w e s k hk⟩ <;> simp [Lib.bytesWorld, World.freeze, World.alloc, World.drew, -World.alloc_eq, -World.drew_eq]

theorem wpList_conv_bytes {Q : Exit → Act → World → Prop} (hgd : o.guard = none) (x : Operand) (src dst : TypeId) (ho : o.op = .convert src dst x) (e : TypeId) {u : TypeDesc} (hs : P.underlying src = some u) (hd : P.underlying dst = some (.slice e)) (he : P.underlying e = some (.int .u8))
    (s : ByteArray) (hx : a.eval x = .string s) (hl : s.size ≤ maxLen)
    (h : ∀ v' w', Row w' e 1 v' (some w.heap.size) s.size (byteCells s) → Upd (fun _ => False) w w' → wpList P ops Q rest (a.put o.dst v') w') : wpList P ops Q (o :: rest) a w := by
  refine wpList_plain hgd fun K hK => ?_
  unfold Oper.wp execOp
  simp only [ho, Sem.run_bind, Sem.run_pure, Result.andThen_ok, hx, Lib.run_convert_string_bytes w src dst e s hs hd he]
  exact hK _ _ (h _ _ (bytesWorld_row w e s hl) (bytesWorld_upd w e s))
theorem run_append_empty (t tx ty e : TypeId) (sz bytes : Nat) (he : Elem P t e sz bytes) {g : Nat} (hb : Blk w g [] e) {x : Value} {m : Nat} {news : List Value} (hs : Src P sz tx x m news w) (h63 : m ≤ maxLen) (hbytes : m * bytes ≤ 140737488355328) :
    ∃ v' w' g', (Builtin.append_ #[t, tx] ty #[.slice (some ⟨g, 0, none⟩) 0 0, x]).run P w = .ok v' w' ∧ Row w' e sz v' g' m news ∧ (∀ k, g' = some k → k = g ∨ k = w.heap.size) ∧ Upd (fun _ => False) w w' := by
  obtain ⟨ht, i, z, hi, hz, h1, h2, h3, h4⟩ := he
  have hrow : Row w e sz (.slice (some ⟨g, 0, none⟩) 0 0) (some g) 0 [] := ⟨by simp, .inr ⟨g, 0, [], rfl, rfl, hb, Nat.le_refl _, Nat.zero_le _, by simp, by simp⟩⟩
  obtain ⟨v', w', g', hr, r1, r2, r3⟩ := run_append_row (P := P) t tx ty e i z sz bytes ht hi hz h1 h2 h3 hrow hs (by omega) (by rw [Nat.zero_add]; exact hbytes)
  refine ⟨v', w', g', hr, by rw [Nat.zero_add, List.nil_append] at r1; exact r1, fun k hk => ?_, ?_⟩
  · rcases r2 with r2 | r2
    · rw [r2] at hk; cases hk; exact .inl rfl
    · rw [r2] at hk; cases hk; exact .inr rfl
  · subst h1
    by_cases hm : m = 0
    · subst hm
      have hn : news = [] := List.eq_nil_of_length_eq_zero (by simpa using hs.newsLen)
      subst hn
      have hq := run_append_room_src (P := P) w t tx ty e i ht hi g 0 0 0 x 0 [] hs (by omega) (fun j hj => by simp at hj) (fun j hj => by simp at hj)
      rw [hr] at hq
      simp only [World.setCells] at hq
      cases hq
      exact Upd.refl _ _
    · have hq := run_append_grow_src (P := P) w t tx ty e i z ht hi hz (some ⟨g, 0, none⟩) 0 0 [] (firstCells_row (w := w.drew) hrow.drew) x m news hs (by omega) (by unfold maxLen at h63; omega) (growslice_fits (by omega) (by rw [h2, Nat.zero_add]; exact hbytes))
      rw [hr] at hq
      cases hq
      exact ((Upd.refl _ _).drew).alloc _
end
end Go.Proofs.Ythfnnkfdpnkodaa
