/- DiskLasts walked. -/
import Derived.Test.YthfnnkfdpnkodaaLastAt
import Derived.Deep.DeepCutAuto
import Derived.Deep.LoopGhost
namespace Go.Proofs.Ythfnnkfdpnkodaa
open Go.RowKit

theorem strs12 : Elem Try.prog 28 9 1 16 := .of (z := .string ByteArray.empty) (by kernel_rfl) (by kernel_rfl) (by kernel_rfl)

theorem make12 (w : World) : (Instr.makeSlice 28 (.int .i64 12) (.int .i64 12)).run Try.prog w = .ok (.slice (some ⟨w.heap.size, 0, none⟩) 12 12) (w.alloc (.cells (madeCells #[.string ByteArray.empty] 12) 9)) := by
  obtain ⟨ht, i, z, hi, hz, h1, h2, h3, h4⟩ := strs12
  have hz0 : z = .string ByteArray.empty := by
    have hk : (Try.prog.info? 9).bind (·.zero) = some (.string ByteArray.empty) := by kernel_rfl
    rw [hi] at hk; simpa [hz] using hk
  subst hz0
  have := run_make (P := Try.prog) w 28 9 i (.string ByteArray.empty) ht hi hz .i64 .i64 12 12 (by omega) (by omega) (by rw [h2]; omega) (by omega)
  rw [h1] at this
  simpa [Value.cells] using this

/-- The law begins: nothing is safe yet. -/
theorem lsAt_new {W w : World} {b : Nat} {st : DSt} (h : At (fun k => k < W.heap.size) b W st w) :
    LsAt W.heap.size b w.heap.size none none default W (w.alloc (.cells (madeCells #[.string ByteArray.empty] 12) 9)) st (List.replicate 12 ByteArray.empty) (.slice none 0 0) [] := by
  have hsz := h.2.2.size
  have u : Upd (fun _ => False) w (w.alloc (.cells (madeCells #[.string ByteArray.empty] 12) 9)) := (Upd.refl _ _).alloc _
  refine ⟨⟨fun k hk => ?_, ?_, Upd.refl _ _⟩, (h.2.2.mono fun k _ h => Nat.le_of_not_lt h).trans u fun _ _ h => h.elim, ?_, by simp, Row.empty _ _ _, hsz, (fun k hk => by cases hk), Nat.le_refl _, (fun k hk => by cases hk)⟩
  · have := u.size
    rcases hk with hk | hk | hk | hk
    · omega
    · rw [hk]; simp
    · cases hk
    · cases hk
  · refine ((h.2.1.mono (D' := fun k => ¬ k < W.heap.size ∧ k < w.heap.size) fun k hk hd => ⟨hd, hk⟩).still u).mono fun k _ hk hf => ?_
    rcases hf with hf | hf | hf | hf
    · exact hk.1 hf
    · have := hk.2; omega
    · cases hf
    · cases hf
  · have h1 := Row.made w 9 1 #[.string ByteArray.empty] 12 12 (Nat.le_refl _) (by decide)
    rw [show (madeCells #[.string ByteArray.empty] (12 * 1)).toList.take (12 * 1) = strsV (List.replicate 12 ByteArray.empty) by simp [madeCells, strsV, List.range_succ]] at h1
    exact h1

theorem safeF_new (f : Nat) : safeF (List.replicate 12 ByteArray.empty) f = [] := by
  unfold safeF
  rw [List.getD_eq_getElem?_getD]
  by_cases h : f < 12
  · rw [List.getElem?_replicate, if_pos h]; rfl
  · rw [List.getElem?_replicate, if_neg h]; rfl

theorem lInv0 : LInv st0 (safeF (List.replicate 12 ByteArray.empty)) [] :=
  ⟨(fun f _ => by rw [safeF_new]; rfl), (fun p hp => by cases hp), fun _ => rfl⟩

theorem ActOk.mono {F F' : Nat → Prop} {w : World} {a : ActV} (h : ActOk F w a) (hF : ∀ k, F k → F' k) : ActOk F' w a := by
  obtain ⟨kb, h1, h2⟩ := h.keep
  exact ⟨h.n, h.s, h.k, ⟨kb, h1, h2.imp (hF kb) id⟩, h.nil⟩

theorem LsAt.act {B b sb : Nat} {g x : Option Nat} {ob : Obj} {W w : World} {st : DSt} {safe : List ByteArray} {since : Value} {sn : List ActV} (h : LsAt B b sb g x ob W w st safe since sn) (hB : B = W.heap.size) {a : ActV} (ha : ActIn W a) : ActOk (LsF B sb g x) w a := by
  subst hB
  exact ((ha.ok (F := fun k => k < W.heap.size) fun _ h => h).upd (fun _ h => h) (h.old.mono fun k _ h => Nat.not_lt_of_le h)).mono fun k hk => .inl hk

theorem LsAt.acts {B b sb : Nat} {g x : Option Nat} {ob : Obj} {W w : World} {st : DSt} {safe : List ByteArray} {since : Value} {sn : List ActV} (h : LsAt B b sb g x ob W w st safe since sn) (hB : B = W.heap.size) {v : Value} {l : List ActV} (ha : ActsIn W v l) : ActsAt w v l :=
  ha.1.upd h.old fun k hk hn => by omega

/-- Whether the act may write: the law's own test. -/
def lsC (A : ActV) (U : Bool) : Bool := decide (pickN A.op ≤ 1) && U && decide (0 ≤ A.n) && decide (A.n < 4000)
def okC (A : ActV) (e : Nat) : Bool := (decide (pickN A.op = 2) || decide (pickN A.op = 3)) && decide (e = 0)
def okT (A : ActV) (e : Nat) : Bool := decide (pickN A.op = 4) && decide (e = 0)
def IsB (w0 : World) (c : Bool) (s : Value) (w : World) : Prop := s = .bool c ∧ w = w0

theorem lsC_no {A : ActV} {U : Bool} (h : ¬ (pickN A.op ≤ 1 ∧ U = true ∧ 0 ≤ A.n ∧ A.n < 4000)) : lsC A U = false := by
  unfold lsC
  rw [Bool.eq_false_iff]
  intro hc
  simp only [Bool.and_eq_true, decide_eq_true_eq, and_assoc] at hc
  exact h hc
theorem okC_no {A : ActV} {e : Nat} (h : ¬ ((pickN A.op = 2 ∨ pickN A.op = 3) ∧ e = 0)) : okC A e = false := by
  unfold okC
  rw [Bool.eq_false_iff]
  intro hc
  simp only [Bool.and_eq_true, Bool.or_eq_true, decide_eq_true_eq] at hc
  exact h hc
theorem okT_no {A : ActV} {e : Nat} (h : ¬ (pickN A.op = 4 ∧ e = 0)) : okT A e = false := by
  unfold okT
  rw [Bool.eq_false_iff]
  intro hc
  simp only [Bool.and_eq_true, decide_eq_true_eq] at hc
  exact h hc

theorem snNext_lsC (A : ActV) (U : Bool) (sn : List ActV) : snNext U A sn = if lsC A U = true then sn ++ [A] else sn := by
  unfold snNext lsC
  simp only [Bool.and_eq_true, decide_eq_true_eq, and_assoc]

theorem here_at {B b sb : Nat} {g x : Option Nat} {ob : Obj} {W w : World} {st : DSt} {safe : List ByteArray} {v : Value} {sn acts : List ActV} (h : LsAt B b sb g x ob W w st safe v sn) (hs : SnSub acts sn) (hl : sn.length ≤ 1000)
    (hacts : ∀ a ∈ acts, a.s.size ≤ 140737488355328 ∧ ∃ q c, a.keep = .slice q a.ks.length c) (S T : ByteArray) (f : Nat) (hS : S.size ≤ 140737488355328) (hT : T.size ≤ 140737488355328) (hh : Here T.data.toList sn f S.data.toList) :
    Calls Try.prog 17 #[.string S, .string T, v, .int .i64 (f : Int)] w (fun e w' => e = .returned (.bool true) ∧ Upd (fun _ => False) w w') :=
  here_any S T v sn f w h.row.actsAt ⟨fun a ha => (hs a ha).2, fun a ha => (hacts a (hs a ha).1).1, fun a ha => (hacts a (hs a ha).1).2, hl⟩ hS hT hh

theorem lst_flush {st : DSt} {safe : Nat → List UInt8} {sn : List ActV} (h : LInv st safe sn) {A : ActV} {E : Nat} {st1 : DSt} (hE : E = (st.act A).1.2) (h1 : st1 = (st.act A).2) (hok : okC A E = true) :
    (pickN A.op = 2 ∨ pickN A.op = 3) ∧ ∃ f : Nat, A.f = f ∧ f < 12 ∧ st1.down = false ∧ (st1.read (f : Int)).2 = 0 ∧ LInv st1 (up safe f (st1.read (f : Int)).1) (others f sn) := by
  unfold okC at hok
  simp only [Bool.and_eq_true, Bool.or_eq_true, decide_eq_true_eq] at hok
  obtain ⟨hk, h0⟩ := hok
  refine ⟨hk, ?_⟩
  rcases hk with hk | hk
  · have ha : st.act A = (([], (st.flush A.f).1), (st.flush A.f).2) := by unfold DSt.act; rw [if_neg (by omega), if_pos hk]
    rw [ha] at hE h1
    obtain ⟨g, hg, hg12, hd, hr, hi⟩ := (h.flush A.f).1 (by rw [← h0, hE])
    rw [← h1] at hd hr hi
    rw [hg] at hr hi
    exact ⟨g, hg, hg12, hd, hr, hi⟩
  · have ha : st.act A = (([], (st.cut A.f A.n).1), (st.cut A.f A.n).2) := by unfold DSt.act; rw [if_neg (by omega), if_neg (by omega), if_pos hk]
    rw [ha] at hE h1
    obtain ⟨g, hg, hg12, hd, hr, hi⟩ := (h.cut A.f A.n).1 (by rw [← h0, hE])
    rw [← h1] at hd hr hi
    rw [hg] at hr hi
    exact ⟨g, hg, hg12, hd, hr, hi⟩

theorem lst_turn {st : DSt} {safe : Nat → List UInt8} {sn : List ActV} (h : LInv st safe sn) {A : ActV} {E : Nat} {st1 : DSt} (hE : E = (st.act A).1.2) (h1 : st1 = (st.act A).2) (hok : okT A E = true) :
    pickN A.op = 4 ∧ ∃ i j : Nat, A.f = i ∧ A.g = j ∧ i < 12 ∧ j < 12 ∧ i ≠ j ∧ st1.down = false ∧ LInv st1 (up (up safe i (safe j)) j []) (others j (others i sn)) := by
  unfold okT at hok
  simp only [Bool.and_eq_true, decide_eq_true_eq] at hok
  obtain ⟨hk, h0⟩ := hok
  refine ⟨hk, ?_⟩
  have ha : st.act A = (([], (st.turn A.f A.g).1), (st.turn A.f A.g).2) := by unfold DSt.act; rw [if_neg (by omega), if_neg (by omega), if_neg (by omega), if_pos hk]
  rw [ha] at hE h1
  obtain ⟨i, j, hi, hj, a1, a2, a3, a4, a5⟩ := (h.turn A.f A.g).1 (by rw [← h0, hE])
  rw [← h1] at a4 a5
  exact ⟨i, j, hi, hj, a1, a2, a3, a4, a5⟩

theorem lst_other {st : DSt} {safe : Nat → List UInt8} {sn sn' : List ActV} (h : LInv st safe sn) {A : ActV} {E : Nat} {st1 : DSt} {D : Bool} (hE : E = (st.act A).1.2) (h1 : st1 = (st.act A).2) (hD : D = st.down) (hfew : A.n < 4000 ∨ 16777216 < A.n)
    (hc : okC A E = false) (ht : okT A E = false) (hsn : snNext (!D) A sn = sn') : (D = false ∧ st1.down = true → LCrash st1 safe sn') ∧ (¬ (D = false ∧ st1.down = true) → LInv st1 safe sn') := by
  have hn := h.act A hfew (fun h2 h4 h0 => by
    rw [← hE] at h0
    by_cases e4 : pickN A.op = 4
    · simp [okT, e4, h0] at ht
    · simp [okC, h0] at hc
      omega)
  rw [← h1, ← hD, hsn] at hn
  unfold LNext at hn
  rw [← hD] at hn
  exact hn

theorem safeF_get {safe : List ByteArray} {f : Nat} (hf : f < safe.length) : safe[f].data.toList = safeF safe f := by
  unfold safeF
  rw [List.getD_eq_getElem?_getD, List.getElem?_eq_getElem hf]
  rfl

theorem calls_post {fn : Nat} {args : Array Value} {w : World} {v v' : Value} {Q : World → Prop} (t : Calls Try.prog fn args w (fun e w' => e = .returned v ∧ Q w')) (hv : v = v') : Calls Try.prog fn args w (fun e w' => e = .returned v' ∧ Q w') := by subst hv; exact t

theorem exB (l : List UInt8) : ∃ S : ByteArray, strV l = .string S ∧ S.data.toList = l := ⟨⟨l.toArray⟩, rfl, by simp⟩

theorem ls_read {B b sb : Nat} {g x : Option Nat} {ob : Obj} {W w : World} {st : DSt} {safe : List ByteArray} {v : Value} {sn : List ActV} (h : LsAt B b sb g x ob W w st safe v sn) {n : Nat} (hg : Fit st n) (f : Int) (S : ByteArray) (hS : strV (st.read f).1 = .string S) (h0 : (st.read f).2 = 0) :
    Calls Try.prog 14 #[dptr b, .int .i64 f] w (fun e w' => e = .returned (.tuple #[.string S, .int .i64 0]) ∧ LsAt B b sb g x ob W w' st safe v sn) :=
  (calls_post (at_read h.at_ hg f) (v' := .tuple #[.string S, .int .i64 0]) (by rw [hS, h0]; rfl)).mono fun _ _ k => ⟨k.1, h.call k.2⟩

theorem ints1 : Elem Try.prog 23 3 1 8 := .of (z := .int .i64 0) (by kernel_rfl) (by kernel_rfl) (by kernel_rfl)

theorem wasV_snoc (st : DSt) (f : Nat) : wasV st (f + 1) = wasV st f ++ [.int .i64 (st.siz f)] := by
  unfold wasV
  rw [List.range_succ, List.map_append]
  rfl

theorem ls_size {B b sb : Nat} {g x : Option Nat} {ob : Obj} {W w : World} {st : DSt} {safe : List ByteArray} {v : Value} {sn : List ActV} (h : LsAt B b sb g x ob W w st safe v sn) (f : Nat) (hf : f < 12) :
    Calls Try.prog 20 #[dptr b, .int .i64 (f : Int)] w (fun e w' => e = .returned (.int .i64 (st.siz f : Nat)) ∧ LsAt B b sb g x ob W w' st safe v sn) :=
  (calls_post (at_size h.at_ (f : Int)) (v' := .int .i64 (st.siz f : Nat)) (by unfold DSt.size; rw [if_neg (by unfold bad; omega)]; rfl)).mono fun _ _ k => ⟨k.1, h.call k.2⟩

/-- The last reads: the sizes lie in x. -/
def LsFin (B b sb : Nat) (g x : Option Nat) (ob : Obj) (W : World) (st2 st : DSt) (safe : List ByteArray) (v : Value) (sn : List ActV) (was j : Value) (w : World) : Prop :=
  ∃ f : Nat, j = .int .i64 f ∧ f ≤ 12 ∧ LsAt B b sb g x ob W w st safe v sn ∧ Row w 3 1 was x 12 (wasV st2 12)

theorem Row.same {B b sb : Nat} {g x : Option Nat} {ob : Obj} {W w w' : World} {st st' : DSt} {safe : List ByteArray} {since : Value} {sn : List ActV} {v : Value} {n : Nat} {xs : List Value} (r : Row w 3 1 v x n xs) (h : LsAt B b sb g x ob W w st safe since sn)
    (h' : LsAt B b sb g x ob W w' st' safe since sn) : Row w' 3 1 v x n xs := r.of_heap fun _ hk => h.same_box h' hk







set_option maxRecDepth 100000 in
set_option maxHeartbeats 3200000 in
theorem lasts_walk (W : World) (v : Value) (acts : List ActV) (hl : ActsIn W v acts) (keep : Value) (ks : List Int) (hks : ActIn W ⟨0, 0, 0, 0, ByteArray.empty, keep, ks⟩) :
    Calls Try.prog 3 #[v, keep] W fun e w' => e = .returned (.bool true) ∧ Upd (fun k => W.heap.size ≤ k) W w' := by
  obtain ⟨lq, lc, rfl, hll⟩ := hl.1.form
  obtain ⟨kq, kc, hkv⟩ := hks.2
  dsimp only at hkv
  subst hkv
  have HL := Lib.hid hl
  have HK := Lib.hid hks
  have HM : Hid (∀ w : World, (Instr.makeSlice 28 (.int .i64 12) (.int .i64 12)).run Try.prog w = .ok (.slice (some ⟨w.heap.size, 0, none⟩) 12 12) (w.alloc (.cells (madeCells #[.string ByteArray.empty] 12) 9))) := make12
  clear hl hks
  go_enter Try.func3, Try.ntmps3
  go_wp2_with fail
  refine (small_at (fun k => k < W.heap.size) W (fun _ h => h)).mono ?_
  rintro e w ⟨rfl, hu⟩
  go_wp2_with fail
  refine (at_new (fun k => k < W.heap.size) w (fun k hk => Nat.lt_of_lt_of_le hk hu.size)).mono ?_
  rintro e w1 ⟨rfl, h⟩
  have h : At (fun k => k < W.heap.size) w.heap.size W st0 w1 := ⟨h.1, h.2.1, hu.trans h.2.2 fun _ _ h => h⟩
  obtain ⟨b, hb⟩ : ∃ b, b = w.heap.size := ⟨_, rfl⟩
  rw [← hb] at h ⊢
  clear hb hu
  go_wp2_with fail
  refine (few_at h HL.out (fun _ h => h)).mono ?_; clear h
  rintro e w2 ⟨⟨r, rfl, hr⟩, h⟩
  cases r with
  | false =>
    go_wp2
    go_ret
    exact ⟨rfl, h.2.2.mono fun _ _ h => Nat.le_of_not_lt h⟩
  | true =>
    have hfew := Lib.hid (hr rfl)
    clear hr
    have hmk := HM.out
    have h2 := Lib.hid (lsAt_new h)
    clear h
    go_upto_region 7 with fail
    clear hmk HM
    obtain ⟨sb, hsb⟩ : ∃ sb, sb = w2.heap.size := ⟨_, rfl⟩
    obtain ⟨w3, hw3⟩ : ∃ w3, w3 = w2.alloc (.cells (madeCells #[.string ByteArray.empty] 12) 9) := ⟨_, rfl⟩
    have h3 := h2.out
    rw [← hw3, ← hsb] at h3
    rw [← hw3, ← hsb]
    have h0 : Hid (LsRel W.heap.size b sb W acts (.slice none 0 0) (.int .i64 0) w3) := ⟨0, none, _, [], st0, rfl, Nat.zero_le _, h3, fit0, (fun a ha => by cases ha), Nat.le_refl _, lInv0⟩
    clear hw3 hsb h2 h3
    go_wp2
    go_loopg [8, 9] acts.length (fun g s i w' => LsRel W.heap.size b sb W acts s i w' ∧ (intOf i).toNat + g = acts.length)
    case atStart => exact ⟨h0.out, by simp [intOf]⟩
    case round =>
      clear h0
      obtain ⟨⟨k, g, safe, sn, st, rfl, hk, h, hg, hsn, hsl, hinv⟩, hgk⟩ := hrel
      by_cases hlt : k < acts.length
      · obtain ⟨kb2, o, rfl, hcs⟩ := (h.acts rfl HL.out).cells lq lc rfl k hlt
        have hin := HL.out.2 _ (List.getElem_mem hlt)
        have hfit := Lib.hid (Fit.acts hg hlt (h.act rfl hin).n (h.act rfl hin).k)
        have hfw := Lib.hid (hfew.out.at_ _ (List.getElem_mem hlt))
        have hmem := Lib.hid (List.getElem_mem hlt)
        obtain ⟨A, hA⟩ : ∃ A, A = acts[k] := ⟨_, rfl⟩
        rw [← hA] at hcs hfit hin hfw hmem
        have a0 : wr.cell? ⟨kb2, o + k * 6, none⟩ = some (.int .i64 A.op) := hcs 0 (by omega)
        have a1 : wr.cell? ⟨kb2, o + k * 6 + 1, none⟩ = some (.int .i64 A.f) := hcs 1 (by omega)
        have a2 : wr.cell? ⟨kb2, o + k * 6 + 2, none⟩ = some (.int .i64 A.g) := hcs 2 (by omega)
        have a3 : wr.cell? ⟨kb2, o + k * 6 + 3, none⟩ = some (.int .i64 A.n) := hcs 3 (by omega)
        have a4 : wr.cell? ⟨kb2, o + k * 6 + 4, none⟩ = some (.string A.s) := hcs 4 (by omega)
        have a5 : wr.cell? ⟨kb2, o + k * 6 + 5, none⟩ = some A.keep := hcs 5 (by omega)
        have hn : actSum (acts.take k) ≤ 1099511627776 := by have := actSum_take acts k; have := hfew.out.sum; omega
        have HIN := Lib.hid hin
        obtain ⟨qa, qc, hq⟩ := hin.2
        rw [hq] at a5
        have HG := Lib.hid hg
        have HN := Lib.hid hn
        have HSN := Lib.hid hsn
        have HSL := Lib.hid hsl
        have HINV := Lib.hid hinv
        have HGK := Lib.hid hgk
        have hbx := Lib.hid (h.inbox A.cells 30)
        unfold ActV.cells at hbx
        rw [hq] at hbx
        have HQ := Lib.hid hq
        clear hcs hin hA hq hg hn hsn hsl hinv hgk h
        go_upto_region 11 with fail
        obtain ⟨ab, hab⟩ : ∃ ab, ab = wr.heap.size := ⟨_, rfl⟩
        obtain ⟨w4, hw4⟩ : ∃ w4, w4 = wr.alloc (.cells #[.int .i64 A.op, .int .i64 A.f, .int .i64 A.g, .int .i64 A.n, .string A.s, .slice qa A.ks.length qc] 30) := ⟨_, rfl⟩
        have h := hbx.out
        rw [← hw4, ← hab] at h ⊢
        clear hw4 hab hbx a0 a1 a2 a3 a4 a5
        go_wp2_with fail
        refine (at_down h.at_).mono ?_
        rintro e w5 ⟨rfl, h'⟩
        have h := h.call h'; clear h'
        have b0 : w5.cell? ⟨ab, 0, none⟩ = some (.int .i64 A.op) := h.bcell rfl rfl 0 rfl
        have b1 : w5.cell? ⟨ab, 1, none⟩ = some (.int .i64 A.f) := h.bcell rfl rfl 1 rfl
        have b2 : w5.cell? ⟨ab, 2, none⟩ = some (.int .i64 A.g) := h.bcell rfl rfl 2 rfl
        have b3 : w5.cell? ⟨ab, 3, none⟩ = some (.int .i64 A.n) := h.bcell rfl rfl 3 rfl
        have b4 : w5.cell? ⟨ab, 4, none⟩ = some (.string A.s) := h.bcell rfl rfl 4 rfl
        have b5 : w5.cell? ⟨ab, 5, none⟩ = some (.slice qa A.ks.length qc) := h.bcell rfl rfl 5 rfl
        obtain ⟨D, hD⟩ : ∃ D, D = st.down := ⟨_, rfl⟩
        rw [← hD]
        have HD := Lib.hid hD
        clear hD
        have hpr := pickN_range A.op
        have hl5 := Lib.hid h
        clear h
        go_upto_region 13 with (go_at_call 12; refine (pick_any _ _).mono ?_; rintro e w6 ⟨rfl, rfl⟩)
        go_cut [68] (fun s wx => IsB w5 (lsC A (!D)) s wx)
        case first =>
          by_cases c1 : pickN A.op ≤ 1
          · cases D with
            | false =>
              by_cases c2 : 0 ≤ A.n
              · by_cases c3 : A.n < 4000
                · go_wp2_with fail
                  go_meet
                  exact ⟨by simp [lsC, c1, c2, c3], rfl⟩
                · have c3' : 4000 ≤ A.n := by omega
                  go_wp2_with fail
                  go_meet
                  exact ⟨by rw [lsC_no (by omega)], rfl⟩
              · have c2' : A.n < 0 := by omega
                go_wp2_with fail
                go_meet
                exact ⟨by rw [lsC_no (by omega)], rfl⟩
            | true =>
              go_wp2_with fail
              go_meet
              exact ⟨by simp [lsC], rfl⟩
          · have c1' : 1 < pickN A.op := by omega
            go_wp2_with fail
            go_meet
            exact ⟨by rw [lsC_no (by omega)], rfl⟩
        case rest =>
          obtain ⟨rfl, hwc⟩ := hcut
          subst wc
          have hsn1 := Lib.hid (snNext_lsC A (!D) sn)
          go_upto_if 68 with fail
          go_cut [8] (fun s wx => LsPre W.heap.size b sb W acts k (!D) A (.slice qa A.ks.length qc) ab st safe sn s wx)
          case first =>
            cases hc : lsC A (!D) with
            | true =>
              have hca : pickN A.op ≤ 1 ∧ 0 ≤ A.n ∧ A.n < 4000 := by
                unfold lsC at hc
                simp only [Bool.and_eq_true, decide_eq_true_eq] at hc
                exact ⟨hc.1.1.1, hc.1.2, hc.2⟩
              have hlit : Hid (Row (w5.alloc (.cells #[.int .i64 A.op, .int .i64 A.f, .int .i64 A.g, .int .i64 A.n, .string A.s, .slice qa A.ks.length qc] 30)) 30 6 (.slice (some ⟨w5.heap.size, 0, none⟩) 1 1) (some w5.heap.size) 1 [.int .i64 A.op, .int .i64 A.f, .int .i64 A.g, .int .i64 A.n, .string A.s, .slice qa A.ks.length qc]) := Row.lit w5 30 6 1 _ (by unfold maxLen; omega) rfl
              have hone : Hid (∀ u ∈ [Value.int .i64 A.op, .int .i64 A.f, .int .i64 A.g, .int .i64 A.n, .string A.s, .slice qa A.ks.length qc], u.oneCell' = true) := Lib.hid (by simp [Value.oneCell'])
              have hl6 := Lib.hid (hl5.out.still ((Upd.refl _ w5).alloc (.cells #[.int .i64 A.op, .int .i64 A.f, .int .i64 A.g, .int .i64 A.n, .string A.s, .slice qa A.ks.length qc] 30)))
              obtain ⟨pa, pc, hpf, _, _⟩ := hl5.out.row.form
              have HPF := Lib.hid hpf
              clear hpf
              have hkl2 : k ≤ 200 := by have := hfew.out.len; omega
              have hca' := Lib.hid hca
              clear hca
              go_wp2_with (at_builtin; refine wpList_append_row rfl (.tmp 69) (.tmp 71) 22 22 rfl 30 6 72 EAct _ g _ _ rfl hl6.out.row _ 1 _ rfl (Row.src (P := Try.prog) (e' := 30) (by kernel_rfl) hlit.out hone.out) _ rfl _ rfl ?b1 ?b2 ?_)
              case b1 => have := HSL.out; unfold maxLen; omega
              case b2 => have := HSL.out; omega
              intro v7 w7 g7 hrow7 hg7 hu7
              have h7 : LsAt W.heap.size b sb g7 (some ab) _ W w7 st safe v7 (sn ++ [A]) := hl6.out.since' hu7 (by
                rw [actsV_snoc, List.length_append]
                unfold ActV.cells
                rw [HQ.out]
                exact hrow7) (fun k' hk' => by
                  rcases hg7.some hk' with h | h
                  · exact .inl h
                  · exact .inr (by omega))
              have h7' := Lib.hid h7
              clear hrow7 hg7 hu7 hl6 hlit hone b0 b1 b2 b3 b4 b5 h7
              go_wp2_with fail
              go_meet
              exact ⟨g7, sn ++ [A], h7'.out, by rw [hsn1.out, if_pos hc], fun a ha => by
                rcases List.mem_append.1 ha with ha | ha
                · exact HSN.out a ha
                · obtain rfl : a = A := by simpa using ha
                  exact ⟨hmem.out, hca'.out.2⟩, by
                have := HSL.out
                rw [List.length_append]
                show _ + 1 ≤ _
                omega⟩
            | false =>
              clear b0 b1 b2 b3 b4 b5
              go_wp2_with fail
              go_meet
              exact ⟨g, sn, hl5.out, by rw [hsn1.out, hc]; rfl, HSN.out, by have := HSL.out; omega⟩
          case rest =>
            clear b0 b1 b2 b3 b4 b5
            obtain ⟨g7, sn7, h7, hsn7, hsub7, hlen7⟩ := hcut
            have HSN7 := Lib.hid hsn7
            have HSUB7 := Lib.hid hsub7
            have HLEN7 := Lib.hid hlen7
            clear hsn7 hsub7 hlen7
            have b0 : wc.cell? ⟨ab, 0, none⟩ = some (.int .i64 A.op) := h7.bcell rfl rfl 0 rfl
            have b1 : wc.cell? ⟨ab, 1, none⟩ = some (.int .i64 A.f) := h7.bcell rfl rfl 1 rfl
            have b2 : wc.cell? ⟨ab, 2, none⟩ = some (.int .i64 A.g) := h7.bcell rfl rfl 2 rfl
            have b3 : wc.cell? ⟨ab, 3, none⟩ = some (.int .i64 A.n) := h7.bcell rfl rfl 3 rfl
            have b4 : wc.cell? ⟨ab, 4, none⟩ = some (.string A.s) := h7.bcell rfl rfl 4 rfl
            have b5 : wc.cell? ⟨ab, 5, none⟩ = some (.slice qa A.ks.length qc) := h7.bcell rfl rfl 5 rfl
            have hdo := do_at h7.at_ HG.out HN.out A (h7.act rfl HIN.out)
            unfold ActV.cells at hdo
            rw [HQ.out] at hdo
            have HDO := Lib.hid hdo
            have H7 := Lib.hid h7
            clear hdo h7
            go_wp2_with fail
            refine HDO.out.mono ?_
            intro e w8 hd
            obtain ⟨rfl, h8'⟩ := hd
            have h8 := H7.out.call h8'
            clear h8' H7 HDO b0 b1 b2 b3 b4 b5
            obtain ⟨S8, hS8⟩ : ∃ S : ByteArray, strV (st.act A).1.1 = .string S := ⟨_, rfl⟩
            obtain ⟨E, hE⟩ : ∃ E : Nat, E = (st.act A).1.2 := ⟨_, rfl⟩
            obtain ⟨st1, hst1⟩ : ∃ st1, st1 = (st.act A).2 := ⟨_, rfl⟩
            have hfit1 := hfit.out
            rw [← hst1] at h8 hfit1
            rw [hS8, ← hE]
            have HE := Lib.hid hE
            have HST1 := Lib.hid hst1
            have HFIT1 := Lib.hid hfit1
            have H8 := Lib.hid h8
            clear hS8 hE hst1 hfit1 h8
            go_upto_region 16 with fail
            go_cut [88] (fun s wx => IsB w8 (okC A E) s wx)
            case first =>
              by_cases c1 : pickN A.op = 2
              · by_cases c2 : E = 0
                · subst c2
                  go_wp2_with fail
                  go_meet
                  exact ⟨by simp [okC, c1], rfl⟩
                · have c2' : ((E : Int) == 0) = false := beq_eq_false_iff_ne.2 (by omega)
                  go_wp2_with fail
                  go_meet
                  exact ⟨by rw [okC_no (by omega)], rfl⟩
              · have c1' : (pickN A.op == 2) = false := beq_eq_false_iff_ne.2 c1
                by_cases c3 : pickN A.op = 3
                · by_cases c2 : E = 0
                  · subst c2
                    go_wp2_with fail
                    go_meet
                    exact ⟨by simp [okC, c3], rfl⟩
                  · have c2' : ((E : Int) == 0) = false := beq_eq_false_iff_ne.2 (by omega)
                    go_wp2_with fail
                    go_meet
                    exact ⟨by rw [okC_no (by omega)], rfl⟩
                · have c3' : (pickN A.op == 3) = false := beq_eq_false_iff_ne.2 c3
                  go_wp2_with fail
                  go_meet
                  exact ⟨by rw [okC_no (by omega)], rfl⟩
            case rest =>
              obtain ⟨rfl, hwc⟩ := hcut
              subst wc
              cases hok : okC A E with
              | true =>
                obtain ⟨hk23, f, hf, hf12, hdn, hrd0, hinv1⟩ := lst_flush HINV.out HE.out HST1.out hok
                clear hok
                have e : sn = sn7 := by rw [← HSN7.out]; unfold snNext; rw [if_neg (by omega)]
                subst e
                obtain ⟨S, hS1, hS2⟩ := exB (st1.read (f : Int)).1
                have HS1 := Lib.hid hS1
                have HR0 := Lib.hid hrd0
                have HINV1 := Lib.hid hinv1
                have HDN := Lib.hid hdn
                have HS2 := Lib.hid hS2
                have hk2 : (pickN A.op == 4) = false := beq_eq_false_iff_ne.2 (by omega)
                have h8 := H8.out
                have hf2 := Lib.hid hf
                clear hrd0 hinv1 hdn hS1 hS2 hf H8
                go_upto_region 17 with fail
                have b1 : w8.cell? ⟨ab, 1, none⟩ = some (.int .i64 (f : Int)) := hf2.out ▸ h8.bcell rfl rfl 1 rfl
                have H8 := Lib.hid h8
                clear h8
                have hfi : (f : Int) < 12 := by omega
                refine PLM.wp_region_plm (fun w1 => w1.cell? ⟨ab, 1, none⟩ = some (.int .i64 (f : Int))) [(2, 4), (11, 3)] (by kernel_rfl) (by kernel_rfl) b1 ?_
                repeat (refine PLM.step0 rfl (fun K hK => ?_); go_simp; refine hK _ ?_; clear hK K)
                (refine PLM.step4 rfl (fun w1 hS => by go_simp) (fun K hK => ?_); go_simp; refine hK _ ?_; clear hK K)
                repeat (first | (refine PLM.step0 rfl (fun K hK => ?_); go_simp; refine hK _ ?_; clear hK K) | (refine PLM.step1 rfl rfl (fun K hK => ?_); go_simp; refine hK _ ?_; clear hK K))
                refine PLM.step2 rfl rfl (fun K hK => ?_)
                go_simp
                refine (ls_read H8.out.drew HFIT1.out (f : Int) S HS1.out HR0.out).mono ?_
                rintro e w9 ⟨rfl, h9⟩
                clear b1
                have b1 : w9.cell? ⟨ab, 1, none⟩ = some (.int .i64 (f : Int)) := hf2.out ▸ h9.bcell rfl rfl 1 rfl
                obtain ⟨T3, hsc3⟩ : ∃ T3, w9.cell? ⟨sb, f, none⟩ = some (.string T3) := ⟨_, h9.scell f hf12⟩
                have hfz3 := h9.sfroz f hf12
                have hlen9 := Lib.hid h9.slen
                have h10 := Lib.hid (h9.safe' f S)
                clear h9
                go_simp
                refine hK _ _ b1 ?_; clear hK K
                repeat (first | (refine PLM.step0 rfl (fun K hK => ?_); go_simp; refine hK _ ?_; clear hK K) | (refine PLM.step1 rfl rfl (fun K hK => ?_); go_simp; refine hK _ ?_; clear hK K))
                (refine PLM.step3 rfl rfl (fun K hK => ?_); go_simp; refine hK _ _ ?_; clear hK K)
                refine PLM.stepNil ?_
                have hcall := Lib.hid (without_any _ sn f _ h10.out.row.actsAt (fun a ha => (HL.out.2 a (HSN.out a ha).1).2) (by have := HSL.out; have := hfew.out.len; omega))
                have b1 : (w9.setCell ⟨sb, f, none⟩ (.string S)).cell? ⟨ab, 1, none⟩ = some (.int .i64 (f : Int)) := hf2.out ▸ h10.out.bcell rfl rfl 1 rfl
                go_wp2_with fail
                refine hcall.out.mono ?_
                intro e w11 hwo
                obtain ⟨v11, g11, rfl, hrow11, hg11, hu11⟩ := hwo
                have H9 := Lib.hid (h10.out.since' (hu11.mono fun _ _ h => h.elim) hrow11 (fun k hk => .inr (hg11 k hk)))
                have HI : Hid (LInv st1 (safeF (safe.set f S)) (others f sn)) := by
                  have := HINV1.out
                  rw [← HS2.out, ← safeF_set _ _ (by rw [hlen9.out]; exact hf12)] at this
                  exact Lib.hid this
                have HSUBX : Hid (SnSub acts (others f sn)) := Lib.hid (fun a ha => HSN.out a (others_mem ha))
                have HLENX : Hid ((others f sn).length ≤ k + 1) := Lib.hid (by have := HSL.out; have := others_len f sn; omega)
                have hdn := HDN
                clear hcall b1 hrow11 hg11 hu11 h10
                cases D with
                | true =>
                  go_wp2_with fail
                  go_roundg (acts.length - (k + 1))
                  case rel => exact ⟨⟨k + 1, _, _, (others f sn), st1, by simp, hlt, H9.out.unbox, HFIT1.out, HSUBX.out, HLENX.out, HI.out⟩, by simp [intOf]; omega⟩
                  case measure => have := HGK.out; simp [intOf] at this; omega
                | false =>
                  go_wp2_with fail
                  refine (calls_post (at_down H9.out.at_) (v' := .bool false) (by rw [hdn.out])).mono ?_
                  rintro e w10 ⟨rfl, h10'⟩
                  have h10 := H9.out.call h10'
                  go_wp2_with fail
                  go_roundg (acts.length - (k + 1))
                  case rel => exact ⟨⟨k + 1, _, _, (others f sn), st1, by simp, hlt, h10.unbox, HFIT1.out, HSUBX.out, HLENX.out, HI.out⟩, by simp [intOf]; omega⟩
                  case measure => have := HGK.out; simp [intOf] at this; omega
              | false =>
                go_upto_region 19 with fail
                go_cut [109] (fun s wx => IsB w8 (okT A E) s wx)
                case first =>
                  by_cases c1 : pickN A.op = 4
                  · by_cases c2 : E = 0
                    · subst c2
                      go_wp2_with fail
                      go_meet
                      exact ⟨by simp [okT, c1], rfl⟩
                    · have c2' : ((E : Int) == 0) = false := beq_eq_false_iff_ne.2 (by omega)
                      go_wp2_with fail
                      go_meet
                      exact ⟨by rw [okT_no (by omega)], rfl⟩
                  · have c1' : (pickN A.op == 4) = false := beq_eq_false_iff_ne.2 c1
                    go_wp2_with fail
                    go_meet
                    exact ⟨by rw [okT_no (by omega)], rfl⟩
                case rest =>
                  obtain ⟨rfl, hwc⟩ := hcut
                  subst wc
                  cases hok2 : okT A E with
                  | true =>
                    obtain ⟨hk4, i, j, hi, hj, hi12, hj12, hij, hdn', hinv1⟩ := lst_turn HINV.out HE.out HST1.out hok2
                    have e : sn = sn7 := by rw [← HSN7.out]; unfold snNext; rw [if_neg (by omega)]
                    subst e
                    have hdn := Lib.hid hdn'
                    have hii : (i : Int) < 12 := by omega
                    have hjj : (j : Int) < 12 := by omega
                    have HI1 := Lib.hid hi
                    have HJ1 := Lib.hid hj
                    have HINV1 := Lib.hid hinv1
                    clear hok hok2 hi hj hinv1 hdn'
                    go_upto_region 20 with fail
                    have h8 := H8.out
                    have b1 : w8.cell? ⟨ab, 1, none⟩ = some (.int .i64 (i : Int)) := HI1.out ▸ h8.bcell rfl rfl 1 rfl
                    have b2 : w8.cell? ⟨ab, 2, none⟩ = some (.int .i64 (j : Int)) := HJ1.out ▸ h8.bcell rfl rfl 2 rfl
                    obtain ⟨T, hT⟩ : ∃ T, T = safe[j]'(by rw [h8.slen]; exact hj12) := ⟨_, rfl⟩
                    have hT2 : T.data.toList = safeF safe j := by rw [hT, safeF_get]
                    have sj := h8.scell j hj12
                    rw [← hT] at sj
                    have HT2 := Lib.hid hT2
                    obtain ⟨T0, si⟩ : ∃ T0, w8.cell? ⟨sb, i, none⟩ = some (.string T0) := ⟨_, h8.scell i hi12⟩
                    have fi := h8.sfroz i hi12
                    have hlen8 := Lib.hid h8.slen
                    clear hT hT2
                    clear h8
                    refine PLM.wp_region_plm (fun _ => True) [] (by kernel_rfl) (by kernel_rfl) trivial ?_
                    repeat (first | (refine PLM.step0 rfl (fun K hK => ?_); go_simp; refine hK _ ?_; clear hK K) | (refine PLM.step1 rfl rfl (fun K hK => ?_); go_simp; refine hK _ ?_; clear hK K))
                    (refine PLM.step2 rfl rfl (fun K hK => ?_); go_simp; refine hK _ _ trivial ?_; clear hK K)
                    refine PLM.stepNil ?_
                    have h9 := (H8.out.safe' i T).drew
                    have b2' : (w8.setCell ⟨sb, i, none⟩ (.string T)).drew.cell? ⟨ab, 2, none⟩ = some (.int .i64 (j : Int)) := HJ1.out ▸ h9.bcell rfl rfl 2 rfl
                    obtain ⟨T1, sj'⟩ : ∃ T1, (w8.setCell ⟨sb, i, none⟩ (.string T)).drew.cell? ⟨sb, j, none⟩ = some (.string T1) := ⟨_, h9.scell j hj12⟩
                    have fj' := h9.sfroz j hj12
                    have H9' := Lib.hid (((H8.out.safe' i T).safe' j ⟨#[]⟩).drew)
                    clear b1 b2 sj si fi h9
                    go_upto_region 22 with fail
                    obtain ⟨w9, hw9⟩ : ∃ w9, w9 = ((w8.setCell ⟨sb, i, none⟩ (.string T)).setCell ⟨sb, j, none⟩ (.string ⟨#[]⟩)).drew := ⟨_, rfl⟩
                    have h10 := H9'.out
                    rw [← hw9] at h10
                    rw [← hw9]
                    have b1 : w9.cell? ⟨ab, 1, none⟩ = some (.int .i64 (i : Int)) := HI1.out ▸ h10.bcell rfl rfl 1 rfl
                    have b2 : w9.cell? ⟨ab, 2, none⟩ = some (.int .i64 (j : Int)) := HJ1.out ▸ h10.bcell rfl rfl 2 rfl
                    have hk200 : sn.length ≤ 200 := by have := HSL.out; have := hfew.out.len; omega
                    have hcall := Lib.hid (without_any _ sn i _ h10.drew.row.actsAt (fun a ha => (HL.out.2 a (HSN.out a ha).1).2) (by omega))
                    have H10 := Lib.hid h10
                    clear hw9 H9' b2' sj' fj' h10
                    refine PLM.wp_region_plm (fun w1 => w1.cell? ⟨ab, 2, none⟩ = some (.int .i64 (j : Int))) [(5, 4)] (by kernel_rfl) (by kernel_rfl) b2 ?_
                    repeat (first | (refine PLM.step0 rfl (fun K hK => ?_); go_simp; refine hK _ ?_; clear hK K) | (refine PLM.step1 rfl rfl (fun K hK => ?_); go_simp; refine hK _ ?_; clear hK K))
                    refine PLM.step2 rfl rfl (fun K hK => ?_)
                    go_simp
                    refine hcall.out.mono ?_
                    intro e w11 hwo
                    obtain ⟨v11, g11, rfl, hrow11, hg11, hu11⟩ := hwo
                    have h11 := H10.out.drew.since' (hu11.mono fun _ _ h => h.elim) hrow11 (fun k hk => .inr (hg11 k hk))
                    have b2 : w11.cell? ⟨ab, 2, none⟩ = some (.int .i64 (j : Int)) := HJ1.out ▸ h11.bcell rfl rfl 2 rfl
                    have hcall2 := Lib.hid (without_any _ (others i sn) j _ h11.row.actsAt (fun a ha => (HL.out.2 a (HSN.out a (others_mem ha)).1).2) (by have := others_len i sn; omega))
                    have H11 := Lib.hid h11
                    clear hcall hrow11 hg11 hu11 b1 h11
                    go_simp
                    refine hK _ _ b2 ?_; clear hK K
                    repeat (refine PLM.step0 rfl (fun K hK => ?_); go_simp; refine hK _ ?_; clear hK K)
                    (refine PLM.step4 rfl (fun w1 hS => by go_simp) (fun K hK => ?_); go_simp; refine hK _ ?_; clear hK K)
                    refine PLM.step2 rfl rfl (fun K hK => ?_)
                    go_simp
                    refine hcall2.out.mono ?_
                    intro e w12 hwo
                    obtain ⟨v12, g12, rfl, hrow12, hg12, hu12⟩ := hwo
                    have h12 := H11.out.since' (hu12.mono fun _ _ h => h.elim) hrow12 (fun k hk => .inr (hg12 k hk))
                    have b2 : w12.cell? ⟨ab, 2, none⟩ = some (.int .i64 (j : Int)) := HJ1.out ▸ h12.bcell rfl rfl 2 rfl
                    have H9 := Lib.hid h12
                    clear hcall2 hrow12 hg12 hu12 H11 h12
                    go_simp
                    refine hK _ _ b2 ?_; clear hK K
                    repeat (first | (refine PLM.step0 rfl (fun K hK => ?_); go_simp; refine hK _ ?_; clear hK K) | (refine PLM.step1 rfl rfl (fun K hK => ?_); go_simp; refine hK _ ?_; clear hK K))
                    refine PLM.stepNil ?_
                    have HI : Hid (LInv st1 (safeF ((safe.set i T).set j ByteArray.empty)) (others j (others i sn))) := by
                      have := HINV1.out
                      rw [← HT2.out, ← safeF_set _ _ (by rw [hlen8.out]; exact hi12)] at this
                      rw [safeF_set (safe.set i T) j (by rw [List.length_set, hlen8.out]; exact hj12)]
                      exact Lib.hid this
                    have HSUBX : Hid (SnSub acts (others j (others i sn))) := Lib.hid (fun a ha => HSN.out a (others_mem (others_mem ha)))
                    have HLENX : Hid ((others j (others i sn)).length ≤ k + 1) := Lib.hid (by have := HSL.out; have := others_len i sn; have := others_len j (others i sn); omega)
                    clear b2
                    cases D with
                    | true =>
                      go_wp2_with fail
                      go_roundg (acts.length - (k + 1))
                      case rel => exact ⟨⟨k + 1, _, _, (others j (others i sn)), st1, by simp, hlt, H9.out.unbox, HFIT1.out, HSUBX.out, HLENX.out, HI.out⟩, by simp [intOf]; omega⟩
                      case measure => have := HGK.out; simp [intOf] at this; omega
                    | false =>
                      go_wp2_with fail
                      refine (calls_post (at_down H9.out.at_) (v' := .bool false) (by rw [hdn.out])).mono ?_
                      rintro e w10 ⟨rfl, h10'⟩
                      have h10 := H9.out.call h10'
                      go_wp2_with fail
                      go_roundg (acts.length - (k + 1))
                      case rel => exact ⟨⟨k + 1, _, _, (others j (others i sn)), st1, by simp, hlt, h10.unbox, HFIT1.out, HSUBX.out, HLENX.out, HI.out⟩, by simp [intOf]; omega⟩
                      case measure => have := HGK.out; simp [intOf] at this; omega
                  | false =>
                    have HNX := Lib.hid (lst_other HINV.out HE.out HST1.out HD.out hfw.out hok hok2 HSN7.out)
                    clear hok hok2
                    cases D with
                    | true =>
                      go_wp2_with fail
                      go_roundg (acts.length - (k + 1))
                      case rel => exact ⟨⟨k + 1, _, _, sn7, st1, by simp, hlt, H8.out.unbox, HFIT1.out, HSUB7.out, HLEN7.out, HNX.out.2 (by simp)⟩, by simp [intOf]; omega⟩
                      case measure => have := HGK.out; simp [intOf] at this; omega
                    | false =>
                      go_wp2_with fail
                      refine (at_down H8.out.at_).mono ?_
                      rintro e w10 ⟨rfl, h10'⟩
                      have h10 := H8.out.call h10'
                      clear h10'
                      cases hdn : st1.down with
                      | false =>
                        go_wp2_with fail
                        go_roundg (acts.length - (k + 1))
                        case rel => exact ⟨⟨k + 1, _, _, sn7, st1, by simp, hlt, h10.unbox, HFIT1.out, HSUB7.out, HLEN7.out, HNX.out.2 (by simp [hdn])⟩, by simp [intOf]; omega⟩
                        case measure => have := HGK.out; simp [intOf] at this; omega
                      | true =>
                        have HCR := Lib.hid (HNX.out.1 ⟨by first | rfl | trivial, hdn⟩)
                        clear hdn
                        go_wp2_with fail
                        refine (at_start h10.at_).mono ?_
                        rintro e w11 ⟨rfl, h11'⟩
                        have h11 := (h10.call h11').unbox
                        have hin0 : Hid (LsIn W.heap.size b sb _ W st1.start safe _ sn7 (.int .i64 0) w11) := ⟨0, safe, rfl, by omega, h11, (fun i hi => by omega), fun _ _ => rfl⟩
                        clear h11' h11 h10 H8
                        go_wp2_with fail
                        go_loopg [15] 12 (fun g2 j w' => LsIn W.heap.size b sb _ W st1.start safe _ sn7 j w' ∧ (intOf j).toNat + g2 = 12)
                        case atStart => exact ⟨hin0.out, by simp [intOf]⟩
                        case round =>
                          clear hin0
                          obtain ⟨⟨f, sf, rfl, hf12, h, hlo, hhi⟩, hgf⟩ := hrel
                          have HLO := Lib.hid hlo
                          have HHI := Lib.hid hhi
                          have HGF := Lib.hid hgf
                          clear hlo hhi hgf
                          by_cases hf : f < 12
                          · have hfi : (f : Int) < 12 := by omega
                            obtain ⟨hrd, hhere⟩ := HCR.out.read f hf
                            obtain ⟨S, hS1, hS2⟩ := exB (st1.dur f)
                            have hdl := HFIT1.out.good.dur f hf
                            rw [← hS2] at hhere hdl
                            rw [data_len] at hdl
                            have HS2 := Lib.hid hS2
                            have hcall := Lib.hid (calls_post (at_read h.at_ HFIT1.out.start (f : Int)) (v' := .tuple #[.string S, .int .i64 0]) (by rw [hrd]; simp [hS1]))
                            have hhere' := Lib.hid hhere
                            clear hrd hhere hS1 hS2
                            go_wp2_with fail
                            refine hcall.out.mono ?_
                            rintro e w12 ⟨rfl, h12'⟩
                            have h12 := h.call h12'
                            clear h12' hcall h
                            obtain ⟨T, hT⟩ : ∃ T, T = sf[f]'(by rw [h12.slen]; exact hf) := ⟨_, rfl⟩
                            have hT2 : T.data.toList = safeF safe f := by rw [hT, safeF_get, HHI.out f (Nat.le_refl _)]
                            have hsc := h12.scell f hf
                            rw [← hT] at hsc
                            have hTS : T.size ≤ 140737488355328 := by have := hhere'.out.1; rw [← hT2, data_len, data_len] at this; omega
                            have hsn200 : (sn7).length ≤ 1000 := by have := HLEN7.out; have := hfew.out.len; omega
                            have hcall2 := Lib.hid (here_at h12 HSUB7.out hsn200 (fun a ha => by
                              have hi := HL.out.2 a ha
                              exact ⟨hi.1.s, hi.2⟩) S T f (by omega) hTS (by rw [hT2]; exact hhere'.out))
                            clear hT hT2 hhere'
                            go_wp2_with fail
                            refine hcall2.out.mono ?_
                            rintro e w13 ⟨rfl, hu13⟩
                            have h13 := h12.still hu13
                            clear hcall2 h12
                            obtain ⟨T3, hsc3⟩ : ∃ T3, w13.cell? ⟨sb, f, none⟩ = some (.string T3) := ⟨_, h13.scell f hf⟩
                            have hfz := h13.sfroz f hf
                            have h14 := Lib.hid (h13.safe' f S)
                            have hlen14 := Lib.hid h13.slen
                            clear h13
                            go_wp2_with fail
                            go_roundg (12 - (f + 1))
                            case rel =>
                              refine ⟨⟨f + 1, sf.set f S, by simp, by omega, h14.out, fun i hi => ?_, fun i hi => ?_⟩, by simp [intOf]; omega⟩
                              · rw [safeF_set _ _ (by rw [hlen14.out]; exact hf), HS2.out]
                                by_cases e : i = f
                                · rw [e, up_same]; rfl
                                · rw [up_other _ _ e, HLO.out i (by omega)]
                              · rw [safeF_set _ _ (by rw [hlen14.out]; exact hf), up_other _ _ (by omega), HHI.out i (by omega)]
                            case measure => have := HGF.out; simp [intOf] at this; omega
                          · obtain rfl : f = 12 := by omega
                            have h15 := h.since' (Upd.refl _ _) (Row.empty wr 30 6) (sn' := []) (fun _ h => by cases h)
                            clear h
                            go_wp2_with fail
                            refine (at_crash_nil h15.at_ HFIT1.out.start).mono ?_
                            rintro e w16 ⟨rfl, h16'⟩
                            have h16 := h15.call h16'
                            go_wp2_with fail
                            go_roundg (acts.length - (k + 1))
                            case rel => exact ⟨⟨k + 1, none, sf, [], _, by simp, hlt, h16, (HFIT1.out.start).doCrash [], (fun a ha => by cases ha), Nat.zero_le _, HCR.out.again _ fun f hf => HLO.out f hf⟩, by simp [intOf]; omega⟩
                            case measure => have := HGK.out; simp [intOf] at this; omega
      · have hke : k = acts.length := by omega
        subst hke
        rw [List.take_length] at hg
        have hg' : Fit st 5000 := hg.mono hfew.out.sum
        have HFIT := Lib.hid hg'
        have HINV := Lib.hid hinv
        have HSN := Lib.hid hsn
        have hsn200 : sn.length ≤ 200 := by have := hfew.out.len; omega
        clear hg hg' hlt hinv hsn hgk hsl hk
        go_wp2_with fail
        refine (at_arm_nil h.at_ 0).mono ?_
        rintro e w4 ⟨rfl, h4'⟩
        have h4 := h.call h4'
        clear h4' h
        go_wp2_with fail
        refine (at_start h4.at_).mono ?_
        rintro e w5 ⟨rfl, h5'⟩
        have h5 := h4.call h5'
        clear h5' h4
        obtain ⟨st2, hst2⟩ : ∃ st2, st2 = (st.arm 0 []).start := ⟨_, rfl⟩
        rw [← hst2] at h5
        have HF2 : Hid (Fit st2 5000) := by rw [hst2]; exact Lib.hid (HFIT.out.arm (by omega) (by simp)).start
        have HD2 : Hid (st2.down = false) := by rw [hst2]; exact Lib.hid rfl
        have HI2 : Hid (LInv st2 (safeF safe) sn) := by rw [hst2]; exact Lib.hid ⟨HINV.out.dur, HINV.out.pend, fun h => by cases h⟩
        have hwas0 : Hid (LsWas W.heap.size b sb g W st2 safe u8 sn (.slice none 0 0) (.int .i64 0) w5) := Lib.hid ⟨0, none, default, rfl, by omega, h5, Row.empty _ _ _⟩
        clear hst2 h5
        go_wp2_with fail
        go_loopg [18, 19] 12 (fun g2 s j w' => LsWas W.heap.size b sb g W st2 safe u8 sn s j w' ∧ (intOf j).toNat + g2 = 12)
        case atStart => exact ⟨hwas0.out, by simp [intOf]⟩
        case round =>
          clear hwas0
          obtain ⟨⟨f, gw, ob, rfl, hf12, h, hrow⟩, hgf⟩ := hrel
          have HGF := Lib.hid hgf
          have HROW := Lib.hid hrow
          clear hgf hrow
          by_cases hf : f < 12
          · have hfi : (f : Int) < 12 := by omega
            go_wp2_with fail
            refine (ls_size h f hf).mono ?_
            rintro e w6 ⟨rfl, h6⟩
            have hrow6 := HROW.out.same h h6
            clear h HROW
            have hlit : Hid (Row (w6.alloc (.cells #[.int .i64 (st2.siz f : Int)] 3)) 3 1 (.slice (some ⟨w6.heap.size, 0, none⟩) 1 1) (some w6.heap.size) 1 [.int .i64 (st2.siz f : Int)]) := Lib.hid (Row.lit w6 3 1 1 _ (by unfold maxLen; omega) rfl)
            have hone : Hid (∀ u ∈ [Value.int .i64 (st2.siz f : Int)], u.oneCell' = true) := Lib.hid (by simp [Value.oneCell'])
            have hl7 := Lib.hid (h6.still ((Upd.refl _ w6).alloc (.cells #[.int .i64 (st2.siz f : Int)] 3)))
            have hrow7 := Lib.hid (hrow6.same h6 hl7.out)
            clear h6 hrow6
            go_wp2_with (at_builtin; refine wpList_append_row rfl (.tmp 170) (.tmp 174) 23 23 rfl 3 1 8 ints1 _ gw _ _ rfl hrow7.out _ 1 _ rfl (Row.src (P := Try.prog) (e' := 3) (by kernel_rfl) hlit.out hone.out) _ rfl _ rfl ?b1 ?b2 ?_)
            case b1 => unfold maxLen; omega
            case b2 => omega
            intro v8 w8 g8 hrow8 hg8 hu8
            obtain ⟨ob8, h8⟩ := hl7.out.was hu8 hrow8 (fun k hk => (hg8.some hk).imp id (fun h => by omega))
            have h8' := Lib.hid h8
            have hrow8' := Lib.hid hrow8
            clear hrow8 hg8 hu8 h8 hl7 hrow7 hlit hone
            go_wp2_with fail
            go_roundg (12 - (f + 1))
            case rel => exact ⟨⟨f + 1, g8, ob8, by simp, by omega, h8'.out, by rw [wasV_snoc]; exact hrow8'.out⟩, by simp [intOf]; omega⟩
            case measure => have := HGF.out; simp [intOf] at this; omega
          · obtain rfl : f = 12 := by omega
            have hact := h.act rfl HK.out
            obtain ⟨kb, hkb1, hkb2⟩ := hact.keep
            have hcr := Lib.hid (at_crash h.at_ HF2.out _ ks kb hkb1 hkb2)
            clear hact hkb1 hkb2
            go_wp2_with fail
            refine hcr.out.mono ?_
            rintro e w6 ⟨rfl, h6'⟩
            have h6 := h.call h6'
            have hrow6 := HROW.out.same h h6
            clear h6' h HROW hcr
            go_wp2_with fail
            refine (at_start h6.at_).mono ?_
            rintro e w7 ⟨rfl, h7'⟩
            have h7 := h6.call h7'
            have hrow7 := hrow6.same h6 h7
            clear h7' h6 hrow6
            obtain ⟨bw, cw, hwv, hgw, _, _⟩ := hrow7.pos (by omega)
            subst hgw
            have hfin0 : Hid (LsFin W.heap.size b sb g (some bw) ob W st2 (st2.doCrash ks).start safe u8 sn (.slice (some ⟨bw, 0, none⟩) 12 cw) (.int .i64 0) w7) := Lib.hid ⟨0, rfl, by omega, h7, hwv ▸ hrow7⟩
            have hwv' := Lib.hid hwv
            clear h7 hrow7 hwv
            rw [hwv'.out]
            go_wp2_with fail
            go_loopg [20] 12 (fun g2 j w' => LsFin W.heap.size b sb g (some bw) ob W st2 (st2.doCrash ks).start safe u8 sn (.slice (some ⟨bw, 0, none⟩) 12 cw) j w' ∧ (intOf j).toNat + g2 = 12)
            case atStart => exact ⟨hfin0.out, by simp [intOf]⟩
            case round =>
              clear hfin0
              obtain ⟨⟨f, rfl, hf12, h, hrow⟩, hgf⟩ := hrel
              have HGF := Lib.hid hgf
              clear hgf
              by_cases hf : f < 12
              · have hfi : (f : Int) < 12 := by omega
                obtain ⟨hrd, hhere, hlen⟩ := HI2.out.last HF2.out.good HD2.out ks f hf
                obtain ⟨S, hS1, hS2⟩ := exB ((st2.doCrash ks).dur f)
                have hdl := (HF2.out.doCrash ks).good.dur f hf
                rw [← hS2] at hhere hdl hlen
                rw [data_len] at hdl hlen
                have hread := Lib.hid (ls_read h (HF2.out.doCrash ks).start (f : Int) S (by rw [hrd, hS1]) (by rw [hrd]))
                have hhere' := Lib.hid hhere
                clear hrd hhere hS1 hS2
                go_wp2_with fail
                refine hread.out.mono ?_
                rintro e w8 ⟨rfl, h8⟩
                have hrow8 := hrow.same h h8
                clear hread h hrow
                obtain ⟨T, hT⟩ : ∃ T, T = safe[f]'(by rw [h8.slen]; exact hf) := ⟨_, rfl⟩
                have hT2 : T.data.toList = safeF safe f := by rw [hT, safeF_get]
                have hsc := h8.scell f hf
                rw [← hT] at hsc
                have hTS : T.size ≤ 140737488355328 := by have := hhere'.out.1; rw [← hT2, data_len, data_len] at this; omega
                have hcall2 := Lib.hid (here_at h8 HSN.out (by omega) (fun a ha => by
                  have hi := HL.out.2 a ha
                  exact ⟨hi.1.s, hi.2⟩) S T f (by omega) hTS (by rw [hT2]; exact hhere'.out))
                clear hT hT2 hhere'
                go_wp2_with fail
                refine hcall2.out.mono ?_
                rintro e w9 ⟨rfl, hu9⟩
                have h9 := h8.still hu9
                have hrow9 := hrow8.same h8 h9
                have hwc : w9.cell? ⟨bw, f, none⟩ = some (.int .i64 (st2.siz f : Int)) := hrow9.cell rfl (by unfold wasV; rw [List.getElem?_map, List.getElem?_range hf]; rfl)
                have H9 := Lib.hid h9
                have HR9 := Lib.hid hrow9
                clear hcall2 h8 hrow8 hu9 h9 hrow9 hsc
                go_wp2_with fail
                go_roundg (12 - (f + 1))
                case rel => exact ⟨⟨f + 1, by simp, by omega, H9.out, HR9.out⟩, by simp [intOf]; omega⟩
                case measure => have := HGF.out; simp [intOf] at this; omega
              · obtain rfl : f = 12 := by omega
                go_wp2
                go_ret
                exact ⟨rfl, h.old⟩
end Go.Proofs.Ythfnnkfdpnkodaa
