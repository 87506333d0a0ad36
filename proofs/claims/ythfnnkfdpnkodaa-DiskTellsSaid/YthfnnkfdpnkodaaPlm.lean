/- A region that draws its order, walked once in the order of the text: operations that hold in every world of a class (kind 0), that read (kind 1), that move the world (kind 2; each of these stands in a forced order against all that moves or reads). -/
import Derived.Still
import Derived.Tactics
import Derived.KernelRfl
namespace Go.Proofs.Ythfnnkfdpnkodaa.PLM

section
variable {P : Program} {ops : Array Oper} {Q : Exit → Act → World → Prop}

/-- Q at the normal end alone. -/
def Only (Q : Exit → Act → World → Prop) : Exit → Act → World → Prop
  | .normal, a, w => Q .normal a w
  | _, _, _ => False

theorem not_letsOut : ¬ LetsOut (Only Q) := fun ⟨_, _, h⟩ => h

/-- 'a'' is 'a' behind an operation that writes 'dst'. -/
def PutOf (a : Act) (dst : Option Tmp) (a' : Act) : Prop := ∃ ds u, a' = ({ a with defers := ds } : Act).put dst u

/-- in state a, world w: the operation yields v and leaves the world alone; no call. -/
def YieldsD (P : Program) (ops : Array Oper) (w : World) (o : Oper) (v : Value) (a : Act) : Prop :=
  (Region.wanted o (yielded ops a.tmps) = true ∧ ((execOp a.eval o).run P w = .ok (.value v) w ∨ ((execOp a.eval o).run P w = .ok .skip w ∧ v = undef))) ∨
  (Region.wanted o (yielded ops a.tmps) = false ∧ v = undef)

theorem YieldsD.det {w : World} {o : Oper} {v v' : Value} {a : Act} (h : YieldsD P ops w o v a) (h' : YieldsD P ops w o v' a) : v = v' := by
  rcases h with ⟨hw, h | ⟨h, rfl⟩⟩ | ⟨hw, rfl⟩ <;> rcases h' with ⟨hw', h' | ⟨h', rfl⟩⟩ | ⟨hw', rfl⟩ <;> simp_all

theorem exec_of {o : Oper} (hs : ∀ cs b, o.op ≠ .select cs b) {a a' : Act} {dst : Option Tmp} (hp : PutOf a dst a') (h : ∀ d, dst = some d → d ∉ o.looksAt ops) :
    execOp a'.eval o = execOp a.eval o ∧ Region.wanted o (yielded ops a'.tmps) = Region.wanted o (yielded ops a.tmps) := by
  obtain ⟨ds, u, rfl⟩ := hp
  have h1 := execOp_put (ops := ops) o hs ({ a with defers := ds } : Act) dst u h
  have h2 := wanted_put (ops := ops) o ({ a with defers := ds } : Act) dst u h
  exact ⟨h1, h2⟩

theorem YieldsD.iff {w : World} {o : Oper} {v : Value} (hs : ∀ cs b, o.op ≠ .select cs b) {a a' : Act} {dst : Option Tmp} (hp : PutOf a dst a') (h : ∀ d, dst = some d → d ∉ o.looksAt ops) :
    YieldsD P ops w o v a' ↔ YieldsD P ops w o v a := by
  obtain ⟨h1, h2⟩ := exec_of (ops := ops) hs hp h
  unfold YieldsD
  rw [h1, h2]

theorem YieldsAt.iff {w : World} {o : Oper} {v : Value} (hs : ∀ cs b, o.op ≠ .select cs b) {a a' : Act} {dst : Option Tmp} (hp : PutOf a dst a') (h : ∀ d, dst = some d → d ∉ o.looksAt ops) :
    YieldsAt P ops w o v a' ↔ YieldsAt P ops w o v a := by
  obtain ⟨h1, h2⟩ := exec_of (ops := ops) hs hp h
  unfold YieldsAt
  rw [h1, h2]

theorem putOf_put (a : Act) (dst : Option Tmp) (u : Value) : PutOf a dst (a.put dst u) := ⟨a.defers, u, rfl⟩

/-- forward: operation k behind the write of v to di, k not minding it. -/
theorem wpOp_fwd {k : Nat} {ok : Oper} (hk : ops[k]? = some ok) (hs : ∀ cs b, ok.op ≠ .select cs b) {di : Option Tmp} {v : Value}
    (h1 : ∀ d, di = some d → d ∉ ok.looksAt ops) (h2 : ∀ d, di = some d → ok.dst ≠ some d) {K : Act → World → Prop} {a : Act} {w : World}
    (h : wpOp P ops (Only Q) k K (a.put di v) w) : wpOp P ops (Only Q) k (fun a' w' => PutOf a ok.dst a' ∧ K (a'.put di v) w') a w := by
  unfold wpOp at *
  simp only [hk] at *
  rw [wanted_put ok a di v h1] at h
  split
  · rename_i hw
    simp only [hw, if_true] at h
    rcases h with h | ⟨_, hl⟩
    case inr => exact absurd hl not_letsOut
    refine .inl ?_
    unfold Oper.wp at *
    rw [execOp_put ok hs a di v h1] at h
    generalize (execOp a.eval ok).run P w = r at *
    cases r with
    | ok n w' =>
      cases n <;> simp only [Oper.upon] at h ⊢
      case value u => exact ⟨putOf_put _ _ _, by rw [← Act.put_comm a v u h2]; exact h⟩
      case skip => exact ⟨putOf_put _ _ _, by rw [← Act.put_comm a v undef h2]; exact h⟩
      case defer d =>
        refine ⟨⟨_, undef, rfl⟩, ?_⟩
        rw [← Act.put_comm _ v undef h2, ← Act.put_defers]
        exact h
      case enter f args =>
        refine Calls.mono h fun e w'' he => ?_
        cases e with
        | returned u => exact ⟨putOf_put _ _ _, by rw [← Act.put_comm a v u h2]; exact he⟩
        | panicked c => exact he
        | outgrown => exact he
      case row row args => exact Rows.mono h fun u w'' he => ⟨putOf_put _ _ _, by rw [← Act.put_comm a v u h2]; exact he⟩
    | halt x w' =>
      cases x <;> simp only [Oper.upon] at h ⊢
      case panic u => exact h
  · rename_i hw
    simp only [hw] at h
    exact ⟨putOf_put _ _ _, by rw [← Act.put_comm a v undef h2]; exact h⟩

/-- backward. -/
theorem wpOp_bwd {k : Nat} {ok : Oper} (hk : ops[k]? = some ok) (hs : ∀ cs b, ok.op ≠ .select cs b) {di : Option Tmp} {v : Value}
    (h1 : ∀ d, di = some d → d ∉ ok.looksAt ops) (h2 : ∀ d, di = some d → ok.dst ≠ some d) {K K' : Act → World → Prop} {a : Act} {w : World}
    (h : wpOp P ops (Only Q) k K a w) (hK : ∀ a' w', PutOf a ok.dst a' → K a' w' → K' (a'.put di v) w') : wpOp P ops (Only Q) k K' (a.put di v) w := by
  unfold wpOp at *
  simp only [hk] at *
  rw [wanted_put ok a di v h1]
  split
  · rename_i hw
    simp only [hw, if_true] at h
    rcases h with h | ⟨_, hl⟩
    case inr => exact absurd hl not_letsOut
    refine .inl ?_
    unfold Oper.wp at *
    rw [execOp_put ok hs a di v h1]
    generalize (execOp a.eval ok).run P w = r at *
    cases r with
    | ok n w' =>
      cases n <;> simp only [Oper.upon] at h ⊢
      case value u => rw [Act.put_comm a v u h2]; exact hK _ _ (putOf_put _ _ _) h
      case skip => rw [Act.put_comm a v undef h2]; exact hK _ _ (putOf_put _ _ _) h
      case defer d => rw [Act.put_defers, Act.put_comm _ v undef h2]; exact hK _ _ ⟨_, undef, rfl⟩ h
      case enter f args =>
        refine Calls.mono h fun e w'' he => ?_
        cases e with
        | returned u => show K' _ _; rw [Act.put_comm a v u h2]; exact hK _ _ (putOf_put _ _ _) he
        | panicked c => exact he
        | outgrown => exact absurd he not_letsOut
      case row row args => exact Rows.mono h fun u w'' he => by rw [Act.put_comm a v u h2]; exact hK _ _ (putOf_put _ _ _) he
    | halt x w' =>
      cases x <;> simp only [Oper.upon] at h ⊢
      case panic u => exact h
  · rename_i hw
    simp only [hw] at h
    rw [Act.put_comm a v undef h2]; exact hK _ _ (putOf_put _ _ _) h

/-- an operation that comes to something comes to something. -/
theorem wpOp_some {k : Nat} {ok : Oper} (hk : ops[k]? = some ok) {K : Act → World → Prop} {a : Act} {w : World}
    (h : wpOp P ops (Only Q) k K a w) (hK : ∀ a' w', PutOf a ok.dst a' → K a' w' → False) : False := by
  unfold wpOp at *
  simp only [hk] at *
  split at h
  · rcases h with h | ⟨_, hl⟩
    case inr => exact absurd hl not_letsOut
    unfold Oper.wp at *
    generalize (execOp a.eval ok).run P w = r at *
    cases r with
    | ok n w' =>
      cases n <;> simp only [Oper.upon] at h
      case value u => exact hK _ _ (putOf_put _ _ _) h
      case skip => exact hK _ _ (putOf_put _ _ _) h
      case defer d => exact hK _ _ ⟨_, undef, rfl⟩ h
      case enter f args =>
        obtain ⟨e, w'', fr, he, _⟩ := h []
        cases e with
        | returned u => exact hK _ _ (putOf_put _ _ _) he
        | panicked c => exact he
        | outgrown => exact absurd he not_letsOut
      case row row args =>
        obtain ⟨u, w'', he, _⟩ := h default []
        exact hK _ _ (putOf_put _ _ _) he
    | halt x w' =>
      cases x <;> simp only [Oper.upon] at h
      case panic u => exact h
  · exact hK _ _ (putOf_put _ _ _) h

/-- 0: holds in every world; 1: reads; 2: moves the world and keeps S; 3: moves the world; 4: holds in every world of S. -/
abbrev Kinds := Nat → Nat

/-- The walk in the order of the text. -/
def wpC (P : Program) (ops : Array Oper) (Q : Exit → Act → World → Prop) (S : World → Prop) (kd : Kinds) : List Nat → Act → World → Prop
  | [], a, w => Q .normal a w
  | i :: rest, a, w => ∃ o, ops[i]? = some o ∧
    if kd i = 0 ∨ kd i = 4 then ∃ v, (∀ w1, (kd i = 4 → S w1) → YieldsD P ops w1 o v a) ∧ wpC P ops Q S kd rest (a.put o.dst v) w
    else if kd i = 1 then ∃ v, YieldsAt P ops w o v a ∧ wpC P ops Q S kd rest (a.put o.dst v) w
    else wpOp P ops (Only Q) i (fun a' w' => (kd i = 3 ∨ S w') ∧ wpC P ops Q S kd rest a' w') a w

/-- may operation i come ahead of operation k, which stands before it in the text? -/
def compat (ops : Array Oper) (kd : Kinds) (k i : Nat) : Bool :=
  (match ops[k]?, ops[i]? with
   | some ok, some oi => ok.apart ops oi && oi.apart ops ok
   | _, _ => false) &&
  (kd k == 0 || kd i == 0 || (kd i == 4 && kd k != 3) || (kd i == 1 && (kd k == 1 || kd k == 4)) || (kd i == 2 && kd k == 4))

structure Compat (ops : Array Oper) (kd : Kinds) (k i : Nat) (ok oi : Oper) : Prop where
  l1 : ∀ d, ok.dst = some d → d ∉ oi.looksAt ops
  l2 : ∀ d, oi.dst = some d → d ∉ ok.looksAt ops
  d1 : ∀ d, ok.dst = some d → oi.dst ≠ some d
  d2 : ∀ d, oi.dst = some d → ok.dst ≠ some d
  kinds : kd k = 0 ∨ kd i = 0 ∨ (kd i = 4 ∧ kd k ≠ 3) ∨ (kd i = 1 ∧ (kd k = 1 ∨ kd k = 4)) ∨ (kd i = 2 ∧ kd k = 4)

theorem compat_spec {kd : Kinds} {k i : Nat} {ok oi : Oper} (hk : ops[k]? = some ok) (hi : ops[i]? = some oi) (h : compat ops kd k i = true) : Compat ops kd k i ok oi := by
  simp only [compat, hk, hi, Bool.and_eq_true, Bool.or_eq_true, beq_iff_eq, bne_iff_ne] at h
  obtain ⟨⟨h1, h2⟩, h3⟩ := h
  obtain ⟨a1, a2, a3⟩ := Oper.apart_spec h1
  obtain ⟨b1, b2, b3⟩ := Oper.apart_spec h2
  refine ⟨a1, b1, a2, b2, ?_⟩
  rcases h3 with (((h | h) | h) | h) | h
  · exact .inl h
  · exact .inr (.inl h)
  · exact .inr (.inr (.inl h))
  · exact .inr (.inr (.inr (.inl h)))
  · exact .inr (.inr (.inr (.inr h)))

variable {S : World → Prop} {kd : Kinds}

theorem pull0 (hsel : Region.noSelect ops = true) {i : Nat} {oi : Oper} (hi : ops[i]? = some oi) (hki : kd i = 0 ∨ kd i = 4) {c2 : List Nat} :
    ∀ (c1 : List Nat) (a : Act) (w : World), (kd i = 4 → S w) → (∀ k ∈ c1, ∀ ok, ops[k]? = some ok → Compat ops kd k i ok oi) → wpC P ops Q S kd (c1 ++ i :: c2) a w →
      ∃ v, (∀ w1, (kd i = 4 → S w1) → YieldsD P ops w1 oi v a) ∧ wpC P ops Q S kd (c1 ++ c2) (a.put oi.dst v) w
  | [], a, w, _, _, h => by
    obtain ⟨o, ho, h⟩ := h
    rw [hi] at ho; obtain rfl := Option.some.inj ho
    rw [if_pos hki] at h
    exact h
  | k :: c1, a, w, hS, hc, h => by
    obtain ⟨ok, hok, h⟩ := h
    have hcm := hc k (by simp) ok hok
    have hc' : ∀ k ∈ c1, ∀ ok, ops[k]? = some ok → Compat ops kd k i ok oi := fun k hk => hc k (by simp [hk])
    have hsi := fun cs b => Region.noSelect_spec hsel i oi cs b hi
    have hsk := fun cs b => Region.noSelect_spec hsel k ok cs b hok
    split at h
    · rename_i hkk
      obtain ⟨vk, hyk, h⟩ := h
      obtain ⟨v, hy, h⟩ := pull0 hsel hi hki c1 _ w hS hc' h
      refine ⟨v, fun w1 h1 => (YieldsD.iff hsi (putOf_put a ok.dst vk) hcm.l1).1 (hy w1 h1), ok, hok, ?_⟩
      rw [if_pos hkk]
      refine ⟨vk, fun w1 h1 => (YieldsD.iff hsk (putOf_put a oi.dst v) hcm.l2).2 (hyk w1 h1), ?_⟩
      rw [Act.put_comm a v vk hcm.d2]; exact h
    · rename_i hk0
      split at h
      · rename_i hk1
        obtain ⟨vk, hyk, h⟩ := h
        obtain ⟨v, hy, h⟩ := pull0 hsel hi hki c1 _ w hS hc' h
        refine ⟨v, fun w1 h1 => (YieldsD.iff hsi (putOf_put a ok.dst vk) hcm.l1).1 (hy w1 h1), ok, hok, ?_⟩
        rw [if_neg hk0, if_pos hk1]
        refine ⟨vk, (YieldsAt.iff hsk (putOf_put a oi.dst v) hcm.l2).2 hyk, ?_⟩
        rw [Act.put_comm a v vk hcm.d2]; exact h
      · rename_i hk1
        have hk3 : kd i = 4 → kd k ≠ 3 := by
          intro h4 h3
          rcases hcm.kinds with h | h | ⟨_, h⟩ | ⟨h, _⟩ | ⟨h, _⟩ <;> omega
        have h' := wpOp_mono (K' := fun a' w' => (kd k = 3 ∨ S w') ∧ ∃ v, (∀ w1, (kd i = 4 → S w1) → YieldsD P ops w1 oi v a') ∧ wpC P ops Q S kd (c1 ++ c2) (a'.put oi.dst v) w')
          (fun a' w' ⟨hs, hh⟩ => ⟨hs, pull0 hsel hi hki c1 a' w' (fun h4 => hs.resolve_left (hk3 h4)) hc' hh⟩) h
        by_cases hv : ∃ v, ∀ w1, (kd i = 4 → S w1) → YieldsD P ops w1 oi v a
        · obtain ⟨v, hv⟩ := hv
          refine ⟨v, hv, ok, hok, ?_⟩
          rw [if_neg hk0, if_neg hk1]
          exact wpOp_bwd (Q := Q) hok hsk (di := oi.dst) (v := v) hcm.l2 hcm.d2 h' (K' := fun a' w' => (kd k = 3 ∨ S w') ∧ wpC P ops Q S kd (c1 ++ c2) a' w') (fun a' w' hp ⟨hs, v', hy, hh⟩ => by
            have e : v' = v := (hy w hS).det ((YieldsD.iff hsi hp hcm.l1).2 (hv w hS))
            subst e; exact ⟨hs, hh⟩)
        · exact (wpOp_some hok h' fun a' w' hp ⟨_, v, hy, _⟩ => hv ⟨v, fun w1 h1 => (YieldsD.iff hsi hp hcm.l1).1 (hy w1 h1)⟩).elim

theorem pull1 (hsel : Region.noSelect ops = true) {i : Nat} {oi : Oper} (hi : ops[i]? = some oi) (hki : kd i = 1) {c2 : List Nat} :
    ∀ (c1 : List Nat) (a : Act) (w : World), (∀ k ∈ c1, ∀ ok, ops[k]? = some ok → Compat ops kd k i ok oi) → wpC P ops Q S kd (c1 ++ i :: c2) a w →
      ∃ v, YieldsAt P ops w oi v a ∧ wpC P ops Q S kd (c1 ++ c2) (a.put oi.dst v) w
  | [], a, w, _, h => by
    obtain ⟨o, ho, h⟩ := h
    rw [hi] at ho; obtain rfl := Option.some.inj ho
    rw [if_neg (by omega), if_pos hki] at h
    exact h
  | k :: c1, a, w, hc, h => by
    obtain ⟨ok, hok, h⟩ := h
    have hcm := hc k (by simp) ok hok
    have hc' : ∀ k ∈ c1, ∀ ok, ops[k]? = some ok → Compat ops kd k i ok oi := fun k hk => hc k (by simp [hk])
    have hsi := fun cs b => Region.noSelect_spec hsel i oi cs b hi
    have hsk := fun cs b => Region.noSelect_spec hsel k ok cs b hok
    split at h
    · rename_i hkk
      obtain ⟨vk, hyk, h⟩ := h
      obtain ⟨v, hy, h⟩ := pull1 hsel hi hki c1 _ w hc' h
      refine ⟨v, (YieldsAt.iff hsi (putOf_put a ok.dst vk) hcm.l1).1 hy, ok, hok, ?_⟩
      rw [if_pos hkk]
      refine ⟨vk, fun w1 h1 => (YieldsD.iff hsk (putOf_put a oi.dst v) hcm.l2).2 (hyk w1 h1), ?_⟩
      rw [Act.put_comm a v vk hcm.d2]; exact h
    · rename_i hk0
      split at h
      · rename_i hk1
        obtain ⟨vk, hyk, h⟩ := h
        obtain ⟨v, hy, h⟩ := pull1 hsel hi hki c1 _ w hc' h
        refine ⟨v, (YieldsAt.iff hsi (putOf_put a ok.dst vk) hcm.l1).1 hy, ok, hok, ?_⟩
        rw [if_neg hk0, if_pos hk1]
        refine ⟨vk, (YieldsAt.iff hsk (putOf_put a oi.dst v) hcm.l2).2 hyk, ?_⟩
        rw [Act.put_comm a v vk hcm.d2]; exact h
      · rename_i hk1
        exfalso
        rcases hcm.kinds with h | h | ⟨h, _⟩ | ⟨_, h⟩ | ⟨h, _⟩ <;> omega

theorem pull2 (hsel : Region.noSelect ops = true) {i : Nat} {oi : Oper} (hi : ops[i]? = some oi) (h0 : ¬ (kd i = 0 ∨ kd i = 4)) (h1 : kd i ≠ 1) {c2 : List Nat} :
    ∀ (c1 : List Nat) (a : Act) (w : World), (∀ k ∈ c1, ∀ ok, ops[k]? = some ok → Compat ops kd k i ok oi) → wpC P ops Q S kd (c1 ++ i :: c2) a w →
      wpOp P ops (Only Q) i (fun a' w' => (kd i = 3 ∨ S w') ∧ wpC P ops Q S kd (c1 ++ c2) a' w') a w
  | [], a, w, _, h => by
    obtain ⟨o, ho, h⟩ := h
    rw [if_neg h0, if_neg h1] at h
    exact h
  | k :: c1, a, w, hc, h => by
    obtain ⟨ok, hok, h⟩ := h
    have hcm := hc k (by simp) ok hok
    have hc' : ∀ k ∈ c1, ∀ ok, ops[k]? = some ok → Compat ops kd k i ok oi := fun k hk => hc k (by simp [hk])
    have hsi := fun cs b => Region.noSelect_spec hsel i oi cs b hi
    have hsk := fun cs b => Region.noSelect_spec hsel k ok cs b hok
    have hkk : kd k = 0 ∨ kd k = 4 := by
      rcases hcm.kinds with h | h | ⟨h, _⟩ | ⟨h, _⟩ | ⟨_, h⟩
      · exact .inl h
      · omega
      · omega
      · omega
      · exact .inr h
    rw [if_pos hkk] at h
    obtain ⟨vk, hyk, h⟩ := h
    have h2 := pull2 hsel hi h0 h1 c1 _ w hc' h
    have h3 := wpOp_fwd hi hsi hcm.l1 hcm.d1 h2
    refine wpOp_mono (fun a' w' ⟨hp, hs, hh⟩ => ⟨hs, ok, hok, ?_⟩) h3
    rw [if_pos hkk]
    exact ⟨vk, fun w1 hw1 => (YieldsD.iff hsk hp hcm.l2).2 (hyk w1 hw1), hh⟩

/-- does operation k come ahead of operation i in every order? -/
def anc (ops : Array Oper) : Nat → Nat → Nat → Bool
  | 0, _, _ => false
  | f + 1, k, i => match ops[i]? with
    | some oi => oi.after.any fun e => Region.binds .any e && (e.on == k || (k < e.on && anc ops f k e.on))
    | none => false

def okAll (ops : Array Oper) (kd : Kinds) : Bool :=
  Region.noSelect ops &&
  (List.range ops.size).all fun i =>
    (match ops[i]? with | some oi => oi.after.all fun e => !Region.binds .any e || e.on < i | none => true) &&
    (List.range i).all fun k => (compat ops kd k i || anc ops ops.size k i) && !(kd k == 3 && kd i == 4)

def Closed (ops : Array Oper) (listed : Array Bool) : Prop :=
  ∀ j oj, ops[j]? = some oj → listed.getD j true = true → ∀ e ∈ oj.after, Region.binds .any e = true → listed.getD e.on false = true

theorem anc_listed {listed : Array Bool} (hcl : Closed ops listed) : ∀ (f k i : Nat), anc ops f k i = true →
    (∀ oi, ops[i]? = some oi → ∀ e ∈ oi.after, Region.binds .any e = true → listed.getD e.on false = true) → listed.getD k false = true
  | 0, _, _, h, _ => by simp [anc] at h
  | f + 1, k, i, h, hall => by
    simp only [anc] at h
    split at h
    · rename_i oi hoi
      obtain ⟨e, he, hb⟩ := Array.any_eq_true'.1 h
      simp only [Bool.and_eq_true, Bool.or_eq_true, beq_iff_eq, decide_eq_true_eq] at hb
      obtain ⟨hb1, hb2⟩ := hb
      have hl := hall oi hoi e he hb1
      rcases hb2 with rfl | ⟨_, hb2⟩
      · exact hl
      · refine anc_listed hcl f k e.on hb2 fun oj hoj => hcl e.on oj hoj ?_
        rcases Nat.lt_or_ge e.on listed.size with hlt | hge
        · simp [hlt] at hl ⊢; exact hl
        · simp [Array.getElem?_eq_none hge] at hl
    · cases h

theorem getD_size {listed : Array Bool} {j : Nat} (h : j < listed.size) : listed.getD j true = listed.getD j false := by simp [h]

theorem main (hok : okAll ops kd = true) : ∀ (c : List Nat) (listed : Array Bool) (a : Act) (w : World), listed.size = ops.size → c.Pairwise (· < ·) →
    (∀ j, j ∈ c ↔ j < ops.size ∧ listed.getD j true = false) → Closed ops listed → (S w ∨ ∀ k ∈ c, kd k ≠ 4) → wpC P ops Q S kd c a w → wpAny P .any ops Q c.length listed a w := by
  simp only [okAll, Bool.and_eq_true, List.all_eq_true, List.mem_range] at hok
  obtain ⟨hsel, hok⟩ := hok
  suffices H : ∀ (n : Nat) (c : List Nat) (listed : Array Bool) (a : Act) (w : World), c.length = n → listed.size = ops.size → c.Pairwise (· < ·) →
    (∀ j, j ∈ c ↔ j < ops.size ∧ listed.getD j true = false) → Closed ops listed → (S w ∨ ∀ k ∈ c, kd k ≠ 4) → wpC P ops Q S kd c a w → wpAny P .any ops Q n listed a w from
    fun c listed a w h1 h2 h3 h4 h5 h6 => H c.length c listed a w rfl h1 h2 h3 h4 h5 h6
  intro n
  induction n with
  | zero =>
    intro c listed a w hl hsz _ hmem _ _ h
    obtain rfl := List.eq_nil_of_length_eq_zero hl
    refine ⟨?_, h⟩
    refine List.eq_nil_iff_forall_not_mem.2 fun j hj => ?_
    obtain ⟨hj0, o, ho, _⟩ := mem_ready.1 hj
    have := (hmem j).2 ⟨(Array.getElem?_eq_some_iff.1 ho).1, hj0⟩
    cases this
  | succ n ih =>
    intro c listed a w hl hsz hsort hmem hcl hS h
    refine ⟨fun hr => ?_, fun i hi => ?_⟩
    · exfalso
      cases c with
      | nil => simp at hl
      | cons j c =>
        have hj := (hmem j).1 (by simp)
        have : j ∈ Region.ready .any ops listed := by
          refine mem_ready.2 ⟨hj.2, ops[j]'hj.1, by simp [hj.1], fun e he hb => ?_⟩
          have hlt : e.on < j := by
            have := (hok j hj.1).1
            simp only [hj.1, Array.getElem?_eq_getElem, Array.all_eq_true_iff_forall_mem] at this
            have := this e he
            simpa [hb] using this
          by_cases hle : listed.getD e.on true = false
          · have hm := (hmem e.on).2 ⟨by omega, hle⟩
            rcases List.mem_cons.1 hm with h | h
            · omega
            · have := (List.pairwise_cons.1 hsort).1 _ h; omega
          · rw [← getD_size (by omega)]; simpa using hle
        rw [hr] at this; cases this
    · obtain ⟨hi0, oi, hoi, hall⟩ := mem_ready.1 hi
      have hilt := (Array.getElem?_eq_some_iff.1 hoi).1
      have hic := (hmem i).2 ⟨hilt, hi0⟩
      obtain ⟨c1, c2, rfl⟩ := List.append_of_mem hic
      have hcomp : ∀ k ∈ c1, ∀ ok, ops[k]? = some ok → Compat ops kd k i ok oi := by
        intro k hk ok hokk
        have hlt : k < i := (List.pairwise_append.1 hsort).2.2 k hk i (by simp)
        rcases Bool.or_eq_true _ _ ▸ ((hok i hilt).2 k hlt).1 with h1 | h1
        · exact compat_spec hokk hoi h1
        · have hlk := anc_listed hcl _ k i h1 fun oi' hoi' => by
            rw [hoi] at hoi'; obtain rfl := Option.some.inj hoi'; exact hall
          have := ((hmem k).1 (by simp [hk])).2
          rw [getD_size (by omega)] at this
          rw [this] at hlk; cases hlk
      have hlen : (c1 ++ c2).length = n := by simp at hl ⊢; omega
      have hsort' : (c1 ++ c2).Pairwise (· < ·) := by
        rw [List.pairwise_append] at hsort ⊢
        exact ⟨hsort.1, (List.pairwise_cons.1 hsort.2.1).2, fun x hx y hy => hsort.2.2 x hx y (by simp [hy])⟩
      have hni : i ∉ c1 ++ c2 := by
        intro hm
        rcases List.mem_append.1 hm with h | h
        · have := (List.pairwise_append.1 hsort).2.2 i h i (by simp); omega
        · have := (List.pairwise_cons.1 (List.pairwise_append.1 hsort).2.1).1 i h; omega
      have hmem' : ∀ j, j ∈ c1 ++ c2 ↔ j < ops.size ∧ (listed.setIfInBounds i true).getD j true = false := by
        intro j
        by_cases hji : j = i
        · subst hji
          constructor
          · intro h; exact absurd h hni
          · rintro ⟨_, h⟩; simp [hsz, hilt] at h
        · rw [getD_set_ne true (Ne.symm hji), ← hmem j]
          simp [hji]
      have hcl' : Closed ops (listed.setIfInBounds i true) := by
        intro j oj hoj hj e he hb
        by_cases hji : j = i
        · subst hji
          rw [hoi] at hoj; obtain rfl := Option.some.inj hoj
          exact getD_set_true (hall e he hb)
        · rw [getD_set_ne true (Ne.symm hji)] at hj
          exact getD_set_true (hcl j oj hoj hj e he hb)
      have hsz' : (listed.setIfInBounds i true).size = ops.size := by simp [hsz]
      have IH := fun a' w' => ih (c1 ++ c2) (listed.setIfInBounds i true) a' w' hlen hsz' hsort' hmem' hcl'
      have hsub : (∀ k ∈ c1 ++ i :: c2, kd k ≠ 4) → ∀ k ∈ c1 ++ c2, kd k ≠ 4 := fun h k hk => h k (by
        rcases List.mem_append.1 hk with h | h
        · exact List.mem_append_left _ h
        · exact List.mem_append_right _ (by simp [h]))
      by_cases hk0 : kd i = 0 ∨ kd i = 4
      · obtain ⟨v, hy, h⟩ := pull0 hsel hoi hk0 c1 a w (fun h4 => hS.resolve_right fun hn => hn i (by simp) h4) hcomp h
        have h' := IH _ _ (hS.imp id hsub) h
        unfold wpOp
        simp only [hoi]
        rcases hy w (fun h4 => hS.resolve_right fun hn => hn i (by simp) h4) with ⟨hw, hv | ⟨hv, rfl⟩⟩ | ⟨hw, rfl⟩
        · simp only [hw, if_true, Oper.wp, hv, Oper.upon]; exact .inl h'
        · simp only [hw, if_true, Oper.wp, hv, Oper.upon]; exact .inl h'
        · simp only [hw, Bool.false_eq_true, if_false]; exact h'
      · by_cases hk1 : kd i = 1
        · obtain ⟨v, hy, h⟩ := pull1 hsel hoi hk1 c1 a w hcomp h
          have h' := IH _ _ (hS.imp id hsub) h
          unfold wpOp
          simp only [hoi]
          rcases hy with ⟨hw, hv | ⟨hv, rfl⟩ | ⟨f, args, hv, hcc⟩⟩ | ⟨hw, rfl⟩
          · simp only [hw, if_true, Oper.wp, hv, Oper.upon]; exact .inl h'
          · simp only [hw, if_true, Oper.wp, hv, Oper.upon]; exact .inl h'
          · simp only [hw, if_true, Oper.wp, hv, Oper.upon]
            exact .inl (hcc.mono fun e w'' ⟨he, hw''⟩ => by subst he; subst hw''; exact h')
          · simp only [hw, Bool.false_eq_true, if_false]; exact h'
        · have h2 := pull2 hsel hoi hk0 hk1 c1 a w hcomp h
          have hno : kd i = 3 → ∀ k ∈ c1 ++ c2, kd k ≠ 4 := by
            intro h3 k hk h4
            rcases List.mem_append.1 hk with hm | hm
            · have hlt : k < i := (List.pairwise_append.1 hsort).2.2 k hm i (by simp)
              have hkl := ((hmem k).1 (by simp [hm])).1
              have hcm := hcomp k hm _ (Array.getElem?_eq_getElem hkl)
              rcases hcm.kinds with h | h | ⟨h, _⟩ | ⟨h, _⟩ | ⟨h, _⟩ <;> omega
            · have hlt : i < k := (List.pairwise_cons.1 (List.pairwise_append.1 hsort).2.1).1 k hm
              have hkl := ((hmem k).1 (by simp [hm])).1
              have := ((hok k hkl).2 i hlt).2
              simp [h3, h4] at this
          have h3 := wpOp_mono (fun a' w' ⟨hs, hh⟩ => IH a' w' (hs.elim (fun h => .inr (hno h)) .inl) hh) h2
          unfold wpOp at h3 ⊢
          simp only [hoi] at h3 ⊢
          split
          · rename_i hw
            simp only [hw, if_true] at h3
            rcases h3 with h3 | ⟨_, hl⟩
            case inr => exact absurd hl not_letsOut
            refine .inl ?_
            unfold Oper.wp at *
            generalize (execOp a.eval oi).run P w = r at *
            cases r with
            | ok m w' =>
              cases m <;> simp only [Oper.upon] at h3 ⊢ <;> first | exact h3 | skip
              case enter f args =>
                refine Calls.mono h3 fun e w'' he => ?_
                cases e with
                | returned u => exact he
                | panicked c => exact he.elim
                | outgrown => exact absurd he not_letsOut
            | halt x w' =>
              cases x <;> simp only [Oper.upon] at h3 ⊢
              case panic u => exact h3.elim
          · rename_i hw
            simp only [hw] at h3
            exact h3

/-- The kind that an operation has by its make. -/
def kindOf (o : Oper) : Nat :=
  match o.op with
  | .load .. | .lookup .. => 1
  | .move _ | .assign _ | .pick .. | .build .. | .nilCheck _ | .binOp .. | .unOp .. | .convert .. | .makeInterface .. | .makeFunc .. | .slice .. | .fieldAddr .. | .field ..
  | .indexAddr .. | .index .. | .extract .. => 0
  | .call c => match c.callee with
    | .builtin .len | .builtin .cap | .builtin .min | .builtin .max => 0
    | _ => 2
  | _ => 2

/-- .. but for the operations that 'ov' names. -/
def kinds (ops : Array Oper) (ov : List (Nat × Nat)) : Kinds := fun i =>
  match ov.find? (fun x => x.1 == i) with
  | some (_, k) => k
  | none => ((ops[i]?).map kindOf).getD 0

def wpL (P : Program) (ops : Array Oper) (Q : Exit → Act → World → Prop) (S : World → Prop) (kd : Kinds) : Nat → List Oper → Act → World → Prop
  | _, [], a, w => Q .normal a w
  | n, o :: rest, a, w =>
    if kd n = 0 ∨ kd n = 4 then ∃ v, (∀ w1, (kd n = 4 → S w1) → YieldsD P ops w1 o v a) ∧ wpL P ops Q S kd (n + 1) rest (a.put o.dst v) w
    else if kd n = 1 then ∃ v, YieldsAt P ops w o v a ∧ wpL P ops Q S kd (n + 1) rest (a.put o.dst v) w
    else wpOp P ops (Only Q) n (fun a' w' => (kd n = 3 ∨ S w') ∧ wpL P ops Q S kd (n + 1) rest a' w') a w

theorem wpC_of_wpL : ∀ (l : List Oper) (n : Nat) (a : Act) (w : World), (∀ j, l[j]? = ops[n + j]? ∨ l.length ≤ j) → wpL P ops Q S kd n l a w → wpC P ops Q S kd (List.range' n l.length) a w
  | [], _, _, _, _, h => h
  | o :: rest, n, a, w, hl, h => by
    have h0 : ops[n]? = some o := by have := hl 0; simp at this; exact this.symm
    have hr : ∀ j, rest[j]? = ops[n + 1 + j]? ∨ rest.length ≤ j := fun j => by
      have := hl (j + 1)
      simp only [List.getElem?_cons_succ, List.length_cons, Nat.add_le_add_iff_right] at this
      rw [show n + 1 + j = n + (j + 1) by omega]; exact this
    have IH := fun a' w' => wpC_of_wpL rest (n + 1) a' w' hr
    rw [List.length_cons, List.range'_succ]
    refine ⟨o, h0, ?_⟩
    unfold wpL at h
    split at h
    · rename_i hk
      rw [if_pos hk]
      obtain ⟨v, h1, h2⟩ := h
      exact ⟨v, h1, IH _ _ h2⟩
    · rename_i hk
      rw [if_neg hk]
      split at h
      · rename_i hk1
        rw [if_pos hk1]
        obtain ⟨v, h1, h2⟩ := h
        exact ⟨v, h1, IH _ _ h2⟩
      · rename_i hk1
        rw [if_neg hk1]
        exact wpOp_mono (fun a' w' ⟨hs, hh⟩ => ⟨hs, IH a' w' hh⟩) h

theorem wp_region_plm {id : Nat} {l : List Oper} (S : World → Prop) (ov : List (Nat × Nat)) {a : Act} {w : World} (hm : P.follows .mixedOrders = true)
    (hok : okAll l.toArray (kinds l.toArray ov) = true) (hS : S w.drew) (h : wpL P l.toArray Q S (kinds l.toArray ov) 0 l a w.drew) : (Code.region id l.toArray true).wp P Q a w := by
  refine wp_region_any hm ?_
  have h1 := wpC_of_wpL l 0 a w.drew (fun j => .inl (by simp)) h
  have h2 := main (ops := l.toArray) hok (List.range' 0 l.length) (Array.replicate l.toArray.size false) a w.drew (by simp) (List.pairwise_lt_range') (fun j => by
    simp only [List.mem_range'_1, Nat.zero_le, true_and, Nat.zero_add, List.size_toArray]
    constructor
    · intro h; exact ⟨h, by simp [h]⟩
    · exact fun h => h.1) (fun j oj hoj hl => by
      exfalso
      have hlt := (Array.getElem?_eq_some_iff.1 hoj).1
      simp only [List.size_toArray] at hlt
      simp [hlt] at hl) (.inl hS) h1
  simpa using h2

/-- Two runs that come to one value and leave the world alone. -/
def agree (w1 : World) : Result Next → Result Next → Prop
  | .ok (.value v1) w', .ok (.value v) _ => w' = w1 ∧ v1 = v
  | _, _ => False

def onVal (K : Value → Prop) : Result Next → Prop
  | .ok (.value v) _ => K v
  | _ => False

@[go_sem] theorem agree_value (w1 w' w'' : World) (v1 v : Value) : agree w1 (.ok (.value v1) w') (.ok (.value v) w'') = (w' = w1 ∧ v1 = v) := rfl
@[go_sem] theorem onVal_value (K : Value → Prop) (w' : World) (v : Value) : onVal K (.ok (.value v) w') = K v := rfl

theorem step0 {n : Nat} {o : Oper} {rest : List Oper} {a : Act} {w : World} (hk : kd n = 0)
    (h : ∀ K : Act → Prop, (∀ a', wpL P ops Q S kd (n + 1) rest a' w → K a') →
      if Region.wanted o (yielded ops a.tmps) then (∀ w1, agree w1 ((execOp a.eval o).run P w1) ((execOp a.eval o).run P w)) ∧ onVal (fun v => K (a.put o.dst v)) ((execOp a.eval o).run P w)
      else K (a.put o.dst undef)) : wpL P ops Q S kd n (o :: rest) a w := by
  have h := h _ (fun _ h => h)
  unfold wpL
  rw [if_pos (.inl hk)]
  split at h
  · rename_i hw
    obtain ⟨h1, h2⟩ := h
    unfold onVal at h2
    split at h2
    · rename_i v _ hr
      refine ⟨v, fun w1 _ => .inl ⟨hw, .inl ?_⟩, h2⟩
      have h3 := h1 w1
      rw [hr] at h3
      unfold agree at h3
      split at h3
      · rename_i heq hq
        simp only [Result.ok.injEq, Next.value.injEq] at hq
        obtain ⟨rfl, rfl⟩ := h3
        rw [heq, ← hq.1]
      · exact h3.elim
    · exact h2.elim
  · rename_i hw
    exact ⟨undef, fun w1 _ => .inr ⟨by simpa using hw, rfl⟩, h⟩

theorem step4 {n : Nat} {o : Oper} {rest : List Oper} {a : Act} {w : World} (hk : kd n = 4)
    (h1 : ∀ w1, S w1 → if Region.wanted o (yielded ops a.tmps) then agree w1 ((execOp a.eval o).run P w1) ((execOp a.eval o).run P w) else True)
    (h : ∀ K : Act → Prop, (∀ a', wpL P ops Q S kd (n + 1) rest a' w → K a') →
      if Region.wanted o (yielded ops a.tmps) then onVal (fun v => K (a.put o.dst v)) ((execOp a.eval o).run P w) else K (a.put o.dst undef)) : wpL P ops Q S kd n (o :: rest) a w := by
  have h := h _ (fun _ h => h)
  unfold wpL
  rw [if_pos (.inr hk)]
  split at h
  · rename_i hw
    have h2 := h
    unfold onVal at h2
    split at h2
    · rename_i v _ hr
      refine ⟨v, fun w1 hs => .inl ⟨hw, .inl ?_⟩, h2⟩
      have h3 := h1 w1 (hs hk)
      rw [if_pos hw, hr] at h3
      unfold agree at h3
      split at h3
      · rename_i heq hq
        simp only [Result.ok.injEq, Next.value.injEq] at hq
        obtain ⟨rfl, rfl⟩ := h3
        rw [heq, ← hq.1]
      · exact h3.elim
    · exact h2.elim
  · rename_i hw
    exact ⟨undef, fun w1 _ => .inr ⟨by simpa using hw, rfl⟩, h⟩

theorem step1 {n : Nat} {o : Oper} {rest : List Oper} {a : Act} {w : World} (hk : kd n = 1) (ho : ops[n]? = some o)
    (h : ∀ K : Act → Prop, (∀ a', wpL P ops Q S kd (n + 1) rest a' w → K a') →
      if Region.wanted o (yielded ops a.tmps) then o.still P a w K else K (a.put o.dst undef)) : wpL P ops Q S kd n (o :: rest) a w := by
  have h := h _ (fun _ h => h)
  unfold wpL
  rw [if_neg (by omega), if_pos hk]
  refine yieldsAt_of_stOp (K := fun a' => wpL P ops Q S kd (n + 1) rest a' w) ho ?_
  unfold stOp
  simp only [ho]
  exact h

theorem step2 {n : Nat} {o : Oper} {rest : List Oper} {a : Act} {w : World} (hk : kd n = 2) (ho : ops[n]? = some o)
    (h : ∀ K : Act → World → Prop, (∀ a' w', S w' → wpL P ops Q S kd (n + 1) rest a' w' → K a' w') →
      if Region.wanted o (yielded ops a.tmps) then o.wp P a w K (Only Q) else K (a.put o.dst undef) w) : wpL P ops Q S kd n (o :: rest) a w := by
  have h := h (fun a' w' => (kd n = 3 ∨ S w') ∧ wpL P ops Q S kd (n + 1) rest a' w') (fun _ _ hs h => ⟨.inr hs, h⟩)
  unfold wpL
  rw [if_neg (by omega), if_neg (by omega)]
  unfold wpOp
  simp only [ho]
  split
  · rename_i hw
    rw [if_pos hw] at h
    exact .inl h
  · rename_i hw
    rw [if_neg hw] at h
    exact h

theorem step3 {n : Nat} {o : Oper} {rest : List Oper} {a : Act} {w : World} (hk : kd n = 3) (ho : ops[n]? = some o)
    (h : ∀ K : Act → World → Prop, (∀ a' w', wpL P ops Q S kd (n + 1) rest a' w' → K a' w') →
      if Region.wanted o (yielded ops a.tmps) then o.wp P a w K (Only Q) else K (a.put o.dst undef) w) : wpL P ops Q S kd n (o :: rest) a w := by
  have h := h (fun a' w' => (kd n = 3 ∨ S w') ∧ wpL P ops Q S kd (n + 1) rest a' w') (fun _ _ h => ⟨.inl hk, h⟩)
  unfold wpL
  rw [if_neg (by omega), if_neg (by omega)]
  unfold wpOp
  simp only [ho]
  split
  · rename_i hw
    rw [if_pos hw] at h
    exact .inl h
  · rename_i hw
    rw [if_neg hw] at h
    exact h

theorem step2p {n : Nat} {o : Oper} {rest : List Oper} {a : Act} {w : World} (hk : kd n = 2) (ho : ops[n]? = some o) (hg : o.guard = none)
    (h : ∀ K : Act → World → Prop, (∀ a' w', S w' → wpL P ops Q S kd (n + 1) rest a' w' → K a' w') → o.wp P a w K (Only Q)) : wpL P ops Q S kd n (o :: rest) a w :=
  step2 hk ho fun K hK => by
    rw [if_pos (by simp [Region.wanted, hg])]
    exact h K hK

theorem step3p {n : Nat} {o : Oper} {rest : List Oper} {a : Act} {w : World} (hk : kd n = 3) (ho : ops[n]? = some o) (hg : o.guard = none)
    (h : ∀ K : Act → World → Prop, (∀ a' w', wpL P ops Q S kd (n + 1) rest a' w' → K a' w') → o.wp P a w K (Only Q)) : wpL P ops Q S kd n (o :: rest) a w :=
  step3 hk ho fun K hK => by
    rw [if_pos (by simp [Region.wanted, hg])]
    exact h K hK

theorem stepNil {n : Nat} {a : Act} {w : World} (h : Q .normal a w) : wpL P ops Q S kd n [] a w := h

end
end Go.Proofs.Ythfnnkfdpnkodaa.PLM
