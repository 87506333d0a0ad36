/- Arguments with depth, as they come in: slices of whatever, their elements read one by one. -/
import Derived.Test.YthfnnkfdpnkodaaRow
import Derived.SizedLaws
import Derived.DataReads
import Derived.ChangeArms
namespace Go.Proofs.Ythfnnkfdpnkodaa
open Go.ChangeShapes Go.WideShapes Go.ChangeAt Go.RowKit

/-- The weights of a datum are within the form's own reach. -/
def Within {H : Type} (P : Program) (t : TypeId) (d : DataW H) : Prop := ∀ n ∈ d.weights P t, n ≤ reachBytes

theorem within_arg {H : Type} {P : Program} {ts : List TypeId} {ds : List (DataW H)} (h : (DataW.weightsEach P ts ds).all (· ≤ reachBytes) = true) {j : Nat} {t : TypeId} {d : DataW H} (ht : ts[j]? = some t) (hd : ds[j]? = some d) : Within P t d := by
  intro n hn
  have := List.all_eq_true.1 h _ (DataW.weights_mem_each ht hd n hn)
  simpa using this

theorem within_string {H : Type} {P : Program} {t : TypeId} {l : List UInt8} (h : Within P t (.lit (.string l) : DataW H)) : l.length ≤ reachBytes := h _ (by simp [DataW.weights])

theorem mem_weightsAll {H : Type} {P : Program} {e : TypeId} : ∀ {l : List (DataW H)} {i : Nat} {d : DataW H}, l[i]? = some d → ∀ n ∈ d.weights P e, n ∈ DataW.weightsAll P e l
  | [], _, _, h, _, _ => by simp at h
  | d0 :: r, 0, d, h, n, hn => by
    simp only [List.getElem?_cons_zero, Option.some.injEq] at h
    subst h
    simp only [DataW.weightsAll, List.mem_append]
    exact .inl hn
  | d0 :: r, i + 1, d, h, n, hn => by
    simp only [List.getElem?_cons_succ] at h
    simp only [DataW.weightsAll, List.mem_append]
    exact .inr (mem_weightsAll h n hn)

theorem within_elem {H : Type} {P : Program} {t e : TypeId} {elems spare : List (DataW H)} (hu : P.underlying t = some (.slice e)) (h : Within P t (.slice elems spare)) {i : Nat} {d : DataW H} (hd : elems[i]? = some d) : Within P e d := by
  intro n hn
  refine h n ?_
  simp only [DataW.weights, hu, List.mem_cons, List.mem_append]
  exact .inr (.inl (mem_weightsAll hd n hn))

theorem within_slice {H : Type} {P : Program} {t e : TypeId} {elems spare : List (DataW H)} (hu : P.underlying t = some (.slice e)) (h : Within P t (.slice elems spare)) : elems.length * P.bytesOf e ≤ reachBytes := by
  have := h ((elems.length + spare.length) * P.bytesOf e) (by simp [DataW.weights, hu])
  rw [Nat.add_mul] at this
  omega

theorem within_field {H : Type} {P : Program} {t : TypeId} {fs : Array Field} {parts : List (DataW H)} (hu : P.underlying t = some (.struct fs)) (h : Within P t (.agg parts)) {i : Nat} {ft : TypeId} {d : DataW H} (hf : (fs.toList.map (·.type))[i]? = some ft) (hd : parts[i]? = some d) : Within P ft d := by
  intro n hn
  refine h n ?_
  simp only [DataW.weights, hu]
  exact DataW.weights_mem_each hf hd n hn

section
variable {H : Type} {enc : TypeId × Value → H} {P : Program} {w : World} {base : Nat} {spare : Nat → Bool} {held : Bool}

/-- A slice, read: its elements one by one. -/
structure SliceRead (enc : TypeId × Value → H) (P : Program) (w : World) (base : Nat) (spare : Nat → Bool) (held : Bool) (e : TypeId) (a : Option Addr) (n : Nat) (elems : List (DataW H)) : Prop where
  nil : a = none → n = 0
  len : elems.length = n
  elem : ∀ (i : Nat) (d : DataW H), elems[i]? = some d → ∃ kb o cs f y, a = some ⟨kb, o, none⟩ ∧ cs.length = P.cellsOf e ∧ (∀ j, j < P.cellsOf e → w.cell? ⟨kb, o + i * P.cellsOf e + j, none⟩ = cs[j]?) ∧ DataW.trod enc P w base spare held f e cs = some (d, y)

theorem sliceRead {t e : TypeId} {f : Nat} {v : Value} {x : DataW H × List MemPlace} (ht : P.underlying t = some (.slice e)) (hc : 0 < P.cellsOf e) (h : DataW.trod enc P w base spare held f t [v] = some x) :
    ∃ (a : Option Addr) (n cap : Nat) (elems rest : List (DataW H)), v = .slice a n cap ∧ n ≤ cap ∧ cap ≤ maxLen ∧ (x.1 = .nil ∧ elems = [] ∨ x.1 = .slice elems rest) ∧ SliceRead enc P w base spare held e a n elems := by
  rcases DataW.trod_slice ht h with ⟨hv, rfl⟩ | ⟨a, len, cap, elems, rest, n, _, hv, rfl, hb, hl, hm, hlen, hel, _⟩
  · cases hv
    exact ⟨none, 0, 0, [], [], rfl, Nat.le_refl _, Nat.zero_le _, .inl ⟨rfl, rfl⟩, fun _ => rfl, rfl, fun i d hd => by simp at hd⟩
  · cases hv
    refine ⟨some a, len, cap, elems.map (·.1), rest.map (·.1), rfl, hl, hm, .inr rfl, fun h => (by cases h), by simpa using hlen, fun i d hd => ?_⟩
    rw [List.getElem?_map] at hd
    obtain ⟨y, hy, rfl⟩ := Option.map_eq_some_iff.1 hd
    have hi : i < len := by have := (List.getElem?_eq_some_iff.1 hy).1; omega
    have h0 := hel 0 (by omega)
    rw [List.getElem?_eq_getElem (by omega)] at h0
    obtain ⟨cs0, hcs0, _⟩ := Option.bind_eq_some_iff.1 h0
    obtain ⟨_, hl0, hg0⟩ := World.cells?_some hcs0
    have hcell0 := hg0 0 hc
    rw [List.getElem?_eq_getElem (by omega)] at hcell0
    have hspot : a.spot = none := by simpa [Addr.add] using World.cell?_spot hcell0
    obtain ⟨kb, o, spot⟩ := a
    dsimp only at hspot
    subst hspot
    have hi1 := hel i hi
    rw [hy] at hi1
    obtain ⟨cs, hcs, ht'⟩ := Option.bind_eq_some_iff.1 hi1
    obtain ⟨_, hl1, hg1⟩ := World.cells?_some hcs
    refine ⟨kb, o, cs, n, y.2, rfl, hl1, fun j hj => ?_, ht'⟩
    rw [← hg1 j hj, Addr.add_lit, Addr.add_lit]

theorem rd_int {k : IntKind} {t : TypeId} {f : Nat} {v : Value} {d : DataW H} {y : List MemPlace} (ht : P.underlying t = some (.int k)) (h : DataW.trod enc P w base spare held f t [v] = some (d, y)) : ∃ n, v = .int k n ∧ d = .lit (.int k n) ∧ (Lit.int k n).wf = true := by
  obtain ⟨n, h1, h2, h3⟩ := DataW.trod_int ht h
  simp only [List.cons.injEq, and_true] at h1
  exact ⟨n, h1, congrArg Prod.fst h2, h3⟩

theorem rd_string {t : TypeId} {f : Nat} {v : Value} {d : DataW H} {y : List MemPlace} (ht : P.underlying t = some .string) (h : DataW.trod enc P w base spare held f t [v] = some (d, y)) : ∃ s : ByteArray, v = .string s ∧ d = .lit (.string s.data.toList) := by
  obtain ⟨n, h1, h2, h3⟩ := DataW.trod_string ht h
  simp only [List.cons.injEq, and_true] at h1
  exact ⟨n, h1, congrArg Prod.fst h2⟩

/-- A struct, read: field i lies at its offset. -/
theorem rd_struct {t : TypeId} {fs : Array Field} {f : Nat} {cs : List Value} {d : DataW H} {y : List MemPlace} (ht : P.underlying t = some (.struct fs)) (h : DataW.trod enc P w base spare held f t cs = some (d, y)) :
    ∃ parts : List (DataW H), d = .agg parts ∧ parts.length = fs.size ∧ ∀ (i : Nat) (fd : Field), fs[i]? = some fd → ∃ p z f', parts[i]? = some p ∧ DataW.trod enc P w base spare held f' fd.type ((cs.drop fd.offset).take (P.cellsOf fd.type)) = some (p, z) := by
  obtain ⟨xs, n, _, h2, _, h4, h5⟩ := DataW.trod_struct ht h
  refine ⟨xs.map (·.1), congrArg Prod.fst h2, by simpa using h4, fun i fd hfd => ?_⟩
  have hi : i < xs.length := by rw [h4]; exact (Array.getElem?_eq_some_iff.1 hfd).1
  have := h5 i fd hfd
  rw [List.getElem?_eq_getElem hi] at this
  exact ⟨xs[i].1, xs[i].2, n, by simp [List.getElem?_eq_getElem hi], this⟩
end
end Go.Proofs.Ythfnnkfdpnkodaa
