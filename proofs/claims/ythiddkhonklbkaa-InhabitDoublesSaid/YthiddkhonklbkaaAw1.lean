/- Abstract values for Go's values, and what it means that a value reads as one in a world. -/
import Derived.Below
import Derived.Laws.AppendOwn
import Derived.Laws.OwnMore
import Derived.WalkKit
set_option linter.unusedVariables false
set_option linter.unusedSimpArgs false
namespace Go.Aw

/-- A string's value, by its bytes. -/
def str (l : List UInt8) : Value := .string ⟨l.toArray⟩

/-- A pure value: exactly x; a slice that reads so (each element of 'sz' cells); a struct; several results; a map that reads so. -/
inductive PV where
  | c (x : Value)
  | fro (sz : Nat) (xs : List PV)
  | agg (xs : List PV)
  | tup (xs : List PV)
  | fmap (es : List (List UInt8 × PV))
  deriving Inhabited

def PV.cells : PV → List PV
  | .agg xs => xs
  | x => [x]
@[simp] theorem PV.cells_agg (xs : List PV) : (PV.agg xs).cells = xs := rfl
@[simp] theorem PV.cells_c (x : Value) : (PV.c x).cells = [.c x] := rfl
@[simp] theorem PV.cells_fro (n : Nat) (xs : List PV) : (PV.fro n xs).cells = [.fro n xs] := rfl
@[simp] theorem PV.cells_fmap (es : List (List UInt8 × PV)) : (PV.fmap es).cells = [.fmap es] := rfl

/-- One cell's value? -/
def PV.one : PV → Bool
  | .c x => x.oneCell'
  | .fro _ _ => true
  | .fmap _ => true
  | _ => false

def flat (xs : List PV) : List PV := xs.flatMap PV.cells

/-- Value u reads as p in world w; what it leads to lies in blocks that are 'ok'. -/
inductive Rel (w : World) (ok : Nat → Prop) : PV → Value → Prop where
  | c (x : Value) : Rel w ok (.c x) x
  | agg (xs : List PV) (us : Array Value) (hl : us.size = xs.length) (h : ∀ (i : Nat) (p : PV) (u : Value), xs[i]? = some p → us[i]? = some u → Rel w ok p u) : Rel w ok (.agg xs) (.agg us)
  | tup (xs : List PV) (us : Array Value) (hl : us.size = xs.length) (h : ∀ (i : Nat) (p : PV) (u : Value), xs[i]? = some p → us[i]? = some u → Rel w ok p u) : Rel w ok (.tup xs) (.tuple us)
  | fro (sz : Nat) (xs : List PV) (A : Option Addr) (c : Nat) (us : List Value)
      (hc : xs.length ≤ c) (hm : c ≤ maxLen) (hsz : ∀ x ∈ xs, x.cells.length = sz) (hone : ∀ p ∈ flat xs, p.one = true)
      (hu : us.length = xs.length * sz)
      (h : ∀ (i : Nat) (p : PV) (u : Value), (flat xs)[i]? = some p → us[i]? = some u → Rel w ok p u)
      (hA : 0 < xs.length → ∃ ad, A = some ad ∧ ad.spot = none ∧ ok ad.block ∧ ad.block < w.heap.size ∧ ∀ (k : Nat) (u : Value), us[k]? = some u → w.cell? (ad.add k) = some u) :
      Rel w ok (.fro sz xs) (.slice A xs.length c)
  | fmapNil : Rel w ok (.fmap []) (.map none)
  | fmap (es : List (List UInt8 × PV)) (g : Nat) (ents : Array MapEntry) (clock : Nat) (hg : w.heap[g]? = some (.map ents clock)) (hok : ok g)
      (hl : ents.size = es.length) (hk : ∀ (i : Nat) (e : List UInt8 × PV) (m : MapEntry), es[i]? = some e → ents[i]? = some m → m.key = str e.1)
      (h : ∀ (i : Nat) (e : List UInt8 × PV) (m : MapEntry), es[i]? = some e → ents[i]? = some m → Rel w ok e.2 m.val) : Rel w ok (.fmap es) (.map (some g))

theorem add_block (a : Addr) (k : Nat) : (a.add k).block = a.block := by unfold Addr.add; split <;> rfl
theorem add_spot (a : Addr) (k : Nat) (h : a.spot = none) : (a.add k).spot = none := by unfold Addr.add; split <;> simp_all
theorem add_add (a : Addr) (j k : Nat) : (a.add j).add k = a.add (j + k) := by
  unfold Addr.add
  by_cases h1 : j = 0
  · subst h1; simp
  · by_cases h2 : k = 0
    · subst h2; simp
    · rw [if_neg h1, if_neg h2, if_neg (by omega)]; simp [Nat.add_assoc]
theorem add_plain (g o k : Nat) : (⟨g, o, none⟩ : Addr).add k = ⟨g, o + k, none⟩ := by
  unfold Addr.add; split
  · rename_i h; subst h; rfl
  · rfl
theorem cell_of_heap {w w' : World} {a : Addr} (h : w'.heap[a.block]? = w.heap[a.block]?) : w'.cell? a = w.cell? a := by unfold World.cell?; rw [h]

theorem lt_of_some {w : World} {b : Nat} {o : Obj} (h : w.heap[b]? = some o) : b < w.heap.size := (Array.getElem?_eq_some_iff.1 h).1

/-- What is in 'ok' blocks stays readable if these stay. -/
theorem Rel.mono {w w' : World} {ok ok' : Nat → Prop} {p : PV} {u : Value} (h : Rel w ok p u) (hok : ∀ b, ok b → ok' b)
    (hk : ∀ b, ok b → b < w.heap.size → w'.heap[b]? = w.heap[b]?) : Rel w' ok' p u := by
  induction h with
  | c x => exact .c x
  | agg xs us hl h ih => exact .agg xs us hl ih
  | tup xs us hl h ih => exact .tup xs us hl ih
  | fro sz xs A c us hc hm hsz hone hu h hA ih =>
    refine .fro sz xs A c us hc hm hsz hone hu ih ?_
    intro hp
    obtain ⟨ad, e, hs, hb, hlt, hcell⟩ := hA hp
    have hh := hk _ hb hlt
    refine ⟨ad, e, hs, hok _ hb, ?_, fun k u hu => ?_⟩
    · rcases Nat.lt_or_ge ad.block w'.heap.size with h1 | h1
      · exact h1
      · rw [Array.getElem?_eq_none h1, Array.getElem?_eq_getElem hlt] at hh; cases hh
    · rw [cell_of_heap (w := w)]; exact hcell k u hu
      rw [add_block]; exact hh
  | fmapNil => exact .fmapNil
  | fmap es g ents clock hg hokg hl hkk h ih =>
    exact .fmap es g ents clock ((hk g hokg (lt_of_some hg)).trans hg) (hok _ hokg) hl hkk ih

theorem Rel.one {w : World} {ok : Nat → Prop} {p : PV} {u : Value} (h : Rel w ok p u) (h1 : p.one = true) : u.oneCell' = true := by
  cases h <;> first | exact h1 | rfl | (simp [PV.one] at h1)

/-- The value's cells read as the pure value's cells. -/
theorem Rel.cells_length {w : World} {ok : Nat → Prop} {p : PV} {u : Value} (h : Rel w ok p u) (h1 : ∀ x, p ≠ .c (.agg x)) : u.cells.size = p.cells.length := by
  cases h with
  | c => cases u <;> first | rfl | exact absurd rfl (h1 _)
  | agg xs us hl h => exact hl
  | tup => rfl
  | fro => rfl
  | fmapNil => rfl
  | fmap => rfl
theorem Rel.cells {w : World} {ok : Nat → Prop} {p : PV} {u : Value} (h : Rel w ok p u) (h1 : ∀ x, p ≠ .c (.agg x)) :
    ∀ (i : Nat) (q : PV) (v : Value), p.cells[i]? = some q → u.cells[i]? = some v → Rel w ok q v := by
  intro i q v hq hv
  have one : ∀ (p : PV) (u : Value), Rel w ok p u → ([p] : List PV)[i]? = some q → (#[u] : Array Value)[i]? = some v → Rel w ok q v := by
    intro p u h hq hv
    cases i with
    | zero => simp at hq hv; subst hq; subst hv; exact h
    | succ n => simp at hq
  cases h with
  | c => cases u <;> first | exact one _ _ (.c _) hq hv | exact absurd rfl (h1 _)
  | agg xs us hl h => exact h i q v hq hv
  | tup xs us hl h => exact one _ _ (.tup xs us hl h) hq hv
  | fro sz xs A c us hc hm hsz hone hu h hA => exact one _ _ (.fro sz xs A c us hc hm hsz hone hu h hA) hq hv
  | fmapNil => exact one _ _ .fmapNil hq hv
  | fmap es g ents clock hg hokg hl hkk h => exact one _ _ (.fmap es g ents clock hg hokg hl hkk h) hq hv

/-! ### flat lists -/
@[simp] theorem flat_nil : flat [] = [] := rfl
@[simp] theorem flat_cons (x : PV) (xs : List PV) : flat (x :: xs) = x.cells ++ flat xs := rfl
@[simp] theorem flat_append (xs ys : List PV) : flat (xs ++ ys) = flat xs ++ flat ys := by simp [flat]
theorem flat_length {xs : List PV} {sz : Nat} (h : ∀ x ∈ xs, x.cells.length = sz) : (flat xs).length = xs.length * sz := by
  induction xs with
  | nil => simp
  | cons x xs ih =>
    rw [flat_cons, List.length_append, ih (fun y hy => h y (by simp [hy])), h x (by simp), List.length_cons, Nat.succ_mul, Nat.add_comm]
theorem flat_drop {xs : List PV} {sz : Nat} (h : ∀ x ∈ xs, x.cells.length = sz) (k : Nat) : flat (xs.drop k) = (flat xs).drop (k * sz) := by
  induction k generalizing xs with
  | zero => simp
  | succ k ih =>
    cases xs with
    | nil => simp
    | cons x xs =>
      have hx := h x (by simp)
      rw [List.drop_succ_cons, ih (fun y hy => h y (by simp [hy])), flat_cons, List.drop_append, Nat.succ_mul]
      rw [List.drop_eq_nil_of_le (as := x.cells) (by omega), List.nil_append]
      congr 1; omega
theorem flat_take {xs : List PV} {sz : Nat} (h : ∀ x ∈ xs, x.cells.length = sz) (k : Nat) : flat (xs.take k) = (flat xs).take (k * sz) := by
  induction k generalizing xs with
  | zero => simp
  | succ k ih =>
    cases xs with
    | nil => simp
    | cons x xs =>
      have hx := h x (by simp)
      rw [List.take_succ_cons, flat_cons, flat_cons, ih (fun y hy => h y (by simp [hy])), List.take_append, Nat.succ_mul]
      rw [List.take_of_length_le (l := x.cells) (by omega)]
      congr 2; omega
/-- The cells of element i. -/
theorem flat_at {xs : List PV} {sz : Nat} (h : ∀ x ∈ xs, x.cells.length = sz) {i : Nat} {x : PV} (hi : xs[i]? = some x) (j : Nat) (hj : j < sz) : (flat xs)[i * sz + j]? = x.cells[j]? := by
  induction xs generalizing i with
  | nil => simp at hi
  | cons y ys ih =>
    have hy := h y (by simp)
    cases i with
    | zero =>
      simp at hi; subst hi
      rw [flat_cons, Nat.zero_mul, Nat.zero_add, List.getElem?_append_left (by omega)]
    | succ n =>
      simp at hi
      rw [flat_cons, List.getElem?_append_right (by rw [Nat.succ_mul]; omega)]
      rw [← ih (fun z hz => h z (by simp [hz])) hi]
      congr 1
      rw [hy, Nat.succ_mul]; omega
theorem flat_mem {xs : List PV} {x p : PV} (hx : x ∈ xs) (hp : p ∈ x.cells) : p ∈ flat xs := List.mem_flatMap.2 ⟨x, hx, hp⟩

end Go.Aw
