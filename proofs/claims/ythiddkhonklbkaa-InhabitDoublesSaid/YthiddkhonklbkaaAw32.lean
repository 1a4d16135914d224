/- Maps from texts to numbers. -/
import Derived.Test.YthiddkhonklbkaaAw31
set_option linter.unusedVariables false
set_option linter.unusedSimpArgs false
namespace Go.Aw
open Go

abbrev KM := List (List UInt8 × Int)
def getK (w : List UInt8) : KM → Option Int
  | [] => none
  | (q, v) :: r => if w = q then some v else getK w r
def putK (w : List UInt8) (n : Int) : KM → KM
  | [] => [(w, n)]
  | (q, v) :: r => if w = q then (q, n) :: r else (q, v) :: putK w n r
theorem find_K (w : List UInt8) (r : KM) : find w (r.map eK) = (getK w r).map eI := by
  induction r with
  | nil => rfl
  | cons p r ih =>
    obtain ⟨q, v⟩ := p
    rw [List.map_cons]
    show find w ((q, eI v) :: r.map eK) = _
    rw [find, getK]
    split
    · rfl
    · exact ih
theorem upsert_K (w : List UInt8) (n : Int) (r : KM) : upsert w (.c (.int .i64 n)) (r.map eK) = (putK w n r).map eK := by
  induction r with
  | nil => rfl
  | cons p r ih =>
    obtain ⟨q, v⟩ := p
    rw [List.map_cons]
    show upsert w _ ((q, eI v) :: r.map eK) = _
    rw [upsert, putK]
    split
    · rfl
    · rw [ih]; rfl
theorem getD_K (o : Option Int) (n : Int) : (o.map eI).getD (.c (.int .i64 n)) = eI (o.getD n) := by cases o <;> rfl
theorem isSome_K (o : Option Int) : (o.map eI).isSome = o.isSome := by cases o <;> rfl
theorem putK_length (w : List UInt8) (n : Int) (r : KM) : (putK w n r).length = if (getK w r).isSome = true then r.length else r.length + 1 := by
  induction r with
  | nil => rfl
  | cons p r ih =>
    obtain ⟨q, v⟩ := p
    rw [putK, getK]
    split
    · simp
    · rw [List.length_cons, ih]; split <;> simp
theorem getK_put (w x : List UInt8) (n : Int) (r : KM) : getK x (putK w n r) = if x = w then some n else getK x r := by
  induction r with
  | nil => simp [putK, getK]
  | cons p r ih =>
    obtain ⟨q, v⟩ := p
    rw [putK]
    split
    · rename_i h
      subst h
      rw [getK, getK]
      split <;> rfl
    · rename_i h
      rw [getK, getK, ih]
      by_cases e : x = q
      · subst e; simp; intro e; exact absurd e.symm h
      · simp [e]
attribute [go_sem] find_K upsert_K getD_K isSome_K
end Go.Aw
