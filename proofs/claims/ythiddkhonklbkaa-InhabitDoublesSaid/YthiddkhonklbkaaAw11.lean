/- Names of blocks, renamed; states; what it means that a machine's frame is in an abstract state; contracts. -/
import Derived.Test.YthiddkhonklbkaaAw10
set_option linter.unusedVariables false
set_option linter.unusedSimpArgs false
namespace Go.Aw
open Go

mutual
def AV.ren (f : Nat → Nat) : AV → AV
  | .p v => .p v
  | .sl id sz off len => .sl (f id) sz off len
  | .ptr id off => .ptr (f id) off
  | .fptr cs => .fptr cs
  | .mp id => .mp (f id)
  | .agg xs => .agg (AV.renL f xs)
  | .tup xs => .tup (AV.renL f xs)
  | .fn g a b => .fn g (AV.renL f a) (AV.renL f b)
  | .junk => .junk
def AV.renL (f : Nat → Nat) : List AV → List AV
  | [] => []
  | x :: xs => AV.ren f x :: AV.renL f xs
end
mutual
def AV.ids : AV → List Nat
  | .p _ => []
  | .sl id _ _ _ => [id]
  | .ptr id _ => [id]
  | .fptr _ => []
  | .mp id => [id]
  | .agg xs => AV.idsL xs
  | .tup xs => AV.idsL xs
  | .fn _ a b => AV.idsL a ++ AV.idsL b
  | .junk => []
def AV.idsL : List AV → List Nat
  | [] => []
  | x :: xs => AV.ids x ++ AV.idsL xs
end
theorem renL_map (f : Nat → Nat) (xs : List AV) : AV.renL f xs = xs.map (AV.ren f) := by
  induction xs with
  | nil => rfl
  | cons x xs ih => rw [AV.renL, ih]; rfl
theorem idsL_mem {xs : List AV} {x : AV} (h : x ∈ xs) {i : Nat} (hi : i ∈ x.ids) : i ∈ AV.idsL xs := by
  induction xs with
  | nil => cases h
  | cons y ys ih =>
    rw [AV.idsL, List.mem_append]
    rcases List.mem_cons.1 h with rfl | h
    · exact .inl hi
    · exact .inr (ih h)
theorem ren_one (f : Nat → Nat) (a : AV) : (a.ren f).one = a.one := by cases a <;> rfl

def Blk.ren (f : Nat → Nat) : Blk → Blk
  | .row ty sz cs => .row ty sz (AV.renL f cs)
  | .map es => .map es
def Blk.ids : Blk → List Nat
  | .row _ _ cs => AV.idsL cs
  | .map _ => []

section
variable {w : World} {ρ ρ' : Names} {ok : Nat → Prop} {f : Nat → Nat}

theorem AVRel.ren {a : AV} {v : Value} (h : AVRel w ρ ok a v) (hf : ∀ i ∈ a.ids, ∀ x, ρ i = some x → ρ' (f i) = some x) : AVRel w ρ' ok (a.ren f) v := by
  induction h with
  | p v u h => exact .p v u h
  | sl id sz off len A c hc hm h =>
    refine .sl (f id) sz off len A c hc hm ?_
    have hi := hf id (by simp [AV.ids])
    rcases h with ⟨h1, h2, h3, h4⟩ | ⟨g, cur, ty, o, h1, h2⟩
    · exact .inl ⟨h1, h2, h3, hi _ h4⟩
    · exact .inr ⟨g, cur, ty, o, hi _ h1, h2⟩
  | ptr id off g h => exact .ptr (f id) off g (hf id (by simp [AV.ids]) _ h)
  | fptr cs ad us hs hok hlt hone hl hu h => exact .fptr cs ad us hs hok hlt hone hl hu h
  | mp id g h => exact .mp (f id) g (hf id (by simp [AV.ids]) _ h)
  | agg xs us hl h ih =>
    rw [AV.ren, renL_map]
    refine .agg _ us (by simpa using hl) (fun i a u ha hu => ?_)
    rw [List.getElem?_map, Option.map_eq_some_iff] at ha
    obtain ⟨x, hx, rfl⟩ := ha
    exact ih i x u hx hu (fun j hj => hf j (by rw [AV.ids]; exact idsL_mem (List.mem_of_getElem? hx) hj))
  | tup xs us hl h ih =>
    rw [AV.ren, renL_map]
    refine .tup _ us (by simpa using hl) (fun i a u ha hu => ?_)
    rw [List.getElem?_map, Option.map_eq_some_iff] at ha
    obtain ⟨x, hx, rfl⟩ := ha
    exact ih i x u hx hu (fun j hj => hf j (by rw [AV.ids]; exact idsL_mem (List.mem_of_getElem? hx) hj))
  | fn g first captured us vs hl hl' h h' ih ih' =>
    rw [AV.ren, renL_map, renL_map]
    refine .fn g _ _ us vs (by simpa using hl) (by simpa using hl') (fun i a u ha hu => ?_) (fun i a u ha hu => ?_)
    · rw [List.getElem?_map, Option.map_eq_some_iff] at ha
      obtain ⟨x, hx, rfl⟩ := ha
      exact ih i x u hx hu (fun j hj => hf j (by rw [AV.ids, List.mem_append]; exact .inl (idsL_mem (List.mem_of_getElem? hx) hj)))
    · rw [List.getElem?_map, Option.map_eq_some_iff] at ha
      obtain ⟨x, hx, rfl⟩ := ha
      exact ih' i x u hx hu (fun j hj => hf j (by rw [AV.ids, List.mem_append]; exact .inr (idsL_mem (List.mem_of_getElem? hx) hj)))
  | junk u => exact .junk u

theorem AVRel.unren {a : AV} {v : Value} (h : AVRel w ρ ok (a.ren f) v) (hf : ∀ i ∈ a.ids, ∀ x, ρ (f i) = some x → ρ' i = some x) : AVRel w ρ' ok a v := by
  generalize hb : a.ren f = b at h
  induction h generalizing a with
  | p v u h => cases a <;> simp [AV.ren] at hb; subst hb; exact .p _ u h
  | sl id sz off len A c hc hm h =>
    cases a <;> simp [AV.ren] at hb
    obtain ⟨rfl, rfl, rfl, rfl⟩ := hb
    rename_i id sz off len
    refine .sl id sz off len A c hc hm ?_
    have hi := hf id (by simp [AV.ids])
    rcases h with ⟨h1, h2, h3, h4⟩ | ⟨g, cur, ty, o, h1, h2⟩
    · exact .inl ⟨h1, h2, h3, hi _ h4⟩
    · exact .inr ⟨g, cur, ty, o, hi _ h1, h2⟩
  | ptr id off g h =>
    cases a <;> simp [AV.ren] at hb
    obtain ⟨rfl, rfl⟩ := hb
    exact .ptr _ _ g (hf _ (by simp [AV.ids]) _ h)
  | fptr cs ad us hs hok hlt hone hl hu h => cases a <;> simp [AV.ren] at hb; subst hb; exact .fptr _ ad us hs hok hlt hone hl hu h
  | mp id g h => cases a <;> simp [AV.ren] at hb; subst hb; exact .mp _ g (hf _ (by simp [AV.ids]) _ h)
  | agg xs us hl h ih =>
    cases a <;> simp [AV.ren] at hb
    subst hb
    rw [renL_map] at hl h ih
    refine .agg _ us (by simpa using hl) (fun i a u ha hu => ?_)
    exact ih i _ u (by rw [List.getElem?_map, ha]; rfl) hu (fun j hj => hf j (by rw [AV.ids]; exact idsL_mem (List.mem_of_getElem? ha) hj)) rfl
  | tup xs us hl h ih =>
    cases a <;> simp [AV.ren] at hb
    subst hb
    rw [renL_map] at hl h ih
    refine .tup _ us (by simpa using hl) (fun i a u ha hu => ?_)
    exact ih i _ u (by rw [List.getElem?_map, ha]; rfl) hu (fun j hj => hf j (by rw [AV.ids]; exact idsL_mem (List.mem_of_getElem? ha) hj)) rfl
  | fn g first captured us vs hl hl' h h' ih ih' =>
    cases a <;> simp [AV.ren] at hb
    obtain ⟨rfl, rfl, rfl⟩ := hb
    rw [renL_map] at hl h ih hl' h' ih'
    refine .fn _ _ _ us vs (by simpa using hl) (by simpa using hl') (fun i a u ha hu => ?_) (fun i a u ha hu => ?_)
    · exact ih i _ u (by rw [List.getElem?_map, ha]; rfl) hu (fun j hj => hf j (by rw [AV.ids, List.mem_append]; exact .inl (idsL_mem (List.mem_of_getElem? ha) hj))) rfl
    · exact ih' i _ u (by rw [List.getElem?_map, ha]; rfl) hu (fun j hj => hf j (by rw [AV.ids, List.mem_append]; exact .inr (idsL_mem (List.mem_of_getElem? ha) hj))) rfl
  | junk u => cases a <;> simp [AV.ren] at hb; exact .junk u
end

/-! ### states -/
structure St where
  t : List (Nat × AV)
  H : Heap
  u : List Nat
def St.get (s : St) (i : Nat) : AV := (look s.t i).getD .junk
def St.ev (s : St) : Operand → AV
  | .tmp t => s.get t
  | .const v => .p (.c v)
  | .global _ => .junk
  | .func f => .fn (.func f) [] []
def St.put (s : St) (d : Option Nat) (v : AV) : St := match d with | some d => { s with t := (d, v) :: s.t } | none => s
def St.with (s : St) (up : Heap) (new : List Nat) : St := { s with H := up ++ s.H, u := new ++ s.u }

/-- A frame (of n slots) is in state s; w0: the world when the call began, F: the blocks that were handed over. -/
structure Rl (w0 : World) (ok0 F : Nat → Prop) (ρ0 : Names) (n : Nat) (s : St) (a : Act) (w : World) (ρ : Names) (ok : Nat → Prop) : Prop where
  size : a.tmps.size = n
  defers : a.defers = []
  tmp : ∀ i, AVRel w ρ ok (s.get i) (a.tmps.getD i undef)
  heap : HeapOK w ρ ok s.H
  used : ∀ id x, ρ id = some x → id ∈ s.u
  home : ∀ b, Own ρ s.H b → F b ∨ w0.heap.size ≤ b
  kept : Kept w0 w F
  oksub : ∀ b, ok0 b → ok b
  okn : ∀ b, ok b → ok0 b ∨ w0.heap.size ≤ b ∨ F b
  init : ∀ id x, ρ0 id = some x → id < 100 ∧ ρ id = some x

/-- A contract: called with values that read as args, and as H the memory handed over (names I), it returns; result and memory are as Q says (names I and R). -/
def Enters (P : Program) (g : FuncId) : Prop := ∃ fn, P.funcs[g]? = some fn ∧ fn.body.isSome = true ∧ (fn.name == "runtime.NumGoroutine") = false
def ASpec (P : Program) (g : FuncId) (I R : List Nat) (args : List AV) (H : Heap) (Q : AV → Heap → Prop) : Prop := Enters P g ∧
  ∀ (w : World) (ρ : Names) (ok : Nat → Prop) (vals : Array Value), HeapOK w ρ ok H → (∀ id x, ρ id = some x → id ∈ I) → vals.size = args.length →
    (∀ (i : Nat) (a : AV) (v : Value), args[i]? = some a → vals[i]? = some v → AVRel w ρ ok a v) →
    Calls P g vals w fun e w' => ∃ v r H' ρ' ok', e = .returned v ∧ Q r H' ∧ (∀ i ∈ r.ids, i ∈ I ++ R) ∧ (∀ i B, hlook H' i = some B → i ∈ I ++ R ∧ ∀ j ∈ B.ids, j ∈ I ++ R) ∧ AVRel w' ρ' ok' r v ∧ HeapOK w' ρ' ok' H' ∧ Kept w w' (Own ρ H) ∧
      (∀ id x, ρ id = some x → ρ' id = some x) ∧ (∀ id x, ρ' id = some x → id ∈ I ∨ id ∈ R) ∧
      (∀ b, ok b → ok' b) ∧ (∀ b, ok' b → ok b ∨ w.heap.size ≤ b ∨ Own ρ H b) ∧ (∀ b, Own ρ' H' b → Own ρ H b ∨ w.heap.size ≤ b)

theorem ASpec.mono {P : Program} {g : FuncId} {I R : List Nat} {args : List AV} {H : Heap} {Q Q' : AV → Heap → Prop} (h : ASpec P g I R args H Q) (hq : ∀ r H', Q r H' → Q' r H') : ASpec P g I R args H Q' :=
  ⟨h.1, fun w ρ ok vals h1 h2 h3 h4 => (h.2 w ρ ok vals h1 h2 h3 h4).mono fun e w' ⟨v, r, H', ρ', ok', he, hQ, rest⟩ => ⟨v, r, H', ρ', ok', he, hq _ _ hQ, rest⟩⟩

end Go.Aw
