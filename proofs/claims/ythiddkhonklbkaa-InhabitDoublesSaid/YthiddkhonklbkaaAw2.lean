/- Abstract values that may lead to blocks of one's own, and the memory that they speak of. -/
import Derived.Test.YthiddkhonklbkaaAw1
set_option linter.unusedVariables false
set_option linter.unusedSimpArgs false
namespace Go.Aw

inductive AV where
  | p (v : PV)
  | sl (id sz off len : Nat)
  | ptr (id off : Nat)
  | fptr (cs : List PV)
  | mp (id : Nat)
  | agg (xs : List AV)
  | tup (xs : List AV)
  | fn (f : Fn) (first captured : List AV)
  | junk
  deriving Inhabited

def AV.one : AV → Bool
  | .p v => v.one
  | .sl .. | .ptr .. | .fptr .. | .mp .. | .fn .. => true
  | _ => false

inductive Blk where
  | row (ty : TypeId) (sz : Nat) (cs : List AV)
  | map (es : List (List UInt8 × PV))
  deriving Inhabited

/-- An association list: the first that fits. -/
def look {α : Type} : List (Nat × α) → Nat → Option α
  | [], _ => none
  | (k, v) :: r, i => if i = k then some v else look r i
@[simp] theorem look_nil {α : Type} (i : Nat) : look ([] : List (Nat × α)) i = none := rfl
theorem look_cons {α : Type} (k : Nat) (v : α) (r : List (Nat × α)) (i : Nat) : look ((k, v) :: r) i = if i = k then some v else look r i := rfl

/-- Which block a name stands for: none: a name that is free; 'some none': of a slice that is nil. -/
abbrev Names := Nat → Option (Option Nat)
abbrev Heap := List (Nat × Option Blk)
def hlook (H : Heap) (i : Nat) : Option Blk := (look H i).join
@[simp] theorem hlook_nil (i : Nat) : hlook [] i = none := rfl
theorem hlook_cons (k : Nat) (v : Option Blk) (r : Heap) (i : Nat) : hlook ((k, v) :: r) i = if i = k then v else hlook r i := by
  unfold hlook; rw [look_cons]; split <;> rfl

inductive AVRel (w : World) (ρ : Names) (ok : Nat → Prop) : AV → Value → Prop where
  | p (v : PV) (u : Value) (h : Rel w ok v u) : AVRel w ρ ok (.p v) u
  | sl (id sz off len : Nat) (A : Option Addr) (c : Nat) (hc : len ≤ c) (hm : c ≤ maxLen)
      (h : (A = none ∧ c = 0 ∧ off = 0 ∧ ρ id = some none) ∨ ∃ g cur ty o, ρ id = some (some g) ∧ A = some ⟨g, o, none⟩ ∧ (off = 0 ∨ 0 < c → o = off * sz) ∧ w.heap[g]? = some (.cells cur ty (0, 0)) ∧ cur.size = (off + c) * sz) :
      AVRel w ρ ok (.sl id sz off len) (.slice A len c)
  | ptr (id off g : Nat) (h : ρ id = some (some g)) : AVRel w ρ ok (.ptr id off) (.pointer (some ⟨g, off, none⟩))
  | fptr (cs : List PV) (ad : Addr) (us : List Value) (hs : ad.spot = none) (hok : ok ad.block) (hlt : ad.block < w.heap.size) (hone : ∀ p ∈ cs, p.one = true)
      (hl : us.length = cs.length) (hu : ∀ (k : Nat) (u : Value), us[k]? = some u → w.cell? (ad.add k) = some u)
      (h : ∀ (i : Nat) (p : PV) (u : Value), cs[i]? = some p → us[i]? = some u → Rel w ok p u) : AVRel w ρ ok (.fptr cs) (.pointer (some ad))
  | mp (id g : Nat) (h : ρ id = some (some g)) : AVRel w ρ ok (.mp id) (.map (some g))
  | agg (xs : List AV) (us : Array Value) (hl : us.size = xs.length) (h : ∀ (i : Nat) (a : AV) (u : Value), xs[i]? = some a → us[i]? = some u → AVRel w ρ ok a u) : AVRel w ρ ok (.agg xs) (.agg us)
  | tup (xs : List AV) (us : Array Value) (hl : us.size = xs.length) (h : ∀ (i : Nat) (a : AV) (u : Value), xs[i]? = some a → us[i]? = some u → AVRel w ρ ok a u) : AVRel w ρ ok (.tup xs) (.tuple us)
  | fn (f : Fn) (first captured : List AV) (us vs : Array Value) (hl : us.size = first.length) (hl' : vs.size = captured.length)
      (h : ∀ (i : Nat) (a : AV) (u : Value), first[i]? = some a → us[i]? = some u → AVRel w ρ ok a u)
      (h' : ∀ (i : Nat) (a : AV) (u : Value), captured[i]? = some a → vs[i]? = some u → AVRel w ρ ok a u) : AVRel w ρ ok (.fn f first captured) (.func f us vs)
  | junk (u : Value) : AVRel w ρ ok .junk u

/-- From w to w' nothing that was there has turned but the cells of the blocks T; streams as they were; no row has another size. -/
structure Kept (w w' : World) (T : Nat → Prop) : Prop where
  os : w'.os = w.os
  tape : w'.tape = w.tape
  output : w'.output = w.output
  size : w.heap.size ≤ w'.heap.size
  block : ∀ b, b < w.heap.size → ¬ T b → w'.heap[b]? = w.heap[b]?
  row : ∀ (b : Nat) (cur : Array Value) (ty : TypeId), w.heap[b]? = some (.cells cur ty (0, 0)) → ∃ cur', w'.heap[b]? = some (.cells cur' ty (0, 0)) ∧ cur'.size = cur.size
  fro : ∀ a : Addr, w'.frozen? a = w.frozen? a

theorem Kept.refl (w : World) (T : Nat → Prop) : Kept w w T := ⟨rfl, rfl, rfl, Nat.le_refl _, fun _ _ _ => rfl, fun _ cur _ h => ⟨cur, h, rfl⟩, fun _ => rfl⟩
theorem Kept.mono {w w' : World} {T T' : Nat → Prop} (h : Kept w w' T) (hT : ∀ b, b < w.heap.size → T b → T' b) : Kept w w' T' :=
  ⟨h.os, h.tape, h.output, h.size, fun b hb hn => h.block b hb (fun ht => hn (hT b hb ht)), h.row, h.fro⟩
theorem Kept.trans {w w1 w2 : World} {T T1 : Nat → Prop} (h : Kept w w1 T) (h1 : Kept w1 w2 T1) (hT : ∀ b, b < w.heap.size → T1 b → T b) : Kept w w2 T :=
  ⟨h1.os.trans h.os, h1.tape.trans h.tape, h1.output.trans h.output, Nat.le_trans h.size h1.size,
    fun b hb hn => (h1.block b (Nat.lt_of_lt_of_le hb h.size) (fun ht => hn (hT b hb ht))).trans (h.block b hb hn),
    fun b cur ty hb => by
      obtain ⟨c1, e1, s1⟩ := h.row b cur ty hb
      obtain ⟨c2, e2, s2⟩ := h1.row b c1 ty e1
      exact ⟨c2, e2, s2.trans s1⟩, fun a => (h1.fro a).trans (h.fro a)⟩

theorem AVRel.mono {w w' : World} {ρ ρ' : Names} {ok ok' : Nat → Prop} {T : Nat → Prop} {a : AV} {u : Value} (h : AVRel w ρ ok a u)
    (hρ : ∀ id g, ρ id = some g → ρ' id = some g) (hok : ∀ b, ok b → ok' b) (hk : Kept w w' T) (hT : ∀ b, ok b → ¬ T b) : AVRel w' ρ' ok' a u := by
  have hb : ∀ b, ok b → b < w.heap.size → w'.heap[b]? = w.heap[b]? := fun b ho hlt => hk.block b hlt (hT b ho)
  induction h with
  | p v u h => exact .p v u (h.mono hok hb)
  | sl id sz off len A c hc hm h =>
    refine .sl id sz off len A c hc hm ?_
    rcases h with ⟨a1, a2, a3, a4⟩ | ⟨g, cur, ty, o, h1, h2, h3, h4, h5⟩
    · exact .inl ⟨a1, a2, a3, hρ _ _ a4⟩
    · obtain ⟨cur', e, s⟩ := hk.row g cur ty h4
      exact .inr ⟨g, cur', ty, o, hρ _ _ h1, h2, h3, e, s.trans h5⟩
  | ptr id off g h => exact .ptr id off g (hρ _ _ h)
  | fptr cs ad us hs hokb hlt hone hl hu h =>
    have hh := hb _ hokb hlt
    refine .fptr cs ad us hs (hok _ hokb) (Nat.lt_of_lt_of_le hlt hk.size) hone hl (fun k u hku => ?_) (fun i p u hp hu' => (h i p u hp hu').mono hok hb)
    rw [cell_of_heap (w := w)]; exact hu k u hku
    rw [add_block]; exact hh
  | mp id g h => exact .mp id g (hρ _ _ h)
  | agg xs us hl h ih => exact .agg xs us hl ih
  | tup xs us hl h ih => exact .tup xs us hl ih
  | fn f first captured us vs hl hl' h h' ih ih' => exact .fn f first captured us vs hl hl' ih ih'
  | junk u => exact .junk u

theorem AVRel.one {w : World} {ρ : Names} {ok : Nat → Prop} {a : AV} {u : Value} (h : AVRel w ρ ok a u) (h1 : a.one = true) : u.oneCell' = true := by
  cases h <;> first | rfl | (simp [AV.one] at h1; done) | skip
  rename_i v h; exact h.one h1

def BlkOK (w : World) (ρ : Names) (ok : Nat → Prop) (id : Nat) : Blk → Prop
  | .row ty sz cs => (ρ id = some none ∧ cs = []) ∨ ∃ g cur, ρ id = some (some g) ∧ w.heap[g]? = some (.cells cur ty (0, 0)) ∧ cs.length ≤ cur.size ∧ (∀ a ∈ cs, a.one = true) ∧
      ∀ (k : Nat) (a : AV) (u : Value), cs[k]? = some a → cur[k]? = some u → AVRel w ρ ok a u
  | .map es => ∃ g ents clock, ρ id = some (some g) ∧ w.heap[g]? = some (.map ents clock) ∧ ents.size = es.length ∧
      (∀ (i : Nat) (e : List UInt8 × PV) (m : MapEntry), es[i]? = some e → ents[i]? = some m → m.key = str e.1) ∧
      ∀ (i : Nat) (e : List UInt8 × PV) (m : MapEntry), es[i]? = some e → ents[i]? = some m → Rel w ok e.2 m.val

structure HeapOK (w : World) (ρ : Names) (ok : Nat → Prop) (H : Heap) : Prop where
  blk : ∀ id B, hlook H id = some B → BlkOK w ρ ok id B
  away : ∀ id B g, hlook H id = some B → ρ id = some (some g) → ¬ ok g
  inj : ∀ id id' B B' g, hlook H id = some B → hlook H id' = some B' → ρ id = some (some g) → ρ id' = some (some g) → id = id'
  lt : ∀ b, ok b → b < w.heap.size

theorem BlkOK.mono {w w' : World} {ρ ρ' : Names} {ok ok' : Nat → Prop} {T : Nat → Prop} {id : Nat} {B : Blk} (h : BlkOK w ρ ok id B)
    (hρ : ∀ id g, ρ id = some g → ρ' id = some g) (hok : ∀ b, ok b → ok' b) (hk : Kept w w' T) (hT : ∀ b, ok b → ¬ T b) (hT' : ∀ g, ρ id = some (some g) → ¬ T g) : BlkOK w' ρ' ok' id B := by
  have hb : ∀ b, ok b → b < w.heap.size → w'.heap[b]? = w.heap[b]? := fun b ho hlt => hk.block b hlt (hT b ho)
  cases B with
  | row ty sz cs =>
    rcases h with ⟨h1, h2⟩ | ⟨g, cur, h1, h2, h3, h4, h5⟩
    · exact .inl ⟨hρ _ _ h1, h2⟩
    · exact .inr ⟨g, cur, hρ _ _ h1, (hk.block g (lt_of_some h2) (hT' g h1)).trans h2, h3, h4, fun k a u ha hu => (h5 k a u ha hu).mono hρ hok hk hT⟩
  | map es =>
    obtain ⟨g, ents, clock, h1, h2, h3, h4, h5⟩ := h
    exact ⟨g, ents, clock, hρ _ _ h1, (hk.block g (lt_of_some h2) (hT' g h1)).trans h2, h3, h4, fun i e m he hm => (h5 i e m he hm).mono hok hb⟩

/-- A real block's number lies in memory. -/
theorem BlkOK.lt {w : World} {ρ : Names} {ok : Nat → Prop} {id : Nat} {B : Blk} (h : BlkOK w ρ ok id B) : ∀ g, ρ id = some (some g) → g < w.heap.size := by
  intro g hg
  cases B with
  | row ty sz cs =>
    rcases h with ⟨h1, _⟩ | ⟨g', cur, h1, h2, _⟩
    · rw [h1] at hg; cases hg
    · rw [h1] at hg; cases hg; exact lt_of_some h2
  | map es =>
    obtain ⟨g', ents, clock, h1, h2, _⟩ := h
    rw [h1] at hg; cases hg; exact lt_of_some h2

/-! ### Cells of abstract values -/
def AV.cells : AV → List AV
  | .p v => v.cells.map .p
  | .agg xs => xs
  | x => [x]
/-- May its cells be asked for? (not: an aggregate that stands as an exact value) -/
def AV.fine : AV → Prop
  | .p (.c (.agg _)) => False
  | .junk => False
  | _ => True

theorem AVRel.cells_size {w : World} {ρ : Names} {ok : Nat → Prop} {a : AV} {u : Value} (h : AVRel w ρ ok a u) (hf : a.fine) : u.cells.size = a.cells.length := by
  cases h with
  | p v u h =>
    rw [AV.cells, List.length_map]
    exact h.cells_length (fun x e => by subst e; exact hf)
  | agg xs us hl h => exact hl
  | junk u => exact hf.elim
  | _ => rfl

theorem AVRel.cells {w : World} {ρ : Names} {ok : Nat → Prop} {a : AV} {u : Value} (h : AVRel w ρ ok a u) (hf : a.fine) :
    ∀ (i : Nat) (b : AV) (v : Value), a.cells[i]? = some b → u.cells[i]? = some v → AVRel w ρ ok b v := by
  intro i b v hb hv
  have one : ∀ (a : AV) (u : Value), AVRel w ρ ok a u → ([a] : List AV)[i]? = some b → (#[u] : Array Value)[i]? = some v → AVRel w ρ ok b v := by
    intro a u h hq hv
    cases i with
    | zero => simp at hq hv; subst hq; subst hv; exact h
    | succ n => simp at hq
  cases h with
  | p x u h =>
    simp only [AV.cells, List.getElem?_map, Option.map_eq_some_iff] at hb
    obtain ⟨q, hq, rfl⟩ := hb
    exact .p _ _ (h.cells (fun x e => by subst e; exact hf) i q v hq hv)
  | agg xs us hl h => exact h i b v hb hv
  | sl id sz off len A c hc hm h => exact one _ _ (.sl id sz off len A c hc hm h) hb hv
  | ptr id off g h => exact one _ _ (.ptr id off g h) hb hv
  | fptr cs ad us hs hok hlt hone hl hu h => exact one _ _ (.fptr cs ad us hs hok hlt hone hl hu h) hb hv
  | mp id g h => exact one _ _ (.mp id g h) hb hv
  | tup xs us hl h => exact one _ _ (.tup xs us hl h) hb hv
  | fn f first captured us vs hl hl' h h' => exact one _ _ (.fn f first captured us vs hl hl' h h') hb hv
  | junk u => exact hf.elim

/-- A list of cells as one value: a struct (pure, if all its cells are). -/
def pures : List AV → Option (List PV)
  | [] => some []
  | .p v :: r => (pures r).map (v :: ·)
  | _ :: _ => none
theorem pures_some {xs : List AV} {vs : List PV} (h : pures xs = some vs) : xs = vs.map .p := by
  induction xs generalizing vs with
  | nil => simp [pures] at h; subst h; rfl
  | cons a r ih =>
    cases a <;> simp [pures] at h
    obtain ⟨l, hl, rfl⟩ := h
    rw [ih hl]; rfl
def mkagg (xs : List AV) : AV := match pures xs with | some vs => .p (.agg vs) | none => .agg xs
def mktup (xs : List AV) : AV := match pures xs with | some vs => .p (.tup vs) | none => .tup xs
theorem AVRel.mkagg {w : World} {ρ : Names} {ok : Nat → Prop} {xs : List AV} {us : Array Value} (hl : us.size = xs.length)
    (h : ∀ (i : Nat) (a : AV) (u : Value), xs[i]? = some a → us[i]? = some u → AVRel w ρ ok a u) : AVRel w ρ ok (mkagg xs) (.agg us) := by
  unfold Aw.mkagg
  split
  · rename_i vs hv
    have := pures_some hv; subst this
    refine .p _ _ (.agg vs us (by simpa using hl) fun i q u hq hu => ?_)
    have := h i (.p q) u (by simp [hq]) hu
    cases this; assumption
  · exact .agg xs us hl h
theorem AVRel.mktup {w : World} {ρ : Names} {ok : Nat → Prop} {xs : List AV} {us : Array Value} (hl : us.size = xs.length)
    (h : ∀ (i : Nat) (a : AV) (u : Value), xs[i]? = some a → us[i]? = some u → AVRel w ρ ok a u) : AVRel w ρ ok (mktup xs) (.tuple us) := by
  unfold Aw.mktup
  split
  · rename_i vs hv
    have := pures_some hv; subst this
    refine .p _ _ (.tup vs us (by simpa using hl) fun i q u hq hu => ?_)
    have := h i (.p q) u (by simp [hq]) hu
    cases this; assumption
  · exact .tup xs us hl h

end Go.Aw
