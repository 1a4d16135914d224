/- Each operation does to the machine what it does to abstract values (first part: what makes no memory; new blocks). -/
import Derived.Test.YthiddkhonklbkaaAw3
set_option linter.unusedVariables false
set_option linter.unusedSimpArgs false
namespace Go.Aw
open Go

theorem hlook_append_nil (H : Heap) (i : Nat) : hlook ([] ++ H) i = hlook H i := rfl

/-- The blocks that a heap's names stand for. -/
def Own (ρ : Names) (H : Heap) (b : Nat) : Prop := ∃ id B, hlook H id = some B ∧ ρ id = some (some b)
/-- What holds behind an operation. -/
structure Post (w : World) (ρ : Names) (ok : Nat → Prop) (H : Heap) (out : Out) (v : Value) (w' : World) (ρ' : Names) : Prop where
  val : AVRel w' ρ' ok out.v v
  heap : HeapOK w' ρ' ok (out.up ++ H)
  ext : ∀ id g, ρ id = some g → ρ' id = some g
  new : ∀ id x, ρ' id = some x → ρ id = some x ∨ (id ∈ out.new ∧ ∀ g, x = some g → (w.heap.size ≤ g ∨ ∃ old B, hlook H old = some B ∧ ρ old = some (some g)))
  own : ∀ b, Own ρ' (out.up ++ H) b → Own ρ H b ∨ w.heap.size ≤ b
  kept : Kept w w' (fun g => ∃ id B, id ∈ out.up.map Prod.fst ∧ hlook H id = some B ∧ ρ id = some (some g))

section
variable {P : Program} {D : Types} {w : World} {ρ : Names} {ok : Nat → Prop} {H : Heap}

theorem HeapOK.mono {w' : World} {T : Nat → Prop} (h : HeapOK w ρ ok H) (hk : Kept w w' T) (hT : ∀ b, ok b → ¬ T b) (hT' : ∀ id B g, hlook H id = some B → ρ id = some (some g) → ¬ T g) : HeapOK w' ρ ok H :=
  ⟨fun id B hB => (h.blk id B hB).mono (fun _ _ h => h) (fun _ h => h) hk hT (hT' id B · hB), h.away, h.inj, fun b hb => Nat.lt_of_lt_of_le (h.lt b hb) hk.size⟩

theorem Post.same (hH : HeapOK w ρ ok H) {av : AV} {v : Value} (h : AVRel w ρ ok av v) : Post w ρ ok H ⟨av, [], []⟩ v w ρ :=
  ⟨h, hH, fun _ _ h => h, fun _ _ h => .inl h, fun _ h => .inl h, Kept.refl _ _⟩

/-- No cell of it may not be written. -/
def Thaw : Obj → Prop
  | .cells _ _ r => r.2 ≤ r.1
  | _ => True
theorem thaw_cells (c : Array Value) (t : TypeId) : Thaw (.cells c t (0, 0)) := Nat.le_refl _
theorem thaw_map (e : Array MapEntry) (c : Nat) : Thaw (.map e c) := trivial
theorem frozen_of {w w' : World} {a : Addr} (h : w'.heap[a.block]? = w.heap[a.block]?) : w'.frozen? a = w.frozen? a := by unfold World.frozen?; rw [h]
theorem frozen_thaw {w : World} {a : Addr} {o : Obj} (h : w.heap[a.block]? = some o) (ho : Thaw o) : w.frozen? a = false := by
  unfold World.frozen?
  rw [h]
  cases o with
  | cells c t r =>
    obtain ⟨lo, hi⟩ := r
    have : hi ≤ lo := ho
    simp only [Bool.and_eq_false_iff, decide_eq_false_iff_not]
    by_cases hl : lo ≤ a.off
    · right; omega
    · left; exact hl
  | _ => rfl
theorem kept_alloc (w : World) (o : Obj) (T : Nat → Prop) (ho : Thaw o := by first | exact thaw_cells _ _ | exact thaw_map _ _) : Kept w (w.alloc o) T :=
  ⟨rfl, rfl, rfl, by simp, fun b hb _ => heap_alloc_old w o hb, fun b cur ty h => ⟨cur, (heap_alloc_old w o (lt_of_some h)).trans h, rfl⟩, fun a => by
    rcases Nat.lt_trichotomy a.block w.heap.size with h | h | h
    · exact frozen_of (heap_alloc_old w o h)
    · have e1 : (w.alloc o).heap[a.block]? = some o := by rw [h]; exact heap_alloc_new w o
      rw [frozen_thaw e1 ho]
      unfold World.frozen?
      rw [Array.getElem?_eq_none (by omega)]
    · refine frozen_of ?_
      rw [Array.getElem?_eq_none (by simp; omega), Array.getElem?_eq_none (by omega)]⟩
theorem kept_drew (w : World) (T : Nat → Prop) : Kept w w.drew T :=
  ⟨rfl, rfl, rfl, Nat.le_refl _, fun _ _ _ => rfl, fun b cur ty h => ⟨cur, h, rfl⟩, fun _ => rfl⟩

def bindρ (ρ : Names) (d g : Nat) : Names := fun i => if i = d then some (some g) else ρ i
theorem bindρ_ext {d g : Nat} (hd : ρ d = none) : ∀ id g', ρ id = some g' → bindρ ρ d g id = some g' := by
  intro id g' h
  unfold bindρ
  split
  · rename_i e; subst e; rw [hd] at h; cases h
  · exact h
theorem bindρ_same (d g : Nat) : bindρ ρ d g d = some (some g) := by simp [bindρ]
theorem bindρ_ne {d g i : Nat} (h : i ≠ d) : bindρ ρ d g i = ρ i := by simp [bindρ, h]

/-- A new block: whatever has been done besides to no old block. -/
theorem HeapOK.new {w' : World} (hH : HeapOK w ρ ok H) (hk : Kept w w' (fun _ => False)) {d g : Nat} (hd : ρ d = none) (hdH : hlook H d = none) (hg : w.heap.size ≤ g) {B : Blk}
    (hB : BlkOK w' (bindρ ρ d g) ok d B) : HeapOK w' (bindρ ρ d g) ok ((d, some B) :: H) := by
  refine ⟨fun id B' h => ?_, fun id B' g' h hρ hok => ?_, fun id id' B1 B2 g' h h' hρ hρ' => ?_, fun b hb => Nat.lt_of_lt_of_le (hH.lt b hb) hk.size⟩
  · rw [hlook_cons] at h
    split at h
    · rename_i e; subst e; cases h; exact hB
    · rename_i hne
      exact (hH.blk id B' h).mono (bindρ_ext hd) (fun _ h => h) hk (fun _ _ h => h) (fun _ _ h => h)
  · rw [hlook_cons] at h
    split at h
    · rename_i e; subst e
      rw [bindρ_same] at hρ; cases hρ
      have := hH.lt _ hok; omega
    · rename_i hne
      rw [bindρ_ne hne] at hρ
      exact hH.away id B' g' h hρ hok
  · rw [hlook_cons] at h h'
    split at h
    · rename_i e; subst e
      rw [bindρ_same] at hρ; cases hρ
      split at h'
      · rename_i e'; exact e'.symm
      · rename_i hne
        rw [bindρ_ne hne] at hρ'
        have := (hH.blk id' B2 h').lt _ hρ'
        omega
    · rename_i hne
      rw [bindρ_ne hne] at hρ
      split at h'
      · rename_i e'; subst e'
        rw [bindρ_same] at hρ'; cases hρ'
        have := (hH.blk id B1 h).lt _ hρ
        omega
      · rename_i hne'
        rw [bindρ_ne hne'] at hρ'
        exact hH.inj id id' B1 B2 g' h h' hρ hρ'

theorem Post.made {w' : World} (hH : HeapOK w ρ ok H) (hk : Kept w w' (fun _ => False)) {d : Nat} (hd : ρ d = none) (hdH : hlook H d = none) {g : Nat} (hg : w.heap.size ≤ g) {B : Blk} {av : AV} {v : Value}
    (hB : BlkOK w' (bindρ ρ d g) ok d B) (hv : AVRel w' (bindρ ρ d g) ok av v) : Post w ρ ok H ⟨av, [(d, some B)], [d]⟩ v w' (bindρ ρ d g) :=
  ⟨hv, hH.new hk hd hdH hg hB, bindρ_ext hd, fun id g' h => by
    by_cases e : id = d
    · subst e; rw [bindρ_same] at h; cases h; exact .inr ⟨by simp, fun g' e => by cases e; exact .inl hg⟩
    · rw [bindρ_ne e] at h; exact .inl h,
   fun b ⟨id, B', h1, h2⟩ => by
    rw [List.cons_append, List.nil_append, hlook_cons] at h1
    split at h1
    · rename_i e; subst e; rw [bindρ_same] at h2; cases h2; exact .inr hg
    · rename_i e; rw [bindρ_ne e] at h2; exact .inl ⟨id, B', h1, h2⟩,
   hk.mono (fun _ _ h => h.elim)⟩

/-- A new row with cells that read as abstract cells. -/
theorem BlkOK.row_new {ty : TypeId} {sz : Nat} {cs : List AV} {cur : Array Value} {ρ' : Names} {d g : Nat} {w' : World} (hρ : ρ' d = some (some g)) (hg : w'.heap[g]? = some (.cells cur ty (0, 0))) (hl : cs.length ≤ cur.size)
    (h1 : ∀ a ∈ cs, a.one = true) (h : ∀ (k : Nat) (a : AV) (u : Value), cs[k]? = some a → cur[k]? = some u → AVRel w' ρ' ok a u) : BlkOK w' ρ' ok d (.row ty sz cs) :=
  .inr ⟨g, cur, hρ, hg, hl, h1, h⟩

theorem run_newVar (t : TypeId) (v : Value) : (newVar t v).run P w = .ok ⟨w.heap.size, 0, none⟩ (w.alloc (.cells v.cells t)) := by
  simp [newVar, newRow]
theorem run_newRow (t : TypeId) (cs : Array Value) : (newRow t cs).run P w = .ok ⟨w.heap.size, 0, none⟩ (w.alloc (.cells cs t)) := by
  simp [newRow]
theorem run_typeInfo {t : TypeId} {i : TypeInfo} (h : P.info? t = some i) (w : World) : (typeInfo t).run P w = .ok i w := by simp [typeInfo, h]
theorem run_sizeOf' {t : TypeId} {i : TypeInfo} (h : P.info? t = some i) (w : World) : (sizeOf t).run P w = .ok i.size w := by simp [sizeOf, run_typeInfo h]
theorem run_zeroValue' {t : TypeId} {i : TypeInfo} {z : Value} (h : P.info? t = some i) (hz : i.zero = some z) (w : World) : (zeroValue t).run P w = .ok z w := by simp [zeroValue, run_typeInfo h, hz]

theorem zeros_rel (w : World) (ρ : Names) (ok : Nat → Prop) (i : TI) {z : Value} (hz : z.cells.toList = i.zero) (k : Nat) (a : AV) (u : Value) (ha : (zeros i)[k]? = some a) (hu : z.cells[k]? = some u) : AVRel w ρ ok a u := by
  simp only [zeros, List.getElem?_map, Option.map_eq_some_iff] at ha
  obtain ⟨v, hv, rfl⟩ := ha
  have : z.cells.toList[k]? = some u := by simpa using hu
  rw [hz, hv] at this; cases this
  exact .p _ _ (.c _)
theorem zeros_one {i : TI} (h : ∀ v ∈ i.zero, v.oneCell' = true) : ∀ a ∈ zeros i, a.one = true := by
  intro a ha
  simp only [zeros, List.mem_map] at ha
  obtain ⟨v, hv, rfl⟩ := ha
  exact h v hv
theorem zeros_length (i : TI) : (zeros i).length = i.zero.length := by simp [zeros]

theorem alloc_sound (hA : Agrees P D) (hH : HeapOK w ρ ok H) {t : TypeId} {d : Nat} {out : Out} (h : allocF D t d = some out) (hd : ρ d = none) (hdH : hlook H d = none) :
    ∃ v w' ρ', (Instr.alloc t true (.tuple #[])).run P w = .ok v w' ∧ Post w ρ ok H out v w' ρ' := by
  unfold allocF at h
  cases hi : D t with
  | none => simp [hi] at h
  | some i =>
    simp [hi] at h; subst h
    obtain ⟨⟨info, ds, z, h1, h2, h3, h4, h5, h6, h7, h8⟩, hl, h1c, hp⟩ := hA t i hi
    refine ⟨.pointer (some ⟨w.heap.size, 0, none⟩), w.alloc (.cells z.cells t), bindρ ρ d w.heap.size, ?_, ?_⟩
    · simp [Instr.alloc, run_zeroValue' h1 h5, run_newVar]
    · refine Post.made hH (kept_alloc _ _ _) hd hdH (Nat.le_refl _) ?_ (.ptr d 0 _ (bindρ_same _ _))
      refine BlkOK.row_new (bindρ_same _ _) (heap_alloc_new w _) ?_ (zeros_one h1c) (fun k a u ha hu => zeros_rel _ _ _ i h6 k a u ha hu)
      rw [zeros_length, ← h6]; simp

theorem cellsFor_some {i : TI} {x : AV} {cs : List AV} (h : cellsFor i x = some cs) : x.fine ∧ cs = x.cells ∧ cs.length = i.size ∧ ∀ a ∈ cs, a.one = true := by
  unfold cellsFor at h
  split at h
  · rename_i hc
    cases h
    exact ⟨fine_of hc.1, rfl, hc.2.1, fun a ha => List.all_eq_true.1 hc.2.2 a ha⟩
  · cases h

theorem box_sound (hA : Agrees P D) (hH : HeapOK w ρ ok H) {t : TypeId} {x : AV} {u : Value} (hx : AVRel w ρ ok x u) {d : Nat} {out : Out} (h : boxF D t x d = some out) (hd : ρ d = none) (hdH : hlook H d = none) :
    ∃ v w' ρ', (Instr.box t u).run P w = .ok v w' ∧ Post w ρ ok H out v w' ρ' := by
  unfold boxF at h
  cases hi : D t with
  | none => simp [hi] at h
  | some i =>
    simp only [hi, Option.bind_some, Option.map_eq_some_iff] at h
    obtain ⟨cs, hcs, rfl⟩ := h
    obtain ⟨hf, rfl, hl, h1⟩ := cellsFor_some hcs
    refine ⟨.pointer (some ⟨w.heap.size, 0, none⟩), w.alloc (.cells u.cells t), bindρ ρ d w.heap.size, ?_, ?_⟩
    · simp [Instr.box, run_newVar]
    · refine Post.made hH (kept_alloc _ _ _) hd hdH (Nat.le_refl _) ?_ (.ptr d 0 _ (bindρ_same _ _))
      refine BlkOK.row_new (bindρ_same _ _) (heap_alloc_new w _) ?_ h1 (fun k a v ha hv => ?_)
      · rw [hx.cells_size hf]; exact Nat.le_refl _
      · exact (hx.cells hf k a v ha hv).mono (bindρ_ext hd) (fun _ h => h) (kept_alloc w _ (fun _ => False)) (fun _ _ h => h)

/-! ### scalars -/
theorem AVRel.asB {a : AV} {u : Value} {b : Bool} (h : AVRel w ρ ok a u) (hb : Aw.asB a = some b) : u = .bool b := by
  unfold Aw.asB at hb
  split at hb
  · cases hb; cases h with | p v u h => cases h; rfl
  · cases hb
theorem AVRel.asI {a : AV} {u : Value} {k : IntKind} {n : Int} (h : AVRel w ρ ok a u) (hb : Aw.asI a = some (k, n)) : u = .int k n := by
  unfold Aw.asI at hb
  split at hb
  · cases hb; cases h with | p v u h => cases h; rfl
  · cases hb
theorem str_of (s : ByteArray) : str s.data.toList = .string s := by unfold str; congr
theorem AVRel.asL {a : AV} {u : Value} {l : List UInt8} (h : AVRel w ρ ok a u) (hb : Aw.asL a = some l) : u = str l := by
  unfold Aw.asL at hb
  split at hb
  · cases hb; cases h with | p v u h => cases h; rw [str_of]
  · cases hb
theorem AVRel.const (v : Value) : AVRel w ρ ok (.p (.c v)) v := .p _ _ (.c v)

theorem byteArray_toList (l : List UInt8) : (⟨l.toArray⟩ : ByteArray).toList = l := by
  rw [ByteArray.toList_eq]

end
end Go.Aw
