/- States that say less: names forgotten, renamed, frozen. -/
import Derived.Test.YthiddkhonklbkaaAw24
set_option linter.unusedVariables false
set_option linter.unusedSimpArgs false
namespace Go.Aw
open Go

mutual
theorem ren_id : (a : AV) → a.ren id = a
  | .p v => rfl
  | .sl .. => rfl
  | .ptr .. => rfl
  | .fptr .. => rfl
  | .mp .. => rfl
  | .agg xs => by rw [AV.ren, renL_id xs]
  | .tup xs => by rw [AV.ren, renL_id xs]
  | .fn f a b => by rw [AV.ren, renL_id a, renL_id b]
  | .junk => rfl
theorem renL_id : (xs : List AV) → AV.renL id xs = xs
  | [] => rfl
  | x :: r => by rw [AV.renL, ren_id x, renL_id r]
end
theorem blk_ren_id (B : Blk) : B.ren id = B := by
  cases B with
  | row ty sz cs => rw [Blk.ren, renL_id]
  | map es => rfl

/-- Every entry of the second is what the first says (or nothing). -/
def subH (H : Heap) : Heap → Prop
  | [] => True
  | (i, B) :: r => (B = none ∨ hlook H i = B) ∧ subH H r
theorem subH_look {H H' : Heap} (h : subH H H') {i : Nat} {B : Blk} (hB : hlook H' i = some B) : hlook H i = some B := by
  induction H' with
  | nil => simp at hB
  | cons p r ih =>
    obtain ⟨k, C⟩ := p
    rw [hlook_cons] at hB
    by_cases e : i = k
    · subst e; rw [if_pos rfl] at hB; subst hB
      rcases h.1 with h | h
      · cases h
      · exact h
    · rw [if_neg e] at hB; exact ih h.2 hB
/-- All names in slots and blocks. -/
def idsT : List (Nat × AV) → List Nat
  | [] => []
  | (_, v) :: r => v.ids ++ idsT r
def idsH : Heap → List Nat
  | [] => []
  | (i, some B) :: r => i :: B.ids ++ idsH r
  | (_, none) :: r => idsH r
theorem idsT_mem {t : List (Nat × AV)} {i j : Nat} (h : j ∈ ((look t i).getD .junk).ids) : j ∈ idsT t := by
  induction t with
  | nil => simp [AV.ids] at h
  | cons p r ih =>
    obtain ⟨k, v⟩ := p
    rw [look_cons] at h
    rw [idsT, List.mem_append]
    by_cases e : i = k
    · rw [if_pos e] at h; exact .inl h
    · rw [if_neg e] at h; exact .inr (ih h)
theorem idsH_mem {H : Heap} {i : Nat} {B : Blk} (h : hlook H i = some B) : i ∈ idsH H ∧ ∀ j ∈ B.ids, j ∈ idsH H := by
  induction H with
  | nil => simp at h
  | cons p r ih =>
    obtain ⟨k, C⟩ := p
    rw [hlook_cons] at h
    by_cases e : i = k
    · subst e; rw [if_pos rfl] at h; subst h
      rw [idsH]
      exact ⟨by simp, fun j hj => by simp [hj]⟩
    · rw [if_neg e] at h
      obtain ⟨h1, h2⟩ := ih h
      cases C with
      | none => rw [idsH]; exact ⟨h1, h2⟩
      | some C => rw [idsH]; exact ⟨by simp [h1], fun j hj => by simp [h2 j hj]⟩
/-- Names below 100 stay. -/
def keepB (u u' : List Nat) : Bool := u.all fun x => !Nat.blt x 100 || u'.contains x

theorem LeS.less {t t' : List (Nat × AV)} {H H' : Heap} {u u' : List Nat} (ht : subT t t') (hH : subH H H') (h1 : inB u' (idsT t') = true) (h2 : inB u' (idsH H') = true) (h3 : keepB u u' = true) : LeS ⟨t, H, u⟩ ⟨t', H', u'⟩ := by
  intro w0 ok0 F ρ0 n a w ρ ok hR
  let ρ' : Names := fun i => if i ∈ u' then ρ i else none
  have hin : ∀ i, i ∈ u' → ρ' i = ρ i := fun i hi => by simp [ρ', hi]
  have hof : ∀ i x, ρ' i = some x → ρ i = some x ∧ i ∈ u' := by
    intro i x h
    by_cases hi : i ∈ u'
    · rw [hin i hi] at h; exact ⟨h, hi⟩
    · simp [ρ', hi] at h
  have hto : ∀ i, i ∈ u' → ∀ x, ρ i = some x → ρ' i = some x := fun i hi x hx => by rw [hin i hi]; exact hx
  have i1 := inB_spec h1
  have i2 := inB_spec h2
  refine ⟨ρ', ok, hR.size, hR.defers, fun i => ?_, ⟨fun i B hB => ?_, fun i B g hB hg hok => ?_, fun i j B B' g hB hB' hg hg' => ?_, hR.heap.lt⟩, fun i x hx => (hof i x hx).2, ?_, hR.kept, hR.oksub, hR.okn, fun i x hx => ?_⟩
  · have := subT_look ht i _ _ _ _ (hR.tmp i)
    have h' := this.ren (ρ' := ρ') (f := id) (fun j hj => hto j (i1 j (idsT_mem hj)))
    rw [ren_id] at h'; exact h'
  · have hb := hR.heap.blk i B (subH_look hH hB)
    have h' := hb.ren (ρ' := ρ') (f := id) (hto i (i2 i (idsH_mem hB).1)) (fun j hj => hto j (i2 j ((idsH_mem hB).2 j hj)))
    rw [blk_ren_id] at h'; exact h'
  · exact hR.heap.away i B g (subH_look hH hB) (hof i _ hg).1 hok
  · exact hR.heap.inj i j B B' g (subH_look hH hB) (subH_look hH hB') (hof i _ hg).1 (hof j _ hg').1
  · rintro b ⟨i, B, hB, hb⟩
    exact hR.home b ⟨i, B, subH_look hH hB, (hof i _ hb).1⟩
  · obtain ⟨hlt, hx'⟩ := hR.init i x hx
    refine ⟨hlt, hto i ?_ x hx'⟩
    unfold keepB at h3
    rw [List.all_eq_true] at h3
    have := h3 i (hR.used i x hx')
    simp only [Bool.or_eq_true, Bool.not_eq_true', List.contains_iff_mem] at this
    rcases this with h | h
    · exfalso
      have : Nat.blt i 100 = true := by simpa [Nat.blt_eq] using hlt
      rw [h] at this; cases this
    · exact h

/-! ### another name -/
def swapN (j i x : Nat) : Nat := if x = j then i else x
def renT (f : Nat → Nat) : List (Nat × AV) → List (Nat × AV)
  | [] => []
  | (i, v) :: r => (i, v.ren f) :: renT f r
def renH (f : Nat → Nat) : Heap → Heap
  | [] => []
  | (i, B) :: r => (i, B.map (Blk.ren f)) :: renH f r
theorem renT_look {f : Nat → Nat} (t : List (Nat × AV)) (i : Nat) : (look (renT f t) i).getD .junk = ((look t i).getD .junk).ren f := by
  induction t with
  | nil => rfl
  | cons p r ih =>
    obtain ⟨k, v⟩ := p
    rw [renT, look_cons, look_cons]
    by_cases e : i = k
    · simp [e]
    · rw [if_neg e, if_neg e, ih]
theorem renH_look {f : Nat → Nat} (H : Heap) (i : Nat) : hlook (renH f H) i = (hlook H i).map (Blk.ren f) := by
  induction H with
  | nil => rfl
  | cons p r ih =>
    obtain ⟨k, B⟩ := p
    rw [renH, hlook_cons, hlook_cons]
    by_cases e : i = k
    · simp [e]
    · rw [if_neg e, if_neg e, ih]
/-- Name j becomes i (a new one). -/
theorem LeS.name {t : List (Nat × AV)} {H : Heap} {u : List Nat} (j i : Nat) (hi : u.contains i = false) :
    LeS ⟨t, H, u⟩ ⟨renT (swapN j i) t, (i, (hlook H j).map (Blk.ren (swapN j i))) :: (j, none) :: renH (swapN j i) H, i :: u⟩ := by
  intro w0 ok0 F ρ0 n a w ρ ok hR
  have hiu : i ∉ u := by simpa using hi
  have hρi : ρ i = none := by
    cases hx : ρ i with
    | none => rfl
    | some x => exact absurd (hR.used i x hx) hiu
  let ρ' : Names := fun k => if k = i then ρ j else ρ k
  have hto : ∀ k x, ρ k = some x → ρ' (swapN j i k) = some x := by
    intro k x hx
    unfold swapN
    by_cases e : k = j
    · subst e; simp [ρ', hx]
    · rw [if_neg e]
      have : k ≠ i := by intro e'; subst e'; rw [hρi] at hx; cases hx
      simp [ρ', this, hx]
  have hlk : ∀ k B, hlook ((i, (hlook H j).map (Blk.ren (swapN j i))) :: (j, none) :: renH (swapN j i) H) k = some B → ∃ k0 C, k = swapN j i k0 ∧ hlook H k0 = some C ∧ B = C.ren (swapN j i) ∧ ρ' k = ρ k0 := by
    intro k B hB
    rw [hlook_cons, hlook_cons, renH_look] at hB
    by_cases e : k = i
    · rw [if_pos e, Option.map_eq_some_iff] at hB
      obtain ⟨C, hC, rfl⟩ := hB
      exact ⟨j, C, by simp [swapN, e], hC, rfl, by simp [ρ', e]⟩
    · rw [if_neg e] at hB
      by_cases e' : k = j
      · rw [if_pos e'] at hB; cases hB
      · rw [if_neg e', Option.map_eq_some_iff] at hB
        obtain ⟨C, hC, rfl⟩ := hB
        exact ⟨k, C, by simp [swapN, e'], hC, rfl, by simp [ρ', e]⟩
  refine ⟨ρ', ok, hR.size, hR.defers, fun k => ?_, ⟨fun k B hB => ?_, fun k B g hB hg hok => ?_, fun k l B B' g hB hB' hg hg' => ?_, hR.heap.lt⟩, fun k x hx => ?_, ?_, hR.kept, hR.oksub, hR.okn, fun k x hx => ?_⟩
  · show AVRel w ρ' ok ((look (renT (swapN j i) t) k).getD .junk) _
    rw [renT_look]
    exact (hR.tmp k).ren (fun m hm => hto m)
  · obtain ⟨k0, C, rfl, hC, rfl, _⟩ := hlk k B hB
    exact (hR.heap.blk k0 C hC).ren (hto k0) (fun m hm => hto m)
  · obtain ⟨k0, C, rfl, hC, rfl, e⟩ := hlk k B hB
    rw [e] at hg
    exact hR.heap.away k0 C g hC hg hok
  · obtain ⟨k0, C, rfl, hC, rfl, e⟩ := hlk k B hB
    obtain ⟨l0, C', rfl, hC', rfl, e'⟩ := hlk l B' hB'
    rw [e] at hg; rw [e'] at hg'
    rw [hR.heap.inj k0 l0 C C' g hC hC' hg hg']
  · by_cases e : k = i
    · simp [e]
    · simp only [ρ', e, if_false] at hx
      exact List.mem_cons_of_mem _ (hR.used k x hx)
  · rintro b ⟨k, B, hB, hb⟩
    obtain ⟨k0, C, rfl, hC, rfl, e⟩ := hlk k B hB
    rw [e] at hb
    exact hR.home b ⟨k0, C, hC, hb⟩
  · obtain ⟨hlt, hx'⟩ := hR.init k x hx
    refine ⟨hlt, ?_⟩
    have : k ≠ i := fun e => hiu (e ▸ hR.used k x hx')
    simp [ρ', this, hx']

end Go.Aw
