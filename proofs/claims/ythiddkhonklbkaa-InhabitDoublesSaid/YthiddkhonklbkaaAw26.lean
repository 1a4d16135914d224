/- States that say less: memory frozen; a slice that is nil by a name. -/
import Derived.Test.YthiddkhonklbkaaAw25
set_option linter.unusedVariables false
set_option linter.unusedSimpArgs false
namespace Go.Aw
open Go

mutual
/-- A value, with the names fr read as they stand. -/
def fz (D : Types) (h : Nat → Option Blk) (fr : List Nat) : AV → AV
  | .sl id sz off len => if id ∈ fr then (match snap D h 8 (.sl id sz off len) with | some p => .p p | none => .junk) else .sl id sz off len
  | .ptr id off => if id ∈ fr then (match snapB D h 8 (.ptr id off) with | some c => c | none => .junk) else .ptr id off
  | .mp id => if id ∈ fr then (match snap D h 8 (.mp id) with | some p => .p p | none => .junk) else .mp id
  | .agg xs => mkagg (fzL D h fr xs)
  | .tup xs => mktup (fzL D h fr xs)
  | .fn f a b => .fn f (fzL D h fr a) (fzL D h fr b)
  | .p v => .p v
  | .fptr cs => .fptr cs
  | .junk => .junk
def fzL (D : Types) (h : Nat → Option Blk) (fr : List Nat) : List AV → List AV
  | [] => []
  | x :: r => fz D h fr x :: fzL D h fr r
end
theorem fzL_map {D : Types} {h : Nat → Option Blk} {fr : List Nat} (xs : List AV) : fzL D h fr xs = xs.map (fz D h fr) := by
  induction xs with
  | nil => rfl
  | cons x r ih => rw [fzL, ih]; rfl
def fzT (D : Types) (h : Nat → Option Blk) (fr : List Nat) : List (Nat × AV) → List (Nat × AV)
  | [] => []
  | (i, v) :: r => (i, fz D h fr v) :: fzT D h fr r
def fzB (D : Types) (h : Nat → Option Blk) (fr : List Nat) : Blk → Option Blk
  | .row ty sz cs => if (fzL D h fr cs).all AV.one = true then some (.row ty sz (fzL D h fr cs)) else none
  | .map es => some (.map es)
def fzH (D : Types) (h : Nat → Option Blk) (fr : List Nat) : Heap → Heap
  | [] => []
  | (i, B) :: r => (i, if i ∈ fr then none else B.bind (fzB D h fr)) :: fzH D h fr r
theorem fzT_look {D : Types} {h : Nat → Option Blk} {fr : List Nat} (t : List (Nat × AV)) (i : Nat) : (look (fzT D h fr t) i).getD .junk = fz D h fr ((look t i).getD .junk) := by
  induction t with
  | nil => simp [fzT, fz]
  | cons p r ih =>
    obtain ⟨k, v⟩ := p
    rw [fzT, look_cons, look_cons]
    by_cases e : i = k
    · simp [e]
    · rw [if_neg e, if_neg e, ih]
theorem fzH_look {D : Types} {h : Nat → Option Blk} {fr : List Nat} (H : Heap) (i : Nat) : hlook (fzH D h fr H) i = if i ∈ fr then none else (hlook H i).bind (fzB D h fr) := by
  induction H with
  | nil => simp [fzH]
  | cons p r ih =>
    obtain ⟨k, B⟩ := p
    rw [fzH, hlook_cons, hlook_cons]
    by_cases e : i = k
    · subst e; simp
    · rw [if_neg e, if_neg e, ih]

theorem LeS.freeze {P : Program} {D : Types} (hA : Agrees P D) {t : List (Nat × AV)} {H : Heap} {u : List Nat} (fr : List Nat) :
    LeS ⟨t, H, u⟩ ⟨fzT D (only (hlook H) fr) fr t, fzH D (only (hlook H) fr) fr H, u⟩ := by
  intro w0 ok0 F ρ0 n a w ρ ok hR
  generalize hh : only (hlook H) fr = h
  have hsub : ∀ i B, h i = some B → i ∈ fr ∧ hlook H i = some B := by
    intro i B hB
    rw [← hh] at hB
    unfold only at hB
    split at hB
    · rename_i hi; exact ⟨hi, hB⟩
    · cases hB
  -- the frozen part alone
  let Hf : Heap := fr.map fun j => (j, hlook H j)
  have hlf : ∀ i, hlook Hf i = if i ∈ fr then hlook H i else none := by
    intro i
    show hlook (fr.map fun j => (j, hlook H j)) i = _
    unfold hlook
    rw [look_map fr (fun j => j) (fun j => (look H j).join) i]
    by_cases hi : i ∈ fr
    · have := find_inj (f := fun j => j) hi (fun a _ b _ e => e)
      rw [this, if_pos hi]; rfl
    · rw [find_none (f := fun j => j) (fun j hj e => hi (by have e' : j = i := e; rw [← e']; exact hj)), if_neg hi]; rfl
  have hfl : ∀ i B, hlook Hf i = some B → i ∈ fr ∧ hlook H i = some B := by
    intro i B hB
    rw [hlf] at hB
    by_cases hi : i ∈ fr
    · rw [if_pos hi] at hB; exact ⟨hi, hB⟩
    · rw [if_neg hi] at hB; cases hB
  have hHf : HeapOK w ρ ok Hf := ⟨fun i B hB => hR.heap.blk i B (hfl i B hB).2, fun i B g hB => hR.heap.away i B g (hfl i B hB).2, fun i j B B' g hB hB' => hR.heap.inj i j B B' g (hfl i B hB).2 (hfl j B' hB').2, hR.heap.lt⟩
  have hhf : ∀ i B, h i = some B → hlook Hf i = some B := by
    intro i B hB
    obtain ⟨h1, h2⟩ := hsub i B hB
    rw [hlf, if_pos h1]; exact h2
  let ok' : Nat → Prop := fun b => ok b ∨ Own ρ Hf b
  have hsn : ∀ {k : Nat} {a : AV} {p : PV} {v : Value}, snap D h k a = some p → AVRel w ρ ok a v → AVRel w ρ ok' (.p p) v := fun hs hv => .p _ _ (snap_sound hA hHf hhf hs hv)
  have same : ∀ {a : AV} {v : Value}, AVRel w ρ ok a v → AVRel w ρ ok' a v := fun hv => hv.mono (fun _ _ h => h) (fun _ h => .inl h) (Kept.refl w fun _ => False) (fun _ _ h => h)
  have key : ∀ {a : AV} {v : Value}, AVRel w ρ ok a v → AVRel w ρ ok' (fz D h fr a) v := by
    intro a v hv
    induction hv with
    | p q u hr => rw [fz]; exact same (.p q u hr)
    | sl id sz off len A c hc hm hsl =>
      rw [fz]
      split
      · split
        · rename_i p hp; exact hsn hp (.sl id sz off len A c hc hm hsl)
        · exact .junk _
      · exact same (.sl id sz off len A c hc hm hsl)
    | ptr id off g hg =>
      rw [fz]
      split
      · split
        · rename_i c hc
          simp only [snapB, Option.bind_eq_some_iff] at hc
          obtain ⟨B, hB, hc⟩ := hc
          have hBf := hhf _ _ hB
          have hbo := hHf.blk _ _ hBf
          cases B with
          | map es => simp at hc
          | row ty z cs =>
            simp only [Option.map_eq_some_iff] at hc
            obtain ⟨ps, hps, rfl⟩ := hc
            obtain ⟨hpl, hpat⟩ := optAll_at hps
            rw [List.length_drop] at hpl
            rcases hbo with ⟨hn, rfl⟩ | ⟨g', cur, hg', hcur, hle, hone, hrel⟩
            · rw [hn] at hg; cases hg
            · rw [hg'] at hg; cases hg
              refine .fptr ps ⟨g, off, none⟩ ((cur.toList.drop off).take ps.length) rfl (.inr ⟨id, _, hBf, hg'⟩) (lt_of_some hcur) ?_ ?_ ?_ ?_
              · intro p hp
                obtain ⟨j, hj⟩ := List.getElem?_of_mem hp
                have hjl : j < (cs.drop off).length := by rw [List.length_drop, ← hpl]; exact (List.getElem?_eq_some_iff.1 hj).1
                have ha := List.getElem?_eq_getElem hjl
                exact snap_one (hpat j _ p ha hj) (hone _ (List.mem_of_mem_drop (List.mem_of_getElem? ha)))
              · have e1 : cur.toList.length = cur.size := Array.length_toList
                simp only [List.length_take, List.length_drop]; omega
              · intro j u hu
                rw [List.getElem?_take] at hu
                split at hu
                · rw [List.getElem?_drop, Array.getElem?_toList] at hu
                  rw [add_plain]
                  simp [World.cell?, hcur, hu]
                · cases hu
              · intro j p u hp hu
                rw [List.getElem?_take] at hu
                split at hu
                · rw [List.getElem?_drop, Array.getElem?_toList] at hu
                  have hjl : j < (cs.drop off).length := by rw [List.length_drop, ← hpl]; exact (List.getElem?_eq_some_iff.1 hp).1
                  have ha := List.getElem?_eq_getElem hjl
                  have ha' := ha
                  rw [List.getElem?_drop] at ha'
                  exact snap_sound hA hHf hhf (hpat j _ p ha hp) (hrel _ _ _ ha' hu)
                · cases hu
        · exact .junk _
      · exact same (.ptr id off g hg)
    | mp id g hg =>
      rw [fz]
      split
      · split
        · rename_i p hp; exact hsn hp (.mp id g hg)
        · exact .junk _
      · exact same (.mp id g hg)
    | fptr cs ad us h1 h2 h3 h4 h5 h6 h7 => rw [fz]; exact same (.fptr cs ad us h1 h2 h3 h4 h5 h6 h7)
    | agg xs us hl hr ih =>
      rw [fz, fzL_map]
      refine AVRel.mkagg (by simpa using hl) (fun i b u hb hu => ?_)
      rw [List.getElem?_map, Option.map_eq_some_iff] at hb
      obtain ⟨x, hx, rfl⟩ := hb
      exact ih i x u hx hu
    | tup xs us hl hr ih =>
      rw [fz, fzL_map]
      refine AVRel.mktup (by simpa using hl) (fun i b u hb hu => ?_)
      rw [List.getElem?_map, Option.map_eq_some_iff] at hb
      obtain ⟨x, hx, rfl⟩ := hb
      exact ih i x u hx hu
    | fn f first captured us vs hl hl' h1 h2 ih1 ih2 =>
      rw [fz, fzL_map, fzL_map]
      refine .fn f _ _ us vs (by simpa using hl) (by simpa using hl') (fun i b u hb hu => ?_) (fun i b u hb hu => ?_)
      · rw [List.getElem?_map, Option.map_eq_some_iff] at hb
        obtain ⟨x, hx, rfl⟩ := hb
        exact ih1 i x u hx hu
      · rw [List.getElem?_map, Option.map_eq_some_iff] at hb
        obtain ⟨x, hx, rfl⟩ := hb
        exact ih2 i x u hx hu
    | junk u => rw [fz]; exact .junk u
  have hold : ∀ i B, hlook (fzH D h fr H) i = some B → i ∉ fr ∧ ∃ C, hlook H i = some C ∧ fzB D h fr C = some B := by
    intro i B hB
    rw [fzH_look] at hB
    by_cases hi : i ∈ fr
    · rw [if_pos hi] at hB; cases hB
    · rw [if_neg hi, Option.bind_eq_some_iff] at hB
      exact ⟨hi, hB⟩
  refine ⟨ρ, ok', hR.size, hR.defers, fun i => ?_, ⟨fun i B hB => ?_, fun i B g hB hg hokg => ?_, fun i j B B' g hB hB' hg hg' => ?_, fun b hb => ?_⟩, hR.used, ?_, hR.kept, fun b hb => .inl (hR.oksub b hb), fun b hb => ?_, hR.init⟩
  · show AVRel w ρ ok' ((look (fzT D h fr t) i).getD .junk) _
    rw [fzT_look]; exact key (hR.tmp i)
  · obtain ⟨hi, C, hC, hCB⟩ := hold i B hB
    have hb := hR.heap.blk i C hC
    cases C with
    | map es =>
      simp only [fzB, Option.some.injEq] at hCB; subst hCB
      obtain ⟨g, ents, clock, h1, h2, h3, h4, h5⟩ := hb
      exact ⟨g, ents, clock, h1, h2, h3, h4, fun i e m he hm => (h5 i e m he hm).mono (fun _ h => .inl h) (fun _ _ _ => rfl)⟩
    | row ty sz cs =>
      simp only [fzB] at hCB
      split at hCB
      · rename_i hall
        cases hCB
        rw [fzL_map] at hall ⊢
        rw [List.all_eq_true] at hall
        rcases hb with ⟨h1, rfl⟩ | ⟨g, cur, h1, h2, h3, h4, h5⟩
        · exact .inl ⟨h1, rfl⟩
        · refine .inr ⟨g, cur, h1, h2, by simpa using h3, hall, fun k a u ha hu => ?_⟩
          rw [List.getElem?_map, Option.map_eq_some_iff] at ha
          obtain ⟨x, hx, rfl⟩ := ha
          exact key (h5 k x u hx hu)
      · cases hCB
  · obtain ⟨hi, C, hC, _⟩ := hold i B hB
    rcases hokg with h' | ⟨j, B', hB', hg'⟩
    · exact hR.heap.away i C g hC hg h'
    · obtain ⟨hj, hBj⟩ := hfl j B' hB'
      have := hR.heap.inj i j C B' g hC hBj hg hg'
      exact hi (this ▸ hj)
  · obtain ⟨_, C, hC, _⟩ := hold i B hB
    obtain ⟨_, C', hC', _⟩ := hold j B' hB'
    exact hR.heap.inj i j C C' g hC hC' hg hg'
  · rcases hb with hb | ⟨j, B', hB', hg'⟩
    · exact hR.heap.lt b hb
    · exact (hR.heap.blk j B' (hfl j B' hB').2).lt b hg'
  · rintro b ⟨i, B, hB, hb⟩
    obtain ⟨_, C, hC, _⟩ := hold i B hB
    exact hR.home b ⟨i, C, hC, hb⟩
  · rcases hb with hb | ⟨j, B', hB', hg'⟩
    · exact hR.okn b hb
    · rcases hR.home b ⟨j, B', (hfl j B' hB').2, hg'⟩ with h' | h'
      · exact .inr (.inr h')
      · exact .inr (.inl h')

/-! ### nil by a name -/
/-- In block k, cell c (a slice that is nil) is named i. -/
def setC (cs : List AV) (c : Nat) (v : AV) : List AV := cs.set c v
theorem LeS.nil {t : List (Nat × AV)} {H : Heap} {u : List Nat} (k c i : Nat) (e : TypeId) (sz' : Nat) {ty : TypeId} {sz : Nat} {cs : List AV} (hk : hlook H k = some (.row ty sz cs)) (hc : cs[c]? = some (.p (.c (.slice none 0 0)))) (hi : u.contains i = false) :
    LeS ⟨t, H, u⟩ ⟨t, (k, some (.row ty sz (cs.set c (.sl i sz' 0 0)))) :: (i, some (.row e sz' [])) :: H, i :: u⟩ := by
  intro w0 ok0 F ρ0 n a w ρ ok hR
  have hiu : i ∉ u := by simpa using hi
  have hρi : ρ i = none := by
    cases hx : ρ i with
    | none => rfl
    | some x => exact absurd (hR.used i x hx) hiu
  let ρ' : Names := fun j => if j = i then some none else ρ j
  have hto : ∀ j x, ρ j = some x → ρ' j = some x := by
    intro j x hx
    have : j ≠ i := by intro e'; subst e'; rw [hρi] at hx; cases hx
    simp [ρ', this, hx]
  have hne : ∀ j B, hlook H j = some B → j ≠ i := by
    intro j B hB e'
    obtain ⟨x, hx⟩ := (hR.heap.blk j B hB).bound
    rw [e', hρi] at hx; cases hx
  have hki : k ≠ i := hne k _ hk
  have up : ∀ {a : AV} {v : Value}, AVRel w ρ ok a v → AVRel w ρ' ok a v := fun hv => hv.mono hto (fun _ h => h) (Kept.refl w fun _ => False) (fun _ _ h => h)
  have hof : ∀ j g, ρ' j = some (some g) → ρ j = some (some g) := by
    intro j g hg
    by_cases e' : j = i
    · simp [ρ', e'] at hg
    · simpa [ρ', e'] using hg
  have hlk : ∀ j B, hlook ((k, some (.row ty sz (cs.set c (.sl i sz' 0 0)))) :: (i, some (.row e sz' [])) :: H) j = some B → (j = k ∧ B = .row ty sz (cs.set c (.sl i sz' 0 0))) ∨ (j = i ∧ B = .row e sz' []) ∨ hlook H j = some B := by
    intro j B hB
    rw [hlook_cons, hlook_cons] at hB
    by_cases e1 : j = k
    · rw [if_pos e1] at hB; cases hB; exact .inl ⟨e1, rfl⟩
    · rw [if_neg e1] at hB
      by_cases e2 : j = i
      · rw [if_pos e2] at hB; cases hB; exact .inr (.inl ⟨e2, rfl⟩)
      · rw [if_neg e2] at hB; exact .inr (.inr hB)
  have hreal : ∀ j B g, hlook ((k, some (.row ty sz (cs.set c (.sl i sz' 0 0)))) :: (i, some (.row e sz' [])) :: H) j = some B → ρ' j = some (some g) → ∃ C, hlook H j = some C := by
    intro j B g hB hg
    rcases hlk j B hB with ⟨rfl, _⟩ | ⟨rfl, _⟩ | h
    · exact ⟨_, hk⟩
    · simp [ρ'] at hg
    · exact ⟨_, h⟩
  refine ⟨ρ', ok, hR.size, hR.defers, fun j => up (hR.tmp j), ⟨fun j B hB => ?_, fun j B g hB hg hok => ?_, fun j l B B' g hB hB' hg hg' => ?_, hR.heap.lt⟩, fun j x hx => ?_, ?_, hR.kept, hR.oksub, hR.okn, fun j x hx => ?_⟩
  · rcases hlk j B hB with ⟨rfl, rfl⟩ | ⟨rfl, rfl⟩ | hB
    · rcases hR.heap.blk j _ hk with ⟨h1, rfl⟩ | ⟨g, cur, h1, h2, h3, h4, h5⟩
      · simp at hc
      · refine .inr ⟨g, cur, hto _ _ h1, h2, by simpa using h3, fun a ha => ?_, fun m a v ha hv => ?_⟩
        · rcases List.mem_or_eq_of_mem_set ha with h | h
          · exact h4 a h
          · subst h; rfl
        · rw [List.getElem?_set] at ha
          split at ha
          · rename_i hm
            subst hm
            split at ha
            · cases ha
              have := h5 c _ v hc hv
              cases this with
              | p _ _ hr => cases hr with
                | c x => exact .sl i sz' 0 0 none 0 (Nat.le_refl _) (by decide) (.inl ⟨rfl, rfl, rfl, by simp [ρ']⟩)
            · cases ha
          · exact up (h5 m a v ha hv)
    · exact .inl ⟨by simp [ρ'], rfl⟩
    · exact (hR.heap.blk j B hB).mono hto (fun _ h => h) (Kept.refl w fun _ => False) (fun _ _ h => h) (fun _ _ h => h)
  · obtain ⟨C, hC⟩ := hreal j B g hB hg
    exact hR.heap.away j C g hC (hof j g hg) hok
  · obtain ⟨C, hC⟩ := hreal j B g hB hg
    obtain ⟨C', hC'⟩ := hreal l B' g hB' hg'
    exact hR.heap.inj j l C C' g hC hC' (hof j g hg) (hof l g hg')
  · by_cases e' : j = i
    · simp [e']
    · simp only [ρ', e', if_false] at hx
      exact List.mem_cons_of_mem _ (hR.used j x hx)
  · rintro b ⟨j, B, hB, hb⟩
    obtain ⟨C, hC⟩ := hreal j B b hB hb
    exact hR.home b ⟨j, C, hC, hof j b hb⟩
  · obtain ⟨hlt, hx'⟩ := hR.init j x hx
    exact ⟨hlt, hto j x hx'⟩
end Go.Aw
