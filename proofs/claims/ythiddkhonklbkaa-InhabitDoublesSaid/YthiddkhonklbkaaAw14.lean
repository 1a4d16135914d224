/- What open values read as now; contracts in a table; one step by the table. -/
import Derived.Test.YthiddkhonklbkaaAw13
set_option linter.unusedVariables false
set_option linter.unusedSimpArgs false
namespace Go.Aw
open Go

/-- All of them, if each is there. -/
def optAll {α : Type} : List (Option α) → Option (List α)
  | [] => some []
  | some a :: r => (optAll r).map (a :: ·)
  | none :: _ => none
theorem optAll_some {α : Type} {l : List (Option α)} {r : List α} (h : optAll l = some r) : l = r.map some := by
  induction l generalizing r with
  | nil => simp [optAll] at h; subst h; rfl
  | cons a l ih =>
    cases a with
    | none => simp [optAll] at h
    | some a =>
      simp only [optAll, Option.map_eq_some_iff] at h
      obtain ⟨r', h', rfl⟩ := h
      rw [ih h']; rfl
theorem optAll_at {α β : Type} {f : α → Option β} {l : List α} {r : List β} (h : optAll (l.map f) = some r) : r.length = l.length ∧ ∀ (i : Nat) (a : α) (b : β), l[i]? = some a → r[i]? = some b → f a = some b := by
  have h1 := optAll_some h
  have hl : r.length = l.length := by simpa using (congrArg List.length h1).symm
  refine ⟨hl, fun i a b ha hb => ?_⟩
  have := congrArg (fun l => l[i]?) h1
  simpa [ha, hb] using this

/-- Elements out of cells. -/
def regroup (st : Bool) (sz : Nat) : Nat → List PV → List PV
  | 0, _ => []
  | n + 1, cs => (if st then PV.agg (cs.take sz) else (cs[0]?).getD (.agg [])) :: regroup st sz n (cs.drop sz)

theorem regroup_length (st : Bool) (sz n : Nat) (cs : List PV) : (regroup st sz n cs).length = n := by
  induction n generalizing cs with
  | zero => rfl
  | succ n ih => rw [regroup, List.length_cons, ih]
theorem regroup_flat {st : Bool} {sz n : Nat} {cs : List PV} (hl : cs.length = n * sz) (h1 : st = false → sz = 1) (hone : ∀ p ∈ cs, p.one = true) : flat (regroup st sz n cs) = cs ∧ ∀ x ∈ regroup st sz n cs, x.cells.length = sz := by
  induction n generalizing cs with
  | zero =>
    have : cs = [] := List.eq_nil_of_length_eq_zero (by simpa using hl)
    subst this; exact ⟨rfl, fun x hx => by simp [regroup] at hx⟩
  | succ n ih =>
    have hle : sz ≤ cs.length := by rw [hl, Nat.succ_mul]; omega
    obtain ⟨ih1, ih2⟩ := ih (cs := cs.drop sz) (by rw [List.length_drop, hl, Nat.succ_mul]; omega) (fun p hp => hone p (List.mem_of_mem_drop hp))
    have hc : (if st then PV.agg (cs.take sz) else (cs[0]?).getD (.agg [])).cells = cs.take sz := by
      cases st with
      | true => rfl
      | false =>
        have := h1 rfl; subst this
        cases cs with
        | nil => simp at hle
        | cons c r =>
          have hc := hone c (by simp)
          cases c <;> first | rfl | (simp [PV.one] at hc)
    refine ⟨?_, fun x hx => ?_⟩
    · rw [regroup, flat_cons, ih1, hc, List.take_append_drop]
    · rw [regroup] at hx
      rcases List.mem_cons.1 hx with rfl | hx
      · rw [hc, List.length_take]; omega
      · exact ih2 x hx

/-- What a value reads as now: all that it leads to. -/
def snap (D : Types) (h : Nat → Option Blk) : Nat → AV → Option PV
  | _, .p v => some v
  | k + 1, .sl id sz off len => (h id).bind fun
    | .row ty _ cs => (D ty).bind fun i => if i.size = sz ∧ (off + len) * sz ≤ cs.length then
        (optAll (((cs.drop (off * sz)).take (len * sz)).map (snap D h k))).map fun vs => .fro sz (regroup i.k.isSt sz len vs) else none
    | _ => none
  | k + 1, .mp id => (h id).bind fun | .map es => some (.fmap es) | _ => none
  | k + 1, .agg xs => (optAll (xs.map (snap D h k))).map .agg
  | k + 1, .tup xs => (optAll (xs.map (snap D h k))).map .tup
  | _, _ => none
/-- The same of what is handed over in a call. -/
def snapB (D : Types) (h : Nat → Option Blk) (k : Nat) : AV → Option AV
  | .fptr cs => some (.fptr cs)
  | .ptr id off => (h id).bind fun
    | .row _ _ cs => (optAll ((cs.drop off).map (snap D h k))).map .fptr
    | _ => none
  | x => (snap D h k x).map .p
def snapA (D : Types) (h : Nat → Option Blk) (k : Nat) : AV → Option AV
  | .fn f first captured => (optAll (first.map (snapB D h k))).bind fun a => (optAll (captured.map (snapB D h k))).map fun b => .fn f a b
  | x => snapB D h k x

section
variable {P : Program} {D : Types} {w : World} {ρ : Names} {ok : Nat → Prop} {H : Heap} {h : Nat → Option Blk}

theorem snap_one {k : Nat} {a : AV} {p : PV} (hs : snap D h k a = some p) (h1 : a.one = true) : p.one = true := by
  cases k with
  | zero => cases a <;> simp [snap] at hs; subst hs; exact h1
  | succ k =>
    cases a with
    | p v => simp [snap] at hs; subst hs; exact h1
    | sl id sz off len =>
      simp only [snap, Option.bind_eq_some_iff] at hs
      obtain ⟨B, _, hs⟩ := hs
      cases B with
      | map es => simp at hs
      | row ty z cs =>
        simp only [Option.bind_eq_some_iff] at hs
        obtain ⟨i, _, hs⟩ := hs
        split at hs
        · rw [Option.map_eq_some_iff] at hs
          obtain ⟨_, _, rfl⟩ := hs; rfl
        · cases hs
    | mp id =>
      simp only [snap, Option.bind_eq_some_iff] at hs
      obtain ⟨B, _, hs⟩ := hs
      cases B with
      | map es => simp at hs; subst hs; rfl
      | row ty z cs => simp at hs
    | agg xs => simp [AV.one] at h1
    | tup xs => simp [AV.one] at h1
    | _ => simp [snap] at hs

theorem snap_sound (hA : Agrees P D) (hH : HeapOK w ρ ok H) (hh : ∀ i B, h i = some B → hlook H i = some B) {k : Nat} : ∀ {a : AV} {p : PV} {v : Value}, snap D h k a = some p → AVRel w ρ ok a v → Rel w (fun b => ok b ∨ Own ρ H b) p v := by
  have base : ∀ {p : PV} {v : Value}, AVRel w ρ ok (.p p) v → Rel w (fun b => ok b ∨ Own ρ H b) p v := by
    intro p v hv; cases hv with
    | p _ _ hr => exact hr.mono (fun b hb => .inl hb) (fun b _ _ => rfl)
  induction k with
  | zero =>
    intro a p v hs hv
    cases a <;> simp [snap] at hs
    subst hs; exact base hv
  | succ k ih =>
    intro a p v hs hv
    cases hv with
    | p q _ hr => simp [snap] at hs; subst hs; exact base (.p _ _ hr)
    | sl id sz off len A c hc hm hsl =>
      simp only [snap, Option.bind_eq_some_iff] at hs
      obtain ⟨B, hB, hs⟩ := hs
      have hB' := hh _ _ hB
      have hbo := hH.blk _ _ hB'
      cases B with
      | map es => simp at hs
      | row ty z cs =>
        simp only [Option.bind_eq_some_iff] at hs
        obtain ⟨i, hi, hs⟩ := hs
        split at hs
        rotate_left
        · cases hs
        rename_i hsz
        obtain ⟨hsz, hlen⟩ := hsz
        rw [Option.map_eq_some_iff] at hs
        obtain ⟨vs, hvs, rfl⟩ := hs
        obtain ⟨hvl, hvat⟩ := optAll_at hvs
        have hfit := hA _ _ hi
        have hvl' : vs.length = len * sz := by
          rw [hvl, List.length_take, List.length_drop]
          rw [Nat.add_mul] at hlen; omega
        have h1 : i.k.isSt = false → sz = 1 := by
          intro h0
          obtain ⟨info, d, zz, _, _, _, _, _, h6, _, h8⟩ := hfit.ex
          have := hfit.len
          rw [← h6, h8 h0] at this
          rw [← hsz]; simpa using this.symm
        rcases hbo with ⟨hn, rfl⟩ | ⟨g, cur, hg, hcur, hle, hone, hrel⟩
        · -- nothing is there
          have hl0 : len = 0 := by
            rcases hsl with ⟨_, h0, _, _⟩ | ⟨g, cur, ty', o, h1, _⟩
            · omega
            · rw [hn] at h1; cases h1
          subst hl0
          have : vs = [] := List.eq_nil_of_length_eq_zero (by simpa using hvl')
          subst this
          refine Rel.fro sz [] A c [] (by simp) hm (by simp) (by simp [flat]) (by simp) (fun i p u h => by simp [flat] at h) (fun h => by simp at h)
        · have hone' : ∀ p ∈ vs, p.one = true := by
            intro p hp
            obtain ⟨j, hj⟩ := List.getElem?_of_mem hp
            have hjl : j < ((cs.drop (off * sz)).take (len * sz)).length := by rw [← hvl]; exact (List.getElem?_eq_some_iff.1 hj).1
            have ha := List.getElem?_eq_getElem hjl
            exact snap_one (hvat j _ p ha hj) (hone _ (List.mem_of_mem_drop (List.mem_of_mem_take (List.mem_of_getElem? ha))))
          obtain ⟨hf1, hf2⟩ := regroup_flat (st := i.k.isSt) hvl' h1 hone'
          have hrl := regroup_length i.k.isSt sz len vs
          have key : ∀ (j : Nat) (p : PV) (u : Value), vs[j]? = some p → (cur.toList.drop (off * sz))[j]? = some u → Rel w (fun b => ok b ∨ Own ρ H b) p u := by
            intro j p u hp hu
            have hjl : j < len * sz := by rw [← hvl']; exact (List.getElem?_eq_some_iff.1 hp).1
            have hjl' : j < ((cs.drop (off * sz)).take (len * sz)).length := by rw [← hvl]; exact (List.getElem?_eq_some_iff.1 hp).1
            have ha := List.getElem?_eq_getElem hjl'
            have hsn := hvat j _ p ha hp
            have ha' := ha
            rw [List.getElem?_take, if_pos hjl, List.getElem?_drop] at ha'
            rw [List.getElem?_drop, Array.getElem?_toList] at hu
            exact ih hsn (hrel _ _ _ ha' hu)
          have goal : Rel w (fun b => ok b ∨ Own ρ H b) (.fro sz (regroup i.k.isSt sz len vs)) (.slice A (regroup i.k.isSt sz len vs).length c) := by
            rcases hsl with ⟨rfl, h0, h00, h4⟩ | ⟨g', cur', ty', o, hg', rfl, ho, hcur', hsz'⟩
            · rw [h4] at hg; cases hg
            · rw [hg'] at hg; cases hg
              rw [hcur'] at hcur; cases hcur
              by_cases hl0 : len = 0
              · subst hl0
                have hvn : vs = [] := List.eq_nil_of_length_eq_zero (by simpa using hvl')
                subst hvn
                exact Rel.fro sz [] _ c [] (by simp) hm (by simp) (by simp [flat]) (by simp) (fun i p u h => by simp [flat] at h) (fun h => by simp at h)
              · have ho' : o = off * sz := ho (.inr (by omega))
                refine Rel.fro sz _ _ c ((cur.toList.drop (off * sz)).take (len * sz)) (by rw [hrl]; exact hc) hm hf2 (by rw [hf1]; exact hone') ?_ ?_ ?_
                · rw [List.length_take, List.length_drop, Array.length_toList, hsz', hrl]
                  have := Nat.mul_le_mul_right sz hc
                  rw [Nat.add_mul]; omega
                · rw [hf1]
                  intro j p u hp hu
                  refine key j p u hp ?_
                  rw [List.getElem?_take] at hu
                  split at hu
                  · exact hu
                  · cases hu
                · intro _
                  refine ⟨_, rfl, rfl, .inr ⟨id, _, hB', hg'⟩, lt_of_some hcur', fun j u hu => ?_⟩
                  rw [add_plain]
                  rw [List.getElem?_take] at hu
                  split at hu
                  · rw [List.getElem?_drop, Array.getElem?_toList] at hu
                    have : cur[o + j]? = some u := by rw [ho']; exact hu
                    simp [World.cell?, hcur', this]
                  · cases hu
          rw [hrl] at goal; exact goal
    | ptr id off g hp => simp [snap] at hs
    | fptr cs ad us => simp [snap] at hs
    | mp id g hg =>
      simp only [snap, Option.bind_eq_some_iff] at hs
      obtain ⟨B, hB, hs⟩ := hs
      have hB' := hh _ _ hB
      have hbo := hH.blk _ _ hB'
      cases B with
      | row ty z cs => simp at hs
      | map es =>
        simp at hs; subst hs
        obtain ⟨g', ents, clock, h1, h2, h3, h4, h5⟩ := hbo
        rw [hg] at h1; cases h1
        exact .fmap es g ents clock h2 (.inr ⟨id, _, hB', hg⟩) h3 h4 (fun i e m he hm => (h5 i e m he hm).mono (fun b hb => .inl hb) (fun b _ _ => rfl))
    | agg xs us hl hr =>
      simp only [snap, Option.map_eq_some_iff] at hs
      obtain ⟨ps, hps, rfl⟩ := hs
      obtain ⟨hpl, hpat⟩ := optAll_at hps
      refine .agg ps us (by rw [hl, hpl]) (fun i p u hp hu => ?_)
      have hlt : i < xs.length := by rw [← hpl]; exact (List.getElem?_eq_some_iff.1 hp).1
      have ha := List.getElem?_eq_getElem hlt
      exact ih (hpat i _ p ha hp) (hr i _ u ha hu)
    | tup xs us hl hr =>
      simp only [snap, Option.map_eq_some_iff] at hs
      obtain ⟨ps, hps, rfl⟩ := hs
      obtain ⟨hpl, hpat⟩ := optAll_at hps
      refine .tup ps us (by rw [hl, hpl]) (fun i p u hp hu => ?_)
      have hlt : i < xs.length := by rw [← hpl]; exact (List.getElem?_eq_some_iff.1 hp).1
      have ha := List.getElem?_eq_getElem hlt
      exact ih (hpat i _ p ha hp) (hr i _ u ha hu)
    | fn f a b => simp [snap] at hs
    | junk u => simp [snap] at hs
end
end Go.Aw
