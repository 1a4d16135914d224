/- Words for freezing what was built; contracts out into the machine's words. -/
import Derived.Test.YthiddkhonklbkaaAw33
import Derived.RowKit3
set_option linter.unusedVariables false
set_option linter.unusedSimpArgs false
namespace Go.Aw
open Go

section
variable {D : Types} {h : Nat → Option Blk} {fr : List Nat}
theorem fzL_p (l : List PV) : fzL D h fr (l.map AV.p) = l.map AV.p := by
  induction l with
  | nil => rfl
  | cons x r ih => rw [List.map_cons, fzL, ih, fz]
theorem fzL_append (l m : List AV) : fzL D h fr (l ++ m) = fzL D h fr l ++ fzL D h fr m := by
  rw [fzL_map, fzL_map, fzL_map, List.map_append]
theorem fz_p (v : PV) : fz D h fr (.p v) = .p v := by rw [fz]
end
theorem all_one_p (l : List PV) : (l.map AV.p).all AV.one = l.all PV.one := by
  induction l with
  | nil => rfl
  | cons x r ih => rw [List.map_cons, List.all_cons, List.all_cons, ih]; rfl
theorem all_flat {α : Type} {f : α → PV} (hf : ∀ x, (f x).cells.all PV.one = true) (l : List α) : (flat (l.map f)).all PV.one = true := by
  induction l with
  | nil => rfl
  | cons x r ih => rw [List.map_cons, flat_cons, List.all_append, hf, ih]; rfl
theorem all_V (l : List Val) : (flat (l.map eV)).all PV.one = true := all_flat (f := eV) (fun x => by rw [eV_un]; rfl) l
theorem all_F (l : List SField) : (flat (l.map eF)).all PV.one = true := all_flat (f := eF) (fun _ => rfl) l
theorem all_St (l : List SStruct) : (flat (l.map eSt)).all PV.one = true := all_flat (f := eSt) (fun _ => rfl) l
theorem all_E (l : List SEnum) : (flat (l.map eE)).all PV.one = true := all_flat (f := eE) (fun _ => rfl) l
theorem all_I (l : List Int) : (l.map eI).all PV.one = true := by
  induction l with
  | nil => rfl
  | cons x r ih => rw [List.map_cons, List.all_cons, ih]; rfl
theorem all_S (l : List (List UInt8)) : (l.map eS).all PV.one = true := by
  induction l with
  | nil => rfl
  | cons x r ih => rw [List.map_cons, List.all_cons, ih]; rfl
attribute [go_sem] fzT fzH fz fzL fzB fzL_p fzL_append all_one_p all_V all_F all_St all_E all_I all_S snap_agg8 snap_agg7 snap_tup8

/-- A law's function: its contract tells that it returns true, and that what was there is as it was. -/
theorem law_walk {P : Program} {g : FuncId} {args : List PV} (h : ASpec P g [] [] (args.map .p) [] (fun r _ => ∃ q, r = .p q ∧ is (eB true) q)) (w : World) (ok : Nat → Prop) (hok : ∀ b, ok b → b < w.heap.size) (vals : Array Value) (hl : vals.size = args.length)
    (hv : ∀ (i : Nat) (p : PV) (v : Value), args[i]? = some p → vals[i]? = some v → Rel w ok p v) : Calls P g vals w fun e w' => e = .returned (.bool true) ∧ Go.RowKit.Grown w w' := by
  have hH : HeapOK w (fun _ => none) ok [] := ⟨fun id B h => by simp at h, fun id B g h => by simp at h, fun id id' B B' g h => by simp at h, hok⟩
  refine (h.2 w (fun _ => none) ok vals hH (fun id x h => by cases h) (by simpa using hl) (fun i a v ha hv' => ?_)).mono ?_
  · rw [List.getElem?_map, Option.map_eq_some_iff] at ha
    obtain ⟨p, hp, rfl⟩ := ha
    exact .p _ _ (hv i p v hp hv')
  · rintro e w' ⟨v, r, H', ρ', ok', rfl, ⟨q, rfl, rfl⟩, _, _, hv, _, hk, _⟩
    have hvt : v = .bool true := by
      cases hv with
      | p _ _ hr => cases hr; rfl
    subst hvt
    refine ⟨rfl, ⟨?_, hk.fro, hk.size⟩⟩
    have hb : ∀ b, b < w.heap.size → w'.heap[b]? = w.heap[b]? := fun b hb => hk.block b hb (fun ⟨id, B, h, _⟩ => by simp at h)
    refine ⟨hk.os, hk.output, fun i hi => ?_⟩
    rw [hb i hi]
    cases w.heap[i]? with
    | none => rfl
    | some o =>
      cases o with
      | cells c t fr => exact ⟨rfl, rfl, rfl, fun _ _ => rfl⟩
      | map es clock => exact .inr ⟨rfl, rfl⟩
      | _ => rfl
end Go.Aw
