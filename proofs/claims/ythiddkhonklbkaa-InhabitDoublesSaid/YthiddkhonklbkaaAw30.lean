/- Calls of function values; calls whose arguments lead to the caller's memory, gone on from; the first that fits. -/
import Derived.Test.YthiddkhonklbkaaAw29
set_option linter.unusedVariables false
set_option linter.unusedSimpArgs false
namespace Go.Aw
open Go

section
variable {Γ : Specs} {D : Types} {n : Nat} {K : Kn} {A : Arr}
def CallV (Γ : Specs) (D : Types) (n : Nat) (v : AV) (as : List AV) (s : St) (d : Option Nat) [K : Kn] : Prop := match v with
  | .fn (.func g) first captured => @CallG Γ D n g (first ++ as ++ captured) s d K
  | _ => False
theorem go_callt {s : St} {d : Option Nat} {ty : TypeId} {pos : String} {af : Array Edge} {args : Array Operand} {ts : Array TypeId} {k : Nat} :
    @StepT Γ D n A ⟨d, .call ⟨.value (.tmp k), args, ts⟩, ty, pos, af, none⟩ s K = @CallV Γ D n (s.ev (.tmp k)) (args.toList.map s.ev) s d K := by
  unfold StepT stepG effStep stepOf CallV
  simp only
  cases s.ev (.tmp k) with
  | fn f a b =>
    cases f with
    | func g => simp [CallG]
    | _ => simp [osat]
  | _ => simp [osat]
theorem CallV_fn {s : St} {d : Option Nat} {g : Nat} {a b as : List AV} : @CallV Γ D n (.fn (.func g) a b) as s d K = @CallG Γ D n g (a ++ as ++ b) s d K := rfl
theorem CallG_go_open {t : List (Nat × AV)} {H : Heap} {u : List Nat} {d : Nat} {g : Nat} {as : List AV} {F : List AV → Option (PV → Prop)} {q : PV} (hg : look Γ g = some (.b F)) (cs : List AV) (hne : AV.idsL as ≠ [])
    (hcs : optAll (as.map (snapA D (only (hlook H) (reach (hlook H) 8 (AV.idsL as))) 8)) = some cs) (hF : F cs = some (is q)) (hq : q.still = true) (hd : d < n) (hK : K.k ⟨(d, .p q) :: t, H, u⟩) : @CallG Γ D n g as ⟨t, H, u⟩ (some d) K := by
  cases hi : AV.idsL as with
  | nil => exact absurd hi hne
  | cons i r =>
    rw [CallG_open hg i r hi, ← hi]
    show (match optAll (as.map (snapA D (only (hlook H) (reach (hlook H) 8 (AV.idsL as))) 8)) with | some cs => (match F cs with | some Q => (∀ q, Q q → q.still = true) ∧ @CallA (some Q) _ _ _ K | none => False) | none => False)
    rw [hcs]
    simp only
    rw [hF]
    exact ⟨fun q' e => by rw [is_eq] at e; subst e; exact hq, CallA_go hd hK⟩
end

/-! ### the first that fits -/
def idxF {α : Type} (p : α → Bool) : List α → Int
  | [] => -1
  | x :: r => if p x = true then 0 else if idxF p r < 0 then -1 else idxF p r + 1
theorem idxF_ge {α : Type} (p : α → Bool) (l : List α) : -1 ≤ idxF p l := by
  induction l with
  | nil => simp [idxF]
  | cons x r ih => rw [idxF]; split <;> (try split) <;> omega
theorem idxF_none {α : Type} {p : α → Bool} {l : List α} (h : ∀ x ∈ l, p x = false) : idxF p l = -1 := by
  induction l with
  | nil => rfl
  | cons x r ih =>
    rw [idxF, h x (by simp), ih (fun y hy => h y (by simp [hy]))]; simp
theorem idxF_at {α : Type} [Inhabited α] {p : α → Bool} {l : List α} (k : Nat) (hk : k < l.length) (h : ∀ x ∈ l.take k, p x = false) (hp : p (el l (k : Int)) = true) : idxF p l = k := by
  induction l generalizing k with
  | nil => simp at hk
  | cons x r ih =>
    rw [el_nat _ k hk] at hp
    cases k with
    | zero => simp at hp; rw [idxF, hp]; simp
    | succ k =>
      have h1 : p x = false := h x (by simp)
      have hk' : k < r.length := by simpa using hk
      have := ih k hk' (fun y hy => h y (by simp [hy])) (by rw [el_nat _ k hk']; simpa using hp)
      rw [idxF, h1, this]; simp; omega
theorem idxF_lt {α : Type} (p : α → Bool) (l : List α) : idxF p l < l.length ∧ (0 ≤ idxF p l → ∃ x, l[(idxF p l).toNat]? = some x ∧ p x = true) := by
  induction l with
  | nil => exact ⟨by simp [idxF], fun h => by simp [idxF] at h⟩
  | cons x r ih =>
    rw [idxF]
    split
    · rename_i hx
      exact ⟨by rw [List.length_cons]; omega, fun _ => ⟨x, by simp, hx⟩⟩
    · split
      · exact ⟨by rw [List.length_cons]; omega, fun h => by omega⟩
      · rename_i hx hn
        refine ⟨by rw [List.length_cons]; omega, fun _ => ?_⟩
        obtain ⟨y, hy, hp⟩ := ih.2 (by omega)
        refine ⟨y, ?_, hp⟩
        have : (idxF p r + 1).toNat = (idxF p r).toNat + 1 := by omega
        rw [this, List.getElem?_cons_succ]; exact hy
theorem idxF_find {α : Type} [Inhabited α] (p : α → Bool) (l : List α) : l.find? p = if idxF p l < 0 then none else some (el l (idxF p l)) := by
  induction l with
  | nil => rfl
  | cons x r ih =>
    rw [idxF, List.find?_cons]
    cases hx : p x with
    | true => simp [el]
    | false =>
      simp only [Bool.false_eq_true, if_false]
      rw [ih]
      have hg := idxF_ge p r
      by_cases hn : idxF p r < 0
      · simp [hn]
      · rw [if_neg hn, if_neg hn, if_neg (by omega)]
        have : (idxF p r + 1).toNat = (idxF p r).toNat + 1 := by omega
        simp [el, this]
theorem none_take {α : Type} {p : α → Bool} {l : List α} {k : Nat} [Inhabited α] (hk : k < l.length) (h : ∀ x ∈ l.take k, p x = false) (hp : p (el l (k : Int)) = false) : ∀ x ∈ l.take (k + 1), p x = false := by
  intro x hx
  rw [List.take_add_one, List.mem_append] at hx
  rcases hx with hx | hx
  · exact h x hx
  · rw [List.getElem?_eq_getElem hk] at hx
    rw [el_nat l k hk] at hp
    simp at hx; subst hx; exact hp
attribute [go_sem] go_callt CallV_fn
end Go.Aw
