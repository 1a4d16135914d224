/- Plain data for the program's values, and how they stand in memory; contracts over plain data. -/
import Derived.Test.YthiddkhonklbkaaAw23
set_option linter.unusedVariables false
set_option linter.unusedSimpArgs false
namespace Go.Aw
open Go

/-- api.Value. -/
inductive Val where
  | mk (kind n : Int) (s : List UInt8) (l : List Val) (ids : List Int)
instance : Inhabited Val := ⟨.mk 0 0 [] [] []⟩
def Val.kind : Val → Int | .mk k _ _ _ _ => k
def Val.n : Val → Int | .mk _ n _ _ _ => n
def Val.s : Val → List UInt8 | .mk _ _ s _ _ => s
def Val.l : Val → List Val | .mk _ _ _ l _ => l
def Val.ids : Val → List Int | .mk _ _ _ _ i => i
theorem Val.eta (v : Val) : Val.mk v.kind v.n v.s v.l v.ids = v := by cases v; rfl
structure SField where
  id : Int
  req : Int
  type : List UInt8
  name : List UInt8
  has : Bool
  init : Val
  deriving Inhabited
structure SStruct where
  kind : Int
  name : List UInt8
  fields : List SField
  deriving Inhabited
structure Member where
  name : List UInt8
  has : Bool
  n : Int
  deriving Inhabited
structure SEnum where
  name : List UInt8
  members : List Member
  deriving Inhabited
structure Schema where
  structs : List SStruct
  enums : List SEnum
  services : List PV
  deriving Inhabited

def eI (n : Int) : PV := .c (.int .i64 n)
def eB (b : Bool) : PV := .c (.bool b)
def eS (l : List UInt8) : PV := .c (str l)
mutual
def eV : Val → PV
  | .mk k n s l ids => .agg [eI k, eI n, eS s, .fro 5 (eVs l), .fro 1 (ids.map eI)]
def eVs : List Val → List PV
  | [] => []
  | v :: r => eV v :: eVs r
end
theorem eVs_map (l : List Val) : eVs l = l.map eV := by
  induction l with
  | nil => rfl
  | cons v r ih => rw [eVs, ih]; rfl
theorem eV_mk (k n : Int) (s : List UInt8) (l : List Val) (ids : List Int) : eV (.mk k n s l ids) = .agg [eI k, eI n, eS s, .fro 5 (l.map eV), .fro 1 (ids.map eI)] := by rw [eV, eVs_map]
def eF (f : SField) : PV := .agg [eI f.id, eI f.req, eS f.type, eS f.name, eB f.has, eI f.init.kind, eI f.init.n, eS f.init.s, .fro 5 (f.init.l.map eV), .fro 1 (f.init.ids.map eI)]
def eSt (x : SStruct) : PV := .agg [eI x.kind, eS x.name, .fro 10 (x.fields.map eF)]
def eM (m : Member) : PV := .agg [eS m.name, eB m.has, eI m.n]
def eE (x : SEnum) : PV := .agg [eS x.name, .fro 3 (x.members.map eM)]
def eSc (s : Schema) : PV := .agg [.fro 3 (s.structs.map eSt), .fro 2 (s.enums.map eE), .fro 2 s.services]

theorem eV_un (v : Val) : eV v = .agg [eI v.kind, eI v.n, eS v.s, .fro 5 (v.l.map eV), .fro 1 (v.ids.map eI)] := by
  cases v; exact eV_mk ..

/-! ### they say all -/
theorem str_inj {a b : List UInt8} : str a = str b ↔ a = b := by simp [str]
theorem eI_inj {a b : Int} : eI a = eI b ↔ a = b := by simp [eI]
theorem eB_inj {a b : Bool} : eB a = eB b ↔ a = b := by simp [eB]
theorem eS_inj {a b : List UInt8} : eS a = eS b ↔ a = b := by simp [eS, str_inj]
theorem map_inj {α β : Type} {f : α → β} (h : ∀ a b, f a = f b → a = b) {l m : List α} : l.map f = m.map f ↔ l = m := by
  refine ⟨fun e => ?_, fun e => by rw [e]⟩
  induction l generalizing m with
  | nil => cases m with | nil => rfl | cons b m => simp at e
  | cons a l ih =>
    cases m with
    | nil => simp at e
    | cons b m =>
      simp only [List.map_cons, List.cons.injEq] at e
      rw [h a b e.1, ih e.2]
theorem ints_inj {l m : List Int} : l.map eI = m.map eI ↔ l = m := map_inj (fun a b h => eI_inj.1 h)
mutual
theorem eV_inj' : (v w : Val) → eV v = eV w → v = w
  | .mk k n s l ids, .mk k' n' s' l' ids', h => by
    simp only [eV, PV.agg.injEq, List.cons.injEq, PV.fro.injEq, eI_inj, eS_inj, ints_inj, true_and, and_true] at h
    obtain ⟨rfl, rfl, rfl, h4, rfl⟩ := h
    rw [eVs_inj' l l' h4]
theorem eVs_inj' : (v w : List Val) → eVs v = eVs w → v = w
  | [], [], _ => rfl
  | [], _ :: _, h => by simp [eVs] at h
  | _ :: _, [], h => by simp [eVs] at h
  | v :: r, w :: q, h => by
    simp only [eVs, List.cons.injEq] at h
    rw [eV_inj' v w h.1, eVs_inj' r q h.2]
end
theorem eV_inj {v w : Val} : eV v = eV w ↔ v = w := ⟨eV_inj' v w, fun e => by rw [e]⟩
theorem vals_inj {l m : List Val} : l.map eV = m.map eV ↔ l = m := map_inj (fun a b h => eV_inj.1 h)
theorem eF_inj {a b : SField} : eF a = eF b ↔ a = b := by
  refine ⟨fun h => ?_, fun e => by rw [e]⟩
  obtain ⟨i, r, t, n, hh, v⟩ := a
  obtain ⟨i', r', t', n', hh', v'⟩ := b
  simp only [eF, PV.agg.injEq, List.cons.injEq, PV.fro.injEq, eI_inj, eS_inj, eB_inj, ints_inj, vals_inj, true_and, and_true] at h
  obtain ⟨rfl, rfl, rfl, rfl, rfl, h1, h2, h3, h4, h5⟩ := h
  rw [← v.eta, ← v'.eta, h1, h2, h3, h4, h5]
theorem fields_inj {l m : List SField} : l.map eF = m.map eF ↔ l = m := map_inj (fun a b h => eF_inj.1 h)
theorem eSt_inj {a b : SStruct} : eSt a = eSt b ↔ a = b := by
  refine ⟨fun h => ?_, fun e => by rw [e]⟩
  obtain ⟨k, n, f⟩ := a
  obtain ⟨k', n', f'⟩ := b
  simp only [eSt, PV.agg.injEq, List.cons.injEq, PV.fro.injEq, eI_inj, eS_inj, fields_inj, true_and, and_true] at h
  obtain ⟨rfl, rfl, rfl⟩ := h; rfl
theorem structs_inj {l m : List SStruct} : l.map eSt = m.map eSt ↔ l = m := map_inj (fun a b h => eSt_inj.1 h)
theorem eM_inj {a b : Member} : eM a = eM b ↔ a = b := by
  refine ⟨fun h => ?_, fun e => by rw [e]⟩
  obtain ⟨k, n, f⟩ := a
  obtain ⟨k', n', f'⟩ := b
  simp only [eM, PV.agg.injEq, List.cons.injEq, eI_inj, eS_inj, eB_inj, true_and, and_true] at h
  obtain ⟨rfl, rfl, rfl⟩ := h; rfl
theorem members_inj {l m : List Member} : l.map eM = m.map eM ↔ l = m := map_inj (fun a b h => eM_inj.1 h)
theorem eE_inj {a b : SEnum} : eE a = eE b ↔ a = b := by
  refine ⟨fun h => ?_, fun e => by rw [e]⟩
  obtain ⟨n, f⟩ := a
  obtain ⟨n', f'⟩ := b
  simp only [eE, PV.agg.injEq, List.cons.injEq, PV.fro.injEq, eS_inj, members_inj, true_and, and_true] at h
  obtain ⟨rfl, rfl⟩ := h; rfl
theorem enums_inj {l m : List SEnum} : l.map eE = m.map eE ↔ l = m := map_inj (fun a b h => eE_inj.1 h)
theorem eSc_inj {a b : Schema} : eSc a = eSc b ↔ a = b := by
  refine ⟨fun h => ?_, fun e => by rw [e]⟩
  obtain ⟨k, n, f⟩ := a
  obtain ⟨k', n', f'⟩ := b
  simp only [eSc, PV.agg.injEq, List.cons.injEq, PV.fro.injEq, structs_inj, enums_inj, true_and, and_true] at h
  obtain ⟨rfl, rfl, rfl⟩ := h; rfl

/-! ### what is in memory is not too long -/
def GoodC (p : PV) : Prop := ∀ c ∈ p.cells, Good c
theorem GoodA.c {p : PV} (h : GoodA (.p p)) (hc : p = .agg p.cells) : GoodC p := by
  have := h.p
  rw [hc] at this
  exact this.agg
theorem good_list {α : Type} {f : α → PV} {sz : Nat} {l : List α} (h : Good (.fro sz (l.map f))) : l.length ≤ 9223372036854775807 ∧ ∀ x ∈ l, GoodC (f x) := by
  obtain ⟨h1, h2⟩ := h.fro
  exact ⟨by simpa using h1, fun x hx c hc => h2 c (flat_mem (List.mem_map_of_mem hx) hc)⟩
theorem good_V {v : Val} (h : GoodC (eV v)) : v.l.length ≤ 9223372036854775807 ∧ v.ids.length ≤ 9223372036854775807 ∧ ∀ x ∈ v.l, GoodC (eV x) := by
  rw [eV_un] at h
  have h1 := good_list (h (.fro 5 (v.l.map eV)) (by simp))
  have h2 := good_list (h (.fro 1 (v.ids.map eI)) (by simp))
  exact ⟨h1.1, h2.1, h1.2⟩
theorem good_St {x : SStruct} (h : GoodC (eSt x)) : x.fields.length ≤ 9223372036854775807 ∧ ∀ f ∈ x.fields, GoodC (eF f) := good_list (h (.fro 10 (x.fields.map eF)) (by simp [eSt]))
theorem good_E {x : SEnum} (h : GoodC (eE x)) : x.members.length ≤ 9223372036854775807 ∧ ∀ f ∈ x.members, GoodC (eM f) := good_list (h (.fro 3 (x.members.map eM)) (by simp [eE]))
theorem good_Sc {s : Schema} (h : GoodC (eSc s)) : s.structs.length ≤ 9223372036854775807 ∧ s.enums.length ≤ 9223372036854775807 ∧ (∀ x ∈ s.structs, GoodC (eSt x)) ∧ ∀ x ∈ s.enums, GoodC (eE x) :=
  have h1 := good_list (h (.fro 3 (s.structs.map eSt)) (by simp [eSc]))
  have h2 := good_list (h (.fro 2 (s.enums.map eE)) (by simp [eSc]))
  ⟨h1.1, h2.1, h1.2, h2.2⟩
theorem any_take {α : Type} [Inhabited α] (p : α → Bool) (l : List α) (k : Nat) (hk : (k : Int) < l.length) : (l.take (k + 1)).any p = ((l.take k).any p || p (el l k)) := by
  have hk' : k < l.length := by omega
  rw [List.take_add_one, List.any_append, List.getElem?_eq_getElem hk', el_nat l k hk']; simp

/-! ### contracts by plain data -/
open Classical in
noncomputable def mkF {X : Type} (args : X → List AV) (Q : X → PV → Prop) : List AV → Option (PV → Prop) := fun as => if h : ∃ x, args x = as then some (Q (Classical.choose h)) else none
theorem mkF_eq {X : Type} {args : X → List AV} {Q : X → PV → Prop} (inj : ∀ x y, args x = args y → x = y) (x : X) : mkF args Q (args x) = some (Q x) := by
  have h : ∃ y, args y = args x := ⟨x, rfl⟩
  unfold mkF
  rw [dif_pos h]
  congr 1; rw [inj _ _ (Classical.choose_spec h)]
theorem mkF_ok {P : Program} {g : FuncId} {X : Type} {args : X → List AV} {Q : X → PV → Prop} (h : ∀ x, ASpec P g [] [] (args x) [] (fun r _ => ∃ q, r = .p q ∧ Q x q)) (hne : ∀ x, ∃ q, Q x q) : (Spec.b (mkF args Q)).OK P g := by
  intro as Q' hQ
  unfold mkF at hQ
  split at hQ
  · rename_i hx
    cases hQ
    have := Classical.choose_spec hx
    refine ⟨?_, hne _⟩
    have h' := h (Classical.choose hx)
    rw [this] at h'; exact h'
  · cases hQ
theorem call_mk {Γ : Specs} {D : Types} {n : Nat} {s : St} {K : Kn} {d : Option Nat} {X : Type} {args : X → List AV} {Q : X → PV → Prop} {g : Nat} (hg : look Γ g = some (.b (mkF args Q))) (inj : ∀ x y, args x = args y → x = y) (x : X) (hi : AV.idsL (args x) = []) : @CallG Γ D n g (args x) s d K = @CallA (some (Q x)) s d n K := by
  rw [CallG_b hg hi, mkF_eq inj]

theorem cells_I {n : Int} : (eI n).cells = [eI n] := rfl
theorem asI_e {n : Int} : asI (.p (eI n)) = some (.i64, n) := rfl
theorem kind_mk {k n : Int} {s : List UInt8} {l : List Val} {i : List Int} : (Val.mk k n s l i).kind = k := rfl
theorem n_mk {k n : Int} {s : List UInt8} {l : List Val} {i : List Int} : (Val.mk k n s l i).n = n := rfl
theorem s_mk {k n : Int} {s : List UInt8} {l : List Val} {i : List Int} : (Val.mk k n s l i).s = s := rfl
theorem l_mk {k n : Int} {s : List UInt8} {l : List Val} {i : List Int} : (Val.mk k n s l i).l = l := rfl
theorem ids_mk {k n : Int} {s : List UInt8} {l : List Val} {i : List Int} : (Val.mk k n s l i).ids = i := rfl
theorem cast0 : ((0 : Nat) : Int) = 0 := rfl
attribute [go_sem] eI eB eS eF eSt eM eE eSc kind_mk n_mk s_mk l_mk ids_mk PV.cells_agg cast0
attribute [go_sem low] eV_un
attribute [go_sem high] eV_mk
end Go.Aw
