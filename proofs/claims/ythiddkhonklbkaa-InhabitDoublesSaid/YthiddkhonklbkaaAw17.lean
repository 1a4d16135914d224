/- Regions: in the text's order, and in any order that their edges let. -/
import Derived.Test.YthiddkhonklbkaaAw16
import Derived.Orders
set_option linter.unusedVariables false
set_option linter.unusedSimpArgs false
namespace Go.Aw
open Go

def osat {α : Type} (x : Option α) (K : α → Prop) : Prop := match x with | some a => K a | none => False

def yieldA : AV → Option (Option Bool)
  | .p (.c (.bool b)) => some (some b)
  | .p (.c _) => some none
  | _ => none
def slotOf (ops : Array Oper) (j : Nat) : Option Nat := (ops[j]?).bind (·.dst)
def skipStep : Step := ⟨True, [], [], fun out => out = ⟨.p (.c undef), [], []⟩⟩
/-- The step that is taken, with its guard. -/
def effStep (Γ : Specs) (D : Types) (n : Nat) (ops : Array Oper) (o : Oper) (s : St) : Option Step :=
  match o.guard with
  | none => stepOf Γ D o s.ev (hlook s.H)
  | some (j, want) => match slotOf ops j with
    | none => none
    | some t => if t < n then (match yieldA (s.get t) with
      | none => none
      | some y => if y = some want then stepOf Γ D o s.ev (hlook s.H) else some skipStep) else none
def stepG (Γ : Specs) (D : Types) (n : Nat) (c : Step → Prop) (ops : Array Oper) (o : Oper) (s : St) (K : St → Prop) : Prop :=
  osat (effStep Γ D n ops o s) fun S => c S ∧ S.pre ∧ (∀ id ∈ S.new, id ∉ s.u) ∧ (∀ d, o.dst = some d → d < n) ∧ (∃ out, S.post out) ∧ ∀ out, S.post out → K (s.app o.dst out)
def runC (Γ : Specs) (D : Types) (n : Nat) (c : Nat → Step → Prop) (ops : Array Oper) : List Nat → St → (St → Prop) → Prop
  | [], s, K => K s
  | i :: r, s, K => match ops[i]? with
    | none => False
    | some o => stepG Γ D n (c i) ops o s fun s' => runC Γ D n c ops r s' K

theorem stepG_mono {Γ : Specs} {D : Types} {n : Nat} {c : Step → Prop} {ops : Array Oper} {o : Oper} {s : St} {K K' : St → Prop} (hk : ∀ s, K s → K' s) (h : stepG Γ D n c ops o s K) : stepG Γ D n c ops o s K' := by
  unfold stepG osat at *
  split at h
  · obtain ⟨h1, h2, h3, h4, h5, h6⟩ := h
    exact ⟨h1, h2, h3, h4, h5, fun out ho => hk _ (h6 out ho)⟩
  · exact h.elim
theorem runC_mono {Γ : Specs} {D : Types} {n : Nat} {c : Nat → Step → Prop} {ops : Array Oper} {l : List Nat} {s : St} {K K' : St → Prop} (hk : ∀ s, K s → K' s) (h : runC Γ D n c ops l s K) : runC Γ D n c ops l s K' := by
  induction l generalizing s with
  | nil => exact hk s h
  | cons i r ih =>
    rw [runC] at h ⊢
    split at h
    · exact h.elim
    · exact stepG_mono (fun s' hs => ih hs) h

/-! ### states that say the same -/
def St.eqv (s s' : St) : Prop := (∀ i, s.get i = s'.get i) ∧ (∀ i, hlook s.H i = hlook s'.H i) ∧ ∀ i, i ∈ s.u ↔ i ∈ s'.u
theorem St.eqv.refl (s : St) : s.eqv s := ⟨fun _ => rfl, fun _ => rfl, fun _ => .rfl⟩
theorem St.eqv.symm {s s' : St} (h : s.eqv s') : s'.eqv s := ⟨fun i => (h.1 i).symm, fun i => (h.2.1 i).symm, fun i => (h.2.2 i).symm⟩
theorem St.eqv.trans {s s' s'' : St} (h : s.eqv s') (h' : s'.eqv s'') : s.eqv s'' := ⟨fun i => (h.1 i).trans (h'.1 i), fun i => (h.2.1 i).trans (h'.2.1 i), fun i => (h.2.2 i).trans (h'.2.2 i)⟩
theorem get_app (s : St) (d : Option Nat) (out : Out) (i : Nat) : (s.app d out).get i = if d = some i then out.v else s.get i := by
  cases d with
  | none => rfl
  | some d =>
    show (s.put (some d) out.v).get i = _
    rw [get_put]
    by_cases e : i = d
    · subst e; simp
    · simp [e, Ne.symm e]
theorem hlook_app (s : St) (d : Option Nat) (out : Out) (i : Nat) : hlook (s.app d out).H i = if (look out.up i).isSome then hlook out.up i else hlook s.H i := by
  have : (s.app d out).H = out.up ++ s.H := by cases d <;> rfl
  rw [this, hlook_append]
theorem u_app (s : St) (d : Option Nat) (out : Out) : (s.app d out).u = out.new ++ s.u := by cases d <;> rfl
theorem look_keys {α : Type} {l : List (Nat × α)} {i : Nat} (h : i ∉ l.map Prod.fst) : look l i = none := by
  induction l with
  | nil => rfl
  | cons p r ih =>
    obtain ⟨k, v⟩ := p
    simp only [List.map_cons, List.mem_cons, not_or] at h
    rw [look_cons, if_neg h.1, ih h.2]
theorem hlook_app_of {s : St} {d : Option Nat} {out : Out} {i : Nat} (h : i ∉ out.up.map Prod.fst) : hlook (s.app d out).H i = hlook s.H i := by
  rw [hlook_app, look_keys h]; rfl
theorem St.eqv.app {s s' : St} (h : s.eqv s') (d : Option Nat) (out : Out) : (s.app d out).eqv (s'.app d out) :=
  ⟨fun i => by rw [get_app, get_app, h.1], fun i => by rw [hlook_app, hlook_app, h.2.1], fun i => by rw [u_app, u_app, List.mem_append, List.mem_append, h.2.2]⟩
theorem ev_eqv {s s' : St} (h : s.eqv s') : s.ev = s'.ev := by
  funext x; cases x <;> first | rfl | exact h.1 _
theorem eff_eqv {Γ : Specs} {D : Types} {n : Nat} {ops : Array Oper} {o : Oper} {s s' : St} (h : s.eqv s') : effStep Γ D n ops o s = effStep Γ D n ops o s' := by
  unfold effStep
  rw [ev_eqv h, show hlook s.H = hlook s'.H from funext h.2.1]
  simp only [h.1]
def Resp (K : St → Prop) : Prop := ∀ s s', s.eqv s' → K s → K s'
theorem resp_stepG {Γ : Specs} {D : Types} {n : Nat} {c : Step → Prop} {ops : Array Oper} {o : Oper} {K : St → Prop} (hK : Resp K) : Resp fun s => stepG Γ D n c ops o s K := by
  intro s s' he h
  show stepG Γ D n c ops o s' K
  replace h : stepG Γ D n c ops o s K := h
  unfold stepG at h ⊢
  rw [← eff_eqv he]
  unfold osat at h ⊢
  split at h
  · obtain ⟨h1, h2, h3, h4, h5, h6⟩ := h
    exact ⟨h1, h2, fun id hid hu => h3 id hid ((he.2.2 id).2 hu), h4, h5, fun out ho => hK _ _ (he.app _ _) (h6 out ho)⟩
  · exact h.elim
theorem resp_runC {Γ : Specs} {D : Types} {n : Nat} {c : Nat → Step → Prop} {ops : Array Oper} {K : St → Prop} (hK : Resp K) (l : List Nat) : Resp fun s => runC Γ D n c ops l s K := by
  induction l with
  | nil => exact hK
  | cons i r ih =>
    intro s s' he h
    show runC Γ D n c ops (i :: r) s' K
    replace h : runC Γ D n c ops (i :: r) s K := h
    rw [runC] at h ⊢
    split at h
    · exact h.elim
    · rename_i o ho
      exact resp_stepG ih s s' he h

/-! ### a step looks at little -/
theorem opF_local {D : Types} {op : Op} {d : Nat} {e e' : Operand → AV} {h h' : Nat → Option Blk} {out : Out} (hx : opF D op d e h = some out) (he : ∀ x ∈ op.operands, e' x = e x)
    (hh : ∀ x ∈ op.operands, ∀ i ∈ top (e x), h' i = h i) : opF D op d e' h' = some out := by
  have ld : ∀ (t : TypeId) (x : Operand), x ∈ op.operands → loadF D t (e x) h' = loadF D t (e x) h := by
    intro t x hm
    unfold loadF
    congr 1; funext i
    split
    · rename_i id off hex
      rw [hh x hm id (by rw [hex]; simp [top])]
    · rfl
    · rfl
  have st : ∀ (t : TypeId) (x : Operand) (v : AV), x ∈ op.operands → storeF D t (e x) v h' = storeF D t (e x) v h := by
    intro t x v hm
    unfold storeF
    congr 1; funext i; congr 1; funext vs
    split
    · rename_i id off hex
      rw [hh x hm id (by rw [hex]; simp [top])]
    · rfl
  have ent : ∀ (x : Operand), x ∈ op.operands → entriesOf (e x) h' = entriesOf (e x) h := by
    intro x hm
    unfold entriesOf
    split
    · rename_i id hex
      rw [hh x hm id (by rw [hex]; simp [top])]
    all_goals rfl
  have lk : ∀ (t : TypeId) (x : Operand) (k : AV) (c : Bool), x ∈ op.operands → lookupF D t (e x) k c h' = lookupF D t (e x) k c h := by
    intro t x k c hm
    unfold lookupF
    rw [ent x hm]
  have mu : ∀ (t : TypeId) (x : Operand) (k v : AV), x ∈ op.operands → mapUpdateF D t (e x) k v h' = mapUpdateF D t (e x) k v h := by
    intro t x k v hm
    unfold mapUpdateF
    congr 1; funext ti
    split
    · congr 1; funext ki
      split
      · congr 1; funext l
        split
        · rename_i id y hex
          rw [hh x hm id (by rw [hex]; simp [top])]
        · rfl
      · rfl
    · rfl
  have ln : ∀ (t : TypeId) (x : Operand), x ∈ op.operands → lenF D t (e x) h' = lenF D t (e x) h := by
    intro t x hm
    unfold lenF
    congr 1; funext ti
    split
    · rfl
    · rfl
    · split
      · rename_i id hex
        rw [hh x hm id (by rw [hex]; simp [top])]
      · rfl
      · rfl
    · rfl
  have sc : ∀ (sz : Nat) (x : Operand), x ∈ op.operands → sliceCells sz (e x) h' = sliceCells sz (e x) h := by
    intro sz x hm
    unfold sliceCells
    split
    · rfl
    · rfl
    · rename_i id k off len hex
      rw [hh x hm id (by rw [hex]; simp [top])]
    · rfl
  have cv : ∀ (t t' : TypeId) (x : Operand), x ∈ op.operands → convF D t t' (e x) h' = convF D t t' (e x) h := by
    intro t t' x hm
    unfold convF
    rw [sc _ x hm]
  have ap : ∀ (t t' : TypeId) (x y : Operand) (d : Nat), x ∈ op.operands → y ∈ op.operands → appendF D t t' (e x) (e y) h' d = appendF D t t' (e x) (e y) h d := by
    intro t t' x y d hm hm'
    unfold appendF
    split
    · congr 1; funext ti
      split
      · congr 1; funext i
        rw [sc _ y hm']
        congr 1; funext p
        obtain ⟨m, news⟩ := p
        simp only
        split
        · rfl
        · rename_i id sz off len hex
          rw [hh x hm id (by rw [hex]; simp [top])]
        · rfl
      · rfl
    · rfl
  have parts : ∀ ps : Array (Nat × Operand), (∀ x ∈ (ps.toList.map (·.2)).toArray, x ∈ op.operands) → ps.toList.map (fun (i, x) => (i, e' x)) = ps.toList.map fun (i, x) => (i, e x) := by
    intro ps hp
    refine List.map_congr_left fun p hm => ?_
    obtain ⟨i, x⟩ := p
    have : x ∈ op.operands := hp x (by simp; exact ⟨i, by simpa using hm⟩)
    simp only [he x this]
  rw [← hx]
  cases op <;> simp only [Op.operands] at he hh ld st ent lk mu ln cv ap parts <;> simp only [opF]
  case pick c a b => rw [he c (by simp), he a (by simp), he b (by simp)]
  case move x => rw [he x (by simp)]
  case assign x => rw [he x (by simp)]
  case box t x => rw [he x (by simp)]
  case build t ps => rw [parts ps (fun x hx => hx)]
  case buildSlice t n ps => rw [parts ps (fun x hx => hx)]
  case load t x => rw [he x (by simp), ld t x (by simp)]
  case store t x v => rw [he x (by simp), he v (by simp), st t x _ (by simp)]
  case nilCheck x => rw [he x (by simp)]
  case binOp op t x y k => rw [he x (by simp), he y (by simp)]
  case unOp op t x => rw [he x (by simp)]
  case convert t t' x => rw [he x (by simp), cv t t' x (by simp)]
  case makeFunc fn first captured =>
    rw [List.map_congr_left (l := first.toList) fun x hx => he x (by simp at hx ⊢; exact .inl hx), List.map_congr_left (l := captured.toList) fun x hx => he x (by simp at hx ⊢; exact .inr hx)]
  case makeMap t r => cases r <;> rfl
  case makeSlice t l c => rw [he l (by simp), he c (by simp)]
  case slice t x lo hi mx =>
    rw [he x (by simp)]
    have e1 : lo.map e' = lo.map e := by cases lo with | none => rfl | some y => simp only [Option.map_some]; rw [he y (by simp)]
    have e2 : hi.map e' = hi.map e := by cases hi with | none => rfl | some y => simp only [Option.map_some]; rw [he y (by simp)]
    have e3 : mx.map e' = mx.map e := by cases mx with | none => rfl | some y => simp only [Option.map_some]; rw [he y (by simp)]
    rw [e1, e2, e3]
  case fieldAddr t x f => rw [he x (by simp)]
  case field t x f => rw [he x (by simp)]
  case indexAddr t x i =>
    rw [he x (by simp), he i (by simp)]
    rfl
  case index t x i => rw [he x (by simp), he i (by simp)]
  case lookup t m k c => rw [he m (by simp), he k (by simp), lk t m _ c (by simp)]
  case mapUpdate t m k v => rw [he m (by simp), he k (by simp), he v (by simp), mu t m _ _ (by simp)]
  case extract x i => rw [he x (by simp)]
  case call c =>
    obtain ⟨callee, args, argTypes⟩ := c
    cases callee with
    | value f => rfl
    | invoke r m => rfl
    | builtin b =>
      simp only [Call.operands] at he hh ln ap
      cases b
      case len =>
        simp only [opF]
        split
        · rename_i x t hx' ht
          have hm : x ∈ args := by rw [← Array.mem_toList_iff, hx']; simp
          rw [he x (by simp [hm]), ln t x (by simp [hm])]
        · rfl
      case append =>
        simp only [opF]
        split
        · rename_i x y t t' hx' ht
          have hm : x ∈ args := by rw [← Array.mem_toList_iff, hx']; simp
          have hm' : y ∈ args := by rw [← Array.mem_toList_iff, hx']; simp
          rw [he x (by simp [hm]), he y (by simp [hm']), ap t t' x y d (by simp [hm]) (by simp [hm'])]
        · rfl
      case min =>
        simp only [opF]
        split
        · rename_i x y hx'
          have hm : x ∈ args := by rw [← Array.mem_toList_iff, hx']; simp
          have hm' : y ∈ args := by rw [← Array.mem_toList_iff, hx']; simp
          rw [he x (by simp [hm]), he y (by simp [hm'])]
        · rfl
      case max =>
        simp only [opF]
        split
        · rename_i x y hx'
          have hm : x ∈ args := by rw [← Array.mem_toList_iff, hx']; simp
          have hm' : y ∈ args := by rw [← Array.mem_toList_iff, hx']; simp
          rw [he x (by simp [hm]), he y (by simp [hm'])]
        · rfl
      all_goals rfl
end Go.Aw
