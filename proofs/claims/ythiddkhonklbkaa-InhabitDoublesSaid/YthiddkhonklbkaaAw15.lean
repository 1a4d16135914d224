/- Contracts in a table; one step of a state by the table. -/
import Derived.Test.YthiddkhonklbkaaAw14
set_option linter.unusedVariables false
set_option linter.unusedSimpArgs false
namespace Go.Aw
open Go

mutual
/-- A value that leads to no memory. -/
def PV.still : PV → Bool
  | .c _ => true
  | .agg xs => PV.stillL xs
  | .tup xs => PV.stillL xs
  | _ => false
def PV.stillL : List PV → Bool
  | [] => true
  | x :: xs => PV.still x && PV.stillL xs
end
theorem still_mem {xs : List PV} (h : PV.stillL xs = true) : ∀ x ∈ xs, x.still = true := by
  induction xs with
  | nil => intro x hx; cases hx
  | cons y ys ih =>
    rw [PV.stillL, Bool.and_eq_true] at h
    intro x hx
    rcases List.mem_cons.1 hx with rfl | hx
    · exact h.1
    · exact ih h.2 x hx
theorem still_rel {w w' : World} {ok ok' : Nat → Prop} {q : PV} {v : Value} (h : Rel w ok q v) (hs : q.still = true) : Rel w' ok' q v := by
  induction h with
  | c x => exact .c x
  | agg xs us hl h ih => exact .agg xs us hl fun i p u hp hu => ih i p u hp hu (still_mem (by simpa [PV.still] using hs) p (List.mem_of_getElem? hp))
  | tup xs us hl h ih => exact .tup xs us hl fun i p u hp hu => ih i p u hp hu (still_mem (by simpa [PV.still] using hs) p (List.mem_of_getElem? hp))
  | _ => simp [PV.still] at hs
theorem flat_still {q : PV} (hs : q.still = true) : Flat (.p q) := by
  intro w ρ ok v w' ρ' ok' h
  cases h with
  | p _ _ hr => exact .p _ _ (still_rel hr hs)

def SnapA (H : Heap) (a c : AV) : Prop := ∀ w ρ ok v, HeapOK w ρ ok H → AVRel w ρ ok a v → AVRel w (fun _ => none) (fun b => b < w.heap.size) c v

section
variable {P : Program} {D : Types} {w : World} {ρ : Names} {ok : Nat → Prop} {H : Heap} {h : Nat → Option Blk}

theorem snapB_sound (hA : Agrees P D) (hh : ∀ i B, h i = some B → hlook H i = some B) {k : Nat} {a c : AV} (hs : snapB D h k a = some c) : SnapA H a c := by
  intro w ρ ok v hH hv
  have up : ∀ {p : PV} {v : Value}, Rel w (fun b => ok b ∨ Own ρ H b) p v → Rel w (fun b => b < w.heap.size) p v := by
    intro p v hr
    refine hr.mono (fun b hb => ?_) (fun b _ _ => rfl)
    rcases hb with hb | ⟨id, B, h1, h2⟩
    · exact hH.lt b hb
    · exact (hH.blk id B h1).lt b h2
  have dflt : ∀ {q : AV}, (snap D h k a).map AV.p = some q → AVRel w (fun _ => none) (fun b => b < w.heap.size) q v := by
    intro q hq
    rw [Option.map_eq_some_iff] at hq
    obtain ⟨p, hp, rfl⟩ := hq
    exact .p _ _ (up (snap_sound hA hH hh hp hv))
  cases hv with
  | fptr cs ad us h1 h2 h3 h4 h5 h6 h7 =>
    simp only [snapB, Option.some.injEq] at hs; subst hs
    exact .fptr cs ad us h1 (hH.lt _ h2) h3 h4 h5 h6 (fun i p u hp hu => (h7 i p u hp hu).mono (fun b hb => hH.lt b hb) (fun b _ _ => rfl))
  | ptr id off g hg =>
    simp only [snapB, Option.bind_eq_some_iff] at hs
    obtain ⟨B, hB, hs⟩ := hs
    have hB' := hh _ _ hB
    have hbo := hH.blk _ _ hB'
    cases B with
    | map es => simp at hs
    | row ty z cs =>
      simp only [Option.map_eq_some_iff] at hs
      obtain ⟨ps, hps, rfl⟩ := hs
      obtain ⟨hpl, hpat⟩ := optAll_at hps
      rcases hbo with ⟨hn, rfl⟩ | ⟨g', cur, hg', hcur, hle, hone, hrel⟩
      · rw [hn] at hg; cases hg
      · rw [hg'] at hg; cases hg
        rw [List.length_drop] at hpl
        refine .fptr ps ⟨g, off, none⟩ ((cur.toList.drop off).take ps.length) rfl (lt_of_some hcur) (lt_of_some hcur) ?_ ?_ ?_ ?_
        · intro p hp
          obtain ⟨j, hj⟩ := List.getElem?_of_mem hp
          have hjl : j < (cs.drop off).length := by rw [List.length_drop, ← hpl]; exact (List.getElem?_eq_some_iff.1 hj).1
          have ha := List.getElem?_eq_getElem hjl
          exact snap_one (hpat j _ p ha hj) (hone _ (List.mem_of_mem_drop (List.mem_of_getElem? ha)))
        · have e1 : cur.toList.length = cur.size := Array.length_toList
          simp only [List.length_take, List.length_drop]; omega
        · intro j u hu
          rw [List.getElem?_take] at hu
          split at hu
          · rw [List.getElem?_drop, Array.getElem?_toList] at hu
            rw [add_plain]
            simp [World.cell?, hcur, hu]
          · cases hu
        · intro j p u hp hu
          rw [List.getElem?_take] at hu
          split at hu
          · rw [List.getElem?_drop, Array.getElem?_toList] at hu
            have hjl : j < (cs.drop off).length := by rw [List.length_drop, ← hpl]; exact (List.getElem?_eq_some_iff.1 hp).1
            have ha := List.getElem?_eq_getElem hjl
            have ha' := ha
            rw [List.getElem?_drop] at ha'
            exact up (snap_sound hA hH hh (hpat j _ p ha hp) (hrel _ _ _ ha' hu))
          · cases hu
  | fn => exact dflt hs
  | p q _ hr => exact dflt hs
  | sl => exact dflt hs
  | mp => exact dflt hs
  | agg => exact dflt hs
  | tup => exact dflt hs
  | junk => exact dflt hs
theorem snapA_sound (hA : Agrees P D) (hh : ∀ i B, h i = some B → hlook H i = some B) {k : Nat} {a c : AV} (hs : snapA D h k a = some c) : SnapA H a c := by
  intro w ρ ok v hH hv
  have list : ∀ (xs : List AV) (us : Array Value) (ps : List AV), us.size = xs.length → optAll (xs.map (snapB D h k)) = some ps → (∀ (i : Nat) (a : AV) (u : Value), xs[i]? = some a → us[i]? = some u → AVRel w ρ ok a u) →
      us.size = ps.length ∧ ∀ (i : Nat) (a : AV) (u : Value), ps[i]? = some a → us[i]? = some u → AVRel w (fun _ => none) (fun b => b < w.heap.size) a u := by
    intro xs us ps hl hps hr
    obtain ⟨hpl, hpat⟩ := optAll_at hps
    refine ⟨by rw [hl, hpl], fun i p u hp hu => ?_⟩
    have hlt : i < xs.length := by rw [← hpl]; exact (List.getElem?_eq_some_iff.1 hp).1
    have ha := List.getElem?_eq_getElem hlt
    exact snapB_sound hA hh (hpat i _ p ha hp) w ρ ok u hH (hr i _ u ha hu)
  cases hv with
  | fn f first captured us vs hl hl' h1 h2 =>
    simp only [snapA, Option.bind_eq_some_iff, Option.map_eq_some_iff] at hs
    obtain ⟨ps, hps, qs, hqs, rfl⟩ := hs
    obtain ⟨l1, r1⟩ := list first us ps hl hps h1
    obtain ⟨l2, r2⟩ := list captured vs qs hl' hqs h2
    exact .fn f _ _ us vs l1 l2 r1 r2
  | p q _ hr => simp only [snapA] at hs; exact snapB_sound hA hh hs w ρ ok _ hH (.p _ _ hr)
  | sl id sz off len A m hc hm h' => simp only [snapA] at hs; exact snapB_sound hA hh hs w ρ ok _ hH (.sl id sz off len A m hc hm h')
  | ptr id off g h' => simp only [snapA] at hs; exact snapB_sound hA hh hs w ρ ok _ hH (.ptr id off g h')
  | fptr cs ad us h1 h2 h3 h4 h5 h6 h7 => simp only [snapA] at hs; exact snapB_sound hA hh hs w ρ ok _ hH (.fptr cs ad us h1 h2 h3 h4 h5 h6 h7)
  | mp id g h' => simp only [snapA] at hs; exact snapB_sound hA hh hs w ρ ok _ hH (.mp id g h')
  | agg xs us hl h' => simp only [snapA] at hs; exact snapB_sound hA hh hs w ρ ok _ hH (.agg xs us hl h')
  | tup xs us hl h' => simp only [snapA] at hs; exact snapB_sound hA hh hs w ρ ok _ hH (.tup xs us hl h')
  | junk => simp only [snapA] at hs; exact snapB_sound hA hh hs w ρ ok _ hH (.junk _)
end

/-- A call by a contract that hands back no memory: what the arguments read as now. -/
def callF (P : Program) (g : FuncId) (args : List AV) (o : Oper) (s : St) (K : St → Prop) : Prop :=
  ∃ (cs : List AV) (Q : AV → Heap → Prop), ASpec P g [] [] cs [] Q ∧ cs.length = args.length ∧ (∀ (i : Nat) (a c : AV), args[i]? = some a → cs[i]? = some c → SnapA s.H a c) ∧
    ∀ r H', Q r H' → Flat r ∧ K (s.put o.dst r)

section
variable {P : Program} {D : Types} {w0 w : World} {ok0 F : Nat → Prop} {ρ0 : Names} {n : Nat} {s : St} {a : Act} {ρ : Names} {ok : Nat → Prop}
theorem callF_sound (hR : Rl w0 ok0 F ρ0 n s a w ρ ok) {g : FuncId} {args : List AV} {o : Oper} {K : St → Prop} (hdst : ∀ d, o.dst = some d → d < n) (h : callF P g args o s K) {vals : Array Value} (hl : vals.size = args.length)
    (hv : ∀ (i : Nat) (x : AV) (v : Value), args[i]? = some x → vals[i]? = some v → AVRel w ρ ok x v) : Calls P g vals w (CallPost w0 ok0 F ρ0 n a o.dst K) := by
  obtain ⟨cs, Q, hspec, hpl, hsnap, hK⟩ := h
  have hH0 : HeapOK w (fun _ => none) (fun b => b < w.heap.size) [] := ⟨fun id B h => by simp at h, fun id B g h => by simp at h, fun id id' B B' g h => by simp at h, fun b hb => hb⟩
  refine (hspec.2 w (fun _ => none) (fun b => b < w.heap.size) vals hH0 (fun id x h => by cases h) (by simp [hl, hpl]) ?_).mono ?_
  · intro i c v hc hv'
    have hlt : i < args.length := by rw [← hpl]; exact (List.getElem?_eq_some_iff.1 hc).1
    exact hsnap i _ c (List.getElem?_eq_getElem hlt) hc w ρ ok v hR.heap (hv i _ v (List.getElem?_eq_getElem hlt) hv')
  · rintro e w' ⟨v, r, H', ρ', ok', rfl, hQ, _, _, hr, _, hk, _⟩
    obtain ⟨hflat, hk'⟩ := hK r H' hQ
    have hkk : Kept w w' (fun _ => False) := hk.mono (fun b _ ⟨id, B, h, _⟩ => by simp at h)
    refine ⟨v, _, ρ, ok, rfl, hk', ?_⟩
    have := hR.step hdst (hflat _ _ _ _ w' ρ ok hr) (hR.heap.mono hkk (fun _ _ h => h) (fun _ _ _ _ _ h => h)) (fun _ _ h => h) hR.used hkk (fun _ h => h.elim) (fun b h => .inl h) (fun _ h => h) (fun _ h => .inl h)
    have e : s.put o.dst r = { t := (s.put o.dst r).t, H := s.H, u := s.u } := by cases o.dst <;> rfl
    rw [e]; exact this
end

/-! ### the table -/
inductive Spec where
  | b (f : List AV → Option (PV → Prop))
  | s (f : List AV → Heap → Option (Nat × (AV → Heap → Prop)))
abbrev Specs := List (Nat × Spec)

def Spec.OK (P : Program) (g : FuncId) : Spec → Prop
  | .b f => ∀ as Q, f as = some Q → ASpec P g [] [] as [] (fun r _ => ∃ q, r = .p q ∧ Q q) ∧ ∃ q, Q q
  | .s f => ∀ as H nR Q, f as H = some (nR, Q) → ASpec P g (List.range H.length) ((List.range nR).map (H.length + ·)) as H Q ∧ ∃ r H', Q r H'
def Specs.OK (P : Program) (Γ : Specs) : Prop := ∀ g sp, look Γ g = some sp → sp.OK P g
theorem Specs.OK.nil {P : Program} : Specs.OK P [] := fun g sp h => by simp at h
theorem Specs.OK.cons {P : Program} {g : Nat} {sp : Spec} {Γ : Specs} (h : sp.OK P g) (hΓ : Specs.OK P Γ) : Specs.OK P ((g, sp) :: Γ) := by
  intro g' sp' h'
  rw [look_cons] at h'
  split at h'
  · rename_i e; cases h'; rw [e]; exact h
  · exact hΓ g' sp' h'

/-! ### one step -/
structure Step where
  pre : Prop
  acc : List Nat
  new : List Nat
  post : Out → Prop

def top : AV → List Nat
  | .sl id _ _ _ => [id]
  | .ptr id _ => [id]
  | .mp id => [id]
  | _ => []

def idsAt (h : Nat → Option Blk) (i : Nat) : List Nat := match h i with | some B => B.ids | none => []
/-- All names that these lead to. -/
def reach (h : Nat → Option Blk) : Nat → List Nat → List Nat
  | 0, l => l
  | _, [] => []
  | k + 1, l => l ++ reach h k (l.flatMap (idsAt h))
def only (h : Nat → Option Blk) (l : List Nat) : Nat → Option Blk := fun i => if i ∈ l then h i else none
def once : List Nat → List Nat → List Nat
  | [], acc => acc
  | x :: r, acc => once r (if x ∈ acc then acc else acc ++ [x])
def at_ : List Nat → Nat → Nat
  | [], _ => 0
  | x :: r, i => if i = x then 0 else at_ r i + 1
/-- The caller's names for the callee's. -/
def nm (I : List Nat) (d : Nat) (k : Nat) : Nat := (I[k]?).getD ((d + 1) * 1000 + k)
def closedB (h : Nat → Option Blk) (I : List Nat) : Bool := I.all fun i => match h i with | some B => B.ids.all (fun j => decide (j ∈ I)) | none => false
/-- The callee's memory. -/
def sub (h : Nat → Option Blk) (f : Nat → Nat) : Nat → List Nat → Heap
  | _, [] => []
  | k, i :: r => (k, (h i).map (Blk.ren f)) :: sub h f (k + 1) r

def stepB (D : Types) (f : List AV → Option (PV → Prop)) (args : List AV) (h : Nat → Option Blk) : Option Step :=
  match AV.idsL args with
  | [] => (f args).map fun Q => ⟨True, [], [], fun out => ∃ q, Q q ∧ out = ⟨.p q, [], []⟩⟩
  | i :: r =>
    (optAll (args.map (snapA D (only h (reach h 8 (i :: r))) 8))).bind fun cs => (f cs).map fun Q =>
      ⟨∀ q, Q q → q.still = true, reach h 8 (i :: r), [], fun out => ∃ q, Q q ∧ out = ⟨.p q, [], []⟩⟩
def stepS (f : List AV → Heap → Option (Nat × (AV → Heap → Prop))) (args : List AV) (d : Nat) (h : Nat → Option Blk) : Option Step :=
  let I := once (reach h 8 (AV.idsL args)) []
  if closedB h I = true ∧ (AV.idsL args).all (fun j => decide (j ∈ I)) = true then
    (f (args.map (AV.ren (at_ I))) (sub h (at_ I) 0 I)).map fun (nR, Q) =>
      ⟨True, I, (List.range nR).map fun j => nm I d (I.length + j),
        fun out => ∃ r H', Q r H' ∧ out = ⟨r.ren (nm I d), (List.range (I.length + nR)).map (fun i => (nm I d i, (hlook H' i).map (Blk.ren (nm I d)))), (List.range nR).map fun j => nm I d (I.length + j)⟩⟩
  else none
def callStep (Γ : Specs) (D : Types) (g : FuncId) (args : List AV) (d : Nat) (h : Nat → Option Blk) : Option Step :=
  match look Γ g with
  | none => none
  | some (.b f) => stepB D f args h
  | some (.s f) => stepS f args d h
def stepOf (Γ : Specs) (D : Types) (o : Oper) (e : Operand → AV) (h : Nat → Option Blk) : Option Step :=
  match o.op with
  | .call { callee := .value f, args, .. } =>
    match e f with
    | .fn (.func g) first captured => callStep Γ D g (first ++ args.toList.map e ++ captured) (o.dst.getD 0) h
    | _ => none
  | op => (opF D op (o.dst.getD 0 + 100) e h).map fun out => ⟨True, op.operands.toList.flatMap (fun x => top (e x)), out.new, fun x => x = out⟩
def St.app (s : St) (d : Option Nat) (out : Out) : St := (s.put d out.v).with out.up out.new

end Go.Aw
