/- The words of 'simp' for running code on states. -/
import Derived.Test.YthiddkhonklbkaaAw20
set_option linter.unusedVariables false
set_option linter.unusedSimpArgs false
namespace Go.Aw
open Go

theorem info_of {P : Program} {t : TypeId} {i : TypeInfo} (h : P.types[t]? = some i) : P.info? t = some i := by
  have := (Array.getElem?_eq_some_iff.1 h).1
  unfold Tables.info?
  rw [if_pos this]; exact h

/-! What is still to come stands where 'simp' does not look: in instances. -/
class Kn where k : St → Prop
class Qn where q : Exit → St → Prop
class Un where u : Unit → Prop
class Pn where p : PV → Prop
class Cn where c : Code
class Ln where l : List Oper
class Arr where a : Array Oper

def Awp (Γ : Specs) (D : Types) (n : Nat) (C : List Nat) [c : Cn] (s : St) [K : Kn] [Q : Qn] : Prop := awp Γ D n C c.c s K.k Q.q
def RunT (Γ : Specs) (D : Types) (n : Nat) [A : Arr] [l : Ln] (s : St) [K : Kn] : Prop := runL Γ D n (fun _ _ => True) A.a 0 l.l s K.k
def StepT (Γ : Specs) (D : Types) (n : Nat) [A : Arr] (o : Oper) (s : St) [K : Kn] : Prop := stepG Γ D n (fun _ => True) A.a o s K.k
def RunD (Γ : Specs) (D : Types) (n : Nat) (wr bad : List (List Nat)) [A : Arr] [l : Ln] (s : St) [K : Kn] : Prop := ∃ i, runL Γ D n (fun j => chk (nthL wr (j - i)) (nthL bad (j - i))) A.a i l.l s K.k
def StepD (Γ : Specs) (D : Types) (n : Nat) (wr bad : List Nat) [A : Arr] (o : Oper) (s : St) [K : Kn] : Prop := stepG Γ D n (chk wr bad) A.a o s K.k
def Cut (b : Bool) (s : St) [K : Kn] : Prop := CutA b s K.k
def Draw (Γ : Specs) (D : Types) (n : Nat) [A : Arr] (s : St) [K : Kn] : Prop := DrawA Γ D n A.a s K.k
def Loop (Γ : Specs) (D : Types) (n : Nat) (C : List Nat) [c : Cn] (s : St) [Q : Qn] : Prop := LoopA (awp Γ D n C c.c) s Q.q
/-- p, then k. -/
def Req (p : Prop) [k : Un] : Prop := p ∧ k.u ()
def Brn (b : Bool) [t : Un] [e : Un] : Prop := Br b t.u e.u
def Cond (v : AV) [t : Un] [e : Un] : Prop := condA v t.u e.u
/-- Some value fits, and for each that does k holds. -/
def All (Q : PV → Prop) [k : Pn] : Prop := (∃ q, Q q) ∧ ∀ q, Q q → k.p q
def is (x : PV) : PV → Prop := fun q => q = x
def OutA (x : Option Out) (s : St) (d : Option Nat) (n : Nat) [K : Kn] : Prop := match x with
  | some out => (∀ id ∈ out.new, id ∉ s.u) ∧ (∀ d', d = some d' → d' < n) ∧ K.k (s.app d out)
  | none => False
def CallA (x : Option (PV → Prop)) (s : St) (d : Option Nat) (n : Nat) [K : Kn] : Prop := match x with
  | some Q => (∀ d', d = some d' → d' < n) ∧ @All Q ⟨fun q => K.k (s.app d ⟨.p q, [], []⟩)⟩
  | none => False
theorem Req.mk {p : Prop} {k : Un} (h : p) (hk : k.u ()) : @Req p k := ⟨h, hk⟩
theorem Brn.mk {b : Bool} {t e : Un} (h1 : b = true → t.u ()) (h2 : b = false → e.u ()) : @Brn b t e := ⟨h1, h2⟩
theorem All.mk {Q : PV → Prop} {k : Pn} (h : ∃ q, Q q) (hk : ∀ q, Q q → k.p q) : @All Q k := ⟨h, hk⟩

section
variable {Γ : Specs} {D : Types} {n : Nat} {C : List Nat} {s s' : St} {K : Kn} {Q : Qn} {A : Arr}

theorem Awp.intro {c : Code} {K : St → Prop} {Q : Exit → St → Prop} (h : @Awp Γ D n C ⟨c⟩ s ⟨K⟩ ⟨Q⟩) : awp Γ D n C c s K Q := h
theorem Kn_k {f : St → Prop} : @Kn.k ⟨f⟩ s = f s := rfl
theorem Un_u {f : Unit → Prop} : @Un.u ⟨f⟩ () = f () := rfl
theorem Pn_p {f : PV → Prop} {q : PV} : @Pn.p ⟨f⟩ q = f q := rfl
theorem Qn_q {f : Exit → St → Prop} {e : Exit} : @Qn.q ⟨f⟩ e s = f e s := rfl

/-! ### code -/
theorem awp_skip : @Awp Γ D n C ⟨.skip⟩ s K Q = K.k s := rfl
theorem awp_text {id : Nat} {l : List Oper} : @Awp Γ D n C ⟨.region id l.toArray false⟩ s K Q = @Cut (C.contains id) s ⟨fun s => @RunT Γ D n ⟨l.toArray⟩ ⟨l⟩ s K⟩ := rfl
theorem awp_draw {id : Nat} {ops : Array Oper} : @Awp Γ D n C ⟨.region id ops true⟩ s K Q = @Cut (C.contains id) s ⟨fun s => @Draw Γ D n ⟨ops⟩ s K⟩ := rfl
theorem awp_seq {x y : Code} : @Awp Γ D n C ⟨.seq x y⟩ s K Q = @Awp Γ D n C ⟨x⟩ s ⟨fun s' => @Awp Γ D n C ⟨y⟩ s' K Q⟩ Q := rfl
theorem awp_cond {c : Operand} {x y : Code} : @Awp Γ D n C ⟨.cond c x y⟩ s K Q = @Cond (s.ev c) ⟨fun _ => @Awp Γ D n C ⟨x⟩ s K Q⟩ ⟨fun _ => @Awp Γ D n C ⟨y⟩ s K Q⟩ := rfl
theorem awp_block {id : Nat} {x : Code} : @Awp Γ D n C ⟨.block id x⟩ s K Q = @Awp Γ D n C ⟨x⟩ s K ⟨BlockA id K.k Q.q⟩ := rfl
theorem awp_loop {x : Code} : @Awp Γ D n C ⟨.loop x⟩ s K Q = @Loop Γ D n C ⟨x⟩ s Q := rfl
theorem awp_exit {id : Nat} : @Awp Γ D n C ⟨.exit id⟩ s K Q = Q.q (.exit id) s := rfl
theorem awp_ret : @Awp Γ D n C ⟨.ret⟩ s K Q = Q.q .ret s := rfl
theorem Cut_no : @Cut false s K = K.k s := rfl
theorem BlockA_in {id : Nat} {K : St → Prop} {Q : Exit → St → Prop} : BlockA id K Q (.exit id) s = K s := by simp [BlockA]
theorem BlockA_exit {id j : Nat} {K : St → Prop} {Q : Exit → St → Prop} : BlockA id K Q (.exit j) s = if j = id then K s else Q (.exit j) s := rfl
theorem BlockA_ret {id : Nat} {K : St → Prop} {Q : Exit → St → Prop} : BlockA id K Q .ret s = Q .ret s := rfl
theorem atRet_ret {K : St → Prop} : atRet K .ret s = K s := by simp [atRet]
theorem Cond_bool {b : Bool} {t e : Un} : @Cond (.p (.c (.bool b))) t e = @Brn b t e := rfl
theorem Brn_true {t e : Un} : @Brn true t e = t.u () := by simp [Brn, Br]
theorem Brn_false {t e : Un} : @Brn false t e = e.u () := by simp [Brn, Br]
theorem Brn_same {b : Bool} {t : Un} (h : t.u ()) : @Brn b t t := ⟨fun _ => h, fun _ => h⟩
theorem Req_true {k : Un} : @Req True k = k.u () := by simp [Req]
theorem All_is {x : PV} {k : Pn} : @All (is x) k = k.p x := by simp [All, is]
theorem Cut.to {b : Bool} {s s' : St} (hb : b = true) (hle : LeS s s') (h : K.k s') : @Cut b s K := by subst hb; exact ⟨s', hle, h⟩
theorem Loop.mk {c : Code} {X : Type} (I : X → St) (μ : X → Nat) (x0 : X) (h0 : LeS s (I x0)) (h : ∀ x, @Awp Γ D n C ⟨c⟩ (I x) ⟨fun s' => ∃ y, μ y < μ x ∧ LeS s' (I y)⟩ Q) : @Loop Γ D n C ⟨c⟩ s Q := ⟨X, I, μ, x0, h0, h⟩

/-! ### steps -/
theorem runL_shift {c c' : Nat → Step → Prop} {ops : Array Oper} {K : St → Prop} : ∀ (l : List Oper) (i j : Nat) (s : St), (∀ k, c (i + k) = c' (j + k)) → runL Γ D n c ops i l s K = runL Γ D n c' ops j l s K := by
  intro l
  induction l with
  | nil => intros; rfl
  | cons o r ih =>
    intro i j s h
    have h0 := h 0
    rw [Nat.add_zero, Nat.add_zero] at h0
    show stepG Γ D n (c i) ops o s _ = stepG Γ D n (c' j) ops o s _
    rw [h0]
    congr 1; funext s'
    exact ih (i + 1) (j + 1) s' (fun k => by have := h (k + 1); rw [show i + 1 + k = i + (k + 1) by omega, show j + 1 + k = j + (k + 1) by omega]; exact this)
theorem run_nil : @RunT Γ D n A ⟨[]⟩ s K = K.k s := rfl
theorem run_cons {o : Oper} {r : List Oper} : @RunT Γ D n A ⟨o :: r⟩ s K = @StepT Γ D n A o s ⟨fun s' => @RunT Γ D n A ⟨r⟩ s' K⟩ := by
  show stepG Γ D n (fun _ => True) A.a o s (fun s' => runL Γ D n (fun _ _ => True) A.a (0 + 1) r s' K.k) = stepG Γ D n (fun _ => True) A.a o s (fun s' => @RunT Γ D n A ⟨r⟩ s' K)
  congr 1; funext s'
  exact runL_shift r 1 0 s' (fun _ => rfl)
theorem OutA_some {v : AV} {d : Nat} {t : List (Nat × AV)} {H : Heap} {u : List Nat} : @OutA (some ⟨v, [], []⟩) ⟨t, H, u⟩ (some d) n K = @Req (d < n) ⟨fun _ => K.k ⟨(d, v) :: t, H, u⟩⟩ := by
  simp [OutA, Req, St.app, St.put, St.with]
theorem OutA_new {v : AV} {d : Nat} {t : List (Nat × AV)} {H up : Heap} {u : List Nat} {id : Nat} : @OutA (some ⟨v, up, [id]⟩) ⟨t, H, u⟩ (some d) n K = @Req (u.contains id = false ∧ d < n) ⟨fun _ => K.k ⟨(d, v) :: t, up ++ H, id :: u⟩⟩ := by
  simp [OutA, Req, St.app, St.put, St.with, and_assoc]
theorem OutA_up {v : AV} {t : List (Nat × AV)} {H up : Heap} {u : List Nat} : @OutA (some ⟨v, up, []⟩) ⟨t, H, u⟩ none n K = K.k ⟨t, up ++ H, u⟩ := by
  simp [OutA, Req, St.app, St.put, St.with]
theorem OutA_upd {v : AV} {d : Nat} {t : List (Nat × AV)} {H : Heap} {p : Nat × Option Blk} {up : Heap} {u : List Nat} : @OutA (some ⟨v, p :: up, []⟩) ⟨t, H, u⟩ (some d) n K = @Req (d < n) ⟨fun _ => K.k ⟨(d, v) :: t, p :: up ++ H, u⟩⟩ := by
  simp [OutA, Req, St.app, St.put, St.with]
theorem OutA_if {c : Prop} [Decidable c] {x : Option Out} {d : Option Nat} : @OutA (if c then x else none) s d n K = @Req c ⟨fun _ => @OutA x s d n K⟩ := by
  unfold Req
  by_cases h : c
  · simp [h]
  · simp [h, OutA]
theorem CallA_some {Q' : PV → Prop} {d : Nat} {t : List (Nat × AV)} {H : Heap} {u : List Nat} : @CallA (some Q') ⟨t, H, u⟩ (some d) n K = @Req (d < n) ⟨fun _ => @All Q' ⟨fun q => K.k ⟨(d, .p q) :: t, H, u⟩⟩⟩ := by
  simp only [CallA, Req, St.app, St.put, St.with, List.nil_append, Option.some.injEq, forall_eq']; rfl
theorem CallA_void {Q' : PV → Prop} {t : List (Nat × AV)} {H : Heap} {u : List Nat} : @CallA (some Q') ⟨t, H, u⟩ none n K = @All Q' ⟨fun q => K.k ⟨t, H, u⟩⟩ := by
  simp only [CallA, Req, St.app, St.put, St.with, List.nil_append, reduceCtorEq, false_implies, implies_true, true_and]; rfl
theorem CallA_if {c : Prop} [Decidable c] {x : Option (PV → Prop)} {d : Option Nat} : @CallA (if c then x else none) s d n K = @Req c ⟨fun _ => @CallA x s d n K⟩ := by
  unfold Req
  by_cases h : c
  · simp [h]
  · simp [h, CallA]

theorem stepG_opF {ops : Array Oper} {K : St → Prop} {op : Op} {d : Option Nat} {ty : TypeId} {pos : String} {af : Array Edge} (hn : ∀ f args ts, op ≠ .call ⟨.value f, args, ts⟩) :
    stepG Γ D n (fun _ => True) ops ⟨d, op, ty, pos, af, none⟩ s K = @OutA (opF D op (d.getD 0 + 100) s.ev (hlook s.H)) s d n ⟨K⟩ := by
  have e : stepOf Γ D ⟨d, op, ty, pos, af, none⟩ s.ev (hlook s.H) = (opF D op (d.getD 0 + 100) s.ev (hlook s.H)).map fun out => ⟨True, op.operands.toList.flatMap (fun x => top (s.ev x)), out.new, fun x => x = out⟩ := by
    unfold stepOf
    split
    · rename_i f args ts h; exact absurd h (hn f args ts)
    · rfl
  unfold stepG effStep
  simp only
  rw [e]
  cases opF D op (d.getD 0 + 100) s.ev (hlook s.H) with
  | none => simp [OutA, osat]
  | some out => simp [OutA, osat]

section
variable {d : Option Nat} {ty t t' : TypeId} {pos : String} {af : Array Edge} {x y z : Operand} {ps : Array (Nat × Operand)} {f : Nat} {cok : Bool} {args : Array Operand} {ts : Array TypeId}
theorem go_move : @StepT Γ D n A ⟨d, .move x, ty, pos, af, none⟩ s K = @OutA ((some ⟨s.ev x, [], []⟩)) s d n K := stepG_opF (by simp)
theorem go_assign : @StepT Γ D n A ⟨d, .assign x, ty, pos, af, none⟩ s K = @OutA ((some ⟨s.ev x, [], []⟩)) s d n K := stepG_opF (by simp)
theorem go_pick : @StepT Γ D n A ⟨d, .pick x y z, ty, pos, af, none⟩ s K = @OutA (((pickF (s.ev x) (s.ev y) (s.ev z)).map fun a => ⟨a, [], []⟩)) s d n K := stepG_opF (by simp)
theorem go_alloc : @StepT Γ D n A ⟨d, .alloc t, ty, pos, af, none⟩ s K = @OutA ((allocF D t (d.getD 0 + 100))) s d n K := stepG_opF (by simp)
theorem go_box : @StepT Γ D n A ⟨d, .box t x, ty, pos, af, none⟩ s K = @OutA ((boxF D t (s.ev x) (d.getD 0 + 100))) s d n K := stepG_opF (by simp)
theorem go_build : @StepT Γ D n A ⟨d, .build t ps, ty, pos, af, none⟩ s K = @OutA (((buildF D t (ps.toList.map fun (i, x) => (i, s.ev x))).map fun a => ⟨a, [], []⟩)) s d n K := stepG_opF (by simp)
theorem go_buildSlice {m : Nat} : @StepT Γ D n A ⟨d, .buildSlice t m ps, ty, pos, af, none⟩ s K = @OutA ((buildSliceF D t m (ps.toList.map fun (i, x) => (i, s.ev x)) (d.getD 0 + 100))) s d n K := stepG_opF (by simp)
theorem go_load : @StepT Γ D n A ⟨d, .load t x, ty, pos, af, none⟩ s K = @OutA (((loadF D t (s.ev x) (hlook s.H)).map fun a => ⟨a, [], []⟩)) s d n K := stepG_opF (by simp)
theorem go_store : @StepT Γ D n A ⟨d, .store t x y, ty, pos, af, none⟩ s K = @OutA ((storeF D t (s.ev x) (s.ev y) (hlook s.H))) s d n K := stepG_opF (by simp)
theorem go_nilCheck : @StepT Γ D n A ⟨d, .nilCheck x, ty, pos, af, none⟩ s K = @OutA ((match s.ev x with | .ptr id o => some ⟨.ptr id o, [], []⟩ | .fptr cs => some ⟨.fptr cs, [], []⟩ | _ => none)) s d n K := stepG_opF (by simp)
theorem go_binOp {op : BinOp} : @StepT Γ D n A ⟨d, .binOp op t x y t', ty, pos, af, none⟩ s K = @OutA (((binF D op t (s.ev x) (s.ev y)).map fun a => ⟨a, [], []⟩)) s d n K := stepG_opF (by simp)
theorem go_unOp {op : UnOp} : @StepT Γ D n A ⟨d, .unOp op t x, ty, pos, af, none⟩ s K = @OutA (((unF op (s.ev x)).map fun a => ⟨a, [], []⟩)) s d n K := stepG_opF (by simp)
theorem go_convert : @StepT Γ D n A ⟨d, .convert t t' x, ty, pos, af, none⟩ s K = @OutA (((convF D t t' (s.ev x) (hlook s.H)).map fun a => ⟨a, [], []⟩)) s d n K := stepG_opF (by simp)
theorem go_makeFunc {fn : Fn} {first captured : Array Operand} : @StepT Γ D n A ⟨d, .makeFunc fn first captured, ty, pos, af, none⟩ s K = @OutA ((some ⟨.fn fn (first.toList.map s.ev) (captured.toList.map s.ev), [], []⟩)) s d n K := stepG_opF (by simp)
theorem go_makeMap : @StepT Γ D n A ⟨d, .makeMap t none, ty, pos, af, none⟩ s K = @OutA ((some ⟨.mp (d.getD 0 + 100), [(d.getD 0 + 100, some (.map []))], [d.getD 0 + 100]⟩)) s d n K := stepG_opF (by simp)
theorem go_makeSlice : @StepT Γ D n A ⟨d, .makeSlice t x y, ty, pos, af, none⟩ s K = @OutA ((makeSliceF D t (s.ev x) (s.ev y) (d.getD 0 + 100))) s d n K := stepG_opF (by simp)
theorem go_slice {lo hi mx : Option Operand} : @StepT Γ D n A ⟨d, .slice t x lo hi mx, ty, pos, af, none⟩ s K = @OutA (((sliceF D t (s.ev x) (lo.map s.ev) (hi.map s.ev) (mx.map s.ev)).map fun a => ⟨a, [], []⟩)) s d n K := stepG_opF (by simp)
theorem go_fieldAddr : @StepT Γ D n A ⟨d, .fieldAddr t x f, ty, pos, af, none⟩ s K = @OutA (((fieldAddrF D t (s.ev x) f).map fun a => ⟨a, [], []⟩)) s d n K := stepG_opF (by simp)
theorem go_field : @StepT Γ D n A ⟨d, .field t x f, ty, pos, af, none⟩ s K = @OutA (((fieldF D t (s.ev x) f).map fun a => ⟨a, [], []⟩)) s d n K := stepG_opF (by simp)
theorem go_indexAddr : @StepT Γ D n A ⟨d, .indexAddr t x y, ty, pos, af, none⟩ s K = @OutA (((indexAddrF D t (s.ev x) (s.ev y) (hlook s.H)).map fun a => ⟨a, [], []⟩)) s d n K := stepG_opF (by simp)
theorem go_index : @StepT Γ D n A ⟨d, .index t x y, ty, pos, af, none⟩ s K = @OutA (((indexF D t (s.ev x) (s.ev y)).map fun a => ⟨a, [], []⟩)) s d n K := stepG_opF (by simp)
theorem go_lookup : @StepT Γ D n A ⟨d, .lookup t x y cok, ty, pos, af, none⟩ s K = @OutA (((lookupF D t (s.ev x) (s.ev y) cok (hlook s.H)).map fun a => ⟨a, [], []⟩)) s d n K := stepG_opF (by simp)
theorem go_mapUpdate : @StepT Γ D n A ⟨d, .mapUpdate t x y z, ty, pos, af, none⟩ s K = @OutA ((mapUpdateF D t (s.ev x) (s.ev y) (s.ev z) (hlook s.H))) s d n K := stepG_opF (by simp)
theorem go_extract {i : Nat} : @StepT Γ D n A ⟨d, .extract x i, ty, pos, af, none⟩ s K = @OutA (((extractF (s.ev x) i).map fun a => ⟨a, [], []⟩)) s d n K := stepG_opF (by simp)
theorem go_len : @StepT Γ D n A ⟨d, .call ⟨.builtin .len, #[x], #[t]⟩, ty, pos, af, none⟩ s K = @OutA (((lenF D t (s.ev x) (hlook s.H)).map fun a => ⟨a, [], []⟩)) s d n K := stepG_opF (by simp)
theorem go_append : @StepT Γ D n A ⟨d, .call ⟨.builtin .append, #[x, y], #[t, t']⟩, ty, pos, af, none⟩ s K = @OutA ((appendF D t t' (s.ev x) (s.ev y) (hlook s.H) (d.getD 0 + 100))) s d n K := stepG_opF (by simp)
theorem go_min : @StepT Γ D n A ⟨d, .call ⟨.builtin .min, #[x, y], ts⟩, ty, pos, af, none⟩ s K = @OutA (((minmaxF false (s.ev x) (s.ev y)).map fun a => ⟨a, [], []⟩)) s d n K := stepG_opF (by simp)
theorem go_max : @StepT Γ D n A ⟨d, .call ⟨.builtin .max, #[x, y], ts⟩, ty, pos, af, none⟩ s K = @OutA (((minmaxF true (s.ev x) (s.ev y)).map fun a => ⟨a, [], []⟩)) s d n K := stepG_opF (by simp)

/-- A call by name. -/
def CallG (Γ : Specs) (D : Types) (n : Nat) (g : Nat) (args : List AV) (s : St) (d : Option Nat) [K : Kn] : Prop :=
  osat (callStep Γ D g args (d.getD 0) (hlook s.H)) fun S => True ∧ S.pre ∧ (∀ id ∈ S.new, id ∉ s.u) ∧ (∀ d', d = some d' → d' < n) ∧ (∃ out, S.post out) ∧ ∀ out, S.post out → K.k (s.app d out)
theorem go_call {g : Nat} : @StepT Γ D n A ⟨d, .call ⟨.value (.func g), args, ts⟩, ty, pos, af, none⟩ s K = @CallG Γ D n g (args.toList.map s.ev) s d K := by
  simp [StepT, stepG, effStep, stepOf, St.ev, CallG]
theorem CallG_b {g : Nat} {args : List AV} {F : List AV → Option (PV → Prop)} (hg : look Γ g = some (.b F)) (hi : AV.idsL args = []) : @CallG Γ D n g args s d K = @CallA (F args) s d n K := by
  simp only [CallG, callStep, hg, stepB, hi]
  cases F args with
  | none => simp [osat, CallA]
  | some Q =>
    simp only [Option.map_some, osat, CallA, All]
    apply propext
    constructor
    · rintro ⟨_, _, _, h1, ⟨out, q, hq, _⟩, h2⟩
      exact ⟨h1, ⟨q, hq⟩, fun q hq => h2 _ ⟨q, hq, rfl⟩⟩
    · rintro ⟨h1, ⟨q, hq⟩, h2⟩
      exact ⟨trivial, trivial, by simp, h1, ⟨_, q, hq, rfl⟩, fun out ⟨q, hq, e⟩ => e ▸ h2 q hq⟩
end
end

/-! ### numbers in range -/
theorem wrap_i64 {x : Int} (h : -9223372036854775808 ≤ x ∧ x ≤ 9223372036854775807) : IntKind.wrap .i64 x = x := by
  have e1 : IntKind.bits .i64 = 64 := rfl
  have e2 : IntKind.signed .i64 = true := rfl
  simp only [IntKind.wrap, e1, e2, Bool.true_and, decide_eq_true_eq]
  have e3 : (2 ^ 64 : Int) = 18446744073709551616 := by decide
  have e4 : (2 ^ (64 - 1) : Int) = 9223372036854775808 := by decide
  rw [e3, e4]; split <;> omega
theorem wrap_i32 {x : Int} (h : -2147483648 ≤ x ∧ x ≤ 2147483647) : IntKind.wrap .i32 x = x := by
  have e1 : IntKind.bits .i32 = 32 := rfl
  have e2 : IntKind.signed .i32 = true := rfl
  simp only [IntKind.wrap, e1, e2, Bool.true_and, decide_eq_true_eq]
  have e3 : (2 ^ 32 : Int) = 4294967296 := by decide
  have e4 : (2 ^ (32 - 1) : Int) = 2147483648 := by decide
  rw [e3, e4]; split <;> omega
theorem wrap_u8 {x : Int} (h : 0 ≤ x ∧ x ≤ 255) : IntKind.wrap .u8 x = x := by
  have e1 : IntKind.bits .u8 = 8 := rfl
  have e2 : IntKind.signed .u8 = false := rfl
  simp only [IntKind.wrap, e1, e2, Bool.false_and]
  have e3 : (2 ^ 8 : Int) = 256 := by decide
  rw [e3]; simp; omega
theorem wrap_u16 {x : Int} (h : 0 ≤ x ∧ x ≤ 65535) : IntKind.wrap .u16 x = x := by
  have e1 : IntKind.bits .u16 = 16 := rfl
  have e2 : IntKind.signed .u16 = false := rfl
  simp only [IntKind.wrap, e1, e2, Bool.false_and]
  have e3 : (2 ^ 16 : Int) = 65536 := by decide
  rw [e3]; simp; omega

/-! ### looking up -/
theorem ev_tmp {s : St} {t : Nat} : s.ev (.tmp t) = (look s.t t).getD .junk := rfl
theorem ev_const {s : St} {v : Value} : s.ev (.const v) = .p (.c v) := rfl
theorem ev_func {s : St} {f : Nat} : s.ev (.func f) = .fn (.func f) [] [] := rfl
theorem start_mk {as : List AV} {H : Heap} {I : List Nat} : start as H I = ⟨initT 0 as, H, I⟩ := rfl
theorem string_str {l : List UInt8} : Value.string ⟨l.toArray⟩ = str l := rfl
theorem ret_unfold {D : Types} {rs : List ResultVar} {Q : PV → Prop} {s : St} {r : AV} {q : PV} (h : retF D rs s = some r) (hq : snap D (hlook s.H) 8 r = some q) (hQ : Q q) : RetB D rs Q s := by
  unfold RetB; rw [h]; simp only; rw [hq]; exact hQ
theorem snap_p {D : Types} {h : Nat → Option Blk} {k : Nat} {v : PV} : snap D h k (.p v) = some v := by cases k <;> rfl

theorem spec_b {P : Program} {D : Types} {Γ : Specs} (hA : Agrees P D) (hΓ : Specs.OK P Γ) (hm : P.follows .mixedOrders = true) (C : List Nat) {g : FuncId} {fn : Func} {c : Code} {n : Nat} (rs : List ResultVar) (hf : P.funcs[g]? = some fn) (hb : fn.body = some c) (hname : (fn.name == "runtime.NumGoroutine") = false)
    (hnt : fn.ntmps = n) (hrs : fn.results.toList = rs) {as : List AV} (hn : Nat.ble as.length n = true) {Q : PV → Prop} (h : (∀ a ∈ as, GoodA a) → @Awp Γ D n C ⟨c⟩ (start as [] []) ⟨RetB D rs Q⟩ ⟨atRet (RetB D rs Q)⟩) :
    ASpec P g [] [] as [] (fun r _ => ∃ q, r = .p q ∧ Q q) := by
  subst hnt hrs
  exact aspec_b hA hΓ hm C hf hb hname (Nat.le_of_ble_eq_true hn) h
def psat (x : Option PV) (Q : PV → Prop) : Prop := match x with | some q => Q q | none => False
theorem psat_some {q : PV} {Q : PV → Prop} : psat (some q) Q = Q q := rfl
def asat (x : Option AV) (Q : AV → Prop) : Prop := match x with | some q => Q q | none => False
theorem asat_some {q : AV} {Q : AV → Prop} : asat (some q) Q = Q q := rfl
theorem RetB_tmp {D : Types} {t : Nat} {Q : PV → Prop} {s : St} : RetB D [.tmp t] Q s = psat (snap D (hlook s.H) 8 (s.get t)) Q := by
  unfold RetB retF psat; simp only [List.map_cons, List.map_nil, resF, optAll, Option.map_some]
  cases snap D (hlook s.H) 8 (s.get t) <;> rfl
theorem RetB_gen {D : Types} {rs : List ResultVar} {Q : PV → Prop} {s : St} : RetB D rs Q s = asat (retF D rs s) fun r => psat (snap D (hlook s.H) 8 r) Q := by
  unfold RetB asat psat
  cases retF D rs s with
  | none => rfl
  | some r => simp only; cases snap D (hlook s.H) 8 r <;> rfl
theorem get_mk {t : List (Nat × AV)} {H : Heap} {u : List Nat} {i : Nat} : (St.mk t H u).get i = (look t i).getD .junk := rfl
theorem is_eq {x q : PV} : is x q = (q = x) := rfl

attribute [go_sem] RetB_tmp psat_some asat_some get_mk is_eq List.contains_nil List.contains_cons Option.getD_some Option.getD_none if_true if_false Bool.or_false Bool.false_or Bool.or_true Bool.true_or Option.map_some Option.map_none Option.bind_some Option.bind_none binF unF asI_i asB_b asL_s intBin
attribute [go_sem] Kn_k Un_u Pn_p Qn_q awp_skip awp_text awp_draw awp_seq awp_cond awp_block awp_loop awp_exit awp_ret Cut_no BlockA_exit BlockA_ret atRet_ret Cond_bool Brn_true Brn_false Req_true All_is run_nil run_cons OutA_some OutA_new OutA_up OutA_upd OutA_if CallA_some CallA_void CallA_if go_move go_assign go_pick go_alloc go_box go_build go_buildSlice go_load go_store go_nilCheck go_binOp go_unOp go_convert go_makeFunc go_makeMap go_makeSlice go_slice go_fieldAddr go_field go_indexAddr go_index go_lookup go_mapUpdate go_extract go_len go_append go_min go_max go_call ev_tmp ev_const ev_func start_mk initT look_cons look_nil snap_p
end Go.Aw
