/- More of plain data: maps from texts to numbers, makers; calls gone on from. -/
import Derived.Test.YthiddkhonklbkaaAw27
set_option linter.unusedVariables false
set_option linter.unusedSimpArgs false
namespace Go.Aw
open Go

def eK (e : List UInt8 × Int) : List UInt8 × PV := (e.1, eI e.2)
theorem eK_inj {a b : List UInt8 × Int} : eK a = eK b ↔ a = b := by
  refine ⟨fun h => ?_, fun e => by rw [e]⟩
  obtain ⟨a1, a2⟩ := a
  obtain ⟨b1, b2⟩ := b
  simp only [eK, Prod.mk.injEq, eI_inj] at h
  rw [h.1, h.2]
theorem keys_inj {l m : List (List UInt8 × Int)} : l.map eK = m.map eK ↔ l = m := map_inj (fun a b h => eK_inj.1 h)
theorem names_inj {l m : List (List UInt8)} : l.map eS = m.map eS ↔ l = m := map_inj (fun a b h => eS_inj.1 h)
attribute [ext] Schema
/-- inhabit's maker. -/
@[ext] structure Mk where
  r : List (List UInt8 × Int)
  s : Schema
theorem eSc_inj' {s t : Schema} : (s.structs = t.structs ∧ s.enums = t.enums ∧ s.services = t.services) ↔ s = t := ⟨fun ⟨a, b, c⟩ => Schema.ext a b c, fun e => by subst e; exact ⟨rfl, rfl, rfl⟩⟩

section
variable {Γ : Specs} {D : Types} {n : Nat} {K : Kn} {A : Arr}
theorem CallA_go {Q : PV} {t : List (Nat × AV)} {H : Heap} {u : List Nat} {d : Nat} (hd : d < n) (hK : K.k ⟨(d, .p Q) :: t, H, u⟩) : @CallA (some (is Q)) ⟨t, H, u⟩ (some d) n K := by
  rw [CallA_some]
  refine Req.mk hd ?_
  simp only [Un_u]
  rw [All_is]
  exact hK
theorem chkB {s : St} {d : Option Nat} {ty : TypeId} {pos : String} {af : Array Edge} {args : Array Operand} {ts : Array TypeId} {w b : List Nat} {g : Nat} {f : List AV → Option (PV → Prop)} (hg : look Γ g = some (.b f)) (hb : outB b (reach (hlook s.H) 8 (AV.idsL (args.toList.map s.ev))) = true) : @ChkA Γ D n w b A ⟨d, .call ⟨.value (.func g), args, ts⟩, ty, pos, af, none⟩ s := ChkA_call hg hb
theorem Draw.at {s : St} {l : List Oper} (k : Nat) (deps wr bad : List (List Nat)) (hk : (match l with | o :: _ => o.dst.getD 0 | [] => 0) = k) (hE : edgesB l.toArray deps = true) (hP : pairsB l.toArray deps wr bad = true) (h : @RunA Γ D n wr bad ⟨l.toArray⟩ ⟨l⟩ s K) : @Draw Γ D n ⟨l.toArray⟩ s K := Draw.mk deps wr bad hE hP h
/-! ### drawn regions most of whose operations come near no memory that another one turns -/
def pureB (Γ : Specs) (o : Oper) : Bool := match o.op with
  | .call ⟨.value (.func g), _, _⟩ => (match look Γ g with | some (.b _) => true | _ => false)
  | .call ⟨.value _, _, _⟩ => false
  | .call ⟨.builtin .append, _, _⟩ => false
  | .alloc _ | .box _ _ | .buildSlice _ _ _ | .makeMap _ _ | .makeSlice _ _ _ | .store _ _ _ | .mapUpdate _ _ _ _ => false
  | _ => true
theorem outB_nil (l : List Nat) : outB [] l = true := by
  induction l with
  | nil => rfl
  | cons x r ih => rw [outB, ih]; rfl
theorem ChkA_pure {s : St} {o : Oper} (h : pureB Γ o = true) : @ChkA Γ D n [] [] A o s := by
  obtain ⟨d, op, ty, pos, af, g⟩ := o
  have key : @ChkA Γ D n [] [] A ⟨d, op, ty, pos, af, none⟩ s := by
    by_cases hc : ∃ f args ts, op = .call ⟨.value f, args, ts⟩
    · obtain ⟨f, args, ts, rfl⟩ := hc
      cases f with
      | func g =>
        simp only [pureB] at h
        split at h
        · rename_i f hf; exact ChkA_call hf (outB_nil _)
        · cases h
      | _ => simp [pureB] at h
    · refine ChkA_op (fun f args ts e => hc ⟨f, args, ts, e⟩) ?_
      rw [outB_nil, Bool.true_and]
      have : keysOf op (d.getD 0 + 100) s.ev = [] := by
        unfold keysOf
        split <;> simp_all [pureB]
      rw [this]; rfl
  cases g with
  | none => exact key
  | some p => obtain ⟨j, want⟩ := p; exact ChkA_guard key
def wrX (cs : List (Option (List Nat × List Nat))) : List (List Nat) := cs.map fun c => match c with | some p => p.1 | none => []
def badX (cs : List (Option (List Nat × List Nat))) : List (List Nat) := cs.map fun c => match c with | some p => p.2 | none => []
def okX (Γ : Specs) : List (Option (List Nat × List Nat)) → List Oper → Bool
  | [], [] => true
  | none :: cs, o :: r => pureB Γ o && okX Γ cs r
  | some _ :: cs, _ :: r => okX Γ cs r
  | _, _ => false
class Xn where c : List (Option (List Nat × List Nat))
def runXd (Γ : Specs) (D : Types) (n : Nat) (ops : Array Oper) : List (Option (List Nat × List Nat)) → List Oper → St → (St → Prop) → Prop
  | [], [], s, K => K s
  | none :: cs, o :: r, s, K => stepG Γ D n (fun _ => True) ops o s fun s' => runXd Γ D n ops cs r s' K
  | some (w, b) :: cs, o :: r, s, K => stepG Γ D n (chk w b) ops o s fun s' => runXd Γ D n ops cs r s' K
  | _, _, _, _ => False
def RunX (Γ : Specs) (D : Types) (n : Nat) [x : Xn] [A : Arr] [l : Ln] (s : St) [K : Kn] : Prop := runXd Γ D n A.a x.c l.l s K.k
theorem runX_nil {s : St} : @RunX Γ D n ⟨[]⟩ A ⟨[]⟩ s K = K.k s := rfl
theorem runX_none {cs : List (Option (List Nat × List Nat))} {o : Oper} {r : List Oper} {s : St} : @RunX Γ D n ⟨none :: cs⟩ A ⟨o :: r⟩ s K = @StepT Γ D n A o s ⟨fun s' => @RunX Γ D n ⟨cs⟩ A ⟨r⟩ s' K⟩ := rfl
theorem runX_some {cs : List (Option (List Nat × List Nat))} {w b : List Nat} {o : Oper} {r : List Oper} {s : St} : @RunX Γ D n ⟨some (w, b) :: cs⟩ A ⟨o :: r⟩ s K = @Req (@ChkA Γ D n w b A o s) ⟨fun _ => @StepT Γ D n A o s ⟨fun s' => @RunX Γ D n ⟨cs⟩ A ⟨r⟩ s' K⟩⟩ := by
  show stepG Γ D n (chk w b) A.a o s (fun s' => runXd Γ D n A.a cs r s' K.k) = (ChkA Γ D n w b o s ∧ stepG Γ D n (fun _ => True) A.a o s fun s' => runXd Γ D n A.a cs r s' K.k)
  unfold stepG ChkA
  cases effStep Γ D n A.a o s with
  | none => simp [osat]
  | some S => simp only [osat, Option.some.injEq, forall_eq', true_and]
theorem runX_runD {K : St → Prop} : ∀ (cs : List (Option (List Nat × List Nat))) (l : List Oper) (s : St), okX Γ cs l = true → runXd Γ D n A.a cs l s K → runD Γ D n A.a (wrX cs) (badX cs) l s K := by
  intro cs
  induction cs with
  | nil =>
    intro l s hk h
    cases l with
    | nil => exact h
    | cons o r => exact h.elim
  | cons c cs ih =>
    intro l s hk h
    cases l with
    | nil => cases c <;> exact h.elim
    | cons o r =>
      cases c with
      | none =>
        simp only [okX, Bool.and_eq_true] at hk
        have h' : stepG Γ D n (fun _ => True) A.a o s fun s' => runXd Γ D n A.a cs r s' K := h
        show stepG Γ D n (chk [] []) A.a o s fun s' => runD Γ D n A.a (wrX cs) (badX cs) r s' K
        have hc := ChkA_pure (D := D) (n := n) (A := A) (s := s) hk.1
        unfold stepG at h' ⊢
        unfold ChkA at hc
        cases he : effStep Γ D n A.a o s with
        | none => rw [he] at h'; exact h'.elim
        | some S =>
          rw [he] at h'
          simp only [osat] at h' ⊢
          obtain ⟨_, h1, h2, h3, h4, h5⟩ := h'
          exact ⟨hc S he, h1, h2, h3, h4, fun out ho => ih r _ hk.2 (h5 out ho)⟩
      | some p =>
        obtain ⟨w, b⟩ := p
        have h' : stepG Γ D n (chk w b) A.a o s fun s' => runXd Γ D n A.a cs r s' K := h
        exact stepG_mono (fun s' hs => ih r s' hk hs) h'
/-- k: where the first operation puts its answer (it tells the region from others). -/
theorem Draw.mix {s : St} {l : List Oper} (k : Nat) (deps : List (List Nat)) (cs : List (Option (List Nat × List Nat))) (hk : (match l with | o :: _ => o.dst.getD 0 | [] => 0) = k) (hE : edgesB l.toArray deps = true) (hP : pairsB l.toArray deps (wrX cs) (badX cs) = true) (hX : okX Γ cs l = true)
    (h : @RunX Γ D n ⟨cs⟩ ⟨l.toArray⟩ ⟨l⟩ s K) : @Draw Γ D n ⟨l.toArray⟩ s K := by
  exact Draw.mk deps _ _ hE hP (runX_runD (A := ⟨l.toArray⟩) cs l s hX h)
theorem Draw.hit {s : St} (h : @Draw Γ D n A s K) : @Draw Γ D n A s K := h
/-- What is proved once for several ways. -/
structure Hid (T : Prop) : Prop where
  out : T
theorem cutP {P T : Prop} (main : Hid T → P) (body : T) : P := main ⟨body⟩
theorem Schema.eta' {s : Schema} : Schema.mk s.structs s.enums s.services = s := rfl
theorem SStruct.eta' {s : SStruct} : SStruct.mk s.kind s.name s.fields = s := rfl
theorem SEnum.eta' {s : SEnum} : SEnum.mk s.name s.members = s := rfl
theorem SField.eta' {f : SField} : SField.mk f.id f.req f.type f.name f.has f.init = f := rfl
end
attribute [go_sem] runX_nil runX_none runX_some Val.eta Schema.eta' SStruct.eta' SEnum.eta' SField.eta'
end Go.Aw
