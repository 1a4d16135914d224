/- Words of 'simp' for regions of many orders and for calls that take memory. -/
import Derived.Test.YthiddkhonklbkaaAw26
set_option linter.unusedVariables false
set_option linter.unusedSimpArgs false
namespace Go.Aw
open Go

def tops (e : Operand → AV) : List Operand → List Nat
  | [] => []
  | x :: r => top (e x) ++ tops e r
def accL (op : Op) : List Operand := match op with
  | .move x | .assign x | .box _ x | .load _ x | .nilCheck x | .unOp _ _ x | .convert _ _ x | .fieldAddr _ x _ | .field _ x _ | .extract x _ => [x]
  | .pick c a b => [c, a, b]
  | .build _ ps | .buildSlice _ _ ps => ps.toList.map (·.2)
  | .store _ a v | .binOp _ _ a v _ | .makeSlice _ a v | .indexAddr _ a v | .index _ a v | .lookup _ a v _ => [a, v]
  | .makeFunc _ first captured => first.toList ++ captured.toList
  | .mapUpdate _ m k v => [m, k, v]
  | .slice _ x l h m => x :: (l.toList ++ h.toList ++ m.toList)
  | .call ⟨.builtin _, args, _⟩ => args.toList
  | op => op.operands.toList
theorem tops_flat (e : Operand → AV) (l : List Operand) : l.flatMap (fun x => top (e x)) = tops e l := by
  induction l with
  | nil => rfl
  | cons x r ih => rw [List.flatMap_cons, ih]; rfl
theorem accL_eq (op : Op) : op.operands.toList = accL op := by
  cases op <;> try rfl
  case makeFunc f a b => simp [Op.operands, accL]
  case slice t x l h m => cases l <;> cases h <;> cases m <;> rfl
  case call c =>
    obtain ⟨callee, args, ts⟩ := c
    cases callee <;> simp [Op.operands, Call.operands, accL]

section
variable {Γ : Specs} {D : Types} {n : Nat} {s : St} {K : Kn} {A : Arr} {d : Option Nat} {op : Op} {ty : TypeId} {pos : String} {af : Array Edge} {j : Nat} {want : Bool} {w b : List Nat}
def isCall : Op → Bool
  | .call ⟨.value _, _, _⟩ => true
  | _ => false
theorem chk_op (hn : isCall op = false) (h : (outB b (tops s.ev (accL op)) && inB w (keysOf op (d.getD 0 + 100) s.ev)) = true) : @ChkA Γ D n w b A ⟨d, op, ty, pos, af, none⟩ s = True := by
  have := ChkA_op (Γ := Γ) (D := D) (n := n) (s := s) (A := A) (d := d) (op := op) (ty := ty) (pos := pos) (af := af) (w := w) (b := b) (fun f args ts e => by subst e; cases hn) (by rw [tops_flat, accL_eq]; exact h)
  simp [this]
theorem chk_op_g (hn : isCall op = false) (h : (outB b (tops s.ev (accL op)) && inB w (keysOf op (d.getD 0 + 100) s.ev)) = true) : @ChkA Γ D n w b A ⟨d, op, ty, pos, af, some (j, want)⟩ s = True := by
  have := ChkA_op (Γ := Γ) (D := D) (n := n) (s := s) (A := A) (d := d) (op := op) (ty := ty) (pos := pos) (af := af) (w := w) (b := b) (fun f args ts e => by subst e; cases hn) (by rw [tops_flat, accL_eq]; exact h)
  simp [ChkA_guard this]

/-! ### calls that take memory -/
theorem chk_s {f : List AV → Heap → Option (Nat × (AV → Heap → Prop))} {as : List AV} {dd : Nat} {h : Nat → Option Blk} {S : Step} (hS : stepS f as dd h = some S)
    (hb : outB b (once (reach h 8 (AV.idsL as)) []) = true) (hw : ∀ nR Q, f (as.map (AV.ren (at_ (once (reach h 8 (AV.idsL as)) [])))) (sub h (at_ (once (reach h 8 (AV.idsL as)) [])) 0 (once (reach h 8 (AV.idsL as)) [])) = some (nR, Q) →
      inB w ((List.range ((once (reach h 8 (AV.idsL as)) []).length + nR)).map (nm (once (reach h 8 (AV.idsL as)) []) dd)) = true) : chk w b S := by
  unfold stepS at hS
  simp only at hS
  split at hS
  rotate_left
  · cases hS
  rw [Option.map_eq_some_iff] at hS
  obtain ⟨⟨nR, Q⟩, hQ, rfl⟩ := hS
  have hw' := inB_spec (hw nR Q hQ)
  refine ⟨outB_spec hb, fun x hx => ?_, fun out ho x hx => ?_⟩
  · rw [List.mem_map] at hx
    obtain ⟨k, hk, rfl⟩ := hx
    refine hw' _ (List.mem_map.2 ⟨_, ?_, rfl⟩)
    rw [List.mem_range] at hk ⊢; omega
  · obtain ⟨r, H', _, rfl⟩ := ho
    rw [List.map_map, List.mem_map] at hx
    obtain ⟨k, hk, rfl⟩ := hx
    exact hw' _ (List.mem_map.2 ⟨k, hk, rfl⟩)

/-- The names that a call by I and so many new ones brings, with what they hold. -/
def backH (f : Nat → Nat) (H' : Heap) : List Nat → Heap
  | [] => []
  | i :: r => (f i, (hlook H' i).map (Blk.ren f)) :: backH f H' r
theorem backH_eq (f : Nat → Nat) (H' : Heap) (l : List Nat) : l.map (fun i => (f i, (hlook H' i).map (Blk.ren f))) = backH f H' l := by
  induction l with
  | nil => rfl
  | cons i r ih => rw [List.map_cons, ih]; rfl
class Wn where p : AV → Heap → Prop
/-- Some result and memory fit, and for each that does k holds. -/
def AllS (Q : AV → Heap → Prop) [k : Wn] : Prop := (∃ r H', Q r H') ∧ ∀ r H', Q r H' → k.p r H'
def isS (r0 : AV) (H0 : Heap) : AV → Heap → Prop := fun r H' => r = r0 ∧ H' = H0
theorem AllS_is {r0 : AV} {H0 : Heap} {k : Wn} : @AllS (isS r0 H0) k = k.p r0 H0 := by
  simp [AllS, isS]
theorem AllS.mk {Q : AV → Heap → Prop} {k : Wn} (h : ∃ r H', Q r H') (hk : ∀ r H', Q r H' → k.p r H') : @AllS Q k := ⟨h, hk⟩
theorem Wn_p {f : AV → Heap → Prop} {r : AV} {H : Heap} : @Wn.p ⟨f⟩ r H = f r H := rfl
def newN (I : List Nat) (dd : Nat) (nR : Nat) : List Nat := (List.range nR).map fun j => nm I dd (I.length + j)
def CallS (x : Option (Nat × (AV → Heap → Prop))) (I : List Nat) (s : St) (d : Option Nat) (n : Nat) [K : Kn] : Prop := match x with
  | some (nR, Q) => outB s.u (newN I (d.getD 0) nR) = true ∧ (∀ d', d = some d' → d' < n) ∧ @AllS Q ⟨fun r H' => K.k (s.app d ⟨r.ren (nm I (d.getD 0)), backH (nm I (d.getD 0)) H' (List.range (I.length + nR)), newN I (d.getD 0) nR⟩)⟩
  | none => False
theorem CallG_s {g : Nat} {as : List AV} {F : List AV → Heap → Option (Nat × (AV → Heap → Prop))} (hg : look Γ g = some (.s F)) (I : List Nat) (hI : once (reach (hlook s.H) 8 (AV.idsL as)) [] = I)
    (hc : closedB (hlook s.H) I = true) (ha : (AV.idsL as).all (fun j => decide (j ∈ I)) = true) :
    @CallG Γ D n g as s d K = @CallS (F (as.map (AV.ren (at_ I))) (sub (hlook s.H) (at_ I) 0 I)) I s d n K := by
  simp only [CallG, callStep, hg, stepS, hI, hc, ha, and_self, if_true]
  cases F (as.map (AV.ren (at_ I))) (sub (hlook s.H) (at_ I) 0 I) with
  | none => simp [osat, CallS]
  | some p =>
    obtain ⟨nR, Q⟩ := p
    simp only [Option.map_some, osat, CallS, AllS]
    apply propext
    constructor
    · rintro ⟨_, _, h0, h1, ⟨out, r, H', hq, _⟩, h2⟩
      refine ⟨?_, h1, ⟨r, H', hq⟩, fun r H' hq => ?_⟩
      · have : ∀ l : List Nat, (∀ x ∈ l, x ∉ s.u) → outB s.u l = true := by
          intro l
          induction l with
          | nil => intro _; rfl
          | cons x r ih =>
            intro h
            have hx : s.u.contains x = false := by simpa using h x (by simp)
            rw [outB, ih (fun y hy => h y (by simp [hy])), hx]; rfl
        exact this _ h0
      · have := h2 _ ⟨r, H', hq, rfl⟩
        rw [backH_eq] at this; exact this
    · rintro ⟨h0, h1, hne, h2⟩
      obtain ⟨r, H', hq⟩ := hne
      refine ⟨trivial, trivial, outB_spec h0, h1, ⟨_, r, H', hq, rfl⟩, ?_⟩
      rintro out ⟨r, H', hq, rfl⟩
      rw [backH_eq]; exact h2 r H' hq
end

/-! ### contracts with memory, by plain data -/
open Classical in
noncomputable def mkG {X : Type} (args : X → List AV × Heap) (nR : X → Nat) (Q : X → AV → Heap → Prop) : List AV → Heap → Option (Nat × (AV → Heap → Prop)) := fun as H => if h : ∃ x, args x = (as, H) then some (nR (Classical.choose h), Q (Classical.choose h)) else none
theorem mkG_eq {X : Type} {args : X → List AV × Heap} {nR : X → Nat} {Q : X → AV → Heap → Prop} (inj : ∀ x y, args x = args y → x = y) (x : X) : mkG args nR Q (args x).1 (args x).2 = some (nR x, Q x) := by
  have h : ∃ y, args y = ((args x).1, (args x).2) := ⟨x, rfl⟩
  unfold mkG
  rw [dif_pos h, inj _ _ (Classical.choose_spec h)]
theorem mkG_ok {P : Program} {g : FuncId} {X : Type} {args : X → List AV × Heap} {nR : X → Nat} {Q : X → AV → Heap → Prop}
    (h : ∀ x, ASpec P g (List.range (args x).2.length) ((List.range (nR x)).map ((args x).2.length + ·)) (args x).1 (args x).2 (Q x)) (hne : ∀ x, ∃ r H', Q x r H') : (Spec.s (mkG args nR Q)).OK P g := by
  intro as H k Q' hQ
  unfold mkG at hQ
  split at hQ
  · rename_i hx
    cases hQ
    have e := Classical.choose_spec hx
    have h' := h (Classical.choose hx)
    rw [e] at h'
    exact ⟨h', hne _⟩
  · cases hQ
theorem spec_s {P : Program} {D : Types} {Γ : Specs} (hA : Agrees P D) (hΓ : Specs.OK P Γ) (hm : P.follows .mixedOrders = true) (C : List Nat) {g : FuncId} {fn : Func} {c : Code} {n : Nat} (rs : List ResultVar) (hf : P.funcs[g]? = some fn) (hb : fn.body = some c) (hname : (fn.name == "runtime.NumGoroutine") = false)
    (hnt : fn.ntmps = n) (hrs : fn.results.toList = rs) {as : List AV} {H : Heap} {nR : Nat} (I : List Nat) (N : Nat) (hI : List.range H.length = I) (hNN : H.length + nR = N) (hN : Nat.ble N 100 = true) (hn : Nat.ble as.length n = true) {Q : AV → Heap → Prop}
    (h : (∀ a ∈ as, GoodA a) → @Awp Γ D n C ⟨c⟩ (start as H I) ⟨RetS D rs N Q⟩ ⟨atRet (RetS D rs N Q)⟩) :
    ASpec P g (List.range H.length) ((List.range nR).map (H.length + ·)) as H Q := by
  subst hnt hrs hI hNN
  exact aspec_s hA hΓ hm C hf hb hname (Nat.le_of_ble_eq_true hN) (Nat.le_of_ble_eq_true hn) h
/-- At the end: first what the state may be read as, then the result. -/
theorem RetS.to {D : Types} {rs : List ResultVar} {N : Nat} {Q : AV → Heap → Prop} {s s' : St} (hle : LeS s s') {r : AV} (hr : retF D rs s' = some r) (h1 : inB (List.range N) r.ids = true) (h2 : inB (List.range N) (idsH s'.H) = true) (h : Q r s'.H) : RetS D rs N Q s := by
  refine ⟨s', hle, ?_⟩
  rw [hr]
  have i1 := inB_spec h1
  have i2 := inB_spec h2
  exact ⟨fun i hi => List.mem_range.1 (i1 i hi), fun i B hB => ⟨List.mem_range.1 (i2 i (idsH_mem hB).1), fun j hj => List.mem_range.1 (i2 j ((idsH_mem hB).2 j hj))⟩, h⟩

/-! ### rows of pure cells -/
theorem idsL_p (l : List PV) : AV.idsL (l.map AV.p) = [] := by
  induction l with
  | nil => rfl
  | cons x r ih => rw [List.map_cons, AV.idsL, ih]; rfl
theorem renL_p (f : Nat → Nat) (l : List PV) : AV.renL f (l.map AV.p) = l.map AV.p := by
  induction l with
  | nil => rfl
  | cons x r ih => rw [List.map_cons, AV.renL, ih]; rfl
theorem snapL_p (D : Types) (h : Nat → Option Blk) (k : Nat) (l : List PV) : optAll ((l.map AV.p).map (snap D h k)) = some l := by
  induction l with
  | nil => rfl
  | cons x r ih => rw [List.map_cons, List.map_cons, snap_p, optAll, ih]; rfl
theorem regroup_one (l : List PV) : regroup false 1 l.length l = l := by
  induction l with
  | nil => rfl
  | cons x r ih =>
    rw [List.length_cons, regroup]
    simp [ih]

attribute [go_sem] idsL_p renL_p snapL_p AV.idsL AV.ids AV.renL AV.ren Blk.ids Blk.ren idsT idsH keepB subH inB Nat.blt at_ sub once reach idsAt closedB only
attribute [go_sem] cond_true cond_false eq_self chk_op chk_op_g isCall tops accL keysOf top outB inB AllS_is Wn_p backH newN
end Go.Aw
