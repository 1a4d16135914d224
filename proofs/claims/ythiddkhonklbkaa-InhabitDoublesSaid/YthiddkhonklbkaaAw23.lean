/- Guards, regions of many orders, calls with memory: as words of 'simp'. -/
import Derived.Test.YthiddkhonklbkaaAw22
set_option linter.unusedVariables false
set_option linter.unusedSimpArgs false
namespace Go.Aw
open Go

/-! ### guards -/
def slotL : List Oper → Nat → Option Nat
  | [], _ => none
  | o :: _, 0 => o.dst
  | _ :: r, j + 1 => slotL r j
theorem slot_list {l : List Oper} {j : Nat} : slotOf l.toArray j = slotL l j := by
  unfold slotOf
  rw [List.getElem?_toArray]
  induction l generalizing j with
  | nil => rfl
  | cons o r ih =>
    cases j with
    | zero => rfl
    | succ j => rw [List.getElem?_cons_succ]; exact ih
/-- By what the guard's operation has yielded: the step, or none. -/
def GuardK (t : Option Nat) (y : Option (Option Bool)) (want : Bool) (n : Nat) [k : Un] [e : Un] : Prop := match t, y with
  | some t, some y => t < n ∧ (y = some want → k.u ()) ∧ (y ≠ some want → e.u ())
  | _, _ => False
def ySlot (s : St) : Option Nat → Option (Option Bool)
  | some t => yieldA (s.get t)
  | none => none
section
variable {Γ : Specs} {D : Types} {n : Nat} {s : St} {K : Kn} {A : Arr} {d : Option Nat} {op : Op} {ty : TypeId} {pos : String} {af : Array Edge} {j : Nat} {want : Bool}
theorem go_guard {l : List Oper} : @StepT Γ D n ⟨l.toArray⟩ ⟨d, op, ty, pos, af, some (j, want)⟩ s K =
    @GuardK (slotL l j) (ySlot s (slotL l j)) want n ⟨fun _ => @StepT Γ D n ⟨l.toArray⟩ ⟨d, op, ty, pos, af, none⟩ s K⟩ ⟨fun _ => @OutA (some ⟨.p (.c undef), [], []⟩) s d n K⟩ := by
  unfold StepT stepG effStep
  simp only [show (@Arr.a ⟨l.toArray⟩) = l.toArray from rfl, slot_list]
  cases slotL l j with
  | none => simp [osat, GuardK]
  | some t =>
    simp only [ySlot]
    cases hy : yieldA (s.get t) with
    | none => by_cases h : t < n <;> simp [osat, GuardK, h]
    | some y =>
      have e : stepOf Γ D ⟨d, op, ty, pos, af, some (j, want)⟩ s.ev (hlook s.H) = stepOf Γ D ⟨d, op, ty, pos, af, none⟩ s.ev (hlook s.H) := rfl
      by_cases h : t < n
      · by_cases hw : y = some want
        · simp only [h, hw, if_true, GuardK, true_and, e, forall_const, ne_eq, not_true_eq_false, false_implies, and_true]
        · simp only [h, hw, if_true, if_false, GuardK, true_and, false_implies, ne_eq, not_false_eq_true, forall_const]
          simp [osat, skipStep, OutA]
      · simp [h, osat, GuardK]
theorem Guard_t {t : Nat} {b : Bool} {k e : Un} : @GuardK (some t) (some (some b)) true n k e = @Req (t < n) ⟨fun _ => @Brn b k e⟩ := by
  cases b <;> simp [GuardK, Req, Brn, Br]
theorem Guard_f {t : Nat} {b : Bool} {k e : Un} : @GuardK (some t) (some (some b)) false n k e = @Req (t < n) ⟨fun _ => @Brn b e k⟩ := by
  cases b <;> simp [GuardK, Req, Brn, Br]
theorem Guard_n {t : Nat} {k e : Un} : @GuardK (some t) (some none) want n k e = @Req (t < n) ⟨fun _ => e.u ()⟩ := by
  simp [GuardK, Req]

/-! ### many orders -/
/-- What an operation (that is no call) may turn or make. -/
def keysOf (op : Op) (d : Nat) (e : Operand → AV) : List Nat := match op with
  | .alloc _ | .box _ _ | .buildSlice _ _ _ | .makeMap _ _ | .makeSlice _ _ _ => [d]
  | .store _ x _ => top (e x)
  | .mapUpdate _ x _ _ => top (e x)
  | .call ⟨.builtin .append, args, _⟩ => d :: (match args.toList with | x :: _ => top (e x) | [] => [])
  | _ => []
theorem opF_keys {op : Op} {d : Nat} {e : Operand → AV} {h : Nat → Option Blk} {out : Out} (ho : opF D op d e h = some out) : (∀ x ∈ out.new, x ∈ keysOf op d e) ∧ ∀ x ∈ out.up.map Prod.fst, x ∈ keysOf op d e := by
  have pure_ : ∀ {x : Option AV}, (x.map fun a => (⟨a, [], []⟩ : Out)) = some out → (∀ x ∈ out.new, x ∈ keysOf op d e) ∧ ∀ x ∈ out.up.map Prod.fst, x ∈ keysOf op d e := by
    intro x hx
    rw [Option.map_eq_some_iff] at hx
    obtain ⟨a, _, rfl⟩ := hx
    exact ⟨(fun x hx => by cases hx), (fun x hx => by cases hx)⟩
  have triv : ∀ {a : AV}, some (⟨a, [], []⟩ : Out) = some out → (∀ x ∈ out.new, x ∈ keysOf op d e) ∧ ∀ x ∈ out.up.map Prod.fst, x ∈ keysOf op d e := by
    intro a hx; cases hx
    exact ⟨(fun x hx => by cases hx), (fun x hx => by cases hx)⟩
  unfold opF at ho
  simp only at ho
  split at ho
  · exact triv ho
  · exact triv ho
  · exact pure_ ho
  · unfold allocF at ho
    rw [Option.map_eq_some_iff] at ho
    obtain ⟨i, _, rfl⟩ := ho
    simp [keysOf]
  · unfold boxF at ho
    rw [Option.bind_eq_some_iff] at ho
    obtain ⟨i, _, ho⟩ := ho
    rw [Option.map_eq_some_iff] at ho
    obtain ⟨c, _, rfl⟩ := ho
    simp [keysOf]
  · exact pure_ ho
  · unfold buildSliceF at ho
    rw [Option.bind_eq_some_iff] at ho
    obtain ⟨i, _, ho⟩ := ho
    split at ho
    · rw [Option.bind_eq_some_iff] at ho
      obtain ⟨j, _, ho⟩ := ho
      split at ho
      · rw [Option.map_eq_some_iff] at ho
        obtain ⟨c, _, rfl⟩ := ho; simp [keysOf]
      · cases ho
    · cases ho
  · exact pure_ ho
  · rename_i t x y
    unfold storeF at ho
    simp only [Option.bind_eq_some_iff] at ho
    obtain ⟨i, _, vs, _, ho⟩ := ho
    split at ho
    · rename_i id off hex
      rw [Option.bind_eq_some_iff] at ho
      obtain ⟨B, _, ho⟩ := ho
      split at ho
      · split at ho
        · cases ho; simp [keysOf, hex, top]
        · cases ho
      · cases ho
    · cases ho
  · split at ho
    · exact triv ho
    · exact triv ho
    · cases ho
  · exact pure_ ho
  · exact pure_ ho
  · exact pure_ ho
  · exact triv ho
  · cases ho; simp [keysOf]
  · unfold makeSliceF at ho
    rw [Option.bind_eq_some_iff] at ho
    obtain ⟨i, _, ho⟩ := ho
    split at ho
    · simp only [Option.bind_eq_some_iff] at ho
      obtain ⟨j, _, ⟨k1, n1⟩, _, ⟨k2, n2⟩, _, ho⟩ := ho
      simp only at ho
      split at ho
      · cases ho; simp [keysOf]
      · cases ho
    · cases ho
  · exact pure_ ho
  · exact pure_ ho
  · exact pure_ ho
  · exact pure_ ho
  · exact pure_ ho
  · exact pure_ ho
  · rename_i t m k x
    unfold mapUpdateF at ho
    rw [Option.bind_eq_some_iff] at ho
    obtain ⟨ti, _, ho⟩ := ho
    split at ho
    · rw [Option.bind_eq_some_iff] at ho
      obtain ⟨ki, _, ho⟩ := ho
      split at ho
      · rw [Option.bind_eq_some_iff] at ho
        obtain ⟨l, _, ho⟩ := ho
        split at ho
        · rename_i id y hex hey
          rw [Option.bind_eq_some_iff] at ho
          obtain ⟨B, _, ho⟩ := ho
          split at ho
          · cases ho; simp [keysOf, hex, top]
          · cases ho
        · cases ho
      · cases ho
    · cases ho
  · exact pure_ ho
  · split at ho
    · exact pure_ ho
    · cases ho
  · split at ho
    · rename_i args argTypes x y t t' hx ht
      unfold appendF at ho
      split at ho
      · rw [Option.bind_eq_some_iff] at ho
        obtain ⟨ti, _, ho⟩ := ho
        split at ho
        · simp only [Option.bind_eq_some_iff] at ho
          obtain ⟨i, _, ⟨m, news⟩, _, ho⟩ := ho
          simp only at ho
          split at ho
          · split at ho
            · cases ho; simp [keysOf]
            · cases ho
          · rename_i id sz off len hex
            rw [Option.bind_eq_some_iff] at ho
            obtain ⟨B, _, ho⟩ := ho
            split at ho
            · split at ho
              · split at ho
                · split at ho
                  · cases ho; simp [keysOf, hx, hex, top]
                  · cases ho
                · split at ho
                  · cases ho; simp [keysOf, hx, hex, top]
                  · cases ho
              · cases ho
            · cases ho
          · cases ho
        · cases ho
      · cases ho
    · cases ho
  · split at ho
    · exact pure_ ho
    · cases ho
  · split at ho
    · exact pure_ ho
    · cases ho
  · cases ho

def inB (l : List Nat) : List Nat → Bool
  | [] => true
  | x :: r => l.contains x && inB l r
def outB (l : List Nat) : List Nat → Bool
  | [] => true
  | x :: r => !l.contains x && outB l r
theorem inB_spec {l r : List Nat} (h : inB l r = true) : ∀ x ∈ r, x ∈ l := by
  induction r with
  | nil => intro x hx; cases hx
  | cons y r ih =>
    simp only [inB, Bool.and_eq_true, List.contains_iff_mem] at h
    intro x hx
    rcases List.mem_cons.1 hx with rfl | hx
    · exact h.1
    · exact ih h.2 x hx
theorem outB_spec {l r : List Nat} (h : outB l r = true) : ∀ x ∈ r, x ∉ l := by
  induction r with
  | nil => intro x hx; cases hx
  | cons y r ih =>
    simp only [outB, Bool.and_eq_true, Bool.not_eq_true', List.contains_eq_mem, decide_eq_false_iff_not] at h
    intro x hx
    rcases List.mem_cons.1 hx with rfl | hx
    · exact h.1
    · exact ih h.2 x hx

def runD (Γ : Specs) (D : Types) (n : Nat) (ops : Array Oper) : List (List Nat) → List (List Nat) → List Oper → St → (St → Prop) → Prop
  | _, _, [], s, K => K s
  | w :: wr, b :: bad, o :: r, s, K => stepG Γ D n (chk w b) ops o s fun s' => runD Γ D n ops wr bad r s' K
  | _, _, _, _, _ => False
theorem runD_runL {ops : Array Oper} {K : St → Prop} {wr bad : List (List Nat)} : ∀ (l : List Oper) (i : Nat) (s : St), runD Γ D n ops (wr.drop i) (bad.drop i) l s K → runL Γ D n (bads wr bad) ops i l s K := by
  intro l
  induction l with
  | nil =>
    intro i s h
    rw [runD] at h; exact h
  | cons o r ih =>
    intro i s h
    cases hw : wr.drop i with
    | nil => rw [hw] at h; simp [runD] at h
    | cons w wr' =>
      cases hb : bad.drop i with
      | nil => rw [hw, hb] at h; simp [runD] at h
      | cons b bad' =>
        rw [hw, hb] at h
        have e1 : nthL wr i = w := by
          unfold nthL
          have : wr[i]? = some w := by have := congrArg (fun l => l[0]?) hw; simpa using this
          rw [this]; rfl
        have e2 : nthL bad i = b := by
          unfold nthL
          have : bad[i]? = some b := by have := congrArg (fun l => l[0]?) hb; simpa using this
          rw [this]; rfl
        have e3 : wr.drop (i + 1) = wr' := by rw [← List.drop_drop, hw]; rfl
        have e4 : bad.drop (i + 1) = bad' := by rw [← List.drop_drop, hb]; rfl
        rw [runD] at h
        rw [runL]
        show stepG Γ D n (chk (nthL wr i) (nthL bad i)) ops o s _
        rw [e1, e2]
        refine stepG_mono (fun s' hs => ih (i + 1) s' ?_) h
        rw [e3, e4]; exact hs

def RunA (Γ : Specs) (D : Types) (n : Nat) (wr bad : List (List Nat)) [A : Arr] [l : Ln] (s : St) [K : Kn] : Prop := runD Γ D n A.a wr bad l.l s K.k
/-- The step comes near no name that it may not. -/
def ChkA (Γ : Specs) (D : Types) (n : Nat) (wr bad : List Nat) [A : Arr] (o : Oper) (s : St) : Prop := ∀ S, effStep Γ D n A.a o s = some S → chk wr bad S
theorem Draw.mk {l : List Oper} (deps wr bad : List (List Nat)) (hE : edgesB l.toArray deps = true) (hP : pairsB l.toArray deps wr bad = true) (h : @RunA Γ D n wr bad ⟨l.toArray⟩ ⟨l⟩ s K) : @Draw Γ D n ⟨l.toArray⟩ s K :=
  ⟨deps, wr, bad, hE, hP, runD_runL l 0 s h⟩
theorem runA_nil {wr bad : List (List Nat)} : @RunA Γ D n wr bad A ⟨[]⟩ s K = K.k s := by
  show runD Γ D n A.a wr bad [] s K.k = K.k s
  rw [runD]
theorem runA_cons {w b : List Nat} {wr bad : List (List Nat)} {o : Oper} {r : List Oper} : @RunA Γ D n (w :: wr) (b :: bad) A ⟨o :: r⟩ s K = @Req (@ChkA Γ D n w b A o s) ⟨fun _ => @StepT Γ D n A o s ⟨fun s' => @RunA Γ D n wr bad A ⟨r⟩ s' K⟩⟩ := by
  show runD Γ D n A.a (w :: wr) (b :: bad) (o :: r) s K.k = (ChkA Γ D n w b o s ∧ stepG Γ D n (fun _ => True) A.a o s fun s' => runD Γ D n A.a wr bad r s' K.k)
  rw [runD]
  unfold stepG ChkA
  cases effStep Γ D n A.a o s with
  | none => simp [osat]
  | some S =>
    simp only [osat, Option.some.injEq, forall_eq', true_and]
theorem ChkA_op {w b : List Nat} (hn : ∀ f args ts, op ≠ .call ⟨.value f, args, ts⟩) (h : (outB b (op.operands.toList.flatMap fun x => top (s.ev x)) && inB w (keysOf op (d.getD 0 + 100) s.ev)) = true) : @ChkA Γ D n w b A ⟨d, op, ty, pos, af, none⟩ s := by
  intro S hS
  rw [Bool.and_eq_true] at h
  have e : stepOf Γ D ⟨d, op, ty, pos, af, none⟩ s.ev (hlook s.H) = (opF D op (d.getD 0 + 100) s.ev (hlook s.H)).map fun out => ⟨True, op.operands.toList.flatMap (fun x => top (s.ev x)), out.new, fun x => x = out⟩ := by
    unfold stepOf
    split
    · rename_i f args ts h; exact absurd h (hn f args ts)
    · rfl
  unfold effStep at hS
  simp only at hS
  rw [e, Option.map_eq_some_iff] at hS
  obtain ⟨out, ho, rfl⟩ := hS
  obtain ⟨h1, h2⟩ := opF_keys ho
  refine ⟨outB_spec h.1, fun x hx => inB_spec h.2 x (h1 x hx), fun out' ho' x hx => ?_⟩
  cases ho'
  exact inB_spec h.2 x (h2 x hx)
theorem ChkA_guard {w b : List Nat} (h : @ChkA Γ D n w b A ⟨d, op, ty, pos, af, none⟩ s) : @ChkA Γ D n w b A ⟨d, op, ty, pos, af, some (j, want)⟩ s := by
  intro S hS
  have e : stepOf Γ D ⟨d, op, ty, pos, af, some (j, want)⟩ s.ev (hlook s.H) = stepOf Γ D ⟨d, op, ty, pos, af, none⟩ s.ev (hlook s.H) := rfl
  unfold effStep at hS
  simp only at hS
  split at hS
  · cases hS
  · split at hS
    · split at hS
      · cases hS
      · split at hS
        · rw [e] at hS; exact h S hS
        · cases hS
          refine ⟨(fun x hx => by cases hx), (fun x hx => by cases hx), fun out ho x hx => ?_⟩
          cases ho; cases hx
    · cases hS
end

/-! ### calls with memory -/
section
variable {Γ : Specs} {D : Types} {n : Nat} {s : St} {K : Kn} {A : Arr} {d : Option Nat} {ty : TypeId} {pos : String} {af : Array Edge} {args : Array Operand} {ts : Array TypeId}

theorem chk_b {f : List AV → Option (PV → Prop)} {as : List AV} {h : Nat → Option Blk} {w b : List Nat} {S : Step} (hS : stepB D f as h = some S) (hb : outB b (reach h 8 (AV.idsL as)) = true) : chk w b S := by
  unfold stepB at hS
  split at hS
  · rw [Option.map_eq_some_iff] at hS
    obtain ⟨Q, _, rfl⟩ := hS
    refine ⟨(fun x hx => by cases hx), (fun x hx => by cases hx), fun out ho x hx => ?_⟩
    obtain ⟨q, _, rfl⟩ := ho; cases hx
  · rename_i i r hids
    rw [Option.bind_eq_some_iff] at hS
    obtain ⟨cs, _, hS⟩ := hS
    rw [Option.map_eq_some_iff] at hS
    obtain ⟨Q, _, rfl⟩ := hS
    rw [hids] at hb
    refine ⟨outB_spec hb, (fun x hx => by cases hx), fun out ho x hx => ?_⟩
    obtain ⟨q, _, rfl⟩ := ho; cases hx
theorem ChkA_call {w b : List Nat} {g : Nat} {f : List AV → Option (PV → Prop)} (hg : look Γ g = some (.b f)) (hb : outB b (reach (hlook s.H) 8 (AV.idsL (args.toList.map s.ev))) = true) : @ChkA Γ D n w b A ⟨d, .call ⟨.value (.func g), args, ts⟩, ty, pos, af, none⟩ s := by
  intro S hS
  unfold effStep stepOf at hS
  simp only [St.ev, callStep, hg, List.nil_append, List.append_nil] at hS
  exact chk_b hS hb

/-- A call whose arguments lead to memory that stays the caller's. -/
theorem CallG_open {g : Nat} {as : List AV} {F : List AV → Option (PV → Prop)} (hg : look Γ g = some (.b F)) (i : Nat) (r : List Nat) (hi : AV.idsL as = i :: r) :
    @CallG Γ D n g as s d K = match optAll (as.map (snapA D (only (hlook s.H) (reach (hlook s.H) 8 (i :: r))) 8)) with
      | some cs => (match F cs with | some Q => (∀ q, Q q → q.still = true) ∧ @CallA (some Q) s d n K | none => False)
      | none => False := by
  simp only [CallG, callStep, hg, stepB, hi]
  cases optAll (as.map (snapA D (only (hlook s.H) (reach (hlook s.H) 8 (i :: r))) 8)) with
  | none => simp [osat]
  | some cs =>
    simp only [Option.bind_some]
    cases F cs with
    | none => simp [osat]
    | some Q =>
      simp only [Option.map_some, osat, CallA, All]
      apply propext
      constructor
      · rintro ⟨_, h0, _, h1, ⟨out, q, hq, _⟩, h2⟩
        exact ⟨h0, h1, ⟨q, hq⟩, fun q hq => h2 _ ⟨q, hq, rfl⟩⟩
      · rintro ⟨h0, h1, ⟨q, hq⟩, h2⟩
        exact ⟨trivial, h0, by simp, h1, ⟨_, q, hq, rfl⟩, fun out ⟨q, hq, e⟩ => e ▸ h2 q hq⟩
end

attribute [go_sem] go_guard Guard_t Guard_f Guard_n slotL ySlot runA_nil runA_cons
end Go.Aw
