/- All orders of a region; what code does to states. -/
import Derived.Test.YthiddkhonklbkaaAw18
import Derived.Deep.LoopGhost
set_option linter.unusedVariables false
set_option linter.unusedSimpArgs false
namespace Go.Aw
open Go

section
variable {P : Program} {D : Types} {w0 w : World} {ok0 F : Nat → Prop} {ρ0 : Names} {n : Nat} {s : St} {a : Act} {ρ : Names} {ok : Nat → Prop} {Γ : Specs} {ops : Array Oper}

/-- The frame and the world read as a state in which K holds. -/
def Has (w0 : World) (ok0 F : Nat → Prop) (ρ0 : Names) (n : Nat) (K : St → Prop) (a : Act) (w : World) : Prop := ∃ s ρ ok, K s ∧ Rl w0 ok0 F ρ0 n s a w ρ ok

theorem Rl.eqv {s' : St} (h : Rl w0 ok0 F ρ0 n s a w ρ ok) (he : s.eqv s') : Rl w0 ok0 F ρ0 n s' a w ρ ok := by
  obtain ⟨e1, e2, e3⟩ := he
  refine ⟨h.size, h.defers, fun i => by rw [← e1]; exact h.tmp i, ⟨fun id B hB => h.heap.blk id B (by rw [e2]; exact hB), fun id B g hB => h.heap.away id B g (by rw [e2]; exact hB),
    fun id id' B B' g hB hB' => h.heap.inj id id' B B' g (by rw [e2]; exact hB) (by rw [e2]; exact hB'), h.heap.lt⟩, fun id x hx => (e3 id).1 (h.used id x hx), ?_, h.kept, h.oksub, h.okn, h.init⟩
  rintro b ⟨id, B, hB, hb⟩
  exact h.home b ⟨id, B, by rw [e2]; exact hB, hb⟩

theorem Rl.put (h : Rl w0 ok0 F ρ0 n s a w ρ ok) {dst : Option Nat} (hdst : ∀ d, dst = some d → d < n) {av : AV} {v : Value} (hv : AVRel w ρ ok av v) : Rl w0 ok0 F ρ0 n (s.put dst av) (a.put dst v) w ρ ok := by
  have := h.step hdst hv h.heap (fun _ _ h => h) h.used (Kept.refl w fun _ => False) (fun _ h => h.elim) (fun _ h => .inl h) (fun _ h => h) (fun _ h => .inl h)
  have e : s.put dst av = { t := (s.put dst av).t, H := s.H, u := s.u } := by cases dst <;> rfl
  rw [e]; exact this

theorem Rl.drawn (h : Rl w0 ok0 F ρ0 n s a w ρ ok) : Rl w0 ok0 F ρ0 n s a { w with drawn := w.drawn + 1 } ρ ok := by
  have hk : Kept w { w with drawn := w.drawn + 1 } (fun _ => False) := ⟨rfl, rfl, rfl, Nat.le_refl _, fun _ _ _ => rfl, fun _ cur _ h => ⟨cur, h, rfl⟩, fun _ => rfl⟩
  exact h.step (dst := none) (fun d h => by cases h) (.junk undef) (h.heap.mono hk (fun _ _ h => h) (fun _ _ _ _ _ h => h)) (fun _ _ h => h) h.used hk (fun _ h => h.elim) (fun _ h => .inl h) (fun _ h => h) (fun _ h => .inl h)

theorem stepG_sound (hA : Agrees P D) (hΓ : Specs.OK P Γ) {c : Step → Prop} {o : Oper} {i : Nat} (ho : ops[i]? = some o) {K : St → Prop} (h : stepG Γ D n c ops o s K) (hR : Rl w0 ok0 F ρ0 n s a w ρ ok) {Q : Exit → Act → World → Prop} :
    wpOp P ops Q i (Has w0 ok0 F ρ0 n K) a w := by
  unfold stepG at h
  unfold wpOp
  rw [ho]
  cases he : effStep Γ D n ops o s with
  | none => rw [he] at h; exact h.elim
  | some S =>
    rw [he] at h
    obtain ⟨_, hp, hn, hd, _, hk⟩ := h
    have run : stepOf Γ D o s.ev (hlook s.H) = some S → Region.wanted o (yielded ops a.tmps) = true → (if Region.wanted o (yielded ops a.tmps) then o.wp P a w (Has w0 ok0 F ρ0 n K) Q ∨ (o.asks P a w ∧ LetsOut Q) else Has w0 ok0 F ρ0 n K (a.put o.dst undef) w) := by
      intro hs hw
      rw [if_pos hw]
      exact .inl (step_sound hA hΓ hR hs hp hn hd hk)
    unfold effStep at he
    split at he
    · rename_i hg
      exact run he (by simp [Region.wanted, hg])
    · rename_i j want hg
      split at he
      · cases he
      · rename_i t ht
        split at he
        · rename_i hlt
          split at he
          · cases he
          · rename_i y hy
            have hyd : yielded ops a.tmps j = y := by
              have hv := hR.tmp t
              have htm : a.tmps[t]? = some (a.tmps.getD t undef) := by
                have : t < a.tmps.size := by rw [hR.size]; exact hlt
                simp [Array.getD, this]
              generalize hav : s.get t = av at hv hy
              generalize huv : a.tmps.getD t undef = uv at hv htm
              unfold yielded
              have hb : ((ops[j]?).bind (·.dst)).bind (a.tmps[·]?) = some uv := by
                show (slotOf ops j).bind _ = _
                rw [ht]; exact htm
              rw [hb]
              cases hv with
              | p q u hr =>
                cases hr with
                | c x => cases uv <;> (simp only [yieldA, Option.some.injEq] at hy; exact hy)
                | _ => simp [yieldA] at hy
              | _ => simp [yieldA] at hy
            split at he
            · rename_i hw
              exact run he (by simp [Region.wanted, hg, hyd, hw])
            · rename_i hw
              cases he
              have hwn : Region.wanted o (yielded ops a.tmps) = false := by simp [Region.wanted, hg, hyd, hw]
              simp only [hwn, Bool.false_eq_true, if_false]
              refine ⟨_, ρ, ok, hk ⟨.p (.c undef), [], []⟩ rfl, ?_⟩
              have e : s.app o.dst ⟨.p (.c undef), [], []⟩ = s.put o.dst (.p (.c undef)) := by unfold St.app St.with; cases o.dst <;> rfl
              rw [e]
              exact hR.put hd (.const undef)
        · cases he

theorem wpOp_imp {Q : Exit → Act → World → Prop} {i : Nat} {a : Act} {w : World} {K K' : Act → World → Prop} (h : wpOp P ops Q i K a w) (hk : ∀ a w, K a w → K' a w) : wpOp P ops Q i K' a w := wpOp_mono hk h

theorem runC_text (hA : Agrees P D) (hΓ : Specs.OK P Γ) {c : Nat → Step → Prop} {K : St → Prop} {Q : Exit → Act → World → Prop} (hQ : ∀ a w, Has w0 ok0 F ρ0 n K a w → Q .normal a w) : ∀ (l : List Nat) (s : St) (a : Act) (w : World) (ρ : Names) (ok : Nat → Prop),
    runC Γ D n c ops l s K → Rl w0 ok0 F ρ0 n s a w ρ ok → wpOps P ops Q l a w := by
  intro l
  induction l with
  | nil => intro s a w ρ ok h hR; exact hQ a w ⟨s, ρ, ok, h, hR⟩
  | cons i r ih =>
    intro s a w ρ ok h hR
    rw [runC] at h
    rw [wpOps_cons]
    split at h
    · exact h.elim
    · rename_i o ho
      refine wpOp_imp (stepG_sound hA hΓ ho h hR) ?_
      rintro a' w' ⟨s', ρ', ok', hk, hR'⟩
      exact ih s' a' w' ρ' ok' hk hR'

/-! ### any order -/
def edgesB (ops : Array Oper) (deps : List (List Nat)) : Bool :=
  (List.range ops.size).all fun j => match ops[j]? with
    | none => false
    | some o => (o.after.toList.all fun e => !Region.binds .any e || decide (e.on < j)) &&
      (nthL deps j).all fun m => o.after.toList.any fun e => Region.binds .any e && (e.on == m || (nthL deps e.on).contains m)
def pairsB (ops : Array Oper) (deps wr bad : List (List Nat)) : Bool :=
  (List.range ops.size).all fun j => (List.range j).all fun k => (nthL deps j).contains k || freeB ops wr bad k j

theorem any_sound (hA : Agrees P D) (hΓ : Specs.OK P Γ) {deps wr bad : List (List Nat)} (hE : edgesB ops deps = true) (hP : pairsB ops deps wr bad = true) {K : St → Prop} (hK : Resp K) {Q : Exit → Act → World → Prop} (hQ : ∀ a w, Has w0 ok0 F ρ0 n K a w → Q .normal a w) :
    ∀ (fuel : Nat) (listed : Array Bool) (rem : List Nat) (s : St) (a : Act) (w : World) (ρ : Names) (ok : Nat → Prop), rem.length ≤ fuel → rem.Pairwise (· < ·) → listed.size = ops.size →
      (∀ i, i ∈ rem ↔ i < ops.size ∧ listed.getD i true = false) → (∀ j, j < ops.size → listed.getD j true = true → ∀ m ∈ nthL deps j, listed.getD m false = true) →
      runC Γ D n (bads wr bad) ops rem s K → Rl w0 ok0 F ρ0 n s a w ρ ok → wpAny P .any ops Q fuel listed a w := by
  have edge : ∀ (j : Nat) (o : Oper), ops[j]? = some o → (∀ e ∈ o.after, Region.binds .any e = true → e.on < j) ∧ ∀ m ∈ nthL deps j, ∃ e ∈ o.after, Region.binds .any e = true ∧ (e.on = m ∨ m ∈ nthL deps e.on) := by
    intro j o ho
    have hlt := (Array.getElem?_eq_some_iff.1 ho).1
    unfold edgesB at hE
    rw [List.all_eq_true] at hE
    have := hE j (List.mem_range.2 hlt)
    rw [ho] at this
    simp only [Bool.and_eq_true, List.all_eq_true, Bool.or_eq_true, Bool.not_eq_true', decide_eq_true_eq, List.any_eq_true, beq_iff_eq, List.contains_iff_mem, Array.mem_toList_iff] at this
    refine ⟨fun e he hb => ?_, this.2⟩
    rcases this.1 e he with h | h
    · rw [hb] at h; cases h
    · exact h
  have gd : ∀ (listed : Array Bool) (i : Nat), i < listed.size → listed.getD i true = listed.getD i false := by
    intro listed i hi; simp [Array.getD, hi]
  intro fuel
  induction fuel with
  | zero =>
    intro listed rem s a w ρ ok hl _ hsz hmem _ h hR
    have : rem = [] := List.eq_nil_of_length_eq_zero (by omega)
    subst this
    refine ⟨?_, hQ a w ⟨s, ρ, ok, h, hR⟩⟩
    rw [List.eq_nil_iff_forall_not_mem]
    intro j hj
    obtain ⟨h1, o, ho, _⟩ := mem_ready.1 hj
    have := (hmem j).2 ⟨(Array.getElem?_eq_some_iff.1 ho).1, h1⟩
    cases this
  | succ fuel ih =>
    intro listed rem s a w ρ ok hl hpw hsz hmem hcl h hR
    refine ⟨fun hready => ?_, fun i hi => ?_⟩
    · cases rem with
      | nil => exact hQ a w ⟨s, ρ, ok, h, hR⟩
      | cons x r =>
        exfalso
        obtain ⟨hx1, hx2⟩ := (hmem x).1 (by simp)
        have ho := Array.getElem?_eq_getElem hx1
        have : x ∈ Region.ready .any ops listed := by
          refine mem_ready.2 ⟨hx2, _, ho, fun e he hb => ?_⟩
          have hlt := (edge x _ ho).1 e he hb
          have hnm : e.on ∉ x :: r := by
            intro hm
            rcases List.mem_cons.1 hm with h' | h'
            · omega
            · have := (List.pairwise_cons.1 hpw).1 _ h'; omega
          rw [← gd listed e.on (by omega)]
          cases hb' : listed.getD e.on true with
          | true => rfl
          | false => exact absurd ((hmem e.on).2 ⟨by omega, hb'⟩) hnm
        rw [hready] at this; cases this
    · obtain ⟨h1, o, ho, hall⟩ := mem_ready.1 hi
      have hilt := (Array.getElem?_eq_some_iff.1 ho).1
      have him := (hmem i).2 ⟨hilt, h1⟩
      have hdeps : ∀ m ∈ nthL deps i, listed.getD m false = true := by
        intro m hm
        obtain ⟨e, he, hb, h'⟩ := (edge i o ho).2 m hm
        have hl' := hall e he hb
        rcases h' with rfl | h'
        · exact hl'
        · have hlt := (edge i o ho).1 e he hb
          exact hcl e.on (by omega) (by rw [gd listed _ (by omega)]; exact hl') m h'
      obtain ⟨l1, l2, rfl⟩ := List.append_of_mem him
      have hpw' := List.pairwise_append.1 hpw
      have hfree : ∀ k ∈ l1, freeB ops wr bad k i = true := by
        intro k hk
        have hki : k < i := hpw'.2.2 k hk i (by simp)
        unfold pairsB at hP
        rw [List.all_eq_true] at hP
        have := hP i (List.mem_range.2 hilt)
        rw [List.all_eq_true] at this
        have := this k (List.mem_range.2 hki)
        rw [Bool.or_eq_true] at this
        rcases this with h' | h'
        · exfalso
          have hk1 := hdeps k (by simpa using h')
          have hk2 := ((hmem k).1 (by simp [hk])).2
          rw [gd listed k (by omega), hk1] at hk2; cases hk2
        · exact h'
      have hb := bubble hK l1 s hfree h
      rw [runC, ho] at hb
      refine wpOp_imp (stepG_sound hA hΓ ho hb hR) ?_
      rintro a' w' ⟨s', ρ', ok', hk, hR'⟩
      have hni : i ∉ l1 ++ l2 := by
        intro hm
        rcases List.mem_append.1 hm with hm | hm
        · have := hpw'.2.2 i hm i (by simp); omega
        · have := (List.pairwise_cons.1 hpw'.2.1).1 i hm; omega
      refine ih (listed.setIfInBounds i true) (l1 ++ l2) s' a' w' ρ' ok' (by simp at hl ⊢; omega) ?_ (by simp [hsz]) (fun j => ?_) (fun j hj hjl m hm => ?_) hk hR'
      · rw [List.pairwise_append]
        exact ⟨hpw'.1, (List.pairwise_cons.1 hpw'.2.1).2, fun x hx y hy => hpw'.2.2 x hx y (by simp [hy])⟩
      · by_cases hji : i = j
        · subst hji
          constructor
          · intro hm; exact absurd hm hni
          · rintro ⟨_, h'⟩
            simp [hsz, hilt] at h'
        · rw [getD_set_ne true hji, ← hmem j]
          simp [Ne.symm hji]
      · have hml : listed.getD m false = true := by
          by_cases hji : i = j
          · subst hji; exact hdeps m hm
          · rw [getD_set_ne true hji] at hjl
            exact hcl j hj hjl m hm
        exact getD_set_true hml

/-! ### code -/
/-- s says no more than s' asks: whatever is in state s is in state s'. -/
def LeS (s s' : St) : Prop := ∀ (w0 : World) (ok0 F : Nat → Prop) (ρ0 : Names) (n : Nat) (a : Act) (w : World) (ρ : Names) (ok : Nat → Prop), Rl w0 ok0 F ρ0 n s a w ρ ok → ∃ ρ' ok', Rl w0 ok0 F ρ0 n s' a w ρ' ok'
theorem LeS.refl (s : St) : LeS s s := fun _ _ _ _ _ _ _ ρ ok h => ⟨ρ, ok, h⟩
theorem LeS.trans {s s' s'' : St} (h : LeS s s') (h' : LeS s' s'') : LeS s s'' := by
  intro w0 ok0 F ρ0 n a w ρ ok hR
  obtain ⟨ρ1, ok1, h1⟩ := h _ _ _ _ _ _ _ _ _ hR
  exact h' _ _ _ _ _ _ _ _ _ h1
theorem St.eqv.le {s s' : St} (h : s.eqv s') : LeS s s' := fun _ _ _ _ _ _ _ ρ ok hR => ⟨ρ, ok, hR.eqv h⟩

/-- Operations one after the other. -/
def runL (Γ : Specs) (D : Types) (n : Nat) (c : Nat → Step → Prop) (ops : Array Oper) : Nat → List Oper → St → (St → Prop) → Prop
  | _, [], s, K => K s
  | i, o :: r, s, K => stepG Γ D n (c i) ops o s fun s' => runL Γ D n c ops (i + 1) r s' K
theorem runL_runC {c : Nat → Step → Prop} {K : St → Prop} : ∀ (l : List Oper) (i : Nat) (s : St), (∀ j o, l[j]? = some o → ops[i + j]? = some o) → runL Γ D n c ops i l s K → runC Γ D n c ops (List.range' i l.length) s K := by
  intro l
  induction l with
  | nil => intro i s _ h; exact h
  | cons o r ih =>
    intro i s ho h
    rw [List.length_cons, List.range'_succ, runC]
    have := ho 0 o rfl
    rw [Nat.add_zero] at this
    rw [this]
    refine stepG_mono (fun s' hs => ih (i + 1) s' (fun j o' hj => ?_) hs) h
    have := ho (j + 1) o' (by simpa using hj)
    rw [← this]; congr 1; omega

def TextA (Γ : Specs) (D : Types) (n : Nat) (ops : Array Oper) (s : St) (K : St → Prop) : Prop := runL Γ D n (fun _ _ => True) ops 0 ops.toList s K
def DrawA (Γ : Specs) (D : Types) (n : Nat) (ops : Array Oper) (s : St) (K : St → Prop) : Prop :=
  ∃ deps wr bad, edgesB ops deps = true ∧ pairsB ops deps wr bad = true ∧ runL Γ D n (bads wr bad) ops 0 ops.toList s K
def Br (b : Bool) (t e : Unit → Prop) : Prop := (b = true → t ()) ∧ (b = false → e ())
def CutA (cut : Bool) (s : St) (K : St → Prop) : Prop := if cut then ∃ s', LeS s s' ∧ K s' else K s
def LoopA (f : St → (St → Prop) → (Exit → St → Prop) → Prop) (s : St) (Q : Exit → St → Prop) : Prop :=
  ∃ (X : Type) (I : X → St) (μ : X → Nat) (x0 : X), LeS s (I x0) ∧ ∀ x, f (I x) (fun s' => ∃ y, μ y < μ x ∧ LeS s' (I y)) Q
def BlockA (id : Nat) (K : St → Prop) (Q : Exit → St → Prop) : Exit → St → Prop
  | .exit j, s => if j = id then K s else Q (.exit j) s
  | e, s => Q e s
def condA (v : AV) (t e : Unit → Prop) : Prop := match asB v with | some b => Br b t e | none => False

def awp (Γ : Specs) (D : Types) (n : Nat) (C : List Nat) : Code → St → (St → Prop) → (Exit → St → Prop) → Prop
  | .skip, s, K, _ => K s
  | .region id ops draw, s, K, _ => CutA (C.contains id) s fun s => if draw then DrawA Γ D n ops s K else TextA Γ D n ops s K
  | .seq x y, s, K, Q => awp Γ D n C x s (fun s' => awp Γ D n C y s' K Q) Q
  | .cond c x y, s, K, Q => condA (s.ev c) (fun _ => awp Γ D n C x s K Q) (fun _ => awp Γ D n C y s K Q)
  | .block id x, s, K, Q => awp Γ D n C x s K (BlockA id K Q)
  | .loop x, s, _, Q => LoopA (awp Γ D n C x) s Q
  | .exit id, s, _, Q => Q (.exit id) s
  | .ret, s, _, Q => Q .ret s
  | _, _, _, _ => False

def both (K : St → Prop) (Q : Exit → St → Prop) : Exit → St → Prop
  | .normal, s => K s
  | e, s => Q e s

theorem awp_sound (hA : Agrees P D) (hΓ : Specs.OK P Γ) (hm : P.follows .mixedOrders = true) {C : List Nat} (c : Code) : ∀ (s : St) (K : St → Prop) (Q : Exit → St → Prop), awp Γ D n C c s K Q → (∀ e s, Q e s → e ≠ .normal) →
    ∀ (a : Act) (w : World) (ρ : Names) (ok : Nat → Prop), Rl w0 ok0 F ρ0 n s a w ρ ok → c.wp P (fun e a' w' => Has w0 ok0 F ρ0 n (both K Q e) a' w') a w := by
  induction c with
  | skip => intro s K Q h _ a w ρ ok hR; exact wp_skip ⟨s, ρ, ok, h, hR⟩
  | region id ops draw =>
    intro s K Q h _ a w ρ ok hR
    rw [awp] at h
    have cut : ∃ s' ρ' ok', Rl w0 ok0 F ρ0 n s' a w ρ' ok' ∧ (if draw then DrawA Γ D n ops s' K else TextA Γ D n ops s' K) := by
      unfold CutA at h
      split at h
      · obtain ⟨s', hle, hK⟩ := h
        obtain ⟨ρ', ok', hR'⟩ := hle _ _ _ _ _ _ _ _ _ hR
        exact ⟨s', ρ', ok', hR', hK⟩
      · exact ⟨s, ρ, ok, hR, h⟩
    obtain ⟨s', ρ', ok', hR', h'⟩ := cut
    cases draw with
    | false =>
      simp only [Bool.false_eq_true, if_false] at h'
      refine wp_region (runC_text hA hΓ (c := fun _ _ => True) (K := K) (fun a w hh => hh) _ s' a w ρ' ok' ?_ hR')
      have := runL_runC (c := fun _ _ => True) ops.toList 0 s' (fun j o hj => by simpa using hj) h'
      rw [Array.length_toList] at this
      rw [List.range_eq_range']; exact this
    | true =>
      simp only [if_true] at h'
      obtain ⟨deps, wr, bad, hE, hP, h'⟩ := h'
      have hrun := runL_runC (c := bads wr bad) ops.toList 0 s' (fun j o hj => by simpa using hj) h'
      rw [Array.length_toList, ← List.range_eq_range'] at hrun
      have hresp : Resp fun s => ∃ s0, s0.eqv s ∧ K s0 := fun s1 s2 he ⟨s0, h1, h2⟩ => ⟨s0, h1.trans he, h2⟩
      refine wp_region_any hm (any_sound hA hΓ hE hP hresp ?_ _ _ (List.range ops.size) s' a _ ρ' ok' (by simp) List.pairwise_lt_range (by simp) (fun i => ?_) (fun j hj hjl => ?_) (runC_mono (fun s hs => ⟨s, .refl s, hs⟩) hrun) hR'.drawn)
      · rintro a w ⟨s1, ρ1, ok1, ⟨s0, he, hk⟩, hR1⟩
        exact ⟨s0, ρ1, ok1, hk, hR1.eqv he.symm⟩
      · rw [List.mem_range]
        constructor
        · intro hi; exact ⟨hi, by simp [Array.getD, hi]⟩
        · exact fun h => h.1
      · simp [Array.getD, hj] at hjl
  | seq x y ihx ihy =>
    intro s K Q h hq a w ρ ok hR
    rw [awp] at h
    refine wp_seq (wp_mono (ihx _ _ _ h hq a w ρ ok hR) ?_)
    rintro e a' w' ⟨s', ρ', ok', hb, hR'⟩
    cases e with
    | normal => exact ihy _ _ _ hb hq a' w' ρ' ok' hR'
    | _ => exact ⟨s', ρ', ok', hb, hR'⟩
  | cond c x y ihx ihy =>
    intro s K Q h hq a w ρ ok hR
    rw [awp] at h
    have hv := hR.ev c
    unfold condA at h
    split at h
    · rename_i b hb
      have hev : a.eval c = .bool b := by
        generalize s.ev c = av at hb hv
        generalize a.eval c = u at hv
        unfold asB at hb
        split at hb
        · cases hb; cases hv with
          | p _ _ hr => cases hr; rfl
        · cases hb
      refine wp_cond_split hev (fun ht => ihx _ _ _ (h.1 ht) hq a w ρ ok hR) (fun ht => ihy _ _ _ (h.2 ht) hq a w ρ ok hR)
    · exact h.elim
  | block id x ih =>
    intro s K Q h hq a w ρ ok hR
    rw [awp] at h
    refine wp_block (wp_mono (ih _ _ _ h ?_ a w ρ ok hR) ?_)
    · intro e s hb he
      subst he
      exact hq _ _ hb rfl
    · rintro e a' w' ⟨s', ρ', ok', hb, hR'⟩
      cases e with
      | exit j =>
        replace hb : BlockA id K Q (.exit j) s' := hb
        unfold BlockA at hb
        simp only at hb
        show Exit.inBlock id _ (.exit j) a' w'
        unfold Exit.inBlock
        simp only
        split at hb
        · rename_i he; rw [if_pos he]; exact ⟨s', ρ', ok', hb, hR'⟩
        · rename_i he; rw [if_neg he]; exact ⟨s', ρ', ok', hb, hR'⟩
      | _ => exact ⟨s', ρ', ok', hb, hR'⟩
  | loop x ih =>
    intro s K Q h hq a w ρ ok hR
    rw [awp] at h
    obtain ⟨X, I, μ, x0, hle, h⟩ := h
    obtain ⟨ρ', ok', hR'⟩ := hle _ _ _ _ _ _ _ _ _ hR
    refine wp_loop_ghost (fun k a w => ∃ y ρ ok, μ y = k ∧ Rl w0 ok0 F ρ0 n (I y) a w ρ ok) (μ x0) ⟨x0, ρ', ok', rfl, hR'⟩ ?_
    rintro k a w ⟨y, ρ, ok, rfl, hR⟩
    refine wp_mono (ih _ _ _ (h y) hq a w ρ ok hR) ?_
    rintro e a' w' ⟨s', ρ', ok', hb, hR'⟩
    cases e with
    | normal =>
      obtain ⟨z, hz, hle⟩ := hb
      obtain ⟨ρ2, ok2, hR2⟩ := hle _ _ _ _ _ _ _ _ _ hR'
      exact ⟨μ z, hz, z, ρ2, ok2, rfl, hR2⟩
    | _ => exact ⟨s', ρ', ok', hb, hR'⟩
  | exit id => intro s K Q h _ a w ρ ok hR; exact wp_exit ⟨s, ρ, ok, h, hR⟩
  | ret => intro s K Q h _ a w ρ ok hR; exact wp_ret ⟨s, ρ, ok, h, hR⟩
  | _ => intros; rename_i h _ _ _ _ _ _; exact h.elim
end
end Go.Aw
