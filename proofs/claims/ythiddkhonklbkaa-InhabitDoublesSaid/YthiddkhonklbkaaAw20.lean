/- What a function hands back; its contract out of its code. -/
import Derived.Test.YthiddkhonklbkaaAw19
set_option linter.unusedVariables false
set_option linter.unusedSimpArgs false
namespace Go.Aw
open Go

def resF (D : Types) (s : St) : ResultVar → Option AV
  | .tmp t => some (s.get t)
  | .cell a t => loadF D t (s.get a) (hlook s.H)
def retF (D : Types) (rs : List ResultVar) (s : St) : Option AV := (optAll (rs.map (resF D s))).map fun vs => match vs with | [v] => v | vs => mktup vs

section
variable {P : Program} {D : Types} {w0 w : World} {ok0 F : Nat → Prop} {ρ0 : Names} {n : Nat} {s : St} {a : Act} {ρ : Names} {ok : Nat → Prop} {Γ : Specs}

theorem loadVar_of (hA : Agrees P D) (hH : HeapOK w ρ ok s.H) {t : TypeId} {x : AV} {u : Value} {out : AV} (hx : AVRel w ρ ok x u) (h : loadF D t x (hlook s.H) = some out) :
    ∃ r, (do loadVar t (← asAddr u) : Sem Value).run P w = .ok r w ∧ AVRel w ρ ok out r := by
  obtain ⟨r, hr, hv⟩ := load_sound hA hH hx h
  refine ⟨r, ?_, hv⟩
  have : ∃ ad, u = .pointer (some ad) := by
    unfold loadF at h
    rw [Option.bind_eq_some_iff] at h
    obtain ⟨i, _, h⟩ := h
    split at h
    · cases hx; exact ⟨_, rfl⟩
    · cases hx; exact ⟨_, rfl⟩
    · cases h
  obtain ⟨ad, rfl⟩ := this
  simpa [Instr.loadAt, Instr.sureAddr, asAddr] using hr

def readR (tmps : Array Value) (x : ResultVar) : Sem Value := match x with
  | .tmp t => pure (tmps.getD t undef)
  | .cell b t => do loadVar t (← asAddr (tmps.getD b undef))
theorem results_eq (fn : Func) (tmps : Array Value) : results fn tmps = (do
  let vs ← fn.results.mapM (readR tmps)
  pure (if h : vs.size = 1 then vs[0] else .tuple vs)) := rfl

theorem results_list (hA : Agrees P D) (hR : Rl w0 ok0 F ρ0 n s a w ρ ok) : ∀ (l : List ResultVar) (vs : List AV), optAll (l.map (resF D s)) = some vs →
    ∃ us : List Value, (l.mapM (readR a.tmps)).run P w = .ok us w ∧ us.length = vs.length ∧
      ∀ (i : Nat) (x : AV) (u : Value), vs[i]? = some x → us[i]? = some u → AVRel w ρ ok x u := by
  intro l
  induction l with
  | nil =>
    intro vs h
    simp [optAll] at h; subst h
    exact ⟨[], rfl, rfl, fun i x u h => by simp at h⟩
  | cons x r ih =>
    intro vs h
    rw [List.map_cons] at h
    cases hx : resF D s x with
    | none => rw [hx] at h; simp [optAll] at h
    | some v =>
      rw [hx, optAll, Option.map_eq_some_iff] at h
      obtain ⟨vs', hvs, rfl⟩ := h
      obtain ⟨us, hus, hl, hat⟩ := ih vs' hvs
      have h1 : ∃ u, (readR a.tmps x).run P w = .ok u w ∧ AVRel w ρ ok v u := by
        cases x with
        | tmp t => simp only [resF, Option.some.injEq] at hx; subst hx; exact ⟨_, rfl, hR.tmp t⟩
        | cell b t => exact loadVar_of hA hR.heap (hR.tmp b) hx
      obtain ⟨u, hu, huv⟩ := h1
      refine ⟨u :: us, ?_, by simp [hl], fun i y z hy hz => ?_⟩
      · rw [List.mapM_cons]
        simp [hu, hus]
      · cases i with
        | zero => simp at hy hz; subst hy; subst hz; exact huv
        | succ i => exact hat i y z (by simpa using hy) (by simpa using hz)

theorem ret_sound (hA : Agrees P D) (hR : Rl w0 ok0 F ρ0 n s a w ρ ok) {fn : Func} {r : AV} (h : retF D fn.results.toList s = some r) : ∃ v, (results fn a.tmps).run P w = .ok v w ∧ AVRel w ρ ok r v := by
  unfold retF at h
  rw [Option.map_eq_some_iff] at h
  obtain ⟨vs, hvs, rfl⟩ := h
  obtain ⟨us, hus, hl, hat⟩ := results_list hA hR _ vs hvs
  rw [results_eq, Array.mapM_eq_mapM_toList]
  cases us with
  | nil =>
    cases vs with
    | nil => exact ⟨.tuple #[], by simp [hus], AVRel.mktup (us := #[]) rfl (fun i x u h => by simp at h)⟩
    | cons v r => simp at hl
  | cons u us =>
    cases us with
    | nil =>
      cases vs with
      | nil => simp at hl
      | cons v r =>
        cases r with
        | nil => exact ⟨u, by simp [hus], hat 0 v u rfl rfl⟩
        | cons _ _ => simp at hl
    | cons u' us =>
      cases vs with
      | nil => simp at hl
      | cons v r =>
        cases r with
        | nil => simp at hl
        | cons v' r =>
          refine ⟨.tuple (u :: u' :: us).toArray, by simp [hus], ?_⟩
          exact AVRel.mktup (by simpa using hl) (fun i x u hx hu => hat i x u hx (by simpa using hu))

/-! ### contracts -/
/-- Something reads so somewhere. -/
def GoodA (a : AV) : Prop := ∃ w ρ ok v, AVRel w ρ ok a v
def Good (p : PV) : Prop := ∃ w ok v, Rel w ok p v
theorem GoodA.p {p : PV} (h : GoodA (.p p)) : Good p := by
  obtain ⟨w, ρ, ok, v, h⟩ := h
  cases h with
  | p _ _ h => exact ⟨w, ok, v, h⟩
theorem Good.agg {xs : List PV} (h : Good (.agg xs)) : ∀ x ∈ xs, Good x := by
  obtain ⟨w, ok, v, h⟩ := h
  intro x hx
  cases h with
  | agg _ us hl h =>
    obtain ⟨i, hi⟩ := List.getElem?_of_mem hx
    have hlt := (List.getElem?_eq_some_iff.1 hi).1
    exact ⟨w, ok, _, h i x us[i] hi (Array.getElem?_eq_getElem (by omega))⟩
theorem Good.fro {sz : Nat} {xs : List PV} (h : Good (.fro sz xs)) : xs.length ≤ 9223372036854775807 ∧ ∀ x ∈ flat xs, Good x := by
  obtain ⟨w, ok, v, h⟩ := h
  cases h with
  | fro _ _ A c us hc hm hsz hone hu h hA =>
    refine ⟨by have : maxLen = 9223372036854775807 := rfl; omega, fun x hx => ?_⟩
    obtain ⟨i, hi⟩ := List.getElem?_of_mem hx
    have hlt := (List.getElem?_eq_some_iff.1 hi).1
    have hfl := flat_length hsz
    exact ⟨w, ok, _, h i x us[i] hi (List.getElem?_eq_getElem (by omega))⟩
theorem good_all {w : World} {ρ : Names} {ok : Nat → Prop} {as : List AV} {vals : Array Value} (hl : vals.size = as.length) (hv : ∀ (i : Nat) (a : AV) (v : Value), as[i]? = some a → vals[i]? = some v → AVRel w ρ ok a v) : ∀ a ∈ as, GoodA a := by
  intro a ha
  obtain ⟨i, hi⟩ := List.getElem?_of_mem ha
  have hlt := (List.getElem?_eq_some_iff.1 hi).1
  exact ⟨w, ρ, ok, _, hv i a vals[i] hi (Array.getElem?_eq_getElem (by omega))⟩

def initT : Nat → List AV → List (Nat × AV)
  | _, [] => []
  | k, x :: r => (k, x) :: initT (k + 1) r
theorem look_initT (k : Nat) (l : List AV) (i : Nat) : look (initT k l) i = if k ≤ i then l[i - k]? else none := by
  induction l generalizing k with
  | nil => simp [initT]
  | cons x r ih =>
    rw [initT, look_cons, ih]
    by_cases e : i = k
    · subst e; simp
    · rw [if_neg e]
      by_cases hk : k ≤ i
      · rw [if_pos (by omega), if_pos hk]
        obtain ⟨m, rfl⟩ : ∃ m, i = k + 1 + m := ⟨i - (k + 1), by omega⟩
        have e1 : k + 1 + m - k = m + 1 := by omega
        have e2 : k + 1 + m - (k + 1) = m := by omega
        rw [e1, e2, List.getElem?_cons_succ]
      · rw [if_neg (by omega), if_neg hk]
def start (as : List AV) (H : Heap) (I : List Nat) : St := ⟨initT 0 as, H, I⟩

theorem Rl.begin {H : Heap} {I : List Nat} {as : List AV} {vals : Array Value} {n : Nat} (hn : as.length ≤ n) (hI : ∀ i ∈ I, i < 100) (hH : HeapOK w ρ ok H) (hρ : ∀ id x, ρ id = some x → id ∈ I) (hl : vals.size = as.length)
    (hv : ∀ (i : Nat) (a : AV) (v : Value), as[i]? = some a → vals[i]? = some v → AVRel w ρ ok a v) :
    Rl w ok (Own ρ H) ρ n (start as H I) { tmps := vals ++ Array.replicate (n - vals.size) undef, defers := [] } w ρ ok := by
  refine ⟨by simp; omega, rfl, fun i => ?_, hH, hρ, fun b hb => .inl hb, Kept.refl _ _, fun b hb => hb, fun b hb => .inl hb, fun id x hx => ⟨hI id (hρ id x hx), hx⟩⟩
  unfold St.get start
  simp only [look_initT, Nat.zero_le, if_true, Nat.sub_zero]
  cases hi : as[i]? with
  | none => exact .junk _
  | some a =>
    have hlt : i < as.length := (List.getElem?_eq_some_iff.1 hi).1
    have hlt' : i < vals.size := by omega
    have : (vals ++ Array.replicate (n - vals.size) undef).getD i undef = vals[i] := by
      rw [Array.getD_eq_getD_getElem?, Array.getElem?_append_left hlt', Array.getElem?_eq_getElem hlt']; rfl
    rw [this]
    exact hv i a _ hi (Array.getElem?_eq_getElem hlt')

/-- The result, with all that it leads to. -/
def RetB (D : Types) (rs : List ResultVar) (Q : PV → Prop) (s : St) : Prop := match retF D rs s with
  | none => False
  | some r => match snap D (hlook s.H) 8 r with
    | none => False
    | some q => Q q
/-- The result and memory, by names below N. -/
def RetS (D : Types) (rs : List ResultVar) (N : Nat) (Q : AV → Heap → Prop) (s : St) : Prop := ∃ s', LeS s s' ∧ match retF D rs s' with
  | none => False
  | some r => (∀ i ∈ r.ids, i < N) ∧ (∀ i B, hlook s'.H i = some B → i < N ∧ ∀ j ∈ B.ids, j < N) ∧ Q r s'.H
def atRet (K : St → Prop) : Exit → St → Prop := fun e s => e = .ret ∧ K s

theorem body_post (hA : Agrees P D) {fn : Func} {K : St → Prop} {R : Ending → World → Prop} {c : Code} {a : Act} {w : World}
    (h : c.wp P (fun e a' w' => Has w0 ok0 F ρ0 n (both K (atRet K) e) a' w') a w) (hK : ∀ s a w ρ ok, K s → Rl w0 ok0 F ρ0 n s a w ρ ok → ∃ v, (results fn a.tmps).run P w = .ok v w ∧ R (.returned v) w) :
    c.wp P (bodyPost P fn R) a w := by
  refine wp_mono h ?_
  rintro e a' w' ⟨s', ρ', ok', hb, hR⟩
  cases e with
  | normal => exact ⟨hR.defers, hK s' a' w' ρ' ok' hb hR⟩
  | ret => exact ⟨hR.defers, hK s' a' w' ρ' ok' hb.2 hR⟩
  | _ => exact absurd hb.1 (by simp)

theorem aspec_b (hA : Agrees P D) (hΓ : Specs.OK P Γ) (hm : P.follows .mixedOrders = true) (C : List Nat) {g : FuncId} {fn : Func} {c : Code} (hf : P.funcs[g]? = some fn) (hb : fn.body = some c) (hname : (fn.name == "runtime.NumGoroutine") = false)
    {as : List AV} (hn : as.length ≤ fn.ntmps) {Q : PV → Prop} (h : (∀ a ∈ as, GoodA a) → awp Γ D fn.ntmps C c (start as [] []) (RetB D fn.results.toList Q) (atRet (RetB D fn.results.toList Q))) :
    ASpec P g [] [] as [] (fun r _ => ∃ q, r = .p q ∧ Q q) := by
  refine ⟨⟨fn, hf, by rw [hb]; rfl, hname⟩, fun w ρ ok vals hH hρ hl hv => calls_of_wp hf hb ?_⟩
  refine body_post hA (awp_sound hA hΓ hm c _ _ _ (h (good_all hl hv)) (fun e s hq he => by subst he; exact absurd hq.1 (by simp)) _ _ _ _ (Rl.begin hn (fun i hi => by cases hi) hH hρ hl hv)) ?_
  intro s a w' ρ' ok' hK hR
  unfold RetB at hK
  split at hK
  · exact hK.elim
  · rename_i r hr
    split at hK
    · exact hK.elim
    · rename_i q hq
      obtain ⟨v, hrun, hrv⟩ := ret_sound hA hR hr
      refine ⟨v, hrun, v, .p q, [], fun _ => none, fun b => ok' b ∨ Own ρ' s.H b, rfl, ⟨q, rfl, hK⟩, (fun i hi => by cases hi), (fun i B h => by simp at h), .p _ _ (snap_sound hA hR.heap (fun _ _ h => h) hq hrv), ?_, ?_, ?_, ?_, ?_, ?_, ?_⟩
      · refine ⟨fun id B h => by simp at h, fun id B g h => by simp at h, fun id id' B B' g h => by simp at h, fun b hb => ?_⟩
        rcases hb with hb | ⟨id, B, h1, h2⟩
        · exact hR.heap.lt b hb
        · exact (hR.heap.blk id B h1).lt b h2
      · exact hR.kept
      · intro id x hx; exact absurd (hρ id x hx) (by simp)
      · intro id x hx; cases hx
      · intro b hb; exact .inl (hR.oksub b hb)
      · rintro b (hb | hb)
        · exact hR.okn b hb
        · rcases hR.home b hb with h | h
          · exact .inr (.inr h)
          · exact .inr (.inl h)
      · rintro b ⟨id, B, h, _⟩; simp at h

theorem aspec_s (hA : Agrees P D) (hΓ : Specs.OK P Γ) (hm : P.follows .mixedOrders = true) (C : List Nat) {g : FuncId} {fn : Func} {c : Code} (hf : P.funcs[g]? = some fn) (hb : fn.body = some c) (hname : (fn.name == "runtime.NumGoroutine") = false)
    {as : List AV} {H : Heap} {nR : Nat} (hN : H.length + nR ≤ 100) (hn : as.length ≤ fn.ntmps) {Q : AV → Heap → Prop} (h : (∀ a ∈ as, GoodA a) → awp Γ D fn.ntmps C c (start as H (List.range H.length)) (RetS D fn.results.toList (H.length + nR) Q) (atRet (RetS D fn.results.toList (H.length + nR) Q))) :
    ASpec P g (List.range H.length) ((List.range nR).map (H.length + ·)) as H Q := by
  refine ⟨⟨fn, hf, by rw [hb]; rfl, hname⟩, fun w ρ ok vals hH hρ hl hv => calls_of_wp hf hb ?_⟩
  refine body_post hA (awp_sound hA hΓ hm c _ _ _ (h (good_all hl hv)) (fun e s hq he => by subst he; exact absurd hq.1 (by simp)) _ _ _ _ (Rl.begin hn (fun i hi => by rw [List.mem_range] at hi; omega) hH hρ hl hv)) ?_
  intro s a w' ρ1 ok1 ⟨s', hle, hK⟩ hR1
  obtain ⟨ρ', ok', hR⟩ := hle _ _ _ _ _ _ _ _ _ hR1
  split at hK
  · exact hK.elim
  · rename_i r hr
    obtain ⟨hrid, hHid, hQ⟩ := hK
    obtain ⟨v, hrun, hrv⟩ := ret_sound hA hR hr
    have mem : ∀ i, i ∈ List.range H.length ++ (List.range nR).map (H.length + ·) ↔ i < H.length + nR := by
      intro i
      rw [← List.range_add, List.mem_range]
    let ρ2 : Names := fun i => if i < H.length + nR then ρ' i else none
    have h2 : ∀ i x, ρ2 i = some x → i < H.length + nR ∧ ρ' i = some x := by
      intro i x hx
      by_cases hi : i < H.length + nR
      · simp only [ρ2, hi, if_true] at hx; exact ⟨hi, hx⟩
      · simp [ρ2, hi] at hx
    have h3 : ∀ i, i < H.length + nR → ∀ x, ρ' i = some x → ρ2 i = some x := by
      intro i hi x hx; simp only [ρ2, hi, if_true]; exact hx
    have renid : ∀ (x : AV), x.ren id = x := fun x => by
      have := ren_ren (f := id) (g := id) x (fun _ _ => rfl)
      have e : ∀ y : AV, y.ren id = y := by
        intro y
        induction y using AV.rec (motive_2 := fun xs => AV.renL id xs = xs) with
        | agg xs ih => rw [AV.ren, ih]
        | tup xs ih => rw [AV.ren, ih]
        | fn f a b iha ihb => rw [AV.ren, iha, ihb]
        | nil => rfl
        | cons x xs ihx ihxs => rw [AV.renL, ihx, ihxs]
        | _ => rfl
      exact e x
    have brenid : ∀ (B : Blk), B.ren id = B := by
      intro B; cases B with
      | row ty sz cs => rw [Blk.ren, renL_map, List.map_congr_left (g := id) (fun x _ => renid x), List.map_id]
      | map es => rfl
    refine ⟨v, hrun, v, r, s'.H, ρ2, ok', rfl, hQ, fun i hi => (mem i).2 (hrid i hi), fun i B h => ⟨(mem i).2 (hHid i B h).1, fun j hj => (mem j).2 ((hHid i B h).2 j hj)⟩, ?_, ?_, ?_, ?_, ?_, ?_, ?_, ?_⟩
    · have := hrv.ren (ρ' := ρ2) (f := id) (fun i hi x hx => h3 i (hrid i hi) x hx)
      rwa [renid] at this
    · refine ⟨fun i B hB => ?_, fun i B g hB hg hok => hR.heap.away i B g hB (h2 i _ hg).2 hok, fun i j B B' g hB hB' hg hg' => hR.heap.inj i j B B' g hB hB' (h2 i _ hg).2 (h2 j _ hg').2, hR.heap.lt⟩
      have := (hR.heap.blk i B hB).ren (ρ' := ρ2) (f := id) (fun x hx => h3 i (hHid i B hB).1 x hx) (fun j hj x hx => h3 j ((hHid i B hB).2 j hj) x hx)
      rwa [brenid] at this
    · exact hR.kept
    · intro id x hx
      exact h3 id (by have := hρ id x hx; rw [List.mem_range] at this; omega) x (hR.init id x hx).2
    · intro id x hx
      have := (mem id).2 (h2 id x hx).1
      exact List.mem_append.1 this
    · exact hR.oksub
    · exact hR.okn
    · rintro b ⟨i, B, hB, hb⟩
      rcases hR.home b ⟨i, B, hB, (h2 i _ hb).2⟩ with h | h
      · exact .inl h
      · exact .inr h
end
end Go.Aw
