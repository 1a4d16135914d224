/- Nil slices and nil maps read as empty ones: in results, in blocks. -/
import Derived.Test.YthiddkhonklbkaaAw30
set_option linter.unusedVariables false
set_option linter.unusedSimpArgs false
namespace Go.Aw
open Go

mutual
/-- What reads as the first reads as the second. -/
def leP : PV → PV → Prop
  | .c x, q => q = .c x ∨ (x = .slice none 0 0 ∧ ∃ sz, q = .fro sz []) ∨ (x = .map none ∧ q = .fmap [])
  | .agg xs, .agg ys => leL xs ys
  | .tup xs, .tup ys => leL xs ys
  | .fro n xs, .fro m ys => n = m ∧ leL xs ys
  | .fmap es, q => q = .fmap es
  | _, _ => False
def leL : List PV → List PV → Prop
  | [], [] => True
  | x :: xs, y :: ys => leP x y ∧ leL xs ys
  | _, _ => False
end
theorem leL_at {xs ys : List PV} (h : leL xs ys) : xs.length = ys.length ∧ ∀ (i : Nat) (y : PV), ys[i]? = some y → ∃ x, xs[i]? = some x ∧ leP x y := by
  induction xs generalizing ys with
  | nil => cases ys with
    | nil => exact ⟨rfl, fun i y h => by simp at h⟩
    | cons y r => rw [leL] at h; exact h.elim; all_goals (intros; contradiction)
  | cons x r ih => cases ys with
    | nil => rw [leL] at h; exact h.elim; all_goals (intros; contradiction)
    | cons y q =>
      rw [leL] at h
      obtain ⟨h1, h2⟩ := ih h.2
      refine ⟨by simp [h1], fun i z hz => ?_⟩
      cases i with
      | zero => simp at hz; subst hz; exact ⟨x, rfl, h.1⟩
      | succ i => exact h2 i z (by simpa using hz)
theorem leP_one {p q : PV} (h : leP p q) (h1 : p.one = true) : q.one = true := by
  cases p with
  | c x =>
    rw [leP] at h
    rcases h with rfl | ⟨_, sz, rfl⟩ | ⟨_, rfl⟩
    · exact h1
    · rfl
    · rfl
  | fro n xs => cases q <;> first | rfl | (simp [leP] at h)
  | fmap es => rw [leP] at h; subst h; rfl
  | agg xs => simp [PV.one] at h1
  | tup xs => simp [PV.one] at h1
theorem leL_append {a b c d : List PV} (h : leL a b) (h' : leL c d) : leL (a ++ c) (b ++ d) := by
  induction a generalizing b with
  | nil => cases b with
    | nil => exact h'
    | cons y q => rw [leL] at h; exact h.elim; all_goals (intros; contradiction)
  | cons x r ih => cases b with
    | nil => rw [leL] at h; exact h.elim; all_goals (intros; contradiction)
    | cons y q =>
      rw [leL] at h
      rw [List.cons_append, List.cons_append, leL]
      exact ⟨h.1, ih h.2⟩
theorem leP_cells {p q : PV} (h : leP p q) : leL p.cells q.cells := by
  cases p with
  | c x =>
    have h' := h
    rw [leP] at h
    rcases h with rfl | ⟨_, sz, rfl⟩ | ⟨_, rfl⟩ <;> (simp only [PV.cells_c, PV.cells_fro, PV.cells_fmap]; rw [leL, leL]; exact ⟨h', trivial⟩)
  | fro n xs =>
    cases q with
    | fro m ys => simp only [PV.cells_fro]; rw [leL, leL]; exact ⟨h, trivial⟩
    | _ => simp [leP] at h
  | fmap es =>
    have h' := h
    rw [leP] at h; subst h
    simp only [PV.cells_fmap]; rw [leL, leL]; exact ⟨h', trivial⟩
  | agg xs =>
    cases q with
    | agg ys => rw [leP] at h; exact h
    | _ => simp [leP] at h
  | tup xs =>
    cases q with
    | tup ys => show leL [.tup xs] [.tup ys]; rw [leL, leL]; exact ⟨h, trivial⟩
    | _ => simp [leP] at h
theorem leL_flat {xs ys : List PV} (h : leL xs ys) : leL (flat xs) (flat ys) := by
  induction xs generalizing ys with
  | nil => cases ys with
    | nil => rw [flat_nil, leL]; trivial
    | cons y q => rw [leL] at h; exact h.elim; all_goals (intros; contradiction)
  | cons x r ih => cases ys with
    | nil => rw [leL] at h; exact h.elim; all_goals (intros; contradiction)
    | cons y q =>
      rw [leL] at h
      rw [flat_cons, flat_cons]
      exact leL_append (leP_cells h.1) (ih h.2)
theorem leP_sound {w : World} {ok : Nat → Prop} {p q : PV} {v : Value} (h : leP p q) (hr : Rel w ok p v) : Rel w ok q v := by
  induction hr generalizing q with
  | c x =>
    rw [leP] at h
    rcases h with rfl | ⟨rfl, sz, rfl⟩ | ⟨rfl, rfl⟩
    · exact .c x
    · exact .fro sz [] none 0 [] (by simp) (by decide) (by simp) (by simp [flat]) (by simp) (fun i p u h => by simp [flat] at h) (fun h => by simp at h)
    · exact .fmapNil
  | agg xs us hl hh ih =>
    cases q with
    | agg ys =>
      rw [leP] at h
      obtain ⟨h1, h2⟩ := leL_at h
      refine .agg ys us (hl.trans h1) (fun i y u hy hu => ?_)
      obtain ⟨x, hx, hxy⟩ := h2 i y hy
      exact ih i x u hx hu hxy
    | _ => simp [leP] at h
  | tup xs us hl hh ih =>
    cases q with
    | tup ys =>
      rw [leP] at h
      obtain ⟨h1, h2⟩ := leL_at h
      refine .tup ys us (hl.trans h1) (fun i y u hy hu => ?_)
      obtain ⟨x, hx, hxy⟩ := h2 i y hy
      exact ih i x u hx hu hxy
    | _ => simp [leP] at h
  | fro sz xs A c us hc hm hsz hone hu hh hA ih =>
    cases q with
    | fro m ys =>
      rw [leP] at h
      obtain ⟨rfl, h⟩ := h
      obtain ⟨hl, hat⟩ := leL_at h
      obtain ⟨hlf, hatf⟩ := leL_at (leL_flat h)
      rw [hl]
      refine .fro sz ys A c us (by omega) hm (fun y hy => ?_) (fun p hp => ?_) (by rw [hu, hl]) (fun i y u hy hu' => ?_) (fun hp => hA (by omega))
      · obtain ⟨i, hi⟩ := List.getElem?_of_mem hy
        obtain ⟨x, hx, hxy⟩ := hat i y hi
        have := (leL_at (leP_cells hxy)).1
        rw [← this]
        exact hsz x (List.mem_of_getElem? hx)
      · obtain ⟨i, hi⟩ := List.getElem?_of_mem hp
        obtain ⟨x, hx, hxy⟩ := hatf i p hi
        exact leP_one hxy (hone x (List.mem_of_getElem? hx))
      · obtain ⟨x, hx, hxy⟩ := hatf i y hy
        exact ih i x u hx hu' hxy
    | _ => simp [leP] at h
  | fmapNil => rw [leP] at h; subst h; exact .fmapNil
  | fmap es g ents clock hg hok hl hk hh ih => rw [leP] at h; subst h; exact .fmap es g ents clock hg hok hl hk hh
mutual
theorem leP_refl : (p : PV) → leP p p
  | .c x => by rw [leP]; exact .inl rfl
  | .fro n xs => by rw [leP]; exact ⟨rfl, leL_refl xs⟩
  | .agg xs => by rw [leP]; exact leL_refl xs
  | .tup xs => by rw [leP]; exact leL_refl xs
  | .fmap es => by rw [leP]
theorem leL_refl : (xs : List PV) → leL xs xs
  | [] => by rw [leL]; trivial
  | x :: r => by rw [leL]; exact ⟨leP_refl x, leL_refl r⟩
end
theorem leP_same {p : PV} : leP p p = True := by simp [leP_refl]
theorem leP_nil {sz : Nat} : leP (.c (.slice none 0 0)) (.fro sz []) = True := by simp [leP]
theorem leP_map : leP (.c (.map none)) (.fmap []) = True := by simp [leP]
theorem leP_agg {xs ys : List PV} : leP (.agg xs) (.agg ys) = leL xs ys := by rw [leP]
theorem leP_tup {xs ys : List PV} : leP (.tup xs) (.tup ys) = leL xs ys := by rw [leP]
theorem leL_nil : leL [] [] = True := by rw [leL]
theorem leL_cons {x y : PV} {xs ys : List PV} : leL (x :: xs) (y :: ys) = (leP x y ∧ leL xs ys) := by rw [leL]
theorem leP_int {k : IntKind} {a b : Int} : leP (.c (.int k a)) (.c (.int k b)) = (a = b) := by
  simp [leP]; exact eq_comm
theorem leP_bool {a b : Bool} : leP (.c (.bool a)) (.c (.bool b)) = (a = b) := by
  simp [leP]; exact eq_comm
theorem leP_str {a b : List UInt8} : leP (.c (str a)) (.c (str b)) = (a = b) := by
  simp [leP, str]; exact eq_comm
theorem leP_fro {n m : Nat} {xs ys : List PV} : leP (.fro n xs) (.fro m ys) = (n = m ∧ leL xs ys) := by rw [leP]
theorem leL_same {xs : List PV} : leL xs xs = True := by simp [leL_refl]
theorem leP_fmap {xs ys : List (List UInt8 × PV)} : leP (.fmap xs) (.fmap ys) = (xs = ys) := by
  simp only [leP, PV.fmap.injEq, eq_iff_iff]; exact eq_comm
def leQ (X : PV) (q : PV) : Prop := leP q X
theorem leQ_eq {X q : PV} : leQ X q = leP q X := rfl

theorem AV.le.p {p q : PV} (h : leP p q) : AV.le (.p p) (.p q) := by
  intro w ρ ok v hv
  cases hv with
  | p _ _ hr => exact .p _ _ (leP_sound h hr)

theorem spec_w {P : Program} {D : Types} {Γ : Specs} (hA : Agrees P D) (hΓ : Specs.OK P Γ) (hm : P.follows .mixedOrders = true) (C : List Nat) {g : FuncId} {fn : Func} {c : Code} {n : Nat} (rs : List ResultVar) (hf : P.funcs[g]? = some fn) (hb : fn.body = some c) (hname : (fn.name == "runtime.NumGoroutine") = false)
    (hnt : fn.ntmps = n) (hrs : fn.results.toList = rs) {as : List AV} (hn : Nat.ble as.length n = true) {X : PV} (h : (∀ a ∈ as, GoodA a) → @Awp Γ D n C ⟨c⟩ (start as [] []) ⟨RetB D rs (leQ X)⟩ ⟨atRet (RetB D rs (leQ X))⟩) :
    ASpec P g [] [] as [] (fun r _ => ∃ q, r = .p q ∧ is X q) := by
  have h0 := spec_b hA hΓ hm C rs hf hb hname hnt hrs hn h
  refine ⟨h0.1, fun w ρ ok vals h1 h2 h3 h4 => (h0.2 w ρ ok vals h1 h2 h3 h4).mono ?_⟩
  rintro e w' ⟨v, r, H', ρ', ok', he, ⟨q, rfl, hq⟩, i1, i2, hv, rest⟩
  refine ⟨v, .p X, H', ρ', ok', he, ⟨X, rfl, rfl⟩, (fun i hi => by cases hi), i2, ?_, rest⟩
  cases hv with
  | p _ _ hr => exact .p _ _ (leP_sound hq hr)

/-- Cells of one block read as others. -/
def cellsLe : List AV → List AV → Prop
  | [], [] => True
  | x :: xs, y :: ys => x.le y ∧ y.one = true ∧ cellsLe xs ys
  | _, _ => False
theorem cellsLe_at {xs ys : List AV} (h : cellsLe xs ys) : xs.length = ys.length ∧ ∀ (i : Nat) (y : AV), ys[i]? = some y → y.one = true ∧ ∃ x, xs[i]? = some x ∧ x.le y := by
  induction xs generalizing ys with
  | nil => cases ys with
    | nil => exact ⟨rfl, fun i y h => by simp at h⟩
    | cons y r => exact h.elim
  | cons x r ih => cases ys with
    | nil => exact h.elim
    | cons y q =>
      obtain ⟨h1, h2⟩ := ih h.2.2
      refine ⟨by simp [h1], fun i z hz => ?_⟩
      cases i with
      | zero => simp at hz; subst hz; exact ⟨h.2.1, x, rfl, h.1⟩
      | succ i => exact h2 i z (by simpa using hz)
theorem LeS.weak {t : List (Nat × AV)} {H : Heap} {u : List Nat} (i : Nat) {ty : TypeId} {sz : Nat} {cs : List AV} (cs' : List AV) (hi : hlook H i = some (.row ty sz cs)) (hc : cellsLe cs cs') : LeS ⟨t, H, u⟩ ⟨t, (i, some (.row ty sz cs')) :: H, u⟩ := by
  intro w0 ok0 F ρ0 n a w ρ ok hR
  obtain ⟨hl, hat⟩ := cellsLe_at hc
  have hlk : ∀ j B, hlook ((i, some (.row ty sz cs')) :: H) j = some B → (j = i ∧ B = .row ty sz cs') ∨ hlook H j = some B := by
    intro j B hB
    rw [hlook_cons] at hB
    by_cases e : j = i
    · rw [if_pos e] at hB; cases hB; exact .inl ⟨e, rfl⟩
    · rw [if_neg e] at hB; exact .inr hB
  have hex : ∀ j B, hlook ((i, some (.row ty sz cs')) :: H) j = some B → ∃ C, hlook H j = some C := by
    intro j B hB
    rcases hlk j B hB with ⟨rfl, _⟩ | h
    · exact ⟨_, hi⟩
    · exact ⟨_, h⟩
  refine ⟨ρ, ok, hR.size, hR.defers, hR.tmp, ⟨fun j B hB => ?_, fun j B g hB hg hok => ?_, fun j l B B' g hB hB' hg hg' => ?_, hR.heap.lt⟩, hR.used, ?_, hR.kept, hR.oksub, hR.okn, hR.init⟩
  · rcases hlk j B hB with ⟨rfl, rfl⟩ | hB
    · rcases hR.heap.blk j _ hi with ⟨h1, rfl⟩ | ⟨g, cur, h1, h2, h3, h4, h5⟩
      · cases cs' with
        | nil => exact .inl ⟨h1, rfl⟩
        | cons y q => exact hc.elim
      · refine .inr ⟨g, cur, h1, h2, by omega, fun a ha => ?_, fun k a u ha hu => ?_⟩
        · obtain ⟨k, hk⟩ := List.getElem?_of_mem ha
          exact (hat k a hk).1
        · obtain ⟨_, x, hx, hle⟩ := hat k a ha
          exact hle _ _ _ _ (h5 k x u hx hu)
    · exact hR.heap.blk j B hB
  · obtain ⟨C, hC⟩ := hex j B hB
    exact hR.heap.away j C g hC hg hok
  · obtain ⟨C, hC⟩ := hex j B hB
    obtain ⟨C', hC'⟩ := hex l B' hB'
    exact hR.heap.inj j l C C' g hC hC' hg hg'
  · rintro b ⟨j, B, hB, hb⟩
    obtain ⟨C, hC⟩ := hex j B hB
    exact hR.home b ⟨j, C, hC, hb⟩
theorem cellsLe_append {a b c d : List AV} (h : cellsLe a b) (h' : cellsLe c d) : cellsLe (a ++ c) (b ++ d) := by
  induction a generalizing b with
  | nil => cases b with
    | nil => exact h'
    | cons y q => exact h.elim
  | cons x r ih => cases b with
    | nil => exact h.elim
    | cons y q => exact ⟨h.1, h.2.1, ih h.2.2⟩
theorem cellsLe_refl {a : List AV} (h : ∀ x ∈ a, x.one = true) : cellsLe a a := by
  induction a with
  | nil => trivial
  | cons x r ih => exact ⟨.refl x, h x (by simp), ih (fun y hy => h y (by simp [hy]))⟩
theorem le_p_iff {p q : PV} (h : leP p q) : AV.le (.p p) (.p q) = True := by simp [AV.le.p h]
attribute [go_sem] leL_same leP_same leP_nil leP_map leP_agg leP_tup leL_nil leL_cons leP_int leP_bool leP_str leP_fro leP_fmap leQ_eq cellsLe le_p_iff
end Go.Aw
