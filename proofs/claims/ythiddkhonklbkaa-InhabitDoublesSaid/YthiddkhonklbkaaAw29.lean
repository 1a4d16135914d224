/- States that say less: several names at once; a slot's slice that is nil by a name. -/
import Derived.Test.YthiddkhonklbkaaAw28
set_option linter.unusedVariables false
set_option linter.unusedSimpArgs false
namespace Go.Aw
open Go

def fN (fm : List (Nat × Nat)) (k : Nat) : Nat := (look fm k).getD k
/-- Every entry of the second is, by other names, what the first says (or nothing). -/
def subV (H : Heap) (f : Nat → Nat) : Heap → Prop
  | [] => True
  | (i, B) :: r => (B = none ∨ hlook H (f i) = B.map (Blk.ren f)) ∧ subV H f r
theorem subV_look {H H' : Heap} {f : Nat → Nat} (h : subV H f H') {i : Nat} {B : Blk} (hB : hlook H' i = some B) : hlook H (f i) = some (B.ren f) := by
  induction H' with
  | nil => simp at hB
  | cons p r ih =>
    obtain ⟨k, C⟩ := p
    rw [hlook_cons] at hB
    by_cases e : i = k
    · subst e; rw [if_pos rfl] at hB; subst hB
      rcases h.1 with h | h
      · cases h
      · exact h
    · rw [if_neg e] at hB; exact ih h.2 hB
def injB (f : Nat → Nat) : List Nat → Bool
  | [] => true
  | x :: r => outB [f x] (r.map f) && injB f r
theorem injB_spec {f : Nat → Nat} {l : List Nat} (h : injB f l = true) : ∀ x ∈ l, ∀ y ∈ l, f x = f y → x = y := by
  induction l with
  | nil => intro x hx; cases hx
  | cons z r ih =>
    simp only [injB, Bool.and_eq_true] at h
    have hz := outB_spec h.1
    intro x hx y hy e
    rcases List.mem_cons.1 hx with hx1 | hx1
    · rcases List.mem_cons.1 hy with hy1 | hy1
      · rw [hx1, hy1]
      · subst hx1
        exact absurd (List.mem_singleton.2 e.symm) (hz _ (List.mem_map_of_mem hy1))
    · rcases List.mem_cons.1 hy with hy1 | hy1
      · subst hy1
        exact absurd (List.mem_singleton.2 e) (hz _ (List.mem_map_of_mem hx1))
      · exact ih h.2 x hx1 y hy1 e
/-- No name below 100 that is used is turned. -/
def bigB (u : List Nat) : List (Nat × Nat) → Bool
  | [] => true
  | p :: r => (!Nat.blt p.1 100 || outB u [p.1]) && bigB u r
theorem fN_low {u : List Nat} {fm : List (Nat × Nat)} (h : bigB u fm = true) {k : Nat} (hk : k < 100) (hu : k ∈ u) : fN fm k = k := by
  induction fm with
  | nil => rfl
  | cons p r ih =>
    obtain ⟨a, b⟩ := p
    simp only [bigB, Bool.and_eq_true, Bool.or_eq_true, Bool.not_eq_true'] at h
    have : k ≠ a := by
      intro e; subst e
      rcases h.1 with h1 | h1
      · have : Nat.blt k 100 = true := by simpa [Nat.blt_eq] using hk
        rw [this] at h1; cases h1
      · exact outB_spec h1 k (by simp) hu
    unfold fN
    rw [look_cons, if_neg this]
    exact ih h.2

def liveH : Heap → List Nat
  | [] => []
  | (i, some _) :: r => i :: liveH r
  | (_, none) :: r => liveH r
theorem liveH_mem {H : Heap} {i : Nat} {B : Blk} (h : hlook H i = some B) : i ∈ liveH H := by
  induction H with
  | nil => simp at h
  | cons p r ih =>
    obtain ⟨k, C⟩ := p
    rw [hlook_cons] at h
    by_cases e : i = k
    · subst e; rw [if_pos rfl] at h; subst h; simp [liveH]
    · rw [if_neg e] at h
      cases C with
      | none => exact ih h
      | some C => rw [liveH]; exact List.mem_cons_of_mem _ (ih h)
theorem LeS.via (fm : List (Nat × Nat)) {t t' : List (Nat × AV)} {H H' : Heap} {u u' : List Nat} (ht : subT t (renT (fN fm) t')) (hH : subV H (fN fm) H') (h1 : inB u' (idsT t') = true) (h2 : inB u' (idsH H') = true) (hf : injB (fN fm) (liveH H') = true) (h0 : bigB u fm = true) (h3 : keepB u u' = true) : LeS ⟨t, H, u⟩ ⟨t', H', u'⟩ := by
  intro w0 ok0 F ρ0 n a w ρ ok hR
  let ρ' : Names := fun i => if i ∈ u' then ρ (fN fm i) else none
  have hin : ∀ i, i ∈ u' → ρ' i = ρ (fN fm i) := fun i hi => by simp [ρ', hi]
  have hof : ∀ i x, ρ' i = some x → ρ (fN fm i) = some x ∧ i ∈ u' := by
    intro i x h
    by_cases hi : i ∈ u'
    · rw [hin i hi] at h; exact ⟨h, hi⟩
    · simp [ρ', hi] at h
  have hto : ∀ i, i ∈ u' → ∀ x, ρ (fN fm i) = some x → ρ' i = some x := fun i hi x hx => by rw [hin i hi]; exact hx
  have i1 := inB_spec h1
  have i2 := inB_spec h2
  refine ⟨ρ', ok, hR.size, hR.defers, fun i => ?_, ⟨fun i B hB => ?_, fun i B g hB hg hok => ?_, fun i j B B' g hB hB' hg hg' => ?_, hR.heap.lt⟩, fun i x hx => (hof i x hx).2, ?_, hR.kept, hR.oksub, hR.okn, fun i x hx => ?_⟩
  · have := subT_look ht i _ _ _ _ (hR.tmp i)
    rw [renT_look] at this
    exact this.unren (fun m hm => hto m (i1 m (idsT_mem hm)))
  · have hb := hR.heap.blk (fN fm i) _ (subV_look hH hB)
    exact hb.unren (hto i (i2 i (idsH_mem hB).1)) (fun m hm => hto m (i2 m ((idsH_mem hB).2 m hm)))
  · exact hR.heap.away _ _ g (subV_look hH hB) (hof i _ hg).1 hok
  · have := hR.heap.inj _ _ _ _ g (subV_look hH hB) (subV_look hH hB') (hof i _ hg).1 (hof j _ hg').1
    exact injB_spec hf i (liveH_mem hB) j (liveH_mem hB') this
  · rintro b ⟨i, B, hB, hb⟩
    exact hR.home b ⟨fN fm i, _, subV_look hH hB, (hof i _ hb).1⟩
  · obtain ⟨hlt, hx'⟩ := hR.init i x hx
    have e := fN_low h0 hlt (hR.used i x hx')
    refine ⟨hlt, hto i ?_ x (by rw [e]; exact hx')⟩
    unfold keepB at h3
    rw [List.all_eq_true] at h3
    have := h3 i (hR.used i x hx')
    simp only [Bool.or_eq_true, Bool.not_eq_true', List.contains_iff_mem] at this
    rcases this with h | h
    · exfalso
      have : Nat.blt i 100 = true := by simpa [Nat.blt_eq] using hlt
      rw [h] at this; cases this
    · exact h

/-- Slot k (a slice that is nil) is named i. -/
theorem LeS.nilT {t : List (Nat × AV)} {H : Heap} {u : List Nat} (k i : Nat) (e : TypeId) (sz : Nat) (hk : look t k = some (.p (.c (.slice none 0 0)))) (hi : u.contains i = false) :
    LeS ⟨t, H, u⟩ ⟨(k, .sl i sz 0 0) :: t, (i, some (.row e sz [])) :: H, i :: u⟩ := by
  intro w0 ok0 F ρ0 n a w ρ ok hR
  have hiu : i ∉ u := by simpa using hi
  obtain ⟨hρi, hHi⟩ := hR.fresh hiu
  let ρ' : Names := fun j => if j = i then some none else ρ j
  have hto : ∀ j x, ρ j = some x → ρ' j = some x := by
    intro j x hx
    have : j ≠ i := by intro e'; subst e'; rw [hρi] at hx; cases hx
    simp [ρ', this, hx]
  have up : ∀ {a : AV} {v : Value}, AVRel w ρ ok a v → AVRel w ρ' ok a v := fun hv => hv.mono hto (fun _ h => h) (Kept.refl w fun _ => False) (fun _ _ h => h)
  have hof : ∀ j g, ρ' j = some (some g) → ρ j = some (some g) := by
    intro j g hg
    by_cases e' : j = i
    · simp [ρ', e'] at hg
    · simpa [ρ', e'] using hg
  have hlk : ∀ j B, hlook ((i, some (.row e sz [])) :: H) j = some B → (j = i ∧ B = .row e sz []) ∨ hlook H j = some B := by
    intro j B hB
    rw [hlook_cons] at hB
    by_cases e2 : j = i
    · rw [if_pos e2] at hB; cases hB; exact .inl ⟨e2, rfl⟩
    · rw [if_neg e2] at hB; exact .inr hB
  have hreal : ∀ j B g, hlook ((i, some (.row e sz [])) :: H) j = some B → ρ' j = some (some g) → hlook H j = some B := by
    intro j B g hB hg
    rcases hlk j B hB with ⟨rfl, _⟩ | h
    · simp [ρ'] at hg
    · exact h
  refine ⟨ρ', ok, hR.size, hR.defers, fun j => ?_, ⟨fun j B hB => ?_, fun j B g hB hg hok => ?_, fun j l B B' g hB hB' hg hg' => ?_, hR.heap.lt⟩, fun j x hx => ?_, ?_, hR.kept, hR.oksub, hR.okn, fun j x hx => ?_⟩
  · have h := hR.tmp j
    by_cases e' : j = k
    · subst e'
      have e1 : St.get ⟨t, H, u⟩ j = .p (.c (.slice none 0 0)) := by rw [St.get, hk]; rfl
      have e2 : St.get ⟨(j, .sl i sz 0 0) :: t, (i, some (.row e sz [])) :: H, i :: u⟩ j = .sl i sz 0 0 := by simp [St.get, look_cons]
      rw [e1] at h; rw [e2]
      generalize a.tmps.getD j undef = v at h
      cases h with
      | p _ _ hr => cases hr with
        | c x => exact .sl i sz 0 0 none 0 (Nat.le_refl _) (by decide) (.inl ⟨rfl, rfl, rfl, by simp [ρ']⟩)
    · have e2 : St.get ⟨(k, .sl i sz 0 0) :: t, (i, some (.row e sz [])) :: H, i :: u⟩ j = St.get ⟨t, H, u⟩ j := by simp [St.get, look_cons, e']
      rw [e2]; exact up h
  · rcases hlk j B hB with ⟨rfl, rfl⟩ | hB
    · exact .inl ⟨by simp [ρ'], rfl⟩
    · exact (hR.heap.blk j B hB).mono hto (fun _ h => h) (Kept.refl w fun _ => False) (fun _ _ h => h) (fun _ _ h => h)
  · exact hR.heap.away j B g (hreal j B g hB hg) (hof j g hg) hok
  · exact hR.heap.inj j l B B' g (hreal j B g hB hg) (hreal l B' g hB' hg') (hof j g hg) (hof l g hg')
  · by_cases e' : j = i
    · simp [e']
    · simp only [ρ', e', if_false] at hx
      exact List.mem_cons_of_mem _ (hR.used j x hx)
  · rintro b ⟨j, B, hB, hb⟩
    exact hR.home b ⟨j, B, hreal j B b hB hb, hof j b hb⟩
  · obtain ⟨hlt, hx'⟩ := hR.init j x hx
    exact ⟨hlt, hto j x hx'⟩

/-- Slot k (a slice all of whose block is known, and pure) is read as it stands. -/
theorem LeS.frz {P : Program} {D : Types} (hA : Agrees P D) {t : List (Nat × AV)} {H : Heap} {u : List Nat} (k id : Nat) {ty : TypeId} {z sz len : Nat} {i : TI} {cs : List PV} (xs : List PV) (hk : look t k = some (.sl id sz 0 len)) (hid : hlook H id = some (.row ty z (cs.map .p)))
    (hD : D ty = some i) (hi : i.size = sz) (hl : len * sz = cs.length) (hxs : regroup i.k.isSt sz len cs = xs) : LeS ⟨t, H, u⟩ ⟨(k, .p (.fro sz xs)) :: t, (id, none) :: H, u⟩ := by
  intro w0 ok0 F ρ0 n a w ρ ok hR
  let Hf : Heap := [(id, some (.row ty z (cs.map .p)))]
  have hfl : ∀ j B, hlook Hf j = some B → j = id ∧ hlook H j = some B := by
    intro j B hB
    simp only [Hf, hlook_cons, hlook_nil] at hB
    by_cases e : j = id
    · rw [if_pos e] at hB; exact ⟨e, by rw [e, hid]; exact hB⟩
    · rw [if_neg e] at hB; cases hB
  have hHf : HeapOK w ρ ok Hf := ⟨fun i B hB => hR.heap.blk i B (hfl i B hB).2, fun i B g hB => hR.heap.away i B g (hfl i B hB).2, fun i j B B' g hB hB' => hR.heap.inj i j B B' g (hfl i B hB).2 (hfl j B' hB').2, hR.heap.lt⟩
  let ok' : Nat → Prop := fun b => ok b ∨ Own ρ Hf b
  have same : ∀ {a : AV} {v : Value}, AVRel w ρ ok a v → AVRel w ρ ok' a v := fun hv => hv.mono (fun _ _ h => h) (fun _ h => .inl h) (Kept.refl w fun _ => False) (fun _ _ h => h)
  have hsn : snap D (hlook Hf) 8 (.sl id sz 0 len) = some (.fro sz xs) := by
    have e1 : hlook Hf id = some (.row ty z (cs.map .p)) := by simp [Hf, hlook_cons]
    have e2 : ((cs.map AV.p).drop (0 * sz)).take (len * sz) = cs.map AV.p := by
      rw [Nat.zero_mul, List.drop_zero, List.take_of_length_le (by simp [hl])]
    simp only [snap, e1, Option.bind_some, hD]
    rw [if_pos ⟨hi, by simp [hl]⟩, e2, snapL_p, Option.map_some, hxs]
  have hold : ∀ j B, hlook ((id, none) :: H) j = some B → j ≠ id ∧ hlook H j = some B := by
    intro j B hB
    rw [hlook_cons] at hB
    by_cases e : j = id
    · rw [if_pos e] at hB; cases hB
    · rw [if_neg e] at hB; exact ⟨e, hB⟩
  refine ⟨ρ, ok', hR.size, hR.defers, fun j => ?_, ⟨fun j B hB => ?_, fun j B g hB hg hokg => ?_, fun j l B B' g hB hB' hg hg' => ?_, fun b hb => ?_⟩, hR.used, ?_, hR.kept, fun b hb => .inl (hR.oksub b hb), fun b hb => ?_, hR.init⟩
  · have h := hR.tmp j
    by_cases e' : j = k
    · subst e'
      have e1 : St.get ⟨t, H, u⟩ j = .sl id sz 0 len := by rw [St.get, hk]; rfl
      have e2 : St.get ⟨(j, .p (.fro sz xs)) :: t, (id, none) :: H, u⟩ j = .p (.fro sz xs) := by simp [St.get, look_cons]
      rw [e1] at h; rw [e2]
      exact .p _ _ (snap_sound hA hHf (fun _ _ h => h) hsn h)
    · have e2 : St.get ⟨(k, .p (.fro sz xs)) :: t, (id, none) :: H, u⟩ j = St.get ⟨t, H, u⟩ j := by simp [St.get, look_cons, e']
      rw [e2]; exact same h
  · exact (hR.heap.blk j B (hold j B hB).2).mono (fun _ _ h => h) (fun _ h => .inl h) (Kept.refl w fun _ => False) (fun _ _ h => h) (fun _ _ h => h)
  · obtain ⟨hj, hC⟩ := hold j B hB
    rcases hokg with h' | ⟨l, B', hB', hg'⟩
    · exact hR.heap.away j B g hC hg h'
    · obtain ⟨hl', hBl⟩ := hfl l B' hB'
      have := hR.heap.inj j l B B' g hC hBl hg hg'
      exact hj (this.trans hl')
  · exact hR.heap.inj j l B B' g (hold j B hB).2 (hold l B' hB').2 hg hg'
  · rcases hb with hb | ⟨l, B', hB', hg'⟩
    · exact hR.heap.lt b hb
    · exact (hR.heap.blk l B' (hfl l B' hB').2).lt b hg'
  · rintro b ⟨j, B, hB, hb⟩
    exact hR.home b ⟨j, B, (hold j B hB).2, hb⟩
  · rcases hb with hb | ⟨l, B', hB', hg'⟩
    · exact hR.okn b hb
    · rcases hR.home b ⟨l, B', (hfl l B' hB').2, hg'⟩ with h' | h'
      · exact .inr (.inr h')
      · exact .inr (.inl h')

/-! ### rows of plain data -/
theorem rep_0 (zs : List AV) : rep 0 zs = [] := rfl
theorem rep_1 (zs : List AV) : rep 1 zs = zs := by simp [rep]
theorem rep_2 (zs : List AV) : rep 2 zs = zs ++ (zs) := by simp [rep, List.replicate]
theorem rep_3 (zs : List AV) : rep 3 zs = zs ++ (zs ++ (zs)) := by simp [rep, List.replicate]
theorem rep_4 (zs : List AV) : rep 4 zs = zs ++ (zs ++ (zs ++ (zs))) := by simp [rep, List.replicate]
theorem rep_5 (zs : List AV) : rep 5 zs = zs ++ (zs ++ (zs ++ (zs ++ (zs)))) := by simp [rep, List.replicate]
theorem rep_6 (zs : List AV) : rep 6 zs = zs ++ (zs ++ (zs ++ (zs ++ (zs ++ (zs))))) := by simp [rep, List.replicate]
theorem rep_7 (zs : List AV) : rep 7 zs = zs ++ (zs ++ (zs ++ (zs ++ (zs ++ (zs ++ (zs)))))) := by simp [rep, List.replicate]
theorem rep_8 (zs : List AV) : rep 8 zs = zs ++ (zs ++ (zs ++ (zs ++ (zs ++ (zs ++ (zs ++ (zs))))))) := by simp [rep, List.replicate]
theorem rep_9 (zs : List AV) : rep 9 zs = zs ++ (zs ++ (zs ++ (zs ++ (zs ++ (zs ++ (zs ++ (zs ++ (zs)))))))) := by simp [rep, List.replicate]
theorem rep_10 (zs : List AV) : rep 10 zs = zs ++ (zs ++ (zs ++ (zs ++ (zs ++ (zs ++ (zs ++ (zs ++ (zs ++ (zs))))))))) := by simp [rep, List.replicate]
theorem rep_11 (zs : List AV) : rep 11 zs = zs ++ (zs ++ (zs ++ (zs ++ (zs ++ (zs ++ (zs ++ (zs ++ (zs ++ (zs ++ (zs)))))))))) := by simp [rep, List.replicate]
theorem rep_12 (zs : List AV) : rep 12 zs = zs ++ (zs ++ (zs ++ (zs ++ (zs ++ (zs ++ (zs ++ (zs ++ (zs ++ (zs ++ (zs ++ (zs))))))))))) := by simp [rep, List.replicate]
theorem rep_13 (zs : List AV) : rep 13 zs = zs ++ (zs ++ (zs ++ (zs ++ (zs ++ (zs ++ (zs ++ (zs ++ (zs ++ (zs ++ (zs ++ (zs ++ (zs)))))))))))) := by simp [rep, List.replicate]
theorem rep_14 (zs : List AV) : rep 14 zs = zs ++ (zs ++ (zs ++ (zs ++ (zs ++ (zs ++ (zs ++ (zs ++ (zs ++ (zs ++ (zs ++ (zs ++ (zs ++ (zs))))))))))))) := by simp [rep, List.replicate]
theorem rep_15 (zs : List AV) : rep 15 zs = zs ++ (zs ++ (zs ++ (zs ++ (zs ++ (zs ++ (zs ++ (zs ++ (zs ++ (zs ++ (zs ++ (zs ++ (zs ++ (zs ++ (zs)))))))))))))) := by simp [rep, List.replicate]
theorem rep_16 (zs : List AV) : rep 16 zs = zs ++ (zs ++ (zs ++ (zs ++ (zs ++ (zs ++ (zs ++ (zs ++ (zs ++ (zs ++ (zs ++ (zs ++ (zs ++ (zs ++ (zs ++ (zs))))))))))))))) := by simp [rep, List.replicate]
theorem rep_17 (zs : List AV) : rep 17 zs = zs ++ (zs ++ (zs ++ (zs ++ (zs ++ (zs ++ (zs ++ (zs ++ (zs ++ (zs ++ (zs ++ (zs ++ (zs ++ (zs ++ (zs ++ (zs ++ (zs)))))))))))))))) := by simp [rep, List.replicate]
theorem rep_18 (zs : List AV) : rep 18 zs = zs ++ (zs ++ (zs ++ (zs ++ (zs ++ (zs ++ (zs ++ (zs ++ (zs ++ (zs ++ (zs ++ (zs ++ (zs ++ (zs ++ (zs ++ (zs ++ (zs ++ (zs))))))))))))))))) := by simp [rep, List.replicate]
theorem rep_19 (zs : List AV) : rep 19 zs = zs ++ (zs ++ (zs ++ (zs ++ (zs ++ (zs ++ (zs ++ (zs ++ (zs ++ (zs ++ (zs ++ (zs ++ (zs ++ (zs ++ (zs ++ (zs ++ (zs ++ (zs ++ (zs)))))))))))))))))) := by simp [rep, List.replicate]
theorem rep_20 (zs : List AV) : rep 20 zs = zs ++ (zs ++ (zs ++ (zs ++ (zs ++ (zs ++ (zs ++ (zs ++ (zs ++ (zs ++ (zs ++ (zs ++ (zs ++ (zs ++ (zs ++ (zs ++ (zs ++ (zs ++ (zs ++ (zs))))))))))))))))))) := by simp [rep, List.replicate]

theorem flat_one {α : Type} {f : α → PV} (h : ∀ x, (f x).cells = [f x]) (l : List α) : flat (l.map f) = l.map f := by
  induction l with
  | nil => rfl
  | cons x r ih => rw [List.map_cons, flat_cons, ih, h]; rfl
theorem flat_I (l : List Int) : flat (l.map eI) = l.map eI := flat_one (fun _ => rfl) l
theorem flat_S (l : List (List UInt8)) : flat (l.map eS) = l.map eS := flat_one (fun _ => rfl) l
theorem flat_len {α : Type} {f : α → PV} {sz : Nat} (h : ∀ x, (f x).cells.length = sz) (l : List α) : (flat (l.map f)).length = l.length * sz := by
  rw [flat_length (sz := sz) (fun x hx => by rw [List.mem_map] at hx; obtain ⟨y, _, rfl⟩ := hx; exact h y), List.length_map]
theorem flat_V_len (l : List Val) : (flat (l.map eV)).length = l.length * 5 := flat_len (f := eV) (fun x => by rw [eV_un]; rfl) l
theorem flat_F_len (l : List SField) : (flat (l.map eF)).length = l.length * 10 := flat_len (f := eF) (fun _ => rfl) l
theorem flat_St_len (l : List SStruct) : (flat (l.map eSt)).length = l.length * 3 := flat_len (f := eSt) (fun _ => rfl) l
theorem regroup_st {α : Type} {f : α → PV} {sz : Nat} (h : ∀ x, f x = .agg (f x).cells) (hl : ∀ x, (f x).cells.length = sz) (l : List α) : regroup true sz l.length (flat (l.map f)) = l.map f := by
  induction l with
  | nil => rfl
  | cons x r ih =>
    rw [List.map_cons, flat_cons, List.length_cons, regroup]
    have e1 : ((f x).cells ++ flat (r.map f)).take sz = (f x).cells := by rw [← hl x, List.take_left']; rfl
    have e2 : ((f x).cells ++ flat (r.map f)).drop sz = flat (r.map f) := by rw [← hl x, List.drop_left']; rfl
    rw [e1, e2, ih, if_pos rfl, ← h x]
theorem regroup_V (l : List Val) : regroup true 5 l.length (flat (l.map eV)) = l.map eV := regroup_st (f := eV) (fun x => by rw [eV_un]; rfl) (fun x => by rw [eV_un]; rfl) l
theorem regroup_F (l : List SField) : regroup true 10 l.length (flat (l.map eF)) = l.map eF := regroup_st (f := eF) (fun _ => rfl) (fun _ => rfl) l
theorem regroup_St (l : List SStruct) : regroup true 3 l.length (flat (l.map eSt)) = l.map eSt := regroup_st (f := eSt) (fun _ => rfl) (fun _ => rfl) l
theorem regroup_1 {α : Type} (f : α → PV) (l : List α) : regroup false 1 l.length (l.map f) = l.map f := by
  have := regroup_one (l.map f)
  rwa [List.length_map] at this
theorem frz_1 {P : Program} {D : Types} (hA : Agrees P D) {α : Type} (f : α → PV) (l : List α) {t : List (Nat × AV)} {H : Heap} {u : List Nat} (k id : Nat) {ty : TypeId} {z : Nat} {i : TI} (hk : look t k = some (.sl id 1 0 l.length)) (hid : hlook H id = some (.row ty z ((l.map f).map .p)))
    (hD : D ty = some i) (hi : i.size = 1) (hs : i.k.isSt = false) : LeS ⟨t, H, u⟩ ⟨(k, .p (.fro 1 (l.map f))) :: t, (id, none) :: H, u⟩ :=
  LeS.frz hA k id (l.map f) hk hid hD hi (by simp) (by rw [hs]; exact regroup_1 f l)
theorem frz_V {P : Program} {D : Types} (hA : Agrees P D) (l : List Val) {t : List (Nat × AV)} {H : Heap} {u : List Nat} (k id : Nat) {ty : TypeId} {z : Nat} {i : TI} (hk : look t k = some (.sl id 5 0 l.length)) (hid : hlook H id = some (.row ty z ((flat (l.map eV)).map .p)))
    (hD : D ty = some i) (hi : i.size = 5) (hs : i.k.isSt = true) : LeS ⟨t, H, u⟩ ⟨(k, .p (.fro 5 (l.map eV))) :: t, (id, none) :: H, u⟩ :=
  LeS.frz hA k id (l.map eV) hk hid hD hi (by rw [flat_V_len]) (by rw [hs]; exact regroup_V l)
theorem frz_F {P : Program} {D : Types} (hA : Agrees P D) (l : List SField) {t : List (Nat × AV)} {H : Heap} {u : List Nat} (k id : Nat) {ty : TypeId} {z : Nat} {i : TI} (hk : look t k = some (.sl id 10 0 l.length)) (hid : hlook H id = some (.row ty z ((flat (l.map eF)).map .p)))
    (hD : D ty = some i) (hi : i.size = 10) (hs : i.k.isSt = true) : LeS ⟨t, H, u⟩ ⟨(k, .p (.fro 10 (l.map eF))) :: t, (id, none) :: H, u⟩ :=
  LeS.frz hA k id (l.map eF) hk hid hD hi (by rw [flat_F_len]) (by rw [hs]; exact regroup_F l)
theorem renL_append (f : Nat → Nat) (l m : List AV) : AV.renL f (l ++ m) = AV.renL f l ++ AV.renL f m := by
  rw [renL_map, renL_map, renL_map, List.map_append]
theorem idsL_append (l m : List AV) : AV.idsL (l ++ m) = AV.idsL l ++ AV.idsL m := by
  induction l with
  | nil => rfl
  | cons x r ih => rw [List.cons_append, AV.idsL, AV.idsL, ih, List.append_assoc]
theorem ble_dec (a b : Nat) : Nat.ble a b = decide (a ≤ b) := by
  rw [Bool.eq_iff_iff, Nat.ble_eq, decide_eq_true_eq]
attribute [go_sem] PV.cells_c PV.cells_fro PV.cells_fmap renL_append idsL_append ble_dec rep_0 rep_1 rep_2 rep_3 rep_4 rep_5 rep_6 rep_7 rep_8 rep_9 rep_10 rep_11 rep_12 rep_13 rep_14 rep_15 rep_16 rep_17 rep_18 rep_19 rep_20 fN subV injB bigB renT liveH flat_V_len flat_F_len flat_St_len
end Go.Aw
