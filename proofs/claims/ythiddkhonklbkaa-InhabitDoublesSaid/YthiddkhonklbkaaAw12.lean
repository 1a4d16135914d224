/- Operations and calls as steps of states; regions in the text's order. -/
import Derived.Test.YthiddkhonklbkaaAw11
set_option linter.unusedVariables false
set_option linter.unusedSimpArgs false
namespace Go.Aw
open Go

section
variable {P : Program} {D : Types} {w : World} {ρ : Names} {ok : Nat → Prop} {H : Heap}

theorem ev_parts {a : Act} {e : Operand → AV} (he : ∀ x, AVRel w ρ ok (e x) (a.eval x)) (parts : Array (Nat × Operand)) :
    ∀ (j : Nat) (p : Nat × AV) (u : Nat × Value), (parts.toList.map fun (i, x) => (i, e x))[j]? = some p → (parts.map fun (i, x) => (i, a.eval x))[j]? = some u → p.1 = u.1 ∧ AVRel w ρ ok p.2 u.2 := by
  intro j p u hp hu
  rw [List.getElem?_map, Option.map_eq_some_iff] at hp
  obtain ⟨⟨i, x⟩, hx, rfl⟩ := hp
  rw [Array.getElem?_map, Option.map_eq_some_iff] at hu
  obtain ⟨⟨i', x'⟩, hx', rfl⟩ := hu
  have : parts[j]? = some (i, x) := by simpa using hx
  rw [this] at hx'; cases hx'
  exact ⟨rfl, he x⟩

theorem ev_list {a : Act} {e : Operand → AV} (he : ∀ x, AVRel w ρ ok (e x) (a.eval x)) (xs : Array Operand) :
    ∀ (j : Nat) (p : AV) (u : Value), (xs.toList.map e)[j]? = some p → (xs.map a.eval)[j]? = some u → AVRel w ρ ok p u := by
  intro j p u hp hu
  rw [List.getElem?_map, Option.map_eq_some_iff] at hp
  obtain ⟨x, hx, rfl⟩ := hp
  rw [Array.getElem?_map, Option.map_eq_some_iff] at hu
  obtain ⟨x', hx', rfl⟩ := hu
  have : xs[j]? = some x := by simpa using hx
  rw [this] at hx'; cases hx'
  exact he x

theorem ev_opt {a : Act} {e : Operand → AV} (he : ∀ x, AVRel w ρ ok (e x) (a.eval x)) (x : Option Operand) : ORel w ρ ok (x.map e) (x.map a.eval) := by
  cases x with
  | none => trivial
  | some x => exact he x

/-- What an operation does, put in words of the machine. -/
def Does (P : Program) (w : World) (ρ : Names) (ok : Nat → Prop) (H : Heap) (out : Out) (s : Sem Next) : Prop :=
  ∃ v w' ρ', (s.run P w = .ok (.value v) w' ∨ (s.run P w = .ok .skip w' ∧ v = undef)) ∧ Post w ρ ok H out v w' ρ'

theorem Does.same (hH : HeapOK w ρ ok H) {out : AV} {s : Sem Value} (h : ∃ r, s.run P w = .ok r w ∧ AVRel w ρ ok out r) : Does P w ρ ok H ⟨out, [], []⟩ (do pure (.value (← s))) := by
  obtain ⟨r, hr, hv⟩ := h
  exact ⟨r, w, ρ, .inl (by simp [hr]), Post.same hH hv⟩
theorem Does.value {out : Out} {s : Sem Value} (h : ∃ v w' ρ', s.run P w = .ok v w' ∧ Post w ρ ok H out v w' ρ') : Does P w ρ ok H out (do pure (.value (← s))) := by
  obtain ⟨r, w', ρ', hr, hp⟩ := h
  exact ⟨r, w', ρ', .inl (by simp [hr]), hp⟩
theorem Does.unit {out : Out} {s : Sem Unit} (h : ∃ w', s.run P w = .ok () w' ∧ Post w ρ ok H out undef w' ρ) : Does P w ρ ok H out (do s; pure .skip) := by
  obtain ⟨w', hr, hp⟩ := h
  exact ⟨undef, w', ρ, .inr ⟨by simp [hr], rfl⟩, hp⟩

theorem opF_sound (hA : Agrees P D) (hH : HeapOK w ρ ok H) {o : Oper} {a : Act} {e : Operand → AV} (he : ∀ x, AVRel w ρ ok (e x) (a.eval x)) {out : Out} {d : Nat} (h : opF D o.op d e (hlook H) = some out)
    (hnew : ∀ id ∈ out.new, ρ id = none ∧ hlook H id = none) : Does P w ρ ok H out (execOp a.eval o) := by
  obtain ⟨dst, op, type, pos, after, guard⟩ := o
  simp only at h
  unfold execOp
  unfold opF at h
  split at h
  · rename_i x; cases h
    exact ⟨_, w, ρ, .inl rfl, Post.same hH (he x)⟩
  · rename_i x; cases h
    exact ⟨_, w, ρ, .inl rfl, Post.same hH (he x)⟩
  · rename_i c x y
    rw [Option.map_eq_some_iff] at h
    obtain ⟨av, h, rfl⟩ := h
    obtain ⟨r, hr, hv⟩ := pick_sound (P := P) (he c) (he x) (he y) h
    exact ⟨r, w, ρ, .inl hr, Post.same hH hv⟩
  · rename_i t
    have hd : d ∈ out.new := by
      unfold allocF at h
      rw [Option.map_eq_some_iff] at h
      obtain ⟨i, _, rfl⟩ := h; simp
    exact Does.value (alloc_sound hA hH h (hnew d hd).1 (hnew d hd).2)
  · rename_i t x
    have hd : d ∈ out.new := by
      unfold boxF at h
      rw [Option.bind_eq_some_iff] at h
      obtain ⟨i, _, h⟩ := h
      rw [Option.map_eq_some_iff] at h
      obtain ⟨c, _, rfl⟩ := h; simp
    exact Does.value (box_sound hA hH (he x) h (hnew d hd).1 (hnew d hd).2)
  · rename_i t parts
    rw [Option.map_eq_some_iff] at h
    obtain ⟨av, h, rfl⟩ := h
    exact Does.same hH (build_sound hA (by simp) (ev_parts he parts) h)
  · rename_i t n parts
    have hd : d ∈ out.new := by
      unfold buildSliceF at h
      rw [Option.bind_eq_some_iff] at h
      obtain ⟨i, _, h⟩ := h
      split at h
      · rw [Option.bind_eq_some_iff] at h
        obtain ⟨j, _, h⟩ := h
        split at h
        · rw [Option.map_eq_some_iff] at h
          obtain ⟨c, _, rfl⟩ := h; simp
        · cases h
      · cases h
    exact Does.value (buildSlice_sound hA hH (by simp) (ev_parts he parts) h (hnew d hd).1 (hnew d hd).2)
  · rename_i t x
    rw [Option.map_eq_some_iff] at h
    obtain ⟨av, h, rfl⟩ := h
    exact Does.same hH (load_sound hA hH (he x) h)
  · rename_i t x y
    exact Does.unit (store_sound hA hH (he x) (he y) h)
  · rename_i x
    have hx := he x
    split at h
    · rename_i id off hex; cases h
      rw [hex] at hx
      generalize hu : a.eval x = u at hx
      cases hx with
      | ptr _ _ g hg =>
        refine ⟨_, w, ρ, .inl ?_, Post.same hH (.ptr id off g hg)⟩
        simp only [hu]; rfl
    · rename_i cs hex; cases h
      rw [hex] at hx
      generalize hu : a.eval x = u at hx
      cases hx with
      | fptr _ ad us h1 h2 h3 h4 h5 h6 h7 =>
        refine ⟨_, w, ρ, .inl ?_, Post.same hH (.fptr cs ad us h1 h2 h3 h4 h5 h6 h7)⟩
        simp only [hu]; rfl
    · cases h
  · rename_i op t x y _
    rw [Option.map_eq_some_iff] at h
    obtain ⟨av, h, rfl⟩ := h
    exact Does.same hH (bin_sound hA (he x) (he y) h x y)
  · rename_i op _ x
    rw [Option.map_eq_some_iff] at h
    obtain ⟨av, h, rfl⟩ := h
    exact Does.same hH (un_sound (he x) h)
  · rename_i s t x
    rw [Option.map_eq_some_iff] at h
    obtain ⟨av, h, rfl⟩ := h
    exact Does.same hH (conv_sound hA hH (he x) h)
  · rename_i fn first captured; cases h
    refine Does.same hH ⟨_, rfl, .fn fn _ _ _ _ (by simp) (by simp) (ev_list he first) (ev_list he captured)⟩
  · rename_i t; cases h
    have hd := hnew d (by simp)
    exact Does.value (makeMap_sound hH t hd.1 hd.2)
  · rename_i t l c
    have hd : d ∈ out.new := by
      unfold makeSliceF at h
      rw [Option.bind_eq_some_iff] at h
      obtain ⟨i, _, h⟩ := h
      split at h
      · simp only [Option.bind_eq_some_iff] at h
        obtain ⟨j, _, p, _, q, _, h⟩ := h
        split at h
        · cases h; simp
        · cases h
      · cases h
    exact Does.value (makeSlice_sound hA hH (he l) (he c) h (hnew d hd).1 (hnew d hd).2)
  · rename_i t x lo hi mx
    rw [Option.map_eq_some_iff] at h
    obtain ⟨av, h, rfl⟩ := h
    exact Does.same hH (slice_sound hA (he x) (ev_opt he lo) (ev_opt he hi) (ev_opt he mx) h)
  · rename_i t x f
    rw [Option.map_eq_some_iff] at h
    obtain ⟨av, h, rfl⟩ := h
    exact Does.same hH (fieldAddr_sound hA (he x) h)
  · rename_i t x f
    rw [Option.map_eq_some_iff] at h
    obtain ⟨av, h, rfl⟩ := h
    exact Does.same hH (field_sound hA (he x) h)
  · rename_i t x i
    rw [Option.map_eq_some_iff] at h
    obtain ⟨av, h, rfl⟩ := h
    exact Does.same hH (indexAddr_sound hA (he x) (he i) h)
  · rename_i t x i
    rw [Option.map_eq_some_iff] at h
    obtain ⟨av, h, rfl⟩ := h
    exact Does.same hH (index_sound hA (he x) (he i) h)
  · rename_i t m k c
    rw [Option.map_eq_some_iff] at h
    obtain ⟨av, h, rfl⟩ := h
    exact Does.same hH (lookup_sound hA hH (he m) (he k) h)
  · rename_i t m k x
    exact Does.unit (mapUpdate_sound hA hH (he m) (he k) (he x) h)
  · rename_i x i
    rw [Option.map_eq_some_iff] at h
    obtain ⟨av, h, rfl⟩ := h
    exact Does.same hH (extract_sound (he x) h)
  · rename_i args argTypes
    split at h
    · rename_i x t hx ht
      rw [Option.map_eq_some_iff] at h
      obtain ⟨av, h, rfl⟩ := h
      obtain rfl : args = #[x] := by rw [← Array.toArray_toList (xs := args), hx]
      obtain rfl : argTypes = #[t] := by rw [← Array.toArray_toList (xs := argTypes), ht]
      obtain ⟨r, hr, hv⟩ := len_sound hA hH (he x) h type
      refine ⟨r, w, ρ, .inl ?_, Post.same hH hv⟩
      simp [resolve, invoke, builtin, hr]
    · cases h
  · rename_i args argTypes
    split at h
    · rename_i s x t t' hx ht
      obtain rfl : args = #[s, x] := by rw [← Array.toArray_toList (xs := args), hx]
      obtain rfl : argTypes = #[t, t'] := by rw [← Array.toArray_toList (xs := argTypes), ht]
      have hd : out.new = [] ∨ (ρ d = none ∧ hlook H d = none) := by
        by_cases hd : d ∈ out.new
        · exact .inr (hnew d hd)
        · left
          clear hnew
          unfold appendF at h
          split at h
          · rw [Option.bind_eq_some_iff] at h
            obtain ⟨i, _, h⟩ := h
            split at h
            · simp only [Option.bind_eq_some_iff] at h
              obtain ⟨j, _, ⟨m, news⟩, _, h⟩ := h
              simp only at h
              split at h
              · split at h
                · cases h; simp at hd
                · cases h
              · rw [Option.bind_eq_some_iff] at h
                obtain ⟨B, _, h⟩ := h
                split at h
                · split at h
                  · split at h
                    · split at h
                      · cases h; simp at hd
                      · cases h
                    · split at h
                      · cases h; rfl
                      · cases h
                  · cases h
                · cases h
              · cases h
            · cases h
          · cases h
      obtain ⟨v, w', ρ', hr, hp⟩ := append_sound hA hH (he s) (he x) h hd type
      refine ⟨v, w', ρ', .inl ?_, hp⟩
      simp [resolve, invoke, builtin, hr]
    · cases h
  · rename_i args _
    split at h
    · rename_i x y hx
      rw [Option.map_eq_some_iff] at h
      obtain ⟨av, h, rfl⟩ := h
      obtain rfl : args = #[x, y] := by rw [← Array.toArray_toList (xs := args), hx]
      obtain ⟨r, hr, hv⟩ := minmax_sound (P := P) (he x) (he y) h #[] type
      simp only [Bool.false_eq_true, if_false] at hr
      refine ⟨r, w, ρ, .inl ?_, Post.same hH hv⟩
      simp only [Builtin.min_] at hr
      simp [resolve, invoke, builtin, Builtin.min_] at hr ⊢
      simp [hr]
    · cases h
  · rename_i args _
    split at h
    · rename_i x y hx
      rw [Option.map_eq_some_iff] at h
      obtain ⟨av, h, rfl⟩ := h
      obtain rfl : args = #[x, y] := by rw [← Array.toArray_toList (xs := args), hx]
      obtain ⟨r, hr, hv⟩ := minmax_sound (P := P) (he x) (he y) h #[] type
      simp only [if_true] at hr
      refine ⟨r, w, ρ, .inl ?_, Post.same hH hv⟩
      simp only [Builtin.max_] at hr
      simp [resolve, invoke, builtin, Builtin.max_] at hr ⊢
      simp [hr]
    · cases h
  · cases h

end
end Go.Aw
