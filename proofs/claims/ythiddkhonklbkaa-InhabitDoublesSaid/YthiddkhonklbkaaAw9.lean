/- Each operation does to the machine what it does to abstract values (sixth part: what is built, made, appended). -/
import Derived.Test.YthiddkhonklbkaaAw8
import Derived.Laws.MakeOwn
set_option linter.unusedVariables false
set_option linter.unusedSimpArgs false
namespace Go.Aw
open Go
section
variable {P : Program} {D : Types} {w : World} {ρ : Names} {ok : Nat → Prop} {H : Heap}

theorem foldl_set (off : Nat) : ∀ (vs : List Value) (n : Nat) (cells : Array Value), off + n + vs.length ≤ cells.size →
    ((vs.zipIdx n).foldl (fun cs (p : Value × Nat) => cs.setIfInBounds (off + p.2) p.1) cells).toList = setSeg cells.toList (off + n) vs
  | [], n, cells, h => by simp [setSeg]
  | v :: vs, n, cells, h => by
    simp only [List.length_cons] at h
    simp only [List.zipIdx_cons, List.foldl_cons]
    rw [foldl_set off vs (n + 1) _ (by simp; omega)]
    apply List.ext_getElem?
    intro k
    rw [setSeg_get _ _ _ _ (by simp; omega), setSeg_get _ _ _ _ (by simp; omega)]
    simp only [List.length_cons, Array.toList_setIfInBounds, List.getElem?_set]
    by_cases h1 : off + n = k
    · subst h1
      rw [if_neg (by omega), if_pos (by omega)]
      simp; omega
    · by_cases h2 : off + n + 1 ≤ k ∧ k < off + n + 1 + vs.length
      · rw [if_pos ⟨by omega, by omega⟩, if_pos ⟨by omega, by omega⟩]
        rw [show k - (off + n) = (k - (off + (n + 1))) + 1 by omega]
        simp
      · rw [if_neg (show ¬ (off + (n + 1) ≤ k ∧ k < off + (n + 1) + vs.length) by omega), if_neg (show ¬ (off + n ≤ k ∧ k < off + n + (vs.length + 1)) by omega)]
        first | rw [if_neg h1] | rfl

theorem fill_sound {place : Nat → Option (Nat × Nat)} {place' : Nat → Option (Nat × Nat)} (hpl : ∀ i p, place i = some p → place' i = some p) :
    ∀ (parts : List (Nat × AV)) (uparts : List (Nat × Value)) (cs out : List AV) (us : Array Value), uparts.length = parts.length →
      (∀ (j : Nat) (p : Nat × AV) (u : Nat × Value), parts[j]? = some p → uparts[j]? = some u → p.1 = u.1 ∧ AVRel w ρ ok p.2 u.2) →
      us.size = cs.length → (∀ a ∈ cs, a.one = true) → (∀ (k : Nat) (a : AV) (u : Value), cs[k]? = some a → us[k]? = some u → AVRel w ρ ok a u) → fillF place cs parts = some out →
      ∃ us' : Array Value, Instr.fill place' us uparts = some us' ∧ us'.size = out.length ∧ out.length = cs.length ∧ (∀ a ∈ out, a.one = true) ∧ ∀ (k : Nat) (a : AV) (u : Value), out[k]? = some a → us'[k]? = some u → AVRel w ρ ok a u
  | [], uparts, cs, out, us, hl, hp, hs, h1, hr, h => by
    have : uparts = [] := List.eq_nil_of_length_eq_zero (by simpa using hl)
    subst this
    simp [fillF] at h; subst h
    exact ⟨us, rfl, hs, rfl, h1, hr⟩
  | (i, v) :: parts, uparts, cs, out, us, hl, hp, hs, h1, hr, h => by
    cases uparts with
    | nil => simp at hl
    | cons u0 uparts =>
      obtain ⟨i', uv⟩ := u0
      obtain ⟨hii, hv⟩ := hp 0 (i, v) (i', uv) rfl rfl
      simp only at hii hv
      subst hii
      simp only [fillF, Option.bind_eq_some_iff] at h
      obtain ⟨⟨off, size⟩, hpi, h⟩ := h
      simp only at h
      split at h
      · rename_i hc
        obtain ⟨hfb, hvl, hoff, hv1⟩ := hc
        have hf := fine_of hfb
        have hus : uv.cells.size = v.cells.length := hv.cells_size hf
        have hfold : (uv.cells.zipIdx.foldl (fun cs (p : Value × Nat) => cs.setIfInBounds (off + p.2) p.1) us).toList = setSeg us.toList off uv.cells.toList := by
          have := foldl_set off uv.cells.toList 0 us (by simp; omega)
          simp only [Nat.add_zero] at this
          rw [← this, ← Array.foldl_toList, Array.toList_zipIdx]
        have hv1' : ∀ a ∈ v.cells, a.one = true := fun a ha => List.all_eq_true.1 hv1 a ha
        have key := fill_sound hpl parts uparts (setSeg cs off v.cells) out (uv.cells.zipIdx.foldl (fun cs (p : Value × Nat) => cs.setIfInBounds (off + p.2) p.1) us) (by simpa using hl)
          (fun j p u h1 h2 => hp (j + 1) p u (by simpa using h1) (by simpa using h2)) ?_ ?_ ?_ h
        · obtain ⟨us', e, s1, s2, s3, s4⟩ := key
          refine ⟨us', ?_, s1, ?_, s3, s4⟩
          · unfold Instr.fill
            rw [hpl i _ hpi]
            simp only
            rw [if_neg (by simp; omega)]
            exact e
          · rw [s2, setSeg_length _ _ _ (by omega)]
        · rw [← Array.length_toList, hfold, setSeg_length _ _ _ (by simp; omega), setSeg_length _ _ _ (by omega)]
          simpa using hs
        · intro a ha
          unfold setSeg at ha
          simp only [List.mem_append] at ha
          rcases ha with (ha | ha) | ha
          · exact h1 a (List.mem_of_mem_take ha)
          · exact hv1' a ha
          · exact h1 a (List.mem_of_mem_drop ha)
        · intro k a u ha hu
          rw [← Array.getElem?_toList, hfold, setSeg_get _ _ _ _ (by simp; omega)] at hu
          rw [setSeg_get _ _ _ _ (by omega)] at ha
          by_cases hc : off ≤ k ∧ k < off + v.cells.length
          · rw [if_pos hc] at ha
            rw [if_pos (by simp; omega)] at hu
            exact hv.cells hf _ a u ha (by simpa using hu)
          · rw [if_neg hc] at ha
            rw [if_neg (by simp; omega)] at hu
            exact hr k a u ha (by simpa using hu)
      · cases h

theorem mapM_get {α β : Type} {g : α → Option β} : ∀ {l : List α} {r : List β}, l.mapM g = some r → ∀ (i : Nat) (x : α), l[i]? = some x → ∃ y, g x = some y ∧ r[i]? = some y
  | [], r, h, i, x, hx => by simp at hx
  | a :: l, r, h, i, x, hx => by
    simp only [List.mapM_cons, Option.bind_eq_bind, Option.pure_def, Option.bind_eq_some_iff] at h
    obtain ⟨b, hb, r', hr, h⟩ := h
    cases h
    cases i with
    | zero => simp at hx; subst hx; exact ⟨b, hb, rfl⟩
    | succ n => simpa using mapM_get hr n x (by simpa using hx)

theorem build_sound (hA : Agrees P D) {t : TypeId} {parts : List (Nat × AV)} {uparts : Array (Nat × Value)} {out : AV} (hl : uparts.size = parts.length)
    (hp : ∀ (j : Nat) (p : Nat × AV) (u : Nat × Value), parts[j]? = some p → uparts[j]? = some u → p.1 = u.1 ∧ AVRel w ρ ok p.2 u.2) (h : buildF D t parts = some out) :
    ∃ r, (Instr.build t uparts).run P w = .ok r w ∧ AVRel w ρ ok out r := by
  unfold buildF at h
  cases hi : D t with
  | none => simp [hi] at h
  | some i =>
    obtain ⟨⟨info, ds, z, g1, g2, g3, g4, g5, g6, g7, g8⟩, hzl, h1c, hpos⟩ := hA t i hi
    simp only [hi, Option.bind_some] at h
    split at h
    · rename_i fs hk
      rw [hk] at g7
      obtain ⟨fields, rfl, hfs, places, hpls⟩ := g7
      simp only [Option.map_eq_some_iff] at h
      obtain ⟨cs, hcs, rfl⟩ := h
      have hplace : ∀ f p, placeF D t f = some p → places.toArray[f]? = some p := by
        intro f p hf
        simp only [placeF, Option.bind_eq_some_iff, Option.map_eq_some_iff] at hf
        obtain ⟨⟨o, ft⟩, hfa, n, hn, rfl⟩ := hf
        simp only [fieldAt, hi, Option.bind_some, hk] at hfa
        rw [← hfs] at hfa
        simp only [List.getElem?_map, Option.map_eq_some_iff] at hfa
        obtain ⟨fd, hfd, he⟩ := hfa
        cases he
        simp only [sizeAt, Option.map_eq_some_iff] at hn
        obtain ⟨fi, hfi, rfl⟩ := hn
        obtain ⟨⟨info', ds', z', g1', g2', g3', g4', g5', g6', g7', g8'⟩, _, _, _⟩ := hA _ fi hfi
        obtain ⟨y, hy, hr⟩ := mapM_get hpls f fd hfd
        rw [g1'] at hy; cases hy
        rw [List.getElem?_toArray, hr]
        simp only [g3']
      have key := fill_sound (w := w) (ρ := ρ) (ok := ok) hplace parts uparts.toList (zeros i) cs z.cells (by simpa using hl) (fun j p u h1 h2 => hp j p u h1 (by simpa using h2))
        (by rw [zeros_length, ← g6]; simp) (zeros_one h1c) (fun k a u ha hu => zeros_rel _ _ _ i g6 k a u ha hu) hcs
      obtain ⟨us', e, s1, s2, s3, s4⟩ := key
      refine ⟨.agg us', run_build w t uparts us' ?_, AVRel.mkagg s1 s4⟩
      unfold Program.built
      rw [g1, g2]
      simp only [g5, hpls]
      exact e
    · cases h

theorem rep_length (n : Nat) (zs : List AV) : (rep n zs).length = n * zs.length := by
  induction n with
  | zero => simp [rep]
  | succ n ih =>
    have e : rep (n + 1) zs = zs ++ rep n zs := by simp [rep, List.replicate_succ]
    rw [e, List.length_append, ih, Nat.succ_mul, Nat.add_comm]
theorem rep_get (zs : List AV) : ∀ (n k : Nat), k < n * zs.length → (rep n zs)[k]? = zs[k % zs.length]?
  | 0, k, h => by simp at h
  | n + 1, k, h => by
    have e : rep (n + 1) zs = zs ++ rep n zs := by simp [rep, List.replicate_succ]
    rw [e]
    by_cases hk : k < zs.length
    · rw [List.getElem?_append_left hk, Nat.mod_eq_of_lt hk]
    · rw [Nat.succ_mul] at h
      rw [List.getElem?_append_right (by omega), rep_get zs n (k - zs.length) (by omega)]
      congr 1
      rw [← Nat.mod_eq_sub_mod (by omega)]
theorem rep_mem {n : Nat} {zs : List AV} {a : AV} (h : a ∈ rep n zs) : a ∈ zs := by
  simp only [rep, List.mem_flatten, List.mem_replicate] at h
  obtain ⟨l, ⟨_, rfl⟩, ha⟩ := h; exact ha
/-- Cells made of a type's zero value. -/
theorem made_rel {i : TI} {z : Value} (g6 : z.cells.toList = i.zero) (hzl : i.zero.length = i.size) (hpos : 0 < i.size) {n k : Nat} {a : AV} {u : Value} (ha : (rep n (zeros i))[k]? = some a)
    (hu : (madeCells z.cells (n * i.size))[k]? = some u) : AVRel w ρ ok a u := by
  have hzs : z.cells.size = i.size := by rw [← hzl, ← g6]; simp
  have hlz : (zeros i).length = i.size := by rw [zeros_length, hzl]
  have hk : k < n * i.size := by
    have := (List.getElem?_eq_some_iff.1 ha).1
    rw [rep_length, hlz] at this; exact this
  rw [rep_get _ _ _ (by rw [hlz]; exact hk), hlz] at ha
  have hmod : k % i.size < z.cells.size := by rw [hzs]; exact Nat.mod_lt _ hpos
  refine zeros_rel _ _ _ i g6 (k % i.size) a u ha ?_
  simp [madeCells, hk, hzs] at hu
  rw [← hu, getElem!_pos z.cells (k % i.size) hmod, Array.getElem?_eq_getElem hmod]

theorem makeSlice_sound (hA : Agrees P D) (hH : HeapOK w ρ ok H) {t : TypeId} {l c : AV} {ul uc : Value} {d : Nat} {out : Out} (hl : AVRel w ρ ok l ul) (hc : AVRel w ρ ok c uc) (h : makeSliceF D t l c d = some out) (hd : ρ d = none) (hdH : hlook H d = none) :
    ∃ v w' ρ', (Instr.makeSlice t ul uc).run P w = .ok v w' ∧ Post w ρ ok H out v w' ρ' := by
  unfold makeSliceF at h
  cases hi : D t with
  | none => simp [hi] at h
  | some ti =>
    obtain ⟨⟨info, ds, z, g1, g2, g3, g4, g5, g6, g7, g8⟩, hzl, h1c, hpos⟩ := hA t ti hi
    simp only [hi, Option.bind_some] at h
    split at h
    · rename_i e hk
      rw [hk] at g7; cases g7
      simp only [Option.bind_eq_some_iff] at h
      obtain ⟨i, hei, ⟨k, n⟩, hn, ⟨k', m⟩, hm, h⟩ := h
      simp only at h
      split at h
      · rename_i hcond
        obtain ⟨rfl, h0, hb, hb2⟩ := hcond
        cases h
        obtain ⟨⟨info', ds', z', g1', g2', g3', g4', g5', g6', g7', g8'⟩, hzl', h1c', hpos'⟩ := hA e i hei
        rw [hl.asI hn, hc.asI hm]
        obtain ⟨q, rfl⟩ := Int.eq_ofNat_of_zero_le h0
        have hbb : (info'.bytes : Int) * (q : Int) ≤ 281474976710656 := by
          rw [g4']
          have e1 : (i.bytes : Int) * (q : Int) = (q : Int) * (i.bytes : Int) := Int.mul_comm _ _
          rw [e1]
          omega
        have hr := run_make (P := P) w t e info' z' g2 g1' g5' k k' q q (by omega) (Int.le_refl _) hbb (by omega)
        simp only [Int.toNat_natCast, g3'] at hr
        refine ⟨_, _, bindρ ρ d w.heap.size, hr, ?_⟩
        refine Post.made hH (kept_alloc _ _ _) hd hdH (Nat.le_refl _) ?_ ?_
        · refine BlkOK.row_new (bindρ_same _ _) (heap_alloc_new w _) ?_ (fun a ha => zeros_one h1c' a (rep_mem ha)) (fun j a u ha hu => made_rel g6' hzl' hpos' ha hu)
          rw [rep_length, zeros_length, hzl', size_madeCells]; simp
        · simp only [Int.toNat_natCast]
          refine .sl d i.size 0 q _ q (Nat.le_refl _) (by simp only [maxLen]; omega) (.inr ⟨w.heap.size, _, e, 0, bindρ_same _ _, rfl, fun _ => by simp, heap_alloc_new w _, ?_⟩)
          rw [size_madeCells]; simp
      · cases h
    · cases h

theorem buildSlice_sound (hA : Agrees P D) (hH : HeapOK w ρ ok H) {t : TypeId} {n : Nat} {parts : List (Nat × AV)} {uparts : Array (Nat × Value)} {d : Nat} {out : Out} (hl : uparts.size = parts.length)
    (hp : ∀ (j : Nat) (p : Nat × AV) (u : Nat × Value), parts[j]? = some p → uparts[j]? = some u → p.1 = u.1 ∧ AVRel w ρ ok p.2 u.2) (h : buildSliceF D t n parts d = some out) (hd : ρ d = none) (hdH : hlook H d = none) :
    ∃ v w' ρ', (Instr.buildSlice t n uparts).run P w = .ok v w' ∧ Post w ρ ok H out v w' ρ' := by
  unfold buildSliceF at h
  cases hi : D t with
  | none => simp [hi] at h
  | some ti =>
    obtain ⟨⟨info, ds, z, g1, g2, g3, g4, g5, g6, g7, g8⟩, hzl, h1c, hpos⟩ := hA t ti hi
    simp only [hi, Option.bind_some] at h
    split at h
    · rename_i e hk
      rw [hk] at g7; cases g7
      simp only [Option.bind_eq_some_iff] at h
      obtain ⟨i, hei, h⟩ := h
      split at h
      · rename_i hsz
        simp only [Option.map_eq_some_iff] at h
        obtain ⟨cs, hcs, rfl⟩ := h
        obtain ⟨⟨info', ds', z', g1', g2', g3', g4', g5', g6', g7', g8'⟩, hzl', h1c', hpos'⟩ := hA e i hei
        have hzs : z'.cells.size = i.size := by rw [← hzl', ← g6']; simp
        have key := fill_sound (w := w) (ρ := ρ) (ok := ok) (place := fun j => some (j * i.size, i.size)) (place' := fun j => some (j * i.size, i.size)) (fun _ _ h => h) parts uparts.toList (rep n (zeros i)) cs (madeCells z'.cells (n * i.size))
          (by simpa using hl) (fun j p u h1 h2 => hp j p u h1 (by simpa using h2)) (by rw [size_madeCells, rep_length, zeros_length, hzl']) (fun a ha => zeros_one h1c' a (rep_mem ha)) (fun j a u ha hu => made_rel g6' hzl' hpos' ha hu) hcs
        obtain ⟨us', ef, s1, s2, s3, s4⟩ := key
        have hrl : (rep n (zeros i)).length = n * i.size := by rw [rep_length, zeros_length, hzl']
        refine ⟨.slice (some ⟨w.heap.size, 0, none⟩) n n, w.alloc (.cells us' e), bindρ ρ d w.heap.size, ?_, ?_⟩
        · unfold Instr.buildSlice
          have hbig : ¬ (n * i.size > 2 ^ 24) := by have : (2 : Nat) ^ 24 = 16777216 := rfl; omega
          have hmade : (Array.range (n * i.size)).map (fun x => (if n * i.size = 0 then (#[] : Array Value) else z'.cells)[x % (if n * i.size = 0 then (#[] : Array Value) else z'.cells).size]!) = madeCells z'.cells (n * i.size) := by
            by_cases h0 : n * i.size = 0
            · simp [h0, madeCells]
            · simp [h0, madeCells]
          simp only [Sem.run_bind, run_underlying g2, Result.andThen_ok, run_sizeOf_fits (hA e i hei), if_neg hbig, Sem.run_ite, Sem.run_pure, run_zeroValue' g1' g5']
          by_cases h0 : n * i.size = 0
          · simp only [h0, if_true, Result.andThen_ok] at hmade ⊢
            have e2 : madeCells z'.cells 0 = #[] := by simp [madeCells]
            rw [h0] at ef
            rw [e2] at ef
            have e3 : (Array.range 0).map (fun _ => (default : Value)) = #[] := by simp
            simp [e3, ef, run_newRow]
          · simp only [h0, if_false, Result.andThen_ok, Sem.run_bind, run_zeroValue' g1' g5', Sem.run_pure] at hmade ⊢
            rw [hmade, ef]
            simp [run_newRow]
        · refine Post.made hH (kept_alloc _ _ _) hd hdH (Nat.le_refl _) ?_ ?_
          · refine BlkOK.row_new (bindρ_same _ _) (heap_alloc_new w _) (by omega) s3 (fun j a u ha hu => (s4 j a u ha hu).mono (bindρ_ext hd) (fun _ h => h) (kept_alloc w _ (fun _ => False)) (fun _ _ h => h))
          · refine .sl d i.size 0 n _ n (Nat.le_refl _) ?_ (.inr ⟨w.heap.size, _, e, 0, bindρ_same _ _, rfl, fun _ => by simp, heap_alloc_new w _, ?_⟩)
            · simp only [maxLen]
              have : n * 1 ≤ n * i.size := Nat.mul_le_mul_left _ hpos'
              omega
            · rw [s1, s2, hrl]; simp
      · cases h
    · cases h

theorem makeMap_sound (hH : HeapOK w ρ ok H) (t : TypeId) {d : Nat} (hd : ρ d = none) (hdH : hlook H d = none) :
    ∃ v w' ρ', (Instr.makeMap t none).run P w = .ok v w' ∧ Post w ρ ok H ⟨.mp d, [(d, some (.map []))], [d]⟩ v w' ρ' := by
  refine ⟨.map (some w.heap.size), w.alloc (.map #[] 0), bindρ ρ d w.heap.size, by simp [Instr.makeMap], ?_⟩
  exact Post.made hH (kept_alloc _ _ _) hd hdH (Nat.le_refl _) ⟨w.heap.size, #[], 0, bindρ_same _ _, heap_alloc_new w _, rfl, fun i e m h => by simp at h, fun i e m h => by simp at h⟩ (.mp d _ (bindρ_same _ _))

end
end Go.Aw
