/- Each operation does to the machine what it does to abstract values (third part: places and reads). -/
import Derived.Test.YthiddkhonklbkaaAw5
set_option linter.unusedVariables false
set_option linter.unusedSimpArgs false
namespace Go.Aw
open Go
section
variable {P : Program} {D : Types} {w : World} {ρ : Names} {ok : Nat → Prop} {H : Heap}

theorem run_isAgg' {t : TypeId} {i : TI} (h : i.fits P t) : (isAgg t).run P w = .ok i.k.isSt w := by
  obtain ⟨⟨info, ds, z, h1, h2, h3, h4, h5, h6, h7, h8⟩, hl, h1c, hp⟩ := h
  cases hk : i.k <;> rw [hk] at h7 <;> simp only [TK.fits] at h7 <;> simp only [isAgg, Sem.run_bind, run_underlying h2, Result.andThen_ok, TK.isSt]
  case st fs => obtain ⟨fields, rfl, _⟩ := h7; simp
  case other => cases ds <;> first | (exact h7.elim) | simp
  all_goals (subst h7; simp)
theorem run_sizeOf_fits {t : TypeId} {i : TI} (h : i.fits P t) : (sizeOf t).run P w = .ok i.size w := by
  obtain ⟨⟨info, ds, z, h1, h2, h3, h4, h5, h6, h7, h8⟩, hl, h1c, hp⟩ := h
  rw [run_sizeOf' h1, h3]

theorem loadVar_sound {t : TypeId} {i : TI} (hi : i.fits P t) {ad : Addr} {us : List Value} (hus : us.length = i.size) (hcell : ∀ (k : Nat) (u : Value), us[k]? = some u → w.cell? (ad.add k) = some u)
    {cs : List AV} (hcs : cs.length = i.size) (hrel : ∀ (k : Nat) (a : AV) (u : Value), cs[k]? = some a → us[k]? = some u → AVRel w ρ ok a u) {out : AV} (h : valueOf i cs = some out) :
    ∃ r, (loadVar t ad).run P w = .ok r w ∧ AVRel w ρ ok out r := by
  have hc := run_loadCells_list (P := P) w ad us hcell
  unfold valueOf at h
  simp only [loadVar, Sem.run_bind, run_isAgg' hi, Result.andThen_ok]
  cases hk : i.k <;> rw [hk] at h <;> simp only [TK.isSt] at *
  case st fs =>
    cases h
    refine ⟨.agg us.toArray, ?_, AVRel.mkagg (by simp [hus, hcs]) (fun k a u ha hu => hrel k a u ha (by simpa using hu))⟩
    simp only [if_true, Sem.run_bind, run_sizeOf_fits hi, Result.andThen_ok, ← hus, hc, Sem.run_pure]
  all_goals
    split at h
    · rename_i a
      cases h
      have h1 : us.length = 1 := by rw [hus, ← hcs]; rfl
      obtain ⟨u, rfl⟩ : ∃ u, us = [u] := List.length_eq_one_iff.1 h1
      have h0 := hcell 0 u rfl
      have e : ad.add 0 = ad := by simp [Addr.add]
      rw [e] at h0
      exact ⟨u, by simp [h0], hrel 0 _ u rfl rfl⟩
    · cases h

theorem load_sound (hA : Agrees P D) (hH : HeapOK w ρ ok H) {t : TypeId} {x : AV} {u : Value} {out : AV} (hx : AVRel w ρ ok x u) (h : loadF D t x (hlook H) = some out) :
    ∃ r, (Instr.loadAt t u).run P w = .ok r w ∧ AVRel w ρ ok out r := by
  unfold loadF at h
  cases hi : D t with
  | none => simp [hi] at h
  | some i =>
    have hf := hA t i hi
    have hp := hf.pos
    simp only [hi, Option.bind_some] at h
    split at h
    · rename_i id off
      simp only [Option.bind_eq_some_iff] at h
      obtain ⟨B, hB, h⟩ := h
      split at h
      · rename_i ty sz cs
        split at h
        · rename_i hlen
          have hb := hH.blk id _ hB
          rcases hb with ⟨_, rfl⟩ | ⟨g, cur, h1, h2, h3, h4, h5⟩
          · simp at hlen; omega
          · cases hx with
            | ptr _ _ g' hg' =>
              rw [h1] at hg'; cases hg'
              refine Exists.imp (fun r hr => ⟨?_, hr.2⟩) (loadVar_sound (w := w) hf (ad := ⟨g, off, none⟩) (us := (cur.toList.drop off).take i.size) (by simp; omega) ?_ (by simp; omega) ?_ h)
              · simpa [Instr.loadAt, Instr.sureAddr] using hr.1
              · intro k u hu
                rw [add_plain]
                rw [List.getElem?_take] at hu
                split at hu
                · rw [List.getElem?_drop] at hu
                  rw [cell_of_row w g (off + k) cur ty (0, 0) h2]
                  simpa using hu
                · cases hu
              · intro k a u ha hu
                rw [List.getElem?_take] at ha hu
                split at ha
                · rename_i hk
                  rw [if_pos hk] at hu
                  rw [List.getElem?_drop] at ha hu
                  exact h5 _ a u ha (by simpa using hu)
                · cases ha
        · cases h
      · cases h
    · rename_i cs
      split at h
      · rename_i hlen
        cases hx with
        | fptr _ ad us hs hok hlt hone hl hu hr =>
          refine Exists.imp (fun r hr => ⟨?_, hr.2⟩) (loadVar_sound (w := w) hf (ad := ad) (us := us.take i.size) (by simp; omega) ?_ (by simp; omega) ?_ h)
          · simpa [Instr.loadAt, Instr.sureAddr] using hr.1
          · intro k u hku
            rw [List.getElem?_take] at hku
            split at hku
            · exact hu k u hku
            · cases hku
          · intro k a u ha hku
            simp only [List.getElem?_map, Option.map_eq_some_iff] at ha
            obtain ⟨q, hq, rfl⟩ := ha
            rw [List.getElem?_take] at hq hku
            split at hq
            · rename_i hk
              rw [if_pos hk] at hku
              exact .p _ _ (hr k q u hq hku)
            · cases hq
      · cases h
    · cases h

/-- A field of a struct, told by the table and by the program. -/
theorem fieldAt_fits (hA : Agrees P D) {t : TypeId} {f o : Nat} {ft : TypeId} (h : fieldAt D t f = some (o, ft)) :
    ∃ (fields : Array Field) (fd : Field), P.underlying t = some (.struct fields) ∧ fields[f]? = some fd ∧ fd.offset = o ∧ fd.type = ft := by
  unfold fieldAt at h
  cases hi : D t with
  | none => simp [hi] at h
  | some i =>
    obtain ⟨⟨info, ds, z, h1, h2, h3, h4, h5, h6, h7, h8⟩, hl, h1c, hp⟩ := hA t i hi
    simp only [hi, Option.bind_some] at h
    split at h
    · rename_i fs hk
      rw [hk] at h7
      obtain ⟨fields, rfl, hfs, _⟩ := h7
      rw [← hfs] at h
      simp only [List.getElem?_map, Option.map_eq_some_iff] at h
      obtain ⟨fd, hfd, he⟩ := h
      cases he
      exact ⟨fields, fd, h2, by simpa using hfd, rfl, rfl⟩
    · cases h

theorem fieldAddr_sound (hA : Agrees P D) {t : TypeId} {x : AV} {u : Value} {f : Nat} {out : AV} (hx : AVRel w ρ ok x u) (h : fieldAddrF D t x f = some out) :
    ∃ r, (Instr.fieldAt t u f).run P w = .ok r w ∧ AVRel w ρ ok out r := by
  simp only [fieldAddrF, Option.bind_eq_some_iff] at h
  obtain ⟨⟨o, ft⟩, hf, n, hn, h⟩ := h
  obtain ⟨fields, fd, h1, h2, rfl, rfl⟩ := fieldAt_fits hA hf
  simp only [sizeAt, Option.map_eq_some_iff] at hn
  obtain ⟨i, hi, rfl⟩ := hn
  have hfi := hA _ i hi
  have hpos := hfi.pos
  have run : ∀ ad : Addr, (Instr.fieldAt t (.pointer (some ad)) f).run P w = .ok (.pointer (some (ad.add fd.offset))) w := by
    intro ad
    simp [Instr.fieldAt, run_underlying h1, h2, Instr.sureAddr, fieldPlace, run_sizeOf_fits hfi, Nat.pos_iff_ne_zero.1 hpos]
  split at h
  · rename_i id off
    cases h
    cases hx with
    | ptr _ _ g hg => exact ⟨_, run _, by rw [add_plain]; exact .ptr id _ g hg⟩
  · rename_i cs
    cases h
    cases hx with
    | fptr _ ad us hs hok hlt hone hl hu hr =>
      refine ⟨_, run ad, .fptr _ (ad.add fd.offset) (us.drop fd.offset) (add_spot _ _ hs) (by rw [add_block]; exact hok) (by rw [add_block]; exact hlt) (fun p hp => hone p (List.mem_of_mem_drop hp)) (by simp [hl]) ?_ ?_⟩
      · intro k u hk
        rw [List.getElem?_drop] at hk
        rw [add_add]
        exact hu _ u hk
      · intro k p u hp hk
        rw [List.getElem?_drop] at hp hk
        exact hr _ p u hp hk
  · cases h

theorem run_asIntOf (k : IntKind) (n : Int) : (asIntOf (.int k n)).run P w = .ok (k, n) w := rfl
theorem nth_some {α : Type} {xs : List α} {n : Int} {x : α} (h : nth xs n = some x) : 0 ≤ n ∧ n.toNat < xs.length ∧ xs[n.toNat]? = some x := by
  unfold nth at h
  split at h
  · rename_i h0; exact ⟨h0, (List.getElem?_eq_some_iff.1 h).1, h⟩
  · cases h

theorem indexAddr_sound (hA : Agrees P D) {t : TypeId} {x i : AV} {u v : Value} {out : AV} (hx : AVRel w ρ ok x u) (hi' : AVRel w ρ ok i v) (h : indexAddrF D t x i (hlook H) = some out) :
    ∃ r, (Instr.indexAt t u v).run P w = .ok r w ∧ AVRel w ρ ok out r := by
  unfold indexAddrF at h
  cases hi : D t with
  | none => simp [hi] at h
  | some ti =>
    obtain ⟨⟨info, ds, z, h1, h2, h3, h4, h5, h6, h7, h8⟩, hl, h1c, hp⟩ := hA t ti hi
    simp only [hi, Option.bind_some] at h
    split at h
    · rename_i e hk
      rw [hk] at h7; cases h7
      simp only [Option.bind_eq_some_iff] at h
      obtain ⟨⟨k, n⟩, hn, h⟩ := h
      rw [hi'.asI hn]
      simp only at h
      split at h
      · rename_i sz xs
        split at h
        · rename_i hsz
          simp only [sizeAt, Option.map_eq_some_iff] at hsz
          obtain ⟨ei, hei, rfl⟩ := hsz
          have hfe := hA _ ei hei
          simp only [Option.map_eq_some_iff] at h
          obtain ⟨y, hy, rfl⟩ := h
          obtain ⟨h0, hlt, hy⟩ := nth_some hy
          cases hx with
          | p _ _ hx =>
            cases hx with
            | fro _ _ A c us hc hm hsz hone hu hr hA' =>
              obtain ⟨ad, rfl, hs, hok, hblt, hcell⟩ := hA' (by omega)
              refine ⟨.pointer (some (ad.add (n.toNat * ei.size))), ?_, ?_⟩
              · have : n < (xs.length : Int) := by omega
                simp [Instr.indexAt, run_asIntOf, run_underlying h2, run_sizeOf_fits hfe, h0, this]
              · have hyl := hsz y (List.mem_of_getElem? hy)
                have hbound : (n.toNat + 1) * ei.size ≤ xs.length * ei.size := Nat.mul_le_mul_right _ hlt
                have hb2 : n.toNat * ei.size + ei.size ≤ us.length := by rw [hu]; rw [Nat.succ_mul] at hbound; exact hbound
                refine .fptr _ _ ((us.drop (n.toNat * ei.size)).take ei.size) (add_spot _ _ hs) (by rw [add_block]; exact hok) (by rw [add_block]; exact hblt)
                  (fun p hp => hone p (flat_mem (List.mem_of_getElem? hy) hp)) (by simp; omega) ?_ ?_
                · intro j u hj
                  rw [List.getElem?_take] at hj
                  split at hj
                  · rw [List.getElem?_drop] at hj; rw [add_add]; exact hcell _ u hj
                  · cases hj
                · intro j p u hpj hj
                  rw [List.getElem?_take] at hj
                  split at hj
                  · rename_i hjs
                    rw [List.getElem?_drop] at hj
                    exact hr _ p u (by rw [flat_at hsz hy j hjs]; exact hpj) hj
                  · cases hj
        · cases h
      · rename_i id sz off len
        split at h
        · rename_i hc
          obtain ⟨hsz, h0, hlt⟩ := hc
          simp only [sizeAt, Option.map_eq_some_iff] at hsz
          obtain ⟨ei, hei, rfl⟩ := hsz
          have hfe := hA _ ei hei
          cases h
          cases hx with
          | sl _ _ _ _ A c hc hm hx =>
            rcases hx with ⟨_, rfl, _⟩ | ⟨g, cur, ty, o, hg, rfl, ho, hgg, hcs⟩
            · omega
            · have hc0 : 0 < c := by omega
              have ho := ho (.inr hc0)
              subst ho
              refine ⟨.pointer (some ⟨g, off * ei.size + n.toNat * ei.size, none⟩), ?_, ?_⟩
              · simp [Instr.indexAt, run_asIntOf, run_underlying h2, run_sizeOf_fits hfe, h0, hlt, add_plain]
              · rw [← Nat.add_mul]; exact .ptr id _ g hg
        · cases h
      · cases h
    · cases h

theorem index_sound (hA : Agrees P D) {t : TypeId} {x i : AV} {u v : Value} {out : AV} (hx : AVRel w ρ ok x u) (hi' : AVRel w ρ ok i v) (h : indexF D t x i = some out) :
    ∃ r, (Instr.index t u v).run P w = .ok r w ∧ AVRel w ρ ok out r := by
  unfold indexF at h
  cases hi : D t with
  | none => simp [hi] at h
  | some ti =>
    obtain ⟨⟨info, ds, z, h1, h2, h3, h4, h5, h6, h7, h8⟩, hl, h1c, hp⟩ := hA t ti hi
    simp only [hi, Option.bind_some] at h
    split at h
    · rename_i hk
      rw [hk] at h7; cases h7
      simp only [Option.bind_eq_some_iff, Option.map_eq_some_iff] at h
      obtain ⟨⟨k, n⟩, hn, l, hl', b, hb, rfl⟩ := h
      rw [hi'.asI hn, hx.asL hl']
      obtain ⟨h0, hlt, hb⟩ := nth_some hb
      refine ⟨.int .u8 b.toNat, ?_, .const _⟩
      have hs : (⟨l.toArray⟩ : ByteArray)[n.toNat]? = some b := by
        have hlt' : n.toNat < (⟨l.toArray⟩ : ByteArray).size := by simpa [ByteArray.size] using hlt
        rw [getElem?_pos (⟨l.toArray⟩ : ByteArray) n.toNat hlt']
        obtain ⟨hx1, hx2⟩ := List.getElem?_eq_some_iff.1 hb
        rw [← hx2]; rfl
      simp [Instr.index, str, run_asIntOf, run_underlying h2, h0, hs]
    · cases h

theorem part_sound {t : TypeId} {i : TI} (hi : i.fits P t) {us : Array Value} {o : Nat} {cs : List AV} (hb : o + i.size ≤ us.size) (hcs : cs.length = i.size)
    (hrel : ∀ (k : Nat) (a : AV) (u : Value), cs[k]? = some a → us[o + k]? = some u → AVRel w ρ ok a u) {out : AV} (h : valueOf i cs = some out) :
    ∃ r, (part t us o).run P w = .ok r w ∧ AVRel w ρ ok out r := by
  have hp := hi.pos
  unfold valueOf at h
  simp only [part, Sem.run_bind, run_isAgg' hi, Result.andThen_ok]
  cases hk : i.k <;> rw [hk] at h <;> simp only [TK.isSt] at *
  case st fs =>
    cases h
    refine ⟨.agg (us.extract o (o + i.size)), ?_, AVRel.mkagg (by simp; omega) (fun k a u ha hu => hrel k a u ha ?_)⟩
    · simp only [if_true, Sem.run_bind, run_sizeOf_fits hi, Result.andThen_ok, Sem.run_pure]
    · rw [Array.getElem?_extract] at hu
      split at hu
      · exact hu
      · cases hu
  all_goals
    split at h
    · rename_i a
      cases h
      have hlt : o < us.size := by omega
      exact ⟨us[o], by simp [Array.getElem?_eq_getElem hlt], hrel 0 _ us[o] rfl (by simp [Array.getElem?_eq_getElem hlt])⟩
    · cases h

theorem field_sound (hA : Agrees P D) {t : TypeId} {x : AV} {u : Value} {f : Nat} {out : AV} (hx : AVRel w ρ ok x u) (h : fieldF D t x f = some out) :
    ∃ r, (Instr.field t u f).run P w = .ok r w ∧ AVRel w ρ ok out r := by
  simp only [fieldF, Option.bind_eq_some_iff] at h
  obtain ⟨⟨o, ft⟩, hf, i, hi, h⟩ := h
  obtain ⟨fields, fd, h1, h2, rfl, rfl⟩ := fieldAt_fits hA hf
  have hfi := hA _ i hi
  have run : ∀ us : Array Value, (Instr.field t (.agg us) f).run P w = (part fd.type us fd.offset).run P w := by
    intro us
    simp [Instr.field, run_underlying h1, h2, asAgg]
  split at h
  · rename_i cs
    split at h
    · rename_i hlen
      cases hx with
      | p _ _ hx =>
        cases hx with
        | agg _ us hl hr =>
          rw [run]
          refine part_sound hfi (by omega) (by simp; omega) ?_ h
          intro k a u ha hu
          simp only [List.getElem?_map, Option.map_eq_some_iff] at ha
          obtain ⟨q, hq, rfl⟩ := ha
          rw [List.getElem?_take] at hq
          split at hq
          · rw [List.getElem?_drop] at hq; exact .p _ _ (hr _ q u hq hu)
          · cases hq
    · cases h
  · rename_i cs
    split at h
    · rename_i hlen
      cases hx with
      | agg _ us hl hr =>
        rw [run]
        refine part_sound hfi (by omega) (by simp; omega) ?_ h
        intro k a u ha hu
        rw [List.getElem?_take] at ha
        split at ha
        · rw [List.getElem?_drop] at ha; exact hr _ a u ha hu
        · cases ha
    · cases h
  · cases h

end
end Go.Aw
