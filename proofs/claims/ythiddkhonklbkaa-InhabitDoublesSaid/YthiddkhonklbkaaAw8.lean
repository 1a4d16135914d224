/- Each operation does to the machine what it does to abstract values (fifth part: maps, stores, builds). -/
import Derived.Test.YthiddkhonklbkaaAw7
set_option linter.unusedVariables false
set_option linter.unusedSimpArgs false
namespace Go.Aw
open Go
section
variable {P : Program} {D : Types} {w : World} {ρ : Names} {ok : Nat → Prop} {H : Heap}

/-- A map's value, its entries as the machine holds them. -/
theorem entries_of (hH : HeapOK w ρ ok H) {m : AV} {u : Value} {es : List (List UInt8 × PV)} (hm : AVRel w ρ ok m u) (h : entriesOf m (hlook H) = some es) :
    ∃ ents : Array MapEntry, ((u = .map none ∧ ents = #[]) ∨ ∃ g clock, u = .map (some g) ∧ w.heap[g]? = some (.map ents clock)) ∧ ents.size = es.length ∧
      (∀ (i : Nat) (e : List UInt8 × PV) (m : MapEntry), es[i]? = some e → ents[i]? = some m → m.key = str e.1) ∧
      ∀ (i : Nat) (e : List UInt8 × PV) (m : MapEntry), es[i]? = some e → ents[i]? = some m → Rel w ok e.2 m.val := by
  unfold entriesOf at h
  split at h
  · rename_i id
    simp only [Option.bind_eq_some_iff] at h
    obtain ⟨B, hB, h⟩ := h
    split at h
    · cases h
      obtain ⟨g, ents, clock, h1, h2, h3, h4, h5⟩ := hH.blk id _ hB
      cases hm with
      | mp _ g' hg' =>
        rw [h1] at hg'; cases hg'
        exact ⟨ents, .inr ⟨g, clock, rfl, h2⟩, h3, h4, h5⟩
    · cases h
  · cases h
    cases hm with
    | p _ _ hm =>
      cases hm with
      | fmapNil => exact ⟨#[], .inl ⟨rfl, rfl⟩, rfl, fun i e m h => by simp at h, fun i e m h => by simp at h⟩
      | fmap _ g ents clock hg hok hl hk hr => exact ⟨ents, .inr ⟨g, clock, rfl, hg⟩, hl, hk, hr⟩
  · cases h
    cases hm with
    | p _ _ hm => cases hm; exact ⟨#[], .inl ⟨rfl, rfl⟩, rfl, fun i e m h => by simp at h, fun i e m h => by simp at h⟩
  · cases h

theorem run_findKey_str {kt : TypeId} (hkt : P.underlying kt = some .string) {es : List (List UInt8 × PV)} {ents : Array MapEntry} (hl : ents.size = es.length)
    (hk : ∀ (i : Nat) (e : List UInt8 × PV) (m : MapEntry), es[i]? = some e → ents[i]? = some m → m.key = str e.1) (k : List UInt8) :
    (Instr.findKey kt (str k) ents.toList).run P w = .ok ((place k es).bind fun i => (ents[i]?).map fun m => (i, m.val)) w := by
  have hf := findNow_str (es := es) (ents := ents.toList) (by simpa using hl) (fun i e m h1 h2 => hk i e m h1 (by simpa using h2)) k 0
  simp only [Nat.zero_add, Array.getElem?_toList] at hf
  simp only [Instr.findKey, Sem.run_bind, run_underlying hkt, Result.andThen_ok, hf, Sem.run_pure]

theorem run_getObj_map {g : Nat} {ents : Array MapEntry} {clock : Nat} (hg : w.heap[g]? = some (.map ents clock)) : (Go.getObj g).run P w = .ok (.map ents clock) w := by
  simp [Go.getObj, Sem.run, hg]
theorem lookup_sound (hA : Agrees P D) (hH : HeapOK w ρ ok H) {t : TypeId} {m k : AV} {um uk : Value} {c : Bool} {out : AV} (hm : AVRel w ρ ok m um) (hk : AVRel w ρ ok k uk) (h : lookupF D t m k c (hlook H) = some out) :
    ∃ r, (Instr.lookup t um uk c).run P w = .ok r w ∧ AVRel w ρ ok out r := by
  unfold lookupF at h
  cases hi' : D t with
  | none => simp [hi'] at h
  | some ti =>
    obtain ⟨⟨info, ds, z, g1, g2, g3, g4, g5, g6, g7, g8⟩, hl, h1c, hp⟩ := hA t ti hi'
    simp only [hi', Option.bind_some] at h
    split at h
    · rename_i kt vt htk
      rw [htk] at g7; cases g7
      cases hki : D kt with
      | none => simp [hki] at h
      | some ki =>
        obtain ⟨⟨info', ds', z', g1', g2', g3', g4', g5', g6', g7', g8'⟩, hl', h1c', hp'⟩ := hA kt ki hki
        simp only [hki, Option.bind_some] at h
        split at h
        · rename_i hks
          rw [hks] at g7'; cases g7'
          simp only [Option.bind_eq_some_iff, Option.map_eq_some_iff] at h
          obtain ⟨vi, hvi, zz, hzz, l, hlk, es, hes, rfl⟩ := h
          obtain ⟨zv, rfl, hzr⟩ := zeroOf_some (w := w) (hA vt vi hvi) hzz
          obtain ⟨ents, hu, hsz, hkeys, hvals⟩ := entries_of hH hm hes
          rw [hk.asL hlk]
          have hfk := run_findKey_str (P := P) (w := w) g2' hsz hkeys l
          have run : ∀ r : Option (Nat × Value), (place l es).bind (fun i => (ents[i]?).map fun m => (i, m.val)) = r →
              (Instr.lookup t um (str l) c).run P w = .ok (let v := (r.map (·.2)).getD zv; if c then .tuple #[v, .bool r.isSome] else v) w := by
            intro r hr
            rw [hr] at hfk
            rcases hu with ⟨rfl, rfl⟩ | ⟨g, clock, rfl, hg⟩
            · unfold Instr.lookup
              simp only [Sem.run_bind, run_underlying g2, Result.andThen_ok, Sem.run_pure, run_checkKey_str _ _ g2', hfk]
              cases r with
              | none => simp [hzr]
              | some p => obtain ⟨i, v⟩ := p; simp
            · unfold Instr.lookup
              simp only [Sem.run_bind, run_underlying g2, Result.andThen_ok, run_getObj_map hg, Sem.run_pure, run_checkKey_str _ _ g2', hfk]
              cases r with
              | none => simp [hzr]
              | some p => obtain ⟨i, v⟩ := p; simp
          have pf := place_find l es
          cases hpl : place l es with
          | none =>
            have hn := pf.2 hpl
            have := run none (by rw [hpl]; rfl)
            refine ⟨_, this, ?_⟩
            rw [hn]
            cases c
            · exact .const _
            · refine .p _ _ (.tup _ _ rfl fun i p u hp hu => ?_)
              match i, hp, hu with
              | 0, hp, hu => simp at hp hu; subst hp; subst hu; exact .c _
              | 1, hp, hu => simp at hp hu; subst hp; subst hu; exact .c _
              | n + 2, hp, hu => simp at hp
          | some i =>
            obtain ⟨v, hv, hfd⟩ := pf.1 i hpl
            have hlt : i < ents.size := by rw [hsz]; exact (List.getElem?_eq_some_iff.1 hv).1
            have hm' := Array.getElem?_eq_getElem hlt
            have hr := hvals i _ _ hv hm'
            have := run (some (i, (ents[i]).val)) (by rw [hpl]; simp [hm'])
            refine ⟨_, this, ?_⟩
            rw [hfd]
            cases c
            · exact .p _ _ hr
            · refine .p _ _ (.tup _ _ rfl fun i p u hp hu => ?_)
              match i, hp, hu with
              | 0, hp, hu => simp at hp hu; subst hp; subst hu; exact hr
              | 1, hp, hu => simp at hp hu; subst hp; subst hu; exact .c _
              | n + 2, hp, hu => simp at hp
        · cases h
    · cases h

/-! ### a block of one's own is changed -/
theorem HeapOK.update {w' : World} {id g : Nat} {B B' : Blk} (hH : HeapOK w ρ ok H) (hB : hlook H id = some B) (hg : ρ id = some (some g)) (hk : Kept w w' (fun b => b = g)) (hB' : BlkOK w' ρ ok id B') : HeapOK w' ρ ok ((id, some B') :: H) := by
  have hok : ∀ b, ok b → ¬ b = g := fun b hb e => hH.away id B g hB hg (e ▸ hb)
  refine ⟨fun i C h => ?_, fun i C g' h hρ hokb => ?_, fun i i' C C' g' h h' hρ hρ' => ?_, fun b hb => Nat.lt_of_lt_of_le (hH.lt b hb) hk.size⟩
  · rw [hlook_cons] at h
    split at h
    · rename_i e; subst e; cases h; exact hB'
    · rename_i hne
      exact (hH.blk i C h).mono (fun _ _ h => h) (fun _ h => h) hk hok (fun g' hg' e => hne (hH.inj i id C B g' h hB hg' (e ▸ hg)))
  · rw [hlook_cons] at h
    split at h
    · rename_i e; subst e; exact hH.away i B g' hB hρ hokb
    · exact hH.away i C g' h hρ hokb
  · rw [hlook_cons] at h h'
    split at h
    · rename_i e; subst e
      split at h'
      · rename_i e'; exact e'.symm
      · exact hH.inj i i' B C' g' hB h' hρ hρ'
    · split at h'
      · rename_i e'; subst e'; exact hH.inj i i' C B g' h hB hρ hρ'
      · exact hH.inj i i' C C' g' h h' hρ hρ'

theorem Post.update {w' : World} {id g : Nat} {B B' : Blk} {av : AV} {v : Value} (hH : HeapOK w ρ ok H) (hB : hlook H id = some B) (hg : ρ id = some (some g)) (hk : Kept w w' (fun b => b = g)) (hB' : BlkOK w' ρ ok id B') (hv : AVRel w' ρ ok av v) :
    Post w ρ ok H ⟨av, [(id, some B')], []⟩ v w' ρ :=
  ⟨hv, hH.update hB hg hk hB', fun _ _ h => h, fun _ _ h => .inl h, fun b ⟨i, C, h1, h2⟩ => by
    rw [List.cons_append, List.nil_append, hlook_cons] at h1
    split at h1
    · rename_i e; subst e; exact .inl ⟨i, B, hB, h2⟩
    · exact .inl ⟨i, C, h1, h2⟩, hk.mono (fun b _ e => ⟨id, B, by simp, hB, e ▸ hg⟩)⟩

theorem kept_setRow {g : Nat} {cur cs : Array Value} {ty : TypeId} (hg : w.heap[g]? = some (.cells cur ty (0, 0))) (hs : cs.size = cur.size) : Kept w (w.setRow g cs) (fun b => b = g) :=
  ⟨rfl, rfl, rfl, by simp, fun b _ hne => setRow_other w g b cs hne, fun b c t hb => by
    by_cases e : b = g
    · subst e
      rw [hb] at hg; cases hg
      exact ⟨cs, setRow_heap w b _ _ _ _ hb, hs⟩
    · exact ⟨c, (setRow_other w g b cs e).trans hb, rfl⟩, fun a => by
    by_cases e : a.block = g
    · have e1 := setRow_heap w g _ cs _ _ hg
      have e1' : (w.setRow g cs).heap[a.block]? = some (.cells cs ty (0, 0)) := by rw [e]; exact e1
      have e2' : w.heap[a.block]? = some (.cells cur ty (0, 0)) := by rw [e]; exact hg
      rw [frozen_thaw e1' (thaw_cells _ _), frozen_thaw e2' (thaw_cells _ _)]
    · exact frozen_of (setRow_other w g a.block cs e)⟩

theorem setSeg_length {α : Type} (xs ys : List α) (o : Nat) (h : o + ys.length ≤ xs.length) : (setSeg xs o ys).length = xs.length := by
  simp [setSeg]; omega
theorem setSeg_get {α : Type} (xs ys : List α) (o k : Nat) (h : o + ys.length ≤ xs.length) : (setSeg xs o ys)[k]? = if o ≤ k ∧ k < o + ys.length then ys[k - o]? else xs[k]? := by
  unfold setSeg
  have h1 : (xs.take o).length = o := by simp; omega
  by_cases hk : k < o
  · rw [List.append_assoc, List.getElem?_append_left (by omega), List.getElem?_take, if_pos hk, if_neg (by omega)]
  · by_cases hk2 : k < o + ys.length
    · rw [List.append_assoc, List.getElem?_append_right (by omega), List.getElem?_append_left (by omega), h1, if_pos ⟨by omega, hk2⟩]
    · rw [List.getElem?_append_right (by simp; omega), List.getElem?_drop, if_neg (by omega)]
      congr 1
      simp; omega

theorem store_sound (hA : Agrees P D) (hH : HeapOK w ρ ok H) {t : TypeId} {x v : AV} {u uv : Value} {out : Out} (hx : AVRel w ρ ok x u) (hv : AVRel w ρ ok v uv) (h : storeF D t x v (hlook H) = some out) :
    ∃ w', (Instr.storeAt t u uv).run P w = .ok () w' ∧ Post w ρ ok H out undef w' ρ := by
  unfold storeF at h
  cases hi : D t with
  | none => simp [hi] at h
  | some i =>
    have hf := hA t i hi
    have hp := hf.pos
    simp only [hi, Option.bind_some, Option.bind_eq_some_iff] at h
    obtain ⟨vs, hvs, h⟩ := h
    obtain ⟨hfine, rfl, hvl, hv1⟩ := cellsFor_some hvs
    split at h
    · rename_i id off
      simp only [Option.bind_eq_some_iff] at h
      obtain ⟨B, hB, h⟩ := h
      split at h
      · rename_i ty sz cs
        split at h
        · rename_i hlen
          cases h
          have hb := hH.blk id _ hB
          rcases hb with ⟨_, rfl⟩ | ⟨g, cur, h1, h2, h3, h4, h5⟩
          · simp at hlen; omega
          · cases hx with
            | ptr _ _ g' hg' =>
              rw [h1] at hg'; cases hg'
              have hus : uv.cells.size = i.size := by rw [hv.cells_size hfine, hvl]
              have hone : ∀ q ∈ uv.cells.toList, q.oneCell' = true := by
                intro q hq
                obtain ⟨n, hn⟩ := List.mem_iff_getElem?.1 hq
                have hlt : n < v.cells.length := by
                  have := (List.getElem?_eq_some_iff.1 hn).1
                  simp at this; omega
                exact (hv.cells hfine n _ q (List.getElem?_eq_getElem hlt) (by simpa using hn)).one (hv1 _ (List.getElem_mem hlt))
              have hst := run_storeCells_at P g off ty uv.cells.toList 0 cur w h2 (by simp; omega) hone
              simp only [Nat.add_zero] at hst
              have hsize : (cur.toList.take off ++ uv.cells.toList ++ cur.toList.drop (off + uv.cells.toList.length)).toArray.size = cur.size := by simp; omega
              have hkept := kept_setRow h2 hsize
              have hokg : ∀ b, ok b → ¬ b = g := fun b hb e => hH.away id _ g hB h1 (e ▸ hb)
              refine ⟨_, ?_, Post.update hH hB h1 hkept ?_ (.const _)⟩
              · simp only [Instr.storeAt, Instr.sureAddr, Sem.run_bind, Sem.run_pure, Result.andThen_ok, storeVar, run_sizeOf_fits hf, hus, ne_eq, not_true_eq_false, if_false]
                exact hst
              · refine .inr ⟨g, _, h1, setRow_heap w g cur _ ty _ h2, ?_, ?_, ?_⟩
                · rw [hsize, setSeg_length _ _ _ (by omega)]; exact h3
                · intro a ha
                  unfold setSeg at ha
                  simp only [List.mem_append] at ha
                  rcases ha with (ha | ha) | ha
                  · exact h4 a (List.mem_of_mem_take ha)
                  · exact hv1 a ha
                  · exact h4 a (List.mem_of_mem_drop ha)
                · intro k a q ha hq
                  have e : (cur.toList.take off ++ uv.cells.toList ++ cur.toList.drop (off + uv.cells.toList.length)) = setSeg cur.toList off uv.cells.toList := rfl
                  rw [List.getElem?_toArray, e, setSeg_get _ _ _ _ (by simp; omega)] at hq
                  rw [setSeg_get _ _ _ _ (by omega)] at ha
                  refine AVRel.mono ?_ (fun _ _ h => h) (fun _ h => h) hkept hokg
                  by_cases hc : off ≤ k ∧ k < off + v.cells.length
                  · rw [if_pos hc] at ha
                    rw [if_pos (by simp; omega)] at hq
                    exact hv.cells hfine _ a q ha (by simpa using hq)
                  · rw [if_neg hc] at ha
                    rw [if_neg (by simp; omega)] at hq
                    exact h5 k a q ha (by simpa using hq)
        · cases h
      · cases h
    · cases h

theorem upsert_place (k : List UInt8) (v : PV) (es : List (List UInt8 × PV)) :
    (∀ i, place k es = some i → upsert k v es = es.set i (k, v)) ∧ (place k es = none → upsert k v es = es ++ [(k, v)]) := by
  induction es with
  | nil => exact ⟨fun i h => by simp [place] at h, fun _ => rfl⟩
  | cons e es ih =>
    obtain ⟨q, u⟩ := e
    by_cases e : k = q
    · subst e
      exact ⟨fun i h => by simp [place] at h; subst h; simp [upsert], fun h => by simp [place] at h⟩
    · refine ⟨fun i h => ?_, fun h => ?_⟩
      · simp only [place, if_neg e, Option.map_eq_some_iff] at h
        obtain ⟨j, hj, rfl⟩ := h
        simp [upsert, e, ih.1 j hj]
      · simp only [place, if_neg e, Option.map_eq_none_iff] at h
        simp [upsert, e, ih.2 h]

theorem run_setObj_map {g : Nat} {ents : Array MapEntry} {clock : Nat} (hg : w.heap[g]? = some (.map ents clock)) (o : Obj) : (setObj g o).run P w = .ok () { w with heap := w.heap.setIfInBounds g o } := by
  simp [setObj, Sem.run, hg]
theorem kept_setObj {g : Nat} {ents : Array MapEntry} {clock : Nat} (hg : w.heap[g]? = some (.map ents clock)) (o : Obj) (ho : Thaw o := by exact thaw_map _ _) : Kept w { w with heap := w.heap.setIfInBounds g o } (fun b => b = g) :=
  ⟨rfl, rfl, rfl, by simp, fun b _ hne => by simp [Array.getElem?_setIfInBounds, Ne.symm hne], fun b c t hb => by
    have hne : ¬ g = b := fun e => by subst e; rw [hb] at hg; cases hg
    exact ⟨c, by simp [Array.getElem?_setIfInBounds, hne, hb], rfl⟩, fun a => by
    by_cases e : g = a.block
    · have e1 : ({ w with heap := w.heap.setIfInBounds g o } : World).heap[a.block]? = some o := by
        rw [← e]; simp [Array.getElem?_setIfInBounds, lt_of_some hg]
      rw [e] at hg
      rw [frozen_thaw e1 ho, frozen_thaw hg (thaw_map _ _)]
    · exact frozen_of (by simp [Array.getElem?_setIfInBounds, e])⟩
theorem heap_setObj {g : Nat} {o : Obj} (hg : g < w.heap.size) : (w.heap.setIfInBounds g o)[g]? = some o := by
  simp [Array.getElem?_setIfInBounds, hg]

theorem mapUpdate_sound (hA : Agrees P D) (hH : HeapOK w ρ ok H) {t : TypeId} {m k v : AV} {um uk uv : Value} {out : Out} (hm : AVRel w ρ ok m um) (hk : AVRel w ρ ok k uk) (hv : AVRel w ρ ok v uv) (h : mapUpdateF D t m k v (hlook H) = some out) :
    ∃ w', (Instr.mapUpdate t um uk uv).run P w = .ok () w' ∧ Post w ρ ok H out undef w' ρ := by
  unfold mapUpdateF at h
  cases hi' : D t with
  | none => simp [hi'] at h
  | some ti =>
    obtain ⟨⟨info, ds, z, g1, g2, g3, g4, g5, g6, g7, g8⟩, hl, h1c, hp⟩ := hA t ti hi'
    simp only [hi', Option.bind_some] at h
    split at h
    · rename_i kt vt htk
      rw [htk] at g7; cases g7
      cases hki : D kt with
      | none => simp [hki] at h
      | some ki =>
        obtain ⟨⟨info', ds', z', g1', g2', g3', g4', g5', g6', g7', g8'⟩, hl', h1c', hp'⟩ := hA kt ki hki
        simp only [hki, Option.bind_some] at h
        split at h
        · rename_i hks
          rw [hks] at g7'; cases g7'
          simp only [Option.bind_eq_some_iff] at h
          obtain ⟨l, hlk, h⟩ := h
          rw [hk.asL hlk]
          split at h
          · rename_i id x
            simp only [Option.bind_eq_some_iff] at h
            obtain ⟨B, hB, h⟩ := h
            split at h
            · rename_i es
              cases h
              obtain ⟨g, ents, clock, h1, h2, h3, h4, h5⟩ := hH.blk id _ hB
              cases hm with
              | mp _ g' hg' =>
                rw [h1] at hg'; cases hg'
                cases hv with
                | p _ _ hv =>
                  have hfk := run_findKey_str (P := P) (w := w) g2' h3 h4 l
                  have hokg : ∀ b, ok b → b < w.heap.size → ¬ b = g := fun b hb _ e => hH.away id _ g hB h1 (e ▸ hb)
                  have hgl := lt_of_some h2
                  have pf := upsert_place l x es
                  cases hpl : place l es with
                  | none =>
                    rw [hpl] at hfk
                    have hkept := kept_setObj h2 (.map (ents.push { key := str l, val := uv, born := clock }) (clock + 1))
                    refine ⟨_, ?_, Post.update hH hB h1 hkept ?_ (.const _)⟩
                    · unfold Instr.mapUpdate
                      simp only [Sem.run_bind, run_underlying g2, Result.andThen_ok]
                      simp only [run_getObj_map h2, Sem.run_bind, Result.andThen_ok, run_checkKey_str _ _ g2', hfk, Option.bind_none]
                      exact run_setObj_map h2 _
                    · rw [pf.2 hpl]
                      refine ⟨g, _, _, h1, heap_setObj hgl, by simp [h3], ?_, ?_⟩
                      · intro i e m he hm'
                        rw [List.getElem?_append] at he
                        rw [Array.getElem?_push] at hm'
                        split at he
                        · rename_i hlt
                          rw [if_neg (by omega)] at hm'
                          exact h4 i e m he hm'
                        · rename_i hge
                          have hin : i = ents.size := by
                            rcases Nat.lt_or_ge (i - es.length) 1 with h' | h'
                            · omega
                            · rw [List.getElem?_eq_none (by simpa using h')] at he; cases he
                          rw [if_pos hin] at hm'
                          cases hm'
                          have : i - es.length = 0 := by omega
                          rw [this] at he; simp at he; subst he; rfl
                      · intro i e m he hm'
                        rw [List.getElem?_append] at he
                        rw [Array.getElem?_push] at hm'
                        refine Rel.mono (w := w) (ok := ok) ?_ (fun _ h => h) (fun b hb hlt => hkept.block b hlt (hokg b hb hlt))
                        split at he
                        · rename_i hlt
                          rw [if_neg (by omega)] at hm'
                          exact h5 i e m he hm'
                        · rename_i hge
                          have hin : i = ents.size := by
                            rcases Nat.lt_or_ge (i - es.length) 1 with h' | h'
                            · omega
                            · rw [List.getElem?_eq_none (by simpa using h')] at he; cases he
                          rw [if_pos hin] at hm'
                          cases hm'
                          have : i - es.length = 0 := by omega
                          rw [this] at he; simp at he; subst he; exact hv
                  | some j =>
                    have hj : j < es.length := by
                      obtain ⟨v', hv', _⟩ := (place_find l es).1 j hpl
                      exact (List.getElem?_eq_some_iff.1 hv').1
                    have hje : j < ents.size := by omega
                    rw [hpl] at hfk
                    simp only [Option.bind_some, Array.getElem?_eq_getElem hje, Option.map_some] at hfk
                    have hkey : (ents[j]).key = str l := by
                      obtain ⟨v', hv', _⟩ := (place_find l es).1 j hpl
                      exact h4 j _ _ hv' (Array.getElem?_eq_getElem hje)
                    have hsame : Instr.sameBits 10000 (str l) (str l) = true := by
                      show Instr.sameBits (9999 + 1) (str l) (str l) = true
                      unfold str
                      simp only [Instr.sameBits]
                      rw [beq_toListBytes]; simp
                    have hkept := kept_setObj h2 (.map (ents.modify j fun e => { e with key := str l, val := uv }) clock)
                    refine ⟨_, ?_, Post.update hH hB h1 hkept ?_ (.const _)⟩
                    · unfold Instr.mapUpdate
                      simp only [Sem.run_bind, run_underlying g2, Result.andThen_ok]
                      simp only [run_getObj_map h2, Sem.run_bind, Result.andThen_ok, run_checkKey_str _ _ g2', hfk, Array.getElem?_eq_getElem hje, Option.map_some, Option.getD_some, hkey, Instr.keyThatStays, hsame, if_true, Sem.run_pure]
                      exact run_setObj_map h2 _
                    · rw [pf.1 j hpl]
                      refine ⟨g, _, _, h1, heap_setObj hgl, by simp [h3], ?_, ?_⟩
                      · intro i e m he hm'
                        rw [List.getElem?_set] at he
                        rw [Array.getElem?_modify] at hm'
                        by_cases hij : j = i
                        · subst hij
                          simp [hj] at he; subst he
                          simp [hje] at hm'; subst hm'; rfl
                        · rw [if_neg hij] at he hm'
                          exact h4 i e m he hm'
                      · intro i e m he hm'
                        refine Rel.mono (w := w) (ok := ok) ?_ (fun _ h => h) (fun b hb hlt => hkept.block b hlt (hokg b hb hlt))
                        rw [List.getElem?_set] at he
                        rw [Array.getElem?_modify] at hm'
                        by_cases hij : j = i
                        · subst hij
                          simp [hj] at he; subst he
                          simp [hje] at hm'; subst hm'; exact hv
                        · rw [if_neg hij] at he hm'
                          exact h5 i e m he hm'
            · cases h
          · cases h
        · cases h
    · cases h

end
end Go.Aw
