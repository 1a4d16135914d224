/- append; and all operations together. -/
import Derived.Test.YthiddkhonklbkaaAw9
set_option linter.unusedVariables false
set_option linter.unusedSimpArgs false
namespace Go.Aw
open Go
section
variable {P : Program} {D : Types} {w : World} {ρ : Names} {ok : Nat → Prop} {H : Heap}

theorem HeapOK.drop (hH : HeapOK w ρ ok H) (id : Nat) : HeapOK w ρ ok ((id, none) :: H) := by
  have key : ∀ i B, hlook ((id, none) :: H) i = some B → hlook H i = some B := by
    intro i B h
    rw [hlook_cons] at h
    split at h
    · cases h
    · exact h
  exact ⟨fun i B h => hH.blk i B (key i B h), fun i B g h => hH.away i B g (key i B h), fun i i' B B' g h h' => hH.inj i i' B B' g (key i B h) (key i' B' h'), hH.lt⟩

theorem HeapOK.newAt {w' : World} (hH : HeapOK w ρ ok H) {d g : Nat} (hk : Kept w w' (fun b => b = g)) (hd : ρ d = none) (hdH : hlook H d = none) (hgok : ¬ ok g) (hfree : ∀ id B, hlook H id = some B → ρ id ≠ some (some g)) {B : Blk}
    (hB : BlkOK w' (bindρ ρ d g) ok d B) : HeapOK w' (bindρ ρ d g) ok ((d, some B) :: H) := by
  have hokg : ∀ b, ok b → ¬ b = g := fun b hb e => hgok (e ▸ hb)
  refine ⟨fun id B' h => ?_, fun id B' g' h hρ hok => ?_, fun id id' B1 B2 g' h h' hρ hρ' => ?_, fun b hb => Nat.lt_of_lt_of_le (hH.lt b hb) hk.size⟩
  · rw [hlook_cons] at h
    split at h
    · rename_i e; subst e; cases h; exact hB
    · rename_i hne
      exact (hH.blk id B' h).mono (bindρ_ext hd) (fun _ h => h) hk hokg (fun g' hg' e => hfree id B' h (e ▸ hg'))
  · rw [hlook_cons] at h
    split at h
    · rename_i e; subst e
      rw [bindρ_same] at hρ; cases hρ
      exact hgok hok
    · rename_i hne
      rw [bindρ_ne hne] at hρ
      exact hH.away id B' g' h hρ hok
  · rw [hlook_cons] at h h'
    split at h
    · rename_i e; subst e
      rw [bindρ_same] at hρ; cases hρ
      split at h'
      · rename_i e'; exact e'.symm
      · rename_i hne
        rw [bindρ_ne hne] at hρ'
        exact absurd hρ' (hfree id' B2 h')
    · rename_i hne
      rw [bindρ_ne hne] at hρ
      split at h'
      · rename_i e'; subst e'
        rw [bindρ_same] at hρ'; cases hρ'
        exact absurd hρ (hfree id B1 h)
      · rename_i hne'
        rw [bindρ_ne hne'] at hρ'
        exact hH.inj id id' B1 B2 g' h h' hρ hρ'

theorem hlook_drop (id : Nat) : ∀ i B, hlook ((id, none) :: H) i = some B → hlook H i = some B := by
  intro i B h
  rw [hlook_cons] at h
  split at h
  · cases h
  · exact h
def bindv (ρ : Names) (d : Nat) : Names := fun i => if i = d then some none else ρ i
theorem bindv_ext {d : Nat} (hd : ρ d = none) : ∀ id x, ρ id = some x → bindv ρ d id = some x := by
  intro id x h
  unfold bindv
  split
  · rename_i e; subst e; rw [hd] at h; cases h
  · exact h
theorem bindv_same (d : Nat) : bindv ρ d d = some none := by simp [bindv]
theorem bindv_ne {d i : Nat} (h : i ≠ d) : bindv ρ d i = ρ i := by simp [bindv, h]
theorem HeapOK.virtual (hH : HeapOK w ρ ok H) {d : Nat} (hd : ρ d = none) (ty : TypeId) (sz : Nat) : HeapOK w (bindv ρ d) ok ((d, some (.row ty sz [])) :: H) := by
  refine ⟨fun id B h => ?_, fun id B g h hρ => ?_, fun i i' B B' g h h' hρ hρ' => ?_, hH.lt⟩
  · rw [hlook_cons] at h
    split at h
    · rename_i e; subst e; cases h; exact .inl ⟨bindv_same _, rfl⟩
    · exact (hH.blk id B h).mono (T := fun _ => False) (bindv_ext hd) (fun _ h => h) (Kept.refl _ _) (fun _ _ h => h) (fun _ _ h => h)
  · rw [hlook_cons] at h
    split at h
    · rename_i e; subst e; rw [bindv_same] at hρ; cases hρ
    · rename_i hne; rw [bindv_ne hne] at hρ; exact hH.away id B g h hρ
  · rw [hlook_cons] at h h'
    split at h
    · rename_i e; subst e; rw [bindv_same] at hρ; cases hρ
    · rename_i hne
      rw [bindv_ne hne] at hρ
      split at h'
      · rename_i e; subst e; rw [bindv_same] at hρ'; cases hρ'
      · rename_i hne'; rw [bindv_ne hne'] at hρ'; exact hH.inj i i' B B' g h h' hρ hρ'
theorem Post.virtual (hH : HeapOK w ρ ok H) {d : Nat} (hd : ρ d = none) (ty : TypeId) (sz : Nat) (up : Heap) (H' : Heap) (hup : up ++ H = (d, some (.row ty sz [])) :: H') (hH' : HeapOK w ρ ok H') (hsub : ∀ i B, hlook H' i = some B → hlook H i = some B) :
    Post w ρ ok H ⟨.sl d sz 0 0, up, [d]⟩ (.slice none 0 0) w (bindv ρ d) :=
  ⟨.sl d sz 0 0 none 0 (Nat.le_refl _) (by simp [maxLen]) (.inl ⟨rfl, rfl, rfl, bindv_same _⟩), by rw [hup]; exact hH'.virtual hd ty sz, bindv_ext hd, fun id x h => by
    by_cases e : id = d
    · subst e; rw [bindv_same] at h; cases h; exact .inr ⟨by simp, fun g e => by cases e⟩
    · rw [bindv_ne e] at h; exact .inl h, fun b ⟨id, B', h1, h2⟩ => by
    rw [hup, hlook_cons] at h1
    split at h1
    · rename_i e; subst e; rw [bindv_same] at h2; cases h2
    · rename_i e; rw [bindv_ne e] at h2; exact .inl ⟨id, B', hsub _ _ h1, h2⟩, Kept.refl _ _⟩

/-- A slice's cells as read: the machine's. -/
theorem sliceCells_sound (hH : HeapOK w ρ ok H) {sz : Nat} (hpos : 0 < sz) {x : AV} {u : Value} {m : Nat} {news : List AV} (hx : AVRel w ρ ok x u) (h : sliceCells sz x (hlook H) = some (m, news)) :
    ∃ (A : Option Addr) (c : Nat) (us : List Value), u = .slice A m c ∧ us.length = m * sz ∧ news.length = m * sz ∧ (∀ a ∈ news, a.one = true) ∧ (∀ (k : Nat) (a : AV) (v : Value), news[k]? = some a → us[k]? = some v → AVRel w ρ ok a v) ∧
      (0 < m → ∃ ad, A = some ad ∧ ∀ (k : Nat) (v : Value), us[k]? = some v → w.cell? (ad.add k) = some v) := by
  unfold sliceCells at h
  split at h
  · cases h
    cases hx with
    | p _ _ hx => cases hx; exact ⟨none, 0, [], rfl, by simp, by simp, by simp, by simp, fun h => by omega⟩
  · rename_i n xs
    split at h
    · rename_i e; subst e; cases h
      cases hx with
      | p _ _ hx =>
        cases hx with
        | fro _ _ A c us hc hm hsz hone hu hr hA =>
          refine ⟨A, c, us, rfl, hu, by rw [List.length_map, flat_length hsz], ?_, ?_, fun hp => ?_⟩
          · intro a ha
            simp only [List.mem_map] at ha
            obtain ⟨q, hq, rfl⟩ := ha
            exact hone q hq
          · intro k a v ha hv
            simp only [List.getElem?_map, Option.map_eq_some_iff] at ha
            obtain ⟨q, hq, rfl⟩ := ha
            exact .p _ _ (hr k q v hq hv)
          · obtain ⟨ad, e, _, _, _, hcell⟩ := hA hp
            exact ⟨ad, e, hcell⟩
    · cases h
  · rename_i id n off len
    simp only [Option.bind_eq_some_iff] at h
    obtain ⟨B, hB, h⟩ := h
    split at h
    · rename_i ty sz' cs
      split at h
      · rename_i hc
        obtain ⟨rfl, hle⟩ := hc
        cases h
        cases hx with
        | sl _ _ _ _ A c hcc hm hx =>
          rcases hH.blk id _ hB with ⟨h1, rfl⟩ | ⟨g, cur, h1, h2, h3, h4, h5⟩
          · have hl0 : m = 0 := by
              rcases Nat.eq_zero_or_pos m with h0 | h0
              · exact h0
              · exfalso
                have : 1 * 1 ≤ (off + m) * n := Nat.mul_le_mul (by omega) hpos
                simp at hle; omega
            subst hl0
            exact ⟨A, c, [], rfl, by simp, by simp, by simp, by simp, fun h => by omega⟩
          · have hlen : (off + m) * n = off * n + m * n := Nat.add_mul _ _ _
            refine ⟨A, c, (cur.toList.drop (off * n)).take (m * n), rfl, by simp; omega, by simp; omega, fun a ha => h4 a (List.mem_of_mem_drop (List.mem_of_mem_take ha)), ?_, fun hp => ?_⟩
            · intro k a v ha hv
              rw [List.getElem?_take] at ha hv
              split at ha
              · rename_i hk
                rw [if_pos hk] at hv
                rw [List.getElem?_drop] at ha hv
                exact h5 _ a v ha (by simpa using hv)
              · cases ha
            · rcases hx with ⟨_, rfl, _⟩ | ⟨g', cur', ty', o, hg, rfl, ho, hgg, hcs⟩
              · omega
              · rw [h1] at hg; cases hg
                rw [h2] at hgg; cases hgg
                have ho := ho (.inr (by omega))
                subst ho
                refine ⟨_, rfl, fun k v hv => ?_⟩
                rw [List.getElem?_take] at hv
                split at hv
                · rw [List.getElem?_drop] at hv
                  rw [add_plain, cell_of_row w g (off * n + k) cur ty (0, 0) h2]
                  simpa using hv
                · cases hv
      · cases h
    · cases h
  · cases h

theorem run_append_zero {t e ty : TypeId} {i : TypeInfo} (ht : P.underlying t = some (.slice e)) (hi : P.info? e = some i) (b A : Option Addr) {n c : Nat} (c' : Nat) (hnc : n ≤ c) :
    (Builtin.append_ #[t, t] ty #[.slice b n c, .slice A 0 c']).run P w = .ok (.slice b n c) w := by
  cases b <;> cases A <;> simp [Builtin.append_, run_underlying ht, sizeOf, typeInfo, hi, Builtin.lenOf, Builtin.firstCells, loadCells, loadCellsFrom, hnc, storeCells]

theorem cells_after {sz n : Nat} {cs news : List AV} {cur cur' : Array Value} {us : List Value} (hcl : cs.length = n) (hcur : n ≤ cur.size) (hus : us.length = news.length)
    (hc : ∀ (k : Nat) (a : AV) (u : Value), cs[k]? = some a → cur[k]? = some u → AVRel w ρ ok a u) (hn : ∀ (k : Nat) (a : AV) (v : Value), news[k]? = some a → us[k]? = some v → AVRel w ρ ok a v)
    (h : ∀ k, k < n + us.length → cur'[k]? = (cur.toList.take n ++ us)[k]?) : ∀ (k : Nat) (a : AV) (u : Value), (cs ++ news)[k]? = some a → cur'[k]? = some u → AVRel w ρ ok a u := by
  intro k a u ha hu
  have hk : k < n + us.length := by
    have := (List.getElem?_eq_some_iff.1 ha).1
    rw [List.length_append] at this; omega
  rw [h k hk] at hu
  by_cases hkn : k < n
  · rw [List.getElem?_append_left (by omega)] at ha
    rw [List.getElem?_append_left (by simp; omega), List.getElem?_take, if_pos hkn] at hu
    exact hc k a u ha (by simpa using hu)
  · rw [List.getElem?_append_right (by omega)] at ha
    rw [List.getElem?_append_right (by simp; omega)] at hu
    have e : (cur.toList.take n).length = n := by simp; omega
    rw [e] at hu
    rw [hcl] at ha
    exact hn _ a u ha hu

theorem conv_sound (hA : Agrees P D) (hH : HeapOK w ρ ok H) {s t : TypeId} {x : AV} {u : Value} {out : AV} (hx : AVRel w ρ ok x u) (h : convF D s t x (hlook H) = some out) : ∃ r, (convert s t u).run P w = .ok r w ∧ AVRel w ρ ok out r := by
  unfold convF at h
  cases hi : D s with
  | none => simp [hi] at h
  | some i =>
    cases hj : D t with
    | none => simp [hi, hj] at h
    | some j =>
      obtain ⟨⟨info, ds, z, h1, h2, h3, h4, h5, h6, h7, h8⟩, hl, h1c, hp⟩ := hA s i hi
      obtain ⟨⟨info', ds', z', h1', h2', h3', h4', h5', h6', h7', h8'⟩, hl', h1c', hp'⟩ := hA t j hj
      simp only [hi, hj, Option.bind_some] at h
      split at h
      · rename_i k k' hk hk'
        rw [hk] at h7; rw [hk'] at h7'; cases h7; cases h7'
        simp only [Option.map_eq_some_iff] at h
        obtain ⟨⟨q, n⟩, ha, rfl⟩ := h
        rw [hx.asI ha]
        exact ⟨.int k' (k'.wrap n), by simp [convert, run_underlying h2, run_underlying h2', Conv.intToInt], .const _⟩
      · rename_i hk hk'
        rw [hk] at h7; rw [hk'] at h7'; cases h7; cases h7'
        simp only [Option.map_eq_some_iff] at h
        obtain ⟨l, ha, rfl⟩ := h
        rw [hx.asL ha]
        exact ⟨str l, by simp [convert, run_underlying h2, run_underlying h2', str], .const _⟩
      · rename_i e hk hk'
        rw [hk] at h7; rw [hk'] at h7'; cases h7; cases h7'
        cases hb : D e with
        | none => simp [hb] at h
        | some b =>
          obtain ⟨⟨infb, db, zb, b1, b2, b3, b4, b5, b6, b7, b8⟩, _, _, _⟩ := hA e b hb
          simp only [hb, Option.bind_some] at h
          split at h
          · rename_i hu
            have hbk : b.k = .int .u8 := by
              cases hbk : b.k with
              | int k => cases k <;> simp [hbk, isU8] at hu; rfl
              | _ => simp [hbk, isU8] at hu
            rw [hbk] at b7; cases b7
            rw [Option.bind_eq_some_iff] at h
            obtain ⟨⟨m, cs⟩, hcs, h⟩ := h
            rw [Option.map_eq_some_iff] at h
            obtain ⟨l, hl, rfl⟩ := h
            obtain ⟨A, c, us, rfl, hul, hcl, _, hrel, hcell⟩ := sliceCells_sound hH Nat.one_pos hx hcs
            have key : ∀ (cs : List AV) (us : List Value) (l : List UInt8), us.length = cs.length → bytesL cs = some l → (∀ (k : Nat) (a : AV) (v : Value), cs[k]? = some a → us[k]? = some v → AVRel w ρ ok a v) →
                ∀ (F : Value → ByteArray → Sem (ForInStep ByteArray)) (hF : ∀ n s, F (.int .u8 n) s = pure (ForInStep.yield (s.push (UInt8.ofNat n.toNat)))) (acc : ByteArray), (forIn us acc F : Sem ByteArray).run P w = .ok ⟨acc.data ++ l.toArray⟩ w := by
              intro cs
              induction cs with
              | nil =>
                intro us l hlen hb hrel F hF acc
                cases us with
                | cons _ _ => simp at hlen
                | nil =>
                  simp [bytesL] at hb; subst hb
                  simp
              | cons x r ih =>
                intro us l hlen hb hrel F hF acc
                cases us with
                | nil => simp at hlen
                | cons u us =>
                  have hx := hrel 0 x u rfl rfl
                  unfold bytesL at hb
                  split at hb
                  · rename_i h; cases h
                  · rename_i n r' he
                    cases he
                    rw [Option.map_eq_some_iff] at hb
                    obtain ⟨l', hl', rfl⟩ := hb
                    cases hx with
                    | p _ _ hr => cases hr with
                      | c =>
                        have := ih us l' (by simpa using hlen) hl' (fun k a v ha hv => hrel (k + 1) a v (by simpa using ha) (by simpa using hv)) F hF (acc.push (UInt8.ofNat n.toNat))
                        rw [List.forIn_cons, hF]
                        simp only [pure_bind, Sem.run_bind, Sem.run_pure, Result.andThen]
                        rw [this]
                        simp
                  · cases hb
            refine ⟨str l, ?_, .const _⟩
            rcases Nat.eq_zero_or_pos m with hm | hm
            · subst hm
              have hus : us = [] := List.eq_nil_of_length_eq_zero (by simpa using hul)
              have hcs0 : cs = [] := List.eq_nil_of_length_eq_zero (by simpa using hcl)
              subst hcs0
              simp [bytesL] at hl; subst hl
              cases A with
              | none => simp [convert, run_underlying h2, run_underlying h2', run_underlying b2, Conv.bytesToString, str]; rfl
              | some a => simp [convert, run_underlying h2, run_underlying h2', run_underlying b2, Conv.bytesToString, str, loadCells, loadCellsFrom]; rfl
            · obtain ⟨ad, rfl, hcell'⟩ := hcell hm
              have hload := run_loadCells_list (P := P) (w := w) ad us hcell'
              have hlm : us.length = m := by omega
              rw [hlm] at hload
              have hk2 := fun F hF => key cs us l (by omega) hl hrel F hF ByteArray.empty
              simp [convert, run_underlying h2, run_underlying h2', run_underlying b2, Conv.bytesToString, hload, Result.andThen]
              rw [hk2 _ (fun n s => rfl)]
              simp [str]
          · cases h
      · cases h

theorem append_sound (hA : Agrees P D) (hH : HeapOK w ρ ok H) {t t' : TypeId} {s x : AV} {us ux : Value} {d : Nat} {out : Out} (hs : AVRel w ρ ok s us) (hx : AVRel w ρ ok x ux) (h : appendF D t t' s x (hlook H) d = some out)
    (hd : out.new = [] ∨ (ρ d = none ∧ hlook H d = none)) (ty : TypeId) :
    ∃ v w' ρ', (Builtin.append_ #[t, t'] ty #[us, ux]).run P w = .ok v w' ∧ Post w ρ ok H out v w' ρ' := by
  unfold appendF at h
  split at h
  · rename_i ett; subst ett
    cases hi : D t with
    | none => simp [hi] at h
    | some ti =>
      obtain ⟨⟨info, ds, z, g1, g2, g3, g4, g5, g6, g7, g8⟩, hzl, h1c, hpos⟩ := hA t ti hi
      simp only [hi, Option.bind_some] at h
      split at h
      · rename_i e hk
        rw [hk] at g7; cases g7
        simp only [Option.bind_eq_some_iff] at h
        obtain ⟨i, hei, ⟨m, news⟩, hnews, h⟩ := h
        obtain ⟨⟨info', ds', z', g1', g2', g3', g4', g5', g6', g7', g8'⟩, hzl', h1c', hpos'⟩ := hA e i hei
        obtain ⟨A, c, un, rfl, hul, hnl, hn1, hnr, hncell⟩ := sliceCells_sound hH hpos' hx hnews
        have hone : ∀ u ∈ un, u.oneCell' = true := by
          intro u hu
          obtain ⟨k, hk⟩ := List.mem_iff_getElem?.1 hu
          have hlt : k < news.length := by have := (List.getElem?_eq_some_iff.1 hk).1; omega
          exact (hnr k _ u (List.getElem?_eq_getElem hlt) hk).one (hn1 _ (List.getElem_mem hlt))
        have hul' : un.length = m * info'.size := by rw [g3']; exact hul
        simp only at h
        split at h
        · -- nil
          split at h
          · rename_i hb
            cases h
            replace hd := hd.resolve_left (by simp)
            cases hs with
            | p _ _ hs =>
              cases hs
              rcases Nat.eq_zero_or_pos m with hm | hm
              · subst hm
                obtain rfl : news = [] := List.eq_nil_of_length_eq_zero (by simpa using hnl)
                exact ⟨_, w, bindv ρ d, run_append_zero g2 g1' none A c (Nat.le_refl 0), Post.virtual hH hd.1 e i.size _ H rfl hH (fun _ _ h => h)⟩
              · obtain ⟨ad, rfl, hcell⟩ := hncell hm
                have hr := run_append_nil (P := P) w t ty e info' z' g2 g1' g5' ad m c un hul' hcell hm (by omega) (by rw [g4']; omega)
                have hge := grownCap_ge w m 0 e
                have hcm : grownCap w m 0 e ≤ maxLen := grownCap_le_maxLen w m 0 e (by simp only [maxLen]; omega)
                refine ⟨_, _, bindρ ρ d w.heap.size, hr, ?_⟩
                have hkp : Kept w (w.drew.alloc (.cells (un.toArray ++ Builtin.zeroCells z'.cells (grownCap w m 0 e - m)) e)) (fun _ => False) := (kept_drew w _).trans (kept_alloc w.drew _ _) (fun _ _ h => h)
                refine Post.made hH hkp hd.1 hd.2 (Nat.le_refl _) ?_ ?_
                · refine BlkOK.row_new (bindρ_same _ _) (heap_alloc_new w.drew _) (by simp; omega) hn1 (fun k a v ha hv => ?_)
                  have hlt : k < un.length := by have := (List.getElem?_eq_some_iff.1 ha).1; omega
                  rw [Array.getElem?_append_left (by simpa using hlt)] at hv
                  exact (hnr k a v ha (by simpa using hv)).mono (bindρ_ext hd.1) (fun _ h => h) hkp (fun _ _ h => h)
                · refine .sl d i.size 0 m _ _ hge hcm (.inr ⟨w.heap.size, _, e, 0, bindρ_same _ _, rfl, fun _ => by simp, heap_alloc_new w.drew _, ?_⟩)
                  have hzs : z'.cells.size = i.size := by rw [← hzl', ← g6']; simp
                  simp only [Array.size_append, List.size_toArray, size_zeroCells, hzs, hul, ← Nat.add_mul]
                  congr 1; omega
          · cases h
        · rename_i id sz off len
          rw [Option.bind_eq_some_iff] at h
          obtain ⟨B, hB, h⟩ := h
          split at h
          · rename_i bty bsz cs
            split at h
            · rename_i hc
              obtain ⟨rfl, rfl, rfl⟩ := hc
              cases hs with
              | sl _ _ _ _ A0 c0 hcc hcm0 hs =>
                have hblk := hH.blk id _ hB
                by_cases hfull : cs.length = len * i.size
                · rw [if_pos hfull] at h
                  split at h
                  · rename_i hb
                    cases h
                    replace hd := hd.resolve_left (by simp)
                    have hdid : d ≠ id := fun e0 => by subst e0; rw [hd.2] at hB; cases hB
                    have hdrop := hH.drop id
                    have hdH1 : hlook ((id, none) :: H) d = none := by rw [hlook_cons, if_neg hdid]; exact hd.2
                    have hzs : z'.cells.size = i.size := by rw [← hzl', ← g6']; simp
                    -- the elder block, if it is real
                    rcases hs with ⟨rfl, rfl, _, hvn⟩ | ⟨g, cur, ty0, o, hg, rfl, ho, hgg, hcs⟩
                    · have hl0 : len = 0 := by omega
                      subst hl0
                      have hcs0 : cs = [] := List.eq_nil_of_length_eq_zero (by simpa using hfull)
                      subst hcs0
                      rcases Nat.eq_zero_or_pos m with hm | hm
                      · subst hm
                        obtain rfl : news = [] := List.eq_nil_of_length_eq_zero (by simpa using hnl)
                        exact ⟨_, w, bindv ρ d, run_append_zero g2 g1' none A c (Nat.le_refl 0), Post.virtual hH hd.1 bty i.size _ ((id, none) :: H) rfl hdrop (hlook_drop id)⟩
                      · obtain ⟨ad, rfl, hcell⟩ := hncell hm
                        have hb1 := hb.1
                        rw [Nat.zero_add] at hb1
                        have hr := run_append_nil (P := P) w t ty bty info' z' g2 g1' g5' ad m c un hul' hcell hm (by omega) (by rw [g4']; omega)
                        have hge := grownCap_ge w m 0 bty
                        have hcm : grownCap w m 0 bty ≤ maxLen := grownCap_le_maxLen w m 0 bty (by simp only [maxLen]; omega)
                        refine ⟨_, _, bindρ ρ d w.heap.size, hr, ?_⟩
                        have hkp : Kept w (w.drew.alloc (.cells (un.toArray ++ Builtin.zeroCells z'.cells (grownCap w m 0 bty - m)) bty)) (fun _ => False) := (kept_drew w _).trans (kept_alloc w.drew _ _) (fun _ _ h => h)
                        have hp := Post.made (ok := ok) (av := .sl d i.size 0 (0 + m)) (v := .slice (some ⟨w.heap.size, 0, none⟩) m (grownCap w m 0 bty)) (B := .row bty i.size ([] ++ news)) hdrop hkp hd.1 hdH1 (Nat.le_refl _) ?_ ?_
                        · exact ⟨hp.val, hp.heap, hp.ext, fun id' g' h' => by
                            rcases hp.new id' g' h' with h' | ⟨h1, h2⟩
                            · exact .inl h'
                            · exact .inr ⟨h1, fun g e => (h2 g e).imp (fun h => h) (fun ⟨old, B', h3, h4⟩ => ⟨old, B', (by rw [hlook_cons] at h3; split at h3; cases h3; exact h3), h4⟩)⟩, fun b hb => (hp.own b hb).imp (fun ⟨i, B', h1, h2⟩ => ⟨i, B', hlook_drop id i B' h1, h2⟩) (fun h => h), hkp.mono (fun _ _ h => h.elim)⟩
                        · refine BlkOK.row_new (bindρ_same _ _) (heap_alloc_new w.drew _) (by simp; omega) (by simpa using hn1) (fun k a v ha hv => ?_)
                          rw [List.nil_append] at ha
                          have hlt : k < un.length := by have := (List.getElem?_eq_some_iff.1 ha).1; omega
                          rw [Array.getElem?_append_left (by simpa using hlt)] at hv
                          exact (hnr k a v ha (by simpa using hv)).mono (bindρ_ext hd.1) (fun _ h => h) hkp (fun _ _ h => h)
                        · rw [Nat.zero_add]
                          refine .sl d i.size 0 m _ _ hge hcm (.inr ⟨w.heap.size, _, bty, 0, bindρ_same _ _, rfl, fun _ => by simp, heap_alloc_new w.drew _, ?_⟩)
                          simp only [Array.size_append, List.size_toArray, size_zeroCells, hzs, hul, ← Nat.add_mul]
                          congr 1; omega
                    · have ho0 := ho (.inl rfl)
                      simp only [Nat.zero_mul] at ho0
                      subst ho0
                      simp only [Nat.zero_add] at hcs
                      have hgl := lt_of_some hgg
                      -- what stands there
                      have hreal : ty0 = bty ∧ len * i.size ≤ cur.size ∧ (∀ a ∈ cs, a.one = true) ∧ ∀ (k : Nat) (a : AV) (u : Value), cs[k]? = some a → cur[k]? = some u → AVRel w ρ ok a u := by
                        rcases hblk with ⟨h1, h2⟩ | ⟨g', cur', h1, h2, h3, h4, h5⟩
                        · rw [h1] at hg; cases hg
                        · rw [h1] at hg; cases hg
                          rw [hgg] at h2; cases h2
                          exact ⟨rfl, by omega, h4, h5⟩
                      obtain ⟨rfl, hlc, hc1, hcr⟩ := hreal
                      have hfree : ∀ id' B', hlook ((id, none) :: H) id' = some B' → ρ id' ≠ some (some g) := by
                        intro id' B' h1 h2
                        rw [hlook_cons] at h1
                        split at h1
                        · cases h1
                        · rename_i hne
                          exact hne (hH.inj id' id B' _ g h1 hB h2 hg)
                      have hnok : ¬ ok g := hH.away id _ g hB hg
                      have hall1 : ∀ a ∈ cs ++ news, a.one = true := by
                        intro a ha
                        rcases List.mem_append.1 ha with ha | ha
                        · exact hc1 a ha
                        · exact hn1 a ha
                      by_cases hroom : len + m ≤ c0
                      · -- in place
                        have hfit : len * info'.size + un.length ≤ cur.size := by
                          rw [g3', hul, hcs, ← Nat.add_mul]; exact Nat.mul_le_mul_right _ hroom
                        have hfit' : len * i.size + un.length ≤ cur.size := by rw [g3'] at hfit; exact hfit
                        obtain ⟨w', cur', hrun, hkp, hcell', hcur', hsz'⟩ : ∃ (w' : World) (cur' : Array Value), (Builtin.append_ #[t, t] ty #[.slice (some ⟨g, 0, none⟩) len c0, .slice A m c]).run P w = .ok (.slice (some ⟨g, 0, none⟩) (len + m) c0) w' ∧
                            Kept w w' (fun b => b = g) ∧ w'.heap[g]? = some (.cells cur' ty0 (0, 0)) ∧ (∀ k, k < len * i.size + un.length → cur'[k]? = (cur.toList.take (len * i.size) ++ un)[k]?) ∧ cur'.size = cur.size := by
                          rcases Nat.eq_zero_or_pos m with hm | hm
                          · subst hm
                            obtain rfl : un = [] := List.eq_nil_of_length_eq_zero (by simpa using hul)
                            refine ⟨w, cur, run_append_zero g2 g1' _ A c hcc, Kept.refl _ _, hgg, fun k hk => ?_, rfl⟩
                            simp only [List.length_nil, Nat.add_zero] at hk
                            rw [List.append_nil, List.getElem?_take, if_pos hk]; simp
                          · obtain ⟨ad, rfl, hcell⟩ := hncell hm
                            have hr := run_append_room (P := P) w t ty ty0 info' g2 g1' g len c0 cur hgg ad m c un hul' hcell hone hroom hfit
                            have hs' : (cur.toList.take (len * info'.size) ++ un ++ cur.toList.drop (len * info'.size + un.length)).toArray.size = cur.size := by simp; omega
                            refine ⟨_, _, hr, kept_setRow hgg hs', setRow_heap w g cur _ ty0 _ hgg, fun k hk => ?_, hs'⟩
                            rw [g3', List.getElem?_toArray, List.getElem?_append_left (by simp; omega)]
                        have hB' : BlkOK w' (bindρ ρ d g) ok d (.row ty0 i.size (cs ++ news)) := by
                          refine BlkOK.row_new (bindρ_same _ _) hcell' (by rw [List.length_append, hsz']; omega) hall1 ?_
                          have hokg : ∀ b, ok b → ¬ b = g := fun b hb e => hnok (e ▸ hb)
                          exact cells_after (sz := i.size) (w := w') (ρ := bindρ ρ d g) (ok := ok) hfull (by omega) (by omega)
                            (fun k a u ha hu => (hcr k a u ha hu).mono (bindρ_ext hd.1) (fun _ h => h) hkp hokg)
                            (fun k a u ha hu => (hnr k a u ha hu).mono (bindρ_ext hd.1) (fun _ h => h) hkp hokg) hcur'
                        refine ⟨_, w', bindρ ρ d g, hrun, ?_⟩
                        refine ⟨.sl d i.size 0 (len + m) _ c0 hroom hcm0 (.inr ⟨g, cur', ty0, 0, bindρ_same _ _, rfl, fun _ => by simp, hcell', by rw [hsz', hcs, Nat.zero_add]⟩), hdrop.newAt hkp hd.1 hdH1 hnok hfree hB', bindρ_ext hd.1, fun id' g' h' => ?_, fun b ⟨i', B', h1, h2⟩ => ?_, hkp.mono (fun b _ e => ⟨id, _, by simp, hB, e ▸ hg⟩)⟩
                        rotate_left
                        · rw [List.cons_append, List.cons_append, List.nil_append, hlook_cons] at h1
                          split at h1
                          · rename_i e; subst e; rw [bindρ_same] at h2; cases h2; exact .inl ⟨id, _, hB, hg⟩
                          · rename_i e; rw [bindρ_ne e] at h2; exact .inl ⟨i', B', hlook_drop id i' B' h1, h2⟩
                        by_cases e0 : id' = d
                        · subst e0; rw [bindρ_same] at h'; cases h'
                          exact .inr ⟨by simp, fun g' e => by cases e; exact .inr ⟨id, _, hB, hg⟩⟩
                        · rw [bindρ_ne e0] at h'; exact .inl h'
                      · -- a new block
                        have hm : 0 < m := by omega
                        obtain ⟨ad, rfl, hcell⟩ := hncell hm
                        have hol : (cur.toList.take (len * i.size)).length = len * info'.size := by rw [g3']; simp; omega
                        have hold : ∀ j v, (cur.toList.take (len * i.size))[j]? = some v → w.cell? ((⟨g, 0, none⟩ : Addr).add j) = some v := by
                          intro j v hv
                          rw [List.getElem?_take] at hv
                          split at hv
                          · rw [add_plain, cell_of_row w g (0 + j) cur ty0 (0, 0) hgg, Nat.zero_add]; simpa using hv
                          · cases hv
                        have hr := run_append_grow (P := P) w t ty ty0 info' z' g2 g1' g5' ⟨g, 0, none⟩ len c0 (cur.toList.take (len * i.size)) hol hold ad m c un hul' hcell (by omega) (by omega) (by rw [g4']; exact growslice_fits (by omega) (by omega))
                        have hge := grownCap_ge w (len + m) c0 ty0
                        have hcm : grownCap w (len + m) c0 ty0 ≤ maxLen := grownCap_le_maxLen w (len + m) c0 ty0 (by simp only [maxLen]; omega)
                        refine ⟨_, _, bindρ ρ d w.heap.size, hr, ?_⟩
                        have hkp : Kept w (w.drew.alloc (.cells ((cur.toList.take (len * i.size)).toArray ++ un.toArray ++ Builtin.zeroCells z'.cells (grownCap w (len + m) c0 ty0 - (len + m))) ty0)) (fun _ => False) := (kept_drew w _).trans (kept_alloc w.drew _ _) (fun _ _ h => h)
                        have hp := Post.made (ok := ok) (av := .sl d i.size 0 (len + m)) (v := .slice (some ⟨w.heap.size, 0, none⟩) (len + m) (grownCap w (len + m) c0 ty0)) (B := .row ty0 i.size (cs ++ news)) hdrop hkp hd.1 hdH1 (Nat.le_refl _) ?_ ?_
                        · exact ⟨hp.val, hp.heap, hp.ext, fun id' g' h' => by
                            rcases hp.new id' g' h' with h' | ⟨h1, h2⟩
                            · exact .inl h'
                            · exact .inr ⟨h1, fun g e => (h2 g e).imp (fun h => h) (fun ⟨old, B', h3, h4⟩ => ⟨old, B', (by rw [hlook_cons] at h3; split at h3; cases h3; exact h3), h4⟩)⟩, fun b hb => (hp.own b hb).imp (fun ⟨i, B', h1, h2⟩ => ⟨i, B', hlook_drop id i B' h1, h2⟩) (fun h => h), hkp.mono (fun _ _ h => h.elim)⟩
                        · refine BlkOK.row_new (bindρ_same _ _) (heap_alloc_new w.drew _) (by simp; omega) hall1 ?_
                          refine cells_after (sz := i.size) (cur := cur) (us := un) hfull (by omega) (by omega) (fun k a u ha hu => (hcr k a u ha hu).mono (bindρ_ext hd.1) (fun _ h => h) hkp (fun _ _ h => h)) (fun k a u ha hu => (hnr k a u ha hu).mono (bindρ_ext hd.1) (fun _ h => h) hkp (fun _ _ h => h)) ?_
                          intro k hk
                          rw [Array.getElem?_append_left (by simp; omega)]
                          rw [← Array.getElem?_toList]; simp
                        · refine .sl d i.size 0 (len + m) _ _ hge hcm (.inr ⟨w.heap.size, _, ty0, 0, bindρ_same _ _, rfl, fun _ => by simp, heap_alloc_new w.drew _, ?_⟩)
                          have e1 : (cur.toList.take (len * i.size)).length = len * i.size := by simp; omega
                          simp only [Array.size_append, List.size_toArray, size_zeroCells, hzs, hul, e1, ← Nat.add_mul]
                          congr 1; omega
                  · cases h
                · rw [if_neg hfull] at h
                  split at h
                  · rename_i hle
                    cases h
                    rcases hblk with ⟨h1, rfl⟩ | ⟨g, cur, h1, h2, h3, h4, h5⟩
                    · exfalso
                      have hlm : (len + m) * i.size = len * i.size + m * i.size := Nat.add_mul _ _ _
                      simp only [List.length_nil] at hle hfull
                      omega
                    · rcases hs with ⟨rfl, rfl, _, hvn⟩ | ⟨g', cur', ty0, o, hg, rfl, ho, hgg, hcs⟩
                      · rw [h1] at hvn; cases hvn
                      · rw [h1] at hg; cases hg
                        rw [h2] at hgg; cases hgg
                        have ho0 := ho (.inl rfl)
                        simp only [Nat.zero_mul] at ho0
                        subst ho0
                        simp only [Nat.zero_add] at hcs
                        have hlm : (len + m) * i.size = len * i.size + m * i.size := Nat.add_mul _ _ _
                        have hroom : len + m ≤ c0 := by
                          have h6 : (len + m) * i.size ≤ c0 * i.size := by omega
                          exact Nat.le_of_mul_le_mul_right h6 hpos'
                        have hfit : len * info'.size + un.length ≤ cur.size := by rw [g3', hul]; omega
                        have hnok : ¬ ok g := hH.away id _ g hB h1
                        have hokg : ∀ b, ok b → ¬ b = g := fun b hb e => hnok (e ▸ hb)
                        have hone1 : ∀ a ∈ setSeg cs (len * i.size) news, a.one = true := by
                          intro a ha
                          unfold setSeg at ha
                          simp only [List.mem_append] at ha
                          rcases ha with (ha | ha) | ha
                          · exact h4 a (List.mem_of_mem_take ha)
                          · exact hn1 a ha
                          · exact h4 a (List.mem_of_mem_drop ha)
                        obtain ⟨w', cur', hrun, hkp, hcell', hcur', hsz'⟩ : ∃ (w' : World) (cur' : Array Value), (Builtin.append_ #[t, t] ty #[.slice (some ⟨g, 0, none⟩) len c0, .slice A m c]).run P w = .ok (.slice (some ⟨g, 0, none⟩) (len + m) c0) w' ∧
                            Kept w w' (fun b => b = g) ∧ w'.heap[g]? = some (.cells cur' bty (0, 0)) ∧ cur'.toList = setSeg cur.toList (len * i.size) un ∧ cur'.size = cur.size := by
                          rcases Nat.eq_zero_or_pos m with hm | hm
                          · subst hm
                            obtain rfl : un = [] := List.eq_nil_of_length_eq_zero (by simpa using hul)
                            exact ⟨w, cur, run_append_zero g2 g1' _ A c hcc, Kept.refl _ _, h2, by simp [setSeg], rfl⟩
                          · obtain ⟨ad, rfl, hcell⟩ := hncell hm
                            have hr := run_append_room (P := P) w t ty bty info' g2 g1' g len c0 cur h2 ad m c un hul' hcell hone hroom hfit
                            have hs' : (cur.toList.take (len * info'.size) ++ un ++ cur.toList.drop (len * info'.size + un.length)).toArray.size = cur.size := by simp; omega
                            exact ⟨_, _, hr, kept_setRow h2 hs', setRow_heap w g cur _ bty _ h2, by rw [g3']; rfl, hs'⟩
                        refine ⟨_, w', ρ, hrun, Post.update hH hB h1 hkp ?_ ?_⟩
                        · refine .inr ⟨g, cur', h1, hcell', by rw [setSeg_length _ _ _ (by omega), hsz']; exact h3, hone1, fun k a u ha hu => ?_⟩
                          rw [← Array.getElem?_toList, hcur', setSeg_get _ _ _ _ (by simp; omega)] at hu
                          rw [setSeg_get _ _ _ _ (by omega)] at ha
                          refine AVRel.mono ?_ (fun _ _ h => h) (fun _ h => h) hkp hokg
                          by_cases hc : len * i.size ≤ k ∧ k < len * i.size + news.length
                          · rw [if_pos hc] at ha
                            rw [if_pos (by omega)] at hu
                            exact hnr _ a u ha hu
                          · rw [if_neg hc] at ha
                            rw [if_neg (by omega)] at hu
                            exact h5 k a u ha (by simpa using hu)
                        · exact .sl id i.size 0 (len + m) _ c0 hroom hcm0 (.inr ⟨g, cur', bty, 0, h1, rfl, fun _ => by simp, hcell', by rw [hsz', hcs, Nat.zero_add]⟩)
                  · cases h
            · cases h
          · cases h
        · cases h
      · cases h
  · cases h

end
end Go.Aw
