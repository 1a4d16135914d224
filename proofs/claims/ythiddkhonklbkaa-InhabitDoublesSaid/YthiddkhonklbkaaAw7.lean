/- Each operation does to the machine what it does to abstract values (fourth part: cuts, lengths, maps, stores). -/
import Derived.Test.YthiddkhonklbkaaAw6
set_option linter.unusedVariables false
set_option linter.unusedSimpArgs false
namespace Go.Aw
open Go
section
variable {P : Program} {D : Types} {w : World} {ρ : Names} {ok : Nat → Prop} {H : Heap}

/-- An operand that may be missing. -/
def ORel (w : World) (ρ : Names) (ok : Nat → Prop) : Option AV → Option Value → Prop
  | none, none => True
  | some a, some v => AVRel w ρ ok a v
  | _, _ => False

theorem run_bounds {lo hi : Option AV} {ulo uhi : Option Value} (h1 : ORel w ρ ok lo ulo) (h2 : ORel w ρ ok hi uhi) (s : Bool) {n cap : Nat} (hc : n ≤ cap) {a b : Int} (ha : boundF 0 lo = some a) (hb : boundF n hi = some b)
    (h0 : 0 ≤ a) (hab : a ≤ b) (hbc : b ≤ cap) : (Instr.sliceBounds s n cap ulo uhi none).run P w = .ok (a.toNat, b.toNat, cap) w := by
  have hlo : (ulo = none ∧ a = 0) ∨ ∃ k, ulo = some (.int k a) := by
    cases lo with
    | none => cases ulo with
      | none => simp [boundF] at ha; exact .inl ⟨rfl, ha.symm⟩
      | some _ => exact h1.elim
    | some x => cases ulo with
      | none => exact h1.elim
      | some v =>
        simp only [boundF, Option.map_eq_some_iff] at ha
        obtain ⟨⟨k, q⟩, hq, rfl⟩ := ha
        exact .inr ⟨k, by rw [AVRel.asI h1 hq]⟩
  have hhi : (uhi = none ∧ b = n) ∨ ∃ k, uhi = some (.int k b) := by
    cases hi with
    | none => cases uhi with
      | none => simp [boundF] at hb; exact .inl ⟨rfl, hb.symm⟩
      | some _ => exact h2.elim
    | some x => cases uhi with
      | none => exact h2.elim
      | some v =>
        simp only [boundF, Option.map_eq_some_iff] at hb
        obtain ⟨⟨k, q⟩, hq, rfl⟩ := hb
        exact .inr ⟨k, by rw [AVRel.asI h2 hq]⟩
  have eb : (b.toNat : Int) = b := Int.toNat_of_nonneg (by omega)
  have s1 : ∀ k, (Instr.sliceBound (.int k a) b.toNat .sliceB).run P w = .ok a.toNat w := fun k => run_sliceBound w k a b.toNat .sliceB h0 (by omega)
  have s2 : ∀ k c, (Instr.sliceBound (.int k b) cap c).run P w = .ok b.toNat w := fun k c => run_sliceBound w k b cap c (by omega) hbc
  rcases hlo with ⟨rfl, rfl⟩ | ⟨k, rfl⟩ <;> rcases hhi with ⟨rfl, rfl⟩ | ⟨k', rfl⟩
  · simp [Instr.sliceBounds]
  · simp [Instr.sliceBounds, s2]
  · simp only [Int.toNat_natCast] at s1; simp [Instr.sliceBounds, s1]
  · simp [Instr.sliceBounds, s1, s2]

theorem extract_str (l : List UInt8) (a b : Nat) : (⟨l.toArray⟩ : ByteArray).extract a b = ⟨((l.take b).drop a).toArray⟩ := by
  apply ByteArray.ext
  simp [ByteArray.data_extract, List.extract_eq_take_drop, List.drop_take]

theorem flat_cut {sz : Nat} {xs : List PV} (hsz : ∀ x ∈ xs, x.cells.length = sz) (a b : Nat) : flat ((xs.take b).drop a) = ((flat xs).take (b * sz)).drop (a * sz) := by
  rw [flat_drop (fun x hx => hsz x (List.mem_of_mem_take hx)), flat_take hsz]

/-- Of a slice that reads so, a cut. -/
theorem Rel.cut {sz : Nat} {xs : List PV} {A : Option Addr} {c n : Nat} (h : Rel w ok (.fro sz xs) (.slice A n c)) {a b : Nat} (hab : a ≤ b) (hb : b ≤ xs.length) :
    n = xs.length ∧ xs.length ≤ c ∧ Rel w ok (.fro sz ((xs.take b).drop a)) (.slice (if c = a then A else A.map (·.add (a * sz))) (b - a) (c - a)) := by
  cases h with
  | fro _ _ _ _ us hc hm hsz hone hu hr hA =>
    refine ⟨rfl, hc, ?_⟩
    have hlen : ((xs.take b).drop a).length = b - a := by simp; omega
    rw [← hlen]
    have hmem : ∀ x ∈ (xs.take b).drop a, x ∈ xs := fun x hx => List.mem_of_mem_take (List.mem_of_mem_drop hx)
    have hbs : b * sz ≤ us.length := by rw [hu]; exact Nat.mul_le_mul_right _ hb
    refine .fro sz _ _ _ ((us.take (b * sz)).drop (a * sz)) (by omega) (by omega) (fun x hx => hsz x (hmem x hx)) ?_ ?_ ?_ ?_
    · intro p hp
      rw [flat_cut hsz] at hp
      exact hone p (List.mem_of_mem_take (List.mem_of_mem_drop hp))
    · rw [hlen, List.length_drop, List.length_take, Nat.min_eq_left hbs, ← Nat.sub_mul]
    · intro i p u hp hu'
      rw [flat_cut hsz, List.getElem?_drop, List.getElem?_take] at hp
      rw [List.getElem?_drop, List.getElem?_take] at hu'
      split at hp
      · rename_i hlt
        rw [if_pos hlt] at hu'
        exact hr _ p u hp hu'
      · cases hp
    · intro hp
      rw [hlen] at hp
      obtain ⟨ad, rfl, hs, hok, hlt, hcell⟩ := hA (by omega)
      rw [if_neg (by omega)]
      refine ⟨ad.add (a * sz), rfl, add_spot _ _ hs, by rw [add_block]; exact hok, by rw [add_block]; exact hlt, fun k u hk => ?_⟩
      rw [List.getElem?_drop, List.getElem?_take] at hk
      split at hk
      · rw [add_add]; exact hcell _ u hk
      · cases hk

theorem slice_sound (hA : Agrees P D) {t : TypeId} {x : AV} {u : Value} {lo hi mx : Option AV} {ulo uhi umx : Option Value} {out : AV} (hx : AVRel w ρ ok x u) (h1 : ORel w ρ ok lo ulo) (h2 : ORel w ρ ok hi uhi) (h3 : ORel w ρ ok mx umx)
    (h : sliceF D t x lo hi mx = some out) : ∃ r, (Instr.sliceAt t u ulo uhi umx).run P w = .ok r w ∧ AVRel w ρ ok out r := by
  unfold sliceF at h
  cases hi' : D t with
  | none => simp [hi'] at h
  | some ti =>
    obtain ⟨⟨info, ds, z, g1, g2, g3, g4, g5, g6, g7, g8⟩, hl, h1c, hp⟩ := hA t ti hi'
    simp only [hi', Option.bind_some] at h
    split at h
    · rename_i hk
      obtain rfl : umx = none := by cases umx with | none => rfl | some _ => exact h3.elim
      rw [hk] at g7; cases g7
      simp only [Option.bind_eq_some_iff] at h
      obtain ⟨l, hl', a, ha, b, hb, h⟩ := h
      split at h
      · rename_i hc
        cases h
        rw [hx.asL hl']
        refine ⟨str ((l.take b.toNat).drop a.toNat), ?_, .const _⟩
        have hbd := run_bounds (P := P) h1 h2 false (Nat.le_refl l.length) ha hb hc.1 hc.2.1 hc.2.2
        simp only [Instr.sliceAt, Sem.run_bind, run_underlying g2, Result.andThen_ok, Instr.slice, str, Option.isSome_none, Bool.false_eq_true, if_false, Sem.run_pure]
        have hs : (⟨l.toArray⟩ : ByteArray).size = l.length := by simp [ByteArray.size]
        simp only [hs, hbd, Result.andThen_ok, Sem.run_pure, extract_str]
      · cases h
    · rename_i e hk
      obtain rfl : umx = none := by cases umx with | none => rfl | some _ => exact h3.elim
      rw [hk] at g7; cases g7
      have he : P.underlying t = some (.slice (P.elem t)) := by simp [Program.elem, g2]
      have hee : P.elem t = e := by simp [Program.elem, g2]
      split at h
      · rename_i sz xs
        simp only [Option.bind_eq_some_iff] at h
        obtain ⟨a, ha, b, hb, h⟩ := h
        split at h
        · rename_i hc
          obtain ⟨hsz, h0, hab, hbx⟩ := hc
          cases h
          simp only [sizeAt, Option.map_eq_some_iff] at hsz
          obtain ⟨ei, hei, rfl⟩ := hsz
          cases hx with
          | p _ _ hx =>
            obtain ⟨A, n, c, rfl⟩ : ∃ A n c, u = .slice A n c := by cases hx; exact ⟨_, _, _, rfl⟩
            obtain ⟨rfl, hc, hcut⟩ := hx.cut (a := a.toNat) (b := b.toNat) (by omega) (by omega)
            have hbd := run_bounds (P := P) h1 h2 true hc ha hb h0 hab (by omega)
            refine ⟨_, ?_, .p _ _ hcut⟩
            rw [run_sliceAt_slice w t _ _ _ _ he, run_slice_any w t A _ c he, hbd]
            simp only [Result.andThen_ok, hee, run_sizeOf_fits (hA e ei hei), sliced]
        · cases h
      · rename_i id sz off len
        simp only [Option.bind_eq_some_iff] at h
        obtain ⟨a, ha, b, hb, h⟩ := h
        split at h
        · rename_i hc
          obtain ⟨hsz, h0, hab, hbx⟩ := hc
          cases h
          simp only [sizeAt, Option.map_eq_some_iff] at hsz
          obtain ⟨ei, hei, rfl⟩ := hsz
          cases hx with
          | sl _ _ _ _ A c hc hm hx =>
            have hbd := run_bounds (P := P) h1 h2 true hc ha hb h0 hab (by omega)
            refine ⟨.slice (if c = a.toNat then A else A.map (·.add (a.toNat * ei.size))) (b.toNat - a.toNat) (c - a.toNat), ?_, ?_⟩
            · rw [run_sliceAt_slice w t _ _ _ _ he, run_slice_any w t A _ c he, hbd]
              simp only [Result.andThen_ok, hee, run_sizeOf_fits (hA e ei hei), sliced]
            · refine .sl id ei.size _ _ _ _ (by omega) (by omega) ?_
              rcases hx with ⟨rfl, rfl, rfl, hvn⟩ | ⟨g, cur, ty, o, hg, rfl, ho, hgg, hcs⟩
              · have : a.toNat = 0 := by omega
                exact .inl ⟨by simp, by omega, by omega, hvn⟩
              · by_cases hca : c = a.toNat
                · rw [if_pos hca]
                  refine .inr ⟨g, cur, ty, o, hg, rfl, ?_, hgg, by rw [hcs]; congr 1; omega⟩
                  intro hh
                  have h0' : off = 0 ∧ a.toNat = 0 := by omega
                  rw [h0'.1, h0'.2]
                  have := ho (.inl h0'.1)
                  rw [h0'.1] at this
                  simpa using this
                · rw [if_neg hca]
                  have ho' := ho (.inr (by omega))
                  subst ho'
                  refine .inr ⟨g, cur, ty, (off + a.toNat) * ei.size, hg, ?_, fun _ => rfl, hgg, by rw [hcs]; congr 1; omega⟩
                  simp [add_plain, Nat.add_mul]
        · cases h
      · cases h
    · cases h

theorem len_sound (hA : Agrees P D) (hH : HeapOK w ρ ok H) {t : TypeId} {x : AV} {u : Value} {out : AV} (hx : AVRel w ρ ok x u) (h : lenF D t x (hlook H) = some out) (ty : TypeId) :
    ∃ r, (Builtin.len_ #[t] ty #[u]).run P w = .ok r w ∧ AVRel w ρ ok out r := by
  unfold lenF at h
  cases hi' : D t with
  | none => simp [hi'] at h
  | some ti =>
    obtain ⟨⟨info, ds, z, g1, g2, g3, g4, g5, g6, g7, g8⟩, hl, h1c, hp⟩ := hA t ti hi'
    simp only [hi', Option.bind_some] at h
    split at h
    · rename_i hk
      rw [hk] at g7; cases g7
      simp only [Option.map_eq_some_iff] at h
      obtain ⟨l, hl', rfl⟩ := h
      rw [hx.asL hl']
      have hs : (⟨l.toArray⟩ : ByteArray).size = l.length := by simp [ByteArray.size]
      exact ⟨.int .i64 l.length, by simp [Builtin.len_, run_underlying g2, str, goInt, hs], .const _⟩
    · rename_i e hk
      rw [hk] at g7; cases g7
      split at h
      · rename_i n xs
        cases h
        cases hx with
        | p _ _ hx =>
          cases hx with
          | fro _ _ A c us hc hm hsz hone hu hr hA' => exact ⟨.int .i64 xs.length, by simp [Builtin.len_, run_underlying g2, goInt], .const _⟩
      · rename_i id sz off len
        cases h
        cases hx with
        | sl _ _ _ _ A c hc hm hx => exact ⟨.int .i64 len, by simp [Builtin.len_, run_underlying g2, goInt], .const _⟩
      · rename_i A n c
        cases h
        cases hx with
        | p _ _ hx => cases hx; exact ⟨.int .i64 n, by simp [Builtin.len_, run_underlying g2, goInt], .const _⟩
      · cases h
    · rename_i k v hk
      rw [hk] at g7; cases g7
      split at h
      · rename_i id
        simp only [Option.bind_eq_some_iff] at h
        obtain ⟨B, hB, h⟩ := h
        split at h
        · rename_i es
          cases h
          obtain ⟨g, ents, clock, h1, h2, h3, _⟩ := hH.blk id _ hB
          cases hx with
          | mp _ g' hg' =>
            rw [h1] at hg'; cases hg'
            exact ⟨.int .i64 es.length, by simp [Builtin.len_, run_underlying g2, Go.getObj, Sem.run, h2, h3, goInt], .const _⟩
        · cases h
      · rename_i es
        cases h
        cases hx with
        | p _ _ hx =>
          cases hx with
          | fmapNil => exact ⟨.int .i64 0, by simp [Builtin.len_, run_underlying g2, goInt], .const _⟩
          | fmap _ g ents clock hg hok hl hk hr => exact ⟨.int .i64 es.length, by simp [Builtin.len_, run_underlying g2, Go.getObj, Sem.run, hg, hl, goInt], .const _⟩
      · cases h
    · cases h

/-! ### maps -/
theorem run_checkKey_str (empty : Bool) (kt : TypeId) (h : P.underlying kt = some .string) (v : Value) : (Instr.checkKey empty 10000 kt v).run P w = .ok () w := by
  show (Instr.checkKey empty (9999 + 1) kt v).run P w = _
  rw [Instr.checkKey]
  simp [run_underlying h]
theorem str_beq (a b : List UInt8) : Instr.sameNow .string (str a) (str b) = some (a == b) := by
  simp only [Instr.sameNow, str]
  congr 1
  rw [beq_toListBytes, byteArray_toList, byteArray_toList]
/-- Where a key is. -/
def place (k : List UInt8) : List (List UInt8 × PV) → Option Nat
  | [] => none
  | (q, _) :: r => if k = q then some 0 else (place k r).map (· + 1)
theorem findNow_str {es : List (List UInt8 × PV)} {ents : List MapEntry} (hl : ents.length = es.length) (hk : ∀ (i : Nat) (e : List UInt8 × PV) (m : MapEntry), es[i]? = some e → ents[i]? = some m → m.key = str e.1) (k : List UInt8) (n : Nat) :
    Instr.findNow .string (str k) ents n = some ((place k es).bind fun i => (ents[i]?).map fun m => (n + i, m.val)) := by
  induction ents generalizing es n with
  | nil =>
    have : es = [] := List.eq_nil_of_length_eq_zero (by simpa using hl.symm)
    subst this; rfl
  | cons m ms ih =>
    cases es with
    | nil => simp at hl
    | cons e es =>
      obtain ⟨q, v⟩ := e
      have h0 := hk 0 (q, v) m rfl rfl
      simp only at h0
      rw [Instr.findNow, h0, str_beq]
      by_cases e : k = q
      · subst e
        simp [place]
      · have : (k == q) = false := by simp [e]
        rw [this]
        simp only
        rw [ih (es := es) (by simpa using hl) (fun i e' m' h1 h2 => hk (i + 1) e' m' (by simpa using h1) (by simpa using h2)) (n + 1)]
        simp only [place, if_neg e]
        cases place k es with
        | none => rfl
        | some j => simp [Nat.add_assoc, Nat.add_comm 1 j]
theorem place_find (k : List UInt8) (es : List (List UInt8 × PV)) : (∀ i, place k es = some i → ∃ v, es[i]? = some (k, v) ∧ find k es = some v) ∧ (place k es = none → find k es = none) := by
  induction es with
  | nil => exact ⟨fun i h => by simp [place] at h, fun _ => rfl⟩
  | cons e es ih =>
    obtain ⟨q, v⟩ := e
    by_cases e : k = q
    · subst e
      exact ⟨fun i h => by simp [place] at h; subst h; exact ⟨v, rfl, by simp [find]⟩, fun h => by simp [place] at h⟩
    · refine ⟨fun i h => ?_, fun h => ?_⟩
      · simp only [place, if_neg e, Option.map_eq_some_iff] at h
        obtain ⟨j, hj, rfl⟩ := h
        obtain ⟨v', h1, h2⟩ := ih.1 j hj
        exact ⟨v', by simpa using h1, by simp [find, e, h2]⟩
      · simp only [place, if_neg e, Option.map_eq_none_iff] at h
        simp [find, e, ih.2 h]

theorem zeroOf_some {i : TI} {t : TypeId} (hi : i.fits P t) {z : PV} (h : zeroOf i = some z) : ∃ v, z = .c v ∧ (zeroValue t).run P w = .ok v w := by
  obtain ⟨⟨info, ds, z', h1, h2, h3, h4, h5, h6, h7, h8⟩, hl, h1c, hp⟩ := hi
  unfold zeroOf at h
  split at h
  · cases h
  · rename_i z0 hz hne
    cases h
    refine ⟨z0, rfl, ?_⟩
    rw [run_zeroValue' h1 h5]
    rw [hz] at h6
    have hs : i.k.isSt = false := by
      cases hk : i.k <;> first | rfl | (exact absurd hk (hne _))
    have : z' = z0 := by rw [h8 hs] at h6; simpa using h6
    rw [this]
  · cases h

end
end Go.Aw
