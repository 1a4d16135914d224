/- Rows of plain data as they are read; a pointer's block read as it stands. -/
import Derived.Test.YthiddkhonklbkaaAw32
set_option linter.unusedVariables false
set_option linter.unusedSimpArgs false
namespace Go.Aw
open Go

def fitsRow (D : Types) (sz : Nat) (st : Bool) (B : Option Blk) (cs : List PV) : Prop := match B with
  | some (.row ty _ cs') => (match D ty with | some i => i.size = sz ∧ i.k.isSt = st | none => False) ∧ cs' = cs.map .p
  | _ => False
theorem snap_row {D : Types} {h : Nat → Option Blk} {k id sz len : Nat} {st : Bool} {cs xs : List PV} (hf : fitsRow D sz st (h id) cs) (hl : len * sz = cs.length) (hx : regroup st sz len cs = xs) : snap D h (k + 1) (.sl id sz 0 len) = some (.fro sz xs) := by
  unfold fitsRow at hf
  split at hf
  · rename_i ty z cs' hh
    obtain ⟨h1, rfl⟩ := hf
    split at h1
    · rename_i i hi
      obtain ⟨h2, h3⟩ := h1
      have e2 : ((cs.map AV.p).drop (0 * sz)).take (len * sz) = cs.map AV.p := by
        rw [Nat.zero_mul, List.drop_zero, List.take_of_length_le (by simp [hl])]
      simp only [snap, hh, Option.bind_some, hi]
      rw [if_pos ⟨h2, by simp [hl]⟩, e2, snapL_p, Option.map_some, h3, hx]
    · exact h1.elim
  · exact hf.elim
theorem snap_V {D : Types} {h : Nat → Option Blk} {k id : Nat} {l : List Val} (hf : fitsRow D 5 true (h id) (flat (l.map eV))) : snap D h (k + 1) (.sl id 5 0 l.length) = some (.fro 5 (l.map eV)) := snap_row hf (by rw [flat_V_len]) (regroup_V l)
theorem snap_F {D : Types} {h : Nat → Option Blk} {k id : Nat} {l : List SField} (hf : fitsRow D 10 true (h id) (flat (l.map eF))) : snap D h (k + 1) (.sl id 10 0 l.length) = some (.fro 10 (l.map eF)) := snap_row hf (by rw [flat_F_len]) (regroup_F l)
theorem snap_St {D : Types} {h : Nat → Option Blk} {k id : Nat} {l : List SStruct} (hf : fitsRow D 3 true (h id) (flat (l.map eSt))) : snap D h (k + 1) (.sl id 3 0 l.length) = some (.fro 3 (l.map eSt)) := snap_row hf (by rw [flat_St_len]) (regroup_St l)
theorem snap_I {D : Types} {h : Nat → Option Blk} {k id : Nat} {l : List Int} (hf : fitsRow D 1 false (h id) (l.map eI)) : snap D h (k + 1) (.sl id 1 0 l.length) = some (.fro 1 (l.map eI)) := snap_row hf (by simp) (regroup_1 eI l)
theorem snap_S {D : Types} {h : Nat → Option Blk} {k id : Nat} {l : List (List UInt8)} (hf : fitsRow D 1 false (h id) (l.map eS)) : snap D h (k + 1) (.sl id 1 0 l.length) = some (.fro 1 (l.map eS)) := snap_row hf (by simp) (regroup_1 eS l)

theorem snap_V8 {D : Types} {h : Nat → Option Blk} {id : Nat} {l : List Val} (hf : fitsRow D 5 true (h id) (flat (l.map eV))) : snap D h 8 (.sl id 5 0 l.length) = some (.fro 5 (l.map eV)) := snap_V (k := 7) hf
theorem snap_V7 {D : Types} {h : Nat → Option Blk} {id : Nat} {l : List Val} (hf : fitsRow D 5 true (h id) (flat (l.map eV))) : snap D h 7 (.sl id 5 0 l.length) = some (.fro 5 (l.map eV)) := snap_V (k := 6) hf
theorem snap_V6 {D : Types} {h : Nat → Option Blk} {id : Nat} {l : List Val} (hf : fitsRow D 5 true (h id) (flat (l.map eV))) : snap D h 6 (.sl id 5 0 l.length) = some (.fro 5 (l.map eV)) := snap_V (k := 5) hf
theorem snap_F8 {D : Types} {h : Nat → Option Blk} {id : Nat} {l : List SField} (hf : fitsRow D 10 true (h id) (flat (l.map eF))) : snap D h 8 (.sl id 10 0 l.length) = some (.fro 10 (l.map eF)) := snap_F (k := 7) hf
theorem snap_F7 {D : Types} {h : Nat → Option Blk} {id : Nat} {l : List SField} (hf : fitsRow D 10 true (h id) (flat (l.map eF))) : snap D h 7 (.sl id 10 0 l.length) = some (.fro 10 (l.map eF)) := snap_F (k := 6) hf
theorem snap_F6 {D : Types} {h : Nat → Option Blk} {id : Nat} {l : List SField} (hf : fitsRow D 10 true (h id) (flat (l.map eF))) : snap D h 6 (.sl id 10 0 l.length) = some (.fro 10 (l.map eF)) := snap_F (k := 5) hf
theorem snap_St8 {D : Types} {h : Nat → Option Blk} {id : Nat} {l : List SStruct} (hf : fitsRow D 3 true (h id) (flat (l.map eSt))) : snap D h 8 (.sl id 3 0 l.length) = some (.fro 3 (l.map eSt)) := snap_St (k := 7) hf
theorem snap_St7 {D : Types} {h : Nat → Option Blk} {id : Nat} {l : List SStruct} (hf : fitsRow D 3 true (h id) (flat (l.map eSt))) : snap D h 7 (.sl id 3 0 l.length) = some (.fro 3 (l.map eSt)) := snap_St (k := 6) hf
theorem snap_St6 {D : Types} {h : Nat → Option Blk} {id : Nat} {l : List SStruct} (hf : fitsRow D 3 true (h id) (flat (l.map eSt))) : snap D h 6 (.sl id 3 0 l.length) = some (.fro 3 (l.map eSt)) := snap_St (k := 5) hf
theorem snap_I8 {D : Types} {h : Nat → Option Blk} {id : Nat} {l : List Int} (hf : fitsRow D 1 false (h id) (l.map eI)) : snap D h 8 (.sl id 1 0 l.length) = some (.fro 1 (l.map eI)) := snap_I (k := 7) hf
theorem snap_I7 {D : Types} {h : Nat → Option Blk} {id : Nat} {l : List Int} (hf : fitsRow D 1 false (h id) (l.map eI)) : snap D h 7 (.sl id 1 0 l.length) = some (.fro 1 (l.map eI)) := snap_I (k := 6) hf
theorem snap_I6 {D : Types} {h : Nat → Option Blk} {id : Nat} {l : List Int} (hf : fitsRow D 1 false (h id) (l.map eI)) : snap D h 6 (.sl id 1 0 l.length) = some (.fro 1 (l.map eI)) := snap_I (k := 5) hf
theorem snap_S8 {D : Types} {h : Nat → Option Blk} {id : Nat} {l : List (List UInt8)} (hf : fitsRow D 1 false (h id) (l.map eS)) : snap D h 8 (.sl id 1 0 l.length) = some (.fro 1 (l.map eS)) := snap_S (k := 7) hf
theorem snap_S7 {D : Types} {h : Nat → Option Blk} {id : Nat} {l : List (List UInt8)} (hf : fitsRow D 1 false (h id) (l.map eS)) : snap D h 7 (.sl id 1 0 l.length) = some (.fro 1 (l.map eS)) := snap_S (k := 6) hf
theorem snap_S6 {D : Types} {h : Nat → Option Blk} {id : Nat} {l : List (List UInt8)} (hf : fitsRow D 1 false (h id) (l.map eS)) : snap D h 6 (.sl id 1 0 l.length) = some (.fro 1 (l.map eS)) := snap_S (k := 5) hf

theorem snap_agg8 {D : Types} {h : Nat → Option Blk} {xs : List AV} : snap D h 8 (.agg xs) = (optAll (xs.map (snap D h 7))).map .agg := rfl
theorem snap_tup8 {D : Types} {h : Nat → Option Blk} {xs : List AV} : snap D h 8 (.tup xs) = (optAll (xs.map (snap D h 7))).map .tup := rfl
theorem snap_agg7 {D : Types} {h : Nat → Option Blk} {xs : List AV} : snap D h 7 (.agg xs) = (optAll (xs.map (snap D h 6))).map .agg := rfl

/-- Slot k (a pointer to the begin of a block that is pure) points at cells that stay. -/
theorem LeS.frzP {t : List (Nat × AV)} {H : Heap} {u : List Nat} (k id : Nat) {ty : TypeId} {z : Nat} (cs : List PV) (hk : look t k = some (.ptr id 0)) (hid : hlook H id = some (.row ty z (cs.map .p))) (h1 : ∀ p ∈ cs, p.one = true) : LeS ⟨t, H, u⟩ ⟨(k, .fptr cs) :: t, (id, none) :: H, u⟩ := by
  intro w0 ok0 F ρ0 n a w ρ ok hR
  let Hf : Heap := [(id, some (.row ty z (cs.map .p)))]
  have hfl : ∀ j B, hlook Hf j = some B → j = id ∧ hlook H j = some B := by
    intro j B hB
    simp only [Hf, hlook_cons, hlook_nil] at hB
    by_cases e : j = id
    · rw [if_pos e] at hB; exact ⟨e, by rw [e, hid]; exact hB⟩
    · rw [if_neg e] at hB; cases hB
  have e1 : hlook Hf id = some (.row ty z (cs.map .p)) := by simp [Hf, hlook_cons]
  let ok' : Nat → Prop := fun b => ok b ∨ Own ρ Hf b
  have same : ∀ {a : AV} {v : Value}, AVRel w ρ ok a v → AVRel w ρ ok' a v := fun hv => hv.mono (fun _ _ h => h) (fun _ h => .inl h) (Kept.refl w fun _ => False) (fun _ _ h => h)
  have hold : ∀ j B, hlook ((id, none) :: H) j = some B → j ≠ id ∧ hlook H j = some B := by
    intro j B hB
    rw [hlook_cons] at hB
    by_cases e : j = id
    · rw [if_pos e] at hB; cases hB
    · rw [if_neg e] at hB; exact ⟨e, hB⟩
  refine ⟨ρ, ok', hR.size, hR.defers, fun j => ?_, ⟨fun j B hB => ?_, fun j B g hB hg hokg => ?_, fun j l B B' g hB hB' hg hg' => ?_, fun b hb => ?_⟩, hR.used, ?_, hR.kept, fun b hb => .inl (hR.oksub b hb), fun b hb => ?_, hR.init⟩
  · have h := hR.tmp j
    by_cases e' : j = k
    · subst e'
      have e2 : St.get ⟨t, H, u⟩ j = .ptr id 0 := by rw [St.get, hk]; rfl
      have e3 : St.get ⟨(j, .fptr cs) :: t, (id, none) :: H, u⟩ j = .fptr cs := by simp [St.get, look_cons]
      rw [e2] at h; rw [e3]
      generalize a.tmps.getD j undef = v at h
      cases h with
      | ptr _ _ g hg =>
        rcases hR.heap.blk id _ hid with ⟨hn, _⟩ | ⟨g', cur, hg', hcur, hle, hone, hrel⟩
        · rw [hn] at hg; cases hg
        · rw [hg'] at hg; cases hg
          have hle' : cs.length ≤ cur.size := by simpa using hle
          refine .fptr cs ⟨g, 0, none⟩ (cur.toList.take cs.length) rfl (.inr ⟨id, _, e1, hg'⟩) (lt_of_some hcur) h1 ?_ ?_ ?_
          · simp; omega
          · intro m u hu
            rw [List.getElem?_take] at hu
            split at hu
            · rw [Array.getElem?_toList] at hu
              rw [add_plain]
              simp [World.cell?, hcur, hu]
            · cases hu
          · intro m p u hp hu
            rw [List.getElem?_take] at hu
            split at hu
            · rw [Array.getElem?_toList] at hu
              have := hrel m (.p p) u (by simp [hp]) hu
              have := same this
              cases this with
              | p _ _ hr => exact hr
            · cases hu
    · have e2 : St.get ⟨(k, .fptr cs) :: t, (id, none) :: H, u⟩ j = St.get ⟨t, H, u⟩ j := by simp [St.get, look_cons, e']
      rw [e2]; exact same h
  · exact (hR.heap.blk j B (hold j B hB).2).mono (fun _ _ h => h) (fun _ h => .inl h) (Kept.refl w fun _ => False) (fun _ _ h => h) (fun _ _ h => h)
  · obtain ⟨hj, hC⟩ := hold j B hB
    rcases hokg with h' | ⟨l, B', hB', hg'⟩
    · exact hR.heap.away j B g hC hg h'
    · obtain ⟨hl', hBl⟩ := hfl l B' hB'
      have := hR.heap.inj j l B B' g hC hBl hg hg'
      exact hj (this.trans hl')
  · exact hR.heap.inj j l B B' g (hold j B hB).2 (hold l B' hB').2 hg hg'
  · rcases hb with hb | ⟨l, B', hB', hg'⟩
    · exact hR.heap.lt b hb
    · exact (hR.heap.blk l B' (hfl l B' hB').2).lt b hg'
  · rintro b ⟨j, B, hB, hb⟩
    exact hR.home b ⟨j, B, (hold j B hB).2, hb⟩
  · rcases hb with hb | ⟨l, B', hB', hg'⟩
    · exact hR.okn b hb
    · rcases hR.home b ⟨l, B', (hfl l B' hB').2, hg'⟩ with h' | h'
      · exact .inr (.inr h')
      · exact .inr (.inl h')
attribute [go_sem] TK.isSt fitsRow snap_V8 snap_V7 snap_V6 snap_F8 snap_F7 snap_F6 snap_St8 snap_St7 snap_St6 snap_I8 snap_I7 snap_I6 snap_S8 snap_S7 snap_S6
end Go.Aw
