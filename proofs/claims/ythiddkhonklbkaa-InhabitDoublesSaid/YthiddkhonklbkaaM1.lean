/- Contract: maps.Clone. -/
import Derived.Test.YthiddkhonklbkaaTy
import Derived.Laws.Externs
import Derived.MapKept
import Derived.WalkKit
import Derived.Below
set_option linter.unusedVariables false
set_option linter.unusedSimpArgs false
set_option maxRecDepth 100000
set_option maxHeartbeats 4000000
namespace Go.Proofs.Ythiddkhonklbkaa
open Go Go.Aw Go.RowKit

section
variable {P : Program} (w : World)
theorem run_equalIn_map_nil (d : Nat) (t k e : TypeId) (p : Option Nat) (h : P.underlying t = some (.map k e)) :
    (Op.equalIn (d + 1) t (.map p) (.map none)).run P w = .ok p.isNone w := by
  cases p <;> simp [Op.equalIn, run_underlying h]
theorem run_eql_map_nil (t k e : TypeId) (p : Option Nat) (h : P.underlying t = some (.map k e)) :
    (binOp .eql t (.map p) (.map none)).run P w = .ok (.bool p.isNone) w := by
  simp only [binOp]
  simp [show Op.equal t (.map p) (.map none) = Op.equalIn (9999 + 1) t (.map p) (.map none) from rfl, run_equalIn_map_nil w 9999 t k e p h]
theorem run_typeAssert_map (t xT k e : TypeId) (v : Value) (h : P.underlying t = some (.map k e)) : (Instr.typeAssert (.iface t v) xT t false).run P w = .ok v w := by
  simp [Instr.typeAssert, run_underlying h, go_sem, Result.andThen]
theorem run_maps_clone {r : Nat} {es : Array MapEntry} {clock : Nat} (t : TypeId) (hb : w.heap[r]? = some (.map es clock)) :
    (Extern.MapsClone.clone #[.iface t (.map (some r))]).run P w = .ok (.iface t (.map (some w.heap.size))) (w.alloc (.map es clock)) := by
  have e : Extern.MapsClone.clone #[.iface t (.map (some r))] = (getObj r >>= fun o => match o with
      | .map entries clock => (newObj (.map entries clock) >>= fun n => pure (.iface t (.map (some n))))
      | _ => stuck "maps.clone: a map expected") := rfl
  rw [e]
  simp [MapKept.run_getObj_map hb, Result.andThen, go_sem]
end
theorem maps_Clone (b : Nat) (es : Array MapEntry) (clock : Nat) (w : World) (hb : w.heap[b]? = some (.map es clock)) :
    Calls Try.prog 26 #[.map (some b)] w fun e w' => e = .returned (.map (some w.heap.size)) ∧ w' = w.alloc (.map es clock) := by
  have hq := fun w => run_eql_map_nil (P := Try.prog) w 65 _ _ (some b) Try.underlying65
  go_enter Try.func26, Try.ntmps26
  go_wp2
  rw [run_callFunc_extern Try.func50 (by kernel_rfl) (by kernel_rfl) (by kernel_rfl) (e := Extern.MapsClone.clone) (by kernel_rfl), run_maps_clone w 65 hb]
  simp only [Result.andThen]
  rw [Oper.upon_value]
  go_wp2
  rw [run_typeAssert_map _ 65 20 _ _ _ Try.underlying65]
  simp only [Result.andThen]
  rw [Oper.upon_value]
  go_wp2
  go_ret
  exact ⟨rfl, rfl⟩

noncomputable def Sclone : Aw.Spec := .s (mkG (fun r : KM => ([.mp 0], [(0, some (.map (r.map eK)))])) (fun _ => 1) fun r => isS (.mp 1) [(0, some (.map (r.map eK))), (1, some (.map (r.map eK)))])
theorem okclone : Sclone.OK Try.prog 26 := by
  refine mkG_ok (fun r => ?_) (fun x => ⟨_, _, rfl, rfl⟩)
  refine ⟨⟨_, Try.func26, rfl, rfl⟩, fun w ρ ok vals hH hρ hl hv => ?_⟩
  have hb := hH.blk 0 (.map (r.map eK)) rfl
  obtain ⟨g, ents, clock, hg, hw, hsz, hk, hr⟩ := hb
  have e : vals = #[.map (some g)] := by
    have hl' : vals.size = 1 := hl
    have h0 := hv 0 (.mp 0) vals[0] rfl (Array.getElem?_eq_getElem (by omega))
    generalize hu : vals[0] = u at h0
    cases h0 with
    | mp _ g' hg' =>
      rw [hg] at hg'; cases hg'
      apply Array.ext
      · exact hl'
      · intro i h1 h2
        have : i = 0 := by simp at h2; omega
        subst this
        simpa using hu
  subst e
  refine (maps_Clone g ents clock w hw).mono ?_
  rintro e w' ⟨rfl, rfl⟩
  have hlt := lt_of_some hw
  have hh : (w.alloc (.map ents clock)).heap = w.heap.push (.map ents clock) := rfl
  have hsize : (w.alloc (.map ents clock)).heap.size = w.heap.size + 1 := by rw [hh, Array.size_push]
  have hnew : (w.alloc (.map ents clock)).heap[w.heap.size]? = some (.map ents clock) := by rw [hh, Array.getElem?_push]; simp
  have hold : ∀ b, b < w.heap.size → (w.alloc (.map ents clock)).heap[b]? = w.heap[b]? := fun b hb => by rw [hh, Array.getElem?_push, if_neg (Nat.ne_of_lt hb)]
  have hkept : ∀ T, Kept w (w.alloc (.map ents clock)) T := fun T => ⟨rfl, rfl, rfl, by omega, fun b hb _ => hold b hb, fun b cur ty h => ⟨cur, by rw [hold b (lt_of_some h)]; exact h, rfl⟩, (kept_alloc w (.map ents clock) T).fro⟩
  let ρ' : Names := fun i => if i = 0 then some (some g) else if i = 1 then some (some w.heap.size) else none
  have h0 : ρ' 0 = some (some g) := rfl
  have h1 : ρ' 1 = some (some w.heap.size) := rfl
  have hlk : ∀ i B, hlook [(0, some (.map (r.map eK))), (1, some (.map (r.map eK)))] i = some B → (i = 0 ∨ i = 1) ∧ B = .map (r.map eK) := by
    intro i B h
    simp only [hlook_cons, hlook_nil] at h
    by_cases e0 : i = 0
    · rw [if_pos e0] at h; cases h; exact ⟨.inl e0, rfl⟩
    · rw [if_neg e0] at h
      by_cases e1 : i = 1
      · rw [if_pos e1] at h; cases h; exact ⟨.inr e1, rfl⟩
      · rw [if_neg e1] at h; cases h
  have hgok : ¬ ok g := hH.away 0 _ g rfl hg
  have hrel : ∀ (ok' : Nat → Prop), (∀ b, ok b → ok' b) → ∀ (i : Nat) (e : List UInt8 × PV) (m : MapEntry), (r.map eK)[i]? = some e → ents[i]? = some m → Rel (w.alloc (.map ents clock)) ok' e.2 m.val := fun ok' hok i e m he hm =>
    (hr i e m he hm).mono hok (fun b hb hlt => hold b hlt)
  refine ⟨_, .mp 1, _, ρ', ok, rfl, ⟨rfl, rfl⟩, ?_, ?_, .mp 1 _ h1, ⟨?_, ?_, ?_, ?_⟩, hkept _, ?_, ?_, fun b h => h, fun b h => .inl h, ?_⟩
  · intro i hi
    simp [AV.ids] at hi; subst hi; simp [List.range, List.range.loop]
  · intro i B h
    obtain ⟨h1, rfl⟩ := hlk i B h
    refine ⟨?_, fun j hj => by simp [Blk.ids] at hj⟩
    rcases h1 with rfl | rfl <;> simp [List.range, List.range.loop]
  · intro i B h
    obtain ⟨h2, rfl⟩ := hlk i B h
    rcases h2 with rfl | rfl
    · exact ⟨g, ents, clock, h0, by rw [hold g hlt]; exact hw, hsz, hk, hrel ok (fun _ h => h)⟩
    · exact ⟨w.heap.size, ents, clock, h1, hnew, hsz, hk, hrel ok (fun _ h => h)⟩
  · intro i B b h hb hok
    obtain ⟨h2, rfl⟩ := hlk i B h
    rcases h2 with rfl | rfl
    · rw [h0] at hb; cases hb; exact hgok hok
    · rw [h1] at hb; cases hb
      have := hH.lt _ hok; omega
  · intro i j B B' b h h' hb hb'
    obtain ⟨h2, _⟩ := hlk i B h
    obtain ⟨h3, _⟩ := hlk j B' h'
    rcases h2 with rfl | rfl <;> rcases h3 with rfl | rfl
    · rfl
    · rw [h0] at hb; rw [h1] at hb'; cases hb; cases hb'; omega
    · rw [h1] at hb; rw [h0] at hb'; cases hb; cases hb'; omega
    · rfl
  · intro b hb
    have := hH.lt b hb; omega
  · intro id x hx
    have := hρ id x hx
    simp [List.range, List.range.loop] at this
    subst this
    rw [hg] at hx; cases hx; exact h0
  · intro id x hx
    by_cases e0 : id = 0
    · left; simp [e0, List.range, List.range.loop]
    · by_cases e1 : id = 1
      · right; simp [e1, List.range, List.range.loop]
      · simp [ρ', e0, e1] at hx
  · rintro b ⟨i, B, h, hb⟩
    obtain ⟨h2, _⟩ := hlk i B h
    rcases h2 with rfl | rfl
    · rw [h0] at hb; cases hb
      exact .inl ⟨0, _, rfl, hg⟩
    · rw [h1] at hb; cases hb
      exact .inr (Nat.le_refl _)
end Go.Proofs.Ythiddkhonklbkaa
