/- A step by the table is sound. -/
import Derived.Test.YthiddkhonklbkaaAw15
set_option linter.unusedVariables false
set_option linter.unusedSimpArgs false
namespace Go.Aw
open Go

theorem once_mem (l acc : List Nat) (x : Nat) : x ∈ once l acc ↔ x ∈ l ∨ x ∈ acc := by
  induction l generalizing acc with
  | nil => simp [once]
  | cons y r ih =>
    rw [once, ih]
    by_cases h : y ∈ acc
    · rw [if_pos h, List.mem_cons]
      constructor
      · rintro (h1 | h1)
        · exact .inl (.inr h1)
        · exact .inr h1
      · rintro ((rfl | h1) | h1)
        · exact .inr h
        · exact .inl h1
        · exact .inr h1
    · rw [if_neg h, List.mem_append, List.mem_singleton, List.mem_cons]
      constructor
      · rintro (h1 | h1 | rfl)
        · exact .inl (.inr h1)
        · exact .inr h1
        · exact .inl (.inl rfl)
      · rintro ((rfl | h1) | h1)
        · exact .inr (.inr rfl)
        · exact .inl h1
        · exact .inr (.inl h1)
theorem once_nodup (l acc : List Nat) (h : acc.Nodup) : (once l acc).Nodup := by
  induction l generalizing acc with
  | nil => exact h
  | cons y r ih =>
    rw [once]
    refine ih _ ?_
    by_cases hy : y ∈ acc
    · rw [if_pos hy]; exact h
    · rw [if_neg hy, List.nodup_append]
      refine ⟨h, by simp, fun a ha b hb => ?_⟩
      rw [List.mem_singleton] at hb
      subst hb; exact fun e => hy (e ▸ ha)
theorem at_spec {I : List Nat} {i : Nat} (h : i ∈ I) : I[at_ I i]? = some i ∧ at_ I i < I.length := by
  induction I with
  | nil => cases h
  | cons x r ih =>
    rw [at_]
    by_cases e : i = x
    · subst e; simp
    · rw [if_neg e]
      obtain ⟨h1, h2⟩ := ih ((List.mem_cons.1 h).resolve_left e)
      exact ⟨by simpa using h1, by simp; omega⟩
theorem nm_at {I : List Nat} {d i : Nat} (h : i ∈ I) : nm I d (at_ I i) = i := by rw [nm, (at_spec h).1]; rfl
theorem nm_lt {I : List Nat} {d k : Nat} (h : k < I.length) : nm I d k = I[k] := by rw [nm, List.getElem?_eq_getElem h]; rfl
theorem nm_ge {I : List Nat} {d k : Nat} (h : I.length ≤ k) : nm I d k = (d + 1) * 1000 + k := by rw [nm, List.getElem?_eq_none h]; rfl

mutual
theorem ren_ren {f g : Nat → Nat} : (a : AV) → (∀ i ∈ a.ids, f (g i) = i) → (a.ren g).ren f = a
  | .p v, _ => rfl
  | .sl id sz off len, h => by simp [AV.ren, h id (by simp [AV.ids])]
  | .ptr id off, h => by simp [AV.ren, h id (by simp [AV.ids])]
  | .fptr cs, _ => rfl
  | .mp id, h => by simp [AV.ren, h id (by simp [AV.ids])]
  | .agg xs, h => by rw [AV.ren, AV.ren, renL_renL xs (fun i hi => h i (by rw [AV.ids]; exact hi))]
  | .tup xs, h => by rw [AV.ren, AV.ren, renL_renL xs (fun i hi => h i (by rw [AV.ids]; exact hi))]
  | .fn k a b, h => by
    rw [AV.ren, AV.ren, renL_renL a (fun i hi => h i (by rw [AV.ids, List.mem_append]; exact .inl hi)), renL_renL b (fun i hi => h i (by rw [AV.ids, List.mem_append]; exact .inr hi))]
  | .junk, _ => rfl
theorem renL_renL {f g : Nat → Nat} : (xs : List AV) → (∀ i ∈ AV.idsL xs, f (g i) = i) → AV.renL f (AV.renL g xs) = xs
  | [], _ => rfl
  | x :: xs, h => by
    rw [AV.renL, AV.renL, ren_ren x (fun i hi => h i (by rw [AV.idsL, List.mem_append]; exact .inl hi)), renL_renL xs (fun i hi => h i (by rw [AV.idsL, List.mem_append]; exact .inr hi))]
end
mutual
theorem ids_ren {g : Nat → Nat} : (a : AV) → (a.ren g).ids = a.ids.map g
  | .p v => rfl
  | .sl id sz off len => rfl
  | .ptr id off => rfl
  | .fptr cs => rfl
  | .mp id => rfl
  | .agg xs => by rw [AV.ren, AV.ids, AV.ids, idsL_ren xs]
  | .tup xs => by rw [AV.ren, AV.ids, AV.ids, idsL_ren xs]
  | .fn k a b => by rw [AV.ren, AV.ids, AV.ids, idsL_ren a, idsL_ren b, List.map_append]
  | .junk => rfl
theorem idsL_ren {g : Nat → Nat} : (xs : List AV) → AV.idsL (AV.renL g xs) = (AV.idsL xs).map g
  | [] => rfl
  | x :: xs => by rw [AV.renL, AV.idsL, AV.idsL, ids_ren x, idsL_ren xs, List.map_append]
end
theorem blk_ren_ren {f g : Nat → Nat} (B : Blk) (h : ∀ i ∈ B.ids, f (g i) = i) : (B.ren g).ren f = B := by
  cases B with
  | row ty sz cs => rw [Blk.ren, Blk.ren, renL_renL cs h]
  | map es => rfl
theorem blk_ids_ren {g : Nat → Nat} (B : Blk) : (B.ren g).ids = B.ids.map g := by
  cases B with
  | row ty sz cs => exact idsL_ren cs
  | map es => rfl
theorem sub_look (h : Nat → Option Blk) (f : Nat → Nat) (I : List Nat) (k j : Nat) : hlook (sub h f k I) j = if k ≤ j then (I[j - k]?).bind fun i => (h i).map (Blk.ren f) else none := by
  induction I generalizing k with
  | nil => simp [sub]
  | cons x r ih =>
    rw [sub, hlook_cons, ih]
    by_cases e : j = k
    · subst e; simp
    · rw [if_neg e]
      by_cases hk : k ≤ j
      · rw [if_pos (by omega), if_pos hk]
        obtain ⟨m, rfl⟩ : ∃ m, j = k + 1 + m := ⟨j - (k + 1), by omega⟩
        have e1 : k + 1 + m - k = m + 1 := by omega
        have e2 : k + 1 + m - (k + 1) = m := by omega
        rw [e1, e2, List.getElem?_cons_succ]
      · rw [if_neg (by omega), if_neg hk]
theorem sub_length (h : Nat → Option Blk) (f : Nat → Nat) (I : List Nat) (k : Nat) : (sub h f k I).length = I.length := by
  induction I generalizing k with
  | nil => rfl
  | cons x r ih => rw [sub, List.length_cons, ih, List.length_cons]
theorem app_after (s : St) (o : Oper) (f : Nat → Nat) (N R : List Nat) (r : AV) (H' : Heap) :
    s.app o.dst ⟨r.ren f, N.map (fun i => (f i, (hlook H' i).map (Blk.ren f))), R.map f⟩ = s.after o.dst f N R r H' := by
  unfold St.app St.after St.with; cases o.dst <;> rfl

section
variable {P : Program} {D : Types} {w0 w : World} {ok0 F : Nat → Prop} {ρ0 : Names} {n : Nat} {s : St} {a : Act} {ρ : Names} {ok : Nat → Prop} {Γ : Specs}

theorem enters_of {g : FuncId} {sp : Spec} {args : List AV} {d : Nat} {h : Nat → Option Blk} {S : Step} (hΓ : Specs.OK P Γ) (hS : callStep Γ D g args d h = some S) : Enters P g := by
  unfold callStep at hS
  split at hS
  · cases hS
  · rename_i f hf
    unfold stepB at hS
    split at hS
    · rw [Option.map_eq_some_iff] at hS
      obtain ⟨Q, hQ, _⟩ := hS
      exact ((hΓ _ _ hf) _ _ hQ).1.1
    · rw [Option.bind_eq_some_iff] at hS
      obtain ⟨cs, _, hS⟩ := hS
      rw [Option.map_eq_some_iff] at hS
      obtain ⟨Q, hQ, _⟩ := hS
      exact ((hΓ _ _ hf) _ _ hQ).1.1
  · rename_i f hf
    unfold stepS at hS
    simp only at hS
    split at hS
    · rw [Option.map_eq_some_iff] at hS
      obtain ⟨⟨nR, Q⟩, hQ, _⟩ := hS
      exact ((hΓ _ _ hf) _ _ _ _ hQ).1.1
    · cases hS

theorem callStep_sound (hA : Agrees P D) (hΓ : Specs.OK P Γ) (hR : Rl w0 ok0 F ρ0 n s a w ρ ok) {g : FuncId} {args : List AV} {o : Oper} {S : Step}
    (hS : callStep Γ D g args (o.dst.getD 0) (hlook s.H) = some S) (hpre : S.pre) (hnew : ∀ id ∈ S.new, id ∉ s.u) (hdst : ∀ d, o.dst = some d → d < n) {K : St → Prop} (hK : ∀ out, S.post out → K (s.app o.dst out)) {vals : Array Value} (hl : vals.size = args.length)
    (hv : ∀ (i : Nat) (x : AV) (v : Value), args[i]? = some x → vals[i]? = some v → AVRel w ρ ok x v) : Calls P g vals w (CallPost w0 ok0 F ρ0 n a o.dst K) := by
  unfold callStep at hS
  split at hS
  · cases hS
  · rename_i f hf
    unfold stepB at hS
    split at hS
    · rename_i hids
      rw [Option.map_eq_some_iff] at hS
      obtain ⟨Q, hQ, rfl⟩ := hS
      obtain ⟨hsp, _⟩ := (hΓ _ _ hf) _ _ hQ
      have hno : ∀ c ∈ args, c.ids = [] := by
        intro c hc
        rw [List.eq_nil_iff_forall_not_mem]
        intro i hi
        have := idsL_mem hc hi
        rw [hids] at this; cases this
      refine callS_sound hR hdst ⟨[], [], id, args, [], _, hsp, rfl, fun i x c hx hc => ?_, fun c hc i hi => ?_, (fun i hi => by cases hi), (fun i B hB => by simp at hB), (fun i hi => by cases hi), (fun j hj => by cases hj), (fun i hi => by cases hi), fun r H' hr => ?_⟩ hl hv
      · rw [hx] at hc; cases hc
        intro w ρ ok v hv
        exact hv.ren (fun i hi => by rw [hno _ (List.mem_of_getElem? hx)] at hi; cases hi)
      · rw [hno c hc] at hi; cases hi
      · obtain ⟨q, rfl, hq⟩ := hr
        rw [← app_after]
        exact hK ⟨.p q, [], []⟩ ⟨q, hq, rfl⟩
    · rename_i i r hids
      rw [Option.bind_eq_some_iff] at hS
      obtain ⟨cs, hcs, hS⟩ := hS
      rw [Option.map_eq_some_iff] at hS
      obtain ⟨Q, hQ, rfl⟩ := hS
      obtain ⟨hsp, _⟩ := (hΓ _ _ hf) _ _ hQ
      obtain ⟨hcl, hcat⟩ := optAll_at hcs
      refine callF_sound hR hdst ⟨cs, _, hsp, hcl, fun j x c hx hc => ?_, fun r H' hr => ?_⟩ hl hv
      · refine snapA_sound hA (fun k B hB => ?_) (hcat j x c hx hc)
        unfold only at hB
        split at hB
        · exact hB
        · cases hB
      · obtain ⟨q, rfl, hq⟩ := hr
        have := hK ⟨.p q, [], []⟩ ⟨q, hq, rfl⟩
        refine ⟨flat_still (hpre q hq), ?_⟩
        have e : s.app o.dst ⟨.p q, [], []⟩ = s.put o.dst (.p q) := by unfold St.app St.with; cases o.dst <;> rfl
        rw [← e]; exact this
  · rename_i f hf
    unfold stepS at hS
    simp only at hS
    split at hS
    rotate_left
    · cases hS
    rename_i hcl
    obtain ⟨hcl, hsubs⟩ := hcl
    rw [Option.map_eq_some_iff] at hS
    obtain ⟨⟨nR, Q⟩, hQ, rfl⟩ := hS
    obtain ⟨hsp, _⟩ := (hΓ _ _ hf) _ _ _ _ hQ
    generalize hI : once (reach (hlook s.H) 8 (AV.idsL args)) [] = I at hcl hsubs hQ hsp hnew hK
    have hnd : I.Nodup := by rw [← hI]; exact once_nodup _ _ List.nodup_nil
    rw [sub_length] at hsp
    have hblk : ∀ i ∈ I, ∃ B, hlook s.H i = some B ∧ ∀ j ∈ B.ids, j ∈ I := by
      intro i hi
      unfold closedB at hcl
      rw [List.all_eq_true] at hcl
      have := hcl i hi
      split at this
      · rename_i B hB
        rw [List.all_eq_true] at this
        exact ⟨B, hB, fun j hj => by simpa using this j hj⟩
      · cases this
    have hargs : ∀ i ∈ AV.idsL args, i ∈ I := by
      intro i hi
      rw [List.all_eq_true] at hsubs
      simpa using hsubs i hi
    have hused : ∀ i ∈ I, i ∈ s.u := by
      intro i hi
      obtain ⟨B, hB, _⟩ := hblk i hi
      obtain ⟨x, hx⟩ := (hR.heap.blk i B hB).bound
      exact hR.used i x hx
    have hnmI : ∀ k, k < I.length → nm I (o.dst.getD 0) k ∈ I := by
      intro k hk; rw [nm_lt hk]; exact List.getElem_mem hk
    have hlk : ∀ k, hlook (sub (hlook s.H) (at_ I) 0 I) k = (I[k]?).bind fun i => (hlook s.H i).map (Blk.ren (at_ I)) := by
      intro k; rw [sub_look]; simp
    refine callS_sound hR hdst ⟨_, _, nm I (o.dst.getD 0), _, _, Q, hsp, by simp, fun i x c hx hc => ?_, fun c hc i hi => ?_, fun i hi => ?_, fun i B hB => ?_, fun i hi j hj he => ?_, fun j hj => ?_, fun i hi j hj he => ?_, fun r H' hr => ?_⟩ hl hv
    · rw [List.getElem?_map, hx] at hc; cases hc
      intro w ρ ok v hv
      rw [ren_ren x (fun i hi => nm_at (hargs i (idsL_mem (List.mem_of_getElem? hx) hi)))]
      exact hv
    · rw [List.mem_map] at hc
      obtain ⟨x, hx, rfl⟩ := hc
      rw [ids_ren, List.mem_map] at hi
      obtain ⟨j, hj, rfl⟩ := hi
      rw [List.mem_range]
      exact (at_spec (hargs j (idsL_mem hx hj))).2
    · rw [List.mem_range] at hi
      obtain ⟨B, hB, hids⟩ := hblk _ (hnmI i hi)
      rw [nm_lt hi] at hB ⊢
      rw [hlk, List.getElem?_eq_getElem hi]
      simp only [Option.bind_some, hB, Option.map_some, Option.isSome_some, true_and]
      rw [blk_ren_ren B (fun j hj => nm_at (hids j hj))]
    · rw [hlk] at hB
      rw [Option.bind_eq_some_iff] at hB
      obtain ⟨j, hj, hB⟩ := hB
      rw [Option.map_eq_some_iff] at hB
      obtain ⟨C, hC, rfl⟩ := hB
      refine ⟨List.mem_range.2 (List.getElem?_eq_some_iff.1 hj).1, fun k hk => ?_⟩
      rw [blk_ids_ren, List.mem_map] at hk
      obtain ⟨m, hm, rfl⟩ := hk
      obtain ⟨C', hC', hids⟩ := hblk j (List.mem_of_getElem? hj)
      rw [hC] at hC'; cases hC'
      exact List.mem_range.2 (at_spec (hids m hm)).2
    · rw [List.mem_range] at hi hj
      rw [nm_lt hi, nm_lt hj] at he
      exact (List.getElem_inj hnd).1 he
    · refine hnew _ ?_
      rw [List.mem_map] at hj
      obtain ⟨k, hk, rfl⟩ := hj
      exact List.mem_map.2 ⟨k, hk, rfl⟩
    · rw [List.mem_map] at hi hj
      obtain ⟨k, hk, rfl⟩ := hi
      obtain ⟨m, hm, rfl⟩ := hj
      rw [nm_ge (by omega), nm_ge (by omega)] at he
      omega
    · have := hK _ ⟨r, H', hr, rfl⟩
      rw [← app_after]
      have e : List.range I.length ++ (List.range nR).map (I.length + ·) = List.range (I.length + nR) := by
        rw [List.range_add]
      rw [e, List.map_map]
      exact this

theorem step_sound (hA : Agrees P D) (hΓ : Specs.OK P Γ) (hR : Rl w0 ok0 F ρ0 n s a w ρ ok) {o : Oper} {S : Step}
    (hS : stepOf Γ D o s.ev (hlook s.H) = some S) (hpre : S.pre) (hnew : ∀ id ∈ S.new, id ∉ s.u) (hdst : ∀ d, o.dst = some d → d < n) {K : St → Prop} (hK : ∀ out, S.post out → K (s.app o.dst out)) {Q : Exit → Act → World → Prop} :
    o.wp P a w (fun a' w' => ∃ s' ρ' ok', K s' ∧ Rl w0 ok0 F ρ0 n s' a' w' ρ' ok') Q := by
  obtain ⟨dst, op, type, pos, after, guard⟩ := o
  unfold stepOf at hS
  split at hS
  · rename_i f args argTypes hop
    simp only at hop; subst hop
    have hf := hR.ev f
    split at hS
    rotate_left
    · cases hS
    rename_i g first captured hfe
    rw [hfe] at hf
    generalize hfv : a.eval f = fv at hf
    cases hf with
    | fn _ _ _ us vs hl1 hl2 h1 h2 =>
    obtain ⟨fn, hfn, hbody, hname⟩ := enters_of (sp := .b fun _ => none) hΓ hS
    have hrun : (execOp a.eval { dst := dst, op := .call { callee := .value f, args := args, argTypes := argTypes }, type := type, pos := pos, after := after, guard := guard }).run P w = .ok (.enter g (us ++ args.map a.eval ++ vs)) w := by
      simp only [execOp, resolve, hfv, Deferred.ofValue]
      have hbn : fn.body ≠ none := by intro e; rw [e] at hbody; cases hbody
      have hnn : fn.name ≠ "runtime.NumGoroutine" := by intro e; simp [e] at hname
      simp [invoke, callFunc, hfn, hnn, hbn]
    unfold Oper.wp
    rw [hrun, Oper.upon_enter]
    have key := callStep_sound hA hΓ hR (o := { dst := dst, op := .call { callee := .value f, args := args, argTypes := argTypes }, type := type, pos := pos, after := after, guard := guard }) hS hpre hnew hdst hK (vals := us ++ args.map a.eval ++ vs) (by simp [hl1, hl2]) ?_
    · refine key.mono ?_
      rintro e w' ⟨v, s', ρ', ok', rfl, hK', hR'⟩
      exact ⟨s', ρ', ok', hK', hR'⟩
    · have hargs := ev_list (w := w) (ρ := ρ) (ok := ok) (a := a) (e := s.ev) hR.ev args
      intro i x v hx hv
      rw [List.getElem?_append, List.getElem?_append] at hx
      rw [Array.getElem?_append, Array.getElem?_append] at hv
      simp only [List.length_append, List.length_map, Array.length_toList, Array.size_append, Array.size_map, hl1] at hx hv
      by_cases c1 : i < first.length
      · rw [if_pos (by omega), if_pos c1] at hx hv
        exact h1 i x v hx hv
      · by_cases c2 : i < first.length + args.size
        · rw [if_pos c2, if_neg c1] at hx hv
          exact hargs _ x v hx hv
        · rw [if_neg c2] at hx hv
          exact h2 _ x v hx hv
  · rename_i hnc
    rw [Option.map_eq_some_iff] at hS
    obtain ⟨out, hout, rfl⟩ := hS
    have hst : stepOp D n { dst := dst, op := op, type := type, pos := pos, after := after, guard := guard } s K := by
      unfold stepOp
      rw [hout]
      exact ⟨hnew, hdst, hK out rfl⟩
    obtain ⟨v, w', ρ', s', hrun, hK', hR'⟩ := stepOp_sound hA hR hst
    unfold Oper.wp
    rcases hrun with hrun | ⟨hrun, rfl⟩
    · rw [hrun, Oper.upon_value]; exact ⟨s', ρ', ok, hK', hR'⟩
    · rw [hrun, Oper.upon_skip]; exact ⟨s', ρ', ok, hK', hR'⟩
end
end Go.Aw
