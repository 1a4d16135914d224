/- Steps that do not meet may change places; so all orders of a region do as the text's order. -/
import Derived.Test.YthiddkhonklbkaaAw17
set_option linter.unusedVariables false
set_option linter.unusedSimpArgs false
namespace Go.Aw
open Go

theorem reach_local {h h' : Nat → Option Blk} (k : Nat) (l : List Nat) (hh : ∀ i ∈ reach h k l, h' i = h i) : reach h' k l = reach h k l := by
  induction k generalizing l with
  | zero => rfl
  | succ k ih =>
    cases l with
    | nil => rfl
    | cons x r =>
      simp only [reach] at hh ⊢
      have e : (x :: r).flatMap (idsAt h') = (x :: r).flatMap (idsAt h) := by
        rw [List.flatMap_def, List.flatMap_def]
        congr 1
        refine List.map_congr_left fun i hi => ?_
        unfold idsAt
        rw [hh i (List.mem_append.2 (.inl hi))]
      rw [e, ih _ (fun i hi => hh i (List.mem_append.2 (.inr hi)))]
theorem only_local {h h' : Nat → Option Blk} {l : List Nat} (hh : ∀ i ∈ l, h' i = h i) : only h' l = only h l := by
  funext i; unfold only
  by_cases hi : i ∈ l
  · rw [if_pos hi, if_pos hi, hh i hi]
  · rw [if_neg hi, if_neg hi]
theorem sub_local {h h' : Nat → Option Blk} {f : Nat → Nat} {k : Nat} {l : List Nat} (hh : ∀ i ∈ l, h' i = h i) : sub h' f k l = sub h f k l := by
  induction l generalizing k with
  | nil => rfl
  | cons x r ih => rw [sub, sub, hh x (by simp), ih (fun i hi => hh i (by simp [hi]))]
theorem closed_local {h h' : Nat → Option Blk} {l : List Nat} (hh : ∀ i ∈ l, h' i = h i) : closedB h' l = closedB h l := by
  unfold closedB
  rw [Bool.eq_iff_iff, List.all_eq_true, List.all_eq_true]
  constructor
  · intro hx i hi; have := hx i hi; rw [hh i hi] at this; exact this
  · intro hx i hi; rw [hh i hi]; exact hx i hi

section
variable {Γ : Specs} {D : Types}
theorem callStep_local {g : FuncId} {args : List AV} {d : Nat} {h h' : Nat → Option Blk} {S : Step} (hS : callStep Γ D g args d h = some S) (hh : ∀ i ∈ S.acc, h' i = h i) : callStep Γ D g args d h' = some S := by
  unfold callStep at hS ⊢
  split at hS
  · cases hS
  · rename_i f hf
    unfold stepB at hS ⊢
    split at hS
    · exact hS
    · rename_i i r hids
      have hacc : S.acc = reach h 8 (i :: r) := by
        rw [Option.bind_eq_some_iff] at hS
        obtain ⟨cs, _, hS⟩ := hS
        rw [Option.map_eq_some_iff] at hS
        obtain ⟨Q, _, rfl⟩ := hS; rfl
      rw [hacc] at hh
      rw [reach_local 8 _ hh, only_local hh]; exact hS
  · rename_i f hf
    unfold stepS at hS ⊢
    simp only at hS ⊢
    have hacc : S.acc = once (reach h 8 (AV.idsL args)) [] := by
      split at hS
      · rw [Option.map_eq_some_iff] at hS
        obtain ⟨⟨nR, Q⟩, _, rfl⟩ := hS; rfl
      · cases hS
    rw [hacc] at hh
    have hr : reach h' 8 (AV.idsL args) = reach h 8 (AV.idsL args) := reach_local 8 _ fun i hi => hh i ((once_mem _ _ _).2 (.inl hi))
    rw [hr, closed_local hh, sub_local hh]; exact hS

theorem callStep_new {g : FuncId} {args : List AV} {d : Nat} {h : Nat → Option Blk} {S : Step} (hS : callStep Γ D g args d h = some S) {out : Out} (ho : S.post out) : out.new = S.new := by
  unfold callStep at hS
  split at hS
  · cases hS
  · unfold stepB at hS
    split at hS
    · rw [Option.map_eq_some_iff] at hS
      obtain ⟨Q, _, rfl⟩ := hS
      obtain ⟨q, _, rfl⟩ := ho; rfl
    · rw [Option.bind_eq_some_iff] at hS
      obtain ⟨cs, _, hS⟩ := hS
      rw [Option.map_eq_some_iff] at hS
      obtain ⟨Q, _, rfl⟩ := hS
      obtain ⟨q, _, rfl⟩ := ho; rfl
  · unfold stepS at hS
    simp only at hS
    split at hS
    · rw [Option.map_eq_some_iff] at hS
      obtain ⟨⟨nR, Q⟩, _, rfl⟩ := hS
      obtain ⟨r, H', _, rfl⟩ := ho; rfl
    · cases hS

theorem stepOf_local {o : Oper} {e e' : Operand → AV} {h h' : Nat → Option Blk} {S : Step} (hS : stepOf Γ D o e h = some S) (he : ∀ x ∈ o.op.operands, e' x = e x) (hh : ∀ i ∈ S.acc, h' i = h i) : stepOf Γ D o e' h' = some S := by
  obtain ⟨dst, op, type, pos, after, guard⟩ := o
  unfold stepOf at hS ⊢
  simp only at hS he ⊢
  split at hS
  · rename_i f args argTypes
    have hf : e' f = e f := he f (by simp [Op.operands, Call.operands])
    have ha : args.toList.map e' = args.toList.map e := List.map_congr_left fun x hx => he x (by simp [Op.operands, Call.operands]; exact .inr (by simpa using hx))
    simp only [hf, ha]
    split at hS
    · rename_i g first captured hfe
      exact callStep_local hS hh
    · cases hS
  · rename_i hnc
    rw [Option.map_eq_some_iff] at hS
    obtain ⟨out, hout, rfl⟩ := hS
    have ho := opF_local (e' := e') (h' := h') hout he (fun x hx i hi => hh i (List.mem_flatMap.2 ⟨x, by simpa using hx, hi⟩))
    have hops : (op.operands.toList.flatMap fun x => top (e' x)) = op.operands.toList.flatMap fun x => top (e x) := by
      rw [List.flatMap_def, List.flatMap_def]
      congr 1
      exact List.map_congr_left fun x hx => by rw [he x (by simpa using hx)]
    rw [ho, hops]; rfl
theorem stepOf_new {o : Oper} {e : Operand → AV} {h : Nat → Option Blk} {S : Step} (hS : stepOf Γ D o e h = some S) {out : Out} (ho : S.post out) : out.new = S.new := by
  obtain ⟨dst, op, type, pos, after, guard⟩ := o
  unfold stepOf at hS
  simp only at hS
  split at hS
  · split at hS
    · exact callStep_new hS ho
    · cases hS
  · rw [Option.map_eq_some_iff] at hS
    obtain ⟨out', hout, rfl⟩ := hS
    cases ho; rfl

variable {n : Nat} {ops : Array Oper}
theorem eff_local {o : Oper} {s s' : St} {S : Step} (hS : effStep Γ D n ops o s = some S) (he : ∀ t ∈ o.looksAt ops, s'.get t = s.get t) (hh : ∀ i ∈ S.acc, hlook s'.H i = hlook s.H i) : effStep Γ D n ops o s' = some S := by
  have hev : ∀ x ∈ o.op.operands, s'.ev x = s.ev x := by
    intro x hx
    cases x with
    | tmp t => exact he t (List.mem_append_left _ (List.mem_filterMap.2 ⟨.tmp t, by simpa using hx, rfl⟩))
    | _ => rfl
  unfold effStep at hS ⊢
  split at hS
  · exact stepOf_local hS hev hh
  · rename_i j want hg
    split at hS
    · cases hS
    · rename_i t ht
      have hgt : s'.get t = s.get t := he t (by
        refine List.mem_append_right _ ?_
        simp only [hg]
        show t ∈ (slotOf ops j).toList
        rw [ht]; simp)
      rw [hgt]
      split at hS
      · rename_i hlt
        rw [if_pos hlt]
        split at hS
        · cases hS
        · rename_i y hy
          split at hS
          · rename_i hw; rw [if_pos hw]; exact stepOf_local hS hev hh
          · rename_i hw; rw [if_neg hw]; exact hS
      · cases hS
theorem eff_new {o : Oper} {s : St} {S : Step} (hS : effStep Γ D n ops o s = some S) {out : Out} (ho : S.post out) : out.new = S.new := by
  unfold effStep at hS
  split at hS
  · exact stepOf_new hS ho
  · split at hS
    · cases hS
    · split at hS
      · split at hS
        · cases hS
        · split at hS
          · exact stepOf_new hS ho
          · cases hS; cases ho; rfl
      · cases hS

/-- What is asked of a step in a region of many orders: which names it may turn or make, and which it may not come near. -/
def chk (wr bad : List Nat) (S : Step) : Prop :=
  (∀ x ∈ S.acc, x ∉ bad) ∧ (∀ x ∈ S.new, x ∈ wr) ∧ (∀ out, S.post out → ∀ x ∈ out.up.map Prod.fst, x ∈ wr)

theorem swap {o1 o2 : Oper} {wr1 wr2 bad1 bad2 : List Nat} {s : St} {K : St → Prop} (hK : Resp K) (hap : o1.apart ops o2 = true)
    (h12 : ∀ x ∈ wr1, x ∈ bad2 ∧ x ∉ wr2) (h21 : ∀ x ∈ wr2, x ∈ bad1)
    (h : stepG Γ D n (chk wr1 bad1) ops o1 s fun s1 => stepG Γ D n (chk wr2 bad2) ops o2 s1 K) :
    stepG Γ D n (chk wr2 bad2) ops o2 s fun s2 => stepG Γ D n (chk wr1 bad1) ops o1 s2 K := by
  obtain ⟨ha1, ha2, ha3⟩ := Oper.apart_spec hap
  unfold stepG at h
  generalize he1 : effStep Γ D n ops o1 s = x at h
  cases x with
  | none => exact h.elim
  | some S1 =>
  obtain ⟨⟨hc1a, hc1n, hc1u⟩, hp1, hf1, hd1, ⟨out1, ho1⟩, hk1⟩ := h
  -- the second one, ahead of the first one
  have back : ∀ (out : Out) (S : Step), S1.post out → effStep Γ D n ops o2 (s.app o1.dst out) = some S → (∀ x ∈ S.acc, x ∉ bad2) → effStep Γ D n ops o2 s = some S := by
    intro out S ho hS hacc
    refine eff_local hS (fun t ht => ?_) (fun i hi => ?_)
    · rw [get_app, if_neg]
      intro e; exact ha1 t e ht
    · rw [hlook_app_of]
      intro hm; exact hacc i hi (h12 i (hc1u out ho i hm)).1
  have hk := hk1 out1 ho1
  replace hk : osat (effStep Γ D n ops o2 (s.app o1.dst out1)) _ := hk
  cases he2 : effStep Γ D n ops o2 (s.app o1.dst out1) with
  | none => rw [he2] at hk; exact hk.elim
  | some S2 =>
  rw [he2] at hk
  obtain ⟨⟨hc2a, hc2n, hc2u⟩, hp2, hf2, hd2, hne2, hk2⟩ := hk
  have he2' := back out1 S2 ho1 he2 hc2a
  unfold stepG
  rw [he2']
  refine ⟨⟨hc2a, hc2n, hc2u⟩, hp2, fun id hid hu => hf2 id hid ?_, hd2, hne2, fun out2 ho2 => ?_⟩
  · rw [u_app, List.mem_append]; exact .inr hu
  have he1' : effStep Γ D n ops o1 (s.app o2.dst out2) = some S1 := by
    refine eff_local he1 (fun t ht => ?_) (fun i hi => ?_)
    · rw [get_app, if_neg]
      intro e; exact ha3 t e ht
    · rw [hlook_app_of]
      intro hm; exact hc1a i hi (h21 i (hc2u out2 ho2 i hm))
  show osat (effStep Γ D n ops o1 (s.app o2.dst out2)) _
  rw [he1']
  refine ⟨⟨hc1a, hc1n, hc1u⟩, hp1, fun id hid hu => ?_, hd1, ⟨out1, ho1⟩, fun out1' ho1' => ?_⟩
  · rw [u_app, List.mem_append] at hu
    rcases hu with hu | hu
    · rw [eff_new he2 ho2] at hu
      refine hf2 id hu ?_
      rw [u_app, List.mem_append, eff_new he1 ho1]; exact .inl hid
    · exact hf1 id hid hu
  · -- after both
    have hk' := hk1 out1' ho1'
    replace hk' : osat (effStep Γ D n ops o2 (s.app o1.dst out1')) _ := hk'
    have he3' : effStep Γ D n ops o2 (s.app o1.dst out1') = some S2 := by
      refine eff_local he2' (fun t ht => ?_) (fun i hi => ?_)
      · rw [get_app, if_neg]
        intro e; exact ha1 t e ht
      · rw [hlook_app_of]
        intro hm; exact hc2a i hi (h12 i (hc1u out1' ho1' i hm)).1
    rw [he3'] at hk'
    obtain ⟨_, _, _, _, _, hk3⟩ := hk'
    refine hK _ _ ⟨fun i => ?_, fun i => ?_, fun i => ?_⟩ (hk3 out2 ho2)
    · rw [get_app, get_app, get_app, get_app]
      by_cases e1 : o1.dst = some i
      · rw [if_pos e1, if_pos e1, if_neg (fun e2 => ha2 i e1 e2)]
      · rw [if_neg e1, if_neg e1]
    · rw [hlook_app, hlook_app, hlook_app, hlook_app]
      by_cases k1 : i ∈ out1'.up.map Prod.fst
      · have : i ∉ out2.up.map Prod.fst := fun k2 => (h12 i (hc1u out1' ho1' i k1)).2 (hc2u out2 ho2 i k2)
        rw [look_keys this]; simp
      · rw [look_keys k1]; simp
    · rw [u_app, u_app, u_app, u_app]
      simp only [List.mem_append]
      constructor
      · rintro (h | h | h)
        · exact .inr (.inl h)
        · exact .inl h
        · exact .inr (.inr h)
      · rintro (h | h | h)
        · exact .inr (.inl h)
        · exact .inl h
        · exact .inr (.inr h)

def nthL (l : List (List Nat)) (i : Nat) : List Nat := (l[i]?).getD []
def bads (wr bad : List (List Nat)) (i : Nat) : Step → Prop := chk (nthL wr i) (nthL bad i)

/-- May j be taken ahead of k (text: k ahead of j)? -/
def freeB (ops : Array Oper) (wr bad : List (List Nat)) (k j : Nat) : Bool :=
  match ops[k]?, ops[j]? with
  | some o1, some o2 => o1.apart ops o2 && (nthL wr k).all (fun x => decide (x ∈ nthL bad j) && !decide (x ∈ nthL wr j)) && (nthL wr j).all (fun x => decide (x ∈ nthL bad k))
  | _, _ => false

theorem bubble {wr bad : List (List Nat)} {K : St → Prop} (hK : Resp K) {j : Nat} {l2 : List Nat} : ∀ (l1 : List Nat) (s : St), (∀ k ∈ l1, freeB ops wr bad k j = true) →
    runC Γ D n (bads wr bad) ops (l1 ++ j :: l2) s K → runC Γ D n (bads wr bad) ops (j :: (l1 ++ l2)) s K := by
  intro l1
  induction l1 with
  | nil => intro s _ h; exact h
  | cons k r ih =>
    intro s hf h
    have hkj := hf k (by simp)
    unfold freeB at hkj
    split at hkj
    rotate_left
    · cases hkj
    rename_i o1 o2 ho1 ho2
    simp only [Bool.and_eq_true, List.all_eq_true, decide_eq_true_eq, Bool.not_eq_true', decide_eq_false_iff_not] at hkj
    obtain ⟨⟨h1, h2⟩, h3⟩ := hkj
    rw [List.cons_append, runC, ho1] at h
    simp only at h
    have h' := stepG_mono (fun s' hs => ih s' (fun k' hk' => hf k' (by simp [hk'])) hs) h
    have h'' : stepG Γ D n (bads wr bad k) ops o1 s fun s1 => stepG Γ D n (bads wr bad j) ops o2 s1 fun s2 => runC Γ D n (bads wr bad) ops (r ++ l2) s2 K := by
      refine stepG_mono (fun s' hs => ?_) h'
      rw [runC, ho2] at hs; exact hs
    have := swap (resp_runC hK (r ++ l2)) h1 h2 h3 h''
    rw [runC, ho2]
    refine stepG_mono (fun s' hs => ?_) this
    rw [List.cons_append, runC, ho1]; exact hs

end
end Go.Aw
