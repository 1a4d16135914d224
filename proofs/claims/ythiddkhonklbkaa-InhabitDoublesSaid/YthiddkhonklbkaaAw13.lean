/- Steps of states: operations, calls by contract; regions in the text's order. -/
import Derived.Test.YthiddkhonklbkaaAw12
set_option linter.unusedVariables false
set_option linter.unusedSimpArgs false
namespace Go.Aw
open Go

def stepOp (D : Types) (n : Nat) (o : Oper) (s : St) (K : St → Prop) : Prop :=
  match opF D o.op (o.dst.getD 0 + 100) s.ev (hlook s.H) with
  | some out => (∀ id ∈ out.new, id ∉ s.u) ∧ (∀ d, o.dst = some d → d < n) ∧ K ((s.put o.dst out.v).with out.up out.new)
  | none => False

section
variable {P : Program} {D : Types} {w0 w : World} {ok0 F : Nat → Prop} {ρ0 : Names} {n : Nat} {s : St} {a : Act} {ρ : Names} {ok : Nat → Prop}

theorem BlkOK.bound {id : Nat} {B : Blk} (h : BlkOK w ρ ok id B) : ∃ x, ρ id = some x := by
  cases B with
  | row ty sz cs =>
    rcases h with ⟨h, _⟩ | ⟨g, cur, h, _⟩
    · exact ⟨_, h⟩
    · exact ⟨_, h⟩
  | map es => obtain ⟨g, ents, clock, h, _⟩ := h; exact ⟨_, h⟩

theorem Rl.fresh (h : Rl w0 ok0 F ρ0 n s a w ρ ok) {id : Nat} (hid : id ∉ s.u) : ρ id = none ∧ hlook s.H id = none := by
  have h1 : ρ id = none := by
    cases hx : ρ id with
    | none => rfl
    | some x => exact absurd (h.used id x hx) hid
  refine ⟨h1, ?_⟩
  cases hB : hlook s.H id with
  | none => rfl
  | some B =>
    obtain ⟨x, hx⟩ := (h.heap.blk id B hB).bound
    rw [h1] at hx; cases hx

theorem Rl.ev (h : Rl w0 ok0 F ρ0 n s a w ρ ok) (x : Operand) : AVRel w ρ ok (s.ev x) (a.eval x) := by
  cases x with
  | tmp t => exact h.tmp t
  | const v => exact .const v
  | global g => exact .junk _
  | func f => exact .fn (.func f) [] [] #[] #[] rfl rfl (fun i a u h => by simp at h) (fun i a u h => by simp at h)

theorem getD_put (a : Act) (d : Nat) (v : Value) (i : Nat) (hd : d < a.tmps.size) : (a.put (some d) v).tmps.getD i undef = if i = d then v else a.tmps.getD i undef := by
  simp only [Act.put, Array.getD_eq_getD_getElem?, Array.getElem?_setIfInBounds]
  by_cases e : i = d
  · subst e; simp [hd]
  · simp [e, Ne.symm e]
theorem get_put (s : St) (d : Nat) (v : AV) (i : Nat) : (s.put (some d) v).get i = if i = d then v else s.get i := by
  simp only [St.put, St.get, look_cons]
  split <;> rfl

/-- A slot is written, the world and the memory have gone on. -/
theorem Rl.step (h : Rl w0 ok0 F ρ0 n s a w ρ ok) {dst : Option Nat} (hdst : ∀ d, dst = some d → d < n) {av : AV} {v : Value} {w' : World} {ρ' : Names} {ok' : Nat → Prop} {H' : Heap} {u' : List Nat} {T : Nat → Prop}
    (hv : AVRel w' ρ' ok' av v) (hH : HeapOK w' ρ' ok' H') (hρ : ∀ id x, ρ id = some x → ρ' id = some x) (hu : ∀ id x, ρ' id = some x → id ∈ u')
    (hk : Kept w w' T) (hT : ∀ b, T b → Own ρ s.H b) (hown : ∀ b, Own ρ' H' b → Own ρ s.H b ∨ w.heap.size ≤ b)
    (hok : ∀ b, ok b → ok' b) (hokn : ∀ b, ok' b → ok b ∨ w.heap.size ≤ b ∨ Own ρ s.H b) :
    Rl w0 ok0 F ρ0 n { t := (s.put dst av).t, H := H', u := u' } (a.put dst v) w' ρ' ok' := by
  have hTok : ∀ b, ok b → ¬ T b := by
    intro b hb ht
    obtain ⟨id, B, h1, h2⟩ := hT b ht
    exact h.heap.away id B b h1 h2 hb
  have hsz := h.kept.size
  refine ⟨?_, ?_, ?_, hH, hu, ?_, ?_, fun b hb => hok b (h.oksub b hb), ?_, fun id x hx => ⟨(h.init id x hx).1, hρ id x (h.init id x hx).2⟩⟩
  · cases dst with
    | none => exact h.size
    | some d => simp [Act.put, h.size]
  · cases dst <;> exact h.defers
  · intro i
    have hold := (h.tmp i).mono hρ hok hk hTok
    cases dst with
    | none => exact hold
    | some d =>
      rw [getD_put a d v i (by rw [h.size]; exact hdst d rfl)]
      show AVRel w' ρ' ok' ((s.put (some d) av).get i) _
      rw [get_put]
      split
      · exact hv
      · exact hold
  · intro b hb
    rcases hown b hb with hb | hb
    · exact h.home b hb
    · exact .inr (by omega)
  · refine h.kept.trans hk (fun b hb ht => ?_)
    rcases h.home b (hT b ht) with hf | hf
    · exact hf
    · omega
  · intro b hb
    rcases hokn b hb with hb | hb | hb
    · exact h.okn b hb
    · exact .inr (.inl (by omega))
    · rcases h.home b hb with hf | hf
      · exact .inr (.inr hf)
      · exact .inr (.inl hf)

theorem stepOp_sound (hA : Agrees P D) (hR : Rl w0 ok0 F ρ0 n s a w ρ ok) {o : Oper} {K : St → Prop} (h : stepOp D n o s K) :
    ∃ v w' ρ' s', ((execOp a.eval o).run P w = .ok (.value v) w' ∨ ((execOp a.eval o).run P w = .ok .skip w' ∧ v = undef)) ∧ K s' ∧ Rl w0 ok0 F ρ0 n s' (a.put o.dst v) w' ρ' ok := by
  unfold stepOp at h
  split at h
  · rename_i out hout
    obtain ⟨hnew, hdst, hK⟩ := h
    obtain ⟨v, w', ρ', hrun, hp⟩ := opF_sound hA hR.heap hR.ev hout (fun id hid => hR.fresh (hnew id hid))
    refine ⟨v, w', ρ', _, hrun, hK, ?_⟩
    have := hR.step hdst hp.val hp.heap hp.ext (u' := out.new ++ s.u) (fun id x hx => ?_) hp.kept (fun b ⟨id, B, _, h1, h2⟩ => ⟨id, B, h1, h2⟩) hp.own (fun _ h => h) (fun _ h => .inl h)
    · have e : ((s.put o.dst out.v).with out.up out.new) = { t := (s.put o.dst out.v).t, H := out.up ++ s.H, u := out.new ++ s.u } := by cases o.dst <;> rfl
      rw [e]; exact this
    · rw [List.mem_append]
      rcases hp.new id x hx with h | h
      · exact .inr (hR.used id x h)
      · exact .inl h.1
  · exact h.elim

/-! ### calls -/
/-- Whatever reads as a reads as c, too. -/
def AV.le (a c : AV) : Prop := ∀ w ρ ok v, AVRel w ρ ok a v → AVRel w ρ ok c v
theorem AV.le.refl (a : AV) : a.le a := fun _ _ _ _ h => h
/-- A value without memory. -/
def Flat (r : AV) : Prop := ∀ w ρ ok v w' ρ' ok', AVRel w ρ ok r v → AVRel w' ρ' ok' r v
/-- What a reads as now. -/
def Snap (H : Heap) (a : AV) (p : PV) : Prop := ∀ w ρ ok v, HeapOK w ρ ok H → AVRel w ρ ok a v → Rel w (fun b => b < w.heap.size) p v

def St.after (s : St) (dst : Option Nat) (f : Nat → Nat) (N R : List Nat) (r : AV) (H' : Heap) : St :=
  { t := (s.put dst (r.ren f)).t, H := (N.map fun i => (f i, (hlook H' i).map (Blk.ren f))) ++ s.H, u := R.map f ++ s.u }

/-- A call by a contract: memory is handed over by names. -/
def callS (P : Program) (g : FuncId) (args : List AV) (o : Oper) (s : St) (K : St → Prop) : Prop :=
  ∃ (I R : List Nat) (f : Nat → Nat) (cargs : List AV) (H : Heap) (Q : AV → Heap → Prop),
    ASpec P g I R cargs H Q ∧ cargs.length = args.length ∧ (∀ (i : Nat) (a c : AV), args[i]? = some a → cargs[i]? = some c → a.le (c.ren f)) ∧ (∀ c ∈ cargs, ∀ i ∈ c.ids, i ∈ I) ∧
    (∀ i ∈ I, (hlook H i).isSome = true ∧ hlook s.H (f i) = (hlook H i).map (Blk.ren f)) ∧ (∀ i B, hlook H i = some B → i ∈ I ∧ ∀ j ∈ B.ids, j ∈ I) ∧
    (∀ i ∈ I, ∀ j ∈ I, f i = f j → i = j) ∧ (∀ j ∈ R, f j ∉ s.u) ∧ (∀ i ∈ R, ∀ j ∈ R, f i = f j → i = j) ∧
    ∀ r H', Q r H' → K (s.after o.dst f (I ++ R) R r H')
/-- A call by a contract that hands back no memory: what the arguments read as now. -/
def callB (P : Program) (g : FuncId) (args : List AV) (o : Oper) (s : St) (K : St → Prop) : Prop :=
  ∃ (ps : List PV) (Q : AV → Heap → Prop), ASpec P g [] [] (ps.map .p) [] Q ∧ ps.length = args.length ∧ (∀ (i : Nat) (a : AV) (p : PV), args[i]? = some a → ps[i]? = some p → Snap s.H a p) ∧
    ∀ r H', Q r H' → Flat r ∧ K (s.put o.dst r)
def callOp (P : Program) (n : Nat) (g : FuncId) (args : List AV) (o : Oper) (s : St) (K : St → Prop) : Prop :=
  (∀ d, o.dst = some d → d < n) ∧ (callS P g args o s K ∨ callB P g args o s K)

theorem hlook_append (H1 H2 : Heap) (i : Nat) : hlook (H1 ++ H2) i = if (look H1 i).isSome then hlook H1 i else hlook H2 i := by
  induction H1 with
  | nil => rfl
  | cons p r ih =>
    obtain ⟨k, v⟩ := p
    rw [List.cons_append, hlook_cons, hlook_cons, look_cons]
    by_cases e : i = k
    · simp [e]
    · simp [e, ih]
theorem look_map {α : Type} (N : List Nat) (f : Nat → Nat) (h : Nat → α) (k : Nat) :
    look (N.map fun i => (f i, h i)) k = (N.find? fun i => f i == k).map h := by
  induction N with
  | nil => rfl
  | cons i N ih =>
    rw [List.map_cons, look_cons, List.find?_cons]
    by_cases e : k = f i
    · subst e; simp
    · have : (f i == k) = false := by simp [Ne.symm e]
      rw [if_neg e, this, ih]
theorem find_inj {N : List Nat} {f : Nat → Nat} {i : Nat} (hi : i ∈ N) (hinj : ∀ a ∈ N, ∀ b ∈ N, f a = f b → a = b) : (N.find? fun j => f j == f i) = some i := by
  induction N with
  | nil => cases hi
  | cons j N ih =>
    rw [List.find?_cons]
    by_cases e : f j = f i
    · have := hinj j (by simp) i hi e
      subst this; simp
    · have : (f j == f i) = false := by simp [e]
      rw [this]
      rcases List.mem_cons.1 hi with rfl | hi
      · exact absurd rfl e
      · exact ih hi (fun a ha b hb => hinj a (by simp [ha]) b (by simp [hb]))
theorem find_none {N : List Nat} {f : Nat → Nat} {k : Nat} (h : ∀ i ∈ N, f i ≠ k) : (N.find? fun j => f j == k) = none := by
  rw [List.find?_eq_none]; intro i hi; simp [h i hi]

theorem BlkOK.unren {ρ' : Names} {f : Nat → Nat} {id : Nat} {B : Blk} (h : BlkOK w ρ ok (f id) (B.ren f)) (hid : ∀ x, ρ (f id) = some x → ρ' id = some x) (hf : ∀ i ∈ B.ids, ∀ x, ρ (f i) = some x → ρ' i = some x) : BlkOK w ρ' ok id B := by
  cases B with
  | row ty sz cs =>
    simp only [Blk.ren, renL_map] at h
    rcases h with ⟨h1, h2⟩ | ⟨g, cur, h1, h2, h3, h4, h5⟩
    · exact .inl ⟨hid _ h1, by simpa using h2⟩
    · refine .inr ⟨g, cur, hid _ h1, h2, by simpa using h3, fun a ha => ?_, fun k a u ha hu => ?_⟩
      · have := h4 (a.ren f) (List.mem_map_of_mem ha)
        rwa [ren_one] at this
      · exact (h5 k (a.ren f) u (by rw [List.getElem?_map, ha]; rfl) hu).unren (fun i hi => hf i (idsL_mem (List.mem_of_getElem? ha) hi))
  | map es =>
    obtain ⟨g, ents, clock, h1, h2⟩ := h
    exact ⟨g, ents, clock, hid _ h1, h2⟩
theorem BlkOK.ren {ρ' : Names} {f : Nat → Nat} {id : Nat} {B : Blk} (h : BlkOK w ρ ok id B) (hid : ∀ x, ρ id = some x → ρ' (f id) = some x) (hf : ∀ i ∈ B.ids, ∀ x, ρ i = some x → ρ' (f i) = some x) : BlkOK w ρ' ok (f id) (B.ren f) := by
  cases B with
  | row ty sz cs =>
    simp only [Blk.ren, renL_map]
    rcases h with ⟨h1, h2⟩ | ⟨g, cur, h1, h2, h3, h4, h5⟩
    · exact .inl ⟨hid _ h1, by simpa using h2⟩
    · refine .inr ⟨g, cur, hid _ h1, h2, by simpa using h3, fun a ha => ?_, fun k a u ha hu => ?_⟩
      · rw [List.mem_map] at ha
        obtain ⟨x, hx, rfl⟩ := ha
        rw [ren_one]; exact h4 x hx
      · rw [List.getElem?_map, Option.map_eq_some_iff] at ha
        obtain ⟨x, hx, rfl⟩ := ha
        exact (h5 k x u hx hu).ren (fun i hi => hf i (idsL_mem (List.mem_of_getElem? hx) hi))
  | map es =>
    obtain ⟨g, ents, clock, h1, h2⟩ := h
    exact ⟨g, ents, clock, hid _ h1, h2⟩

/-- What a call leaves. -/
def CallPost (w0 : World) (ok0 F : Nat → Prop) (ρ0 : Names) (n : Nat) (a : Act) (dst : Option Nat) (K : St → Prop) (e : Ending) (w' : World) : Prop :=
  ∃ v s' ρ' ok', e = .returned v ∧ K s' ∧ Rl w0 ok0 F ρ0 n s' (a.put dst v) w' ρ' ok'

theorem callB_sound (hR : Rl w0 ok0 F ρ0 n s a w ρ ok) {g : FuncId} {args : List AV} {o : Oper} {K : St → Prop} (hdst : ∀ d, o.dst = some d → d < n) (h : callB P g args o s K) {vals : Array Value} (hl : vals.size = args.length)
    (hv : ∀ (i : Nat) (x : AV) (v : Value), args[i]? = some x → vals[i]? = some v → AVRel w ρ ok x v) : Calls P g vals w (CallPost w0 ok0 F ρ0 n a o.dst K) := by
  obtain ⟨ps, Q, hspec, hpl, hsnap, hK⟩ := h
  have hH0 : HeapOK w (fun _ => none) (fun b => b < w.heap.size) [] := ⟨fun id B h => by simp at h, fun id B g h => by simp at h, fun id id' B B' g h => by simp at h, fun b hb => hb⟩
  refine (hspec.2 w (fun _ => none) (fun b => b < w.heap.size) vals hH0 (fun id x h => by cases h) (by simp [hl, hpl]) ?_).mono ?_
  · intro i c v hc hv'
    rw [List.getElem?_map, Option.map_eq_some_iff] at hc
    obtain ⟨p, hp, rfl⟩ := hc
    have hlt : i < args.length := by rw [← hpl]; exact (List.getElem?_eq_some_iff.1 hp).1
    exact .p _ _ (hsnap i _ p (List.getElem?_eq_getElem hlt) hp w ρ ok v hR.heap (hv i _ v (List.getElem?_eq_getElem hlt) hv'))
  · rintro e w' ⟨v, r, H', ρ', ok', rfl, hQ, _, _, hr, _, hk, _⟩
    obtain ⟨hflat, hk'⟩ := hK r H' hQ
    have hkk : Kept w w' (fun _ => False) := hk.mono (fun b _ ⟨id, B, h, _⟩ => by simp at h)
    refine ⟨v, _, ρ, ok, rfl, hk', ?_⟩
    have := hR.step hdst (hflat _ _ _ _ w' ρ ok hr) (hR.heap.mono hkk (fun _ _ h => h) (fun _ _ _ _ _ h => h)) (fun _ _ h => h) hR.used hkk (fun _ h => h.elim) (fun b h => .inl h) (fun _ h => h) (fun _ h => .inl h)
    have e : s.put o.dst r = { t := (s.put o.dst r).t, H := s.H, u := s.u } := by cases o.dst <;> rfl
    rw [e]; exact this

theorem callS_sound (hR : Rl w0 ok0 F ρ0 n s a w ρ ok) {g : FuncId} {args : List AV} {o : Oper} {K : St → Prop} (hdst : ∀ d, o.dst = some d → d < n) (h : callS P g args o s K) {vals : Array Value} (hl : vals.size = args.length)
    (hv : ∀ (i : Nat) (x : AV) (v : Value), args[i]? = some x → vals[i]? = some v → AVRel w ρ ok x v) : Calls P g vals w (CallPost w0 ok0 F ρ0 n a o.dst K) := by
  obtain ⟨I, R, f, cargs, H, Q, hspec, hcl, hle, hcids, hI, hHI, hinj, hRu, hRinj, hK⟩ := h
  -- the callee's names
  let ρc : Names := fun i => if i ∈ I then ρ (f i) else none
  have hρc : ∀ i ∈ I, ρc i = ρ (f i) := fun i hi => by simp [ρc, hi]
  have hρc' : ∀ i, i ∈ I → ∀ x, ρ (f i) = some x → ρc i = some x := fun i hi x hx => by rw [hρc i hi]; exact hx
  have hmem : ∀ i x, ρc i = some x → i ∈ I ∧ ρ (f i) = some x := by
    intro i x hx
    by_cases hi : i ∈ I
    · exact ⟨hi, by rw [← hρc i hi]; exact hx⟩
    · simp [ρc, hi] at hx
  have hblk : ∀ i B, hlook H i = some B → BlkOK w ρ ok (f i) (B.ren f) := by
    intro i B hB
    have hi := (hHI i B hB).1
    have := (hI i hi).2
    rw [hB] at this
    exact hR.heap.blk (f i) _ this
  have hHc : HeapOK w ρc ok H := by
    refine ⟨fun i B hB => ?_, fun i B g hB hg hok => ?_, fun i j B B' g hB hB' hg hg' => ?_, hR.heap.lt⟩
    · obtain ⟨hi, hids⟩ := hHI i B hB
      exact (hblk i B hB).unren (hρc' i hi) (fun j hj => hρc' j (hids j hj))
    · have hi := (hHI i B hB).1
      have h2 := (hI i hi).2
      rw [hB] at h2
      exact hR.heap.away (f i) _ g h2 (hmem i _ hg).2 hok
    · have hi := (hHI i B hB).1
      have hj := (hHI j B' hB').1
      have h2 := (hI i hi).2
      have h3 := (hI j hj).2
      rw [hB] at h2; rw [hB'] at h3
      exact hinj i hi j hj (hR.heap.inj (f i) (f j) _ _ g h2 h3 (hmem i _ hg).2 (hmem j _ hg').2)
  have hOwn : ∀ b, Own ρc H b → ∃ i ∈ I, ∃ B, hlook s.H (f i) = some B ∧ ρ (f i) = some (some b) := by
    rintro b ⟨i, B, hB, hb⟩
    have hi := (hHI i B hB).1
    have h2 := (hI i hi).2
    rw [hB] at h2
    exact ⟨i, hi, _, h2, (hmem i _ hb).2⟩
  have hIbound : ∀ i ∈ I, ∃ x, ρ (f i) = some x := by
    intro i hi
    obtain ⟨B, hB⟩ := Option.isSome_iff_exists.1 (hI i hi).1
    exact (hblk i B hB).bound
  have hIu : ∀ i ∈ I, f i ∈ s.u := fun i hi => by obtain ⟨x, hx⟩ := hIbound i hi; exact hR.used _ x hx
  refine (hspec.2 w ρc ok vals hHc (fun i x hx => (hmem i x hx).1) (by rw [hl, hcl]) ?_).mono ?_
  · intro i c v hc hv'
    have hlt : i < args.length := by rw [← hcl]; exact (List.getElem?_eq_some_iff.1 hc).1
    have h1 := hle i _ c (List.getElem?_eq_getElem hlt) hc w ρ ok v (hv i _ v (List.getElem?_eq_getElem hlt) hv')
    exact h1.unren (fun j hj => hρc' j (hcids c (List.mem_of_getElem? hc) j hj))
  · rintro e w' ⟨v, r, H', ρ', ok', rfl, hQ, hrids, hH'ids, hr, hH', hk, hext, hbd, hok, hokn, hown⟩
    refine ⟨v, s.after o.dst f (I ++ R) R r H', (fun i => match R.find? (fun j => f j == i) with | some j => ρ' j | none => ρ i), ok', rfl, hK r H' hQ, ?_⟩
    generalize hρn : (fun i => match R.find? (fun j => f j == i) with | some j => ρ' j | none => ρ i : Names) = ρn
    have hnR : ∀ j ∈ R, ρn (f j) = ρ' j := by
      intro j hj
      rw [← hρn]
      simp only [find_inj hj hRinj]
    have hnO : ∀ i, (∀ j ∈ R, f j ≠ i) → ρn i = ρ i := by
      intro i hi
      rw [← hρn]
      simp only [find_none hi]
    have hnI : ∀ i ∈ I, ρn (f i) = ρ (f i) := fun i hi => hnO _ (fun j hj e => hRu j hj (e ▸ hIu i hi))
    have hρ'I : ∀ i ∈ I, ρ' i = ρn (f i) := by
      intro i hi
      obtain ⟨x, hx⟩ := hIbound i hi
      rw [hnI i hi, hx]
      exact hext i x (by rw [hρc i hi]; exact hx)
    have hN : ∀ i ∈ I ++ R, ∀ x, ρ' i = some x → ρn (f i) = some x := by
      intro i hi x hx
      rcases List.mem_append.1 hi with hi | hi
      · rw [← hρ'I i hi]; exact hx
      · rw [hnR i hi]; exact hx
    have hN' : ∀ i ∈ I ++ R, ∀ x, ρn (f i) = some x → ρ' i = some x := by
      intro i hi x hx
      rcases List.mem_append.1 hi with hi | hi
      · rw [hρ'I i hi]; exact hx
      · rw [← hnR i hi]; exact hx
    have hNinj : ∀ i ∈ I ++ R, ∀ j ∈ I ++ R, f i = f j → i = j := by
      intro i hi j hj e
      rcases List.mem_append.1 hi with hi | hi <;> rcases List.mem_append.1 hj with hj | hj
      · exact hinj i hi j hj e
      · exact absurd (e ▸ hIu i hi) (hRu j hj)
      · exact absurd (e ▸ hIu j hj) (hRu i hi)
      · exact hRinj i hi j hj e
    -- the memory behind it
    have hlk : ∀ k, hlook (s.after o.dst f (I ++ R) R r H').H k = match (I ++ R).find? (fun i => f i == k) with | some i => (hlook H' i).map (Blk.ren f) | none => hlook s.H k := by
      intro k
      show hlook (((I ++ R).map fun i => (f i, (hlook H' i).map (Blk.ren f))) ++ s.H) k = _
      rw [hlook_append, hlook, look_map]
      cases (I ++ R).find? (fun i => f i == k) with
      | none => rfl
      | some i => simp
    have hcase : ∀ k B, hlook (s.after o.dst f (I ++ R) R r H').H k = some B → (∃ i ∈ I ++ R, ∃ C, f i = k ∧ hlook H' i = some C ∧ B = C.ren f) ∨ ((∀ i ∈ I ++ R, f i ≠ k) ∧ hlook s.H k = some B) := by
      intro k B hB
      rw [hlk] at hB
      cases hfd : (I ++ R).find? (fun i => f i == k) with
      | none =>
        rw [hfd] at hB
        refine .inr ⟨fun i hi e => ?_, hB⟩
        have := List.find?_eq_none.1 hfd i hi
        simp [e] at this
      | some i =>
        rw [hfd] at hB
        simp only [Option.map_eq_some_iff] at hB
        obtain ⟨C, hC, rfl⟩ := hB
        have h1 := List.find?_some hfd
        exact .inl ⟨i, List.mem_of_find?_eq_some hfd, C, by simpa using h1, hC, rfl⟩
    have hold : ∀ k B g, (∀ i ∈ I ++ R, f i ≠ k) → hlook s.H k = some B → ρn k = some (some g) → ρ k = some (some g) ∧ g < w.heap.size ∧ ¬ Own ρc H g := by
      intro k B g hk hB hg
      rw [hnO k (fun j hj => hk j (List.mem_append.2 (.inr hj)))] at hg
      refine ⟨hg, (hR.heap.blk k B hB).lt g hg, fun hO => ?_⟩
      obtain ⟨i, hi, C, h1, h2⟩ := hOwn g hO
      exact hk i (List.mem_append.2 (.inl hi)) (hR.heap.inj _ _ _ _ g h1 hB h2 hg)
    have hTok : ∀ b, ok b → ¬ Own ρc H b := by
      intro b hb hO
      obtain ⟨i, hi, C, h1, h2⟩ := hOwn b hO
      exact hR.heap.away _ _ b h1 h2 hb
    have hρext : ∀ id x, ρ id = some x → ρn id = some x := by
      intro id x hx
      rw [hnO id (fun j hj e => hRu j hj (e ▸ hR.used id x hx))]; exact hx
    have hHn : HeapOK w' ρn ok' (s.after o.dst f (I ++ R) R r H').H := by
      refine ⟨fun k B hB => ?_, fun k B g hB hg hokg => ?_, fun k k' B B' g hB hB' hg hg' => ?_, hH'.lt⟩
      · rcases hcase k B hB with ⟨i, hi, C, rfl, hC, rfl⟩ | ⟨hk', hB⟩
        · exact (hH'.blk i C hC).ren (hN i hi) (fun j hj => hN j ((hH'ids i C hC).2 j hj))
        · exact (hR.heap.blk k B hB).mono hρext hok hk hTok (fun g hg hO => (hold k B g hk' hB (hρext _ _ hg)).2.2 hO)
      · rcases hcase k B hB with ⟨i, hi, C, rfl, hC, rfl⟩ | ⟨hk', hB⟩
        · exact hH'.away i C g hC (hN' i hi _ hg) hokg
        · obtain ⟨h1, h2, h3⟩ := hold k B g hk' hB hg
          rcases hokn g hokg with h | h | h
          · exact hR.heap.away k B g hB h1 h
          · omega
          · exact h3 h
      · rcases hcase k B hB with ⟨i, hi, C, rfl, hC, rfl⟩ | ⟨hk1, hB1⟩ <;> rcases hcase k' B' hB' with ⟨j, hj, C', rfl, hC', rfl⟩ | ⟨hk2, hB2⟩
        · rw [hH'.inj i j C C' g hC hC' (hN' i hi _ hg) (hN' j hj _ hg')]
        · obtain ⟨h1, h2, h3⟩ := hold k' B' g hk2 hB2 hg'
          rcases hown g ⟨i, C, hC, hN' i hi _ hg⟩ with h | h
          · exact absurd h h3
          · omega
        · obtain ⟨h1, h2, h3⟩ := hold k B g hk1 hB1 hg
          rcases hown g ⟨j, C', hC', hN' j hj _ hg'⟩ with h | h
          · exact absurd h h3
          · omega
        · exact hR.heap.inj k k' B B' g hB1 hB2 (hold k B g hk1 hB1 hg).1 (hold k' B' g hk2 hB2 hg').1
    have hOO : ∀ b, Own ρc H b → Own ρ s.H b := by
      intro b hb
      obtain ⟨i, hi, C, h1, h2⟩ := hOwn b hb
      exact ⟨f i, C, h1, h2⟩
    have key := hR.step hdst (av := r.ren f) (v := v) (hr.ren (fun i hi => hN i (hrids i hi))) hHn hρext (u' := R.map f ++ s.u) ?_ hk hOO ?_ hok ?_
    · exact key
    · intro id x hx
      rw [List.mem_append, List.mem_map]
      by_cases hex : ∃ j ∈ R, f j = id
      · exact .inl hex
      · rw [hnO id (fun j hj e => hex ⟨j, hj, e⟩)] at hx
        exact .inr (hR.used id x hx)
    · rintro b ⟨k, B, hB, hb⟩
      rcases hcase k B hB with ⟨i, hi, C, rfl, hC, rfl⟩ | ⟨hk1, hB1⟩
      · rcases hown b ⟨i, C, hC, hN' i hi _ hb⟩ with h | h
        · exact .inl (hOO b h)
        · exact .inr h
      · exact .inl ⟨k, B, hB1, (hold k B b hk1 hB1 hb).1⟩
    · intro b hb
      rcases hokn b hb with h | h | h
      · exact .inl h
      · exact .inr (.inl h)
      · exact .inr (.inr (hOO b h))

end
end Go.Aw
