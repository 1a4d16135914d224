/- More words of 'simp': values looked into, lists; states that say less. -/
import Derived.Test.YthiddkhonklbkaaAw21
set_option linter.unusedVariables false
set_option linter.unusedSimpArgs false
namespace Go.Aw
open Go

section
variable {k : IntKind} {n : Int} {b : Bool} {l : List UInt8} {sz off len id : Nat} {xs : List PV} {ys zs : List AV} {es : List (List UInt8 × PV)} {A : Option Addr} {m c : Nat} {f : Fn} {cs : List PV} {o : Option Addr} {g : Option Nat}
theorem asI_str : asI (.p (.c (str l))) = none := rfl
theorem asI_bool : asI (.p (.c (.bool b))) = none := rfl
theorem asI_fro : asI (.p (.fro sz xs)) = none := rfl
theorem asI_agg : asI (.p (.agg xs)) = none := rfl
theorem asI_slice : asI (.p (.c (.slice A m c))) = none := rfl
theorem asI_sl : asI (.sl id sz off len) = none := rfl
theorem asI_undef : asI (.p (.c undef)) = none := rfl
theorem asL_int : asL (.p (.c (.int k n))) = none := rfl
theorem asL_bool : asL (.p (.c (.bool b))) = none := rfl
theorem asL_fro : asL (.p (.fro sz xs)) = none := rfl
theorem asL_slice : asL (.p (.c (.slice A m c))) = none := rfl
theorem asL_sl : asL (.sl id sz off len) = none := rfl
theorem asL_undef : asL (.p (.c undef)) = none := rfl
theorem asB_str : asB (.p (.c (str l))) = none := rfl
theorem asB_int : asB (.p (.c (.int k n))) = none := rfl
theorem asB_undef : asB (.p (.c undef)) = none := rfl
theorem yieldA_bool : yieldA (.p (.c (.bool b))) = some (some b) := rfl
theorem yieldA_undef : yieldA (.p (.c undef)) = some none := rfl
theorem cells_c_int : (AV.p (.c (.int k n))).cells = [.p (.c (.int k n))] := rfl
theorem cells_c_bool : (AV.p (.c (.bool b))).cells = [.p (.c (.bool b))] := rfl
theorem cells_c_str : (AV.p (.c (str l))).cells = [.p (.c (str l))] := rfl
theorem cells_c_slice : (AV.p (.c (.slice A m c))).cells = [.p (.c (.slice A m c))] := rfl
theorem cells_c_map : (AV.p (.c (.map g))).cells = [.p (.c (.map g))] := rfl
theorem cells_c_ptr : (AV.p (.c (.pointer o))).cells = [.p (.c (.pointer o))] := rfl
theorem cells_fro : (AV.p (.fro sz xs)).cells = [.p (.fro sz xs)] := rfl
theorem cells_fmap : (AV.p (.fmap es)).cells = [.p (.fmap es)] := rfl
theorem cells_pagg : (AV.p (.agg xs)).cells = xs.map .p := rfl
theorem cells_agg : (AV.agg ys).cells = ys := rfl
theorem cells_sl : (AV.sl id sz off len).cells = [.sl id sz off len] := rfl
theorem cells_ptr : (AV.ptr id off).cells = [.ptr id off] := rfl
theorem cells_mp : (AV.mp id).cells = [.mp id] := rfl
theorem cells_fn : (AV.fn f ys zs).cells = [.fn f ys zs] := rfl
theorem fine_int : (AV.p (.c (.int k n))).fineB = true := rfl
theorem fine_bool : (AV.p (.c (.bool b))).fineB = true := rfl
theorem fine_str : (AV.p (.c (str l))).fineB = true := rfl
theorem fine_slice : (AV.p (.c (.slice A m c))).fineB = true := rfl
theorem fine_map : (AV.p (.c (.map g))).fineB = true := rfl
theorem fine_ptr' : (AV.p (.c (.pointer o))).fineB = true := rfl
theorem fine_fro : (AV.p (.fro sz xs)).fineB = true := rfl
theorem fine_fmap : (AV.p (.fmap es)).fineB = true := rfl
theorem fine_pagg : (AV.p (.agg xs)).fineB = true := rfl
theorem fine_agg : (AV.agg ys).fineB = true := rfl
theorem fine_sl : (AV.sl id sz off len).fineB = true := rfl
theorem fine_ptr : (AV.ptr id off).fineB = true := rfl
theorem fine_mp : (AV.mp id).fineB = true := rfl
theorem fine_fn : (AV.fn f ys zs).fineB = true := rfl
theorem one_int : (AV.p (.c (.int k n))).one = true := rfl
theorem one_bool : (AV.p (.c (.bool b))).one = true := rfl
theorem one_str : (AV.p (.c (str l))).one = true := rfl
theorem one_slice : (AV.p (.c (.slice A m c))).one = true := rfl
theorem one_map : (AV.p (.c (.map g))).one = true := rfl
theorem one_ptr' : (AV.p (.c (.pointer o))).one = true := rfl
theorem one_fro : (AV.p (.fro sz xs)).one = true := rfl
theorem one_fmap : (AV.p (.fmap es)).one = true := rfl
theorem one_sl : (AV.sl id sz off len).one = true := rfl
theorem one_ptr : (AV.ptr id off).one = true := rfl
theorem one_mp : (AV.mp id).one = true := rfl
theorem one_fn : (AV.fn f ys zs).one = true := rfl
end

/-- Element i, somehow. -/
def el {α : Type} [Inhabited α] (xs : List α) (i : Int) : α := (xs[i.toNat]?).getD default
theorem nth_el {α : Type} [Inhabited α] (xs : List α) (i : Int) : nth xs i = if 0 ≤ i ∧ i < xs.length then some (el xs i) else none := by
  unfold nth el
  by_cases h : 0 ≤ i
  · rw [if_pos h]
    by_cases h' : i < xs.length
    · rw [if_pos ⟨h, h'⟩]
      have : i.toNat < xs.length := by omega
      rw [List.getElem?_eq_getElem this]; rfl
    · rw [if_neg (fun c => h' c.2), List.getElem?_eq_none]
      omega
  · rw [if_neg h, if_neg (fun c => h c.1)]
theorem nth_map {α β : Type} (f : α → β) (xs : List α) (i : Int) : nth (xs.map f) i = (nth xs i).map f := by
  unfold nth; split
  · rw [List.getElem?_map]
  · rfl
theorem el_nat {α : Type} [Inhabited α] (xs : List α) (i : Nat) (h : i < xs.length) : el xs (i : Int) = xs[i] := by
  unfold el; rw [Int.toNat_natCast, List.getElem?_eq_getElem h]; rfl
theorem el_mem {α : Type} [Inhabited α] {xs : List α} {i : Nat} (h : i < xs.length) : el xs (i : Int) ∈ xs := by
  rw [el_nat xs i h]; exact List.getElem_mem h
theorem map_if {α β : Type} {c : Prop} [Decidable c] {x y : Option α} {f : α → β} : (if c then x else y).map f = if c then x.map f else y.map f := by split <;> rfl
theorem bind_if {α β : Type} {c : Prop} [Decidable c] {x : Option α} {f : α → Option β} : (if c then x else none).bind f = if c then x.bind f else none := by split <;> rfl

/-! ### saying less -/
theorem AV.le.nil {sz : Nat} : AV.le (.p (.c (.slice none 0 0))) (.p (.fro sz [])) := by
  intro w ρ ok v h
  cases h with
  | p _ _ hr => cases hr with
    | c x => exact .p _ _ (.fro sz [] none 0 [] (by simp) (by decide) (by simp) (by simp [flat]) (by simp) (fun i p u h => by simp [flat] at h) (fun h => by simp at h))
theorem AV.le.junk {a : AV} : AV.le a .junk := fun _ _ _ v _ => .junk v
def subT (t : List (Nat × AV)) : List (Nat × AV) → Prop
  | [] => True
  | (i, v) :: r => ((look t i).getD .junk).le v ∧ subT t r
theorem subT_look {t t' : List (Nat × AV)} (h : subT t t') (i : Nat) : ((look t i).getD .junk).le ((look t' i).getD .junk) := by
  induction t' with
  | nil => exact .junk
  | cons p r ih =>
    obtain ⟨k, v⟩ := p
    rw [look_cons]
    by_cases e : i = k
    · subst e; rw [if_pos rfl]; exact h.1
    · rw [if_neg e]; exact ih h.2
theorem Rl.look {w0 w : World} {ok0 F : Nat → Prop} {ρ0 : Names} {n : Nat} {s : St} {a : Act} {ρ : Names} {ok : Nat → Prop} (h : Rl w0 ok0 F ρ0 n s a w ρ ok) {t' : List (Nat × AV)} {u' : List Nat} (ht : subT s.t t') (hu : ∀ x ∈ s.u, x ∈ u') : Rl w0 ok0 F ρ0 n ⟨t', s.H, u'⟩ a w ρ ok :=
  ⟨h.size, h.defers, fun i => subT_look ht i _ _ _ _ (h.tmp i), h.heap, fun id x hx => hu id (h.used id x hx), h.home, h.kept, h.oksub, h.okn, h.init⟩
theorem LeS.sub {t t' : List (Nat × AV)} {H : Heap} {u : List Nat} (h : subT t t') : LeS ⟨t, H, u⟩ ⟨t', H, u⟩ := fun _ _ _ _ _ _ _ ρ ok hR => ⟨ρ, ok, hR.look h (fun _ h => h)⟩
theorem le_refl_iff {a : AV} : AV.le a a = True := by simp [AV.le.refl]
theorem le_nil_iff {sz : Nat} : AV.le (.p (.c (.slice none 0 0))) (.p (.fro sz [])) = True := by simp [AV.le.nil]
theorem le_junk_iff {a : AV} : AV.le a .junk = True := by simp [AV.le.junk]

attribute [go_sem] asI_str asI_bool asI_fro asI_agg asI_slice asI_sl asI_undef asL_int asL_bool asL_fro asL_slice asL_sl asL_undef asB_str asB_int asB_undef yieldA_bool yieldA_undef cells_c_int cells_c_bool cells_c_str cells_c_slice cells_c_map cells_c_ptr cells_fro cells_fmap cells_pagg cells_agg cells_sl cells_ptr cells_mp cells_fn
  fine_int fine_bool fine_str fine_slice fine_map fine_ptr' fine_fro fine_fmap fine_pagg fine_agg fine_sl fine_ptr fine_mp fine_fn one_int one_bool one_str one_slice one_map one_ptr' one_fro one_fmap one_sl one_ptr one_mp one_fn
  map_if bind_if string_str strBin pickF allocF boxF buildF buildSliceF makeSliceF loadF storeF fieldAddrF fieldF indexAddrF indexF sliceF extractF convF bytesL isU8 lenF lookupF mapUpdateF appendF minmaxF boundF cellsFor valueOf mkagg pures mktup fillF zeros zeroOf fieldAt sizeAt placeF sliceCells entriesOf setSeg hlook_cons hlook_nil
  List.length_cons List.length_nil List.take_succ_cons List.take_zero List.take_nil List.drop_succ_cons List.drop_zero List.drop_nil List.cons_append List.nil_append List.append_nil List.all_cons List.all_nil List.map_cons List.map_nil List.getElem?_cons_zero List.getElem?_cons_succ List.getElem?_nil List.length_map Bool.true_and Bool.and_true Bool.false_and Bool.and_false and_true true_and and_false false_and not_false_eq_true not_true_eq_false Bool.not_true Bool.not_false decide_true decide_false Bool.false_eq_true subT le_refl_iff le_nil_iff le_junk_iff AV.b AV.i AV.s
attribute [go_sem high] nth_map
attribute [go_sem low] nth_el
end Go.Aw
