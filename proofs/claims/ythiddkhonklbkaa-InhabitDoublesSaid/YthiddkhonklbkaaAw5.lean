/- Each operation does to the machine what it does to abstract values (second part: scalars, places, reads). -/
import Derived.Test.YthiddkhonklbkaaAw4
set_option linter.unusedVariables false
set_option linter.unusedSimpArgs false
namespace Go.Aw
open Go
section
variable {P : Program} {D : Types} {w : World} {ρ : Names} {ok : Nat → Prop} {H : Heap}

theorem run_eqGuard_int (op : BinOp) (t : TypeId) (x y : Operand) (k : IntKind) (n : Int) (v : Value) : (eqGuard op t x y (.int k n) v).run P w = .ok () w := by cases op <;> rfl
theorem run_eqGuard_str (op : BinOp) (t : TypeId) (x y : Operand) (l : List UInt8) (v : Value) : (eqGuard op t x y (str l) v).run P w = .ok () w := by cases op <;> rfl
theorem run_eqGuard_bool (op : BinOp) (t : TypeId) (x y : Operand) (b : Bool) (v : Value) : (eqGuard op t x y (.bool b) v).run P w = .ok () w := by cases op <;> rfl

theorem run_intBin {op : BinOp} {k : IntKind} {a b : Int} {v : Value} (t : TypeId) (h : intBin op k a b = some v) : (binOp op t (.int k a) (.int k b)).run P w = .ok v w := by
  cases op <;> simp only [intBin] at h <;> first
    | (cases h; simp [binOp, Op.intArith, Op.intCmp, Op.intBits]; done)
    | (split at h
       · cases h
       · rename_i hb
         cases h; simp [binOp, Op.intDiv, hb])
    | (cases h; done)
theorem run_shiftBin {op : BinOp} {k k' : IntKind} {a b : Int} {v : Value} (t : TypeId) (h : shiftBin op k a b = some v) : (binOp op t (.int k a) (.int k' b)).run P w = .ok v w := by
  unfold shiftBin at h
  split at h
  · cases h
  · rename_i hb
    cases op <;> simp at h <;> subst h <;> simp [binOp, Op.shift, hb]
theorem run_strBin {op : BinOp} {a b : List UInt8} {v : Value} (t : TypeId) (h : strBin op a b = some v) : (binOp op t (str a) (str b)).run P w = .ok v w := by
  have hmax : IntKind.i64.max = 9223372036854775807 := rfl
  cases op <;> simp only [strBin] at h <;> first
    | (split at h
       · rename_i hc
         cases h
         have : ¬ (9223372036854775807 : Int) < (a.length : Int) + (b.length : Int) := by omega
         have e : (⟨a.toArray⟩ : ByteArray) ++ ⟨b.toArray⟩ = ⟨(a ++ b).toArray⟩ := by
           apply ByteArray.ext; simp
         simp [binOp, str, Op.stringOp, hmax, ByteArray.size, e]
         omega
       · cases h)
    | (cases h; simp [binOp, str, Op.stringOp, byteArray_toList]; done)
    | (cases h; done)

theorem run_eqBool {t : TypeId} (h : P.underlying t = some .bool) (a b : Bool) : (Op.equal t (.bool a) (.bool b)).run P w = .ok (a == b) w := run_equalIn_bool' (P := P) (w := w) 9999 t a b h
theorem bin_sound (hA : Agrees P D) {op : BinOp} {t : TypeId} {x y : AV} {u v : Value} {out : AV} (hx : AVRel w ρ ok x u) (hy : AVRel w ρ ok y v) (h : binF D op t x y = some out) (ox oy : Operand) :
    ∃ r, (do eqGuard op t ox oy u v; binOp op t u v : Sem Value).run P w = .ok r w ∧ AVRel w ρ ok out r := by
  unfold binF at h
  split at h
  · rename_i k a k' b ha hb
    rw [hx.asI ha, hy.asI hb]
    simp only [Option.map_eq_some_iff] at h
    obtain ⟨r, hr, rfl⟩ := h
    refine ⟨r, ?_, .const r⟩
    simp only [Sem.run_bind, run_eqGuard_int, Result.andThen_ok]
    cases op <;> simp only at hr <;> first
      | exact run_shiftBin t hr
      | (split at hr
         · rename_i e; subst e; exact run_intBin t hr
         · cases hr)
  · split at h
    · rename_i a b ha hb
      rw [hx.asL ha, hy.asL hb]
      simp only [Option.map_eq_some_iff] at h
      obtain ⟨r, hr, rfl⟩ := h
      refine ⟨r, ?_, .const r⟩
      simp only [Sem.run_bind, run_eqGuard_str, Result.andThen_ok]
      exact run_strBin t hr
    · split at h
      · rename_i a b ha hb
        rw [hx.asB ha, hy.asB hb]
        cases hi : D t with
        | none => simp [hi] at h
        | some i =>
          obtain ⟨⟨info, ds, z, h1, h2, h3, h4, h5, h6, h7, h8⟩, hl, h1c, hp⟩ := hA t i hi
          simp only [hi, Option.bind_some] at h
          split at h
          · rename_i hk
            rw [hk] at h7; cases h7; cases h
            refine ⟨.bool (a == b), ?_, .const _⟩
            simp only [Sem.run_bind, run_eqGuard_bool, Result.andThen_ok]
            show ((Op.equal t (.bool a) (.bool b)) >>= fun r => Pure.pure (Value.bool r)).run P w = _
            simp only [Sem.run_bind, run_eqBool h2, Result.andThen_ok, Sem.run_pure]
          · rename_i hk
            rw [hk] at h7; cases h7; cases h
            refine ⟨.bool (!(a == b)), ?_, .const _⟩
            simp only [Sem.run_bind, run_eqGuard_bool, Result.andThen_ok]
            show ((Op.equal t (.bool a) (.bool b)) >>= fun r => Pure.pure (Value.bool (!r))).run P w = _
            simp only [Sem.run_bind, run_eqBool h2, Result.andThen_ok, Sem.run_pure]
          · cases h
      · cases h

theorem un_sound {op : UnOp} {x : AV} {u : Value} {out : AV} (hx : AVRel w ρ ok x u) (h : unF op x = some out) : ∃ r, (Op.unary op u).run P w = .ok r w ∧ AVRel w ρ ok out r := by
  unfold unF at h
  split at h
  · simp only [Option.map_eq_some_iff] at h
    obtain ⟨b, ha, rfl⟩ := h
    rw [hx.asB ha]
    exact ⟨.bool (!b), by simp [Op.unary], .const _⟩
  · simp only [Option.map_eq_some_iff] at h
    obtain ⟨⟨k, n⟩, ha, rfl⟩ := h
    rw [hx.asI ha]
    exact ⟨.int k (k.wrap (0 - n)), by simp [Op.unary, Op.intArith], .const _⟩
  · cases h

theorem pick_sound {c a b : AV} {uc ua ub : Value} {out : AV} (hc : AVRel w ρ ok c uc) (ha : AVRel w ρ ok a ua) (hb : AVRel w ρ ok b ub) (h : pickF c a b = some out) :
    ∃ r, (do pure (Next.value (if ← asBool uc then ua else ub)) : Sem Next).run P w = .ok (.value r) w ∧ AVRel w ρ ok out r := by
  simp only [pickF, Option.map_eq_some_iff] at h
  obtain ⟨x, hx, h⟩ := h
  rw [hc.asB hx]
  refine ⟨if x = true then ua else ub, by simp [asBool], ?_⟩
  split at h
  · rename_i p q hp hq
    rw [ha.asB hp, hb.asB hq]
    cases h
    cases x <;> exact .const _
  · cases h
    cases x
    · exact hb
    · exact ha

theorem extract_sound {x : AV} {u : Value} {i : Nat} {out : AV} (hx : AVRel w ρ ok x u) (h : extractF x i = some out) : ∃ r, (Instr.extract u i).run P w = .ok r w ∧ AVRel w ρ ok out r := by
  unfold extractF at h
  split at h
  · rename_i xs
    simp only [Option.map_eq_some_iff] at h
    obtain ⟨q, hq, rfl⟩ := h
    cases hx with
    | p v u h =>
      cases h with
      | tup xs us hl hh =>
        have hlt : i < us.size := by rw [hl]; exact (List.getElem?_eq_some_iff.1 hq).1
        refine ⟨us[i], by simp [Instr.extract, Array.getElem?_eq_getElem hlt], .p _ _ (hh i q us[i] hq (Array.getElem?_eq_getElem hlt))⟩
  · rename_i xs
    cases hx with
    | tup xs us hl hh =>
      have hlt : i < us.size := by rw [hl]; exact (List.getElem?_eq_some_iff.1 h).1
      exact ⟨us[i], by simp [Instr.extract, Array.getElem?_eq_getElem hlt], hh i out us[i] h (Array.getElem?_eq_getElem hlt)⟩
  · cases h

theorem minmax_sound {isMax : Bool} {x y : AV} {u v : Value} {out : AV} (hx : AVRel w ρ ok x u) (hy : AVRel w ρ ok y v) (h : minmaxF isMax x y = some out) (ts : Array TypeId) (t : TypeId) :
    ∃ r, ((if isMax = true then Builtin.max_ ts t #[u, v] else Builtin.min_ ts t #[u, v]) : Sem Value).run P w = .ok r w ∧ AVRel w ρ ok out r := by
  simp only [minmaxF, Option.bind_eq_some_iff] at h
  obtain ⟨⟨k, a⟩, ha, ⟨k', b⟩, hb, h⟩ := h
  simp only at h
  split at h
  · rename_i e; subst e; cases h
    rw [hx.asI ha, hy.asI hb]
    cases isMax
    · exact ⟨.int k (if b < a then b else a), by simp [Builtin.min_, Builtin.min2], by simpa using AVRel.const _⟩
    · exact ⟨.int k (if b > a then b else a), by simp [Builtin.max_, Builtin.max2], by simpa using AVRel.const _⟩
  · cases h

end
end Go.Aw
