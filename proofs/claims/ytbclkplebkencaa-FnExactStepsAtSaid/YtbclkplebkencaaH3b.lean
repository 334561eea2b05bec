/- Framework H, part 3b: the quiet operations are sound (values). -/
import Derived.Test.YtbclkplebkencaaH3
import Derived.Laws.BytesString
namespace Go.H
set_option linter.unusedSimpArgs false
set_option linter.unusedVariables false
open Go.RowKit

section
variable {P : Program} {T : TypeId → Option TI} {F0 L : Nat → Prop} {w0 w : World} {st : St} {a : Act} {κ : Con}

theorem kindEq_iff {a b : IntKind} (h : kindEq a b = true) : a = b := by simpa [kindEq] using h

theorem int_sound {op : BinOp} {k : IntKind} {x y : Int} {K : D → Prop} (h : intWp op k x y K) (hs : op ≠ .shl) (hs' : op ≠ .shr) :
    ∃ d, K d ∧ ∀ (w : World) (F : Nat → Prop) t, ∃ v, (binOp op t (.int k x) (.int k y)).run P w = .ok v w ∧ Fz w F v d := by
  cases op <;> simp only [intWp] at h <;> try exact absurd rfl (by assumption)
  case quo => exact ⟨_, h.2, fun w F t => ⟨_, by simp [binOp, Op.intDiv, h.1], .int _ _⟩⟩
  case rem => exact ⟨_, h.2, fun w F t => ⟨_, by simp [binOp, Op.intDiv, h.1], .int _ _⟩⟩
  case add => exact ⟨_, h, fun w F t => ⟨_, by simp [binOp, Op.intArith], .int _ _⟩⟩
  case sub => exact ⟨_, h, fun w F t => ⟨_, by simp [binOp, Op.intArith], .int _ _⟩⟩
  case mul => exact ⟨_, h, fun w F t => ⟨_, by simp [binOp, Op.intArith], .int _ _⟩⟩
  case and => exact ⟨_, h, fun w F t => ⟨_, by simp [binOp, Op.intBits, wrapB], .int _ _⟩⟩
  case or => exact ⟨_, h, fun w F t => ⟨_, by simp [binOp, Op.intBits, wrapB], .int _ _⟩⟩
  case xor => exact ⟨_, h, fun w F t => ⟨_, by simp [binOp, Op.intBits, wrapB], .int _ _⟩⟩
  case andNot => exact ⟨_, h, fun w F t => ⟨_, by simp [binOp, Op.intBits, wrapB], .int _ _⟩⟩
  case eql => exact ⟨_, h, fun w F t => ⟨.bool (decide (x = y)), by simp [binOp, Op.intCmp, BEq.beq], .bool _⟩⟩
  case neq => exact ⟨_, h, fun w F t => ⟨.bool (!decide (x = y)), by simp [binOp, Op.intCmp, bne, BEq.beq], .bool _⟩⟩
  case lss => exact ⟨_, h, fun w F t => ⟨_, by simp [binOp, Op.intCmp], .bool _⟩⟩
  case leq => exact ⟨_, h, fun w F t => ⟨_, by simp [binOp, Op.intCmp], .bool _⟩⟩
  case gtr => exact ⟨_, h, fun w F t => ⟨_, by simp [binOp, Op.intCmp], .bool _⟩⟩
  case geq => exact ⟨_, h, fun w F t => ⟨_, by simp [binOp, Op.intCmp], .bool _⟩⟩

theorem eqGuard_int (op : BinOp) (t : TypeId) (x y : Operand) (k k' : IntKind) (a b : Int) : (eqGuard op t x y (.int k a) (.int k' b)).run P w = .ok () w := by
  cases op <;> simp [eqGuard]
theorem eqGuard_str (op : BinOp) (t : TypeId) (x y : Operand) (a b : ByteArray) : (eqGuard op t x y (.string a) (.string b)).run P w = .ok () w := by
  cases op <;> simp [eqGuard]
theorem eqGuard_bool (op : BinOp) (t : TypeId) (x y : Operand) (a b : Bool) : (eqGuard op t x y (.bool a) (.bool b)).run P w = .ok () w := by
  cases op <;> simp [eqGuard]

theorem str_sound {op : BinOp} {x y : ByteArray} {K : D → Prop} (h : strWp op x y K) :
    ∃ d, K d ∧ ∀ (w : World) (F : Nat → Prop) t, ∃ v, (binOp op t (.string x) (.string y)).run P w = .ok v w ∧ Fz w F v d := by
  cases op <;> simp only [strWp] at h
  case add =>
    refine ⟨_, h.2, fun w F t => ⟨_, ?_, .str _⟩⟩
    have h1 : ¬ (((x.size + y.size : Nat) : Int) > IntKind.i64.max) := by
      have : IntKind.i64.max = 9223372036854775807 := by decide
      rw [this]; have := h.1; omega
    simp only [binOp, Op.stringOp, if_neg h1, Sem.run_pure]
  case eql => exact ⟨_, h, fun w F t => ⟨_, by simp [binOp, Op.stringOp], .bool _⟩⟩
  case neq => exact ⟨_, h, fun w F t => ⟨_, by simp [binOp, Op.stringOp], .bool _⟩⟩
  case lss => exact ⟨_, h, fun w F t => ⟨_, by simp [binOp, Op.stringOp], .bool _⟩⟩

/-- A value of cells cs. -/
def ValOf (w : World) (κ : Con) (hh : List (Nat × Ent)) (agg : Bool) (cs : List CV) (v : Value) : Prop :=
  if agg then ∃ us : List Value, v = .agg us.toArray ∧ CVs w κ hh cs us else CVs w κ hh cs [v]

theorem part_sound {t : TypeId} {ti : TI} (h : ti.fits P t) {w : World} {κ : Con} {hh : List (Nat × Ent)} {cs : List CV} {vs : List Value} (hv : CVs w κ hh cs vs) {off : Nat}
    (hle : off + ti.size ≤ cs.length) :
    ∃ v, (part t vs.toArray off).run P w = .ok v w ∧ ValOf w κ hh ti.agg ((cs.drop off).take ti.size) v := by
  have h1 := h.one
  unfold ValOf
  obtain ⟨hl, hc⟩ := hv
  unfold part
  simp only [Sem.run_bind, run_isAgg h, Result.andThen_ok]
  cases hg : ti.agg with
  | true =>
    simp only [if_true, Sem.run_bind, run_size h, Result.andThen_ok, Sem.run_pure]
    refine ⟨_, rfl, (vs.drop off).take ti.size, by simp, by simp [hl], fun j c u hj hu => ?_⟩
    rw [List.getElem?_take] at hj hu
    split at hj
    · rename_i hlt
      rw [if_pos hlt, List.getElem?_drop] at hu
      rw [List.getElem?_drop] at hj
      exact hc _ c u hj hu
    · simp at hj
  | false =>
    have hs := h1 hg
    have hlt : off < vs.length := by omega
    refine ⟨vs[off], by simp [hlt], ?_⟩
    simp only [Bool.false_eq_true, if_false]
    refine ⟨by simp [hs]; omega, fun j c u hj hu => ?_⟩
    cases j with
    | zero =>
      simp at hu
      rw [hs] at hj
      simp [List.getElem?_drop] at hj
      exact hc off c u hj (by simp [hlt, hu])
    | succ j => simp at hu

theorem CVs.one {w : World} {κ : Con} {hh : List (Nat × Ent)} {c : CV} {v : Value} (h : CVs w κ hh [c] [v]) : CVRep w κ hh c v := h.2 0 c v rfl rfl

theorem eq_sound (hT : TOk P T) : ∀ (n : Nat) (t : TypeId) (xs ys : List CV) (b : Bool), eqD T n t xs ys = some b → ∀ ti, T t = some ti → ∀ (d : Nat), n ≤ d → ∀ (w : World) (κ : Con) (hh : List (Nat × Ent)) (vx vy : Value),
    ValOf w κ hh ti.agg xs vx → ValOf w κ hh ti.agg ys vy → (Op.equalIn d t vx vy).run P w = .ok b w := by
  intro n
  induction n with
  | zero => intro t xs ys b h; simp [eqD] at h
  | succ n ih =>
    intro t xs ys b h ti hti d hd w κ hh vx vy hx hy
    obtain ⟨d, rfl⟩ : ∃ k, d = k + 1 := ⟨d - 1, by omega⟩
    have hf := hT t ti hti
    have hk := hf.k
    simp only [eqD, hti] at h
    split at h
    · rename_i k0 k a k' c hke
      rw [hke] at hk
      simp only [TI.agg, hke, ValOf, Bool.false_eq_true, if_false] at hx hy
      cases hb : kindEq k k' with
      | false => simp [hb] at h
      | true =>
        simp only [hb, Option.some.injEq] at h
        obtain rfl := kindEq_iff hb
        subst h
        cases hx.one
        cases hy.one
        rw [run_equalIn_int _ _ _ _ _ _ _ hk]
        simp [BEq.beq]
    · rename_i a c hke
      rw [hke] at hk
      simp only [TI.agg, hke, ValOf, Bool.false_eq_true, if_false] at hx hy
      simp only [Option.some.injEq] at h
      subst h
      cases hx.one
      cases hy.one
      exact run_equalIn_bool' _ _ _ _ _ hk
    · rename_i a c hke
      rw [hke] at hk
      simp only [TI.agg, hke, ValOf, Bool.false_eq_true, if_false] at hx hy
      simp only [Option.some.injEq] at h
      subst h
      cases hx.one
      cases hy.one
      exact run_equalIn_string _ _ _ _ _ hk
    · rename_i fs xs ys hke
      rw [hke] at hk
      obtain ⟨fields, h1, h2, h3, h4, h5⟩ := hk
      simp only [TI.agg, hke, ValOf, if_true] at hx hy
      obtain ⟨us, rfl, hu⟩ := hx
      obtain ⟨vs, rfl, hv⟩ := hy
      have hfo : P.fieldsOf t = fields := by simp [Program.fieldsOf, h1]
      rw [run_equalIn_struct _ _ _ _ _ (by rw [hfo]; exact h1) h4, hfo]
      subst h2
      clear hfo h1
      revert h h3
      generalize fields.toList = fl
      intro h3 h
      induction fl generalizing b with
      | nil =>
        simp at h
        subst h
        simp [Op.eqFields]
      | cons f fl ihf =>
        simp only [List.map_cons, List.foldr_cons] at h
        cases htf : T f.type with
        | none => simp [htf] at h
        | some tf =>
          simp only [htf] at h
          split at h
          · rename_i bb r hb1 hb2 hb3 hb4
            simp only [Option.some.injEq] at h
            subst h
            have hff := hT _ _ htf
            obtain ⟨v1, p1, q1⟩ := part_sound hff hu (off := f.offset) (Nat.le_of_ble_eq_true hb1)
            obtain ⟨v2, p2, q2⟩ := part_sound hff hv (off := f.offset) (Nat.le_of_ble_eq_true hb2)
            have he := ih f.type _ _ bb hb3 tf htf d (by omega) w κ hh v1 v2 q1 q2
            have hrest := ihf r (fun g hg => h3 g (List.mem_cons_of_mem _ hg)) hb4
            have hn := h3 f (List.mem_cons_self)
            simp only [Op.eqFields, ne_eq, hn, not_false_eq_true, if_true, Sem.run_bind, p1, p2, Result.andThen_ok, he]
            cases bb
            · simp
            · simp [hrest]
          · simp at h
    · simp at h

theorem bin_sound (hT : TOk P T) {op : BinOp} {t : TypeId} {x y : AV} {K : D → Prop} (h : binWp T op t x y K) :
    ∃ d, K d ∧ ∀ (w : World) (κ : Con) (hh : List (Nat × Ent)) vx vy (ox oy : Operand), AVRep w κ hh x vx → AVRep w κ hh y vy →
      ∃ v, (do eqGuard op t ox oy vx vy; binOp op t vx vy : Sem Value).run P w = .ok v w ∧ Fz w κ.F v d := by
  unfold binWp at h
  split at h
  · rename_i k a k' b
    split at h
    · simp only [intWp] at h
      refine ⟨_, h.2, fun w κ hh vx vy ox oy hx hy => ?_⟩
      cases hx; cases hy
      refine ⟨_, ?_, .int _ _⟩
      simp only [Sem.run_bind, eqGuard_int, Result.andThen_ok]
      simp [binOp, Op.shift, Int.not_lt.mpr h.1]
    · simp only [intWp] at h
      refine ⟨_, h.2, fun w κ hh vx vy ox oy hx hy => ?_⟩
      cases hx; cases hy
      refine ⟨_, ?_, .int _ _⟩
      simp only [Sem.run_bind, eqGuard_int, Result.andThen_ok]
      simp [binOp, Op.shift, Int.not_lt.mpr h.1]
    · rename_i hn1 hn2
      cases hb : kindEq k k' with
      | false => simp only [hb] at h
      | true =>
        simp only [hb] at h
        obtain rfl := kindEq_iff hb
        obtain ⟨d, hd, hs⟩ := int_sound (P := P) h (fun e => hn1 e) (fun e => hn2 e)
        refine ⟨d, hd, fun w κ hh vx vy ox oy hx hy => ?_⟩
        cases hx; cases hy
        obtain ⟨v, hv, hF⟩ := hs w κ.F t
        exact ⟨v, by simp only [Sem.run_bind, eqGuard_int, Result.andThen_ok, hv], hF⟩
  · rename_i a b
    obtain ⟨d, hd, hs⟩ := str_sound (P := P) h
    refine ⟨d, hd, fun w κ hh vx vy ox oy hx hy => ?_⟩
    cases hx; cases hy
    obtain ⟨v, hv, hF⟩ := hs w κ.F t
    exact ⟨v, by simp only [Sem.run_bind, eqGuard_str, Result.andThen_ok, hv], hF⟩
  · rename_i a b
    split at h
    · rename_i ti hti
      have hk := (hT t ti hti).k
      split at h
      · rename_i hke
        rw [hke] at hk
        refine ⟨_, h, fun w κ hh vx vy ox oy hx hy => ?_⟩
        cases hx; cases hy
        exact ⟨_, by simp only [Sem.run_bind, eqGuard_bool, Result.andThen_ok]; simp [binOp, Op.equal, Op.maxDepth, run_equalIn_bool' _ _ _ _ _ hk], .bool _⟩
      · rename_i hke
        rw [hke] at hk
        refine ⟨_, h, fun w κ hh vx vy ox oy hx hy => ?_⟩
        cases hx; cases hy
        exact ⟨_, by simp only [Sem.run_bind, eqGuard_bool, Result.andThen_ok]; simp [binOp, Op.equal, Op.maxDepth, run_equalIn_bool' _ _ _ _ _ hk], .bool _⟩
      · exact h.elim
    · exact h.elim
  · rename_i xs ys
    split at h
    · rename_i ti hti
      have hk := (hT t ti hti).k
      split at h
      · rename_i fs b hke he
        rw [hke] at hk
        obtain ⟨fields, _, _, _, _, h5⟩ := hk
        refine ⟨_, h, fun w κ hh vx vy ox oy hx hy => ?_⟩
        obtain ⟨us, rfl, hu⟩ := hx
        obtain ⟨vs, rfl, hv⟩ := hy
        have := eq_sound hT 8 t xs ys b he ti hti 10000 (by omega) w κ hh (.agg us.toArray) (.agg vs.toArray) (by simp only [ValOf, TI.agg, hke, if_true]; exact ⟨us, rfl, hu⟩) (by simp only [ValOf, TI.agg, hke, if_true]; exact ⟨vs, rfl, hv⟩)
        exact ⟨_, by simp only [Sem.run_bind, run_eqGuard_agg _ _ _ _ _ _ _ h5, Result.andThen_ok, run_eql_struct, this], .bool _⟩
      · rename_i fs b hke he
        rw [hke] at hk
        obtain ⟨fields, _, _, _, _, h5⟩ := hk
        refine ⟨_, h, fun w κ hh vx vy ox oy hx hy => ?_⟩
        obtain ⟨us, rfl, hu⟩ := hx
        obtain ⟨vs, rfl, hv⟩ := hy
        have := eq_sound hT 8 t xs ys b he ti hti 10000 (by omega) w κ hh (.agg us.toArray) (.agg vs.toArray) (by simp only [ValOf, TI.agg, hke, if_true]; exact ⟨us, rfl, hu⟩) (by simp only [ValOf, TI.agg, hke, if_true]; exact ⟨vs, rfl, hv⟩)
        exact ⟨_, by simp only [Sem.run_bind, run_eqGuard_agg _ _ _ _ _ _ _ h5, Result.andThen_ok, run_neq_struct, this], .bool _⟩
      · exact h.elim
    · exact h.elim
  · exact h.elim

end
end Go.H
