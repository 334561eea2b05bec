/- Library, part D: ways in trees. -/
import Derived.Test.YtbclkplebkencaaLC
namespace Go.H.S
open Go Go.Proofs Go.H
attribute [local irreducible] Tri FnSpec FnSpecM
set_option maxRecDepth 100000
set_option linter.unusedSimpArgs false
set_option linter.unusedVariables false


/-- The first place, from k on, where p holds: -1: none. -/
def idxL {α : Type} (p : α → Bool) : List α → Nat → Int
  | [], _ => -1
  | x :: r, k => if p x then k else idxL p r (k + 1)
theorem idxL_lt {α : Type} (p : α → Bool) : ∀ (l : List α) (k : Nat), -1 ≤ idxL p l k ∧ (idxL p l k < (k + l.length : Nat)) ∧ (0 ≤ idxL p l k → (k : Int) ≤ idxL p l k)
  | [], k => by simp only [idxL, List.length_nil]; omega
  | x :: r, k => by
    simp only [idxL, List.length_cons]
    split
    · omega
    · have := idxL_lt p r (k + 1); omega
theorem idxL_mem (x : Int) : ∀ (l : List Int) (k : Nat), (0 ≤ idxL (fun y => decide (x = y)) l k) ↔ x ∈ l
  | [], k => by simp [idxL]
  | y :: r, k => by
    simp only [idxL, List.mem_cons]
    have ih := idxL_mem x r (k + 1)
    by_cases h : x = y
    · simp [h]
    · simp [h, ih]
def pUp (node : Int) (n : Nd) : Bool := decide (n.f ≠ -1) && (decide (n.l = node) || decide (n.r = node))
def up (t : List Nd) (node : Int) : Int := idxL (pUp node) t 0
theorem up_lt (t : List Nd) (node : Int) : -1 ≤ up t node ∧ up t node < t.length := by have := idxL_lt (pUp node) t 0; unfold up; omega
/-- The nodes from x upward, at most n of them. -/
def steps (t : List Nd) : Nat → Int → Option (List Int)
  | 0, _ => none
  | n + 1, x => (if up t x < 0 then some [] else steps t n (up t x)).map (x :: ·)
def wayL (t : List Nd) (node : Int) : List Int :=
  if 0 ≤ node ∧ node ≤ (t.length : Int) - 1 then (match steps t 32 node with | some l => l.reverse | none => []) else []
theorem steps_len (t : List Nd) : ∀ (n : Nat) (x : Int) (l : List Int), steps t n x = some l → l.length ≤ n
  | 0, x, l, h => by simp [steps] at h
  | n + 1, x, l, h => by
    simp only [steps, Option.map_eq_some_iff] at h
    obtain ⟨r, h1, rfl⟩ := h
    split at h1
    · cases h1; simp
    · have := steps_len t n _ r h1; simp; omega
theorem steps_lt (t : List Nd) : ∀ (n : Nat) (x : Int) (l : List Int), 0 ≤ x ∧ x < t.length → steps t n x = some l → ∀ y ∈ l, 0 ≤ y ∧ y < t.length
  | 0, x, l, hx, h => by simp [steps] at h
  | n + 1, x, l, hx, h => by
    simp only [steps, Option.map_eq_some_iff] at h
    obtain ⟨r, h1, rfl⟩ := h
    intro y hy
    rcases List.mem_cons.1 hy with rfl | hy
    · exact hx
    · split at h1
      · cases h1; cases hy
      · exact steps_lt t n _ r (by have := up_lt t x; omega) h1 y hy
theorem wayL_len (t : List Nd) (x : Int) : (wayL t x).length ≤ 32 := by
  unfold wayL
  split
  · split
    · rename_i l h; have := steps_len t 32 x l h; simpa using this
    · simp
  · simp


theorem spec_l17Up_spec (t : List Nd) (node : Int) (hl : t.length ≤ 9223372036854775807) : FnSpec PR f_spec_l17Up [aT t, ai node] (ai (up t node)) [] 0 := by
  refine FnSpec.intro hT p_spec_l17Up rfl (by kernel_rfl) n_spec_l17Up rfl ?_
  conv => whnf
  refine tri_loop hT [1, 2, 5] (α := Nat) (fun k => { t := [(1, ai node), (2, .c (.ptr 0 0)), (5, ai k)], h := [(0, .box t_impl_Tree (cTr t))], n := 1, N := 40 })
    (fun k => k ≤ t.length ∧ idxL (pUp node) (t.drop k) k = up t node) (fun k => t.length - k) 0 (by ((conv => whnf); simp only [St.mk.injEq, List.cons.injEq, Prod.mk.injEq, AV.c.injEq, AV.agg.injEq, AV.tup.injEq, CV.d.injEq, D.int.injEq, D.bool.injEq, D.str.injEq, D.sl.injEq, Ent.arr.injEq, Ent.box.injEq, true_and, and_true, and_self, nInt_eq, Int.natCast_zero, dLen_eL, sLen_eq])) ⟨Nat.zero_le _, rfl⟩ ?_
  intro k ⟨hk, hi⟩
  (conv => whnf)
  refine ifB_i (fun h1 => ?_) (fun h1 => ?_) <;> (conv => whnf) <;> simp at h1
  · obtain ⟨s, hs⟩ := get_lt h1
    rw [drop_at hs, idxL] at hi
    refine idx_at (by simp) hs ?_
    (conv => whnf)
    refine .inl ⟨_, _, _, spec_l17Inner_spec s, rfl, ?_⟩
    (conv => whnf)
    refine ifB_i (fun h2 => ?_) (fun h2 => ?_) <;> (conv => whnf)
    · refine idx_at (by simp) hs ?_
      (conv => whnf)
      refine ifB_i (fun h3 => ?_) (fun h3 => ?_) <;> (conv => whnf)
      · rw [if_pos (by simp_all [pUp, iEq, bNot])] at hi
        ((conv => whnf); simp only [St.mk.injEq, List.cons.injEq, Prod.mk.injEq, AV.c.injEq, AV.agg.injEq, AV.tup.injEq, CV.d.injEq, D.int.injEq, D.bool.injEq, D.str.injEq, D.sl.injEq, Ent.arr.injEq, Ent.box.injEq, true_and, and_true, and_self, nInt_eq, Int.natCast_zero, dLen_eL, sLen_eq, hi])
      · refine idx_at (by simp) hs ?_
        (conv => whnf)
        refine ifB_i (fun h4 => ?_) (fun h4 => ?_) <;> (conv => whnf)
        · rw [if_pos (by simp_all [pUp, iEq, bNot])] at hi
          ((conv => whnf); simp only [St.mk.injEq, List.cons.injEq, Prod.mk.injEq, AV.c.injEq, AV.agg.injEq, AV.tup.injEq, CV.d.injEq, D.int.injEq, D.bool.injEq, D.str.injEq, D.sl.injEq, Ent.arr.injEq, Ent.box.injEq, true_and, and_true, and_self, nInt_eq, Int.natCast_zero, dLen_eL, sLen_eq, hi])
        · rw [if_neg (by simp_all [pUp, iEq, bNot])] at hi
          refine ⟨k + 1, by omega, ⟨h1, hi⟩, ?_⟩
          ((conv => whnf); simp only [St.mk.injEq, List.cons.injEq, Prod.mk.injEq, AV.c.injEq, AV.agg.injEq, AV.tup.injEq, CV.d.injEq, D.int.injEq, D.bool.injEq, D.str.injEq, D.sl.injEq, Ent.arr.injEq, Ent.box.injEq, true_and, and_true, and_self, nInt_eq, Int.natCast_zero, dLen_eL, sLen_eq, wI h1 hl])
    · rw [if_neg (by simp_all [pUp, iEq, bNot])] at hi
      refine ⟨k + 1, by omega, ⟨h1, hi⟩, ?_⟩
      ((conv => whnf); simp only [St.mk.injEq, List.cons.injEq, Prod.mk.injEq, AV.c.injEq, AV.agg.injEq, AV.tup.injEq, CV.d.injEq, D.int.injEq, D.bool.injEq, D.str.injEq, D.sl.injEq, Ent.arr.injEq, Ent.box.injEq, true_and, and_true, and_self, nInt_eq, Int.natCast_zero, dLen_eL, sLen_eq, wI h1 hl])
  · obtain rfl : k = t.length := by omega
    simp only [List.drop_length, idxL] at hi
    ((conv => whnf); simp only [St.mk.injEq, List.cons.injEq, Prod.mk.injEq, AV.c.injEq, AV.agg.injEq, AV.tup.injEq, CV.d.injEq, D.int.injEq, D.bool.injEq, D.str.injEq, D.sl.injEq, Ent.arr.injEq, Ent.box.injEq, true_and, and_true, and_self, nInt_eq, Int.natCast_zero, dLen_eL, sLen_eq, ← hi])

theorem impl_parent_1_spec (n : Nd) (node : Int) : FnSpec PR f_impl_parent_1 [aN n, .c (.d (.rp [.int .i64 node]))] (ab (pUp node n)) [] 0 := by
  refine FnSpec.intro hT p_impl_parent_1 rfl (by kernel_rfl) n_impl_parent_1 rfl ?_
  conv => whnf
  refine .inl ⟨_, _, _, impl_isLeaf_spec n, rfl, ?_⟩
  (conv => whnf)
  refine ifB_i (fun h1 => ?_) (fun h1 => ?_) <;> (conv => whnf)
  · refine ifB_i (fun h2 => ?_) (fun h2 => ?_) <;> (conv => whnf) <;> ((conv => whnf); simp only [St.mk.injEq, List.cons.injEq, Prod.mk.injEq, AV.c.injEq, AV.agg.injEq, AV.tup.injEq, CV.d.injEq, D.int.injEq, D.bool.injEq, D.str.injEq, D.sl.injEq, Ent.arr.injEq, Ent.box.injEq, true_and, and_true, and_self, nInt_eq, Int.natCast_zero, dLen_eL, sLen_eq]) <;> simp_all [pUp, iEq, bNot]
  · ((conv => whnf); simp only [St.mk.injEq, List.cons.injEq, Prod.mk.injEq, AV.c.injEq, AV.agg.injEq, AV.tup.injEq, CV.d.injEq, D.int.injEq, D.bool.injEq, D.str.injEq, D.sl.injEq, Ent.arr.injEq, Ent.box.injEq, true_and, and_true, and_self, nInt_eq, Int.natCast_zero, dLen_eL, sLen_eq])
    simp_all [pUp, iEq, bNot]

theorem slices_IndexFunc_Node_spec (t : List Nd) (g : FuncId) (d : D) (p : Nd → Bool) (hp : ∀ n, FnSpec PR g [aN n, .c (.d d)] (ab (p n)) [] 0) (hl : t.length ≤ 9223372036854775807) :
    FnSpec PR f_slices_IndexFunc_Limpl_Node_impl_Node [aNs t, .c (.d (.fn g [d]))] (ai (idxL p t 0)) [] 0 := by
  refine FnSpec.intro hT p_slices_IndexFunc_Limpl_Node_impl_Node rfl (by kernel_rfl) n_slices_IndexFunc_Limpl_Node_impl_Node rfl ?_
  conv => whnf
  refine tri_loop hT [0, 1, 7, 8] (α := Nat) (fun k => { t := [(0, aNs t), (1, .c (.d (.fn g [d]))), (7, ai t.length), (8, ai k)], h := [], n := 0, N := 19 })
    (fun k => k ≤ t.length ∧ idxL p (t.drop k) k = idxL p t 0) (fun k => t.length - k) 0 (by ((conv => whnf); simp only [St.mk.injEq, List.cons.injEq, Prod.mk.injEq, AV.c.injEq, AV.agg.injEq, AV.tup.injEq, CV.d.injEq, D.int.injEq, D.bool.injEq, D.str.injEq, D.sl.injEq, Ent.arr.injEq, Ent.box.injEq, true_and, and_true, and_self, nInt_eq, Int.natCast_zero, dLen_eL, sLen_eq])) ⟨Nat.zero_le _, rfl⟩ ?_
  intro k ⟨hk, hi⟩
  (conv => whnf)
  refine ifB_i (fun h1 => ?_) (fun h1 => ?_) <;> (conv => whnf) <;> simp at h1
  · obtain ⟨s, hs⟩ := get_lt h1
    rw [drop_at hs, idxL] at hi
    refine idx_at (by simp) hs ?_
    (conv => whnf)
    refine .inl ⟨_, _, _, hp s, rfl, ?_⟩
    (conv => whnf)
    refine ifB_i (fun h2 => ?_) (fun h2 => ?_) <;> (conv => whnf)
    · rw [if_pos h2] at hi
      ((conv => whnf); simp only [St.mk.injEq, List.cons.injEq, Prod.mk.injEq, AV.c.injEq, AV.agg.injEq, AV.tup.injEq, CV.d.injEq, D.int.injEq, D.bool.injEq, D.str.injEq, D.sl.injEq, Ent.arr.injEq, Ent.box.injEq, true_and, and_true, and_self, nInt_eq, Int.natCast_zero, dLen_eL, sLen_eq, hi])
    · rw [if_neg (by simp [h2])] at hi
      refine ⟨k + 1, by omega, ⟨h1, hi⟩, ?_⟩
      ((conv => whnf); simp only [St.mk.injEq, List.cons.injEq, Prod.mk.injEq, AV.c.injEq, AV.agg.injEq, AV.tup.injEq, CV.d.injEq, D.int.injEq, D.bool.injEq, D.str.injEq, D.sl.injEq, Ent.arr.injEq, Ent.box.injEq, true_and, and_true, and_self, nInt_eq, Int.natCast_zero, dLen_eL, sLen_eq, wI h1 hl])
  · obtain rfl : k = t.length := by omega
    simp only [List.drop_length, idxL] at hi
    ((conv => whnf); simp only [St.mk.injEq, List.cons.injEq, Prod.mk.injEq, AV.c.injEq, AV.agg.injEq, AV.tup.injEq, CV.d.injEq, D.int.injEq, D.bool.injEq, D.str.injEq, D.sl.injEq, Ent.arr.injEq, Ent.box.injEq, true_and, and_true, and_self, nInt_eq, Int.natCast_zero, dLen_eL, sLen_eq, ← hi])

theorem impl_parent_spec (t : List Nd) (node : Int) (hl : t.length ≤ 9223372036854775807) : FnSpec PR f_impl_parent [aT t, ai node] (ai (up t node)) [] 0 := by
  refine FnSpec.intro hT p_impl_parent rfl (by kernel_rfl) n_impl_parent rfl ?_
  conv => whnf
  refine .inr (.inl ⟨_, _, _, slices_IndexFunc_Node_spec t f_impl_parent_1 (.rp [.int .i64 node]) (pUp node) (fun n => impl_parent_1_spec n node) hl, rfl, trivial, ?_⟩)
  (conv => whnf)
  rfl

def lvl (t : List Nd) (n : Nat) (x : Int) (k : Int) : Int := match steps t n x with | some l => (l.length : Int) - 1 + k | none => -1
def levelL (t : List Nd) (node : Int) : Int := if 0 ≤ node ∧ node ≤ (t.length : Int) - 1 then lvl t 32 node 0 else -1
theorem lvl_lt {t : List Nd} {n : Nat} {x : Int} (k : Int) (h : up t x < 0) : lvl t (n + 1) x k = k := by simp [lvl, steps, h]
theorem lvl_ge {t : List Nd} {n : Nat} {x : Int} (k : Int) (h : ¬ up t x < 0) : lvl t (n + 1) x k = lvl t n (up t x) (k + 1) := by
  simp only [lvl, steps, if_neg h]
  cases steps t n (up t x) with
  | none => rfl
  | some l => simp only [Option.map_some, List.length_cons]; omega
theorem spec_LevelOf_spec (t : List Nd) (node : Int) (hl : t.length ≤ 9223372036854775807) : FnSpec PR f_spec_LevelOf [aT t, ai node] (ai (levelL t node)) [] 0 := by
  have e : wSub .i64 t.length 1 = (t.length : Int) - 1 := wSub64 (by omega) (by omega)
  refine FnSpec.intro hT p_spec_LevelOf rfl (by kernel_rfl) n_spec_LevelOf rfl ?_
  conv => whnf
  refine .inl ⟨_, _, _, spec_l1In_spec _ _ _, rfl, ?_⟩
  (conv => whnf)
  refine ifB_i (fun h1 => ?_) (fun h1 => ?_) <;> (conv => whnf) <;> simp only [nInt_eq, Int.natCast_zero, dLen_eL, sLen_eq, nOf_eq, Int.toNat_natCast, nAdd_eq, nSub_eq, dLen_nil, dLen_cons, iLt_t, iLt_f, iLe_t, iLe_f, iEq_t, iEq_f, sEq_t, sEq_f, bNot_t, bNot_f, bAnd_t, bEq_t, bEq_f, Bool.not_eq_true, Bool.not_eq_false, Bool.true_eq_false, Bool.false_eq_true, e, decide_eq_true_eq, decide_eq_false_iff_not] at h1
  · rw [levelL, if_neg h1]
  rw [levelL, if_pos h1]
  refine tri_loop hT [1, 2, 5] (α := Nat × Int) (fun x => { t := [(1, ai x.2), (2, .c (.ptr 0 0)), (5, ai x.1)], h := [(0, .box t_impl_Tree (cTr t))], n := 1, N := 23 })
    (fun x => x.1 ≤ 32 ∧ lvl t (32 - x.1) x.2 x.1 = lvl t 32 node 0) (fun x => 32 - x.1) (0, node) (by ((conv => whnf); simp only [St.mk.injEq, List.cons.injEq, Prod.mk.injEq, AV.c.injEq, AV.agg.injEq, AV.tup.injEq, CV.d.injEq, D.int.injEq, D.bool.injEq, D.str.injEq, D.sl.injEq, Ent.arr.injEq, Ent.box.injEq, true_and, and_true, and_self, nInt_eq, Int.natCast_zero, dLen_eL, sLen_eq])) ⟨by omega, rfl⟩ ?_
  intro ⟨k, x⟩ ⟨hk, hi⟩
  dsimp only at hk hi
  (conv => whnf)
  refine ifB_i (fun h2 => ?_) (fun h2 => ?_) <;> (conv => whnf) <;> simp only [nInt_eq, Int.natCast_zero, dLen_eL, sLen_eq, nOf_eq, Int.toNat_natCast, nAdd_eq, nSub_eq, dLen_nil, dLen_cons, iLt_t, iLt_f, iLe_t, iLe_f, iEq_t, iEq_f, sEq_t, sEq_f, bNot_t, bNot_f, bAnd_t, bEq_t, bEq_f, Bool.not_eq_true, Bool.not_eq_false, Bool.true_eq_false, Bool.false_eq_true] at h2
  · refine .inl ⟨_, _, _, spec_l17Up_spec t x hl, rfl, ?_⟩
    (conv => whnf)
    rw [show 32 - k = (31 - k) + 1 by omega] at hi
    refine ifB_i (fun h3 => ?_) (fun h3 => ?_) <;> (conv => whnf) <;> simp only [nInt_eq, Int.natCast_zero, dLen_eL, sLen_eq, nOf_eq, Int.toNat_natCast, nAdd_eq, nSub_eq, dLen_nil, dLen_cons, iLt_t, iLt_f, iLe_t, iLe_f, iEq_t, iEq_f, sEq_t, sEq_f, bNot_t, bNot_f, bAnd_t, bEq_t, bEq_f, Bool.not_eq_true, Bool.not_eq_false, Bool.true_eq_false, Bool.false_eq_true] at h3
    · rw [lvl_lt _ h3] at hi
      ((conv => whnf); simp only [St.mk.injEq, List.cons.injEq, Prod.mk.injEq, AV.c.injEq, AV.agg.injEq, AV.tup.injEq, CV.d.injEq, D.int.injEq, D.bool.injEq, D.str.injEq, D.sl.injEq, Ent.arr.injEq, Ent.box.injEq, true_and, and_true, and_self, nInt_eq, Int.natCast_zero, dLen_eL, sLen_eq, ← hi])
    · rw [lvl_ge _ (by omega)] at hi
      refine ⟨(k + 1, up t x), by dsimp only; omega, ⟨by dsimp only; omega, ?_⟩, ?_⟩
      · dsimp only
        rw [← hi, show 32 - (k + 1) = 31 - k by omega, Int.natCast_add]
        rfl
      · ((conv => whnf); simp only [St.mk.injEq, List.cons.injEq, Prod.mk.injEq, AV.c.injEq, AV.agg.injEq, AV.tup.injEq, CV.d.injEq, D.int.injEq, D.bool.injEq, D.str.injEq, D.sl.injEq, Ent.arr.injEq, Ent.box.injEq, true_and, and_true, and_self, nInt_eq, Int.natCast_zero, dLen_eL, sLen_eq, wI (show k < 33 by omega) (by omega)])
  · obtain rfl : k = 32 := by omega
    have hi' : lvl t 0 x 32 = lvl t 32 node 0 := hi
    rw [← hi']
    ((conv => whnf); simp only [St.mk.injEq, List.cons.injEq, Prod.mk.injEq, AV.c.injEq, AV.agg.injEq, AV.tup.injEq, CV.d.injEq, D.int.injEq, D.bool.injEq, D.str.injEq, D.sl.injEq, Ent.arr.injEq, Ent.box.injEq, true_and, and_true, and_self, nInt_eq, Int.natCast_zero, dLen_eL, sLen_eq, lvl, steps])

/-- What Reverse has done with the ends of a list. -/
def revK (l : List Int) (i : Nat) : List Int := (l.reverse.take i) ++ ((l.drop i).take (l.length - 2 * i)) ++ l.reverse.drop (l.length - i)
theorem revK_len (l : List Int) (i : Nat) (h : 2 * i ≤ l.length) : (revK l i).length = l.length := by simp [revK]; omega
theorem revK_get (l : List Int) (i k : Nat) (h : 2 * i ≤ l.length) : (revK l i)[k]? = if k < i ∨ (l.length - i ≤ k ∧ k < l.length) then l.reverse[k]? else l[k]? := by
  simp only [revK]
  by_cases h1 : k < i
  · rw [if_pos (.inl h1), List.append_assoc, List.getElem?_append_left (by simp; omega), List.getElem?_take, if_pos h1]
  · by_cases h2 : k < l.length - i
    · rw [if_neg (by omega), List.getElem?_append_left (by simp; omega), List.getElem?_append_right (by simp; omega), List.getElem?_take, List.getElem?_drop]
      simp only [List.length_take, List.length_reverse]
      rw [Nat.min_eq_left (by omega), if_pos (by omega), show i + (k - i) = k by omega]
    · rw [List.getElem?_append_right (by simp; omega)]
      simp only [List.length_append, List.length_take, List.length_reverse, List.length_drop, List.getElem?_drop]
      by_cases h3 : k < l.length
      · rw [if_pos (by omega)]
        congr 1; omega
      · have e1 : l[k]? = none := List.getElem?_eq_none (by omega)
        rw [if_neg (by omega), e1]
        apply List.getElem?_eq_none
        simp only [List.length_reverse]
        omega
theorem revK_end (l : List Int) (i : Nat) (h : l.length ≤ 2 * i + 1) (h2 : 2 * i ≤ l.length) : revK l i = l.reverse := by
  apply List.ext_getElem?
  intro k
  rw [revK_get l i k h2]
  split
  · rfl
  · rename_i hn
    by_cases hk : k < l.length
    · have : l.length = 2 * i + 1 ∧ k = i := by omega
      rw [List.getElem?_reverse (by omega)]
      congr 1; omega
    · rw [List.getElem?_eq_none (by omega), List.getElem?_eq_none (by simp; omega)]
theorem revK_step (l : List Int) (i : Nat) (a b : Int) (h : 2 * i + 1 < l.length) (ha : (revK l i)[i]? = some a) (hb : (revK l i)[l.length - 1 - i]? = some b) :
    ((revK l i).set i b).set (l.length - 1 - i) a = revK l (i + 1) := by
  rw [revK_get l i _ (by omega)] at ha hb
  rw [if_neg (by omega)] at ha hb
  apply List.ext_getElem?
  intro k
  rw [List.getElem?_set, List.getElem?_set, revK_get l i k (by omega), revK_get l (i + 1) k (by omega)]
  simp only [List.length_set, revK_len l i (by omega)]
  by_cases h1 : l.length - 1 - i = k
  · subst h1
    rw [if_pos rfl, if_pos (by omega), if_pos (by omega), List.getElem?_reverse (by omega), show l.length - 1 - (l.length - 1 - i) = i by omega, ha]
  · rw [if_neg h1]
    by_cases h2 : i = k
    · subst h2
      rw [if_pos rfl, if_pos (by omega), if_pos (by omega), List.getElem?_reverse (by omega), hb]
    · rw [if_neg h2]
      by_cases h3 : k < i ∨ l.length - i ≤ k ∧ k < l.length
      · rw [if_pos h3, if_pos (by omega)]
      · rw [if_neg h3, if_neg (by omega)]
theorem revK_zero (l : List Int) : revK l 0 = l := by simp [revK]
theorem slices_Reverse_spec (l : List Int) (hl : l.length ≤ 1048576) : FnSpecM PR f_slices_Reverse_Lint_int [.c (.ref 0 0 none)] t_int 1 (eL cI l) (.tup []) (eL cI l.reverse) := by
  refine FnSpecM.intro hT 0 p_slices_Reverse_Lint_int rfl (by kernel_rfl) n_slices_Reverse_Lint_int rfl rfl (by simp [eL_length]) rfl (flat_cI _) ?_
  intro v0
  (conv => whnf)
  have e : wSub .i64 l.length 1 = (l.length : Int) - 1 := wSub64 (by omega) (by omega)
  refine tri_loop hT [0, 2, 3] (α := Nat) (fun i => { t := [(0, .w (.ref 0 0 none) v0), (2, ai i), (3, ai ((l.length : Int) - 1 - i))], h := [(0, .arr t_int 1 0 .own (eL cI (revK l i)))], n := 1, N := 28 })
    (fun i => 2 * i ≤ l.length) (fun i => l.length - i) 0 (by ((conv => whnf); simp only [St.mk.injEq, List.cons.injEq, Prod.mk.injEq, AV.c.injEq, AV.agg.injEq, AV.tup.injEq, CV.d.injEq, D.int.injEq, D.bool.injEq, D.str.injEq, D.sl.injEq, Ent.arr.injEq, Ent.box.injEq, true_and, and_true, and_self, nInt_eq, Int.natCast_zero, dLen_eL, sLen_eq, e, revK_zero, Int.sub_zero, lenRE_none])) (by omega) ?_
  intro i hi
  (conv => whnf)
  refine ifB_i (fun h1 => ?_) (fun h1 => ?_) <;> (conv => whnf) <;> simp only [nInt_eq, Int.natCast_zero, dLen_eL, sLen_eq, nOf_eq, Int.toNat_natCast, nAdd_eq, nSub_eq, dLen_nil, dLen_cons, iLt_t, iLt_f, iLe_t, iLe_f, iEq_t, iEq_f, sEq_t, sEq_f, bNot_t, bNot_f, bAnd_t, bEq_t, bEq_f, Bool.not_eq_true, Bool.not_eq_false, Bool.true_eq_false, Bool.false_eq_true] at h1
  · have hlen := revK_len l i hi
    obtain ⟨a, ha⟩ := get_lt (l := revK l i) (k := i) (by omega)
    obtain ⟨b, hb⟩ := get_lt (l := revK l i) (k := l.length - 1 - i) (by omega)
    have ej : (l.length : Int) - 1 - i = ((l.length - 1 - i : Nat) : Int) := by omega
    rw [ej]
    refine tri_each hT hmix [0, 2, 3] { t := [(0, .w (.ref 0 0 none) v0), (2, ai i), (3, ai ((l.length - 1 - i : Nat) : Int))], h := [(0, .arr t_int 1 0 .own (eL cI (revK l (i + 1))))], n := 1, N := 28 } rfl ?_ ?_
    · have hb2 : ((revK l i).set i b)[l.length - 1 - i]? = some b := by rw [List.getElem?_set_ne (by omega)]; exact hb
      have hst := revK_step l i a b (by omega) ha hb
      have ki : nAdd (offR none) (nOf (i : Int)) = i := by simp
      have kj : nAdd (offR none) (nOf ((l.length - 1 - i : Nat) : Int)) = l.length - 1 - i := by simp
      (conv => whnf)
      repeat' first
        | (refine ref_at rfl (by simp; omega) ?_; (conv => whnf))
        | (refine ld_at ki ha ?_; (conv => whnf))
        | (refine ld_at kj hb ?_; (conv => whnf))
        | (refine st_at ki ha (Nat.le_refl 1) ?_; simp only [cI_set, offR_none, nAdd_eq, nOf_eq, Int.toNat_natCast, Nat.zero_add]; (conv => whnf))
        | (refine st_at kj hb2 (Nat.le_refl 1) ?_; simp only [cI_set, offR_none, nAdd_eq, nOf_eq, Int.toNat_natCast, Nat.zero_add]; (conv => whnf))
        | (refine And.intro ?_ ?_ <;> (conv => whnf))
        | (((conv => whnf); simp only [St.mk.injEq, List.cons.injEq, Prod.mk.injEq, AV.c.injEq, AV.agg.injEq, AV.tup.injEq, CV.d.injEq, D.int.injEq, D.bool.injEq, D.str.injEq, D.sl.injEq, Ent.arr.injEq, Ent.box.injEq, true_and, and_true, and_self, nInt_eq, Int.natCast_zero, dLen_eL, sLen_eq, hst]); done)
        | (rw [hst]; done)
    · (conv => whnf)
      refine ⟨i + 1, by omega, by omega, ?_⟩
      ((conv => whnf); simp only [St.mk.injEq, List.cons.injEq, Prod.mk.injEq, AV.c.injEq, AV.agg.injEq, AV.tup.injEq, CV.d.injEq, D.int.injEq, D.bool.injEq, D.str.injEq, D.sl.injEq, Ent.arr.injEq, Ent.box.injEq, true_and, and_true, and_self, nInt_eq, Int.natCast_zero, dLen_eL, sLen_eq, wI (show i < l.length by omega) (by omega), wSub64 (show -9223372036854775808 ≤ ((l.length - 1 - i : Nat) : Int) - 1 by omega) (by omega)])
      omega
  · ((conv => whnf); simp only [St.mk.injEq, List.cons.injEq, Prod.mk.injEq, AV.c.injEq, AV.agg.injEq, AV.tup.injEq, CV.d.injEq, D.int.injEq, D.bool.injEq, D.str.injEq, D.sl.injEq, Ent.arr.injEq, Ent.box.injEq, true_and, and_true, and_self, nInt_eq, Int.natCast_zero, dLen_eL, sLen_eq, revK_end l i (by omega) hi])
end Go.H.S
namespace Go.H.S
open Go Go.Proofs Go.H
attribute [local irreducible] Tri FnSpec FnSpecM
set_option maxRecDepth 100000
set_option linter.unusedSimpArgs false
set_option linter.unusedVariables false


theorem spec_WayTo_spec (t : List Nd) (node : Int) (hl : t.length ≤ 9223372036854775807) : FnSpec PR f_spec_WayTo [aT t, ai node] (.c (.ref 0 0 none)) [(0, .arr t_int 1 0 .own (eL cI (wayL t node)))] 1 := by
  refine FnSpec.intro hT p_spec_WayTo rfl (by kernel_rfl) n_spec_WayTo rfl ?_
  conv => whnf
  refine .inl ⟨_, _, _, spec_LevelOf_spec t node hl, rfl, ?_⟩
  (conv => whnf)
  refine ifB_i (fun h1 => ?_) (fun h1 => ?_) <;> (conv => whnf) <;> simp only [nInt_eq, Int.natCast_zero, dLen_eL, sLen_eq, nOf_eq, Int.toNat_natCast, nAdd_eq, nSub_eq, dLen_nil, dLen_cons, iLt_t, iLt_f, iLe_t, iLe_f, iEq_t, iEq_f, sEq_t, sEq_f, bNot_t, bNot_f, bAnd_t, bEq_t, bEq_f, Bool.not_eq_true, Bool.not_eq_false, Bool.true_eq_false, Bool.false_eq_true] at h1
  · have : wayL t node = [] := by
      unfold levelL lvl at h1
      unfold wayL
      split at h1
      · rename_i hn
        split at h1
        · rename_i l hs
          cases l with
          | nil =>
            have : steps t 32 node = some [] := hs
            simp [steps] at this
          | cons x r => simp at h1; omega
        · rename_i hs
          have : steps t 32 node = none := hs
          simp [hn, this]
      · rename_i hn; rw [if_neg hn]
    rw [this]
    ((conv => whnf); simp only [St.mk.injEq, List.cons.injEq, Prod.mk.injEq, AV.c.injEq, AV.agg.injEq, AV.tup.injEq, CV.d.injEq, D.int.injEq, D.bool.injEq, D.str.injEq, D.sl.injEq, Ent.arr.injEq, Ent.box.injEq, true_and, and_true, and_self, nInt_eq, Int.natCast_zero, dLen_eL, sLen_eq, eL_nil])
  · obtain ⟨hn, l, hs⟩ : (0 ≤ node ∧ node ≤ (t.length : Int) - 1) ∧ ∃ l, steps t 32 node = some l := by
      unfold levelL lvl at h1
      split at h1
      · rename_i hn
        split at h1
        · rename_i l hs; exact ⟨hn, l, hs⟩
        · omega
      · omega
    have hway : wayL t node = l.reverse := by unfold wayL; rw [if_pos hn, hs]
    have hlen := steps_len t 32 node l hs
    refine tri_loop hT [1, 2, 5] (α := Int × List Int × List Int) (fun x => { t := [(1, ai x.1), (2, .c (.ptr 0 0)), (5, .c (.ref 1 0 none))], h := [(0, .box t_impl_Tree (cTr t)), (1, .arr t_int 1 0 .own (eL cI x.2.1))], n := 2, N := 22 })
      (fun x => x.2.2.reverse ++ x.2.1 = l.reverse ∧ ((x.1 < 0 ∧ x.2.2 = []) ∨ (0 ≤ x.1 ∧ ∃ k, steps t k x.1 = some x.2.2))) (fun x => x.2.2.length) (node, [], l) (by ((conv => whnf); simp only [St.mk.injEq, List.cons.injEq, Prod.mk.injEq, AV.c.injEq, AV.agg.injEq, AV.tup.injEq, CV.d.injEq, D.int.injEq, D.bool.injEq, D.str.injEq, D.sl.injEq, Ent.arr.injEq, Ent.box.injEq, true_and, and_true, and_self, nInt_eq, Int.natCast_zero, dLen_eL, sLen_eq, eL_nil])) ⟨by simp, .inr ⟨hn.1, 32, hs⟩⟩ ?_
    intro ⟨x, out, rem⟩ ⟨h2, h3⟩
    dsimp only at h2 h3
    have hol : out.length ≤ 32 := by
      have := congrArg List.length h2
      simp at this; omega
    (conv => whnf)
    refine ifB_i (fun h4 => ?_) (fun h4 => ?_) <;> (conv => whnf) <;> simp only [nInt_eq, Int.natCast_zero, dLen_eL, sLen_eq, nOf_eq, Int.toNat_natCast, nAdd_eq, nSub_eq, dLen_nil, dLen_cons, iLt_t, iLt_f, iLe_t, iLe_f, iEq_t, iEq_f, sEq_t, sEq_f, bNot_t, bNot_f, bAnd_t, bEq_t, bEq_f, Bool.not_eq_true, Bool.not_eq_false, Bool.true_eq_false, Bool.false_eq_true] at h4
    · rcases h3 with ⟨h3, _⟩ | ⟨_, k, h3⟩
      · omega
      refine ⟨by simp [eL_length, dLen_len]; omega, ?_⟩
      (conv => whnf)
      refine .inl ⟨_, _, _, spec_l17Up_spec t x hl, rfl, ?_⟩
      (conv => whnf)
      cases k with
      | zero => simp [steps] at h3
      | succ k =>
        simp only [steps, Option.map_eq_some_iff] at h3
        obtain ⟨r, h5, rfl⟩ := h3
        refine ⟨(up t x, x :: out, r), by simp, ⟨by rw [← h2]; simp, ?_⟩, ?_⟩
        · by_cases hu : up t x < 0
          · rw [if_pos hu] at h5; cases h5; exact .inl ⟨hu, rfl⟩
          · rw [if_neg hu] at h5; exact .inr ⟨by dsimp only; omega, k, h5⟩
        · ((conv => whnf); simp only [St.mk.injEq, List.cons.injEq, Prod.mk.injEq, AV.c.injEq, AV.agg.injEq, AV.tup.injEq, CV.d.injEq, D.int.injEq, D.bool.injEq, D.str.injEq, D.sl.injEq, Ent.arr.injEq, Ent.box.injEq, true_and, and_true, and_self, nInt_eq, Int.natCast_zero, dLen_eL, sLen_eq, partOf_none, eL_cons, dApp_cons, dApp_nil, cI])
    · rcases h3 with ⟨_, h3⟩ | ⟨h3, _⟩
      · subst h3
        simp at h2
        rw [hway, ← h2]
      · omega

theorem impl_wayTo_spec (t : List Nd) (node : Int) (hl : t.length ≤ 9223372036854775807) : FnSpec PR f_impl_wayTo [aT t, ai node] (.c (.ref 0 0 none)) [(0, .arr t_int 1 0 .own (eL cI (wayL t node)))] 1 := by
  have e : wSub .i64 t.length 1 = (t.length : Int) - 1 := wSub64 (by omega) (by omega)
  refine FnSpec.intro hT p_impl_wayTo rfl (by kernel_rfl) n_impl_wayTo rfl ?_
  conv => whnf
  refine .inl ⟨_, _, _, impl_within_spec _ _ _, rfl, ?_⟩
  (conv => whnf)
  refine ifB_i (fun h1 => ?_) (fun h1 => ?_) <;> (conv => whnf) <;> simp only [nInt_eq, Int.natCast_zero, dLen_eL, sLen_eq, nOf_eq, Int.toNat_natCast, nAdd_eq, nSub_eq, dLen_nil, dLen_cons, iLt_t, iLt_f, iLe_t, iLe_f, iEq_t, iEq_f, sEq_t, sEq_f, bNot_t, bNot_f, bAnd_t, bEq_t, bEq_f, Bool.not_eq_true, Bool.not_eq_false, Bool.true_eq_false, Bool.false_eq_true, e, decide_eq_true_eq, decide_eq_false_iff_not] at h1
  · have : wayL t node = [] := by unfold wayL; rw [if_neg h1]
    rw [this]
    ((conv => whnf); simp only [St.mk.injEq, List.cons.injEq, Prod.mk.injEq, AV.c.injEq, AV.agg.injEq, AV.tup.injEq, CV.d.injEq, D.int.injEq, D.bool.injEq, D.str.injEq, D.sl.injEq, Ent.arr.injEq, Ent.box.injEq, true_and, and_true, and_self, nInt_eq, Int.natCast_zero, dLen_eL, sLen_eq, eL_nil])
  refine .inl ⟨_, _, _, impl_parent_spec t node hl, rfl, ?_⟩
  (conv => whnf)
  refine tri_loop hT [2, 5, 6] (α := Int × List Int) (fun x => { t := [(2, .c (.ptr 0 0)), (5, .c (.ref 1 0 none)), (6, ai x.1)], h := [(0, .box t_impl_Tree (cTr t)), (1, .arr t_int 1 0 .own (eL cI x.2))], n := 2, N := 34 })
    (fun x => 1 ≤ x.2.length ∧ x.2.length ≤ 32 ∧ steps t 32 node = (if x.1 < 0 then some [] else steps t (32 - x.2.length) x.1).map (x.2 ++ ·)) (fun x => 33 - x.2.length) (up t node, [node]) (by ((conv => whnf); simp only [St.mk.injEq, List.cons.injEq, Prod.mk.injEq, AV.c.injEq, AV.agg.injEq, AV.tup.injEq, CV.d.injEq, D.int.injEq, D.bool.injEq, D.str.injEq, D.sl.injEq, Ent.arr.injEq, Ent.box.injEq, true_and, and_true, and_self, nInt_eq, Int.natCast_zero, dLen_eL, sLen_eq, eL_nil, eL_cons, cI])) ⟨by simp, by simp, rfl⟩ ?_
  intro ⟨x, out⟩ ⟨h2, h3, h4⟩
  dsimp only at h2 h3 h4
  (conv => whnf)
  refine ifB_i (fun h5 => ?_) (fun h5 => ?_) <;> (conv => whnf) <;> simp only [nInt_eq, Int.natCast_zero, dLen_eL, sLen_eq, nOf_eq, Int.toNat_natCast, nAdd_eq, nSub_eq, dLen_nil, dLen_cons, iLt_t, iLt_f, iLe_t, iLe_f, iEq_t, iEq_f, sEq_t, sEq_f, bNot_t, bNot_f, bAnd_t, bEq_t, bEq_f, Bool.not_eq_true, Bool.not_eq_false, Bool.true_eq_false, Bool.false_eq_true] at h5
  · rw [if_neg (by omega)] at h4
    refine ifB_i (fun h6 => ?_) (fun h6 => ?_) <;> (conv => whnf) <;> simp only [nInt_eq, Int.natCast_zero, dLen_eL, sLen_eq, nOf_eq, Int.toNat_natCast, nAdd_eq, nSub_eq, dLen_nil, dLen_cons, iLt_t, iLt_f, iLe_t, iLe_f, iEq_t, iEq_f, sEq_t, sEq_f, bNot_t, bNot_f, bAnd_t, bEq_t, bEq_f, Bool.not_eq_true, Bool.not_eq_false, Bool.true_eq_false, Bool.false_eq_true, lenRE_none] at h6
    · have : out.length = 32 := by omega
      rw [this] at h4
      have h4 : steps t 32 node = none := h4
      have : wayL t node = [] := by unfold wayL; rw [if_pos h1]; rw [h4]
      rw [this]
      ((conv => whnf); simp only [St.mk.injEq, List.cons.injEq, Prod.mk.injEq, AV.c.injEq, AV.agg.injEq, AV.tup.injEq, CV.d.injEq, D.int.injEq, D.bool.injEq, D.str.injEq, D.sl.injEq, Ent.arr.injEq, Ent.box.injEq, true_and, and_true, and_self, nInt_eq, Int.natCast_zero, dLen_eL, sLen_eq, eL_nil])
    · refine ⟨by simp [eL_length, dLen_len]; omega, ?_⟩
      (conv => whnf)
      refine .inl ⟨_, _, _, impl_parent_spec t x hl, rfl, ?_⟩
      (conv => whnf)
      have hst : steps t (32 - out.length) x = (if up t x < 0 then some [] else steps t (31 - out.length) (up t x)).map (x :: ·) := by rw [show 32 - out.length = (31 - out.length) + 1 by omega, steps]
      rw [hst] at h4
      refine ⟨(up t x, out ++ [x]), by simp; omega, ⟨by simp, by simp; omega, ?_⟩, ?_⟩
      · dsimp only
        rw [h4, Option.map_map]
        simp only [List.length_append, List.length_cons, List.length_nil]
        rw [show 32 - (out.length + (0 + 1)) = 31 - out.length by omega]
        congr 1
        funext y
        simp
      · ((conv => whnf); simp only [St.mk.injEq, List.cons.injEq, Prod.mk.injEq, AV.c.injEq, AV.agg.injEq, AV.tup.injEq, CV.d.injEq, D.int.injEq, D.bool.injEq, D.str.injEq, D.sl.injEq, Ent.arr.injEq, Ent.box.injEq, true_and, and_true, and_self, nInt_eq, Int.natCast_zero, dLen_eL, sLen_eq, partOf_none])
        rw [← eL_app]
        rfl
  · rw [if_pos h5] at h4
    simp at h4
    have hway : wayL t node = out.reverse := by unfold wayL; rw [if_pos h1, h4]
    refine .inr (.inr (.inl ⟨1, ?_⟩))
    (conv => whnf)
    refine .inl ⟨_, _, slices_Reverse_spec out (by omega), ?_⟩
    (conv => whnf)
    rw [hway]

def leavesK (t : List Nd) (k : Nat) : List Int :=
  match t with
  | [] => []
  | n :: r => if n.f = -1 then (k : Int) :: leavesK r (k + 1) else leavesK r (k + 1)
theorem leavesK_lt : ∀ (t : List Nd) (k : Nat) (x : Int), x ∈ leavesK t k → (k : Int) ≤ x ∧ x < (k + t.length : Nat)
  | [], k, x, h => by simp [leavesK] at h
  | n :: r, k, x, h => by
    simp only [leavesK] at h
    simp only [List.length_cons]
    split at h
    · rcases List.mem_cons.1 h with rfl | h
      · omega
      · have := leavesK_lt r (k + 1) x h; omega
    · have := leavesK_lt r (k + 1) x h; omega
theorem leavesK_len : ∀ (t : List Nd) (k : Nat), (leavesK t k).length ≤ t.length
  | [], k => by simp [leavesK]
  | n :: r, k => by
    simp only [leavesK]
    have := leavesK_len r (k + 1)
    split <;> simp <;> omega
theorem spec_LeavesOf_spec (t : List Nd) (hl : t.length ≤ 1048576) : FnSpec PR f_spec_LeavesOf [aT t] (.c (.ref 0 0 none)) [(0, .arr t_int 1 0 .own (eL cI (leavesK t 0)))] 1 := by
  refine FnSpec.intro hT p_spec_LeavesOf rfl (by kernel_rfl) n_spec_LeavesOf rfl ?_
  conv => whnf
  refine tri_loop hT [1, 3, 4] (α := Nat × List Int) (fun x => { t := [(1, .c (.ptr 0 0)), (3, .c (.ref 1 0 none)), (4, ai x.1)], h := [(0, .box t_impl_Tree (cTr t)), (1, .arr t_int 1 0 .own (eL cI x.2))], n := 2, N := 25 })
    (fun x => x.1 ≤ t.length ∧ x.2.length ≤ x.1 ∧ x.2 ++ leavesK (t.drop x.1) x.1 = leavesK t 0) (fun x => t.length - x.1) (0, []) (by ((conv => whnf); simp only [St.mk.injEq, List.cons.injEq, Prod.mk.injEq, AV.c.injEq, AV.agg.injEq, AV.tup.injEq, CV.d.injEq, D.int.injEq, D.bool.injEq, D.str.injEq, D.sl.injEq, Ent.arr.injEq, Ent.box.injEq, true_and, and_true, and_self, nInt_eq, Int.natCast_zero, dLen_eL, sLen_eq, eL_nil])) ⟨Nat.zero_le _, by simp, rfl⟩ ?_
  intro ⟨k, out⟩ ⟨hk, hol, ho⟩
  dsimp only at hk hol ho
  (conv => whnf)
  refine ifB_i (fun h1 => ?_) (fun h1 => ?_) <;> (conv => whnf) <;> simp at h1
  · obtain ⟨n, hn⟩ := get_lt h1
    refine idx_at (by simp) hn ?_
    (conv => whnf)
    refine .inl ⟨_, _, _, spec_l17Inner_spec n, rfl, ?_⟩
    (conv => whnf)
    rw [drop_at hn, leavesK] at ho
    refine ifB_i (fun h2 => ?_) (fun h2 => ?_) <;> (conv => whnf) <;> simp only [nInt_eq, Int.natCast_zero, dLen_eL, sLen_eq, nOf_eq, Int.toNat_natCast, nAdd_eq, nSub_eq, dLen_nil, dLen_cons, iLt_t, iLt_f, iLe_t, iLe_f, iEq_t, iEq_f, sEq_t, sEq_f, bNot_t, bNot_f, bAnd_t, bEq_t, bEq_f, Bool.not_eq_true, Bool.not_eq_false, Bool.true_eq_false, Bool.false_eq_true] at h2
    · rw [if_pos h2] at ho
      refine ⟨by simp [eL_length, dLen_len]; omega, ?_⟩
      (conv => whnf)
      refine ⟨(k + 1, out ++ [(k : Int)]), by dsimp only; omega, ⟨h1, by simp; omega, by rw [← ho]; simp⟩, ?_⟩
      ((conv => whnf); simp only [St.mk.injEq, List.cons.injEq, Prod.mk.injEq, AV.c.injEq, AV.agg.injEq, AV.tup.injEq, CV.d.injEq, D.int.injEq, D.bool.injEq, D.str.injEq, D.sl.injEq, Ent.arr.injEq, Ent.box.injEq, true_and, and_true, and_self, nInt_eq, Int.natCast_zero, dLen_eL, sLen_eq, partOf_none, wI h1 (by omega)])
      rw [← eL_app]
      rfl
    · rw [if_neg h2] at ho
      refine ⟨(k + 1, out), by dsimp only; omega, ⟨h1, by dsimp only; omega, ho⟩, ?_⟩
      ((conv => whnf); simp only [St.mk.injEq, List.cons.injEq, Prod.mk.injEq, AV.c.injEq, AV.agg.injEq, AV.tup.injEq, CV.d.injEq, D.int.injEq, D.bool.injEq, D.str.injEq, D.sl.injEq, Ent.arr.injEq, Ent.box.injEq, true_and, and_true, and_self, nInt_eq, Int.natCast_zero, dLen_eL, sLen_eq, wI h1 (by omega)])
  · obtain rfl : k = t.length := by omega
    simp [leavesK] at ho
    rw [ho]

theorem impl_LeavesOf_spec (t : List Nd) (hl : t.length ≤ 1048576) : FnSpec PR f_impl_LeavesOf [aT t] (.c (.ref 0 0 none)) [(0, .arr t_int 1 0 .own (eL cI (leavesK t 0)))] 1 := by
  refine FnSpec.intro hT p_impl_LeavesOf rfl (by kernel_rfl) n_impl_LeavesOf rfl ?_
  conv => whnf
  refine tri_loop hT [3, 8, 9, 10] (α := Nat × List Int) (fun x => { t := [(3, .c (.ref 0 0 none)), (8, aNs t), (9, ai t.length), (10, ai x.1)], h := [(0, .arr t_int 1 0 .own (eL cI x.2))], n := 1, N := 23 })
    (fun x => x.1 ≤ t.length ∧ x.2.length ≤ x.1 ∧ x.2 ++ leavesK (t.drop x.1) x.1 = leavesK t 0) (fun x => t.length - x.1) (0, []) (by ((conv => whnf); simp only [St.mk.injEq, List.cons.injEq, Prod.mk.injEq, AV.c.injEq, AV.agg.injEq, AV.tup.injEq, CV.d.injEq, D.int.injEq, D.bool.injEq, D.str.injEq, D.sl.injEq, Ent.arr.injEq, Ent.box.injEq, true_and, and_true, and_self, nInt_eq, Int.natCast_zero, dLen_eL, sLen_eq, eL_nil])) ⟨Nat.zero_le _, by simp, rfl⟩ ?_
  intro ⟨k, out⟩ ⟨hk, hol, ho⟩
  dsimp only at hk hol ho
  (conv => whnf)
  refine ifB_i (fun h1 => ?_) (fun h1 => ?_) <;> (conv => whnf) <;> simp at h1
  · obtain ⟨n, hn⟩ := get_lt h1
    refine idx_at (by simp) hn ?_
    (conv => whnf)
    refine .inl ⟨_, _, _, impl_isLeaf_spec n, rfl, ?_⟩
    (conv => whnf)
    rw [drop_at hn, leavesK] at ho
    refine ifB_i (fun h2 => ?_) (fun h2 => ?_) <;> (conv => whnf) <;> simp only [nInt_eq, Int.natCast_zero, dLen_eL, sLen_eq, nOf_eq, Int.toNat_natCast, nAdd_eq, nSub_eq, dLen_nil, dLen_cons, iLt_t, iLt_f, iLe_t, iLe_f, iEq_t, iEq_f, sEq_t, sEq_f, bNot_t, bNot_f, bAnd_t, bEq_t, bEq_f, Bool.not_eq_true, Bool.not_eq_false, Bool.true_eq_false, Bool.false_eq_true] at h2
    · rw [if_pos h2] at ho
      refine ⟨by simp [eL_length, dLen_len]; omega, ?_⟩
      (conv => whnf)
      refine ⟨(k + 1, out ++ [(k : Int)]), by dsimp only; omega, ⟨h1, by simp; omega, by rw [← ho]; simp⟩, ?_⟩
      ((conv => whnf); simp only [St.mk.injEq, List.cons.injEq, Prod.mk.injEq, AV.c.injEq, AV.agg.injEq, AV.tup.injEq, CV.d.injEq, D.int.injEq, D.bool.injEq, D.str.injEq, D.sl.injEq, Ent.arr.injEq, Ent.box.injEq, true_and, and_true, and_self, nInt_eq, Int.natCast_zero, dLen_eL, sLen_eq, partOf_none, wI h1 (by omega)])
      rw [← eL_app]
      rfl
    · rw [if_neg h2] at ho
      refine ⟨(k + 1, out), by dsimp only; omega, ⟨h1, by dsimp only; omega, ho⟩, ?_⟩
      ((conv => whnf); simp only [St.mk.injEq, List.cons.injEq, Prod.mk.injEq, AV.c.injEq, AV.agg.injEq, AV.tup.injEq, CV.d.injEq, D.int.injEq, D.bool.injEq, D.str.injEq, D.sl.injEq, Ent.arr.injEq, Ent.box.injEq, true_and, and_true, and_self, nInt_eq, Int.natCast_zero, dLen_eL, sLen_eq, wI h1 (by omega)])
  · obtain rfl : k = t.length := by omega
    simp [leavesK] at ho
    rw [ho]
end Go.H.S
