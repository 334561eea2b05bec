/- Library, part QG (plain): the shape of a grown tree. -/
import Derived.Test.YtdolkacinfjhcaaGreatLPQ
set_option maxRecDepth 100000
set_option linter.unusedSimpArgs false
set_option linter.unusedVariables false
namespace Go.H.S
open Go Go.Proofs Go.H
theorem shapeL_snoc (ft : Int) (n : Nd) : ∀ (l : List Nd) (i next : Int), shapeL ft (l ++ [n]) i next = (shapeL ft l i next).bind fun m => shapeL ft [n] (i + l.length) m
 | [], i, next => by simp [shapeL]
 | x :: r, i, next => by
  simp only [List.cons_append, shapeL]
  split
  ·split
   ·rfl
   ·rw [shapeL_snoc ft n r (i + 1) next, show i + 1 + (r.length : Int) = i + ((x :: r).length : Nat) by simp; omega]; rfl
  ·split
   ·rfl
   ·rw [shapeL_snoc ft n r (i + 1) (next + 2), show i + 1 + (r.length : Int) = i + ((x :: r).length : Nat) by simp; omega]; rfl
theorem shape_leafI {grads : List Int} {c : Cfg} {x : Itm} (hb : boundP x.bd) (ft i m : Int) : shapeL ft [leafI grads c x] i m = some m := by
 have h := leafV_in (n := x.rows.length) (s := sumR grads x.rows) (lam := c.lambda) hb.1
 have h1 : leafBad (leafI grads c x) = false := by
  unfold boundP at hb
  have h2 : decide (leafI grads c x ≠ ⟨-1, 0, 0, 0, (leafI grads c x).v⟩) = false := decide_eq_false (fun q => q rfl)
  have h3 : decide (-1099511627776 ≤ (leafI grads c x).v ∧ (leafI grads c x).v ≤ 1099511627776) = true := decide_eq_true (by show -1099511627776 ≤ leafV _ _ _ _ ∧ leafV _ _ _ _ ≤ _; omega)
  unfold leafBad
  rw [h2, h3]
  rfl
 simp only [shapeL]
 rw [if_pos (show (leafI grads c x).f = -1 from rfl), h1]
 rfl
theorem shape_innerI {g : Grd} {z : Cd} {f b : Nat} (hg : gridP g) (hf : f < g.cuts.length) (hb : b < (cutsF g f).length) (hzf : z.f = f) (hzb : z.b = b) {k n : Nat} (hk : k < n) : shapeL g.cuts.length [innerI g z n] k n = some ((n + 2 : Nat) : Int) := by
 obtain ⟨_, _, g3, _⟩ := grid_at hg hf
 obtain ⟨cv, hcv⟩ := get_lt hb
 have hc : cutAt g z.f z.b = cv := by unfold cutAt; rw [hzf, hzb, Int.toNat_natCast, Int.toNat_natCast, hcv]; rfl
 have hcr : -2147483647 ≤ cv ∧ cv ≤ 2147483647 := by
  have := g3.2.2 cv (List.mem_of_getElem? hcv)
  unfold decP at this
  omega
 have h1 : innerBad (innerI g z n) g.cuts.length k n = false := by
  rw [hzf] at hc
  simp only [innerBad, innerI, hzf, hc, Bool.or_eq_false_iff, decide_eq_false_iff_not]
  refine ⟨⟨⟨⟨⟨?_, ?_⟩, ?_⟩, ?_⟩, ?_⟩, ?_⟩ <;> omega
 have h2 : ¬ (innerI g z n).f = -1 := by show ¬ z.f = -1; rw [hzf]; omega
 simp only [shapeL]
 rw [if_neg h2, h1]
 simp
theorem grow_shape {g : Grd} {grads : List Int} {c : Cfg} (ht : taskP g grads c) : ∀ k, k ≤ (growK g grads c k).1.length → grP g grads c k ∧ shapeL g.cuts.length (growK g grads c k).2 0 1 = some ((growK g grads c k).1.length : Int)
 | 0, _ => ⟨grow_zero ht, by simp [growK, shapeL]⟩
 | k + 1, hk => by
  cases hx : (growK g grads c k).1[k]? with
  | none =>
   have hle : (growK g grads c k).1.length ≤ k := by
    rcases Nat.lt_or_ge k (growK g grads c k).1.length with q | q
    ·rw [List.getElem?_eq_getElem q] at hx; cases hx
    ·exact q
   rw [growK, hx] at hk
   dsimp only at hk
   omega
  | some x =>
   have hlt : k < (growK g grads c k).1.length := by
    rcases Nat.lt_or_ge k (growK g grads c k).1.length with q | q
    ·exact q
    ·rw [List.getElem?_eq_none q] at hx; cases hx
   obtain ⟨hp, ih⟩ := grow_shape ht k (by omega)
   refine ⟨grow_next hp hx, ?_⟩
   have hip := hp.it x (List.mem_of_getElem? hx)
   have ho := hp.out
   have e := grow_step hx
   cases hz : partI g grads c x with
   | none =>
    have e2 : growK g grads c (k + 1) = ((growK g grads c k).1, (growK g grads c k).2 ++ [leafI grads c x]) := by rw [e, stepG, hz]
    rw [e2]
    dsimp only
    rw [shapeL_snoc, ih]
    show shapeL _ _ _ _ = _
    rw [shape_leafI hip.2.1]
   | some z =>
    have hz2 : partL g grads c x.rows x.bd = some z := by
     unfold partI at hz
     split at hz
     ·exact hz
     ·cases hz
    obtain ⟨f, b, hf, hb, hze⟩ := partL_in hz2
    have e2 : growK g grads c (k + 1) = ((growK g grads c k).1 ++ [kidL g c x z, kidR g c x z], (growK g grads c k).2 ++ [innerI g z (growK g grads c k).1.length]) := by rw [e, stepG, hz]
    rw [e2]
    dsimp only
    rw [shapeL_snoc, ih, ho]
    show shapeL _ _ _ _ = _
    rw [Int.zero_add, shape_innerI ht.1 hf hb (by rw [hze]; rfl) (by rw [hze]; rfl) hlt]
    simp
theorem grow_fin {g : Grd} {grads : List Int} {c : Cfg} (ht : taskP g grads c) : ∃ k, k ≤ 31 ∧ k = (growK g grads c k).1.length := by
 have key : ∀ j, (∃ k, k < j ∧ k = (growK g grads c k).1.length) ∨ j ≤ (growK g grads c j).1.length := by
  intro j
  induction j with
  | zero => exact .inr (Nat.zero_le _)
  | succ j ih =>
   rcases ih with ⟨k, h1, h2⟩ | h
   ·exact .inl ⟨k, by omega, h2⟩
   ·rcases Nat.lt_or_ge j (growK g grads c j).1.length with q | q
    ·obtain ⟨x, hx⟩ := get_lt q
     refine .inr ?_
     rw [grow_step hx]
     unfold stepG
     split
     ·dsimp only; omega
     ·simp; omega
    ·exact .inl ⟨j, by omega, by omega⟩
 rcases key 32 with ⟨k, h1, h2⟩ | h
 ·exact ⟨k, by omega, h2⟩
 ·have := (grow_shape ht 32 h).1.wt
  omega
theorem grown_shape {g : Grd} {grads : List Int} {c : Cfg} (ht : taskP g grads c) : shapeOk (growL g grads c) g.cuts.length = true ∧ 1 ≤ (growL g grads c).length ∧ (growL g grads c).length ≤ 31 := by
 obtain ⟨k, hk, he⟩ := grow_fin ht
 obtain ⟨hp, hs⟩ := grow_shape ht k (by omega)
 have hg := grow_end hp he
 have ho := hp.out
 rw [hg] at hs ho
 rw [← he] at hs
 have h1 : 1 ≤ k := by
  rcases Nat.eq_zero_or_pos k with rfl | q
  ·simp [growK] at he
  ·exact q
 refine ⟨?_, by omega, by omega⟩
 unfold shapeOk
 rw [hs, ho]
 exact decide_eq_true rfl
theorem grow_pre {g : Grd} {grads : List Int} {c : Cfg} (k : Nat) : ∀ j, ∃ a b, growK g grads c (k + j) = ((growK g grads c k).1 ++ a, (growK g grads c k).2 ++ b)
 | 0 => ⟨[], [], by simp⟩
 | j + 1 => by
  obtain ⟨a, b, h⟩ := grow_pre (g := g) (grads := grads) (c := c) k j
  rw [← Nat.add_assoc, growK]
  split
  ·exact ⟨a, b, h⟩
  ·rw [h]
   unfold stepG
   split
   ·exact ⟨a, _, by rw [List.append_assoc]⟩
   ·exact ⟨_, _, by rw [List.append_assoc, List.append_assoc]⟩
def quL (g : Grd) (grads : List Int) (c : Cfg) : List Itm := (growK g grads c 31).1
theorem grow_node {g : Grd} {grads : List Int} {c : Cfg} (ht : taskP g grads c) : (quL g grads c).length = (growL g grads c).length ∧ ∀ j, j < (growL g grads c).length → ∃ x, (quL g grads c)[j]? = some x ∧ itmP g c x ∧
  ((partI g grads c x = none ∧ (growL g grads c)[j]? = some (leafI grads c x)) ∨ ∃ z, partI g grads c x = some z ∧ (growL g grads c)[j]? = some (innerI g z (growK g grads c j).1.length) ∧ j < (growK g grads c j).1.length ∧ (quL g grads c)[(growK g grads c j).1.length]? = some (kidL g c x z) ∧ (quL g grads c)[(growK g grads c j).1.length + 1]? = some (kidR g c x z)) := by
 obtain ⟨K, hK, he⟩ := grow_fin ht
 obtain ⟨hp, _⟩ := grow_shape ht K (by omega)
 have hg := grow_end hp he
 have ho := hp.out
 have hq : quL g grads c = (growK g grads c K).1 := by
  unfold quL
  rw [show 31 = K + (31 - K) by omega, grow_stop (by omega)]
 rw [← hg, ho, hq]
 refine ⟨he.symm, fun j hj => ?_⟩
 have hlt : j < (growK g grads c j).1.length := by
  rcases Nat.lt_or_ge j (growK g grads c j).1.length with q | q
  ·exact q
  ·have := grow_stop q (K - j)
   rw [show j + (K - j) = K by omega] at this
   rw [this] at he
   omega
 obtain ⟨x, hx⟩ := get_lt hlt
 obtain ⟨hpj, _⟩ := grow_shape ht j (by omega)
 have hip := hpj.it x (List.mem_of_getElem? hx)
 have hoj := hpj.out
 have e := grow_step hx
 obtain ⟨a, b, hab⟩ := grow_pre (g := g) (grads := grads) (c := c) (j + 1) (K - (j + 1))
 rw [show j + 1 + (K - (j + 1)) = K by omega, e] at hab
 rw [hab]
 cases hz : partI g grads c x with
 | none =>
  have e2 : stepG g grads c (growK g grads c j).1 (growK g grads c j).2 x = ((growK g grads c j).1, (growK g grads c j).2 ++ [leafI grads c x]) := by rw [stepG, hz]
  rw [e2]
  dsimp only
  refine ⟨x, by rw [List.getElem?_append_left hlt]; exact hx, hip, .inl ⟨hz, ?_⟩⟩
  rw [List.getElem?_append_left (by simp; omega), List.getElem?_append_right (by omega), hoj]
  simp
 | some z =>
  have e2 : stepG g grads c (growK g grads c j).1 (growK g grads c j).2 x = ((growK g grads c j).1 ++ [kidL g c x z, kidR g c x z], (growK g grads c j).2 ++ [innerI g z (growK g grads c j).1.length]) := by rw [stepG, hz]
  rw [e2]
  dsimp only
  refine ⟨x, by rw [List.append_assoc, List.getElem?_append_left hlt]; exact hx, hip, .inr ⟨z, hz, ?_, hlt, ?_, ?_⟩⟩
  ·rw [List.getElem?_append_left (by simp; omega), List.getElem?_append_right (by omega), hoj]
   simp
  ·rw [List.append_assoc, List.getElem?_append_right (by omega)]
   simp
  ·rw [List.append_assoc, List.getElem?_append_right (by omega)]
   simp
theorem steps_mono {t : List Nd} : ∀ (n : Nat) (x : Int) (l : List Int), steps t n x = some l → steps t (n + 1) x = some l
 | 0, x, l, h => by simp [steps] at h
 | n + 1, x, l, h => by
  rw [steps] at h ⊢
  split
  ·rename_i q
   rw [if_pos q] at h
   exact h
  ·rename_i q
   rw [if_neg q] at h
   rw [Option.map_eq_some_iff] at h ⊢
   obtain ⟨r, h1, h2⟩ := h
   exact ⟨r, steps_mono n _ r h1, h2⟩
theorem way_kid {t : List Nd} {ft : Int} (h : shapeOk t ft = true) (hl : t.length ≤ 31) {j : Nat} {n : Nd} (hj : t[j]? = some n) (hf : n.f ≠ -1) {x : Int} (hx : n.l = x ∨ n.r = x) (hjx : (j : Int) < x) (hxr : x < t.length) : wayL t x = wayL t j ++ [x] := by
 have hu := up_kid h hj hf hx
 obtain ⟨l, hs, _⟩ := steps_anc h 30 j (by omega)
 have hs2 := steps_mono _ _ _ hs
 have hx2 : steps t 32 x = some (x :: l) := by
  rw [steps, hu, if_neg (by omega), hs]
  rfl
 unfold wayL
 rw [if_pos (by omega), if_pos (by omega), hx2, hs2]
 simp
theorem nrWay_snoc {g : Grd} {t : List Nd} (a z : Int) : ∀ (w : List Int) (rows : List Int), nrWay g t rows (w ++ [a, z]) = nrStep g t (nrWay g t rows (w ++ [a])) a z
 | [], rows => by simp [nrWay]
 | [y], rows => by simp [nrWay]
 | y :: y' :: w, rows => by
  have ih := nrWay_snoc (g := g) (t := t) a z (y' :: w) (nrStep g t rows y y')
  simp only [List.cons_append] at ih ⊢
  rw [nrWay, nrWay, ih]
theorem bWay_snoc {g : Grd} {grads : List Int} {c : Cfg} {t : List Nd} (a z : Int) : ∀ (w : List Int) (b : Int × Int), bWay g grads c t b (w ++ [a, z]) = bStep g grads c t (bWay g grads c t b (w ++ [a])) a z
 | [], b => by simp [bWay]
 | [y], b => by simp [bWay]
 | y :: y' :: w, b => by
  have ih := bWay_snoc (g := g) (grads := grads) (c := c) (t := t) a z (y' :: w) (bStep g grads c t b y y')
  simp only [List.cons_append] at ih ⊢
  rw [bWay, bWay, ih]
theorem binOf_zero (v : Int) : ∀ (l : List Int), (∀ u ∈ l, v ≤ u) → binOfL l v = 0
 | [], _ => rfl
 | x :: r, h => by
  have h1 := h x (by simp)
  rw [binOfL, if_neg (by omega), binOf_zero v r (fun u hu => h u (by simp [hu]))]
theorem rise_lt (x : Int) (r : List Int) (hm : ∀ (j : Nat) (a b : Int), (x :: r)[j]? = some a → (x :: r)[j + 1]? = some b → a < b) : ∀ (b : Nat) (v : Int), r[b]? = some v → x < v := by
 intro b
 induction b with
 | zero => intro v hv; exact hm 0 x v (by simp) (by simpa using hv)
 | succ b ihb =>
  intro v hv
  obtain ⟨u, hu⟩ : ∃ u, r[b]? = some u := get_lt (by have := (List.getElem?_eq_some_iff.1 hv).1; omega)
  have h1 := ihb u hu
  have h2 := hm (b + 1) u v (by simpa using hu) (by simpa using hv)
  omega
theorem binOf_at : ∀ (l : List Int) (b : Nat) (v : Int), (∀ (j : Nat) (x y : Int), l[j]? = some x → l[j + 1]? = some y → x < y) → l[b]? = some v → binOfL l v = b
 | [], b, v, _, h => by simp at h
 | x :: r, 0, v, hm, h => by
  simp at h
  subst h
  have h0 := binOf_zero x r (fun u hu => by
   obtain ⟨i, hi⟩ := List.getElem?_of_mem hu
   have := rise_lt x r hm i u hi
   omega)
  simp [binOfL, h0]
 | x :: r, b + 1, v, hm, h => by
  have hr : r[b]? = some v := by simpa using h
  have ih := binOf_at r b v (fun j x y h1 h2 => hm (j + 1) x y (by simpa using h1) (by simpa using h2)) hr
  have := rise_lt x r hm b v hr
  rw [binOfL, if_pos this]
  omega
theorem nr_kid {g : Grd} {c : Cfg} {x : Itm} {z : Cd} {f b : Nat} (hg : gridP g) (hf : f < g.cuts.length) (hb : b < (cutsF g f).length) (hzf : z.f = f) (hzb : z.b = b) {t : List Nd} {j L : Nat} (hj : t[j]? = some (innerI g z L)) :
  nrStep g t x.rows j L = (kidL g c x z).rows ∧ nrStep g t x.rows j ((L + 1 : Nat) : Int) = (kidR g c x z).rows := by
 obtain ⟨g1, g2, g3, _⟩ := grid_at hg hf
 obtain ⟨cv, hcv⟩ := get_lt hb
 have hc : cutAt g z.f z.b = cv := by unfold cutAt; rw [hzf, hzb, Int.toNat_natCast, Int.toNat_natCast, hcv]; rfl
 have hbin : binOfL (cutsF g f) cv = b := binOf_at _ _ _ g3.1 hcv
 have hff : (innerI g z L).f.toNat = f := by show z.f.toNat = f; rw [hzf, Int.toNat_natCast]
 have hcc : (innerI g z L).c = cv := hc
 unfold nrStep kidL kidR
 rw [Int.toNat_natCast, hj]
 dsimp only
 rw [hff, g1, g2]
 dsimp only
 rw [hcc, hbin, show z.f.toNat = f by rw [hzf, Int.toNat_natCast], hzb]
 refine ⟨if_pos rfl, if_neg ?_⟩
 show ¬ (L : Int) = ((L + 1 : Nat) : Int)
 omega
theorem items_at {g : Grd} {grads : List Int} {c : Cfg} (ht : taskP g grads c) (P : Nat → Itm → Prop) (h0 : P 0 ⟨allRowsL grads.length, freeB, 0⟩)
  (hk : ∀ (j L : Nat) (x : Itm) (z : Cd), P j x → itmP g c x → partI g grads c x = some z → (growL g grads c)[j]? = some (innerI g z L) → j < L → L + 1 < (growL g grads c).length → P L (kidL g c x z) ∧ P (L + 1) (kidR g c x z)) :
  ∀ k, k ≤ (growL g grads c).length → ∀ j x, (growK g grads c k).1[j]? = some x → P j x
 | 0, _, j, x, hx => by
  simp only [growK] at hx
  match j, hx with
  | 0, hx => simp at hx; subst hx; exact h0
  | j + 1, hx => simp at hx
 | k + 1, hkn, j, x, hx => by
  obtain ⟨hlen, hn⟩ := grow_node ht
  obtain ⟨y, hy, hyp, hc⟩ := hn k (by omega)
  have ih := items_at ht P h0 hk k (by omega)
  cases hyk : (growK g grads c k).1[k]? with
  | none => rw [growK, hyk] at hx; exact ih j x hx
  | some y' =>
   have hpre := grow_pre (g := g) (grads := grads) (c := c) k (31 - k)
   have hn31 : (growL g grads c).length ≤ 31 := (grown_shape ht).2.2
   rw [show k + (31 - k) = 31 by omega] at hpre
   obtain ⟨a, b, hab⟩ := hpre
   have hlt : k < (growK g grads c k).1.length := (List.getElem?_eq_some_iff.1 hyk).1
   have hyy : y' = y := by
    have : (quL g grads c)[k]? = some y' := by unfold quL; rw [hab]; dsimp only; rw [List.getElem?_append_left hlt]; exact hyk
    rw [hy] at this
    cases this; rfl
   subst hyy
   rw [grow_step hyk] at hx
   have hpk := ih k y' hyk
   rcases hc with ⟨hz, _⟩ | ⟨z, hz, hnode, hL, hl1, hl2⟩
   ·rw [stepG, hz] at hx
    exact ih j x hx
   ·rw [stepG, hz] at hx
    dsimp only at hx
    have hL1 : (growK g grads c k).1.length + 1 < (growL g grads c).length := by
     rw [← hlen]; exact (List.getElem?_eq_some_iff.1 hl2).1
    obtain ⟨p1, p2⟩ := hk k _ y' z hpk hyp hz hnode hL hL1
    rcases Nat.lt_or_ge j (growK g grads c k).1.length with q | q
    ·rw [List.getElem?_append_left q] at hx
     exact ih j x hx
    ·rw [List.getElem?_append_right q] at hx
     obtain ⟨i, hi⟩ : ∃ i, j = (growK g grads c k).1.length + i := ⟨j - (growK g grads c k).1.length, by omega⟩
     subst hi
     rw [Nat.add_sub_cancel_left] at hx
     match i, hx with
     | 0, hx => simp at hx; subst hx; exact p1
     | 1, hx => simp at hx; subst hx; exact p2
     | i + 2, hx => simp at hx
theorem way_root {t : List Nd} {ft : Int} (h : shapeOk t ft = true) (h1 : 1 ≤ t.length) : wayL t 0 = [0] := by
 have hu : up t 0 < 0 := by
  rcases Int.lt_or_le (up t 0) 0 with q | q
  ·exact q
  ·obtain ⟨j, n, _, _, _, _, hlt⟩ := up_at h q
   omega
 have hs : steps t 32 0 = some [0] := by rw [steps, if_pos hu]; rfl
 unfold wayL
 rw [if_pos (by omega), hs]
 rfl
theorem grown_rows {g : Grd} {grads : List Int} {c : Cfg} (ht : taskP g grads c) {j : Nat} {x : Itm} (hx : (quL g grads c)[j]? = some x) :
  ∃ w, wayL (growL g grads c) j = w ++ [(j : Int)] ∧ nodeRowsL g (growL g grads c) j = x.rows ∧ (w.length : Int) = x.lev := by
 obtain ⟨hsh, hn1, hn31⟩ := grown_shape ht
 obtain ⟨K, hK, he⟩ := grow_fin ht
 have hgl : grads.length = rowsIn g := ht.2.2.1
 obtain ⟨hp, _⟩ := grow_shape ht K (by omega)
 have hlen : (growL g grads c).length = K := by rw [← grow_end hp he]; exact hp.out
 have hq : quL g grads c = (growK g grads c K).1 := by
  unfold quL
  rw [show 31 = K + (31 - K) by omega, grow_stop (by omega)]
 rw [hq] at hx
 refine items_at ht (fun j x => ∃ w, wayL (growL g grads c) j = w ++ [(j : Int)] ∧ nodeRowsL g (growL g grads c) j = x.rows ∧ (w.length : Int) = x.lev) ?_ ?_ K (by omega) j x hx
 ·refine ⟨[], way_root hsh hn1, ?_, rfl⟩
  unfold nodeRowsL
  rw [show ((0 : Nat) : Int) = 0 from rfl, way_root hsh hn1, hgl]
  rfl
 ·intro j L x z ⟨w, hw, hr, hl⟩ hip hz hj hjL hL
  have hz2 : x.lev < c.depth ∧ partL g grads c x.rows x.bd = some z := by
   unfold partI at hz
   split at hz
   ·rename_i q; exact ⟨q, hz⟩
   ·cases hz
  obtain ⟨f, b, hf, hb, hze⟩ := partL_in hz2.2
  have hzf : z.f = f := by rw [hze]; rfl
  have hzb : z.b = b := by rw [hze]; rfl
  have hnf : (innerI g z L).f ≠ -1 := by show z.f ≠ -1; rw [hzf]; omega
  obtain ⟨k1, k2⟩ := nr_kid (x := x) (c := c) ht.1 hf hb hzf hzb hj
  have w1 := way_kid hsh hn31 hj hnf (x := (L : Int)) (.inl rfl) (by omega) (by omega)
  have w2 := way_kid hsh hn31 hj hnf (x := ((L + 1 : Nat) : Int)) (.inr rfl) (by omega) (by omega)
  rw [hw] at w1 w2
  unfold nodeRowsL at hr ⊢
  rw [hw] at hr
  refine ⟨⟨w ++ [(j : Int)], w1, ?_, ?_⟩, ⟨w ++ [(j : Int)], w2, ?_, ?_⟩⟩
  ·rw [w1, List.append_assoc, List.singleton_append, nrWay_snoc, hr]; exact k1
  ·show _ = x.lev + 1; simp; omega
  ·rw [w2, List.append_assoc, List.singleton_append, nrWay_snoc, hr]; exact k2
  ·show _ = x.lev + 1; simp; omega
theorem split_lr {bins rows : List Int} (b : Int) (h : ∀ r ∈ rows, 0 ≤ r ∧ r < (bins.length : Int)) : (splitL bins rows b).1 = leftR bins rows b ∧ (splitL bins rows b).2 = rightR bins rows b := by
 have key : ∀ r ∈ rows, atBin bins b r = some (decide (binAt bins r ≤ b)) := fun r hr => by
  obtain ⟨h1, h2⟩ := h r hr
  obtain ⟨v, hv⟩ := get_lt (show r.toNat < bins.length by omega)
  unfold atBin binAt
  rw [if_pos (by omega), hv]
  rfl
 refine ⟨List.filter_congr fun r hr => ?_, List.filter_congr fun r hr => ?_⟩
 ·rw [key r hr]; simp
 ·rw [key r hr]; simp
theorem grown_bound {g : Grd} {grads : List Int} {c : Cfg} (ht : taskP g grads c) {j : Nat} {x : Itm} (hx : (quL g grads c)[j]? = some x) : boundL g grads c (growL g grads c) j = x.bd := by
 obtain ⟨hsh, hn1, hn31⟩ := grown_shape ht
 obtain ⟨K, hK, he⟩ := grow_fin ht
 obtain ⟨hp, _⟩ := grow_shape ht K (by omega)
 have hlen : (growL g grads c).length = K := by rw [← grow_end hp he]; exact hp.out
 have hq : quL g grads c = (growK g grads c K).1 := by
  unfold quL
  rw [show 31 = K + (31 - K) by omega, grow_stop (by omega)]
 rw [hq] at hx
 refine (items_at ht (fun j x => (∃ w, wayL (growL g grads c) j = w ++ [(j : Int)]) ∧ nodeRowsL g (growL g grads c) j = x.rows ∧ boundL g grads c (growL g grads c) j = x.bd) ?_ ?_ K (by omega) j x hx).2.2
 ·refine ⟨⟨[], way_root hsh hn1⟩, ?_, ?_⟩
  ·unfold nodeRowsL
   rw [show ((0 : Nat) : Int) = 0 from rfl, way_root hsh hn1, ht.2.2.1]
   rfl
  ·unfold boundL
   rw [show ((0 : Nat) : Int) = 0 from rfl, way_root hsh hn1]
   rfl
 ·intro j L x z ⟨⟨w, hw⟩, hr, hbd⟩ hip hz hj hjL hL
  have hz2 : x.lev < c.depth ∧ partL g grads c x.rows x.bd = some z := by
   unfold partI at hz
   split at hz
   ·rename_i q; exact ⟨q, hz⟩
   ·cases hz
  obtain ⟨f, b, hf, hb, hze⟩ := partL_in hz2.2
  have hzf : z.f = f := by rw [hze]; rfl
  have hzb : z.b = b := by rw [hze]; rfl
  have hnf : (innerI g z L).f ≠ -1 := by show z.f ≠ -1; rw [hzf]; omega
  obtain ⟨k1, k2⟩ := nr_kid (x := x) (c := c) ht.1 hf hb hzf hzb hj
  have w1 := way_kid hsh hn31 hj hnf (x := (L : Int)) (.inl rfl) (by omega) (by omega)
  have w2 := way_kid hsh hn31 hj hnf (x := ((L + 1 : Nat) : Int)) (.inr rfl) (by omega) (by omega)
  rw [hw] at w1 w2
  have hr' := hr
  unfold nodeRowsL at hr'
  rw [hw] at hr'
  have r1 : nodeRowsL g (growL g grads c) (L : Int) = (kidL g c x z).rows := by
   unfold nodeRowsL
   rw [w1, List.append_assoc, List.singleton_append, nrWay_snoc, hr']; exact k1
  have r2 : nodeRowsL g (growL g grads c) ((L + 1 : Nat) : Int) = (kidR g c x z).rows := by
   unfold nodeRowsL
   rw [w2, List.append_assoc, List.singleton_append, nrWay_snoc, hr']; exact k2
  obtain ⟨_, _, _, hbl, _⟩ := grid_at ht.1 hf
  obtain ⟨s1, s2⟩ := split_lr (bins := binsF g f) (rows := x.rows) (b : Int) (fun r hr => by rw [hbl]; exact hip.1.mem r hr)
  have q1 : (kidL g c x z).rows = leftR (binsF g f) x.rows b := by unfold kidL; dsimp only; rw [hzf, hzb, Int.toNat_natCast]; exact s1
  have q2 : (kidR g c x z).rows = rightR (binsF g f) x.rows b := by unfold kidR; dsimp only; rw [hzf, hzb, Int.toNat_natCast]; exact s2
  have a1 : leafAt g grads c (growL g grads c) x.bd (L : Int) = sideL c x.bd z := by
   unfold leafAt sideL
   rw [r1, q1, hze]; rfl
  have a2 : leafAt g grads c (growL g grads c) x.bd ((L + 1 : Nat) : Int) = sideR c x.bd z := by
   unfold leafAt sideR
   rw [r2, q2, hze]; rfl
  have hbs : bSides g grads c (growL g grads c) x.bd (innerI g z L) = sidesL (signFor c z.f) x.bd (sideL c x.bd z) (sideR c x.bd z) := by
   unfold bSides
   show sidesL (signFor c z.f) x.bd (leafAt g grads c (growL g grads c) x.bd (L : Int)) (leafAt g grads c (growL g grads c) x.bd ((L + 1 : Nat) : Int)) = _
   rw [a1, a2]
  unfold boundL at hbd
  rw [hw] at hbd
  refine ⟨⟨⟨_, w1⟩, r1, ?_⟩, ⟨⟨_, w2⟩, r2, ?_⟩⟩
  ·unfold boundL
   rw [w1, List.append_assoc, List.singleton_append, bWay_snoc, hbd]
   unfold bStep
   rw [Int.toNat_natCast, hj]
   dsimp only
   rw [if_pos (show (innerI g z L).l = (L : Int) from rfl), hbs]
   rfl
  ·unfold boundL
   rw [w2, List.append_assoc, List.singleton_append, bWay_snoc, hbd]
   unfold bStep
   rw [Int.toNat_natCast, hj]
   dsimp only
   rw [if_neg (show ¬ (innerI g z L).l = ((L + 1 : Nat) : Int) from by show ¬ (L : Int) = ((L + 1 : Nat) : Int); omega), hbs]
   rfl
theorem grown_depth {g : Grd} {grads : List Int} {c : Cfg} (ht : taskP g grads c) : ∀ k, k ≤ (growL g grads c).length → depthK (growL g grads c) k ≤ c.depth
 | 0, _ => by
  have := ((cfg_five c).1 ht.2.1.1).2.1
  show (-1 : Int) ≤ c.depth
  omega
 | k + 1, hk => by
  have ih := grown_depth ht k (by omega)
  obtain ⟨_, hn⟩ := grow_node ht
  obtain ⟨x, hx, hip, _⟩ := hn k (by omega)
  obtain ⟨w, hw, _, hl⟩ := grown_rows ht hx
  have h1 : levelL (growL g grads c) k = x.lev := by rw [level_len, hw]; simp; omega
  have h2 := hip.2.2.2
  show max (depthK (growL g grads c) k) (levelL (growL g grads c) k) ≤ c.depth
  rw [h1]
  omega
end Go.H.S
