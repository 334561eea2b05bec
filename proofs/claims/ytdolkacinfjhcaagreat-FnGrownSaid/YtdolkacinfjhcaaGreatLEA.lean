/- Library, part QH (plain): a grown tree is right; its nodes have rows enough. -/
import Derived.Test.YtdolkacinfjhcaaGreatLQG
import Derived.Test.YtdolkacinfjhcaaGreatLPQ
import Derived.Test.YtdolkacinfjhcaaGreatLNI
import Derived.Test.YtdolkacinfjhcaaGreatLDB
import Derived.Test.YtdolkacinfjhcaaGreatLX
set_option maxRecDepth 100000
set_option linter.unusedSimpArgs false
set_option linter.unusedVariables false
namespace Go.H.S
open Go Go.Proofs Go.H
theorem wayBad_snoc (t : List Nd) (n : Nd) (a z : Int) : ∀ w : List Int, wayBad t n (w ++ [a, z]) = (wayBad t n (w ++ [a]) || badP t n a z)
 | [] => by simp [wayBad]
 | [y] => by simp [wayBad]
 | y :: y' :: w => by
  have ih := wayBad_snoc t n a z (y' :: w)
  simp only [List.cons_append] at ih ⊢
  rw [wayBad, wayBad, ih, Bool.or_assoc]
theorem rise_at {l : List Int} (hm : ∀ (j : Nat) (x y : Int), l[j]? = some x → l[j + 1]? = some y → x < y) {b : Nat} {u : Int} (hu : l[b]? = some u) : ∀ (d : Nat) (v : Int), l[b + d + 1]? = some v → u < v
 | 0, v, hv => hm b u v hu hv
 | d + 1, v, hv => by
  obtain ⟨y, hy⟩ := get_lt (show b + d + 1 < l.length by have := (List.getElem?_eq_some_iff.1 hv).1; omega)
  have h1 := rise_at hm hu d y hy
  have h2 := hm (b + d + 1) y v hy hv
  omega
theorem rise_of {l : List Int} (hm : ∀ (j : Nat) (x y : Int), l[j]? = some x → l[j + 1]? = some y → x < y) {b b0 : Nat} {u v : Int} (hu : l[b]? = some u) (hv : l[b0]? = some v) (h : b < b0) : u < v :=
 rise_at hm hu (b0 - b - 1) v (by rw [show b + (b0 - b - 1) + 1 = b0 by omega]; exact hv)
theorem badP_f {t : List Nd} {n x : Nd} {a : Nat} {z : Int} (hx : t[a]? = some x) (h : x.f = n.f → (x.r ≠ z ∨ x.c < n.c) ∧ (x.l ≠ z ∨ n.c < x.c)) : badP t n (a : Nat) z = false := by
 unfold badP
 rw [Int.toNat_natCast, hx]
 dsimp only
 by_cases q : x.f = n.f
 ·obtain ⟨h1, h2⟩ := h q
  have e1 : (iEq x.r z && iLe n.c x.c) = false := by
   rcases h1 with h1 | h1
   ·rw [show iEq x.r z = false from decide_eq_false h1, Bool.false_and]
   ·rw [show iLe n.c x.c = false from decide_eq_false (by omega), Bool.and_false]
  have e2 : (iEq x.l z && iLe x.c n.c) = false := by
   rcases h2 with h1 | h1
   ·rw [show iEq x.l z = false from decide_eq_false h1, Bool.false_and]
   ·rw [show iLe x.c n.c = false from decide_eq_false (by omega), Bool.and_false]
  rw [e1, e2, Bool.or_false, Bool.and_false]
 ·rw [show iEq x.f n.f = false from decide_eq_false q, Bool.false_and]
theorem items_qu {g : Grd} {grads : List Int} {c : Cfg} (ht : taskP g grads c) (P : Nat → Itm → Prop) (h0 : P 0 ⟨allRowsL grads.length, freeB, 0⟩)
  (hk : ∀ (j L : Nat) (x : Itm) (z : Cd), P j x → itmP g c x → partI g grads c x = some z → (growL g grads c)[j]? = some (innerI g z L) → j < L → L + 1 < (growL g grads c).length → P L (kidL g c x z) ∧ P (L + 1) (kidR g c x z))
  {j : Nat} {x : Itm} (hx : (quL g grads c)[j]? = some x) : P j x := by
 obtain ⟨K, hK, he⟩ := grow_fin ht
 obtain ⟨hp, _⟩ := grow_shape ht K (by omega)
 have hlen : (growL g grads c).length = K := by rw [← grow_end hp he]; exact hp.out
 have hq : quL g grads c = (growK g grads c K).1 := by
  unfold quL
  rw [show 31 = K + (31 - K) by omega, grow_stop (by omega)]
 rw [hq] at hx
 exact items_at ht P h0 hk K (by omega) j x hx
theorem partI_some {g : Grd} {grads : List Int} {c : Cfg} {x : Itm} {z : Cd} (h : partI g grads c x = some z) : x.lev < c.depth ∧ partL g grads c x.rows x.bd = some z := by
 unfold partI at h
 split at h
 ·rename_i q; exact ⟨q, h⟩
 ·cases h
structure Parted (g : Grd) (c : Cfg) (x : Itm) (z : Cd) (f b : Nat) : Prop where
 hf : f < g.cuts.length
 hb : b < (cutsF g f).length
 zf : z.f = f
 zb : z.b = b
 q1 : (kidL g c x z).rows = leftR (binsF g f) x.rows b
 q2 : (kidR g c x z).rows = rightR (binsF g f) x.rows b
 n1 : c.rows ≤ ((leftR (binsF g f) x.rows b).length : Int)
 n2 : c.rows ≤ ((rightR (binsF g f) x.rows b).length : Int)
theorem parted {g : Grd} {grads : List Int} {c : Cfg} (ht : taskP g grads c) {x : Itm} {z : Cd} (hip : itmP g c x) (hz : partI g grads c x = some z) : ∃ f b, Parted g c x z f b := by
 obtain ⟨f, b, hf, hb, hze, h1, h2⟩ := candL_mem (bestL_mem (partI_some hz).2).1
 have hzf : z.f = f := by rw [hze]; rfl
 have hzb : z.b = b := by rw [hze]; rfl
 obtain ⟨_, _, g3, hbl, _⟩ := grid_at ht.1 hf
 obtain ⟨s1, s2⟩ := split_lr (bins := binsF g f) (rows := x.rows) (b : Int) (fun r hr => by rw [hbl]; exact hip.1.mem r hr)
 have q1 : (kidL g c x z).rows = leftR (binsF g f) x.rows b := by unfold kidL; dsimp only; rw [hzf, hzb, Int.toNat_natCast]; exact s1
 have q2 : (kidR g c x z).rows = rightR (binsF g f) x.rows b := by unfold kidR; dsimp only; rw [hzf, hzb, Int.toNat_natCast]; exact s2
 rw [hze] at h1 h2
 exact ⟨f, b, ⟨hf, hb, hzf, hzb, q1, q2, h1, h2⟩⟩
def okWay (g : Grd) (t : List Nd) (j : Nat) (x : Itm) : Prop := ∀ (f b : Nat) (cv : Int) (n : Nd), f < g.cuts.length → (cutsF g f)[b]? = some cv → n.f = f → n.c = cv → (∃ r ∈ x.rows, binAt (binsF g f) r ≤ b) → (∃ r ∈ x.rows, (b : Int) < binAt (binsF g f) r) → wayBad t n (wayL t j) = false
theorem grown_way {g : Grd} {grads : List Int} {c : Cfg} (ht : taskP g grads c) {j : Nat} {x : Itm} (hx : (quL g grads c)[j]? = some x) : okWay g (growL g grads c) j x := by
 obtain ⟨hsh, hn1, hn31⟩ := grown_shape ht
 refine (items_qu ht (fun j x => (∃ w, wayL (growL g grads c) j = w ++ [(j : Int)]) ∧ okWay g (growL g grads c) j x) ?_ ?_ hx).2
 ·refine ⟨⟨[], way_root hsh hn1⟩, fun f b cv n _ _ _ _ _ _ => ?_⟩
  rw [show ((0 : Nat) : Int) = 0 from rfl, way_root hsh hn1]
  rfl
 ·intro j L x z ⟨⟨w, hw⟩, hok⟩ hip hz hj hjL hL
  obtain ⟨f0, b0, hP⟩ := parted ht hip hz
  have hzf := hP.zf
  have hzb := hP.zb
  have hnf : (innerI g z L).f ≠ -1 := by show z.f ≠ -1; rw [hzf]; omega
  have w1 := way_kid hsh hn31 hj hnf (x := (L : Int)) (.inl rfl) (by omega) (by omega)
  have w2 := way_kid hsh hn31 hj hnf (x := ((L + 1 : Nat) : Int)) (.inr rfl) (by omega) (by omega)
  rw [hw, List.append_assoc, List.singleton_append] at w1 w2
  obtain ⟨_, _, g3, hbl, _⟩ := grid_at ht.1 hP.hf
  obtain ⟨cv0, hcv0⟩ := get_lt hP.hb
  have hcut : cutAt g z.f z.b = cv0 := by unfold cutAt; rw [hzf, hzb, Int.toNat_natCast, Int.toNat_natCast, hcv0]; rfl
  refine ⟨⟨⟨w ++ [(j : Int)], by rw [w1]; simp⟩, fun f b cv n hf hcv hnf' hnc ⟨r1, m1, d1⟩ ⟨r2, m2, d2⟩ => ?_⟩, ⟨⟨w ++ [(j : Int)], by rw [w2]; simp⟩, fun f b cv n hf hcv hnf' hnc ⟨r1, m1, d1⟩ ⟨r2, m2, d2⟩ => ?_⟩⟩
  ·rw [hP.q1, leftR, List.mem_filter] at m1 m2
   rw [w1, wayBad_snoc, ← hw, hok f b cv n hf hcv hnf' hnc ⟨r1, m1.1, d1⟩ ⟨r2, m2.1, d2⟩, Bool.false_or]
   refine badP_f hj fun q => ⟨.inl ?_, .inr ?_⟩
   ·show ((L + 1 : Nat) : Int) ≠ (L : Int); omega
   ·have q' : z.f = n.f := q
    obtain rfl : f0 = f := by omega
    have e2 := of_decide_eq_true m2.2
    show n.c < cutAt g z.f z.b
    rw [hcut, hnc]
    exact rise_of g3.1 hcv hcv0 (by omega)
  ·rw [hP.q2, rightR, List.mem_filter] at m1 m2
   rw [w2, wayBad_snoc, ← hw, hok f b cv n hf hcv hnf' hnc ⟨r1, m1.1, d1⟩ ⟨r2, m2.1, d2⟩, Bool.false_or]
   refine badP_f hj fun q => ⟨.inr ?_, .inl ?_⟩
   ·have q' : z.f = n.f := q
    obtain rfl : f0 = f := by omega
    have e1 := of_decide_eq_true m1.2
    show cutAt g z.f z.b < n.c
    rw [hcut, hnc]
    exact rise_of g3.1 hcv0 hcv (by omega)
   ·show (L : Int) ≠ ((L + 1 : Nat) : Int); omega
theorem shape_stop {ft : Int} : ∀ {l : List Nd} {i next m : Int}, shapeL ft l i next = some m → next ≤ i → m = next
 | [], i, next, m, h, _ => by simp [shapeL] at h; omega
 | x :: r, i, next, m, h, hi => by
  simp only [shapeL] at h
  split at h
  ·split at h
   ·cases h
   ·exact shape_stop h (by omega)
  ·split at h
   ·cases h
   ·rename_i hq
    have hq : innerBad x ft i next = false := by simpa using hq
    simp only [innerBad, Bool.or_eq_false_iff, decide_eq_false_iff_not] at hq
    omega
theorem cfg_rows {c : Cfg} (h : cfgP c) : 1 ≤ c.rows := by have := (cfg_five c).1 h.1; omega
theorem cfg_depth {c : Cfg} (h : cfgP c) : 0 ≤ c.depth ∧ c.depth ≤ 4 := by have := (cfg_five c).1 h.1; omega
theorem grown_many {g : Grd} {grads : List Int} {c : Cfg} (ht : taskP g grads c) {j : Nat} {x : Itm} (hx : (quL g grads c)[j]? = some x) (h1 : 1 < (growL g grads c).length) : c.rows ≤ (x.rows.length : Int) := by
 have key : j = 0 ∨ c.rows ≤ (x.rows.length : Int) := by
  refine items_qu ht (fun j x => j = 0 ∨ c.rows ≤ (x.rows.length : Int)) (.inl rfl) ?_ hx
  intro j L x z _ hip hz _ _ _
  obtain ⟨f, b, hP⟩ := parted ht hip hz
  exact ⟨.inr (by rw [hP.q1]; exact hP.n1), .inr (by rw [hP.q2]; exact hP.n2)⟩
 rcases key with rfl | h
 ·obtain ⟨_, hn⟩ := grow_node ht
  obtain ⟨y, hy, hip, hc⟩ := hn 0 (by omega)
  rw [hx] at hy
  cases hy
  rcases hc with ⟨_, hl⟩ | ⟨z, hz, _⟩
  ·exfalso
   have hsh := (grown_shape ht).1
   have hs : shapeL g.cuts.length (growL g grads c) 0 1 = some ((growL g grads c).length : Int) := by simpa [shapeOk] using hsh
   cases hg : growL g grads c with
   | nil => rw [hg] at hl; simp at hl
   | cons n r =>
    rw [hg] at hl hs h1
    simp at hl
    subst hl
    simp only [shapeL] at hs
    rw [if_pos (show (leafI grads c x).f = -1 from rfl)] at hs
    split at hs
    ·cases hs
    ·have := shape_stop hs (by omega)
     omega
  ·obtain ⟨f, b, hP⟩ := parted ht hip hz
   have h2 := hP.n1
   have h3 : (leftR (binsF g f) x.rows b).length ≤ x.rows.length := List.length_filter_le _ _
   omega
 ·exact h
theorem grown_some {g : Grd} {grads : List Int} {c : Cfg} (ht : taskP g grads c) {j : Nat} {x : Itm} (hx : (quL g grads c)[j]? = some x) : 1 ≤ x.rows.length := by
 have hr := cfg_rows ht.2.1
 refine items_qu ht (fun j x => 1 ≤ x.rows.length) ?_ ?_ hx
 ·have hgl : grads.length = rowsIn g := ht.2.2.1
  obtain ⟨h1, h2⟩ := ht.1.2.2.1
  show 1 ≤ (allRowsL (grads.length : Int)).length
  rw [allRowsL, if_pos (by omega), upTo_len]
  omega
 ·intro j L x z _ hip hz _ _ _
  obtain ⟨f, b, hP⟩ := parted ht hip hz
  have h1 := hP.n1
  have h2 := hP.n2
  exact ⟨by rw [hP.q1]; omega, by rw [hP.q2]; omega⟩
theorem grown_ok {g : Grd} {grads : List Int} {c : Cfg} (ht : taskP g grads c) : treeOk (growL g grads c) g.cuts.length = true := by
 obtain ⟨hsh, hn1, hn31⟩ := grown_shape ht
 have hd := cfg_depth ht.2.1
 have hr := cfg_rows ht.2.1
 have hcl := ht.1.1
 rw [← treeOk_same]
 unfold treeOkI
 rw [decide_eq_true (show 1 ≤ ((growL g grads c).length : Int) ∧ ((growL g grads c).length : Int) ≤ 31 by omega), decide_eq_true (show (0 : Int) ≤ (g.cuts.length : Int) ∧ (g.cuts.length : Int) ≤ 4 by omega), hsh, Bool.true_and, Bool.true_and, Bool.true_and]
 cases hq : implBads (growL g grads c) (growL g grads c) 0 with
 | false => rfl
 | true =>
  exfalso
  obtain ⟨j, n, hn, hbad⟩ := (implBads_iff _ _ 0).1 hq
  rw [Nat.zero_add] at hbad
  obtain ⟨_, hnode⟩ := grow_node ht
  obtain ⟨x, hx, hip, hc⟩ := hnode j (List.getElem?_eq_some_iff.1 hn).1
  rcases hc with ⟨_, hl⟩ | ⟨z, hz, hl, _⟩
  ·rw [hn] at hl
   cases hl
   obtain ⟨w, hw, _, hlev⟩ := grown_rows ht hx
   unfold implBad at hbad
   rw [if_pos (show (leafI grads c x).f = -1 from rfl)] at hbad
   have hb2 := of_decide_eq_true hbad
   rw [hw] at hb2
   have := hip.2.2.2
   simp at hb2
   omega
  ·rw [hn] at hl
   cases hl
   obtain ⟨f, b, hP⟩ := parted ht hip hz
   have hzf := hP.zf
   have hzb := hP.zb
   obtain ⟨cv, hcv⟩ := get_lt hP.hb
   have hcut : cutAt g z.f z.b = cv := by unfold cutAt; rw [hzf, hzb, Int.toNat_natCast, Int.toNat_natCast, hcv]; rfl
   have hnf : ¬ (innerI g z (growK g grads c j).1.length).f = -1 := by show ¬ z.f = -1; rw [hzf]; omega
   unfold implBad at hbad
   rw [if_neg hnf] at hbad
   have h1 := hP.n1
   have h2 := hP.n2
   obtain ⟨r1, m1⟩ := List.exists_mem_of_length_pos (show 0 < (leftR (binsF g f) x.rows b).length by omega)
   obtain ⟨r2, m2⟩ := List.exists_mem_of_length_pos (show 0 < (rightR (binsF g f) x.rows b).length by omega)
   rw [leftR, List.mem_filter] at m1
   rw [rightR, List.mem_filter] at m2
   rw [grown_way ht hx f b cv _ hP.hf hcv hzf hcut ⟨r1, m1.1, of_decide_eq_true m1.2⟩ ⟨r2, m2.1, of_decide_eq_true m2.2⟩] at hbad
   cases hbad
end Go.H.S
namespace Go.H.S
open Go Go.Proofs Go.H
theorem grown_bestAt {g : Grd} {grads : List Int} {c : Cfg} (ht : taskP g grads c) {k : Nat} (hk : k < (growL g grads c).length) : bestAt g grads c (growL g grads c) k = true := by
 obtain ⟨_, hnode⟩ := grow_node ht
 obtain ⟨x, hx, hip, hc⟩ := hnode k hk
 obtain ⟨w, hw, hr, hlev⟩ := grown_rows ht hx
 have hb := grown_bound ht hx
 have hsm := grown_some ht hx
 have hR := nodeRowsR_yes (g := g) (t := growL g grads c) (node := (k : Int)) ⟨gridOk_t ht.1, grown_ok ht, by omega, by omega⟩
 have hbk : (boundAt g grads c (growL g grads c) k).2 = true := by
  rw [boundAt_yes ⟨taskOk_t ht, by rw [hR, hr]; intro h; rw [h] at hsm; simp at hsm⟩]
 have hlv : levelL (growL g grads c) k = x.lev := by rw [level_len, hw]; simp; omega
 have hga : growAt g grads c (growL g grads c) k = partI g grads c x := by unfold growAt partI; rw [hlv, hr, hb]
 unfold bestAt
 rw [hbk, Int.toNat_natCast]
 rcases hc with ⟨hz, hl⟩ | ⟨z, hz, hl, _⟩
 ·rw [hl]
  show bestAtN g grads c (growL g grads c) k (leafI grads c x) = true
  unfold bestAtN
  rw [hga, hz]
  dsimp only
  rw [hr, hb]
  simp [leafI]
 ·rw [hl]
  show bestAtN g grads c (growL g grads c) k (innerI g z _) = true
  unfold bestAtN
  rw [hga, hz]
  simp [innerI]
theorem grown_best {g : Grd} {grads : List Int} {c : Cfg} (ht : taskP g grads c) : allBest g grads c (growL g grads c) = true :=
 allBest_yes (grown_ok ht) fun k hk => grown_bestAt ht hk
theorem way_last {t : List Nd} {ft : Int} (h : shapeOk t ft = true) (hl : t.length ≤ 31) {j : Nat} (hj : j < t.length) : ∃ w, wayL t j = w ++ [(j : Int)] := by
 obtain ⟨l, hs, _⟩ := steps_anc h 31 j (by omega)
 have h2 := hs
 rw [steps, Option.map_eq_some_iff] at h2
 obtain ⟨r, _, rfl⟩ := h2
 exact ⟨r.reverse, by unfold wayL; rw [if_pos (by omega), hs]; simp⟩
theorem rows_kid {g : Grd} {t : List Nd} {ft : Int} (h : shapeOk t ft = true) (hl : t.length ≤ 31) {j : Nat} {n : Nd} (hj : t[j]? = some n) (hf : n.f ≠ -1) {x : Int} (hx : n.l = x ∨ n.r = x) : nodeRowsL g t x = nrStep g t (nodeRowsL g t j) j x := by
 have hk := shape_kids h hj hf
 have hjl := (List.getElem?_eq_some_iff.1 hj).1
 obtain ⟨w, hw⟩ := way_last h hl hjl
 unfold nodeRowsL
 rw [way_kid h hl hj hf hx (by omega) (by omega), hw, List.append_assoc, List.singleton_append, nrWay_snoc]
theorem bound_kid {g : Grd} {grads : List Int} {c : Cfg} {t : List Nd} {ft : Int} (h : shapeOk t ft = true) (hl : t.length ≤ 31) {j : Nat} {n : Nd} (hj : t[j]? = some n) (hf : n.f ≠ -1) {x : Int} (hx : n.l = x ∨ n.r = x) : boundL g grads c t x = bStep g grads c t (boundL g grads c t j) j x := by
 have hk := shape_kids h hj hf
 have hjl := (List.getElem?_eq_some_iff.1 hj).1
 obtain ⟨w, hw⟩ := way_last h hl hjl
 unfold boundL
 rw [way_kid h hl hj hf hx (by omega) (by omega), hw, List.append_assoc, List.singleton_append, bWay_snoc]
structure SameN (g : Grd) (grads : List Int) (c : Cfg) (t t' : List Nd) (x : Nat) : Prop where
 rows : nodeRowsL g t x = nodeRowsL g t' x
 bd : boundL g grads c t x = boundL g grads c t' x
 lev : levelL t x = levelL t' x
theorem up_same {t t' : List Nd} {ft : Int} (h : shapeOk t ft = true) (h' : shapeOk t' ft = true) {k : Nat} (hag : ∀ j, j < k → t[j]? = t'[j]?) {x : Nat} (hx : x ≤ k) (hu : 0 ≤ up t x) : up t' x = up t x := by
 obtain ⟨j, n, h1, h2, h3, h4, h5⟩ := up_at h hu
 rw [h1]
 exact up_kid h' (by rw [← hag j (by omega)]; exact h2) h3 h4
theorem root_at {g : Grd} {grads : List Int} {c : Cfg} {t : List Nd} {x : Nat} (hx : x < t.length) (hu : up t x < 0) : nodeRowsL g t x = allRowsL (rowsIn g) ∧ boundL g grads c t x = freeB ∧ levelL t x = 0 := by
 have hs : steps t 32 x = some [(x : Int)] := by rw [steps, if_pos hu]; rfl
 have hw : wayL t x = [(x : Int)] := by unfold wayL; rw [if_pos (by omega), hs]; rfl
 refine ⟨by unfold nodeRowsL; rw [hw]; rfl, by unfold boundL; rw [hw]; rfl, ?_⟩
 rw [level_way hx hs]
 rfl
theorem same_at {g : Grd} {grads : List Int} {c : Cfg} {t t' : List Nd} {ft : Int} (h : shapeOk t ft = true) (h' : shapeOk t' ft = true) (hl : t.length ≤ 31) (hl' : t'.length ≤ 31) {k : Nat} (hag : ∀ j, j < k → t[j]? = t'[j]?) : ∀ x : Nat, x ≤ k → x < t.length → x < t'.length → SameN g grads c t t' x := by
 intro x
 induction x using Nat.strongRecOn with
 | _ x ih =>
  intro hx h1 h2
  rcases Int.lt_or_le (up t x) 0 with q | q
  ·have q' : up t' x < 0 := by
    rcases Int.lt_or_le (up t' x) 0 with q' | q'
    ·exact q'
    ·have := up_same h' h (fun j hj => (hag j hj).symm) hx q'
     omega
   obtain ⟨a1, a2, a3⟩ := root_at (g := g) (grads := grads) (c := c) h1 q
   obtain ⟨b1, b2, b3⟩ := root_at (g := g) (grads := grads) (c := c) h2 q'
   exact ⟨by rw [a1, b1], by rw [a2, b2], by rw [a3, b3]⟩
  ·have hu' := up_same h h' hag hx q
   obtain ⟨j, n, u1, u2, u3, u4, u5⟩ := up_at h q
   have hjk : j < k := by omega
   have u2' : t'[j]? = some n := by rw [← hag j hjk]; exact u2
   have hS := ih j (by omega) (by omega) (by omega) (by have := (List.getElem?_eq_some_iff.1 u2').1; omega)
   have stp : ∀ (r : List Int) (z : Int), nrStep g t r j z = nrStep g t' r j z := fun r z => by
    unfold nrStep
    rw [Int.toNat_natCast, u2, u2']
   have kid : ∀ z : Int, n.l = z ∨ n.r = z → nodeRowsL g t z = nodeRowsL g t' z := fun z hz => by
    rw [rows_kid h hl u2 u3 hz, rows_kid h' hl' u2' u3 hz, hS.rows, stp]
   refine ⟨kid x u4, ?_, ?_⟩
   ·rw [bound_kid h hl u2 u3 u4, bound_kid h' hl' u2' u3 u4, hS.bd]
    unfold bStep
    rw [Int.toNat_natCast, u2, u2']
    dsimp only
    have e : ∀ b, bSides g grads c t b n = bSides g grads c t' b n := fun b => by
     unfold bSides leafAt
     rw [kid n.l (.inl rfl), kid n.r (.inr rfl)]
    rw [e]
   ·rw [level_kid (j := j) (c := x) h hl (by omega) h1 u1, level_kid (j := j) (c := x) h' hl' (by omega) h2 (by omega), hS.lev]
theorem shapeL_app (ft : Int) : ∀ (a b : List Nd) (i next : Int), shapeL ft (a ++ b) i next = (shapeL ft a i next).bind fun m => shapeL ft b (i + a.length) m
 | [], b, i, next => by simp [shapeL]
 | x :: r, b, i, next => by
  simp only [List.cons_append, shapeL]
  split
  ·split
   ·rfl
   ·rw [shapeL_app ft r b (i + 1) next, show i + 1 + (r.length : Int) = i + ((x :: r).length : Nat) by simp; omega]
  ·split
   ·rfl
   ·rw [shapeL_app ft r b (i + 1) (next + 2), show i + 1 + (r.length : Int) = i + ((x :: r).length : Nat) by simp; omega]
theorem shape_mid {t : List Nd} {ft : Int} (h : shapeOk t ft = true) {k : Nat} {n : Nd} (hk : t[k]? = some n) : ∃ nx, shapeL ft (t.take k) 0 1 = some nx ∧ (n.f = -1 → leafBad n = false) ∧ (n.f ≠ -1 → innerBad n ft k nx = false) := by
 have hs : shapeL ft t 0 1 = some (t.length : Int) := by simpa [shapeOk] using h
 have hlt := (List.getElem?_eq_some_iff.1 hk).1
 have e : t = t.take k ++ n :: t.drop (k + 1) := by
  rw [← drop_at hk, List.take_append_drop]
 rw [e, shapeL_app] at hs
 have hlen : (t.take k).length = k := by rw [List.length_take]; omega
 cases hp : shapeL ft (t.take k) 0 1 with
 | none => rw [hp] at hs; cases hs
 | some nx =>
  rw [hp] at hs
  simp only [Option.bind_some, hlen, Int.zero_add, shapeL] at hs
  refine ⟨nx, rfl, fun hf => ?_, fun hf => ?_⟩
  ·rw [if_pos hf] at hs
   cases hb : leafBad n with
   | false => rfl
   | true => rw [hb] at hs; simp at hs
  ·rw [if_neg hf] at hs
   cases hb : innerBad n ft k nx with
   | false => rfl
   | true => rw [hb] at hs; simp at hs
theorem bestAt_n {g : Grd} {grads : List Int} {c : Cfg} {t : List Nd} {k : Nat} {n : Nd} (h : bestAt g grads c t k = true) (hn : t[k]? = some n) : bestAtN g grads c t k n = true := by
 unfold bestAt at h
 rw [Int.toNat_natCast, hn] at h
 cases hb : (boundAt g grads c t k).2 with
 | false => rw [hb] at h; cases h
 | true => rw [hb] at h; exact h
theorem allBest_at {g : Grd} {grads : List Int} {c : Cfg} {t : List Nd} (h : allBest g grads c t = true) : treeOk t g.cuts.length = true ∧ ∀ (k : Nat) (n : Nd), t[k]? = some n → bestAtN g grads c t k n = true := by
 unfold allBest at h
 rw [Bool.and_eq_true, List.all_eq_true] at h
 exact ⟨h.1, fun k n hn => bestAt_n (h.2 k (List.mem_range.2 (List.getElem?_eq_some_iff.1 hn).1)) hn⟩
theorem best_pre {g : Grd} {grads : List Int} {c : Cfg} {t t' : List Nd} (h : allBest g grads c t = true) (h' : allBest g grads c t' = true) : ∀ k, k ≤ t.length → k ≤ t'.length → ∀ j, j < k → t[j]? = t'[j]?
 | 0, _, _, j, hj => by omega
 | k + 1, h1, h2, j, hj => by
  have ih := best_pre h h' k (by omega) (by omega)
  rcases Nat.lt_or_ge j k with q | q
  ·exact ih j q
  ·obtain rfl : j = k := by omega
   obtain ⟨ho, hb⟩ := allBest_at h
   obtain ⟨ho', hb'⟩ := allBest_at h'
   obtain ⟨hs, hl1, hl⟩ := treeOk_shp ho
   obtain ⟨hs', hl1', hl'⟩ := treeOk_shp ho'
   obtain ⟨n, hn⟩ := get_lt (show j < t.length by omega)
   obtain ⟨n', hn'⟩ := get_lt (show j < t'.length by omega)
   have b1 := hb j n hn
   have b2 := hb' j n' hn'
   have hS := same_at (g := g) (grads := grads) (c := c) hs hs' hl hl' ih j (Nat.le_refl _) (by omega) (by omega)
   have hga : growAt g grads c t j = growAt g grads c t' j := by unfold growAt; rw [hS.rows, hS.bd, hS.lev]
   obtain ⟨nx, p1, p2, p3⟩ := shape_mid hs hn
   obtain ⟨nx', p1', p2', p3'⟩ := shape_mid hs' hn'
   have htk : t.take j = t'.take j := by
    apply List.ext_getElem?
    intro i
    rcases Nat.lt_or_ge i j with r | r
    ·rw [List.getElem?_take_of_lt r, List.getElem?_take_of_lt r]; exact ih i r
    ·rw [List.getElem?_eq_none (by rw [List.length_take]; omega), List.getElem?_eq_none (by rw [List.length_take]; omega)]
   rw [htk, p1'] at p1
   cases p1
   rw [hn, hn']
   unfold bestAtN at b1 b2
   rw [hga, hS.rows, hS.bd] at b1
   obtain ⟨f, c0, l, r, v⟩ := n
   obtain ⟨f', c0', l', r', v'⟩ := n'
   cases hz : growAt g grads c t' j with
   | some x =>
    rw [hz] at b1 b2
    simp only [Bool.and_eq_true, decide_eq_true_eq] at b1 b2
    have hxf : 0 ≤ x.f := by
     unfold growAt at hz
     split at hz
     ·obtain ⟨f, b, _, _, hze⟩ := partL_in hz
      rw [hze]
      show (0 : Int) ≤ (f : Int)
      omega
     ·cases hz
    have q3 := p3 (by show f ≠ -1; omega)
    have q3' := p3' (by show f' ≠ -1; omega)
    simp only [innerBad, Bool.or_eq_false_iff, decide_eq_false_iff_not] at q3 q3'
    congr 2 <;> omega
   | none =>
    rw [hz] at b1 b2
    simp only [Bool.and_eq_true, decide_eq_true_eq] at b1 b2
    have q2 := p2 b1.1
    have q2' := p2' b2.1
    simp only [leafBad, Bool.or_eq_false_iff, decide_eq_false_iff_not, ne_eq, Nd.mk.injEq, Bool.not_eq_false'] at q2 q2'
    have e1 := Classical.not_not.1 q2.1
    have e2 := Classical.not_not.1 q2'.1
    congr 2 <;> omega
theorem best_le {g : Grd} {grads : List Int} {c : Cfg} {t t' : List Nd} (h : allBest g grads c t = true) (h' : allBest g grads c t' = true) (hle : t.length ≤ t'.length) : t = t' := by
 have hp := best_pre h h' t.length (Nat.le_refl _) hle
 obtain ⟨ho, _⟩ := allBest_at h
 obtain ⟨ho', _⟩ := allBest_at h'
 have hs : shapeL g.cuts.length t 0 1 = some (t.length : Int) := by simpa [shapeOk] using (treeOk_shp ho).1
 have hs' : shapeL g.cuts.length t' 0 1 = some (t'.length : Int) := by simpa [shapeOk] using (treeOk_shp ho').1
 have e : t' = t ++ t'.drop t.length := by
  have : t'.take t.length = t := by
   apply List.ext_getElem?
   intro i
   rcases Nat.lt_or_ge i t.length with r | r
   ·rw [List.getElem?_take_of_lt r]; exact (hp i r).symm
   ·rw [List.getElem?_eq_none (by rw [List.length_take]; omega), List.getElem?_eq_none r]
  conv => lhs; rw [← List.take_append_drop t.length t', this]
 rw [e, shapeL_app, hs] at hs'
 simp only [Option.bind_some, Int.zero_add] at hs'
 have hst := shape_stop hs' (Int.le_refl _)
 have hd : (t'.drop t.length).length = 0 := by
  rw [← e] at hst
  rw [List.length_drop]
  omega
 rw [e, List.eq_nil_of_length_eq_zero hd, List.append_nil]
theorem best_only {g : Grd} {grads : List Int} {c : Cfg} (ht : taskP g grads c) {t : List Nd} (h : allBest g grads c t = true) : t = growL g grads c := by
 rcases Nat.le_total t.length (growL g grads c).length with q | q
 ·exact best_le h (grown_best ht) q
 ·exact (best_le (grown_best ht) h q).symm
end Go.H.S
namespace Go.H.S
open Go Go.Proofs Go.H
attribute [local irreducible] Tri FnSpec FnSpecM FnSpecX FnSpecJ FnSpecB
theorem impl_DepthOf_spec (t : List Nd) (hl : t.length ≤ 1048576) : FnSpec PR f_impl_DepthOf [aT t] (ai (depthK t t.length)) [] 0 := by
 have e0 : nInt (dLen (eL cN t)) = (t.length : Int) := by simp
 refine FnSpec.intro hT (pf Tryz.func38) rfl (by kernel_rfl) Tryz.ntmps38 rfl ?_
 conv => whnf
 refine tri_rp 0 ?_
 conv => whnf
 rw [e0]
 refine tri_loop hT [1, 3, 7, 8] (α := Nat) (fun k => { t := [(1, rpT t), (3, ai (depthK t k)), (7, ai t.length), (8, ai k)], h := [], n := 0, N := 18 })
  (fun k => k ≤ t.length) (fun k => t.length - k) 0 (by ((conv => whnf); simp only [eS]); exact ⟨rfl, rfl⟩) (Nat.zero_le _) ?_
 intro k hk
 conv => whnf
 refine ifB_i (fun h1 => ?_) (fun h1 => ?_) <;> (conv => whnf) <;> simp only [eH] at h1
 ·refine .inl ⟨_, _, _, impl_LevelOf_spec t k (by omega), rfl, ?_⟩
  rw [← level_len]
  conv => whnf
  refine ⟨k + 1, by omega, by omega, ?_⟩
  ((conv => whnf); simp only [eS, wI (show k < t.length by omega) (by omega)])
  rw [show depthK t (k + 1) = max (depthK t k) (levelL t k) from rfl]
  first | rfl | (unfold iMax; rfl) | (unfold iMax; first | omega | (split <;> omega))
 ·obtain rfl : k = t.length := by omega
  first | done | rfl
end Go.H.S
namespace Go.H.S
open Go Go.Proofs Go.H
attribute [local irreducible] Tri FnSpec FnSpecM
theorem eq_drop {α : Type} [DecidableEq α] {a b : List α} {k : Nat} {x y : α} (hx : a[k]? = some x) (hy : b[k]? = some y) : decide (a.drop k = b.drop k) = (decide (x = y) && decide (a.drop (k + 1) = b.drop (k + 1))) := by
 rw [drop_at hx, drop_at hy, Bool.eq_iff_iff]
 simp
theorem eq_len {α : Type} [DecidableEq α] {a b : List α} (h : a.length ≠ b.length) : decide (a = b) = false := by
 rw [decide_eq_false_iff_not]
 intro e; rw [e] at h; exact h rfl
theorem eqNd_b (x y : Nd) : bAnd (iEq x.f y.f) (bAnd (iEq x.c y.c) (bAnd (iEq x.l y.l) (bAnd (iEq x.r y.r) (bAnd (iEq x.v y.v) true)))) = decide (x = y) := by
 rw [Bool.eq_iff_iff]
 cases x; cases y
 simp
theorem h0_len {a b : Nat} (h : (a : Int) = b) : a = b := by omega
theorem spec_SameTree_spec (a b : List Nd) (ha : a.length ≤ 9223372036854775807) : FnSpec PR f_spec_SameTree [aT a, aT b] (ab (decide (a = b))) [] 0 := by
 refine FnSpec.intro hT (pf Tryz.func33) rfl (by kernel_rfl) Tryz.ntmps33 rfl ?_
 conv => whnf
 refine ifB_i (fun h0 => ?_) (fun h0 => ?_) <;> (conv => whnf) <;> simp only [eH] at h0
 ·rw [eq_len (by omega)]
 refine tri_loop hT [2, 3, 5] (α := Nat) (fun x => { t := [(2, .c (.ptr 0 0)), (3, .c (.ptr 1 0)), (5, ai x)], h := [(0, .box t_impl_Tree (cTr a)), (1, .box t_impl_Tree (cTr b))], n := 2, N := 31 })
  (fun x => x ≤ a.length ∧ decide (a.drop x = b.drop x) = decide (a = b)) (fun x => a.length - x) 0 (by ((conv => whnf); simp only [eS])) ⟨Nat.zero_le _, rfl⟩ ?_
 intro k ⟨hk, hi⟩
 conv => whnf
 refine ifB_i (fun h1 => ?_) (fun h1 => ?_) <;> (conv => whnf) <;> simp at h1
 ·obtain ⟨s, hs⟩ := get_lt h1
  obtain ⟨u, hu⟩ := get_lt (l := b) (k := k) (by omega)
  rw [eq_drop hs hu] at hi
  have ht := eqNd_b s u
  refine tri_conf hT hmix (by kernel_rfl) ?_
  conv => whnf
  refine idx_at (by simp) hs ?_
  conv => whnf
  refine idx_at (by simp) hu ?_
  conv => whnf
  refine ifB_i (fun h2 => ?_) (fun h2 => ?_) <;> (conv => whnf)
  ·have h3 : decide (s = u) = false := by rw [← ht]; exact (bNot_t _).mp h2
   rw [h3] at hi
   simp only [Bool.false_and] at hi
   rw [← hi]
  ·have h3 : decide (s = u) = true := by rw [← ht]; exact (bNot_f _).mp h2
   rw [h3] at hi
   refine ⟨k + 1, by omega, ⟨h1, by rw [← hi, Bool.true_and]⟩, ?_⟩
   ((conv => whnf); simp only [eS, wI h1 ha])
 ·obtain rfl : k = a.length := by omega
  have : decide (a.drop a.length = b.drop a.length) = true := by simp [List.drop_of_length_le (show b.length ≤ a.length by omega)]
  rw [this] at hi
  rw [← hi]
end Go.H.S
namespace Go.H.S
open Go Go.Proofs Go.H
def IsSpan (S : Int → Prop) (a : Int × Int × Bool) : Prop :=
 (a.2.2 = true → S a.1 ∧ S a.2.1 ∧ ∀ v, S v → a.1 ≤ v ∧ v ≤ a.2.1) ∧ (a.2.2 = false → ∀ v, ¬ S v)
theorem IsSpan.congr {S S' : Int → Prop} {a : Int × Int × Bool} (h : IsSpan S a) (he : ∀ v, S v ↔ S' v) : IsSpan S' a := by
 have : S = S' := funext fun v => propext (he v)
 rw [← this]; exact h
theorem span_fold (t : List Nd) (node : Int) : ∀ (l : List Int) (S : Int → Prop) (a : Int × Int × Bool), IsSpan S a → IsSpan (fun v => S v ∨ ∃ y ∈ l, node ∈ wayL t y ∧ vAt t y = v) (l.foldl (spanStep t node) a)
 | [], S, a, h => h.congr fun v => by simp
 | y :: r, S, a, h => by
  rw [List.foldl_cons]
  have h1 : IsSpan (fun v => S v ∨ (node ∈ wayL t y ∧ vAt t y = v)) (spanStep t node a y) := by
   obtain ⟨lo, hi, ok⟩ := a
   unfold spanStep
   by_cases hy : node ∈ wayL t y
   ·rw [if_pos hy]
    cases ok with
    | false =>
     refine ⟨fun _ => ⟨.inr ⟨hy, rfl⟩, .inr ⟨hy, rfl⟩, fun v hv => ?_⟩, fun q => by cases q⟩
     rcases hv with hv | ⟨_, rfl⟩
     ·exact absurd hv (h.2 rfl v)
     ·exact ⟨Int.le_refl _, Int.le_refl _⟩
    | true =>
     obtain ⟨q1, q2, q3⟩ := h.1 rfl
     have key : ∀ m : Int, (m = lo ∨ m = hi ∨ m = vAt t y) → S m ∨ (node ∈ wayL t y ∧ vAt t y = m) := fun m hm => by
      rcases hm with rfl | rfl | rfl
      ·exact .inl q1
      ·exact .inl q2
      ·exact .inr ⟨hy, rfl⟩
     refine ⟨fun _ => ⟨key _ (by simp only [if_true]; omega), key _ (by simp only [if_true]; omega), fun v hv => ?_⟩, fun q => by cases q⟩
     simp only [if_true]
     rcases hv with hv | ⟨_, rfl⟩
     ·have := q3 v hv; simp only at this; omega
     ·omega
   ·rw [if_neg hy]
    exact h.congr fun v => by simp [hy]
  refine (span_fold t node r _ _ h1).congr fun v => ?_
  simp only [List.mem_cons]
  constructor
  ·rintro ((h | h) | ⟨z, hz, h⟩)
   ·exact .inl h
   ·exact .inr ⟨y, .inl rfl, h⟩
   ·exact .inr ⟨z, .inr hz, h⟩
  ·rintro (h | ⟨z, rfl | hz, h⟩)
   ·exact .inl (.inl h)
   ·exact .inl (.inr h)
   ·exact .inr ⟨z, hz, h⟩
theorem spanL_spec (t : List Nd) (node : Int) : IsSpan (fun v => ∃ y ∈ leavesK t 0, node ∈ wayL t y ∧ vAt t y = v) (spanL t node) :=
 (span_fold t node (leavesK t 0) (fun _ => False) (0, 0, false) ⟨fun h => (by cases h), fun _ _ h => h⟩).congr fun v => by simp
theorem leaf_mem : ∀ (t : List Nd) (k : Nat) (y : Int), y ∈ leavesK t k ↔ ∃ (j : Nat) (n : Nd), y = (k : Int) + j ∧ t[j]? = some n ∧ n.f = -1
 | [], k, y => by simp [leavesK]
 | x :: r, k, y => by
  have ih := leaf_mem r (k + 1) y
  have hstep : (∃ (j : Nat) (n : Nd), y = (k : Int) + j ∧ (x :: r)[j]? = some n ∧ n.f = -1) ↔ (y = k ∧ x.f = -1) ∨ ∃ (j : Nat) (n : Nd), y = ((k + 1 : Nat) : Int) + j ∧ r[j]? = some n ∧ n.f = -1 := by
   constructor
   ·rintro ⟨j, n, h1, h2, h3⟩
    cases j with
    | zero => simp at h2; subst h2; exact .inl ⟨by omega, h3⟩
    | succ j => rw [List.getElem?_cons_succ] at h2; exact .inr ⟨j, n, by omega, h2, h3⟩
   ·rintro (⟨h1, h2⟩ | ⟨j, n, h1, h2, h3⟩)
    ·exact ⟨0, x, by omega, by simp, h2⟩
    ·exact ⟨j + 1, n, by omega, by rw [List.getElem?_cons_succ]; exact h2, h3⟩
  rw [hstep, ← ih]
  simp only [leavesK]
  split
  ·rename_i hf; simp [hf]
  ·rename_i hf; simp [hf]
def Under (t : List Nd) (x v : Int) : Prop := ∃ (j : Nat) (n : Nd), t[j]? = some n ∧ n.f = -1 ∧ Anc t x j ∧ n.v = v
theorem span_under {t : List Nd} {ft : Int} (h : shapeOk t ft = true) (hl : t.length ≤ 31) (x : Int) : IsSpan (Under t x) (spanL t x) := by
 refine (spanL_spec t x).congr fun v => ?_
 constructor
 ·rintro ⟨y, hy, hw, rfl⟩
  obtain ⟨j, n, h1, h2, h3⟩ := (leaf_mem t 0 y).1 hy
  obtain rfl : y = j := by omega
  have hj : j < t.length := (List.getElem?_eq_some_iff.1 h2).1
  exact ⟨j, n, h2, h3, (way_anc h hl ⟨by omega, by omega⟩ x).1 hw, by simp [vAt, h2]⟩
 ·rintro ⟨j, n, h2, h3, ha, rfl⟩
  have hj : j < t.length := (List.getElem?_eq_some_iff.1 h2).1
  exact ⟨j, (leaf_mem t 0 j).2 ⟨j, n, by omega, h2, h3⟩, (way_anc h hl ⟨by omega, by omega⟩ x).2 ha, by simp [vAt, h2]⟩
theorem under_kids {t : List Nd} {ft : Int} (h : shapeOk t ft = true) {j : Nat} {n : Nd} (hj : t[j]? = some n) (hf : n.f ≠ -1) (v : Int) : Under t j v ↔ Under t n.l v ∨ Under t n.r v := by
 constructor
 ·rintro ⟨i, m, h1, h2, h3, h4⟩
  have hne : (i : Int) ≠ j := fun e => by
   have : i = j := by omega
   subst this
   rw [hj] at h1; cases h1
   exact hf h2
  rcases (anc_kid h hj hf hne).1 h3 with q | q
  ·exact .inl ⟨i, m, h1, h2, q, h4⟩
  ·exact .inr ⟨i, m, h1, h2, q, h4⟩
 ·rintro (⟨i, m, h1, h2, h3, h4⟩ | ⟨i, m, h1, h2, h3, h4⟩) <;> refine ⟨i, m, h1, h2, (anc_kid h hj hf (fun e => ?_)).2 (by first | exact .inl h3 | exact .inr h3), h4⟩
  all_goals
   have : i = j := by omega
   subst this
   rw [hj] at h1; cases h1
   exact hf h2
theorem under_leaf {t : List Nd} {ft : Int} (h : shapeOk t ft = true) {j : Nat} {n : Nd} (hj : t[j]? = some n) (hf : n.f = -1) (v : Int) : Under t j v ↔ v = n.v := by
 constructor
 ·rintro ⟨i, m, h1, h2, h3, h4⟩
  rcases anc_below h3 with e | ⟨c, q1, q2, _⟩
  ·obtain rfl : j = i := by omega
   rw [hj] at h1; cases h1
   exact h4.symm
  ·obtain ⟨j', n', r1, r2, r3, _, _⟩ := up_at h q1
   obtain rfl : j' = j := by omega
   rw [hj] at r2; cases r2
   exact absurd hf r3
 ·rintro rfl
  exact ⟨j, n, hj, hf, .refl _, rfl⟩
theorem under_some {t : List Nd} {ft : Int} (h : shapeOk t ft = true) : ∀ (d j : Nat), j < t.length → t.length - j ≤ d → ∃ v, Under t j v
 | 0, j, h1, h2 => by omega
 | d + 1, j, h1, h2 => by
  obtain ⟨n, hj⟩ : ∃ n, t[j]? = some n := ⟨t[j], List.getElem?_eq_getElem h1⟩
  by_cases hf : n.f = -1
  ·exact ⟨n.v, (under_leaf h hj hf _).2 rfl⟩
  ·have hk := shape_kids h hj hf
   obtain ⟨v, hv⟩ := under_some h d n.l.toNat (by omega) (by omega)
   rw [show ((n.l.toNat : Nat) : Int) = n.l by omega] at hv
   exact ⟨v, (under_kids h hj hf v).2 (.inl hv)⟩
theorem span_law {t : List Nd} {ft : Int} (h : shapeOk t ft = true) (hl : t.length ≤ 31) {j : Nat} {n : Nd} (hj : t[j]? = some n) (hf : n.f ≠ -1) :
  (spanL t j).1 = min (spanL t n.l).1 (spanL t n.r).1 ∧ (spanL t j).2.1 = max (spanL t n.l).2.1 (spanL t n.r).2.1 := by
 have hk := shape_kids h hj hf
 have hj' : j < t.length := (List.getElem?_eq_some_iff.1 hj).1
 have some' : ∀ x : Int, 0 ≤ x → x < t.length → (spanL t x).2.2 = true := fun x h0 h1 => by
  cases hb : (spanL t x).2.2 with
  | true => rfl
  | false =>
   obtain ⟨v, hv⟩ := under_some h (t.length - x.toNat) x.toNat (by omega) (Nat.le_refl _)
   rw [show ((x.toNat : Nat) : Int) = x by omega] at hv
   exact absurd hv ((span_under h hl x).2 hb v)
 obtain ⟨a1, a2, a3⟩ := (span_under h hl j).1 (some' j (by omega) (by omega))
 obtain ⟨b1, b2, b3⟩ := (span_under h hl n.l).1 (some' n.l (by omega) (by omega))
 obtain ⟨c1, c2, c3⟩ := (span_under h hl n.r).1 (some' n.r (by omega) (by omega))
 have e := under_kids h hj hf
 have k1 := a3 _ ((e _).2 (.inl b1))
 have k2 := a3 _ ((e _).2 (.inl b2))
 have k3 := a3 _ ((e _).2 (.inr c1))
 have k4 := a3 _ ((e _).2 (.inr c2))
 constructor
 ·rcases (e _).1 a1 with q | q
  ·have := b3 _ q; omega
  ·have := c3 _ q; omega
 ·rcases (e _).1 a2 with q | q
  ·have := b3 _ q; omega
  ·have := c3 _ q; omega
theorem span_leaf {t : List Nd} {ft : Int} (h : shapeOk t ft = true) (hl : t.length ≤ 31) {j : Nat} {n : Nd} (hj : t[j]? = some n) (hf : n.f = -1) : spanL t j = (n.v, n.v, true) := by
 have hs := span_under h hl j
 have e := under_leaf h hj hf
 cases hb : (spanL t j).2.2 with
 | false => exact absurd ((e _).2 rfl) (hs.2 hb n.v)
 | true =>
  obtain ⟨a1, a2, _⟩ := hs.1 hb
  have := (e _).1 a1
  have := (e _).1 a2
  refine Prod.ext ?_ (Prod.ext ?_ ?_) <;> simp_all
end Go.H.S
namespace Go.H.S
open Go Go.Proofs Go.H
end Go.H.S
namespace Go.H.S
open Go Go.Proofs Go.H
attribute [local irreducible] Tri FnSpec FnSpecM FnSpecX FnSpecJ FnSpecB
end Go.H.S
namespace Go.H.S
open Go Go.Proofs Go.H
attribute [local irreducible] Tri FnSpec FnSpecM FnSpecX FnSpecJ FnSpecB
theorem laws_big_spec (code : List Int) : FnSpec PR f_laws_big [.c (.d (.sl 1 (eL cU code)))] (ab (iLt 1048576 code.length)) [] 0 := by
 refine FnSpec.intro hT (pf Tryz.func29) rfl (by kernel_rfl) Tryz.ntmps29 rfl ?_
 conv => whnf
 rw [show nInt (dLen (eL cU code)) = (code.length : Int) by simp]
end Go.H.S
