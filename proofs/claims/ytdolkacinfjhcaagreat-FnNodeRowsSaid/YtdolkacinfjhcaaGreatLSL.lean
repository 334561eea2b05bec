/- Library, part SF: training (the reference's). -/
import Derived.Test.YtdolkacinfjhcaaGreatLSG
import Derived.Test.YtdolkacinfjhcaaGreatLPL
import Derived.Test.YtdolkacinfjhcaaGreatLNC
import Derived.Test.YtdolkacinfjhcaaGreatLPR
import Derived.Test.YtdolkacinfjhcaaGreatLPE
import Derived.Test.YtdolkacinfjhcaaGreatLNH
set_option maxRecDepth 100000
set_option linter.unusedSimpArgs false
set_option linter.unusedVariables false
namespace Go.H.S
open Go Go.Proofs Go.H
attribute [local irreducible] Tri z6 zV zU zj zX
abbrev rpSt (ps : List Int) (ts : List (List Nd)) : AV := .c (.d (.rp [.sl 1 (eL cI ps), .sl 1 (eL cT ts)]))
abbrev zEa (x : Mdl × Bool) : AV := .tup [(true, cM x.1), (false, [.d (.bool x.2)])]
def zCY : Mdl := ⟨[], [], 0, []⟩
def z7c (t : Tbl) (c : Cfg) (ts : List (List Nd)) : Mdl := ⟨t.names, c.signs, z4y t.ys, ts⟩
def z8M (t : Tbl) (c : Cfg) (ts : List (List Nd)) : Mdl × Bool := if yI (z7c t c ts) = true then (z7c t c ts, true) else (zCY, false)
def z0D (t : Tbl) (c : Cfg) : List Int × List (List Nd) := yM t c (yG t c.bins.toNat) c.rounds.toNat
noncomputable def z61 (t : Tbl) (c : Cfg) : Mdl × Bool := if y8 t = true ∧ z0v c = true then z8M t c (z0D t c).2 else (zCY, false)
theorem z3O {c : Cfg} (hc : cfgP c) : (c.bins = (c.bins.toNat : Int) ∧ 2 ≤ c.bins.toNat ∧ c.bins.toNat ≤ 8) ∧ c.rounds = (c.rounds.toNat : Int) ∧ 1 ≤ c.rounds.toNat ∧ c.rounds.toNat ≤ 8 := by
 have := (wS c).1 hc.1
 omega
theorem z4U {t : Tbl} {c : Cfg} {b : Nat} (hv : tabV t) (hb : 2 ≤ b ∧ b ≤ 8) (hc : cfgP c) {k : Nat} (hk : k ≤ 8) : ∀ x ∈ (yM t c (yG t b) k).2, x.length ≤ 31 := by
 intro x hx
 obtain ⟨i, hi⟩ := List.getElem?_of_mem hx
 have hik : i < k := by have := (List.getElem?_eq_some_iff.1 hi).1; rw [yu] at this; exact this
 obtain rfl := Option.some.inj ((z9f t c _ k i hik).symm.trans hi)
 simp only [shrT, List.length_map]
 exact (z0i (z9T hv hb hc (k := i) (by omega))).2.2
set_option maxHeartbeats 4000000 in
theorem zCs (t : Tbl) (c : Cfg) (hz : szT t) (hcl : c.signs.length ≤ 1048576) (h : ¬ (y8 t = true ∧ z0v c = true)) : z6 PR z4E [aTb t, aCf c] (z1a [] [] false) [] 0 := by
 refine z6.intro hT (pf Tryz.func142) rfl (by kernel_rfl) Tryz.ntmps142 rfl ?_
 conv => whnf
 cases ht : y8 t with
 | false =>
  refine .inl ⟨_, _, _, z8d t hz ht, rfl, ?_⟩
  conv => whnf
  simp only [z1a, cSt, zg]
  first | done | rfl
 | true =>
  have hc : z0v c = false := by cases q : z0v c with | true => exact absurd ⟨ht, q⟩ h | false => rfl
  refine .inl ⟨_, _, _, z27 t hz ht, rfl, ?_⟩
  conv => whnf
  refine .inl ⟨_, _, _, ya c hcl, rfl, ?_⟩
  rw [hc]
  conv => whnf
  simp only [z1a, cSt, zg]
  first | done | rfl
set_option maxHeartbeats 4000000 in
theorem zCr (t : Tbl) (c : Cfg) (g : Grd) (P : Nat → List Int) (T : Nat → List (List Nd)) (n : Nat) (hc : z0v c = true) (hcl : c.signs.length ≤ 1048576) (hn : c.rounds = n) (hn8 : n ≤ 8) (hgrid : z6 PR z3H [aTb t, ai c.bins] (aG g) [] 0) (hnew : z6 PR z1r [aTb t] (z1a (P 0) (T 0) true) [] 0)
  (hround : ∀ k, k < n → z6 PR z57 [aTb t, aG g, aCf c, aSt (P k) (T k)] (z1a (P (k + 1)) (T (k + 1)) true) [] 0) : z6 PR z4E [aTb t, aCf c] (z1a (P n) (T n) true) [] 0 := by
 refine z6.intro hT (pf Tryz.func142) rfl (by kernel_rfl) Tryz.ntmps142 rfl ?_
 conv => whnf
 refine .inl ⟨_, _, _, hnew, rfl, ?_⟩
 conv => whnf
 refine .inl ⟨_, _, _, ya c hcl, rfl, ?_⟩
 rw [hc]
 conv => whnf
 refine .inl ⟨_, _, _, hgrid, rfl, ?_⟩
 conv => whnf
 refine zZ 0 ?_
 conv => whnf
 refine zZ 1 ?_
 conv => whnf
 refine zZ 4 ?_
 conv => whnf
 refine zB hT [2, 3, 4, 6, 8, 9] (α := Nat) (fun k => { t := [(2, rpTb t), (3, rpCf c), (4, .c (.ptr 0 0)), (6, .c (.ptr 1 0)), (8, rpG g), (9, ai k)], h := [(0, .box zk [.nl 1, .nl 1]), (1, .box zk (cSt (P k) (T k)))], n := 2, N := 48 })
  (fun k => k ≤ n) (fun k => n - k) 0 (by (conv => whnf); first | done | rfl) (Nat.zero_le _) ?_
 intro k hk
 conv => whnf
 refine zK (fun q => ?_) (fun q => ?_) <;> (conv => whnf) <;> simp [iLt, hn] at q
 ·refine .inl ⟨_, _, _, hround k q, rfl, ?_⟩
  conv => whnf
  refine ⟨k + 1, by omega, by omega, ?_⟩
  ((conv => whnf); simp only [eS, wI (show k < n by omega) (by omega)])
  first | done | rfl | exact ⟨rfl, rfl⟩
 ·obtain rfl : k = n := by omega
  first | done | rfl
theorem zBD (t : Tbl) (c : Cfg) (hz : szT t) (ht : y8 t = true) (hco : z0v c = true) : z6 PR z4E [aTb t, aCf c] (z1a (z0D t c).1 (z0D t c).2 true) [] 0 := by
 have hv := wG ht
 have hc := z0u.1 hco
 obtain ⟨⟨hb, hbb⟩, hn, hn1, hn8⟩ := z3O hc
 have hgrid := z33 t c.bins.toNat hbb ht hz.n hz.ns hz.tg hz.r hz.c hz.y
 rw [← hb] at hgrid
 refine zCr t c (yG t c.bins.toNat) (fun k => (yM t c (yG t c.bins.toNat) k).1) (fun k => (yM t c (yG t c.bins.toNat) k).2) c.rounds.toNat hco (by have := hc.2.2.2.2; omega) hn hn8 hgrid (z27 t hz ht) fun k hk => ?_
 have htk := z9T hv hbb hc (k := k) (by omega)
 exact z7L t c.bins.toNat c _ _ (wl (yG t c.bins.toNat) (resL t.ys (yM t c (yG t c.bins.toNat) k).1) c) hz ht hc hb hbb (zDF hv hbb.2) (z2Y hv.yl k) (fun p hp => by have := z9e hv hbb hc (k := k) (by omega) p hp; omega)
  (by rw [yu]; omega) (fun x hx => by have := z4U hv hbb hc (k := k) (by omega) x hx; omega) htk (zFC htk) (zAH htk) rfl (fun r => by have := zEs htk r; omega)
set_option maxHeartbeats 4000000 in
theorem z5W (t : Tbl) (c : Cfg) (ps : List Int) (ts : List (List Nd)) (hz : szT t) (ht : y8 t = true) (hc : z0v c = true) (hcl : c.signs.length ≤ 1048576) (hts : ts.length ≤ 1000) (htl : ∀ x ∈ ts, x.length ≤ 1000) :
  z6 PR z9H [aTb t, aCf c, aSt ps ts] (zEa (z8M t c ts)) [] 0 := by
 have hv := wG ht
 have hzn := hz.n
 have hok := z7M (z7c t c ts) hz.n hz.ns hcl (by show ts.length ≤ _; omega) (fun x hx => by have := htl x hx; omega)
 unfold z8M
 unfold z7c at hok ⊢
 refine z6.intro hT (pf Tryz.func143) rfl (by kernel_rfl) Tryz.ntmps143 rfl ?_
 conv => whnf
 refine .inl ⟨_, _, _, w5 t hz.n hz.ns hz.tg hz.r hz.c hz.y, rfl, ?_⟩
 rw [ht]
 conv => whnf
 refine .inl ⟨_, _, _, ya c hcl, rfl, ?_⟩
 rw [hc]
 conv => whnf
 refine .inl ⟨_, _, _, z3S t.ys (by have := hv.yl; have := hv.r1; omega) (by have := hv.yl; have := hv.r40; omega) hv.yv, rfl, ?_⟩
 conv => whnf
 refine zZ 0 ?_
 conv => whnf
 refine zZ 1 ?_
 conv => whnf
 refine zZ 2 ?_
 conv => whnf
 refine zO hT hmix [6, 10] { t := [(6, .c (.ptr 0 0)), (10, .c (.ptr 1 0))], h := [(0, .box ye [.nl 1, .nl 1, .d (.int .i64 0), .nl 1]), (1, .box ye [.ref 2 0 none, .ref 3 0 none, .d (.int .i64 (z4y t.ys)), .ref 4 0 none]), (2, .arr yE 1 0 .own (eL cS t.names)), (3, .arr zW 1 0 .own (eL cI c.signs)), (4, .arr zL 1 0 .own (eL cT ts))], n := 5, N := 44 } rfl ?_ ?_
 ·repeat' first
   | (refine zR rfl ?_; (conv => whnf))
   | (refine zQ rfl ?_ ?_ <;> (conv => whnf))
   | (refine zC rfl ?_ ?_ ?_ <;> (conv => whnf))
   | (refine zo rfl ?_ ?_ ?_ ?_ <;> (conv => whnf))
   | (refine .inl ⟨_, _, _, z3s ts (by omega) (fun x hx => by have := htl x hx; omega), rfl, ?_⟩; (conv => whnf))
   | (refine And.intro (by simp [zF, zS]; first | done | omega) ?_; (conv => whnf))
   | (refine zP rfl ?_; (conv => whnf); simp only [wE, z7]; first | done | rfl)
 conv => whnf
 refine .inl ⟨_, _, _, hok, rfl, ?_⟩
 cases hq : yI { names := t.names, signs := c.signs, base := z4y t.ys, trees := ts } with
 | true =>
  conv => whnf
  rw [if_pos rfl]
  first | done | rfl
 | false =>
  conv => whnf
  rw [if_neg (by decide)]
  simp only [zCY, zEa, cM, zg]
  first | done | rfl
set_option maxHeartbeats 4000000 in
theorem z4k (t : Tbl) (c : Cfg) (hz : szT t) (hcl : c.signs.length ≤ 1048576) : z6 PR z7v [aTb t, aCf c] (zEa (z61 t c)) [] 0 := by
 by_cases h : y8 t = true ∧ z0v c = true
 ·unfold z61
  rw [if_pos h]
  have hv := wG h.1
  have hc := z0u.1 h.2
  obtain ⟨⟨hb, hbb⟩, hn, hn1, hn8⟩ := z3O hc
  have hbst := zBD t c hz h.1 h.2
  have hmf := z5W t c (z0D t c).1 (z0D t c).2 hz h.1 h.2 hcl (by unfold z0D; rw [yu]; omega) (fun x hx => by have := z4U hv hbb hc hn8 x hx; omega)
  generalize z8M t c (z0D t c).2 = r at *
  generalize z0D t c = x at *
  refine z6.intro hT (pf Tryz.func55) rfl (by kernel_rfl) Tryz.ntmps55 rfl ?_
  conv => whnf
  refine .inl ⟨_, _, _, hbst, rfl, ?_⟩
  conv => whnf
  refine .inl ⟨_, _, _, hmf, rfl, ?_⟩
  conv => whnf
  first | done | rfl
 ·unfold z61
  rw [if_neg h]
  have hbst := zCs t c hz hcl h
  refine z6.intro hT (pf Tryz.func55) rfl (by kernel_rfl) Tryz.ntmps55 rfl ?_
  conv => whnf
  refine .inl ⟨_, _, _, hbst, rfl, ?_⟩
  conv => whnf
  simp only [zCY, zEa, cM, zg]
  first | done | rfl
end Go.H.S
namespace Go.H.S
open Go Go.Proofs Go.H
attribute [local irreducible] Tri z6 zV zU zj zX
def z4M (x : Int) : Bool := bNot (decide (-2147483647 ≤ x ∧ x ≤ 2147483647))
def z3y (n : Nat) (r : List Int) : Bool := if decide (r.length = n) then r.any z4M else true
def zGc (t : Tbl) : Bool := !(decide (1 ≤ (t.names.length : Int) ∧ (t.names.length : Int) ≤ 4) && (yH (t.names ++ [t.target]) (t.names ++ [t.target]) 0 && (decide (1 ≤ (t.rows.length : Int) ∧ (t.rows.length : Int) ≤ 40) && (decide (t.ys.length = t.rows.length) && !t.ys.any z4M))))
theorem zJD (x : Int) : z4M x = !z1y x := by
 unfold z4M z1y
 cases decide (-2147483647 ≤ x ∧ x ≤ 2147483647) <;> rfl
theorem zJp (l : List Int) : l.any z4M = !l.all z1y := by
 induction l with
 | nil => rfl
 | cons x r ih => rw [List.any_cons, List.all_cons, ih, zJD, Bool.not_and]
theorem zIN (n : Nat) (r : List Int) : z3y n r = !(decide (r.length = n) && r.all z1y) := by
 unfold z3y
 rw [zJp]
 cases decide (r.length = n) <;> simp
theorem zA2 (x : ByteArray) (all : List ByteArray) : ∀ (l : List ByteArray) (k : Nat), k + l.length ≤ all.length → yH (all ++ [x]) (l ++ [x]) k = (yH all l k && (wo x && !hasS x ((all ++ [x]).take (k + l.length))))
 | [], k, _ => by simp [yH]
 | s :: r, k, h => by
  simp only [List.length_cons] at h
  simp only [List.cons_append, yH]
  rw [zA2 x all r (k + 1) (by omega), List.take_append_of_le_length (by omega), List.length_cons, show k + 1 + r.length = k + (r.length + 1) by omega]
  simp only [Bool.and_assoc]
theorem zD2 (t : Tbl) : yH (t.names ++ [t.target]) (t.names ++ [t.target]) 0 = (yH t.names t.names 0 && (wo t.target && !hasS t.target t.names)) := by
 rw [zA2 t.target t.names t.names 0 (by omega), Nat.zero_add, List.take_left]
theorem z9s (n : Nat) (ys : List Int) : ∀ (rows : List (List Int)) (k : Nat), k + rows.length = ys.length → z15 n ys rows k = ((ys.drop k).all z1y && !rows.any (z3y n))
 | [], k, h => by
  simp only [z15, List.any_nil, Bool.not_false, Bool.and_true]
  rw [List.drop_eq_nil_of_le (by simp at h; omega)]
  rfl
 | r :: rest, k, h => by
  simp only [List.length_cons] at h
  simp only [z15]
  obtain ⟨y, hy⟩ := zH (show k < ys.length by omega)
  rw [z9s n ys rest (k + 1) (by omega), hy, zy hy, List.all_cons, List.any_cons, zIN, Option.getD_some]
  cases decide (r.length = n) <;> cases z1y y <;> cases r.all z1y <;> cases (ys.drop (k + 1)).all z1y <;> cases rest.any (z3y n) <;> rfl
theorem zEe (t : Tbl) : y8 t = (!zGc t && !t.rows.any (z3y t.names.length)) := by
 unfold y8 zGc
 rw [zD2, zJp]
 by_cases h : t.ys.length = t.rows.length
 ·rw [z9s t.names.length t.ys t.rows 0 (by omega), List.drop_zero]
  cases decide (1 ≤ (t.names.length : Int) ∧ (t.names.length : Int) ≤ 4) <;> cases wo t.target <;> cases hasS t.target t.names <;> cases decide (1 ≤ (t.rows.length : Int) ∧ (t.rows.length : Int) ≤ 40) <;> cases decide (t.ys.length = t.rows.length) <;> cases yH t.names t.names 0 <;> cases t.ys.all z1y <;> cases t.rows.any (z3y t.names.length) <;> rfl
 ·rw [decide_eq_false h]
  cases decide (1 ≤ (t.names.length : Int) ∧ (t.names.length : Int) ≤ 4) <;> cases wo t.target <;> cases hasS t.target t.names <;> cases decide (1 ≤ (t.rows.length : Int) ∧ (t.rows.length : Int) ≤ 40) <;> cases yH t.names t.names 0 <;> cases t.ys.all z1y <;> cases t.rows.any (z3y t.names.length) <;> rfl
theorem z5g (t : Tbl) (r : List Int) (hr : r.length ≤ 1048576) : z6 PR z3d [aIs r, rpTb t] (ab (z3y t.names.length r)) [] 0 := by
 have eR : nInt (dLen (eL cI r)) = (r.length : Int) := by simp
 have eN : nInt (dLen (eL cS t.names)) = (t.names.length : Int) := by simp
 have eD : z3y t.names.length r = if decide (r.length = t.names.length) then r.any z4M else true := rfl
 rw [eD]
 refine z6.intro hT (pf Tryz.func254) rfl (by kernel_rfl) Tryz.ntmps254 rfl ?_
 conv => whnf
 rw [eR, eN]
 by_cases h : r.length = t.names.length
 ·rw [show iEq (r.length : Int) (t.names.length : Int) = true from decide_eq_true (by omega), decide_eq_true h, if_pos rfl]
  conv => whnf
  refine .inl ⟨_, _, _, wZ r hr, rfl, ?_⟩
  conv => whnf
  rw [show (r.any fun x => bNot (decide (-2147483647 ≤ x ∧ x ≤ 2147483647))) = r.any z4M from rfl]
  cases r.any z4M <;> (conv => whnf) <;> rfl
 ·rw [show iEq (r.length : Int) (t.names.length : Int) = false from decide_eq_false (by omega), decide_eq_false h, if_neg (by decide)]
  conv => whnf
set_option maxHeartbeats 4000000 in
theorem wA (t : Tbl) (hz : szT t) : z6 PR zBo [aTb t] (ab (y8 t)) [] 0 := by
 have eR : nInt (dLen (eL cIs t.rows)) = (t.rows.length : Int) := by simp
 have eN : nInt (dLen (eL cS t.names)) = (t.names.length : Int) := by simp
 have eY : nInt (dLen (eL cI t.ys)) = (t.ys.length : Int) := by simp
 have hz1 := hz.n
 have hzr := hz.r
 have hzy := hz.y
 have hcl := z4O t.names (by omega)
 have hnm : (decide (1 ≤ (t.names.length : Int) ∧ (t.names.length : Int) ≤ 4)) = true → z6 PR z4H [aSs (t.names ++ [t.target])] (ab (yH (t.names ++ [t.target]) (t.names ++ [t.target]) 0)) [] 0 := fun h => z2F (t.names ++ [t.target]) (by simp at h; simp; omega) (fun s hs => by
  rcases List.mem_append.1 hs with h | h
  ·exact hz.ns s h
  ·simp at h; subst h; exact hz.tg)
 have hdc := wZ t.ys hzy
 rw [show (t.ys.any fun x => bNot (decide (-2147483647 ≤ x ∧ x ≤ 2147483647))) = t.ys.any z4M from rfl] at hdc
 have hcf := z0U t.rows z3d (.rp [.sl 1 (eL cS t.names), .str t.target, .sl 1 (eL cIs t.rows), .sl 1 (eL cI t.ys)]) (z3y t.names.length) (fun r hr => z5g t r (hz.c r hr)) (by omega)
 have hq : zGc t = !(decide (1 ≤ (t.names.length : Int) ∧ (t.names.length : Int) ≤ 4) && (yH (t.names ++ [t.target]) (t.names ++ [t.target]) 0 && (decide (1 ≤ (t.rows.length : Int) ∧ (t.rows.length : Int) ≤ 40) && (decide (t.ys.length = t.rows.length) && !t.ys.any z4M)))) := rfl
 rw [zEe]
 have hlen : iEq (nInt (dLen (eL cI t.ys))) (nInt (dLen (eL cIs t.rows))) = decide (t.ys.length = t.rows.length) := by rw [eY, eR]; unfold iEq; rw [decide_eq_decide]; omega
 generalize t.rows.any (z3y t.names.length) = q9 at *
 generalize t.ys.any z4M = b5 at *
 generalize yH (t.names ++ [t.target]) (t.names ++ [t.target]) 0 = b2 at *
 generalize hb1 : decide (1 ≤ (t.names.length : Int) ∧ (t.names.length : Int) ≤ 4) = b1 at *
 generalize hb3 : decide (1 ≤ (t.rows.length : Int) ∧ (t.rows.length : Int) ≤ 40) = b3 at *
 generalize decide (t.ys.length = t.rows.length) = b4 at *
 generalize zGc t = bad at *
 have hn5 : b1 = true → t.names.length + 1 ≤ 1048576 := fun h => by rw [← hb1] at h; simp at h; omega
 have hcases : (b1 = false ∧ bad = true) ∨ (b1 = true ∧ b2 = false ∧ bad = true) ∨ (b1 = true ∧ b2 = true ∧ b3 = false ∧ bad = true) ∨ (b1 = true ∧ b2 = true ∧ b3 = true ∧ b4 = false ∧ bad = true) ∨ (b1 = true ∧ b2 = true ∧ b3 = true ∧ b4 = true ∧ bad = b5) := by
  subst hq
  clear hnm hdc hlen hcf hcl hb1 hb3 hn5
  cases b1 <;> cases b2 <;> cases b3 <;> cases b4 <;> cases b5 <;> decide
 refine z6.intro hT (pf Tryz.func154) rfl (by kernel_rfl) Tryz.ntmps154 rfl ?_
 conv => whnf
 refine zZ 0 ?_
 conv => whnf
 refine zO hT hmix [1, 40] { t := [(1, rpTb t), (40, ab bad)], h := [], n := 0, N := 46 } rfl ?_ ?_
 ·rcases hcases with ⟨h1, hb⟩ | ⟨h1, h2, hb⟩ | ⟨h1, h2, h3, hb⟩ | ⟨h1, h2, h3, h4, hb⟩ | ⟨h1, h2, h3, h4, hb⟩ <;>
  repeat' first
   | (refine zR rfl ?_; (conv => whnf))
   | (refine zQ rfl ?_ ?_ <;> (conv => whnf))
   | (refine zC rfl ?_ ?_ ?_ <;> (conv => whnf))
   | (refine zo rfl ?_ ?_ ?_ ?_ <;> (conv => whnf))
   | (rw [hlen, h4]; (conv => whnf))
   | (rw [eN]; refine .inl ⟨_, _, _, zG _ _ _, rfl, ?_⟩; rw [hb1, h1]; (conv => whnf))
   | (rw [eR]; refine .inl ⟨_, _, _, zG _ _ _, rfl, ?_⟩; rw [hb3, h3]; (conv => whnf))
   | (refine .inl ⟨_, _, _, hcl, rfl, ?_⟩; (conv => whnf))
   | (refine And.intro (by have := hn5 h1; simp [z7, zF, zS]; omega) ?_; (conv => whnf); simp only [z7]; rw [show dApp (eL cS t.names) [[D.str t.target]] = eL cS (t.names ++ [t.target]) from zY cS _ _])
   | (refine .inl ⟨_, _, _, hnm h1, rfl, ?_⟩; rw [h2]; (conv => whnf))
   | (refine .inl ⟨_, _, _, hdc, rfl, ?_⟩; (conv => whnf))
   | (refine zP rfl ?_; (conv => whnf); rw [hb]; first | done | rfl | (cases b5 <;> rfl))
 ·conv => whnf
  cases bad with
  | true => (conv => whnf); first | done | rfl
  | false =>
   conv => whnf
   refine .inl ⟨_, _, _, hcf, rfl, ?_⟩
   conv => whnf
   cases q9 <;> first | done | rfl
end Go.H.S
namespace Go.H.S
open Go Go.Proofs Go.H
theorem zKA (c : Cfg) (t : List Nd) : (shrT c t).length = t.length := by simp [shrT]
theorem zLJ {c : Cfg} {t : List Nd} {j : Nat} {n : Nd} (h : t[j]? = some n) : (shrT c t)[j]? = some (shrN c n) := by simp [shrT, h]
end Go.H.S
namespace Go.H.S
open Go Go.Proofs Go.H
attribute [local irreducible] Tri z6 zV zU zj zX
theorem z44 (x y : List Int) (hx : x.length ≤ 1048576) : z6 PR z2K [aIs x, aIs y] (ab (decide (x = y))) [] 0 := by
 refine z6.intro hT (pf Tryz.func308) rfl (by kernel_rfl) Tryz.ntmps308 rfl ?_
 conv => whnf
 refine .inl ⟨_, _, _, z20 x y (by omega), rfl, ?_⟩
 conv => whnf
theorem z21 (a b : List (List Int)) (g : FuncId) (hg : ∀ x ∈ a, ∀ y, z6 PR g [aIs x, aIs y] (ab (decide (x = y))) [] 0) (ha : a.length ≤ 9223372036854775807) :
  z6 PR wU [aIss a, aIss b, .c (.d (.fn g []))] (ab (decide (a = b))) [] 0 := by
 refine z6.intro hT (pf Tryz.func307) rfl (by kernel_rfl) Tryz.ntmps307 rfl ?_
 conv => whnf
 refine zK (fun h0 => ?_) (fun h0 => ?_) <;> (conv => whnf) <;> simp only [eH] at h0
 ·rw [zJ8 (by omega)]
 refine zB hT [1, 2, 15, 16, 17] (α := Nat) (fun x => { t := [(1, aIss b), (2, .c (.d (.fn g []))), (15, aIss a), (16, ai a.length), (17, ai x)], h := [], n := 0, N := 32 })
  (fun x => x ≤ a.length ∧ decide (a.drop x = b.drop x) = decide (a = b)) (fun x => a.length - x) 0 (by ((conv => whnf); simp only [eS])) ⟨Nat.zero_le _, rfl⟩ ?_
 intro k ⟨hk, hi⟩
 conv => whnf
 refine zK (fun h1 => ?_) (fun h1 => ?_) <;> (conv => whnf) <;> simp at h1
 ·obtain ⟨s, hs⟩ := zH h1
  obtain ⟨u, hu⟩ := zH (l := b) (k := k) (by omega)
  rw [zGB hs hu] at hi
  refine zE (by simp) hs ?_
  conv => whnf
  refine zE (by simp) hu ?_
  conv => whnf
  refine .inl ⟨_, _, _, hg s (List.mem_of_getElem? hs) u, rfl, ?_⟩
  generalize decide (s = u) = c at hi ⊢
  cases c <;> (conv => whnf)
  ·simp only [Bool.false_and] at hi
   rw [← hi]
  ·refine ⟨k + 1, by omega, ⟨h1, by rw [← hi, Bool.true_and]⟩, ?_⟩
   ((conv => whnf); simp only [eS, wI h1 ha])
 ·obtain rfl : k = a.length := by omega
  have : decide (a.drop a.length = b.drop a.length) = true := by simp [List.drop_of_length_le (show b.length ≤ a.length by omega)]
  rw [this] at hi
  rw [← hi]
theorem z1m (a : List (List Int)) (hl : a.length ≤ 1048576) (hr : ∀ r ∈ a, r.length ≤ 1048576) : z6 PR z9I [aIss a, aIss a] (ab true) [] 0 := by
 refine z6.intro hT (pf Tryz.func266) rfl (by kernel_rfl) Tryz.ntmps266 rfl ?_
 conv => whnf
 refine .inl ⟨_, _, _, z21 a a z2K (fun x hx y => z44 x y (hr x hx)) (by omega), rfl, ?_⟩
 rw [show decide (a = a) = true from decide_eq_true rfl]
 conv => whnf
theorem z6d (g : Grd) (hg : smG g) : z6 PR zAg [aG g, aG g] (ab true) [] 0 := by
 refine z6.intro hT (pf Tryz.func174) rfl (by kernel_rfl) Tryz.ntmps174 rfl ?_
 conv => whnf
 refine .inl ⟨_, _, _, z1m g.cuts hg.1 hg.2.2.1, rfl, ?_⟩
 conv => whnf
 refine .inl ⟨_, _, _, z1m g.bins hg.2.1 hg.2.2.2, rfl, ?_⟩
 conv => whnf
 first | done | rfl
set_option maxHeartbeats 4000000 in
theorem z6j (t : Tbl) (b : Nat) (hb : 2 ≤ b ∧ b ≤ 8) (ht : y8 t = true) (hz : szT t) : z6 PR z1S [aTb t, ai b] (aG (yG t b)) [] 0 := by
 obtain ⟨hn4, hr40, hyl⟩ := z9g ht
 have hr := hz.r
 have hc := hz.c
 show z6 PR z1S [aTb t, ai b] (aG ⟨z0P t b t.names.length, z0R t b t.names.length⟩) [] 0
 refine z6.intro hTn (pf Tryz.func175) rfl (by kernel_rfl) Tryz.ntmps175 rfl ?_
 conv => whnf
 refine .inl ⟨_, _, _, wA t hz, rfl, ?_⟩
 rw [ht]
 conv => whnf
 refine .inl ⟨_, _, _, zG _ _ _, rfl, ?_⟩
 rw [show decide ((2 : Int) ≤ (b : Int) ∧ (b : Int) ≤ 8) = true from decide_eq_true (by omega)]
 conv => whnf
 refine zZ 0 ?_
 conv => whnf
 refine zC6 2 0 z0Z 1 [zW] ?_
 conv => whnf
 refine zC6 2 1 z0Z 1 [zW] ?_
 conv => whnf
 refine zB hTn [1, 2, 4, 5, 24, 25] (α := Nat) (fun f => { t := [(1, ai b), (2, rpTb t), (4, .c (.ptr 0 0)), (5, .c (.ptr 1 0)), (24, ai t.names.length), (25, ai f)], h := [(0, .box yi [.nl 1, .nl 1]), (1, .box yi [.ref 2 0 none, .ref 3 0 none]), (2, z0V (z0P t b f)), (3, z0V (z0R t b f))], n := 4, N := 62 })
  (fun f => f ≤ t.names.length) (fun f => t.names.length - f) 0 (by (conv => whnf); simp only [z0V, z0P, z0R, List.range_zero, List.map_nil, zg]; first | done | rfl | (rw [show nInt (dLen (eL cS t.names)) = (t.names.length : Int) by simp]; rfl)) (Nat.zero_le _) ?_
 intro f hf
 conv => whnf
 refine zK (fun h1 => ?_) (fun h1 => ?_) <;> (conv => whnf) <;> simp at h1
 ·refine .inl ⟨_, _, _, z94 t f h1 (by omega) hr hc, rfl, ?_⟩
  conv => whnf
  have hcl := zAv t f
  refine .inr (.inl ⟨_, _, _, z93 (y0 t f) b hb (by omega), rfl, ⟨z0j _, trivial⟩, ?_⟩)
  rw [show z5r (y0 t f) b = z1t t b f from rfl]
  conv => whnf
  have hkl := zAs t (f := f) hb.2
  refine zB hTn [1, 2, 4, 5, 6, 8, 9, 24, 25, 35, 36, 37] (α := Nat) (fun j => { t := [(1, ai b), (2, rpTb t), (4, .c (.ptr 0 0)), (5, .c (.ptr 1 0)), (6, ai f), (8, .c (.ref 4 0 none)), (9, .c (.ref 5 0 none)), (24, ai t.names.length), (25, ai f), (35, aIs (y0 t f)), (36, ai (y0 t f).length), (37, ai j)], h := [(0, .box yi [.nl 1, .nl 1]), (1, .box yi [.ref 2 0 none, .ref 3 0 none]), (2, z0V (z0P t b f)), (3, z0V (z0R t b f)), (4, .arr zW 1 0 .own (eL cI (((y0 t f).take j).map fun v => ((y7 (z1t t b f) v : Nat) : Int)))), (5, .arr zW 1 0 .own (eL cI (z1t t b f)))], n := 6, N := 62 })
   (fun j => j ≤ (y0 t f).length) (fun j => (y0 t f).length - j) 0 (by (conv => whnf); simp only [List.take_zero, List.map_nil, zg, z7]; first | done | rfl | (rw [show nInt (z0W (eL cI (y0 t f)) none) = ((y0 t f).length : Int) by simp [z0W]]; rfl)) (Nat.zero_le _) ?_
  intro j hj
  conv => whnf
  refine zK (fun h2 => ?_) (fun h2 => ?_) <;> (conv => whnf) <;> simp [iLt] at h2
  ·obtain ⟨v, hv⟩ := zH (show j < (y0 t f).length by omega)
   refine zE (by simp) hv ?_
   conv => whnf
   refine .inr (.inl ⟨_, _, _, z48 (z1t t b f) v (by omega), rfl, trivial, ?_⟩)
   conv => whnf
   refine And.intro (by simp [zF, zS]; omega) ?_
   conv => whnf
   refine ⟨j + 1, by omega, by omega, ?_⟩
   ((conv => whnf); simp only [eS, wI (show j < (y0 t f).length by omega) (by omega)])
   rw [List.take_add_one, hv, List.map_append, Option.toList_some, List.map_cons, List.map_nil, ← zY]
   first | exact ⟨rfl, rfl⟩ | rfl
  ·obtain rfl : j = (y0 t f).length := by omega
   rw [List.take_length, show ((y0 t f).map fun v => ((y7 (z1t t b f) v : Nat) : Int)) = z9Q t b f from rfl]
   refine zO hTn hmix [1, 2, 4, 5, 24, 25] { t := [(1, ai b), (2, rpTb t), (4, .c (.ptr 0 0)), (5, .c (.ptr 1 0)), (24, ai t.names.length), (25, ai f)], h := [(0, .box yi [.nl 1, .nl 1]), (1, .box yi [.ref 2 0 none, .ref 3 0 none]), (2, z0V (z0P t b (f + 1))), (3, z0V (z0R t b (f + 1)))], n := 4, N := 62 } rfl ?_ ?_
   ·repeat' first
     | (refine zR rfl ?_; (conv => whnf))
     | (refine zQ rfl ?_ ?_ <;> (conv => whnf))
     | (refine zC rfl ?_ ?_ ?_ <;> (conv => whnf))
     | (refine zo rfl ?_ ?_ ?_ ?_ <;> (conv => whnf))
     | (refine z78 rfl ?_ ?_ ?_ ?_ ?_ <;> (conv => whnf))
     | (refine zHL rfl ?_ ?_ ?_ ?_ ?_ ?_ <;> (conv => whnf))
     | (refine ⟨z0j _, ?_⟩; (conv => whnf))
     | (refine And.intro (by simp [zF, zS, z2w, z4i]; omega) ?_; (conv => whnf))
     | (refine zP rfl ?_; (conv => whnf); rw [show dApp (eL cIs (z0P t b f)) [[D.sl 1 (eL cI (z1t t b f))]] = eL cIs (z0P t b (f + 1)) from by rw [zAr]; exact zY cIs _ _, show dApp (eL cIs (z0R t b f)) [[D.sl 1 (eL cI (z9Q t b f))]] = eL cIs (z0R t b (f + 1)) from by rw [zB4]; exact zY cIs _ _]; first | done | rfl | exact ⟨rfl, rfl⟩)
   conv => whnf
   refine ⟨f + 1, by omega, by omega, ?_⟩
   ((conv => whnf); simp only [eS, wI h1 (by omega)])
   first | done | rfl
 ·obtain rfl : f = t.names.length := by omega
  first | done | rfl
set_option maxHeartbeats 4000000 in
theorem z3a (ys : List Int) (h1 : 1 ≤ ys.length) (hl : ys.length ≤ 1000) (hb : ∀ y ∈ ys, -2147483647 ≤ y ∧ y ≤ 2147483647) : z6 PR zEE [aIs ys] (z5z (z4y ys) true) [] 0 := by
 have eY : nInt (dLen (eL cI ys)) = (ys.length : Int) := by simp
 refine z6.intro hT (pf Tryz.func243) rfl (by kernel_rfl) Tryz.ntmps243 rfl ?_
 conv => whnf
 refine zB hT [0, 4, 9, 10, 11] (α := Nat) (fun k => { t := [(0, aIs ys), (4, ai (sumI (ys.take k))), (9, aIs ys), (10, ai ys.length), (11, ai k)], h := [], n := 0, N := 31 })
  (fun k => k ≤ ys.length) (fun k => ys.length - k) 0 (by (conv => whnf); first | done | rfl | (rw [eY]; rfl)) (Nat.zero_le _) ?_
 intro k hk
 conv => whnf
 refine zK (fun q => ?_) (fun q => ?_) <;> (conv => whnf) <;> simp only [eH] at q
 ·obtain ⟨y, hy⟩ := zH (show k < ys.length by omega)
  have hyb := hb y (List.mem_of_getElem? hy)
  have hsb := z26 hl hb k
  refine zE (by simp) hy ?_
  conv => whnf
  refine .inl ⟨_, _, _, wk (sumI (ys.take k)) y (by omega) (by omega), rfl, ?_⟩
  conv => whnf
  refine ⟨k + 1, by omega, by omega, ?_⟩
  ((conv => whnf); simp only [eS, wI (show k < ys.length by omega) (by omega)])
  rw [zGd hy]
  first | done | rfl
 ·obtain rfl : k = ys.length := by omega
  have hsb := z26 hl hb ys.length
  rw [List.take_length] at hsb ⊢
  rw [eY]
  refine .inl ⟨_, _, _, z0K (sumI ys) ys.length (by omega) (by omega), rfl, ?_⟩
  conv => whnf
  first | done | rfl
set_option maxHeartbeats 4000000 in
theorem z5i (ys ps : List Int) (he : ys.length = ps.length) (hl : ys.length ≤ 1000) (hb : ∀ y ∈ ys, -2147483647 ≤ y ∧ y ≤ 2147483647) (hp : ∀ p ∈ ps, -1152921504606846976 ≤ p ∧ p ≤ 1152921504606846976) : z6 PR z3f [aIs ys, aIs ps] (zLF (resL ys ps) true) [] 0 := by
 have eY : nInt (dLen (eL cI ys)) = (ys.length : Int) := by simp
 refine z6.intro hT (pf Tryz.func157) rfl (by kernel_rfl) Tryz.ntmps157 rfl ?_
 conv => whnf
 rw [show iEq (nInt (dLen (eL cI ys))) (nInt (dLen (eL cI ps))) = true from decide_eq_true (by simp [he])]
 conv => whnf
 refine zB hT [0, 1, 6, 17, 18] (α := Nat) (fun k => { t := [(0, aIs ys), (1, aIs ps), (6, .c (.ref 0 0 none)), (17, ai ys.length), (18, ai k)], h := [(0, .arr zW 1 0 .own (eL cI ((resL ys ps).take k)))], n := 1, N := 41 })
  (fun k => k ≤ ys.length) (fun k => ys.length - k) 0 (by (conv => whnf); simp only [List.take_zero, zg]; first | done | rfl | (rw [eY]; rfl)) (Nat.zero_le _) ?_
 intro k hk
 conv => whnf
 refine zK (fun q => ?_) (fun q => ?_) <;> (conv => whnf) <;> simp only [eH] at q
 ·obtain ⟨y, hy⟩ := zH (show k < ys.length by omega)
  obtain ⟨p, hpk⟩ := zH (show k < ps.length by omega)
  have hyb := hb y (List.mem_of_getElem? hy)
  have hpb := hp p (List.mem_of_getElem? hpk)
  refine zO hT hmix [0, 1, 6, 8, 9, 17, 18] { t := [(0, aIs ys), (1, aIs ps), (6, .c (.ref 0 0 none)), (8, ai (y - p)), (9, ab true), (17, ai ys.length), (18, ai k)], h := [(0, .arr zW 1 0 .own (eL cI ((resL ys ps).take k)))], n := 1, N := 41 } rfl ?_ ?_
  ·repeat' first
    | (refine zR rfl ?_; (conv => whnf))
    | (refine zQ rfl ?_ ?_ <;> (conv => whnf))
    | (refine zC rfl ?_ ?_ ?_ <;> (conv => whnf))
    | (refine zE (k := k) rfl hy ?_; (conv => whnf))
    | (refine zE (k := k) rfl hpk ?_; (conv => whnf))
    | (refine .inl ⟨_, _, _, z0h y p (by omega) (by omega), rfl, ?_⟩; (conv => whnf))
    | (refine zP rfl ?_; (conv => whnf); first | done | rfl)
  conv => whnf
  have hlen := z3A he
  refine And.intro (by simp [z7, zF, zS]; omega) ?_
  conv => whnf
  refine ⟨k + 1, by omega, by omega, ?_⟩
  ((conv => whnf); simp only [eS, wI (show k < ys.length by omega) (by omega)])
  rw [zEv hy hpk, ← zY, z7]
  first | done | rfl | exact ⟨rfl, rfl⟩
 ·obtain rfl : k = ys.length := by omega
  rw [← z3A he, List.take_length]
  conv => whnf
  simp only [z7]
set_option maxHeartbeats 4000000 in
theorem z8u (t : Tbl) (hz : szT t) (ht : y8 t = false) : z6 PR z1s [aTb t] (z1a [] [] false) [] 0 := by
 refine z6.intro hT (pf Tryz.func240) rfl (by kernel_rfl) Tryz.ntmps240 rfl ?_
 conv => whnf
 refine .inl ⟨_, _, _, wA t hz, rfl, ?_⟩
 rw [ht]
 conv => whnf
 simp only [z1a, cSt, zg]
set_option maxHeartbeats 4000000 in
theorem z2G (t : Tbl) (hz : szT t) (ht : y8 t = true) : z6 PR z1s [aTb t] (z1a (z6r t) [] true) [] 0 := by
 have hv := wG ht
 have eY : nInt (dLen (eL cI t.ys)) = (t.ys.length : Int) := by simp
 refine z6.intro hT (pf Tryz.func240) rfl (by kernel_rfl) Tryz.ntmps240 rfl ?_
 conv => whnf
 refine .inl ⟨_, _, _, wA t hz, rfl, ?_⟩
 rw [ht]
 conv => whnf
 refine .inl ⟨_, _, _, z3a t.ys (by have := hv.yl; have := hv.r1; omega) (by have := hv.yl; have := hv.r40; omega) hv.yv, rfl, ?_⟩
 conv => whnf
 refine zZ 0 ?_
 conv => whnf
 refine z1H 2 0 zW 1 ?_
 conv => whnf
 refine zB hT [2, 4, 6, 20, 21] (α := Nat) (fun k => { t := [(2, .c (.ptr 0 0)), (4, ai (z4y t.ys)), (6, .c (.ptr 1 0)), (20, ai t.ys.length), (21, ai k)], h := [(0, .box zk [.nl 1, .nl 1]), (1, .box zk [.ref 2 0 none, .nl 1]), (2, .arr zW 1 0 .own (eL cI (List.replicate k (z4y t.ys))))], n := 3, N := 31 })
  (fun k => k ≤ t.ys.length) (fun k => t.ys.length - k) 0 (by (conv => whnf); simp only [List.replicate_zero, zg]; first | done | rfl | (rw [eY]; rfl)) (Nat.zero_le _) ?_
 intro k hk
 conv => whnf
 refine zK (fun q => ?_) (fun q => ?_) <;> (conv => whnf) <;> simp only [eH] at q
 ·have := hv.yl
  have := hv.r40
  refine And.intro (by simp [z7, zF, zS]; omega) ?_
  conv => whnf
  refine ⟨k + 1, by omega, by omega, ?_⟩
  ((conv => whnf); simp only [eS, wI (show k < t.ys.length by omega) (by omega)])
  rw [List.replicate_succ', ← zY, z7]
  first | done | rfl | exact ⟨rfl, rfl⟩
 ·obtain rfl : k = t.ys.length := by omega
  simp only [z7, z1a, cSt, zg, z6r]
  first | done | rfl
theorem zAA (t : List Nd) (hl : t.length ≤ 1000000000) : z6 PR z4G [aT t] (aT t) [] 0 := by
 refine z6.intro hT (pf Tryz.func267) rfl (by kernel_rfl) Tryz.ntmps267 rfl ?_
 conv => whnf
 refine .inl ⟨_, _, _, z3h t hl, rfl, ?_⟩
 conv => whnf
 simp only [z7]
 first | done | rfl
theorem z3X (ts : List (List Nd)) (hl : ts.length ≤ 1000000) (ht : ∀ t ∈ ts, t.length ≤ 1000000) : z6 PR z9K [aTs ts] (.c (.ref 0 0 none)) [(0, .arr zL 1 0 .own (eL cT ts))] 1 := by
 refine z6.intro hT (pf Tryz.func177) rfl (by kernel_rfl) Tryz.ntmps177 rfl ?_
 conv => whnf
 refine zB hT [3, 7, 8, 9] (α := Nat × List (List Nd)) (fun x => { t := [(3, .c (.ref 0 0 none)), (7, aTs ts), (8, ai ts.length), (9, ai x.1)], h := [(0, .arr zL 1 0 .own (eL cT x.2))], n := 1, N := 20 })
  (fun x => x.1 ≤ ts.length ∧ x.2 = ts.take x.1) (fun x => ts.length - x.1) (0, []) (by ((conv => whnf); simp only [eS, zg])) ⟨Nat.zero_le _, by simp⟩ ?_
 intro ⟨k, o⟩ ⟨hk, ho⟩
 dsimp only at hk ho
 conv => whnf
 refine zK (fun h1 => ?_) (fun h1 => ?_) <;> (conv => whnf) <;> simp at h1
 ·obtain ⟨t, hx⟩ := zH h1
  have hol : o.length = k := by rw [ho]; simp; omega
  refine zE (by simp) hx ?_
  conv => whnf
  refine .inl ⟨_, _, _, zAA t (by have := ht t (List.mem_of_getElem? hx); omega), rfl, ?_⟩
  conv => whnf
  refine And.intro (by simp [zF, zS]; omega) ?_
  conv => whnf
  refine ⟨(k + 1, o ++ [t]), by dsimp only; omega, ⟨h1, by dsimp only; rw [ho, List.take_add_one, hx]; rfl⟩, ?_⟩
  ((conv => whnf); simp only [eS, wI h1 (by omega)])
  rw [← zY, z7]
  first | done | rfl | exact ⟨rfl, rfl⟩
 ·obtain rfl : k = ts.length := by omega
  rw [ho, List.take_length]
  first | done | rfl
set_option maxHeartbeats 4000000 in
theorem z8w (v : Int) (c : Cfg) (hc : cfgP c) (hv : -1099511627776 ≤ v ∧ v ≤ 1099511627776) : z6 PR zDy [ai v, aCf c] (z5z (v * c.num / c.den) true) [] 0 := by
 refine z6.intro hT (pf Tryz.func269) rfl (by kernel_rfl) Tryz.ntmps269 rfl ?_
 conv => whnf
 refine .inl ⟨_, _, _, yb c (by have := hc.2.2.2.2; omega), rfl, ?_⟩
 rw [z3P hc]
 conv => whnf
 refine .inl ⟨_, _, _, yz v, rfl, ?_⟩
 rw [decide_eq_true hv]
 conv => whnf
 have hn : 1 ≤ c.num ∧ c.num ≤ 1000 := ⟨hc.2.2.2.1.1, by have := hc.2.2.2.1.2; have := hc.2.2.1.2; omega⟩
 have hd := hc.2.2.1
 have hm : -1099511627776000 ≤ v * c.num ∧ v * c.num ≤ 1099511627776000 := by
  have a := Int.mul_le_mul_of_nonneg_right hv.1 (show 0 ≤ c.num by omega)
  have b := Int.mul_le_mul_of_nonneg_right hv.2 (show 0 ≤ c.num by omega)
  omega
 rw [show wMul .i64 v c.num = v * c.num from z1Z (by omega) (by omega)]
 refine .inl ⟨_, _, _, z0K (v * c.num) c.den (by omega) (by omega), rfl, ?_⟩
 conv => whnf
 first | done | rfl
set_option maxHeartbeats 4000000 in
theorem z4s (t : List Nd) (c : Cfg) (hc : cfgP c) (hl : t.length ≤ 1000) (ht : ∀ n ∈ t, zHd n) : z6 PR z86 [aT t, aCf c] (.tup [(true, [.d (.sl 5 (eL cN (shrT c t)))]), (false, [.d (.bool true)])]) [] 0 := by
 have hlm := zGu t 0
 have hll : (z05 t 0).length ≤ t.length := zA5 t 0
 have hlv := z6f t (by omega)
 generalize z05 t 0 = ls at *
 refine z6.intro hT (pf Tryz.func176) rfl (by kernel_rfl) Tryz.ntmps176 rfl ?_
 conv => whnf
 refine .inl ⟨_, _, _, z6Z t (by omega), rfl, ?_⟩
 conv => whnf
 refine .inl ⟨_, _, _, hlv, rfl, ?_⟩
 conv => whnf
 refine zZ 0 ?_
 conv => whnf
 refine zZ 1 ?_
 conv => whnf
 refine zB hT [2, 3, 4, 6, 14, 15, 16] (α := Nat × List Nd) (fun x => { t := [(2, .c (.d (.rp [.sl 5 (eL cN t)]))), (3, rpCf c), (4, .c (.ptr 0 0)), (6, .c (.ptr 1 0)), (14, aIs ls), (15, ai ls.length), (16, ai x.1)], h := [(0, .box zL [.nl 5]), (1, .box zL [.ref 2 0 none]), (2, .arr zn 5 0 .own (eL cN x.2))], n := 3, N := 42 })
  (fun x => x.1 ≤ ls.length ∧ x.2.length = t.length ∧ ∀ (k : Nat) (n : Nd), t[k]? = some n → x.2[k]? = some (if (k : Int) ∈ ls.take x.1 then shrN c n else n)) (fun x => ls.length - x.1) (0, t) (by (conv => whnf); first | done | rfl | (rw [show nInt (z0W (eL cI ls) none) = (ls.length : Int) by simp [z0W]]; rfl)) ⟨Nat.zero_le _, rfl, fun k n h => by simpa using h⟩ ?_
 intro ⟨j, o⟩ ⟨hj, hol, ho⟩
 dsimp only at hj hol ho
 conv => whnf
 refine zK (fun q => ?_) (fun q => ?_) <;> (conv => whnf) <;> simp only [eH] at q
 ·obtain ⟨i, hi⟩ := zH (show j < ls.length by omega)
  obtain ⟨m, n, him, hn, hnf⟩ := (hlm i).1 (List.mem_of_getElem? hi)
  obtain rfl : i = (m : Int) := by omega
  have hml := (List.getElem?_eq_some_iff.1 hn).1
  have hlf := ht n (List.mem_of_getElem? hn) hnf
  refine zE (by simp) hi ?_
  conv => whnf
  refine zO hT hmix [2, 3, 4, 6, 8, 9, 10, 14, 15, 16] { t := [(2, .c (.d (.rp [.sl 5 (eL cN t)]))), (3, rpCf c), (4, .c (.ptr 0 0)), (6, .c (.ptr 1 0)), (8, ai m), (9, ai (n.v * c.num / c.den)), (10, ab true), (14, aIs ls), (15, ai ls.length), (16, ai j)], h := [(0, .box zL [.nl 5]), (1, .box zL [.ref 2 0 none]), (2, .arr zn 5 0 .own (eL cN o))], n := 3, N := 42 } rfl ?_ ?_
  ·repeat' first
    | (refine zR rfl ?_; (conv => whnf))
    | (refine zQ rfl ?_ ?_ <;> (conv => whnf))
    | (refine zC rfl ?_ ?_ ?_ <;> (conv => whnf))
    | (refine zE (k := m) rfl hn ?_; (conv => whnf))
    | (refine .inl ⟨_, _, _, z8w n.v c hc hlf, rfl, ?_⟩; (conv => whnf))
    | (refine zP rfl ?_; (conv => whnf); first | done | rfl)
  conv => whnf
  obtain ⟨x0, hx0⟩ := zH (show m < o.length by omega)
  have hdo : z0s (cN x0) 4 [D.int IntKind.i64 (n.v * c.num / c.den)] = cN (shrN c n) := by
   have h1 := ho m n hn
   rw [hx0] at h1
   have h2 := Option.some.inj h1
   have h3 : shrN c n = ⟨n.f, n.c, n.l, n.r, n.v * c.num / c.den⟩ := by unfold shrN; rw [if_pos hnf]
   rw [h3]
   split at h2
   ·rw [h2, h3, z0s]; rfl
   ·rw [h2, z0s]; rfl
  refine yF (k := m) rfl (by rw [show z0W (eL cN o) none = t.length by simp only [z0C, zF, z5q, hol]]; omega) ?_
  conv => whnf
  refine zCq (k := m) (by simp) hx0 (by simp [cN]) ?_
  conv => whnf
  refine ⟨(j + 1, o.set m (shrN c n)), by dsimp only; omega, ⟨by dsimp only; omega, by dsimp only; rw [List.length_set]; exact hol, fun k n' hk => ?_⟩, ?_⟩
  ·dsimp only
   have h1 := ho k n' hk
   rw [List.take_add_one, hi]
   by_cases hkm : m = k
   ·subst hkm
    rw [hn] at hk
    cases hk
    rw [List.getElem?_set_self (by omega), if_pos (by simp)]
   ·rw [List.getElem?_set_ne hkm, h1]
    have : ((k : Int) ∈ ls.take j ++ (some (m : Int)).toList) ↔ (k : Int) ∈ ls.take j := by
     simp
     intro h
     omega
    simp only [this]
  ·((conv => whnf); simp only [eS, wI (show j < ls.length by omega) (by omega)])
   rw [show nAdd (offR none) (nOf (m : Int)) = m by simp [wr], hdo, z5E]
   first | done | rfl
 ·obtain rfl : j = ls.length := by omega
  have hs : o = shrT c t := by
   apply List.ext_getElem?
   intro k
   cases hk : t[k]? with
   | none =>
    have := List.getElem?_eq_none_iff.1 hk
    rw [List.getElem?_eq_none (by omega), List.getElem?_eq_none (by rw [zKA]; omega)]
   | some n =>
    rw [ho k n hk, List.take_length, zLJ hk]
    congr 1
    split
    ·rfl
    ·rename_i hni
     unfold shrN
     rw [if_neg fun hf => hni ((hlm k).2 ⟨k, n, by omega, hk, hf⟩)]
  rw [hs]
  simp only [z7]
  first | done | rfl
end Go.H.S
namespace Go.H.S
open Go Go.Proofs Go.H
attribute [local irreducible] Tri z6 zV zU zj zX
set_option maxHeartbeats 4000000 in
theorem zAC (t : Tbl) (g : Grd) (c : Cfg) (ps res : List Int) (ts : List (List Nd)) (tr : List Nd) (hz : szT t) (ht : y8 t = true) (hc : cfgP c) (hsm : smG g) (hgrid : z6 PR z1S [aTb t, ai c.bins] (aG g) [] 0) (hpl : ps.length = t.ys.length) (hpb : ∀ p ∈ ps, -1152921504606846976 ≤ p ∧ p ≤ 1152921504606846976)
  (hts : ts.length ≤ 1000) (htl : ∀ x ∈ ts, x.length ≤ 1000) (hgl : tr.length ≤ 1000) (hlf : ∀ n ∈ tr, zHd n) (hres : z6 PR z3f [aIs t.ys, aIs ps] (zLF res true) [] 0) (hgrow : z6 PR z4J [aG g, aIs res, aCf c] (.tup [(true, [.ref 0 0 none]), (false, [.d (.bool true)])]) [(0, .arr zn 5 0 .own (eL cN tr))] 1)
  (hev : ∀ r, -1152921504606846976 ≤ z0r (shrT c tr) r ∧ z0r (shrT c tr) r ≤ 1152921504606846976) :
  z6 PR z2V [aTb t, aG g, aCf c, aSt ps ts] (z1a (addL (shrT c tr) t.rows ps) (ts ++ [shrT c tr]) true) [] 0 := by
 have hv := wG ht
 have hyl := hv.yl
 have hr40 := hv.r40
 have eP : nInt (dLen (eL cI ps)) = (ps.length : Int) := by simp
 refine z6.intro hT (pf Tryz.func70) rfl (by kernel_rfl) Tryz.ntmps70 rfl ?_
 conv => whnf
 refine zZ 0 ?_
 conv => whnf
 refine zZ 1 ?_
 conv => whnf
 refine zZ 2 ?_
 conv => whnf
 refine zZ 3 ?_
 conv => whnf
 refine zO hT hmix [4, 5, 6, 7, 8, 30] { t := [(4, rpTb t), (5, rpG g), (6, rpCf c), (7, rpSt ps ts), (8, .c (.ptr 0 0)), (30, ab false)], h := [(0, .box zk [.nl 1, .nl 1])], n := 1, N := 100 } rfl ?_ ?_
 ·repeat' first
   | (refine zR rfl ?_; (conv => whnf))
   | (refine zQ rfl ?_ ?_ <;> (conv => whnf))
   | (refine zC rfl ?_ ?_ ?_ <;> (conv => whnf))
   | (refine .inl ⟨_, _, _, wA t hz, rfl, ?_⟩; rw [ht]; (conv => whnf))
   | (refine .inl ⟨_, _, _, hgrid, rfl, ?_⟩; (conv => whnf))
   | (refine .inl ⟨_, _, _, z6d g hsm, rfl, ?_⟩; (conv => whnf))
   | (refine zP rfl ?_; (conv => whnf); first | done | rfl)
 conv => whnf
 refine .inl ⟨_, _, _, hres, rfl, ?_⟩
 conv => whnf
 refine .inl ⟨_, _, _, hgrow, rfl, ?_⟩
 conv => whnf
 refine .inl ⟨_, _, _, z4s tr c hc hgl hlf, rfl, ?_⟩
 conv => whnf
 refine zZ 3 ?_
 conv => whnf
 refine zO hT hmix [4, 7, 8, 13, 14] { t := [(4, rpTb t), (7, rpSt ps ts), (8, .c (.ptr 0 0)), (13, .c (.d (.rp [.sl 5 (eL cN (shrT c tr))]))), (14, .c (.ptr 1 0))], h := [(0, .box zk [.nl 1, .nl 1]), (1, .box zk [.nl 1, .ref 2 0 none]), (2, .arr zL 1 0 .own (eL cT (ts ++ [shrT c tr])))], n := 3, N := 100 } rfl ?_ ?_
 ·repeat' first
   | (refine zR rfl ?_; (conv => whnf))
   | (refine zQ rfl ?_ ?_ <;> (conv => whnf))
   | (refine zC rfl ?_ ?_ ?_ <;> (conv => whnf))
   | (refine zo rfl ?_ ?_ ?_ ?_ <;> (conv => whnf))
   | (refine .inl ⟨_, _, _, z3X ts (by omega) (fun x hx => by have := htl x hx; omega), rfl, ?_⟩; (conv => whnf))
   | (refine And.intro (by simp [zF, zS]; omega) ?_; (conv => whnf))
   | (refine zP rfl ?_; (conv => whnf); simp only [z7]; rw [show dApp (eL cT ts) [[D.sl 5 (eL cN (shrT c tr))]] = eL cT (ts ++ [shrT c tr]) from zY cT ts _]; first | done | rfl)
 conv => whnf
 refine z1H 1 0 zW 1 ?_
 conv => whnf
 refine zB hT [4, 7, 8, 13, 14, 70, 71, 72] (α := Nat) (fun k => { t := [(4, rpTb t), (7, rpSt ps ts), (8, .c (.ptr 0 0)), (13, .c (.d (.rp [.sl 5 (eL cN (shrT c tr))]))), (14, .c (.ptr 1 0)), (70, aIs ps), (71, ai ps.length), (72, ai k)], h := [(0, .box zk [.nl 1, .nl 1]), (1, .box zk [.ref 2 0 none, .ref 3 0 none]), (2, .arr zW 1 0 .own (eL cI ((addL (shrT c tr) t.rows ps).take k))), (3, .arr zL 1 0 .own (eL cT (ts ++ [shrT c tr])))], n := 4, N := 100 })
  (fun k => k ≤ ps.length) (fun k => ps.length - k) 0 (by (conv => whnf); simp only [List.take_zero, zg]; first | done | rfl | (rw [eP]; rfl)) (Nat.zero_le _) ?_
 intro k hk
 conv => whnf
 refine zK (fun q => ?_) (fun q => ?_) <;> (conv => whnf) <;> simp only [eH] at q
 ·obtain ⟨p, hp⟩ := zH (show k < ps.length by omega)
  obtain ⟨r, hr⟩ := zH (show k < t.rows.length by omega)
  have hpk := hpb p (List.mem_of_getElem? hp)
  have hrc := hv.cols r (List.mem_of_getElem? hr)
  have hn4 := hv.n4
  have hek := hev r
  have hsl : (shrT c tr).length ≤ 1048576 := by simp [shrT]; omega
  refine zE (by simp) hp ?_
  conv => whnf
  refine zO hT hmix [4, 7, 8, 13, 14, 17, 18, 70, 71, 72] { t := [(4, rpTb t), (7, rpSt ps ts), (8, .c (.ptr 0 0)), (13, .c (.d (.rp [.sl 5 (eL cN (shrT c tr))]))), (14, .c (.ptr 1 0)), (17, ai (p + z0r (shrT c tr) r)), (18, ab true), (70, aIs ps), (71, ai ps.length), (72, ai k)], h := [(0, .box zk [.nl 1, .nl 1]), (1, .box zk [.ref 2 0 none, .ref 3 0 none]), (2, .arr zW 1 0 .own (eL cI ((addL (shrT c tr) t.rows ps).take k))), (3, .arr zL 1 0 .own (eL cT (ts ++ [shrT c tr])))], n := 4, N := 100 } rfl ?_ ?_
  ·repeat' first
    | (refine zR rfl ?_; (conv => whnf))
    | (refine zQ rfl ?_ ?_ <;> (conv => whnf))
    | (refine zC rfl ?_ ?_ ?_ <;> (conv => whnf))
    | (refine zE (k := k) rfl hr ?_; (conv => whnf))
    | (refine .inl ⟨_, _, _, z6k (shrT c tr) r hsl (by omega), rfl, ?_⟩; (conv => whnf))
    | (refine .inl ⟨_, _, _, wk p (z0r (shrT c tr) r) (by omega) (by omega), rfl, ?_⟩; (conv => whnf))
    | (refine zP rfl ?_; (conv => whnf); first | done | rfl)
  conv => whnf
  have hal := z79 (tr := shrT c tr) (hpl.trans hyl)
  refine And.intro (by simp [z7, zF, zS]; omega) ?_
  conv => whnf
  refine ⟨k + 1, by omega, by omega, ?_⟩
  ((conv => whnf); simp only [eS, wI (show k < ps.length by omega) (by omega)])
  rw [zFi hp hr, ← zY, z7]
  first | done | rfl | exact ⟨rfl, rfl⟩
 ·obtain rfl : k = ps.length := by omega
  rw [← z79 (tr := shrT c tr) (hpl.trans hyl), List.take_length]
  simp only [z7]
  first | done | rfl
theorem z7l (t : Tbl) (b : Nat) (c : Cfg) (ps : List Int) (ts : List (List Nd)) (tr : List Nd) (hz : szT t) (ht : y8 t = true) (hc : cfgP c) (hb : c.bins = (b : Int)) (hbb : 2 ≤ b ∧ b ≤ 8) (hsm : smG (yG t b)) (hpl : ps.length = t.ys.length) (hpb : ∀ p ∈ ps, -1152921504606846976 ≤ p ∧ p ≤ 1152921504606846976)
  (hts : ts.length ≤ 1000) (htl : ∀ x ∈ ts, x.length ≤ 1000) (htk : wg (yG t b) (resL t.ys ps) c) (hgl : tr.length ≤ 1000) (hlf : ∀ n ∈ tr, zHd n) (htr : wl (yG t b) (resL t.ys ps) c = tr) (hev : ∀ r, -1152921504606846976 ≤ z0r (shrT c tr) r ∧ z0r (shrT c tr) r ≤ 1152921504606846976) :
  z6 PR z2V [aTb t, aG (yG t b), aCf c, aSt ps ts] (z1a (addL (shrT c tr) t.rows ps) (ts ++ [shrT c tr]) true) [] 0 := by
 have hv := wG ht
 have hcl : c.signs.length ≤ 1048576 := by have := hc.2.2.2.2; omega
 have hrl := z3A hpl.symm
 have hyl := hv.yl
 have hr40 := hv.r40
 have hgrow := z6h (yG t b) (resL t.ys ps) c hsm (by omega) hcl htk
 rw [htr] at hgrow
 have hgrid := z6j t b hbb ht hz
 rw [← hb] at hgrid
 exact zAC t (yG t b) c ps (resL t.ys ps) ts tr hz ht hc hsm hgrid hpl hpb hts htl hgl hlf (z5i t.ys ps hpl.symm (by omega) hv.yv hpb) hgrow hev
abbrev cSx (x : List Int × List (List Nd)) : List D := [.sl 1 (eL cI x.1), .sl 1 (eL cT x.2)]
abbrev tupSs (l : List (List Int × List (List Nd))) (b : Bool) : AV := .tup [(false, [.d (.sl 2 (eL cSx l))]), (false, [.d (.bool b)])]
abbrev tupS0 : AV := .tup [(false, [.d (.sl 0 [])]), (false, [.d (.bool false)])]
def z02 (P : Nat → List Int) (T : Nat → List (List Nd)) (n : Nat) : List (List Int × List (List Nd)) := (List.range n).map fun k => (P k, T k)
theorem z9i (P : Nat → List Int) (T : Nat → List (List Nd)) (n : Nat) : (z02 P T n).length = n := by simp [z02]
theorem zEj (P : Nat → List Int) (T : Nat → List (List Nd)) (n : Nat) : z02 P T (n + 1) = z02 P T n ++ [(P n, T n)] := by simp [z02, List.range_succ]
theorem zHQ (P : Nat → List Int) (T : Nat → List (List Nd)) {n k : Nat} (h : k < n) : (z02 P T n)[k]? = some (P k, T k) := by simp [z02, h]
set_option maxHeartbeats 4000000 in
theorem zBH (t : Tbl) (c : Cfg) (hz : szT t) (hcl : c.signs.length ≤ 1048576) (h : ¬ (y8 t = true ∧ z0v c = true)) : z6 PR z3L [aTb t, aCf c] tupS0 [] 0 := by
 refine z6.intro hT (pf Tryz.func136) rfl (by kernel_rfl) Tryz.ntmps136 rfl ?_
 conv => whnf
 cases ht : y8 t with
 | false =>
  refine .inl ⟨_, _, _, z8u t hz ht, rfl, ?_⟩
  conv => whnf
  first | done | rfl
 | true =>
  have hc : z0v c = false := by cases q : z0v c with | true => exact absurd ⟨ht, q⟩ h | false => rfl
  refine .inl ⟨_, _, _, z2G t hz ht, rfl, ?_⟩
  conv => whnf
  refine .inl ⟨_, _, _, yb c hcl, rfl, ?_⟩
  rw [hc]
  conv => whnf
  first | done | rfl
set_option maxHeartbeats 4000000 in
theorem zBG (t : Tbl) (c : Cfg) (g : Grd) (P : Nat → List Int) (T : Nat → List (List Nd)) (n : Nat) (hc : z0v c = true) (hcl : c.signs.length ≤ 1048576) (hn : c.rounds = n) (hn8 : n ≤ 8) (hgrid : z6 PR z1S [aTb t, ai c.bins] (aG g) [] 0) (hnew : z6 PR z1s [aTb t] (z1a (P 0) (T 0) true) [] 0)
  (hround : ∀ k, k < n → z6 PR z2V [aTb t, aG g, aCf c, aSt (P k) (T k)] (z1a (P (k + 1)) (T (k + 1)) true) [] 0) : z6 PR z3L [aTb t, aCf c] (tupSs (z02 P T (n + 1)) true) [] 0 := by
 refine z6.intro hT (pf Tryz.func136) rfl (by kernel_rfl) Tryz.ntmps136 rfl ?_
 conv => whnf
 refine .inl ⟨_, _, _, hnew, rfl, ?_⟩
 conv => whnf
 refine .inl ⟨_, _, _, yb c hcl, rfl, ?_⟩
 rw [hc]
 conv => whnf
 refine zZ 0 ?_
 conv => whnf
 refine zZ 1 ?_
 conv => whnf
 have hst1 : eL cSx (z02 P T 1) = [[.sl 1 (eL cI (P 0)), .sl 1 (eL cT (T 0))]] := by
  rw [show z02 P T 1 = [(P 0, T 0)] from rfl, z4L, zg]
 refine zO hT hmix [2, 3, 6, 8, 9] { t := [(2, rpTb t), (3, rpCf c), (6, .c (.ptr 0 0)), (8, .c (.ref 1 0 none)), (9, .c (.ptr 2 0))], h := [(0, .box zk (cSt (P 0) (T 0))), (1, .arr zk 2 0 .own (eL cSx (z02 P T 1))), (2, .box yi (cG g))], n := 3, N := 51 } rfl ?_ ?_
 ·repeat' first
   | (refine zR rfl ?_; (conv => whnf))
   | (refine zQ rfl ?_ ?_ <;> (conv => whnf))
   | (refine zC rfl ?_ ?_ ?_ <;> (conv => whnf))
   | (refine zo rfl ?_ ?_ ?_ ?_ <;> (conv => whnf))
   | (refine .inl ⟨_, _, _, hgrid, rfl, ?_⟩; (conv => whnf))
   | (refine zP rfl ?_; rw [hst1]; (conv => whnf); first | done | rfl)
 conv => whnf
 refine zZ 2 ?_
 conv => whnf
 refine zB hT [2, 3, 6, 8, 9, 31, 32] (α := Nat) (fun k => { t := [(2, rpTb t), (3, rpCf c), (6, .c (.ptr 0 0)), (8, .c (.ref 1 0 none)), (9, rpG g), (31, ai c.rounds), (32, ai k)], h := [(0, .box zk (cSt (P k) (T k))), (1, .arr zk 2 0 .own (eL cSx (z02 P T (k + 1))))], n := 2, N := 51 })
  (fun k => k ≤ n) (fun k => n - k) 0 (by (conv => whnf); first | done | rfl) (Nat.zero_le _) ?_
 intro k hk
 conv => whnf
 refine zK (fun q => ?_) (fun q => ?_) <;> (conv => whnf) <;> simp only [eH] at q
 ·have hkn : k < n := by omega
  have hsl := z9i P T (k + 1)
  refine .inl ⟨_, _, _, hround k hkn, rfl, ?_⟩
  conv => whnf
  refine zO hT hmix [2, 3, 6, 8, 9, 31, 32] { t := [(2, rpTb t), (3, rpCf c), (6, .c (.ptr 0 0)), (8, .c (.ref 1 0 none)), (9, rpG g), (31, ai c.rounds), (32, ai k)], h := [(0, .box zk (cSt (P (k + 1)) (T (k + 1)))), (1, .arr zk 2 0 .own (eL cSx (z02 P T (k + 2))))], n := 2, N := 51 } rfl ?_ ?_
  ·repeat' first
    | (refine zR rfl ?_; (conv => whnf))
    | (refine zQ rfl ?_ ?_ <;> (conv => whnf))
    | (refine zC rfl ?_ ?_ ?_ <;> (conv => whnf))
    | (refine zo rfl ?_ ?_ ?_ ?_ <;> (conv => whnf))
    | (refine And.intro (by simp [z7, zF, zS]; omega) ?_; (conv => whnf))
    | (refine zP rfl ?_; (conv => whnf); rw [zEj P T (k + 1), ← zY]; simp only [z7]; first | done | rfl | exact ⟨rfl, rfl⟩)
  conv => whnf
  refine ⟨k + 1, by omega, by omega, ?_⟩
  ((conv => whnf); simp only [eS, wI hkn (by omega)])
  first | done | rfl
 ·obtain rfl : k = n := by omega
  simp only [z7]
  first | done | rfl
theorem zA8 (t : Tbl) (c : Cfg) (hz : szT t) (ht : y8 t = true) (hco : z0v c = true) : z6 PR z3L [aTb t, aCf c] (tupSs (z02 (fun k => (yM t c (yG t c.bins.toNat) k).1) (fun k => (yM t c (yG t c.bins.toNat) k).2) (c.rounds.toNat + 1)) true) [] 0 := by
 have hv := wG ht
 have hc := z0u.1 hco
 obtain ⟨⟨hb, hbb⟩, hn, hn1, hn8⟩ := z3O hc
 have hgrid := z6j t c.bins.toNat hbb ht hz
 rw [← hb] at hgrid
 refine zBG t c (yG t c.bins.toNat) (fun k => (yM t c (yG t c.bins.toNat) k).1) (fun k => (yM t c (yG t c.bins.toNat) k).2) c.rounds.toNat hco (by have := hc.2.2.2.2; omega) hn hn8 hgrid (z2G t hz ht) fun k hk => ?_
 have htk := z9T hv hbb hc (k := k) (by omega)
 exact z7l t c.bins.toNat c _ _ (wl (yG t c.bins.toNat) (resL t.ys (yM t c (yG t c.bins.toNat) k).1) c) hz ht hc hb hbb (zDF hv hbb.2) (z2Y hv.yl k) (fun p hp => by have := z9e hv hbb hc (k := k) (by omega) p hp; omega)
  (by rw [yu]; omega) (fun x hx => by have := z4U hv hbb hc (k := k) (by omega) x hx; omega) htk (zFC htk) (zAH htk) rfl (fun r => by have := zEs htk r; omega)
set_option maxHeartbeats 4000000 in
theorem zDA (t : Tbl) (c : Cfg) (hz : szT t) (hcl : c.signs.length ≤ 1048576) (h : ¬ (y8 t = true ∧ z0v c = true)) : z6 PR z8O [aTb t, aCf c] (z1a [] [] false) [] 0 := by
 refine z6.intro hT (pf Tryz.func144) rfl (by kernel_rfl) Tryz.ntmps144 rfl ?_
 conv => whnf
 refine .inl ⟨_, _, _, zBH t c hz hcl h, rfl, ?_⟩
 conv => whnf
 simp only [z1a, cSt, zg]
 first | done | rfl
set_option maxHeartbeats 4000000 in
theorem zBJ (t : Tbl) (c : Cfg) (hz : szT t) (ht : y8 t = true) (hco : z0v c = true) : z6 PR z8O [aTb t, aCf c] (z1a (z0D t c).1 (z0D t c).2 true) [] 0 := by
 have hst := zA8 t c hz ht hco
 have hat := zHQ (fun k => (yM t c (yG t c.bins.toNat) k).1) (fun k => (yM t c (yG t c.bins.toNat) k).2) (n := c.rounds.toNat + 1) (k := c.rounds.toNat) (by omega)
 have hlen := z9i (fun k => (yM t c (yG t c.bins.toNat) k).1) (fun k => (yM t c (yG t c.bins.toNat) k).2) (c.rounds.toNat + 1)
 have hc := z0u.1 hco
 obtain ⟨⟨hb, hbb⟩, hn, hn1, hn8⟩ := z3O hc
 have he : ((yM t c (yG t c.bins.toNat) c.rounds.toNat).1, (yM t c (yG t c.bins.toNat) c.rounds.toNat).2) = z0D t c := rfl
 rw [he] at hat
 clear he
 generalize z0D t c = x at *
 generalize z02 (fun k => (yM t c (yG t c.bins.toNat) k).1) (fun k => (yM t c (yG t c.bins.toNat) k).2) (c.rounds.toNat + 1) = l at *
 generalize c.rounds.toNat = n at *
 refine z6.intro hT (pf Tryz.func144) rfl (by kernel_rfl) Tryz.ntmps144 rfl ?_
 conv => whnf
 refine .inl ⟨_, _, _, hst, rfl, ?_⟩
 conv => whnf
 refine zE (k := n) (by rw [show nInt (dLen (eL cSx l)) = (l.length : Int) by simp, yB (by omega) (by omega)]; omega) hat ?_
 conv => whnf
 first | done | rfl
set_option maxHeartbeats 4000000 in
theorem z5k (t : Tbl) (c : Cfg) (ps : List Int) (ts : List (List Nd)) (hz : szT t) (ht : y8 t = true) (hc : z0v c = true) (hcl : c.signs.length ≤ 1048576) (hts : ts.length ≤ 1000) (htl : ∀ x ∈ ts, x.length ≤ 1000) :
  z6 PR z9O [aTb t, aCf c, aSt ps ts] (zEa (z8M t c ts)) [] 0 := by
 have hv := wG ht
 have hzn := hz.n
 have hok := z7m (z7c t c ts) hz.n hz.ns hcl (by show ts.length ≤ _; omega) (fun x hx => by have := htl x hx; omega)
 unfold z8M
 unfold z7c at hok ⊢
 refine z6.intro hT (pf Tryz.func145) rfl (by kernel_rfl) Tryz.ntmps145 rfl ?_
 conv => whnf
 refine .inl ⟨_, _, _, wA t hz, rfl, ?_⟩
 rw [ht]
 conv => whnf
 refine .inl ⟨_, _, _, yb c hcl, rfl, ?_⟩
 rw [hc]
 conv => whnf
 refine .inl ⟨_, _, _, z3a t.ys (by have := hv.yl; have := hv.r1; omega) (by have := hv.yl; have := hv.r40; omega) hv.yv, rfl, ?_⟩
 conv => whnf
 refine zZ 0 ?_
 conv => whnf
 refine zZ 1 ?_
 conv => whnf
 refine zZ 2 ?_
 conv => whnf
 refine zO hT hmix [6, 10] { t := [(6, .c (.ptr 0 0)), (10, .c (.ptr 1 0))], h := [(0, .box ye [.nl 1, .nl 1, .d (.int .i64 0), .nl 1]), (1, .box ye [.ref 2 0 none, .ref 3 0 none, .d (.int .i64 (z4y t.ys)), .ref 4 0 none]), (2, .arr yE 1 0 .own (eL cS t.names)), (3, .arr zW 1 0 .own (eL cI c.signs)), (4, .arr zL 1 0 .own (eL cT ts))], n := 5, N := 42 } rfl ?_ ?_
 ·repeat' first
   | (refine zR rfl ?_; (conv => whnf))
   | (refine zQ rfl ?_ ?_ <;> (conv => whnf))
   | (refine zC rfl ?_ ?_ ?_ <;> (conv => whnf))
   | (refine zo rfl ?_ ?_ ?_ ?_ <;> (conv => whnf))
   | (refine .inl ⟨_, _, _, z4O t.names (by omega), rfl, ?_⟩; (conv => whnf))
   | (refine .inl ⟨_, _, _, z0a c.signs (by omega), rfl, ?_⟩; (conv => whnf))
   | (refine .inl ⟨_, _, _, z3X ts (by omega) (fun x hx => by have := htl x hx; omega), rfl, ?_⟩; (conv => whnf))
   | (refine zP rfl ?_; (conv => whnf); simp only [wE, z7]; first | done | rfl)
   | (refine zP rfl ?_; (conv => whnf); first | done | rfl)
 conv => whnf
 refine .inl ⟨_, _, _, hok, rfl, ?_⟩
 cases hq : yI { names := t.names, signs := c.signs, base := z4y t.ys, trees := ts } with
 | true =>
  conv => whnf
  rw [if_pos rfl]
  first | done | rfl
 | false =>
  conv => whnf
  rw [if_neg (by decide)]
  simp only [zCY, zEa, cM, zg]
  first | done | rfl
set_option maxHeartbeats 4000000 in
theorem z4q (t : Tbl) (c : Cfg) (hz : szT t) (hcl : c.signs.length ≤ 1048576) : z6 PR z82 [aTb t, aCf c] (zEa (z61 t c)) [] 0 := by
 by_cases h : y8 t = true ∧ z0v c = true
 ·unfold z61
  rw [if_pos h]
  have hv := wG h.1
  have hc := z0u.1 h.2
  obtain ⟨⟨hb, hbb⟩, hn, hn1, hn8⟩ := z3O hc
  have hbst := zBJ t c hz h.1 h.2
  have hmf := z5k t c (z0D t c).1 (z0D t c).2 hz h.1 h.2 hcl (by unfold z0D; rw [yu]; omega) (fun x hx => by have := z4U hv hbb hc hn8 x hx; omega)
  generalize z8M t c (z0D t c).2 = r at *
  generalize z0D t c = x at *
  refine z6.intro hT (pf Tryz.func56) rfl (by kernel_rfl) Tryz.ntmps56 rfl ?_
  conv => whnf
  refine .inl ⟨_, _, _, hbst, rfl, ?_⟩
  conv => whnf
  refine .inl ⟨_, _, _, hmf, rfl, ?_⟩
  conv => whnf
  first | done | rfl
 ·unfold z61
  rw [if_neg h]
  have hbst := zDA t c hz hcl h
  refine z6.intro hT (pf Tryz.func56) rfl (by kernel_rfl) Tryz.ntmps56 rfl ?_
  conv => whnf
  refine .inl ⟨_, _, _, hbst, rfl, ?_⟩
  conv => whnf
  simp only [zCY, zEa, cM, zg]
  first | done | rfl
end Go.H.S
namespace Go.H.S
open Go Go.Proofs Go.H
attribute [local irreducible] Tri z6 zV zU zj zX
structure trainedP (t : Tbl) (c : Cfg) (m : Mdl) : Prop where
 tok : y8 t = true
 tv : tabV t
 cfg : cfgP c
 names : m.names = t.names
 signs : m.signs = c.signs
 base : m.base = z4y t.ys
 trees : m.trees = (z0D t c).2
 ok : yI m = true
theorem zHO {t : Tbl} {c : Cfg} {m : Mdl} (h : z61 t c = (m, true)) : trainedP t c m := by
 unfold z61 at h
 split at h
 ·rename_i q
  unfold z8M at h
  split at h
  ·rename_i q2
   have e := (Prod.mk.inj h).1
   subst e
   exact ⟨q.1, wG q.1, z0u.1 q.2, rfl, rfl, rfl, rfl, q2⟩
  ·exact absurd (Prod.mk.inj h).2 (by decide)
 ·exact absurd (Prod.mk.inj h).2 (by decide)
end Go.H.S
namespace Go.H.S
open Go Go.Proofs Go.H
attribute [local irreducible] Tri z6 zV zU zj zX
end Go.H.S
namespace Go.H.S
open Go Go.Proofs Go.H
attribute [local irreducible] Tri z6 zV zU zj zX
theorem z38 {t : List Nd} {ft : Int} (h : yC t ft = true) {row : List Int} (hr : ft ≤ row.length) : ∀ (m j : Nat), j < t.length → t.length - j ≤ m → ∃ l, yT t row m j = some l
 | 0, j, h1, h2 => by omega
 | m + 1, j, h1, h2 => by
  obtain ⟨n, hn⟩ := zH h1
  simp only [yT]
  rw [if_pos (by omega), show (j : Int).toNat = j by simp, hn]
  dsimp only
  split
  ·exact ⟨_, rfl⟩
  ·rename_i hf
   have hk := w6 h hn hf
   rw [if_pos (by omega)]
   obtain ⟨c, hc⟩ : ∃ c : Nat, (if goL row n = true then n.l else n.r) = c := ⟨(if goL row n = true then n.l else n.r).toNat, by split <;> omega⟩
   have hc2 : j < c ∧ c < t.length := by split at hc <;> omega
   obtain ⟨l, hl⟩ := z38 h hr m c (by omega) (by omega)
   rw [hc, hl]
   exact ⟨_, rfl⟩
end Go.H.S
namespace Go.H.S
open Go Go.Proofs Go.H
theorem zJw {t : List Nd} {ft : Int} (h : yC t ft = true) (hl : t.length ≤ 31) {j : Nat} (hj : j < t.length) : ∃ w, wayL t j = w ++ [(j : Int)] := by
 obtain ⟨l, hs, _⟩ := z1b h 31 j (by omega)
 have h2 := hs
 rw [yN, Option.map_eq_some_iff] at h2
 obtain ⟨r, _, rfl⟩ := h2
 exact ⟨r.reverse, by unfold wayL; rw [if_pos (by omega), hs]; simp⟩
theorem zKB {g : Grd} {t : List Nd} {ft : Int} (h : yC t ft = true) (hl : t.length ≤ 31) {j : Nat} {n : Nd} (hj : t[j]? = some n) (hf : n.f ≠ -1) {x : Int} (hx : n.l = x ∨ n.r = x) : yx g t x = z54 g t (yx g t j) j x := by
 have hk := w6 h hj hf
 have hjl := (List.getElem?_eq_some_iff.1 hj).1
 obtain ⟨w, hw⟩ := zJw h hl hjl
 unfold yx
 rw [zLB h hl hj hf hx (by omega) (by omega), hw, List.append_assoc, List.singleton_append, zCN]
structure SameN (g : Grd) (grads : List Int) (c : Cfg) (t t' : List Nd) (x : Nat) : Prop where
 rows : yx g t x = yx g t' x
 bd : zL7 g grads c t x = zL7 g grads c t' x
 lev : z0p t x = z0p t' x
end Go.H.S
namespace Go.H.S
open Go Go.Proofs Go.H
def z2C (t : List Nd) (row : List Int) (i : Int) : Bool := ((yT t row (t.length + 1) 0).getD []).contains i
def z2O (t : List Nd) (i : Int) (rows : List (List Int)) : List Int := (upTo rows.length).filter fun r => z2C t ((rows[r.toNat]?).getD []) i
def selN (row : List Int) (n : Nd) : Int := if goL row n = true then n.l else n.r
theorem z39 {t : List Nd} {row : List Int} {m : Nat} {x : Int} {l : List Int} (h : yT t row m x = some l) : ∃ (j : Nat) (n : Nd) (r : List Int), x = j ∧ t[j]? = some n ∧ l = x :: r ∧ ((n.f = -1 ∧ r = []) ∨ (n.f ≠ -1 ∧ ∃ m', m = m' + 1 ∧ yT t row m' (selN row n) = some r)) := by
 cases m with
 | zero => cases h
 | succ m =>
  simp only [yT] at h
  split at h
  ·rename_i h0
   obtain ⟨j, rfl⟩ : ∃ j : Nat, x = j := ⟨x.toNat, by omega⟩
   rw [show (j : Int).toNat = j by simp] at h
   split at h
   ·cases h
   ·rename_i n hn
    split at h
    ·rename_i hf
     cases h
     exact ⟨j, n, [], rfl, hn, rfl, .inl ⟨hf, rfl⟩⟩
    ·rename_i hf
     split at h
     ·simp only [Option.map_eq_some_iff] at h
      obtain ⟨r, hr, rfl⟩ := h
      exact ⟨j, n, r, rfl, hn, rfl, .inr ⟨hf, m, rfl, hr⟩⟩
     ·cases h
  ·cases h
theorem zCI {t : List Nd} {row : List Int} {j : Nat} {n : Nd} (hj : t[j]? = some n) (hf : n.f ≠ -1) : ∀ {m : Nat} {x : Int} {l : List Int}, yT t row m x = some l → (j : Int) ∈ l → selN row n ∈ l
 | 0, x, l, h, _ => by cases h
 | m + 1, x, l, h, hm => by
  obtain ⟨j', n', r, rfl, hn', rfl, hc⟩ := z39 h
  rcases List.mem_cons.1 hm with q | q
  ·obtain rfl : j = j' := by omega
   rw [hj] at hn'
   cases hn'
   rcases hc with ⟨hf', _⟩ | ⟨_, m', hm', hr⟩
   ·exact absurd hf' hf
   ·obtain ⟨j2, n2, r2, e, _, rfl, _⟩ := z39 hr
    simp
  ·rcases hc with ⟨_, rfl⟩ | ⟨_, m', hm', hr⟩
   ·cases q
   ·obtain rfl : m = m' := by omega
    exact List.mem_cons_of_mem _ (zCI hj hf hr q)
theorem zGj {t : List Nd} {row : List Int} {y : Int} : ∀ {m : Nat} {x : Int} {l : List Int}, yT t row m x = some l → y ∈ l → y = x ∨ ∃ (j : Nat) (n : Nd), (j : Int) ∈ l ∧ t[j]? = some n ∧ n.f ≠ -1 ∧ y = selN row n
 | 0, x, l, h, _ => by cases h
 | m + 1, x, l, h, hm => by
  obtain ⟨j', n', r, rfl, hn', rfl, hc⟩ := z39 h
  rcases List.mem_cons.1 hm with q | q
  ·exact .inl q
  ·rcases hc with ⟨_, rfl⟩ | ⟨hf', m', hm', hr⟩
   ·cases q
   ·obtain rfl : m = m' := by omega
    rcases zGj hr q with h1 | ⟨j, n, h1, h2, h3, h4⟩
    ·exact .inr ⟨j', n', by simp, hn', hf', h1⟩
    ·exact .inr ⟨j, n, List.mem_cons_of_mem _ h1, h2, h3, h4⟩
theorem zFu {t : List Nd} {ft : Int} (h : yC t ft = true) {row : List Int} (hr : ft ≤ row.length) (h1 : 1 ≤ t.length) : z2C t row 0 = true := by
 obtain ⟨l, hl⟩ := z38 h hr (t.length + 1) 0 h1 (by omega)
 unfold z2C
 rw [show ((0 : Nat) : Int) = 0 from rfl] at hl
 rw [hl]
 obtain ⟨_, _, _, _, _, rfl, _⟩ := z39 hl
 simp
theorem zHW {t : List Nd} {ft : Int} (h : yC t ft = true) {row : List Int} (hr : ft ≤ row.length) {j : Nat} {n : Nd} (hj : t[j]? = some n) (hf : n.f ≠ -1) {x : Int} (hx : n.l = x ∨ n.r = x) : z2C t row x = (z2C t row j && decide (selN row n = x)) := by
 have hjl := (List.getElem?_eq_some_iff.1 hj).1
 obtain ⟨l, hl⟩ := z38 h hr (t.length + 1) 0 (by omega) (by omega)
 rw [show ((0 : Nat) : Int) = 0 from rfl] at hl
 unfold z2C
 rw [hl, Option.getD_some, Bool.eq_iff_iff, Bool.and_eq_true, List.contains_iff_mem, List.contains_iff_mem, decide_eq_true_eq]
 have hk := w6 h hj hf
 constructor
 ·intro hm
  rcases zGj hl hm with q | ⟨j2, n2, h1, h2, h3, h4⟩
  ·omega
  ·have hx2 : n2.l = x ∨ n2.r = x := by
    rw [h4]
    unfold selN
    split
    ·exact .inl rfl
    ·exact .inr rfl
   obtain rfl := zCG h hj h2 hf h3 hx hx2
   rw [hj] at h2
   cases h2
   exact ⟨h1, h4.symm⟩
 ·intro ⟨hm, he⟩
  rw [← he]
  exact zCI hj hf hl hm
theorem zCw {ft : Int} : ∀ {l : List Nd} {i next m : Int}, yK ft l i next = some m → ∀ x, next ≤ x → x < m → ∃ (j : Nat) (n : Nd), l[j]? = some n ∧ n.f ≠ -1 ∧ (n.l = x ∨ n.r = x)
 | [], i, next, m, h, x, h1, h2 => by simp [yK] at h; omega
 | n :: r, i, next, m, h, x, h1, h2 => by
  simp only [yK] at h
  split at h
  ·split at h
   ·cases h
   ·obtain ⟨j, n', a, b, c⟩ := zCw h x h1 h2
    exact ⟨j + 1, n', by simpa using a, b, c⟩
  ·rename_i hf
   split at h
   ·cases h
   ·rename_i hb
    simp [zw] at hb
    by_cases hx : x = next ∨ x = next + 1
    ·exact ⟨0, n, rfl, hf, by omega⟩
    ·obtain ⟨j, n', a, b, c⟩ := zCw h x (by omega) h2
     exact ⟨j + 1, n', by simpa using a, b, c⟩
theorem z8C {u v : Int} (h : u ≤ v) : ∀ l : List Int, y7 l u ≤ y7 l v
 | [] => by simp [y7]
 | c :: r => by
  have := z8C h r
  simp only [y7]
  split <;> split <;> omega
theorem zHI {c v : Int} (h : c < v) : ∀ {l : List Int}, c ∈ l → y7 l c < y7 l v
 | x :: r, hm => by
  simp only [y7]
  rcases List.mem_cons.1 hm with q | q
  ·subst q
   have := z8C (Int.le_of_lt h) r
   rw [if_neg (by omega), if_pos h]
   omega
  ·have := zHI h q
   split <;> split <;> omega
theorem zJh {l : List Int} {c : Int} (hc : c ∈ l) (v : Int) : y7 l v ≤ y7 l c ↔ v ≤ c := by
 constructor
 ·intro h
  rcases Int.lt_or_le c v with q | q
  ·have := zHI q hc; omega
  ·exact q
 ·intro h
  exact z8C h l
theorem zEq {t : Tbl} (hv : tabV t) {b : Nat} {x : List Nd} (hs : yC x t.names.length = true) (hl : x.length ≤ 31) (hc : ∀ n ∈ x, ∀ f : Nat, n.f = (f : Int) → f < t.names.length → n.c ∈ z1t t b f) :
  ∀ (d j : Nat), j ≤ d → j < x.length → yx (yG t b) x j = z2O x j t.rows
 | d, 0, _, hj => by
  have e : z2O x ((0 : Nat) : Int) t.rows = upTo t.rows.length := by
   unfold z2O
   rw [List.filter_eq_self]
   intro r hr
   simp only [upTo, List.mem_map, List.mem_range] at hr
   obtain ⟨i, hi, rfl⟩ := hr
   obtain ⟨row, hrow⟩ := zH hi
   rw [Int.toNat_natCast, hrow]
   exact zFu hs (by have := hv.cols row (List.mem_of_getElem? hrow); simp; omega) hj
  rw [e]
  unfold yx
  rw [show ((0 : Nat) : Int) = 0 from rfl, zJv hs hj, z7u hv]
  have h1 := hv.r1
  have h2 := hv.r40
  simp only [z41, zx]
  rw [if_pos (by omega), Int.toNat_natCast]
 | 0, j + 1, h, _ => by omega
 | d + 1, j + 1, h, hj => by
  have hsl : yK t.names.length x 0 1 = some (x.length : Int) := by simpa [yC] using hs
  obtain ⟨p, n, hp, hf, hx⟩ := zCw hsl ((j + 1 : Nat) : Int) (by omega) (by omega)
  have hk := w6 hs hp hf
  have hpl := (List.getElem?_eq_some_iff.1 hp).1
  have ih := zEq hv hs hl hc d p (by omega) hpl
  rw [zKB hs hl hp hf hx, ih]
  obtain ⟨f, hnf⟩ : ∃ f : Nat, n.f = (f : Int) := ⟨n.f.toNat, by omega⟩
  have hft : f < t.names.length := by omega
  have hcut := hc n (List.mem_of_getElem? hp) f hnf hft
  unfold z54
  rw [Int.toNat_natCast, hp]
  dsimp only
  rw [hnf, Int.toNat_natCast, zEO hft, zER hft]
  dsimp only
  have key : ∀ r ∈ upTo t.rows.length, wO (z9Q t b f) (y7 (z1t t b f) n.c) r = some (goL ((t.rows[r.toNat]?).getD []) n) := by
   intro r hr
   simp only [upTo, List.mem_map, List.mem_range] at hr
   obtain ⟨i, hi, rfl⟩ := hr
   obtain ⟨row, hrow⟩ := zH hi
   unfold wO
   rw [if_pos (by rw [z75]; omega), Int.toNat_natCast, hrow]
   have e1 : (z9Q t b f)[i]? = some ((y7 (z1t t b f) (zHT row n.f) : Nat) : Int) := by
    unfold z9Q y0
    rw [List.getElem?_map, List.getElem?_map, hrow]
    simp [zHT, hnf]
   rw [e1]
   simp only [Option.map_some, Option.getD_some, Option.some.injEq]
   unfold goL iLe
   rw [decide_eq_decide]
   have := zJh hcut (zHT row n.f)
   omega
  have hpass : ∀ r ∈ upTo t.rows.length, z2C x ((t.rows[r.toNat]?).getD []) ((j + 1 : Nat) : Int) = (z2C x ((t.rows[r.toNat]?).getD []) p && decide (selN ((t.rows[r.toNat]?).getD []) n = ((j + 1 : Nat) : Int))) := by
   intro r hr
   simp only [upTo, List.mem_map, List.mem_range] at hr
   obtain ⟨i, hi, rfl⟩ := hr
   obtain ⟨row, hrow⟩ := zH hi
   rw [Int.toNat_natCast, hrow]
   exact zHW hs (by have := hv.cols row (List.mem_of_getElem? hrow); simp; omega) hp hf hx
  unfold z2O
  by_cases q : n.l = ((j + 1 : Nat) : Int)
  ·rw [if_pos q]
   unfold zp
   dsimp only
   rw [List.filter_filter]
   apply List.filter_congr
   intro r hr
   rw [hpass r hr, key r hr, Bool.and_comm]
   congr 1
   rw [decide_eq_decide]
   unfold selN
   cases goL ((t.rows[r.toNat]?).getD []) n with
   | true => simp [q]
   | false => simp; omega
  ·rw [if_neg q]
   unfold zp
   dsimp only
   rw [List.filter_filter]
   apply List.filter_congr
   intro r hr
   rw [hpass r hr, key r hr, Bool.and_comm]
   congr 1
   rw [decide_eq_decide]
   unfold selN
   cases goL ((t.rows[r.toNat]?).getD []) n with
   | true => simp; omega
   | false => simp; omega
end Go.H.S
namespace Go.H.S
open Go Go.Proofs Go.H
attribute [local irreducible] Tri z6 zV zU zj zX
abbrev rpTr (t : List Nd) : AV := .c (.d (.rp [.sl 5 (eL cN t)]))
theorem zFs (t : List Nd) (i : Int) (rows : List (List Int)) : (z2O t i rows).length ≤ rows.length := by
 unfold z2O
 have := List.length_filter_le (fun (r : Int) => z2C t ((rows[r.toNat]?).getD []) i) (upTo rows.length)
 rw [z30] at this
 exact this
def z5c (t : List Nd) (i : Int) (rows : List (List Int)) (k : Nat) : List Int := (upTo k).filter fun r => z2C t ((rows[r.toNat]?).getD []) i
theorem zFt (t : List Nd) (i : Int) (rows : List (List Int)) (k : Nat) : (z5c t i rows k).length ≤ k := by
 unfold z5c
 have := List.length_filter_le (fun (r : Int) => z2C t ((rows[r.toNat]?).getD []) i) (upTo k)
 rw [z30] at this
 exact this
theorem zEr {t : List Nd} {i : Int} {rows : List (List Int)} {k : Nat} {r : List Int} (h : rows[k]? = some r) : z5c t i rows (k + 1) = z5c t i rows k ++ (if z2C t r i then [(k : Int)] else []) := by
 unfold z5c
 rw [z3p, List.filter_append]
 congr 1
 rw [List.filter_cons, Int.toNat_natCast, h]
 simp
set_option maxHeartbeats 4000000 in
theorem z8x (t : List Nd) (i : Int) (rows : List (List Int)) (hl : t.length ≤ 1000) (hr : rows.length ≤ 1000) (hrl : ∀ r ∈ rows, r.length ≤ 1000) (hro : ∀ r ∈ rows, ∃ l, yT t r (t.length + 1) 0 = some l) : z6 PR zE0 [aT t, ai i, aIss rows] (.c (.ref 0 0 none)) [(0, .arr zW 1 0 .own (eL cI (z2O t i rows)))] 1 := by
 have eR : nInt (dLen (eL cIs rows)) = (rows.length : Int) := by simp
 refine z6.intro hT (pf Tryz.func77) rfl (by kernel_rfl) Tryz.ntmps77 rfl ?_
 conv => whnf
 refine zZ 0 ?_
 conv => whnf
 refine zB hT [1, 3, 7, 11, 12, 13] (α := Nat) (fun k => { t := [(1, ai i), (3, rpTr t), (7, .c (.ref 0 0 none)), (11, aIss rows), (12, ai rows.length), (13, ai k)], h := [(0, .arr zW 1 0 .own (eL cI (z5c t i rows k)))], n := 1, N := 29 })
  (fun k => k ≤ rows.length) (fun k => rows.length - k) 0 (by (conv => whnf); simp only [z5c, upTo, List.range_zero, List.map_nil, List.filter_nil, zg]; first | done | rfl | (rw [eR]; rfl)) (Nat.zero_le _) ?_
 intro k hk
 conv => whnf
 refine zK (fun q => ?_) (fun q => ?_) <;> (conv => whnf) <;> simp only [eH] at q
 ·obtain ⟨r, hrk⟩ := zH (show k < rows.length by omega)
  have hrm := List.mem_of_getElem? hrk
  obtain ⟨l, hl1⟩ := hro r hrm
  have hlen := zFt t i rows k
  have hstep := zEr (t := t) (i := i) hrk
  have hp : z2C t r i = decide (i ∈ l) := by unfold z2C; rw [hl1, Option.getD_some, Bool.eq_iff_iff]; simp
  obtain ⟨_, _, _, _, _, _, hll⟩ := z0g hl1
  refine zE (by simp) hrk ?_
  conv => whnf
  refine .inr ⟨_, _, _, _, _, z45 t r (by omega) (by have := hrl r hrm; omega), fun x hx => ⟨by cases x <;> rfl, ?_⟩⟩
  rw [hl1] at hx
  subst hx
  conv => whnf
  refine .inl ⟨_, _, _, z4p l i (by omega), rfl, ?_⟩
  rw [hp] at hstep
  generalize decide (i ∈ l) = b at *
  cases b with
  | true =>
   conv => whnf
   refine And.intro (by simp [zF, zS]; omega) ?_
   conv => whnf
   refine ⟨k + 1, by omega, by omega, ?_⟩
   ((conv => whnf); simp only [eS, wI (show k < rows.length by omega) (by omega)])
   rw [hstep, if_pos rfl, ← zY]
   first | exact ⟨rfl, rfl⟩ | rfl
  | false =>
   conv => whnf
   refine ⟨k + 1, by omega, by omega, ?_⟩
   ((conv => whnf); simp only [eS, wI (show k < rows.length by omega) (by omega)])
   rw [hstep, if_neg (by decide), List.append_nil]
   first | done | exact ⟨rfl, rfl⟩ | rfl
 ·obtain rfl : k = rows.length := by omega
  first | done | rfl
theorem zEc {t : Tbl} {c : Cfg} {m : Mdl} (hp : trainedP t c m) {x : List Nd} (hx : x ∈ m.trees) {j : Nat} (hj : j < x.length) :
  z2n (yG t c.bins.toNat) x j = z2O x j t.rows ∧ x.length ≤ 31 ∧ ∀ r ∈ t.rows, ∃ l, yT x r (x.length + 1) 0 = some l := by
 obtain ⟨⟨hb, hbb⟩, hn, hn1, hn8⟩ := z3O hp.cfg
 have hok := z6Q hp.ok x hx
 rw [hp.names] at hok
 have hok2 := hok
 simp only [yZ, Bool.and_eq_true, decide_eq_true_eq] at hok2
 obtain ⟨⟨hl1, hl31⟩, _, hs, _⟩ := hok2
 have hgc : (yG t c.bins.toNat).cuts.length = t.names.length := z2w t _ _
 have hcut : ∀ n ∈ x, ∀ f : Nat, n.f = (f : Int) → f < t.names.length → n.c ∈ z1t t c.bins.toNat f := fun n hn f hf hft => by
  rw [hp.trees] at hx
  obtain ⟨i, hi⟩ := List.getElem?_of_mem hx
  have hik : i < c.rounds.toNat := by have := (List.getElem?_eq_some_iff.1 hi).1; unfold z0D at this; rw [yu] at this; exact this
  obtain rfl := Option.some.inj ((z9f t c _ _ i hik).symm.trans hi)
  simp only [shrT, List.mem_map] at hn
  obtain ⟨n0, hn0, rfl⟩ := hn
  have e1 : (shrN c n0).f = n0.f := by unfold shrN; split <;> rfl
  have e2 : (shrN c n0).c = n0.c := by unfold shrN; split <;> rfl
  rw [e1] at hf
  rw [e2, ← zLs hft]
  exact zJ0 (z9T hp.tv hbb hp.cfg (k := i) (by omega)) hn0 hf
 have hrows := zEq hp.tv hs (by omega) hcut j j (Nat.le_refl _) hj
 refine ⟨?_, by omega, fun r hr => ?_⟩
 ·unfold z2n
  rw [if_pos ⟨z2I (zH2 hp.tv hbb), by rw [hgc]; exact hok, by omega, by omega⟩]
  exact hrows
 ·have := z38 hs (row := r) (by rw [hp.tv.cols r hr]; exact Int.le_refl _) (x.length + 1) 0 (by omega) (by omega)
  simpa using this
set_option maxHeartbeats 4000000 in
theorem law_FnNodeRows (code : List Int) (hm : code.length ≤ 9223372036854775807 ∧ ∀ y ∈ code, 0 ≤ y ∧ y ≤ 255) : z6 PR z81 [.c (.d (.sl 1 (eL cU code)))] (ab true) [] 0 := by
 refine z6.intro hT (pf Tryz.func12) rfl (by kernel_rfl) Tryz.ntmps12 rfl ?_
 conv => whnf
 refine .inl ⟨_, _, _, zD8 code, rfl, ?_⟩
 conv => whnf
 refine zK (fun h => ?_) (fun h => ?_) <;> (conv => whnf) <;> simp only [eH] at h
 have hl : code.length ≤ 1048576 := by omega
 refine .inr ⟨_, _, _, _, _, z2g code hl, fun ⟨t, c⟩ ⟨hst, hcl⟩ => ⟨rfl, ?_⟩⟩
 dsimp only at hst hcl
 conv => whnf
 have hz := smT_sz hst
 have htm := z4k t c hz (by omega)
 have htm2 := z4q t c hz (by omega)
 have hfin := @zHO t c
 generalize z61 t c = r at *
 obtain ⟨m, ok⟩ := r
 refine .inl ⟨_, _, _, htm, rfl, ?_⟩
 conv => whnf
 cases ok with
 | false =>
  conv => whnf
  refine .inl ⟨_, _, _, htm2, rfl, ?_⟩
  conv => whnf
  first | done | rfl
 | true =>
  have hp := hfin rfl
  obtain ⟨⟨hb, hbb⟩, hn, hn1, hn8⟩ := z3O hp.cfg
  have hmt : m.trees.length = c.rounds.toNat := by rw [hp.trees]; unfold z0D; rw [yu]
  have htr := @zEc t c m hp
  have hr40 := hp.tv.r40
  have hrc : ∀ r ∈ t.rows, r.length ≤ 1000 := fun r hr => by rw [hp.tv.cols r hr]; have := hp.tv.n4; omega
  have hgsm := zDF hp.tv hbb.2
  have hgrid := z33 t c.bins.toNat hbb hp.tok hz.n hz.ns hz.tg hz.r hz.c hz.y
  rw [← hb] at hgrid
  have hmr := z6Q hp.ok
  clear hfin htm htm2 hp
  generalize yG t c.bins.toNat = g at *
  have eT : nInt (dLen (eL cT m.trees)) = (m.trees.length : Int) := by simp
  conv => whnf
  rw [eT, show iEq (m.trees.length : Int) 0 = false from decide_eq_false (by omega)]
  conv => whnf
  refine .inl ⟨_, _, _, hgrid, rfl, ?_⟩
  conv => whnf
  refine zZ 0 ?_
  conv => whnf
  refine zZ 1 ?_
  conv => whnf
  refine zZ 2 ?_
  conv => whnf
  refine zZ 3 ?_
  conv => whnf
  refine yY hT hmix [3, 9, 10] (Y := List Nd) (fun x => x ∈ m.trees) (fun x => { t := [(3, rpTb t), (9, rpG g), (10, .c (.ptr 0 0))], h := [(0, .box zL (cTr x))], n := 1, N := 86 }) rfl ?_ ?_
  ·repeat' first
    | (refine zR rfl ?_; (conv => whnf))
    | (refine zQ rfl ?_ ?_ <;> (conv => whnf))
    | (refine zC rfl ?_ ?_ ?_ <;> (conv => whnf))
    | (refine zo rfl ?_ ?_ ?_ ?_ <;> (conv => whnf))
    | (refine .inr ⟨_, _, _, _, _, zD9 code 1 hl (by omega) hm.2, fun z hz => ⟨rfl, ?_⟩⟩; (conv => whnf))
    | (rw [eT]; refine And.intro (by unfold NZ; omega) ?_; (conv => whnf))
    | (refine And.intro (by unfold NZ; omega) ?_; (conv => whnf))
    | (obtain ⟨x, hx⟩ := zH (l := m.trees) (k := (wRem z (m.trees.length : Int)).toNat) (by have := z5w (x := z) (n := (m.trees.length : Int)) hz.1 (by omega); omega); refine zE (k := (wRem z (m.trees.length : Int)).toNat) (by have := z5w (x := z) (n := (m.trees.length : Int)) hz.1 (by omega); omega) hx ?_; (conv => whnf))
    | (refine zP rfl ?_; refine ⟨x, List.mem_of_getElem? hx, ?_⟩; (conv => whnf); first | done | rfl)
  ·intro x hx
   conv => whnf
   have hx31 : x.length ≤ 31 := by have := hmr x hx; simp only [yZ, Bool.and_eq_true, decide_eq_true_eq] at this; omega
   refine zZ 0 ?_
   conv => whnf
   refine zB hT [3, 9, 10, 11] (α := Nat) (fun k => { t := [(3, rpTb t), (9, rpG g), (10, rpTr x), (11, ai k)], h := [], n := 0, N := 86 })
    (fun k => k ≤ x.length) (fun k => x.length - k) 0 (by (conv => whnf); first | done | rfl) (Nat.zero_le _) ?_
   intro k hk
   conv => whnf
   refine zK (fun q => ?_) (fun q => ?_) <;> (conv => whnf) <;> simp only [eH] at q
   obtain ⟨hN, _, hro⟩ := htr hx (j := k) (by omega)
   have c1 := z6e g x k hgsm (by omega)
   have c2 := z68 g x k hgsm (by omega)
   have c3 := z8x x k t.rows (by omega) (by omega) hrc hro
   have hNl := zFs x k t.rows
   have c4 := z6V (z2O x k t.rows) (by omega)
   rw [hN] at c1 c2
   generalize z2O x k t.rows = N at *
   refine zO hT hmix [3, 9, 10, 11, 85] { t := [(3, rpTb t), (9, rpG g), (10, rpTr x), (11, ai k), (85, ab false)], h := [], n := 0, N := 86 } rfl ?_ ?_
   ·repeat' first
     | (refine zR rfl ?_; (conv => whnf))
     | (refine zQ rfl ?_ ?_ <;> (conv => whnf))
     | (refine zC rfl ?_ ?_ ?_ <;> (conv => whnf))
     | (refine zo rfl ?_ ?_ ?_ ?_ <;> (conv => whnf))
     | (refine .inl ⟨_, _, _, c1, rfl, ?_⟩; (conv => whnf))
     | (refine .inl ⟨_, _, _, c2, rfl, ?_⟩; (conv => whnf))
     | (refine .inl ⟨_, _, _, c3, rfl, ?_⟩; (conv => whnf))
     | (refine .inl ⟨_, _, _, c4, rfl, ?_⟩; (conv => whnf))
     | (refine zP rfl ?_; (conv => whnf); first | done | rfl)
   conv => whnf
   refine ⟨k + 1, by omega, by omega, ?_⟩
   ((conv => whnf); simp only [eS, wI (show k < x.length by omega) (by omega)])
   first | done | rfl
end Go.H.S
