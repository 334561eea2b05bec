/- Library, part SF: training (the reference's). -/
import Derived.Test.YtdolkacinfjhcaaGreatLSG
import Derived.Test.YtdolkacinfjhcaaGreatLPL
import Derived.Test.YtdolkacinfjhcaaGreatLNC
import Derived.Test.YtdolkacinfjhcaaGreatLPE
import Derived.Test.YtdolkacinfjhcaaGreatLPR
set_option maxRecDepth 100000
set_option linter.unusedSimpArgs false
set_option linter.unusedVariables false
namespace Go.H.S
open Go Go.Proofs Go.H
attribute [local irreducible] Tri z6 zR zV zY zW
abbrev rpSt (ps : List Int) (ts : List (List Nd)) : AV := .c (.d (.rp [.sl 1 (eL cI ps), .sl 1 (eL cT ts)]))
theorem z3G {c : Cfg} (hc : cfgP c) : (c.bins = (c.bins.toNat : Int) ∧ 2 ≤ c.bins.toNat ∧ c.bins.toNat ≤ 8) ∧ c.rounds = (c.rounds.toNat : Int) ∧ 1 ≤ c.rounds.toNat ∧ c.rounds.toNat ≤ 8 := by
 have := (wE c).1 hc.1
 omega
theorem z4G {t : Tbl} {c : Cfg} {b : Nat} (hv : tabV t) (hb : 2 ≤ b ∧ b ≤ 8) (hc : cfgP c) {k : Nat} (hk : k ≤ 8) : ∀ x ∈ (zm t c (zi t b) k).2, x.length ≤ 31 := by
 intro x hx
 obtain ⟨i, hi⟩ := List.getElem?_of_mem hx
 have hik : i < k := by have := (List.getElem?_eq_some_iff.1 hi).1; rw [wJ] at this; exact this
 obtain rfl := Option.some.inj ((zEk t c _ k i hik).symm.trans hi)
 simp only [shrT, List.length_map]
 exact (yz (z9I hv hb hc (k := i) (by omega))).2.2
end Go.H.S
namespace Go.H.S
open Go Go.Proofs Go.H
attribute [local irreducible] Tri z6 zR zV zY zW
def z49 (x : Int) : Bool := bNot (decide (-2147483647 ≤ x ∧ x ≤ 2147483647))
def z3n (n : Nat) (r : List Int) : Bool := if decide (r.length = n) then r.any z49 else true
def zGt (t : Tbl) : Bool := !(decide (1 ≤ (t.names.length : Int) ∧ (t.names.length : Int) ≤ 4) && (yq (t.names ++ [t.target]) (t.names ++ [t.target]) 0 && (decide (1 ≤ (t.rows.length : Int) ∧ (t.rows.length : Int) ≤ 40) && (decide (t.ys.length = t.rows.length) && !t.ys.any z49))))
theorem zJl (x : Int) : z49 x = !z1s x := by
 unfold z49 z1s
 cases decide (-2147483647 ≤ x ∧ x ≤ 2147483647) <;> rfl
theorem zKO (l : List Int) : l.any z49 = !l.all z1s := by
 induction l with
 | nil => rfl
 | cons x r ih => rw [List.any_cons, List.all_cons, ih, zJl, Bool.not_and]
theorem zIs (n : Nat) (r : List Int) : z3n n r = !(decide (r.length = n) && r.all z1s) := by
 unfold z3n
 rw [zKO]
 cases decide (r.length = n) <;> simp
theorem z9u (x : ByteArray) (all : List ByteArray) : ∀ (l : List ByteArray) (k : Nat), k + l.length ≤ all.length → yq (all ++ [x]) (l ++ [x]) k = (yq all l k && (z01 x && !hasS x ((all ++ [x]).take (k + l.length))))
 | [], k, _ => by simp [yq]
 | s :: r, k, h => by
  simp only [List.length_cons] at h
  simp only [List.cons_append, yq]
  rw [z9u x all r (k + 1) (by omega), List.take_append_of_le_length (by omega), List.length_cons, show k + 1 + r.length = k + (r.length + 1) by omega]
  simp only [Bool.and_assoc]
theorem zDC (t : Tbl) : yq (t.names ++ [t.target]) (t.names ++ [t.target]) 0 = (yq t.names t.names 0 && (z01 t.target && !hasS t.target t.names)) := by
 rw [z9u t.target t.names t.names 0 (by omega), Nat.zero_add, List.take_left]
theorem z9i (n : Nat) (ys : List Int) : ∀ (rows : List (List Int)) (k : Nat), k + rows.length = ys.length → z0y n ys rows k = ((ys.drop k).all z1s && !rows.any (z3n n))
 | [], k, h => by
  simp only [z0y, List.any_nil, Bool.not_false, Bool.and_true]
  rw [List.drop_eq_nil_of_le (by simp at h; omega)]
  rfl
 | r :: rest, k, h => by
  simp only [List.length_cons] at h
  simp only [z0y]
  obtain ⟨y, hy⟩ := zI (show k < ys.length by omega)
  rw [z9i n ys rest (k + 1) (by omega), hy, yj hy, List.all_cons, List.any_cons, zIs, Option.getD_some]
  cases decide (r.length = n) <;> cases z1s y <;> cases r.all z1s <;> cases (ys.drop (k + 1)).all z1s <;> cases rest.any (z3n n) <;> rfl
theorem zEo (t : Tbl) : y1 t = (!zGt t && !t.rows.any (z3n t.names.length)) := by
 unfold y1 zGt
 rw [zDC, zKO]
 by_cases h : t.ys.length = t.rows.length
 ·rw [z9i t.names.length t.ys t.rows 0 (by omega), List.drop_zero]
  cases decide (1 ≤ (t.names.length : Int) ∧ (t.names.length : Int) ≤ 4) <;> cases z01 t.target <;> cases hasS t.target t.names <;> cases decide (1 ≤ (t.rows.length : Int) ∧ (t.rows.length : Int) ≤ 40) <;> cases decide (t.ys.length = t.rows.length) <;> cases yq t.names t.names 0 <;> cases t.ys.all z1s <;> cases t.rows.any (z3n t.names.length) <;> rfl
 ·rw [decide_eq_false h]
  cases decide (1 ≤ (t.names.length : Int) ∧ (t.names.length : Int) ≤ 4) <;> cases z01 t.target <;> cases hasS t.target t.names <;> cases decide (1 ≤ (t.rows.length : Int) ∧ (t.rows.length : Int) ≤ 40) <;> cases yq t.names t.names 0 <;> cases t.ys.all z1s <;> cases t.rows.any (z3n t.names.length) <;> rfl
theorem z5Q (t : Tbl) (r : List Int) (hr : r.length ≤ 1048576) : z6 PR z3V [aIs r, rpTb t] (ab (z3n t.names.length r)) [] 0 := by
 have eR : nInt (dLen (eL cI r)) = (r.length : Int) := by simp
 have eN : nInt (dLen (eL cS t.names)) = (t.names.length : Int) := by simp
 have eD : z3n t.names.length r = if decide (r.length = t.names.length) then r.any z49 else true := rfl
 rw [eD]
 refine z6.intro hT (pf Tryz.func254) rfl (by kernel_rfl) Tryz.ntmps254 rfl ?_
 conv => whnf
 rw [eR, eN]
 by_cases h : r.length = t.names.length
 ·rw [show iEq (r.length : Int) (t.names.length : Int) = true from decide_eq_true (by omega), decide_eq_true h, if_pos rfl]
  conv => whnf
  refine .inl ⟨_, _, _, wO r hr, rfl, ?_⟩
  conv => whnf
  rw [show (r.any fun x => bNot (decide (-2147483647 ≤ x ∧ x ≤ 2147483647))) = r.any z49 from rfl]
  cases r.any z49 <;> (conv => whnf) <;> rfl
 ·rw [show iEq (r.length : Int) (t.names.length : Int) = false from decide_eq_false (by omega), decide_eq_false h, if_neg (by decide)]
  conv => whnf
set_option maxHeartbeats 4000000 in
theorem wV (t : Tbl) (hz : szT t) : z6 PR zBn [aTb t] (ab (y1 t)) [] 0 := by
 have eR : nInt (dLen (eL cIs t.rows)) = (t.rows.length : Int) := by simp
 have eN : nInt (dLen (eL cS t.names)) = (t.names.length : Int) := by simp
 have eY : nInt (dLen (eL cI t.ys)) = (t.ys.length : Int) := by simp
 have hz1 := hz.n
 have hzr := hz.r
 have hzy := hz.y
 have hcl := zAs t.names (by omega)
 have hnm : (decide (1 ≤ (t.names.length : Int) ∧ (t.names.length : Int) ≤ 4)) = true → z6 PR z42 [aSs (t.names ++ [t.target])] (ab (yq (t.names ++ [t.target]) (t.names ++ [t.target]) 0)) [] 0 := fun h => z6B (t.names ++ [t.target]) (by simp at h; simp; omega) (fun s hs => by
  rcases List.mem_append.1 hs with h | h
  ·exact hz.ns s h
  ·simp at h; subst h; exact hz.tg)
 have hdc := wO t.ys hzy
 rw [show (t.ys.any fun x => bNot (decide (-2147483647 ≤ x ∧ x ≤ 2147483647))) = t.ys.any z49 from rfl] at hdc
 have hcf := z0P t.rows z3V (.rp [.sl 1 (eL cS t.names), .str t.target, .sl 1 (eL cIs t.rows), .sl 1 (eL cI t.ys)]) (z3n t.names.length) (fun r hr => z5Q t r (hz.c r hr)) (by omega)
 have hq : zGt t = !(decide (1 ≤ (t.names.length : Int) ∧ (t.names.length : Int) ≤ 4) && (yq (t.names ++ [t.target]) (t.names ++ [t.target]) 0 && (decide (1 ≤ (t.rows.length : Int) ∧ (t.rows.length : Int) ≤ 40) && (decide (t.ys.length = t.rows.length) && !t.ys.any z49)))) := rfl
 rw [zEo]
 have hlen : iEq (nInt (dLen (eL cI t.ys))) (nInt (dLen (eL cIs t.rows))) = decide (t.ys.length = t.rows.length) := by rw [eY, eR]; unfold iEq; rw [decide_eq_decide]; omega
 generalize t.rows.any (z3n t.names.length) = q9 at *
 generalize t.ys.any z49 = b5 at *
 generalize yq (t.names ++ [t.target]) (t.names ++ [t.target]) 0 = b2 at *
 generalize hb1 : decide (1 ≤ (t.names.length : Int) ∧ (t.names.length : Int) ≤ 4) = b1 at *
 generalize hb3 : decide (1 ≤ (t.rows.length : Int) ∧ (t.rows.length : Int) ≤ 40) = b3 at *
 generalize decide (t.ys.length = t.rows.length) = b4 at *
 generalize zGt t = bad at *
 have hn5 : b1 = true → t.names.length + 1 ≤ 1048576 := fun h => by rw [← hb1] at h; simp at h; omega
 have hcases : (b1 = false ∧ bad = true) ∨ (b1 = true ∧ b2 = false ∧ bad = true) ∨ (b1 = true ∧ b2 = true ∧ b3 = false ∧ bad = true) ∨ (b1 = true ∧ b2 = true ∧ b3 = true ∧ b4 = false ∧ bad = true) ∨ (b1 = true ∧ b2 = true ∧ b3 = true ∧ b4 = true ∧ bad = b5) := by
  subst hq
  clear hnm hdc hlen hcf hcl hb1 hb3 hn5
  cases b1 <;> cases b2 <;> cases b3 <;> cases b4 <;> cases b5 <;> decide
 refine z6.intro hT (pf Tryz.func154) rfl (by kernel_rfl) Tryz.ntmps154 rfl ?_
 conv => whnf
 refine zj 0 ?_
 conv => whnf
 refine zJ hT hmix [1, 40] { t := [(1, rpTb t), (40, ab bad)], h := [], n := 0, N := 46 } rfl ?_ ?_
 ·rcases hcases with ⟨h1, hb⟩ | ⟨h1, h2, hb⟩ | ⟨h1, h2, h3, hb⟩ | ⟨h1, h2, h3, h4, hb⟩ | ⟨h1, h2, h3, h4, hb⟩ <;>
  repeat' first
   | (refine zM rfl ?_; (conv => whnf))
   | (refine zL rfl ?_ ?_ <;> (conv => whnf))
   | (refine zC rfl ?_ ?_ ?_ <;> (conv => whnf))
   | (refine zw rfl ?_ ?_ ?_ ?_ <;> (conv => whnf))
   | (rw [hlen, h4]; (conv => whnf))
   | (rw [eN]; refine .inl ⟨_, _, _, zP _ _ _, rfl, ?_⟩; rw [hb1, h1]; (conv => whnf))
   | (rw [eR]; refine .inl ⟨_, _, _, zP _ _ _, rfl, ?_⟩; rw [hb3, h3]; (conv => whnf))
   | (refine .inl ⟨_, _, _, hcl, rfl, ?_⟩; (conv => whnf))
   | (refine And.intro (by have := hn5 h1; simp [z7, zE, zQ]; omega) ?_; (conv => whnf); simp only [z7]; rw [show dApp (eL cS t.names) [[D.str t.target]] = eL cS (t.names ++ [t.target]) from zX cS _ _])
   | (refine .inl ⟨_, _, _, hnm h1, rfl, ?_⟩; rw [h2]; (conv => whnf))
   | (refine .inl ⟨_, _, _, hdc, rfl, ?_⟩; (conv => whnf))
   | (refine zO rfl ?_; (conv => whnf); rw [hb]; first | done | rfl | (cases b5 <;> rfl))
 ·conv => whnf
  cases bad with
  | true => (conv => whnf); first | done | rfl
  | false =>
   conv => whnf
   refine .inl ⟨_, _, _, hcf, rfl, ?_⟩
   conv => whnf
   cases q9 <;> first | done | rfl
end Go.H.S
namespace Go.H.S
open Go Go.Proofs Go.H
theorem zIn (c : Cfg) (n : Nd) : (shrN c n).f = n.f := by unfold shrN; split <;> rfl
theorem shrN_l (c : Cfg) (n : Nd) : (shrN c n).l = n.l := by unfold shrN; split <;> rfl
theorem shrN_r (c : Cfg) (n : Nd) : (shrN c n).r = n.r := by unfold shrN; split <;> rfl
theorem shrN_c (c : Cfg) (n : Nd) : (shrN c n).c = n.c := by unfold shrN; split <;> rfl
theorem zH0 (c : Cfg) (t : List Nd) : (shrT c t).length = t.length := by simp [shrT]
theorem zIm {c : Cfg} {t : List Nd} {j : Nat} {n : Nd} (h : t[j]? = some n) : (shrT c t)[j]? = some (shrN c n) := by simp [shrT, h]
def scV (c : Cfg) (v : Int) : Int := v * c.num / c.den
end Go.H.S
namespace Go.H.S
open Go Go.Proofs Go.H
attribute [local irreducible] Tri z6 zR zV zY zW
theorem z3v (x y : List Int) (hx : x.length ≤ 1048576) : z6 PR z29 [aIs x, aIs y] (ab (decide (x = y))) [] 0 := by
 refine z6.intro hT (pf Tryz.func308) rfl (by kernel_rfl) Tryz.ntmps308 rfl ?_
 conv => whnf
 refine .inl ⟨_, _, _, z1t x y (by omega), rfl, ?_⟩
 conv => whnf
theorem z1u (a b : List (List Int)) (g : FuncId) (hg : ∀ x ∈ a, ∀ y, z6 PR g [aIs x, aIs y] (ab (decide (x = y))) [] 0) (ha : a.length ≤ 9223372036854775807) :
  z6 PR wG [aIss a, aIss b, .c (.d (.fn g []))] (ab (decide (a = b))) [] 0 := by
 refine z6.intro hT (pf Tryz.func307) rfl (by kernel_rfl) Tryz.ntmps307 rfl ?_
 conv => whnf
 refine zK (fun h0 => ?_) (fun h0 => ?_) <;> (conv => whnf) <;> simp only [eH] at h0
 ·rw [zJe (by omega)]
 refine zB hT [1, 2, 15, 16, 17] (α := Nat) (fun x => { t := [(1, aIss b), (2, .c (.d (.fn g []))), (15, aIss a), (16, ai a.length), (17, ai x)], h := [], n := 0, N := 32 })
  (fun x => x ≤ a.length ∧ decide (a.drop x = b.drop x) = decide (a = b)) (fun x => a.length - x) 0 (by ((conv => whnf); simp only [eS])) ⟨Nat.zero_le _, rfl⟩ ?_
 intro k ⟨hk, hi⟩
 conv => whnf
 refine zK (fun h1 => ?_) (fun h1 => ?_) <;> (conv => whnf) <;> simp at h1
 ·obtain ⟨s, hs⟩ := zI h1
  obtain ⟨u, hu⟩ := zI (l := b) (k := k) (by omega)
  rw [zGP hs hu] at hi
  refine zG (by simp) hs ?_
  conv => whnf
  refine zG (by simp) hu ?_
  conv => whnf
  refine .inl ⟨_, _, _, hg s (List.mem_of_getElem? hs) u, rfl, ?_⟩
  generalize decide (s = u) = c at hi ⊢
  cases c <;> (conv => whnf)
  ·simp only [Bool.false_and] at hi
   rw [← hi]
  ·refine ⟨k + 1, by omega, ⟨h1, by rw [← hi, Bool.true_and]⟩, ?_⟩
   ((conv => whnf); simp only [eS, wI h1 ha])
 ·obtain rfl : k = a.length := by omega
  have : decide (a.drop a.length = b.drop a.length) = true := by simp [List.drop_of_length_le (show b.length ≤ a.length by omega)]
  rw [this] at hi
  rw [← hi]
theorem z1g (a : List (List Int)) (hl : a.length ≤ 1048576) (hr : ∀ r ∈ a, r.length ≤ 1048576) : z6 PR z97 [aIss a, aIss a] (ab true) [] 0 := by
 refine z6.intro hT (pf Tryz.func266) rfl (by kernel_rfl) Tryz.ntmps266 rfl ?_
 conv => whnf
 refine .inl ⟨_, _, _, z1u a a z29 (fun x hx y => z3v x y (hr x hx)) (by omega), rfl, ?_⟩
 rw [show decide (a = a) = true from decide_eq_true rfl]
 conv => whnf
theorem z6H (g : Grd) (hg : smG g) : z6 PR zAa [aG g, aG g] (ab true) [] 0 := by
 refine z6.intro hT (pf Tryz.func174) rfl (by kernel_rfl) Tryz.ntmps174 rfl ?_
 conv => whnf
 refine .inl ⟨_, _, _, z1g g.cuts hg.1 hg.2.2.1, rfl, ?_⟩
 conv => whnf
 refine .inl ⟨_, _, _, z1g g.bins hg.2.1 hg.2.2.2, rfl, ?_⟩
 conv => whnf
 first | done | rfl
set_option maxHeartbeats 4000000 in
theorem z6N (t : Tbl) (b : Nat) (hb : 2 ≤ b ∧ b ≤ 8) (ht : y1 t = true) (hz : szT t) : z6 PR z1N [aTb t, ai b] (aG (zi t b)) [] 0 := by
 obtain ⟨hn4, hr40, hyl⟩ := z9X ht
 have hr := hz.r
 have hc := hz.c
 show z6 PR z1N [aTb t, ai b] (aG ⟨z0J t b t.names.length, z0M t b t.names.length⟩) [] 0
 refine z6.intro hTn (pf Tryz.func175) rfl (by kernel_rfl) Tryz.ntmps175 rfl ?_
 conv => whnf
 refine .inl ⟨_, _, _, wV t hz, rfl, ?_⟩
 rw [ht]
 conv => whnf
 refine .inl ⟨_, _, _, zP _ _ _, rfl, ?_⟩
 rw [show decide ((2 : Int) ≤ (b : Int) ∧ (b : Int) ≤ 8) = true from decide_eq_true (by omega)]
 conv => whnf
 refine zj 0 ?_
 conv => whnf
 refine zC6 2 0 yS 1 [zZ] ?_
 conv => whnf
 refine zC6 2 1 yS 1 [zZ] ?_
 conv => whnf
 refine zB hTn [1, 2, 4, 5, 24, 25] (α := Nat) (fun f => { t := [(1, ai b), (2, rpTb t), (4, .c (.ptr 0 0)), (5, .c (.ptr 1 0)), (24, ai t.names.length), (25, ai f)], h := [(0, .box yX [.nl 1, .nl 1]), (1, .box yX [.ref 2 0 none, .ref 3 0 none]), (2, z0Q (z0J t b f)), (3, z0Q (z0M t b f))], n := 4, N := 62 })
  (fun f => f ≤ t.names.length) (fun f => t.names.length - f) 0 (by (conv => whnf); simp only [z0Q, z0J, z0M, List.range_zero, List.map_nil, zp]; first | done | rfl | (rw [show nInt (dLen (eL cS t.names)) = (t.names.length : Int) by simp]; rfl)) (Nat.zero_le _) ?_
 intro f hf
 conv => whnf
 refine zK (fun h1 => ?_) (fun h1 => ?_) <;> (conv => whnf) <;> simp at h1
 ·refine .inl ⟨_, _, _, z8n t f h1 (by omega) hr hc, rfl, ?_⟩
  conv => whnf
  have hcl := zAq t f
  refine .inr (.inl ⟨_, _, _, z8m (y0 t f) b hb (by omega), rfl, ⟨z0G _, trivial⟩, ?_⟩)
  rw [show z5a (y0 t f) b = z1v t b f from rfl]
  conv => whnf
  have hkl := zAl t (f := f) hb.2
  refine zB hTn [1, 2, 4, 5, 6, 8, 9, 24, 25, 35, 36, 37] (α := Nat) (fun j => { t := [(1, ai b), (2, rpTb t), (4, .c (.ptr 0 0)), (5, .c (.ptr 1 0)), (6, ai f), (8, .c (.ref 4 0 none)), (9, .c (.ref 5 0 none)), (24, ai t.names.length), (25, ai f), (35, aIs (y0 t f)), (36, ai (y0 t f).length), (37, ai j)], h := [(0, .box yX [.nl 1, .nl 1]), (1, .box yX [.ref 2 0 none, .ref 3 0 none]), (2, z0Q (z0J t b f)), (3, z0Q (z0M t b f)), (4, .arr zZ 1 0 .own (eL cI (((y0 t f).take j).map fun v => ((yG (z1v t b f) v : Nat) : Int)))), (5, .arr zZ 1 0 .own (eL cI (z1v t b f)))], n := 6, N := 62 })
   (fun j => j ≤ (y0 t f).length) (fun j => (y0 t f).length - j) 0 (by (conv => whnf); simp only [List.take_zero, List.map_nil, zp, z7]; first | done | rfl | (rw [show nInt (z0a (eL cI (y0 t f)) none) = ((y0 t f).length : Int) by simp [z0a]]; rfl)) (Nat.zero_le _) ?_
  intro j hj
  conv => whnf
  refine zK (fun h2 => ?_) (fun h2 => ?_) <;> (conv => whnf) <;> simp [iLt] at h2
  ·obtain ⟨v, hv⟩ := zI (show j < (y0 t f).length by omega)
   refine zG (by simp) hv ?_
   conv => whnf
   refine .inr (.inl ⟨_, _, _, zA9 (z1v t b f) v (by omega), rfl, trivial, ?_⟩)
   conv => whnf
   refine And.intro (by simp [zE, zQ]; omega) ?_
   conv => whnf
   refine ⟨j + 1, by omega, by omega, ?_⟩
   ((conv => whnf); simp only [eS, wI (show j < (y0 t f).length by omega) (by omega)])
   rw [List.take_add_one, hv, List.map_append, Option.toList_some, List.map_cons, List.map_nil, ← zX]
   first | exact ⟨rfl, rfl⟩ | rfl
  ·obtain rfl : j = (y0 t f).length := by omega
   rw [List.take_length, show ((y0 t f).map fun v => ((yG (z1v t b f) v : Nat) : Int)) = z9F t b f from rfl]
   refine zJ hTn hmix [1, 2, 4, 5, 24, 25] { t := [(1, ai b), (2, rpTb t), (4, .c (.ptr 0 0)), (5, .c (.ptr 1 0)), (24, ai t.names.length), (25, ai f)], h := [(0, .box yX [.nl 1, .nl 1]), (1, .box yX [.ref 2 0 none, .ref 3 0 none]), (2, z0Q (z0J t b (f + 1))), (3, z0Q (z0M t b (f + 1)))], n := 4, N := 62 } rfl ?_ ?_
   ·repeat' first
     | (refine zM rfl ?_; (conv => whnf))
     | (refine zL rfl ?_ ?_ <;> (conv => whnf))
     | (refine zC rfl ?_ ?_ ?_ <;> (conv => whnf))
     | (refine zw rfl ?_ ?_ ?_ ?_ <;> (conv => whnf))
     | (refine z6r rfl ?_ ?_ ?_ ?_ ?_ <;> (conv => whnf))
     | (refine zHj rfl ?_ ?_ ?_ ?_ ?_ ?_ <;> (conv => whnf))
     | (refine ⟨z0G _, ?_⟩; (conv => whnf))
     | (refine And.intro (by simp [zE, zQ, z2l, z4V]; omega) ?_; (conv => whnf))
     | (refine zO rfl ?_; (conv => whnf); rw [show dApp (eL cIs (z0J t b f)) [[D.sl 1 (eL cI (z1v t b f))]] = eL cIs (z0J t b (f + 1)) from by rw [zAk]; exact zX cIs _ _, show dApp (eL cIs (z0M t b f)) [[D.sl 1 (eL cI (z9F t b f))]] = eL cIs (z0M t b (f + 1)) from by rw [zB0]; exact zX cIs _ _]; first | done | rfl | exact ⟨rfl, rfl⟩)
   conv => whnf
   refine ⟨f + 1, by omega, by omega, ?_⟩
   ((conv => whnf); simp only [eS, wI h1 (by omega)])
   first | done | rfl
 ·obtain rfl : f = t.names.length := by omega
  first | done | rfl
set_option maxHeartbeats 4000000 in
theorem z8r (ys : List Int) (h1 : 1 ≤ ys.length) (hl : ys.length ≤ 1000) (hb : ∀ y ∈ ys, -2147483647 ≤ y ∧ y ≤ 2147483647) : z6 PR zEP [aIs ys] (z5h (zC2 ys) true) [] 0 := by
 have eY : nInt (dLen (eL cI ys)) = (ys.length : Int) := by simp
 refine z6.intro hT (pf Tryz.func243) rfl (by kernel_rfl) Tryz.ntmps243 rfl ?_
 conv => whnf
 refine zB hT [0, 4, 9, 10, 11] (α := Nat) (fun k => { t := [(0, aIs ys), (4, ai (sumI (ys.take k))), (9, aIs ys), (10, ai ys.length), (11, ai k)], h := [], n := 0, N := 31 })
  (fun k => k ≤ ys.length) (fun k => ys.length - k) 0 (by (conv => whnf); first | done | rfl | (rw [eY]; rfl)) (Nat.zero_le _) ?_
 intro k hk
 conv => whnf
 refine zK (fun q => ?_) (fun q => ?_) <;> (conv => whnf) <;> simp only [eH] at q
 ·obtain ⟨y, hy⟩ := zI (show k < ys.length by omega)
  have hyb := hb y (List.mem_of_getElem? hy)
  have hsb := z1z hl hb k
  refine zG (by simp) hy ?_
  conv => whnf
  refine .inl ⟨_, _, _, wW (sumI (ys.take k)) y (by omega) (by omega), rfl, ?_⟩
  conv => whnf
  refine ⟨k + 1, by omega, by omega, ?_⟩
  ((conv => whnf); simp only [eS, wI (show k < ys.length by omega) (by omega)])
  rw [zGu hy]
  first | done | rfl
 ·obtain rfl : k = ys.length := by omega
  have hsb := z1z hl hb ys.length
  rw [List.take_length] at hsb ⊢
  rw [eY]
  refine .inl ⟨_, _, _, z0D (sumI ys) ys.length (by omega) (by omega), rfl, ?_⟩
  conv => whnf
  first | done | rfl
set_option maxHeartbeats 4000000 in
theorem z1i (ys ps : List Int) (he : ys.length = ps.length) (hl : ys.length ≤ 1000) (hb : ∀ y ∈ ys, -2147483647 ≤ y ∧ y ≤ 2147483647) (hp : ∀ p ∈ ps, -1152921504606846976 ≤ p ∧ p ≤ 1152921504606846976) : z6 PR z3W [aIs ys, aIs ps] (zKc (resL ys ps) true) [] 0 := by
 have eY : nInt (dLen (eL cI ys)) = (ys.length : Int) := by simp
 refine z6.intro hT (pf Tryz.func157) rfl (by kernel_rfl) Tryz.ntmps157 rfl ?_
 conv => whnf
 rw [show iEq (nInt (dLen (eL cI ys))) (nInt (dLen (eL cI ps))) = true from decide_eq_true (by simp [he])]
 conv => whnf
 refine zB hT [0, 1, 6, 17, 18] (α := Nat) (fun k => { t := [(0, aIs ys), (1, aIs ps), (6, .c (.ref 0 0 none)), (17, ai ys.length), (18, ai k)], h := [(0, .arr zZ 1 0 .own (eL cI ((resL ys ps).take k)))], n := 1, N := 41 })
  (fun k => k ≤ ys.length) (fun k => ys.length - k) 0 (by (conv => whnf); simp only [List.take_zero, zp]; first | done | rfl | (rw [eY]; rfl)) (Nat.zero_le _) ?_
 intro k hk
 conv => whnf
 refine zK (fun q => ?_) (fun q => ?_) <;> (conv => whnf) <;> simp only [eH] at q
 ·obtain ⟨y, hy⟩ := zI (show k < ys.length by omega)
  obtain ⟨p, hpk⟩ := zI (show k < ps.length by omega)
  have hyb := hb y (List.mem_of_getElem? hy)
  have hpb := hp p (List.mem_of_getElem? hpk)
  refine zJ hT hmix [0, 1, 6, 8, 9, 17, 18] { t := [(0, aIs ys), (1, aIs ps), (6, .c (.ref 0 0 none)), (8, ai (y - p)), (9, ab true), (17, ai ys.length), (18, ai k)], h := [(0, .arr zZ 1 0 .own (eL cI ((resL ys ps).take k)))], n := 1, N := 41 } rfl ?_ ?_
  ·repeat' first
    | (refine zM rfl ?_; (conv => whnf))
    | (refine zL rfl ?_ ?_ <;> (conv => whnf))
    | (refine zC rfl ?_ ?_ ?_ <;> (conv => whnf))
    | (refine zG (k := k) rfl hy ?_; (conv => whnf))
    | (refine zG (k := k) rfl hpk ?_; (conv => whnf))
    | (refine .inl ⟨_, _, _, z0b y p (by omega) (by omega), rfl, ?_⟩; (conv => whnf))
    | (refine zO rfl ?_; (conv => whnf); first | done | rfl)
  conv => whnf
  have hlen := wj he
  refine And.intro (by simp [z7, zE, zQ]; omega) ?_
  conv => whnf
  refine ⟨k + 1, by omega, by omega, ?_⟩
  ((conv => whnf); simp only [eS, wI (show k < ys.length by omega) (by omega)])
  rw [z5x hy hpk, ← zX, z7]
  first | done | rfl | exact ⟨rfl, rfl⟩
 ·obtain rfl : k = ys.length := by omega
  rw [← wj he, List.take_length]
  conv => whnf
  simp only [z7]
set_option maxHeartbeats 4000000 in
theorem z8c (t : Tbl) (hz : szT t) (ht : y1 t = false) : z6 PR z1l [aTb t] (z2p [] [] false) [] 0 := by
 refine z6.intro hT (pf Tryz.func240) rfl (by kernel_rfl) Tryz.ntmps240 rfl ?_
 conv => whnf
 refine .inl ⟨_, _, _, wV t hz, rfl, ?_⟩
 rw [ht]
 conv => whnf
 simp only [z2p, cSt, zp]
set_option maxHeartbeats 4000000 in
theorem z26 (t : Tbl) (hz : szT t) (ht : y1 t = true) : z6 PR z1l [aTb t] (z2p (z6Z t) [] true) [] 0 := by
 have hv := z05 ht
 have eY : nInt (dLen (eL cI t.ys)) = (t.ys.length : Int) := by simp
 refine z6.intro hT (pf Tryz.func240) rfl (by kernel_rfl) Tryz.ntmps240 rfl ?_
 conv => whnf
 refine .inl ⟨_, _, _, wV t hz, rfl, ?_⟩
 rw [ht]
 conv => whnf
 refine .inl ⟨_, _, _, z8r t.ys (by have := hv.yl; have := hv.r1; omega) (by have := hv.yl; have := hv.r40; omega) hv.yv, rfl, ?_⟩
 conv => whnf
 refine zj 0 ?_
 conv => whnf
 refine z0i 2 0 zZ 1 ?_
 conv => whnf
 refine zB hT [2, 4, 6, 20, 21] (α := Nat) (fun k => { t := [(2, .c (.ptr 0 0)), (4, ai (zC2 t.ys)), (6, .c (.ptr 1 0)), (20, ai t.ys.length), (21, ai k)], h := [(0, .box zn [.nl 1, .nl 1]), (1, .box zn [.ref 2 0 none, .nl 1]), (2, .arr zZ 1 0 .own (eL cI (List.replicate k (zC2 t.ys))))], n := 3, N := 31 })
  (fun k => k ≤ t.ys.length) (fun k => t.ys.length - k) 0 (by (conv => whnf); simp only [List.replicate_zero, zp]; first | done | rfl | (rw [eY]; rfl)) (Nat.zero_le _) ?_
 intro k hk
 conv => whnf
 refine zK (fun q => ?_) (fun q => ?_) <;> (conv => whnf) <;> simp only [eH] at q
 ·have := hv.yl
  have := hv.r40
  refine And.intro (by simp [z7, zE, zQ]; omega) ?_
  conv => whnf
  refine ⟨k + 1, by omega, by omega, ?_⟩
  ((conv => whnf); simp only [eS, wI (show k < t.ys.length by omega) (by omega)])
  rw [List.replicate_succ', ← zX, z7]
  first | done | rfl | exact ⟨rfl, rfl⟩
 ·obtain rfl : k = t.ys.length := by omega
  simp only [z7, z2p, cSt, zp, z6Z]
  first | done | rfl
theorem zA6 (t : List Nd) (hl : t.length ≤ 1000000000) : z6 PR z41 [aT t] (aT t) [] 0 := by
 refine z6.intro hT (pf Tryz.func267) rfl (by kernel_rfl) Tryz.ntmps267 rfl ?_
 conv => whnf
 refine .inl ⟨_, _, _, z3X t hl, rfl, ?_⟩
 conv => whnf
 simp only [z7]
 first | done | rfl
theorem z8b (ts : List (List Nd)) (hl : ts.length ≤ 1000000) (ht : ∀ t ∈ ts, t.length ≤ 1000000) : z6 PR z99 [aTs ts] (.c (.ref 0 0 none)) [(0, .arr zT 1 0 .own (eL cT ts))] 1 := by
 refine z6.intro hT (pf Tryz.func177) rfl (by kernel_rfl) Tryz.ntmps177 rfl ?_
 conv => whnf
 refine zB hT [3, 7, 8, 9] (α := Nat × List (List Nd)) (fun x => { t := [(3, .c (.ref 0 0 none)), (7, aTs ts), (8, ai ts.length), (9, ai x.1)], h := [(0, .arr zT 1 0 .own (eL cT x.2))], n := 1, N := 20 })
  (fun x => x.1 ≤ ts.length ∧ x.2 = ts.take x.1) (fun x => ts.length - x.1) (0, []) (by ((conv => whnf); simp only [eS, zp])) ⟨Nat.zero_le _, by simp⟩ ?_
 intro ⟨k, o⟩ ⟨hk, ho⟩
 dsimp only at hk ho
 conv => whnf
 refine zK (fun h1 => ?_) (fun h1 => ?_) <;> (conv => whnf) <;> simp at h1
 ·obtain ⟨t, hx⟩ := zI h1
  have hol : o.length = k := by rw [ho]; simp; omega
  refine zG (by simp) hx ?_
  conv => whnf
  refine .inl ⟨_, _, _, zA6 t (by have := ht t (List.mem_of_getElem? hx); omega), rfl, ?_⟩
  conv => whnf
  refine And.intro (by simp [zE, zQ]; omega) ?_
  conv => whnf
  refine ⟨(k + 1, o ++ [t]), by dsimp only; omega, ⟨h1, by dsimp only; rw [ho, List.take_add_one, hx]; rfl⟩, ?_⟩
  ((conv => whnf); simp only [eS, wI h1 (by omega)])
  rw [← zX, z7]
  first | done | rfl | exact ⟨rfl, rfl⟩
 ·obtain rfl : k = ts.length := by omega
  rw [ho, List.take_length]
  first | done | rfl
set_option maxHeartbeats 4000000 in
theorem z8e (v : Int) (c : Cfg) (hc : cfgP c) (hv : -1099511627776 ≤ v ∧ v ≤ 1099511627776) : z6 PR zE8 [ai v, aCf c] (z5h (v * c.num / c.den) true) [] 0 := by
 refine z6.intro hT (pf Tryz.func269) rfl (by kernel_rfl) Tryz.ntmps269 rfl ?_
 conv => whnf
 refine .inl ⟨_, _, _, yh c (by have := hc.2.2.2.2; omega), rfl, ?_⟩
 rw [z3H hc]
 conv => whnf
 refine .inl ⟨_, _, _, wN v, rfl, ?_⟩
 rw [decide_eq_true hv]
 conv => whnf
 have hn : 1 ≤ c.num ∧ c.num ≤ 1000 := ⟨hc.2.2.2.1.1, by have := hc.2.2.2.1.2; have := hc.2.2.1.2; omega⟩
 have hd := hc.2.2.1
 have hm : -1099511627776000 ≤ v * c.num ∧ v * c.num ≤ 1099511627776000 := by
  have a := Int.mul_le_mul_of_nonneg_right hv.1 (show 0 ≤ c.num by omega)
  have b := Int.mul_le_mul_of_nonneg_right hv.2 (show 0 ≤ c.num by omega)
  omega
 rw [show wMul .i64 v c.num = v * c.num from z1S (by omega) (by omega)]
 refine .inl ⟨_, _, _, z0D (v * c.num) c.den (by omega) (by omega), rfl, ?_⟩
 conv => whnf
 first | done | rfl
set_option maxHeartbeats 4000000 in
theorem z4e (t : List Nd) (c : Cfg) (hc : cfgP c) (hl : t.length ≤ 1000) (ht : ∀ n ∈ t, zI5 n) : z6 PR z7j [aT t, aCf c] (.tup [(true, [.d (.sl 5 (eL cN (shrT c t)))]), (false, [.d (.bool true)])]) [] 0 := by
 have hlm := zHG t 0
 have hll : (wu t 0).length ≤ t.length := zA1 t 0
 have hlv := z6J t (by omega)
 generalize wu t 0 = ls at *
 refine z6.intro hT (pf Tryz.func176) rfl (by kernel_rfl) Tryz.ntmps176 rfl ?_
 conv => whnf
 refine .inl ⟨_, _, _, z6A t (by omega), rfl, ?_⟩
 conv => whnf
 refine .inl ⟨_, _, _, hlv, rfl, ?_⟩
 conv => whnf
 refine zj 0 ?_
 conv => whnf
 refine zj 1 ?_
 conv => whnf
 refine zB hT [2, 3, 4, 6, 14, 15, 16] (α := Nat × List Nd) (fun x => { t := [(2, .c (.d (.rp [.sl 5 (eL cN t)]))), (3, rpCf c), (4, .c (.ptr 0 0)), (6, .c (.ptr 1 0)), (14, aIs ls), (15, ai ls.length), (16, ai x.1)], h := [(0, .box zT [.nl 5]), (1, .box zT [.ref 2 0 none]), (2, .arr zt 5 0 .own (eL cN x.2))], n := 3, N := 42 })
  (fun x => x.1 ≤ ls.length ∧ x.2.length = t.length ∧ ∀ (k : Nat) (n : Nd), t[k]? = some n → x.2[k]? = some (if (k : Int) ∈ ls.take x.1 then shrN c n else n)) (fun x => ls.length - x.1) (0, t) (by (conv => whnf); first | done | rfl | (rw [show nInt (z0a (eL cI ls) none) = (ls.length : Int) by simp [z0a]]; rfl)) ⟨Nat.zero_le _, rfl, fun k n h => by simpa using h⟩ ?_
 intro ⟨j, o⟩ ⟨hj, hol, ho⟩
 dsimp only at hj hol ho
 conv => whnf
 refine zK (fun q => ?_) (fun q => ?_) <;> (conv => whnf) <;> simp only [eH] at q
 ·obtain ⟨i, hi⟩ := zI (show j < ls.length by omega)
  obtain ⟨m, n, him, hn, hnf⟩ := (hlm i).1 (List.mem_of_getElem? hi)
  obtain rfl : i = (m : Int) := by omega
  have hml := (List.getElem?_eq_some_iff.1 hn).1
  have hlf := ht n (List.mem_of_getElem? hn) hnf
  refine zG (by simp) hi ?_
  conv => whnf
  refine zJ hT hmix [2, 3, 4, 6, 8, 9, 10, 14, 15, 16] { t := [(2, .c (.d (.rp [.sl 5 (eL cN t)]))), (3, rpCf c), (4, .c (.ptr 0 0)), (6, .c (.ptr 1 0)), (8, ai m), (9, ai (n.v * c.num / c.den)), (10, ab true), (14, aIs ls), (15, ai ls.length), (16, ai j)], h := [(0, .box zT [.nl 5]), (1, .box zT [.ref 2 0 none]), (2, .arr zt 5 0 .own (eL cN o))], n := 3, N := 42 } rfl ?_ ?_
  ·repeat' first
    | (refine zM rfl ?_; (conv => whnf))
    | (refine zL rfl ?_ ?_ <;> (conv => whnf))
    | (refine zC rfl ?_ ?_ ?_ <;> (conv => whnf))
    | (refine zG (k := m) rfl hn ?_; (conv => whnf))
    | (refine .inl ⟨_, _, _, z8e n.v c hc hlf, rfl, ?_⟩; (conv => whnf))
    | (refine zO rfl ?_; (conv => whnf); first | done | rfl)
  conv => whnf
  obtain ⟨x0, hx0⟩ := zI (show m < o.length by omega)
  have hdo : wb (cN x0) 4 [D.int IntKind.i64 (n.v * c.num / c.den)] = cN (shrN c n) := by
   have h1 := ho m n hn
   rw [hx0] at h1
   have h2 := Option.some.inj h1
   have h3 : shrN c n = ⟨n.f, n.c, n.l, n.r, n.v * c.num / c.den⟩ := by unfold shrN; rw [if_pos hnf]
   rw [h3]
   split at h2
   ·rw [h2, h3, wb]; rfl
   ·rw [h2, wb]; rfl
  refine ye (k := m) rfl (by rw [show z0a (eL cN o) none = t.length by simp only [z0Z, zE, z5Z, hol]]; omega) ?_
  conv => whnf
  refine z88 (k := m) (by simp) hx0 (by simp [cN]) ?_
  conv => whnf
  refine ⟨(j + 1, o.set m (shrN c n)), by dsimp only; omega, ⟨by dsimp only; omega, by dsimp only; rw [List.length_set]; exact hol, fun k n' hk => ?_⟩, ?_⟩
  ·dsimp only
   have h1 := ho k n' hk
   rw [List.take_add_one, hi]
   by_cases hkm : m = k
   ·subst hkm
    rw [hn] at hk
    cases hk
    rw [List.getElem?_set_self (by omega), if_pos (by simp)]
   ·rw [List.getElem?_set_ne hkm, h1]
    have : ((k : Int) ∈ ls.take j ++ (some (m : Int)).toList) ↔ (k : Int) ∈ ls.take j := by
     simp
     intro h
     omega
    simp only [this]
  ·((conv => whnf); simp only [eS, wI (show j < ls.length by omega) (by omega)])
   rw [show nAdd (offR none) (nOf (m : Int)) = m by simp [wD], hdo, z1m]
   first | done | rfl
 ·obtain rfl : j = ls.length := by omega
  have hs : o = shrT c t := by
   apply List.ext_getElem?
   intro k
   cases hk : t[k]? with
   | none =>
    have := List.getElem?_eq_none_iff.1 hk
    rw [List.getElem?_eq_none (by omega), List.getElem?_eq_none (by rw [zH0]; omega)]
   | some n =>
    rw [ho k n hk, List.take_length, zIm hk]
    congr 1
    split
    ·rfl
    ·rename_i hni
     unfold shrN
     rw [if_neg fun hf => hni ((hlm k).2 ⟨k, n, by omega, hk, hf⟩)]
  rw [hs]
  simp only [z7]
  first | done | rfl
end Go.H.S
namespace Go.H.S
open Go Go.Proofs Go.H
attribute [local irreducible] Tri z6 zR zV zY zW
end Go.H.S
namespace Go.H.S
open Go Go.Proofs Go.H
attribute [local irreducible] Tri z6 zR zV zY zW
theorem z5L {t : List Nd} {ft : Int} (h : yn t ft = true) {row : List Int} (hr : ft ≤ row.length) : ∀ (m j : Nat), j < t.length → t.length - j ≤ m → ∃ l, yE t row m j = some l
 | 0, j, h1, h2 => by omega
 | m + 1, j, h1, h2 => by
  obtain ⟨n, hn⟩ := zI h1
  simp only [yE]
  rw [if_pos (by omega), show (j : Int).toNat = j by simp, hn]
  dsimp only
  split
  ·exact ⟨_, rfl⟩
  ·rename_i hf
   have hk := z00 h hn hf
   rw [if_pos (by omega)]
   obtain ⟨c, hc⟩ : ∃ c : Nat, (if goL row n = true then n.l else n.r) = c := ⟨(if goL row n = true then n.l else n.r).toNat, by split <;> omega⟩
   have hc2 : j < c ∧ c < t.length := by split at hc <;> omega
   obtain ⟨l, hl⟩ := z5L h hr m c (by omega) (by omega)
   rw [hc, hl]
   exact ⟨_, rfl⟩
end Go.H.S
namespace Go.H.S
open Go Go.Proofs Go.H
theorem zKU {t : List Nd} {ft : Int} (h : yn t ft = true) (hl : t.length ≤ 31) {j : Nat} (hj : j < t.length) : ∃ w, wayL t j = w ++ [(j : Int)] := by
 obtain ⟨l, hs, _⟩ := zEx h 31 j (by omega)
 have h2 := hs
 rw [z4Z, Option.map_eq_some_iff] at h2
 obtain ⟨r, _, rfl⟩ := h2
 exact ⟨r.reverse, by unfold wayL; rw [if_pos (by omega), hs]; simp⟩
theorem zKm {g : Grd} {t : List Nd} {ft : Int} (h : yn t ft = true) (hl : t.length ≤ 31) {j : Nat} {n : Nd} (hj : t[j]? = some n) (hf : n.f ≠ -1) {x : Int} (hx : n.l = x ∨ n.r = x) : yo g t x = z82 g t (yo g t j) j x := by
 have hk := z00 h hj hf
 have hjl := (List.getElem?_eq_some_iff.1 hj).1
 obtain ⟨w, hw⟩ := zKU h hl hjl
 unfold yo
 rw [zFw h hl hj hf hx (by omega) (by omega), hw, List.append_assoc, List.singleton_append, z4K]
structure SameN (g : Grd) (grads : List Int) (c : Cfg) (t t' : List Nd) (x : Nat) : Prop where
 rows : yo g t x = yo g t' x
 bd : zLo g grads c t x = zLo g grads c t' x
 lev : zLd t x = zLd t' x
end Go.H.S
namespace Go.H.S
open Go Go.Proofs Go.H
def z2X (t : List Nd) (row : List Int) (i : Int) : Bool := ((yE t row (t.length + 1) 0).getD []).contains i
def zD5 (t : List Nd) (i : Int) (rows : List (List Int)) : List Int := (upTo rows.length).filter fun r => z2X t ((rows[r.toNat]?).getD []) i
def selN (row : List Int) (n : Nd) : Int := if goL row n = true then n.l else n.r
theorem z1Z {t : List Nd} {row : List Int} {m : Nat} {x : Int} {l : List Int} (h : yE t row m x = some l) : ∃ (j : Nat) (n : Nd) (r : List Int), x = j ∧ t[j]? = some n ∧ l = x :: r ∧ ((n.f = -1 ∧ r = []) ∨ (n.f ≠ -1 ∧ ∃ m', m = m' + 1 ∧ yE t row m' (selN row n) = some r)) := by
 cases m with
 | zero => cases h
 | succ m =>
  simp only [yE] at h
  split at h
  ·rename_i h0
   obtain ⟨j, rfl⟩ : ∃ j : Nat, x = j := ⟨x.toNat, by omega⟩
   rw [show (j : Int).toNat = j by simp] at h
   split at h
   ·cases h
   ·rename_i n hn
    split at h
    ·rename_i hf
     cases h
     exact ⟨j, n, [], rfl, hn, rfl, .inl ⟨hf, rfl⟩⟩
    ·rename_i hf
     split at h
     ·simp only [Option.map_eq_some_iff] at h
      obtain ⟨r, hr, rfl⟩ := h
      exact ⟨j, n, r, rfl, hn, rfl, .inr ⟨hf, m, rfl, hr⟩⟩
     ·cases h
  ·cases h
theorem zCH {t : List Nd} {row : List Int} {j : Nat} {n : Nd} (hj : t[j]? = some n) (hf : n.f ≠ -1) : ∀ {m : Nat} {x : Int} {l : List Int}, yE t row m x = some l → (j : Int) ∈ l → selN row n ∈ l
 | 0, x, l, h, _ => by cases h
 | m + 1, x, l, h, hm => by
  obtain ⟨j', n', r, rfl, hn', rfl, hc⟩ := z1Z h
  rcases List.mem_cons.1 hm with q | q
  ·obtain rfl : j = j' := by omega
   rw [hj] at hn'
   cases hn'
   rcases hc with ⟨hf', _⟩ | ⟨_, m', hm', hr⟩
   ·exact absurd hf' hf
   ·obtain ⟨j2, n2, r2, e, _, rfl, _⟩ := z1Z hr
    simp
  ·rcases hc with ⟨_, rfl⟩ | ⟨_, m', hm', hr⟩
   ·cases q
   ·obtain rfl : m = m' := by omega
    exact List.mem_cons_of_mem _ (zCH hj hf hr q)
theorem zH2 {t : List Nd} {row : List Int} {y : Int} : ∀ {m : Nat} {x : Int} {l : List Int}, yE t row m x = some l → y ∈ l → y = x ∨ ∃ (j : Nat) (n : Nd), (j : Int) ∈ l ∧ t[j]? = some n ∧ n.f ≠ -1 ∧ y = selN row n
 | 0, x, l, h, _ => by cases h
 | m + 1, x, l, h, hm => by
  obtain ⟨j', n', r, rfl, hn', rfl, hc⟩ := z1Z h
  rcases List.mem_cons.1 hm with q | q
  ·exact .inl q
  ·rcases hc with ⟨_, rfl⟩ | ⟨hf', m', hm', hr⟩
   ·cases q
   ·obtain rfl : m = m' := by omega
    rcases zH2 hr q with h1 | ⟨j, n, h1, h2, h3, h4⟩
    ·exact .inr ⟨j', n', by simp, hn', hf', h1⟩
    ·exact .inr ⟨j, n, List.mem_cons_of_mem _ h1, h2, h3, h4⟩
theorem zG8 {t : List Nd} {ft : Int} (h : yn t ft = true) {row : List Int} (hr : ft ≤ row.length) (h1 : 1 ≤ t.length) : z2X t row 0 = true := by
 obtain ⟨l, hl⟩ := z5L h hr (t.length + 1) 0 h1 (by omega)
 unfold z2X
 rw [show ((0 : Nat) : Int) = 0 from rfl] at hl
 rw [hl]
 obtain ⟨_, _, _, _, _, rfl, _⟩ := z1Z hl
 simp
theorem zHx {t : List Nd} {ft : Int} (h : yn t ft = true) {row : List Int} (hr : ft ≤ row.length) {j : Nat} {n : Nd} (hj : t[j]? = some n) (hf : n.f ≠ -1) {x : Int} (hx : n.l = x ∨ n.r = x) : z2X t row x = (z2X t row j && decide (selN row n = x)) := by
 have hjl := (List.getElem?_eq_some_iff.1 hj).1
 obtain ⟨l, hl⟩ := z5L h hr (t.length + 1) 0 (by omega) (by omega)
 rw [show ((0 : Nat) : Int) = 0 from rfl] at hl
 unfold z2X
 rw [hl, Option.getD_some, Bool.eq_iff_iff, Bool.and_eq_true, List.contains_iff_mem, List.contains_iff_mem, decide_eq_true_eq]
 have hk := z00 h hj hf
 constructor
 ·intro hm
  rcases zH2 hl hm with q | ⟨j2, n2, h1, h2, h3, h4⟩
  ·omega
  ·have hx2 : n2.l = x ∨ n2.r = x := by
    rw [h4]
    unfold selN
    split
    ·exact .inl rfl
    ·exact .inr rfl
   obtain rfl := zCE h hj h2 hf h3 hx hx2
   rw [hj] at h2
   cases h2
   exact ⟨h1, h4.symm⟩
 ·intro ⟨hm, he⟩
  rw [← he]
  exact zCH hj hf hl hm
theorem zD3 {ft : Int} : ∀ {l : List Nd} {i next m : Int}, yT ft l i next = some m → ∀ x, next ≤ x → x < m → ∃ (j : Nat) (n : Nd), l[j]? = some n ∧ n.f ≠ -1 ∧ (n.l = x ∨ n.r = x)
 | [], i, next, m, h, x, h1, h2 => by simp [yT] at h; omega
 | n :: r, i, next, m, h, x, h1, h2 => by
  simp only [yT] at h
  split at h
  ·split at h
   ·cases h
   ·obtain ⟨j, n', a, b, c⟩ := zD3 h x h1 h2
    exact ⟨j + 1, n', by simpa using a, b, c⟩
  ·rename_i hf
   split at h
   ·cases h
   ·rename_i hb
    simp [z1J] at hb
    by_cases hx : x = next ∨ x = next + 1
    ·exact ⟨0, n, rfl, hf, by omega⟩
    ·obtain ⟨j, n', a, b, c⟩ := zD3 h x (by omega) h2
     exact ⟨j + 1, n', by simpa using a, b, c⟩
theorem z7s {u v : Int} (h : u ≤ v) : ∀ l : List Int, yG l u ≤ yG l v
 | [] => by simp [yG]
 | c :: r => by
  have := z7s h r
  simp only [yG]
  split <;> split <;> omega
theorem zHf {c v : Int} (h : c < v) : ∀ {l : List Int}, c ∈ l → yG l c < yG l v
 | x :: r, hm => by
  simp only [yG]
  rcases List.mem_cons.1 hm with q | q
  ·subst q
   have := z7s (Int.le_of_lt h) r
   rw [if_neg (by omega), if_pos h]
   omega
  ·have := zHf h q
   split <;> split <;> omega
theorem zKG {l : List Int} {c : Int} (hc : c ∈ l) (v : Int) : yG l v ≤ yG l c ↔ v ≤ c := by
 constructor
 ·intro h
  rcases Int.lt_or_le c v with q | q
  ·have := zHf q hc; omega
  ·exact q
 ·intro h
  exact z7s h l
theorem zF7 {t : Tbl} (hv : tabV t) {b : Nat} {x : List Nd} (hs : yn x t.names.length = true) (hl : x.length ≤ 31) (hc : ∀ n ∈ x, ∀ f : Nat, n.f = (f : Int) → f < t.names.length → n.c ∈ z1v t b f) :
  ∀ (d j : Nat), j ≤ d → j < x.length → yo (zi t b) x j = zD5 x j t.rows
 | d, 0, _, hj => by
  have e : zD5 x ((0 : Nat) : Int) t.rows = upTo t.rows.length := by
   unfold zD5
   rw [List.filter_eq_self]
   intro r hr
   simp only [upTo, List.mem_map, List.mem_range] at hr
   obtain ⟨i, hi, rfl⟩ := hr
   obtain ⟨row, hrow⟩ := zI hi
   rw [Int.toNat_natCast, hrow]
   exact zG8 hs (by have := hv.cols row (List.mem_of_getElem? hrow); simp; omega) hj
  rw [e]
  unfold yo
  rw [show ((0 : Nat) : Int) = 0 from rfl, zCn hs hj, z7Z hv]
  have h1 := hv.r1
  have h2 := hv.r40
  simp only [zD9, y9]
  rw [if_pos (by omega), Int.toNat_natCast]
 | 0, j + 1, h, _ => by omega
 | d + 1, j + 1, h, hj => by
  have hsl : yT t.names.length x 0 1 = some (x.length : Int) := by simpa [yn] using hs
  obtain ⟨p, n, hp, hf, hx⟩ := zD3 hsl ((j + 1 : Nat) : Int) (by omega) (by omega)
  have hk := z00 hs hp hf
  have hpl := (List.getElem?_eq_some_iff.1 hp).1
  have ih := zF7 hv hs hl hc d p (by omega) hpl
  rw [zKm hs hl hp hf hx, ih]
  obtain ⟨f, hnf⟩ : ∃ f : Nat, n.f = (f : Int) := ⟨n.f.toNat, by omega⟩
  have hft : f < t.names.length := by omega
  have hcut := hc n (List.mem_of_getElem? hp) f hnf hft
  unfold z82
  rw [Int.toNat_natCast, hp]
  dsimp only
  rw [hnf, Int.toNat_natCast, zEZ hft, zEc hft]
  dsimp only
  have key : ∀ r ∈ upTo t.rows.length, z1w (z9F t b f) (yG (z1v t b f) n.c) r = some (goL ((t.rows[r.toNat]?).getD []) n) := by
   intro r hr
   simp only [upTo, List.mem_map, List.mem_range] at hr
   obtain ⟨i, hi, rfl⟩ := hr
   obtain ⟨row, hrow⟩ := zI hi
   unfold z1w
   rw [if_pos (by rw [z6o]; omega), Int.toNat_natCast, hrow]
   have e1 : (z9F t b f)[i]? = some ((yG (z1v t b f) (zHs row n.f) : Nat) : Int) := by
    unfold z9F y0
    rw [List.getElem?_map, List.getElem?_map, hrow]
    simp [zHs, hnf]
   rw [e1]
   simp only [Option.map_some, Option.getD_some, Option.some.injEq]
   unfold goL iLe
   rw [decide_eq_decide]
   have := zKG hcut (zHs row n.f)
   omega
  have hpass : ∀ r ∈ upTo t.rows.length, z2X x ((t.rows[r.toNat]?).getD []) ((j + 1 : Nat) : Int) = (z2X x ((t.rows[r.toNat]?).getD []) p && decide (selN ((t.rows[r.toNat]?).getD []) n = ((j + 1 : Nat) : Int))) := by
   intro r hr
   simp only [upTo, List.mem_map, List.mem_range] at hr
   obtain ⟨i, hi, rfl⟩ := hr
   obtain ⟨row, hrow⟩ := zI hi
   rw [Int.toNat_natCast, hrow]
   exact zHx hs (by have := hv.cols row (List.mem_of_getElem? hrow); simp; omega) hp hf hx
  unfold zD5
  by_cases q : n.l = ((j + 1 : Nat) : Int)
  ·rw [if_pos q]
   unfold yJ
   dsimp only
   rw [List.filter_filter]
   apply List.filter_congr
   intro r hr
   rw [hpass r hr, key r hr, Bool.and_comm]
   congr 1
   rw [decide_eq_decide]
   unfold selN
   cases goL ((t.rows[r.toNat]?).getD []) n with
   | true => simp [q]
   | false => simp; omega
  ·rw [if_neg q]
   unfold yJ
   dsimp only
   rw [List.filter_filter]
   apply List.filter_congr
   intro r hr
   rw [hpass r hr, key r hr, Bool.and_comm]
   congr 1
   rw [decide_eq_decide]
   unfold selN
   cases goL ((t.rows[r.toNat]?).getD []) n with
   | true => simp; omega
   | false => simp; omega
end Go.H.S
namespace Go.H.S
open Go Go.Proofs Go.H
def sumF (f : Int → Int) : List Int → Int
 | [] => 0
 | r :: rs => f r + sumF f rs
theorem zGw (f : Int → Int) : ∀ a b : List Int, sumF f (a ++ b) = sumF f a + sumF f b
 | [], b => by simp [sumF]
 | r :: a, b => by simp only [List.cons_append, sumF, zGw f a b]; omega
theorem zEv (f : Int → Int) (p q : Int → Bool) (h : ∀ r, q r = !p r) : ∀ l : List Int, sumF f (l.filter p) + sumF f (l.filter q) = sumF f l
 | [] => by simp [sumF]
 | r :: l => by
  have ih := zEv f p q h l
  cases hp : p r with
  | true => rw [List.filter_cons, if_pos hp, List.filter_cons, if_neg (by rw [h, hp]; decide)]; simp only [sumF]; omega
  | false => rw [List.filter_cons, if_neg (by rw [hp]; decide), List.filter_cons, if_pos (by rw [h, hp]; rfl)]; simp only [sumF]; omega
def dq (res : List Int) (e : Int → Int) (r : Int) : Int := (gAt res r - e r) * (gAt res r - e r) - gAt res r * gAt res r
theorem zJj {res : List Int} {e : Int → Int} {w : Int} : ∀ {rows : List Int}, (∀ r ∈ rows, e r = w) → sumF (dq res e) rows = (rows.length : Int) * (w * w) - 2 * (w * sumR res rows)
 | [], _ => by simp [sumF, sumR]
 | r :: rows, h => by
  have ih := zJj (res := res) fun r hr => h r (List.mem_cons_of_mem _ hr)
  have h0 := h r (by simp)
  simp only [sumF, sumR, List.length_cons, ih]
  unfold dq
  rw [h0]
  have e1 : (gAt res r - w) * (gAt res r - w) = gAt res r * gAt res r - 2 * (w * gAt res r) + w * w := by
   rw [Int.sub_mul, Int.mul_sub, Int.mul_sub, Int.mul_comm (gAt res r) w]; omega
  rw [e1, Int.mul_add w, show ((rows.length + 1 : Nat) : Int) = (rows.length : Int) + 1 by omega, Int.add_mul, Int.one_mul]
  omega
theorem zJH {N S lam M num den : Int} (hN : 0 ≤ N) (hlam : 1 ≤ lam) (hnum : 1 ≤ num) (hden : num ≤ den) (hM : 0 ≤ M) (hS : -(N * M) ≤ S) (w : Int) (hw : w = S / (N + lam) * num / den) :
  N * (w * w) - 2 * (w * S) ≤ N * M := by
 have hd : 0 < N + lam := by omega
 have hv1 : S / (N + lam) * (N + lam) ≤ S := Int.ediv_mul_le S (by omega)
 have hv2 : S < (S / (N + lam) + 1) * (N + lam) := Int.lt_mul_of_ediv_lt hd (by omega)
 have hwl : w * den ≤ S / (N + lam) * num := by rw [hw]; exact Int.ediv_mul_le _ (by omega)
 have hwu : S / (N + lam) * num < (w + 1) * den := by rw [hw]; exact Int.lt_mul_of_ediv_lt (by omega) (by omega)
 generalize S / (N + lam) = v at *
 clear hw
 have e0 : N * (w * w) - 2 * (w * S) = w * (N * w - 2 * S) := by
  rw [Int.mul_sub, Int.mul_left_comm w N w, Int.mul_left_comm w 2 S]
 rw [e0]
 have hNM : 0 ≤ N * M := Int.mul_nonneg hN hM
 rcases Int.lt_or_le S 0 with hs | hs
 ·
  have hv : v ≤ -1 := by
   rcases Int.lt_or_le v 0 with q | q
   ·omega
   ·have := Int.mul_nonneg q (show 0 ≤ N + lam by omega); omega
  have hwneg : w ≤ -1 := by
   rcases Int.lt_or_le w 0 with q | q
   ·omega
   ·have a := Int.mul_nonneg q (show 0 ≤ den by omega)
    have b : v * num ≤ -1 * num := Int.mul_le_mul_of_nonneg_right hv (by omega)
    omega
  have hvw : v ≤ w := by
   rcases Int.lt_or_le w v with q | q
   ·exfalso
    have a : (w + 1) * den ≤ v * den := Int.mul_le_mul_of_nonneg_right (by omega) (by omega)
    have b : v * den ≤ v * num := by
     have := Int.mul_le_mul_of_nonneg_left hden (show 0 ≤ -v by omega)
     rw [Int.neg_mul, Int.neg_mul] at this
     omega
    omega
   ·exact q
  have hvM : -M ≤ v := by
   rcases Int.lt_or_le v (-M) with q | q
   ·exfalso
    have a : (v + 1) * (N + lam) ≤ -M * (N + lam) := Int.mul_le_mul_of_nonneg_right (by omega) (by omega)
    rw [Int.mul_add (-M), Int.neg_mul, Int.neg_mul, Int.mul_comm M N] at a
    have := Int.mul_nonneg hM (show 0 ≤ lam by omega)
    omega
   ·exact q
  have hNv : N * (-v) ≤ -S + N := by
   have a : (v + 1) * (N + lam) = N * v + N + (v + 1) * lam := by
    rw [Int.mul_add, Int.add_mul v 1 N, Int.one_mul, Int.mul_comm v N]
   have b : (v + 1) * lam ≤ 0 := by
    have := Int.mul_le_mul_of_nonneg_right (show v + 1 ≤ 0 by omega) (show 0 ≤ lam by omega)
    simpa using this
   rw [Int.mul_neg]
   omega
  have hNw : N * (-w) ≤ -S + N := by
   have : N * (-w) ≤ N * (-v) := Int.mul_le_mul_of_nonneg_left (by omega) hN
   omega
  rw [Int.mul_neg] at hNw
  have e1 : w * (N * w - 2 * S) = (-w) * (-(N * w) + 2 * S) := by rw [Int.neg_mul, Int.mul_add, Int.mul_neg, Int.mul_sub]; omega
  rw [e1]
  rcases Int.lt_or_le (-(N * w) + 2 * S) 0 with q | q
  ·have := Int.mul_le_mul_of_nonneg_left (show -(N * w) + 2 * S ≤ 0 by omega) (show 0 ≤ -w by omega)
   rw [Int.mul_zero] at this
   omega
  ·have a : (-w) * (-(N * w) + 2 * S) ≤ M * (-(N * w) + 2 * S) := Int.mul_le_mul_of_nonneg_right (by omega) q
   have b : M * (-(N * w) + 2 * S) ≤ M * N := Int.mul_le_mul_of_nonneg_left (by omega) hM
   rw [Int.mul_comm M N] at b
   omega
 ·have hv : 0 ≤ v := by
   rcases Int.lt_or_le v 0 with q | q
   ·exfalso
    have := Int.mul_le_mul_of_nonneg_right (show v + 1 ≤ 0 by omega) (show 0 ≤ N + lam by omega)
    rw [Int.zero_mul] at this
    omega
   ·exact q
  have hw0 : 0 ≤ w := by
   rcases Int.lt_or_le w 0 with q | q
   ·exfalso
    have a : (w + 1) * den ≤ 0 * den := Int.mul_le_mul_of_nonneg_right (by omega) (by omega)
    have b := Int.mul_nonneg hv (show 0 ≤ num by omega)
    rw [Int.zero_mul] at a
    omega
   ·exact q
  have hwv : w ≤ v := by
   rcases Int.lt_or_le v w with q | q
   ·exfalso
    have a : (v + 1) * den ≤ w * den := Int.mul_le_mul_of_nonneg_right (by omega) (by omega)
    have b : v * num ≤ v * den := Int.mul_le_mul_of_nonneg_left hden hv
    rw [Int.add_mul, Int.one_mul] at a
    omega
   ·exact q
  have hNw : N * w ≤ S := by
   have a : N * w ≤ N * v := Int.mul_le_mul_of_nonneg_left hwv hN
   have b := Int.mul_nonneg hv (show 0 ≤ lam by omega)
   rw [Int.mul_add, Int.mul_comm v N] at hv1
   omega
  have := Int.mul_le_mul_of_nonneg_left (show N * w - 2 * S ≤ 0 by omega) hw0
  rw [Int.mul_zero] at this
  omega
theorem zCI (c : Cfg) (t : List Nd) (row : List Int) : ∀ (m : Nat) (x : Int), yE (shrT c t) row m x = yE t row m x
 | 0, x => rfl
 | m + 1, x => by
  simp only [yE]
  split
  ·rw [shrT, List.getElem?_map]
   cases h : t[x.toNat]? with
   | none => rfl
   | some n =>
    simp only [Option.map_some]
    have e : goL row (shrN c n) = goL row n := by unfold goL; rw [zIn, shrN_c]
    rw [zIn, e, shrN_l, shrN_r, ← shrT, zCI c t row m]
  ·rfl
theorem zHw (c : Cfg) (t : List Nd) (row : List Int) (i : Int) : z2X (shrT c t) row i = z2X t row i := by
 unfold z2X
 rw [zCI, zH0]
theorem zCG {t : List Nd} {row : List Int} {j : Nat} {n : Nd} (hj : t[j]? = some n) (hf : n.f = -1) : ∀ {m : Nat} {x : Int} {l : List Int}, yE t row m x = some l → (j : Int) ∈ l → l.getLast? = some (j : Int)
 | 0, x, l, h, _ => by cases h
 | m + 1, x, l, h, hm => by
  obtain ⟨j', n', r, rfl, hn', rfl, hc⟩ := z1Z h
  rcases List.mem_cons.1 hm with q | q
  ·obtain rfl : j = j' := by omega
   rw [hj] at hn'
   cases hn'
   rcases hc with ⟨_, rfl⟩ | ⟨hf', _⟩
   ·rfl
   ·exact absurd hf hf'
  ·rcases hc with ⟨_, rfl⟩ | ⟨hf', m', hm', hr⟩
   ·cases q
   ·obtain rfl : m = m' := by omega
    have ih := zCG hj hf hr q
    cases r with
    | nil => cases q
    | cons a b => rw [List.getLast?_cons_cons]; exact ih
theorem zJd {t : List Nd} {row : List Int} {j : Nat} {n : Nd} (hj : t[j]? = some n) (hf : n.f = -1) (hp : z2X t row j = true) : wa t row = n.v := by
 unfold z2X at hp
 cases hr : yE t row (t.length + 1) 0 with
 | none => rw [hr] at hp; simp at hp
 | some l =>
  rw [hr] at hp
  simp only [Option.getD_some, List.contains_iff_mem] at hp
  have hl := zCG hj hf hr hp
  have he : endL t row = (j : Int) := by rw [endL, hr]; simp [hl]
  unfold wa
  rw [he, if_neg (by omega), Int.toNat_natCast, hj]
theorem zG2 {res : List Int} {M : Int} (hM : 0 ≤ M) (h : ∀ x ∈ res, -M ≤ x ∧ x ≤ M) : ∀ rows : List Int, -((rows.length : Int) * M) ≤ sumR res rows
 | [] => by simp [sumR]
 | r :: rs => by
  have ih := zG2 hM h rs
  have h1 : -M ≤ gAt res r := by
   unfold gAt
   cases hr : res[r.toNat]? with
   | none => simp; omega
   | some x => exact (h x (List.mem_of_getElem? hr)).1
  simp only [sumR, List.length_cons]
  rw [show ((rs.length + 1 : Nat) : Int) = (rs.length : Int) + 1 by omega, Int.add_mul, Int.one_mul]
  omega
theorem zHF (p q : Int → Bool) (h : ∀ r, q r = !p r) : ∀ l : List Int, (l.filter p).length + (l.filter q).length = l.length
 | [] => rfl
 | r :: l => by
  have ih := zHF p q h l
  cases hp : p r with
  | true => rw [List.filter_cons, if_pos hp, List.filter_cons, if_neg (by rw [h, hp]; decide)]; simp only [List.length_cons]; omega
  | false => rw [List.filter_cons, if_neg (by rw [hp]; decide), List.filter_cons, if_pos (by rw [h, hp]; rfl)]; simp only [List.length_cons]; omega
theorem zCY {g : Grd} {grads : List Int} {c : Cfg} (ht : yw g grads c) (hs : c.signs = []) {j : Nat} {x : Itm} (hx : (quL g grads c)[j]? = some x) : x.bd = z6Y ∧ (j = 0 → x = ⟨y9 grads.length, z6Y, 0⟩) := by
 have hsf : ∀ f, yQ c f = 0 := fun f => by
  unfold yQ
  rw [hs]
  split
  ·simp
  ·rfl
 refine zL3 ht (fun j x => x.bd = z6Y ∧ (j = 0 → x = ⟨y9 grads.length, z6Y, 0⟩)) ⟨rfl, fun _ => rfl⟩ (fun j L x z hx hip hz hj hjL hL => ?_) hx
 have e1 : (kidL g c x z).bd = x.bd := by unfold kidL; dsimp only; rw [hsf]; rfl
 have e2 : (kidR g c x z).bd = x.bd := by unfold kidR; dsimp only; rw [hsf]; rfl
 exact ⟨⟨e1.trans hx.1, fun h => absurd h (by omega)⟩, ⟨e2.trans hx.1, fun h => absurd h (by omega)⟩⟩
def eR (t : Tbl) (c : Cfg) (tr : List Nd) (r : Int) : Int := wa (shrT c tr) ((t.rows[r.toNat]?).getD [])
theorem zG7 {t : Tbl} {c : Cfg} {b : Nat} {res : List Int} (hv : tabV t) (ht : yw (zi t b) res c) (hs : c.signs = []) {M : Int} (hM : 0 ≤ M) (hM2 : M ≤ 1099511627776) (h : ∀ x ∈ res, -M ≤ x ∧ x ≤ M) :
  ∀ (d j : Nat) (x : Itm), (yF (zi t b) res c).length - j ≤ d → j < (yF (zi t b) res c).length → (quL (zi t b) res c)[j]? = some x → sumF (dq res (eR t c (yF (zi t b) res c))) x.rows ≤ (x.rows.length : Int) * M := by
 intro d
 induction d with
 | zero => intro j x hd hj _; omega
 | succ d ih =>
  intro j x hd hj hx
  have hq := (z2i ht).1
  obtain ⟨hsh, hn1, hn31⟩ := yz ht
  have hgc : (zi t b).cuts.length = t.names.length := z2l t b _
  obtain ⟨x2, hx2, hip, hh⟩ := (z2i ht).2 j hj
  obtain rfl := Option.some.inj (hx.symm.trans hx2)
  rcases hh with ⟨_, hl⟩ | ⟨z, hz, hl, hjL, hkl, hkr⟩
  ·obtain ⟨_, _, hrows, _⟩ := zI8 ht hx
   have hpass := zF7 hv (x := yF (zi t b) res c) (by rw [hgc] at hsh; exact hsh) hn31 (fun n hn f hf hft => by rw [← zMc hft]; exact zJV ht hn hf) j j (Nat.le_refl _) hj
   rw [hrows] at hpass
   have hbd := (zCY ht hs hx).1
   have hS := zG2 hM h x.rows
   have hS2 : sumR res x.rows ≤ (x.rows.length : Int) * M := by
    have := zG2 (res := res.map fun y => -y) hM (fun y hy => by obtain ⟨u, hu, rfl⟩ := List.mem_map.1 hy; have := h u hu; omega) x.rows
    have e : ∀ rows : List Int, sumR (res.map fun y => -y) rows = -sumR res rows := fun rows => by
     induction rows with
     | nil => rfl
     | cons r rs ih =>
      have eg : gAt (res.map fun y => -y) r = -gAt res r := by
       unfold gAt
       rw [List.getElem?_map]
       cases res[r.toNat]? with
       | none => rfl
       | some y => rfl
      simp only [sumR, ih, eg]
      omega
    rw [e] at this
    omega
   have hlam := cfgP.lam ht.2.1
   have hw : ∀ r ∈ x.rows, eR t c (yF (zi t b) res c) r = sumR res x.rows / ((x.rows.length : Int) + c.lambda) * c.num / c.den := by
    intro r hr
    rw [hpass] at hr
    have hp := (List.mem_filter.1 hr).2
    have hp2 := zHw c (yF (zi t b) res c) ((t.rows[r.toNat]?).getD []) j
    rw [hp] at hp2
    unfold eR
    rw [zJd (zIm (c := c) hl) (zIn c _) hp2]
    have e1 : (shrN c (z1c res c x)).v = scV c (z2D x.rows.length (sumR res x.rows) c.lambda x.bd) := by
     unfold shrN
     rw [if_pos (show (z1c res c x).f = -1 from rfl)]
     rfl
    rw [e1, hbd]
    unfold scV
    have e2 : z2D x.rows.length (sumR res x.rows) c.lambda z6Y = sumR res x.rows / ((x.rows.length : Int) + c.lambda) := by
     have hN0 : (0 : Int) ≤ x.rows.length := by omega
     have hd0 : (0 : Int) < (x.rows.length : Int) + c.lambda := by have := hlam.1; omega
     have hNM : (x.rows.length : Int) * M ≤ ((x.rows.length : Int) + c.lambda) * M := Int.mul_le_mul_of_nonneg_right (by have := hlam.1; omega) hM
     have l1 : -M ≤ sumR res x.rows / ((x.rows.length : Int) + c.lambda) := (Int.le_ediv_iff_mul_le hd0).2 (by rw [Int.neg_mul, Int.mul_comm M]; omega)
     have l2 : sumR res x.rows / ((x.rows.length : Int) + c.lambda) ≤ M := Int.ediv_le_of_le_mul hd0 (by rw [Int.mul_comm M]; omega)
     unfold z2D z0f z6Y
     dsimp only
     rw [if_neg (by omega), if_neg (by omega)]
    rw [e2]
   rw [zJj hw]
   exact zJH (by omega) hlam.1 ht.2.1.2.2.2.1.1 ht.2.1.2.2.2.1.2 hM hS _ rfl
  ·obtain ⟨f, b2, hp⟩ := zLZ ht hip hz
   have hL : (zq (zi t b) res c j).1.length < (yF (zi t b) res c).length := by rw [← hq]; exact (List.getElem?_eq_some_iff.1 hkl).1
   have hR : (zq (zi t b) res c j).1.length + 1 < (yF (zi t b) res c).length := by rw [← hq]; exact (List.getElem?_eq_some_iff.1 hkr).1
   have i1 := ih _ _ (by omega) hL hkl
   have i2 := ih _ _ (by omega) hR hkr
   rw [hp.q1] at i1
   rw [hp.q2] at i2
   have hcomp : ∀ r : Int, decide ((b2 : Int) < w4 (ya (zi t b) f) r) = !decide (w4 (ya (zi t b) f) r ≤ (b2 : Int)) := fun r => by
    rw [← decide_not, decide_eq_decide]; omega
   have s1 := zEv (dq res (eR t c (yF (zi t b) res c))) _ _ hcomp x.rows
   have s2 := zHF _ _ hcomp x.rows
   have e1 : z67 (ya (zi t b) f) x.rows b2 = x.rows.filter fun r => decide (w4 (ya (zi t b) f) r ≤ (b2 : Int)) := rfl
   have e2 : z5w (ya (zi t b) f) x.rows b2 = x.rows.filter fun r => decide ((b2 : Int) < w4 (ya (zi t b) f) r) := rfl
   rw [e1] at i1
   rw [e2] at i2
   rw [← s1]
   have e3 : (x.rows.length : Int) * M = ((x.rows.filter fun r => decide (w4 (ya (zi t b) f) r ≤ (b2 : Int))).length : Int) * M + ((x.rows.filter fun r => decide ((b2 : Int) < w4 (ya (zi t b) f) r)).length : Int) * M := by
    rw [← s2, Int.natCast_add, Int.add_mul]
   rw [e3]
   exact Int.add_le_add i1 i2
def sqS : List Int → Int
 | [] => 0
 | x :: r => x * x + sqS r
theorem zCx : ∀ a b : List Int, sqS (a ++ b) = sqS a + sqS b
 | [], b => by simp [sqS]
 | x :: a, b => by simp only [List.cons_append, sqS, zCx a b]; omega
theorem zIf {t : Tbl} {c : Cfg} {tr : List Nd} {ys ps : List Int} (hl : ys.length = ps.length) (hr : ys.length = t.rows.length) : ∀ k, k ≤ ys.length →
  sqS ((resL ys (addL (shrT c tr) t.rows ps)).take k) = sqS ((resL ys ps).take k) + sumF (dq (resL ys ps) (eR t c tr)) (upTo k)
 | 0, _ => by simp [sqS, sumF, upTo]
 | k + 1, hk => by
  have ih := zIf (c := c) (tr := tr) hl hr k (by omega)
  obtain ⟨y, hy⟩ := zI (show k < ys.length by omega)
  obtain ⟨p, hp⟩ := zI (show k < ps.length by omega)
  obtain ⟨r, hrk⟩ := zI (show k < t.rows.length by omega)
  have ha : (addL (shrT c tr) t.rows ps)[k]? = some (p + wa (shrT c tr) r) := by rw [addL, List.getElem?_zipWith, hp, hrk]
  have hg : (resL ys ps)[k]? = some (y - p) := by rw [resL, List.getElem?_zipWith, hy, hp]
  rw [z5x hy ha, z5x hy hp, zCx, zCx, ih, z9W, zGw]
  have e1 : gAt (resL ys ps) (k : Int) = y - p := by unfold gAt; rw [Int.toNat_natCast, hg]; rfl
  have e2 : eR t c tr (k : Int) = wa (shrT c tr) r := by unfold eR; rw [Int.toNat_natCast, hrk]; rfl
  simp only [sqS, sumF]
  unfold dq
  rw [e1, e2, show y - (p + wa (shrT c tr) r) = y - p - wa (shrT c tr) r by omega]
  omega
theorem zHt {t : Tbl} {c : Cfg} {b : Nat} {ps : List Int} (hv : tabV t) (hpl : ps.length = t.ys.length) (ht : yw (zi t b) (resL t.ys ps) c) (hs : c.signs = []) {M : Int} (hM : 0 ≤ M) (hM2 : M ≤ 1099511627776) (h : ∀ x ∈ resL t.ys ps, -M ≤ x ∧ x ≤ M) :
  sqS (resL t.ys (addL (shrT c (yF (zi t b) (resL t.ys ps) c)) t.rows ps)) ≤ sqS (resL t.ys ps) + (t.ys.length : Int) * M := by
 have hrl := wj hpl.symm
 have hal := z4X (tr := shrT c (yF (zi t b) (resL t.ys ps) c)) (hpl.trans hv.yl)
 have hr2 := wj (ys := t.ys) (ps := addL (shrT c (yF (zi t b) (resL t.ys ps) c)) t.rows ps) (by omega)
 have hd := zIf (t := t) (c := c) (tr := yF (zi t b) (resL t.ys ps) c) (ps := ps) hpl.symm hv.yl t.ys.length (Nat.le_refl _)
 rw [show t.ys.length = (resL t.ys (addL (shrT c (yF (zi t b) (resL t.ys ps) c)) t.rows ps)).length by omega, List.take_length, hr2, show t.ys.length = (resL t.ys ps).length by omega, List.take_length] at hd
 have hn := (yz ht).2.1
 obtain ⟨x, hx, _⟩ := (z2i ht).2 0 hn
 have h0 := (zCY ht hs hx).2 rfl
 have hm := zG7 hv ht hs hM hM2 h _ 0 x (Nat.le_refl _) hn hx
 rw [h0] at hm
 have hr1 := hv.r1
 have hr40 := hv.r40
 have hyl := hv.yl
 have ea : y9 ((resL t.ys ps).length : Int) = upTo (resL t.ys ps).length := by
  unfold y9
  rw [if_pos (by omega), Int.toNat_natCast]
 dsimp only at hm
 rw [ea, z9H] at hm
 rw [show t.ys.length = (resL t.ys ps).length by omega]
 omega
end Go.H.S
namespace Go.H.S
open Go Go.Proofs Go.H
attribute [local irreducible] Tri z6 zR zV zY zW
theorem zGx {xs : List Int} {k : Nat} {x : Int} (h : xs[k]? = some x) : sqS (xs.take (k + 1)) = sqS (xs.take k) + x * x := by
 rw [List.take_add_one, h, zCx]
 simp [sqS]
theorem zM1 {x : Int} (h : -2199023255552 ≤ x ∧ x ≤ 2199023255552) : 0 ≤ x * x ∧ x * x ≤ 4835703278458516698824704 := by
 have := zIe (x := x) (A := 2199023255552) h
 omega
theorem zF0 : ∀ {xs : List Int}, (∀ x ∈ xs, -2199023255552 ≤ x ∧ x ≤ 2199023255552) → 0 ≤ sqS xs ∧ sqS xs ≤ 4835703278458516698824704 * (xs.length : Int)
 | [], _ => by simp [sqS]
 | x :: r, h => by
  have h1 := zM1 (h x (by simp))
  have h2 := zF0 (xs := r) fun y hy => h y (List.mem_cons_of_mem _ hy)
  simp only [sqS, List.length_cons]
  omega
def z04 : List Int → Nat
 | [] => 0
 | x :: r => max x.natAbs (z04 r)
theorem zCO (y : Int) : ∀ l : List Int, z04 (l ++ [y]) = max (z04 l) y.natAbs
 | [] => by simp [z04]
 | x :: l => by simp only [List.cons_append, z04, zCO y l]; omega
theorem zHz {xs : List Int} {k : Nat} {x : Int} (h : xs[k]? = some x) : z04 (xs.take (k + 1)) = max (z04 (xs.take k)) x.natAbs := by
 rw [List.take_add_one, h]
 exact zCO x _
theorem zHB : ∀ {xs : List Int} {x : Int}, x ∈ xs → x.natAbs ≤ z04 xs
 | y :: r, x, h => by
  simp only [z04]
  rcases List.mem_cons.1 h with q | q
  ·subst q; omega
  ·have := zHB q; omega
theorem z9N {B : Nat} : ∀ {xs : List Int}, (∀ x ∈ xs, x.natAbs ≤ B) → z04 xs ≤ B
 | [], _ => by simp [z04]
 | y :: r, h => by
  have h1 := h y (by simp)
  have h2 := z9N (xs := r) fun x hx => h x (List.mem_cons_of_mem _ hx)
  simp only [z04]
  omega
theorem zDJ {n : Int} (h : 0 ≤ n ∧ n ≤ 9223372036854775807) : hiU n = 0 ∧ loU n = n := hl_eq (by omega) (by omega) (by omega)
set_option maxHeartbeats 4000000 in
theorem z8j (xs : List Int) (hl : xs.length ≤ 1000) (hb : ∀ x ∈ xs, -2199023255552 ≤ x ∧ x ≤ 2199023255552) : z6 PR zEE [aIs xs] (z4Y (sqS xs) true) [] 0 := by
 have eX : nInt (dLen (eL cI xs)) = (xs.length : Int) := by simp
 have h00 : hiU (sqS ([] : List Int)) = 0 ∧ loU (sqS ([] : List Int)) = 0 := zDJ (by simp [sqS])
 refine z6.intro hT (pf Tryz.func158) rfl (by kernel_rfl) Tryz.ntmps158 rfl ?_
 conv => whnf
 refine zB hT [2, 4, 10, 11, 12] (α := Nat) (fun k => { t := [(2, .c (.ptr 0 0)), (4, .c (.ptr 1 0)), (10, aIs xs), (11, ai xs.length), (12, ai k)], h := [(0, .box zg [.d (.bool false), .d (.int .u64 0), .d (.int .u64 0)]), (1, .box zg (cV (sqS (xs.take k))))], n := 2, N := 30 })
  (fun k => k ≤ xs.length) (fun k => xs.length - k) 0 (by (conv => whnf); simp only [List.take_zero, cV]; rw [h00.1, h00.2]; first | done | rfl | (rw [eX]; rfl)) (Nat.zero_le _) ?_
 intro k hk
 conv => whnf
 refine zK (fun q => ?_) (fun q => ?_) <;> (conv => whnf) <;> simp only [eH] at q
 ·obtain ⟨x, hx⟩ := zI (show k < xs.length by omega)
  have hxb := hb x (List.mem_of_getElem? hx)
  have hsq := zM1 hxb
  have hin := zF0 (xs := xs.take k) fun y hy => hb y (List.mem_of_mem_take hy)
  have htl : (xs.take k).length = k := by rw [List.length_take]; omega
  rw [htl] at hin
  have hst := zGx hx
  have hmw := z3x x (show i64 x by unfold i64; omega)
  have haw := z10 (sqS (xs.take k)) (x * x) hin.1 hsq.1 (by omega)
  rw [← hst] at haw
  generalize x * x = xx at *
  generalize hs1 : sqS (xs.take (k + 1)) = s' at *
  generalize hs0 : sqS (xs.take k) = s0 at *
  refine zG (by simp) hx ?_
  conv => whnf
  refine zJ hT hmix [2, 4, 7, 8, 10, 11, 12] { t := [(2, .c (.ptr 0 0)), (4, .c (.ptr 1 0)), (7, .c (.ptr 2 0)), (8, ab true), (10, aIs xs), (11, ai xs.length), (12, ai k)], h := [(0, .box zg [.d (.bool false), .d (.int .u64 0), .d (.int .u64 0)]), (1, .box zg (cV s0)), (2, .box zg (cV s'))], n := 3, N := 30 } rfl ?_ ?_
  ·repeat' first
    | (refine zM rfl ?_; (conv => whnf))
    | (refine zL rfl ?_ ?_ <;> (conv => whnf))
    | (refine zC rfl ?_ ?_ ?_ <;> (conv => whnf))
    | (refine .inl ⟨_, _, _, hmw, rfl, ?_⟩; (conv => whnf))
    | (refine .inl ⟨_, _, _, haw, rfl, ?_⟩; (conv => whnf))
    | (refine zO rfl ?_; (conv => whnf); first | done | rfl)
  conv => whnf
  refine ⟨k + 1, by omega, by omega, ?_⟩
  ((conv => whnf); simp only [eS, wI (show k < xs.length by omega) (by omega)])
  rw [hs1]
  first | done | exact ⟨rfl, rfl⟩ | rfl
 ·obtain rfl : k = xs.length := by omega
  rw [List.take_length]
  first | done | rfl
theorem zIP {x : Int} (h : 0 ≤ x ∧ x ≤ 9223372036854775807) : z2K .i64 x = x := by unfold z2K; simp [IntKind.wrap, IntKind.bits, IntKind.signed]; omega
set_option maxHeartbeats 4000000 in
theorem z8i (xs : List Int) (hl : xs.length ≤ 1000) (hb : ∀ x ∈ xs, -2199023255552 ≤ x ∧ x ≤ 2199023255552) : z6 PR zED [aIs xs] (ai (z04 xs)) [] 0 := by
 have eX : nInt (dLen (eL cI xs)) = (xs.length : Int) := by simp
 have hle := z9N (B := 2199023255552) (xs := xs) fun x hx => by have := hb x hx; omega
 refine z6.intro hT (pf Tryz.func172) rfl (by kernel_rfl) Tryz.ntmps172 rfl ?_
 conv => whnf
 refine zB hT [3, 6, 7, 8] (α := Nat) (fun k => { t := [(3, .c (.d (.int .u64 (z04 (xs.take k) : Int)))), (6, aIs xs), (7, ai xs.length), (8, ai k)], h := [], n := 0, N := 20 })
  (fun k => k ≤ xs.length) (fun k => xs.length - k) 0 (by (conv => whnf); first | done | rfl | (rw [eX]; rfl)) (Nat.zero_le _) ?_
 intro k hk
 conv => whnf
 refine zK (fun q => ?_) (fun q => ?_) <;> (conv => whnf) <;> simp only [eH] at q
 ·obtain ⟨x, hx⟩ := zI (show k < xs.length by omega)
  have hxb := hb x (List.mem_of_getElem? hx)
  have hst := zHz hx
  refine zG (by simp) hx ?_
  conv => whnf
  refine .inl ⟨_, _, _, wd x (show i64 x by unfold i64; omega), rfl, ?_⟩
  conv => whnf
  refine ⟨k + 1, by omega, by omega, ?_⟩
  ((conv => whnf); simp only [eS, wI (show k < xs.length by omega) (by omega)])
  rw [zML, hst]
  first | done | omega | simp
 ·obtain rfl : k = xs.length := by omega
  rw [List.take_length]
  dsimp only
  rw [zJP, show min ((z04 xs : Nat) : Int) 9223372036854775807 = (z04 xs : Int) by omega, zIP (by omega)]
  first | done | rfl
theorem z3P (n : Int) (h : 0 ≤ n ∧ n ≤ 9223372036854775807) : z6 PR zE5 [ai n] (aV n) [] 0 := by
 obtain ⟨h1, h2⟩ := zDJ h
 have hw := z3u n h.1 0 n h1.symm h2.symm
 have hn : ((n.natAbs : Nat) : Int) = n := by omega
 have hz := wd n (show i64 n by unfold i64; omega)
 rw [hn] at hz
 refine z6.intro hT (pf Tryz.func171) rfl (by kernel_rfl) Tryz.ntmps171 rfl ?_
 conv => whnf
 rw [show iLt n 0 = false from decide_eq_false (by omega)]
 refine .inl ⟨_, _, _, hz, rfl, ?_⟩
 conv => whnf
 refine .inl ⟨_, _, _, hw, rfl, ?_⟩
 conv => whnf
def z7A (xs : List Int) : Int := ((z04 xs : Int) + 1) * (4 * (xs.length : Int))
theorem zH3 {xs : List Int} (hl : xs.length ≤ 1000) (h : z04 xs ≤ 2199023255552) : 0 ≤ z7A xs ∧ z7A xs ≤ 8796093022212000 := by
 unfold z7A
 have a := Int.mul_le_mul (show (z04 xs : Int) + 1 ≤ 2199023255553 by omega) (show 4 * (xs.length : Int) ≤ 4000 by omega) (by omega) (by omega)
 have b := Int.mul_nonneg (show 0 ≤ (z04 xs : Int) + 1 by omega) (show 0 ≤ 4 * (xs.length : Int) by omega)
 omega
set_option maxHeartbeats 4000000 in
theorem z6I (xs : List Int) (hl : xs.length ≤ 1000) (hb : ∀ x ∈ xs, -2199023255552 ≤ x ∧ x ≤ 2199023255552) : z6 PR z44 [aIs xs] (z4Y (z7A xs) true) [] 0 := by
 have hle := z9N (B := 2199023255552) (xs := xs) fun x hx => by have := hb x hx; omega
 have hrm := zH3 hl hle
 have hm := z8i xs hl hb
 have hs := z0C ((z04 xs : Int) + 1) (4 * (xs.length : Int)) (by omega) (by omega) (by have : ((z04 xs : Int) + 1) * (4 * (xs.length : Int)) = z7A xs := rfl; omega) (by omega)
 have ha := z10 (z04 xs : Int) 1 (by omega) (by omega) (by omega)
 have hw := z3P (z04 xs : Int) (by omega)
 have e1 : wMul .i64 4 (nInt (dLen (eL cI xs))) = 4 * (xs.length : Int) := by rw [show nInt (dLen (eL cI xs)) = (xs.length : Int) by simp]; exact z1S (by omega) (by omega)
 rw [show ((z04 xs : Int) + 1) * (4 * (xs.length : Int)) = z7A xs from rfl] at hs
 generalize z7A xs = rm at *
 generalize (z04 xs : Int) + 1 = m1 at *
 generalize (z04 xs : Int) = m0 at *
 refine z6.intro hT (pf Tryz.func69) rfl (by kernel_rfl) Tryz.ntmps69 rfl ?_
 conv => whnf
 refine .inl ⟨_, _, _, hm, rfl, ?_⟩
 conv => whnf
 refine .inl ⟨_, _, _, hw, rfl, ?_⟩
 conv => whnf
 refine .inl ⟨_, _, _, z3P 1 (by omega), rfl, ?_⟩
 conv => whnf
 refine .inl ⟨_, _, _, ha, rfl, ?_⟩
 conv => whnf
 rw [e1]
 refine .inl ⟨_, _, _, hs, rfl, ?_⟩
 conv => whnf
 first | done | rfl
set_option maxHeartbeats 4000000 in
theorem z1h (t : Tbl) (ps : List Int) (ts : List (List Nd)) (he : t.ys.length = ps.length) (hl : t.ys.length ≤ 1000) (hb : ∀ y ∈ t.ys, -2147483647 ≤ y ∧ y ≤ 2147483647) (hp : ∀ p ∈ ps, -1152921504606846976 ≤ p ∧ p ≤ 1152921504606846976) (hr : ∀ x ∈ resL t.ys ps, -2199023255552 ≤ x ∧ x ≤ 2199023255552) :
  z6 PR w9 [aTb t, aSt ps ts] (z4Y (sqS (resL t.ys ps)) true) [] 0 := by
 have hrl := wj he
 have h1 := z1i t.ys ps he hl hb hp
 have h2 := z8j (resL t.ys ps) (by omega) hr
 generalize sqS (resL t.ys ps) = s at *
 generalize resL t.ys ps = res at *
 refine z6.intro hT (pf Tryz.func67) rfl (by kernel_rfl) Tryz.ntmps67 rfl ?_
 conv => whnf
 refine .inl ⟨_, _, _, h1, rfl, ?_⟩
 conv => whnf
 refine .inl ⟨_, _, _, h2, rfl, ?_⟩
 conv => whnf
 first | done | rfl
end Go.H.S
namespace Go.H.S
open Go Go.Proofs Go.H
attribute [local irreducible] Tri z6 zR zV zY zW
set_option maxHeartbeats 4000000 in
theorem zA7 (t : Tbl) (g : Grd) (c : Cfg) (ps res : List Int) (ts : List (List Nd)) (tr : List Nd) (hz : szT t) (ht : y1 t = true) (hc : cfgP c) (hsm : smG g) (hgrid : z6 PR z1N [aTb t, ai c.bins] (aG g) [] 0) (hpl : ps.length = t.ys.length) (hpb : ∀ p ∈ ps, -1152921504606846976 ≤ p ∧ p ≤ 1152921504606846976)
  (hts : ts.length ≤ 1000) (htl : ∀ x ∈ ts, x.length ≤ 1000) (hgl : tr.length ≤ 1000) (hlf : ∀ n ∈ tr, zI5 n) (hres : z6 PR z3W [aIs t.ys, aIs ps] (zKc res true) [] 0) (hgrow : z6 PR z45 [aG g, aIs res, aCf c] (.tup [(true, [.ref 0 0 none]), (false, [.d (.bool true)])]) [(0, .arr zt 5 0 .own (eL cN tr))] 1)
  (hev : ∀ r, -1152921504606846976 ≤ wa (shrT c tr) r ∧ wa (shrT c tr) r ≤ 1152921504606846976) :
  z6 PR z0h [aTb t, aG g, aCf c, aSt ps ts] (z2p (addL (shrT c tr) t.rows ps) (ts ++ [shrT c tr]) true) [] 0 := by
 have hv := z05 ht
 have hyl := hv.yl
 have hr40 := hv.r40
 have eP : nInt (dLen (eL cI ps)) = (ps.length : Int) := by simp
 refine z6.intro hT (pf Tryz.func70) rfl (by kernel_rfl) Tryz.ntmps70 rfl ?_
 conv => whnf
 refine zj 0 ?_
 conv => whnf
 refine zj 1 ?_
 conv => whnf
 refine zj 2 ?_
 conv => whnf
 refine zj 3 ?_
 conv => whnf
 refine zJ hT hmix [4, 5, 6, 7, 8, 30] { t := [(4, rpTb t), (5, rpG g), (6, rpCf c), (7, rpSt ps ts), (8, .c (.ptr 0 0)), (30, ab false)], h := [(0, .box zn [.nl 1, .nl 1])], n := 1, N := 100 } rfl ?_ ?_
 ·repeat' first
   | (refine zM rfl ?_; (conv => whnf))
   | (refine zL rfl ?_ ?_ <;> (conv => whnf))
   | (refine zC rfl ?_ ?_ ?_ <;> (conv => whnf))
   | (refine .inl ⟨_, _, _, wV t hz, rfl, ?_⟩; rw [ht]; (conv => whnf))
   | (refine .inl ⟨_, _, _, hgrid, rfl, ?_⟩; (conv => whnf))
   | (refine .inl ⟨_, _, _, z6H g hsm, rfl, ?_⟩; (conv => whnf))
   | (refine zO rfl ?_; (conv => whnf); first | done | rfl)
 conv => whnf
 refine .inl ⟨_, _, _, hres, rfl, ?_⟩
 conv => whnf
 refine .inl ⟨_, _, _, hgrow, rfl, ?_⟩
 conv => whnf
 refine .inl ⟨_, _, _, z4e tr c hc hgl hlf, rfl, ?_⟩
 conv => whnf
 refine zj 3 ?_
 conv => whnf
 refine zJ hT hmix [4, 7, 8, 13, 14] { t := [(4, rpTb t), (7, rpSt ps ts), (8, .c (.ptr 0 0)), (13, .c (.d (.rp [.sl 5 (eL cN (shrT c tr))]))), (14, .c (.ptr 1 0))], h := [(0, .box zn [.nl 1, .nl 1]), (1, .box zn [.nl 1, .ref 2 0 none]), (2, .arr zT 1 0 .own (eL cT (ts ++ [shrT c tr])))], n := 3, N := 100 } rfl ?_ ?_
 ·repeat' first
   | (refine zM rfl ?_; (conv => whnf))
   | (refine zL rfl ?_ ?_ <;> (conv => whnf))
   | (refine zC rfl ?_ ?_ ?_ <;> (conv => whnf))
   | (refine zw rfl ?_ ?_ ?_ ?_ <;> (conv => whnf))
   | (refine .inl ⟨_, _, _, z8b ts (by omega) (fun x hx => by have := htl x hx; omega), rfl, ?_⟩; (conv => whnf))
   | (refine And.intro (by simp [zE, zQ]; omega) ?_; (conv => whnf))
   | (refine zO rfl ?_; (conv => whnf); simp only [z7]; rw [show dApp (eL cT ts) [[D.sl 5 (eL cN (shrT c tr))]] = eL cT (ts ++ [shrT c tr]) from zX cT ts _]; first | done | rfl)
 conv => whnf
 refine z0i 1 0 zZ 1 ?_
 conv => whnf
 refine zB hT [4, 7, 8, 13, 14, 70, 71, 72] (α := Nat) (fun k => { t := [(4, rpTb t), (7, rpSt ps ts), (8, .c (.ptr 0 0)), (13, .c (.d (.rp [.sl 5 (eL cN (shrT c tr))]))), (14, .c (.ptr 1 0)), (70, aIs ps), (71, ai ps.length), (72, ai k)], h := [(0, .box zn [.nl 1, .nl 1]), (1, .box zn [.ref 2 0 none, .ref 3 0 none]), (2, .arr zZ 1 0 .own (eL cI ((addL (shrT c tr) t.rows ps).take k))), (3, .arr zT 1 0 .own (eL cT (ts ++ [shrT c tr])))], n := 4, N := 100 })
  (fun k => k ≤ ps.length) (fun k => ps.length - k) 0 (by (conv => whnf); simp only [List.take_zero, zp]; first | done | rfl | (rw [eP]; rfl)) (Nat.zero_le _) ?_
 intro k hk
 conv => whnf
 refine zK (fun q => ?_) (fun q => ?_) <;> (conv => whnf) <;> simp only [eH] at q
 ·obtain ⟨p, hp⟩ := zI (show k < ps.length by omega)
  obtain ⟨r, hr⟩ := zI (show k < t.rows.length by omega)
  have hpk := hpb p (List.mem_of_getElem? hp)
  have hrc := hv.cols r (List.mem_of_getElem? hr)
  have hn4 := hv.n4
  have hek := hev r
  have hsl : (shrT c tr).length ≤ 1048576 := by simp [shrT]; omega
  refine zG (by simp) hp ?_
  conv => whnf
  refine zJ hT hmix [4, 7, 8, 13, 14, 17, 18, 70, 71, 72] { t := [(4, rpTb t), (7, rpSt ps ts), (8, .c (.ptr 0 0)), (13, .c (.d (.rp [.sl 5 (eL cN (shrT c tr))]))), (14, .c (.ptr 1 0)), (17, ai (p + wa (shrT c tr) r)), (18, ab true), (70, aIs ps), (71, ai ps.length), (72, ai k)], h := [(0, .box zn [.nl 1, .nl 1]), (1, .box zn [.ref 2 0 none, .ref 3 0 none]), (2, .arr zZ 1 0 .own (eL cI ((addL (shrT c tr) t.rows ps).take k))), (3, .arr zT 1 0 .own (eL cT (ts ++ [shrT c tr])))], n := 4, N := 100 } rfl ?_ ?_
  ·repeat' first
    | (refine zM rfl ?_; (conv => whnf))
    | (refine zL rfl ?_ ?_ <;> (conv => whnf))
    | (refine zC rfl ?_ ?_ ?_ <;> (conv => whnf))
    | (refine zG (k := k) rfl hr ?_; (conv => whnf))
    | (refine .inl ⟨_, _, _, z6O (shrT c tr) r hsl (by omega), rfl, ?_⟩; (conv => whnf))
    | (refine .inl ⟨_, _, _, wW p (wa (shrT c tr) r) (by omega) (by omega), rfl, ?_⟩; (conv => whnf))
    | (refine zO rfl ?_; (conv => whnf); first | done | rfl)
  conv => whnf
  have hal := z4X (tr := shrT c tr) (hpl.trans hyl)
  refine And.intro (by simp [z7, zE, zQ]; omega) ?_
  conv => whnf
  refine ⟨k + 1, by omega, by omega, ?_⟩
  ((conv => whnf); simp only [eS, wI (show k < ps.length by omega) (by omega)])
  rw [zFt hp hr, ← zX, z7]
  first | done | rfl | exact ⟨rfl, rfl⟩
 ·obtain rfl : k = ps.length := by omega
  rw [← z4X (tr := shrT c tr) (hpl.trans hyl), List.take_length]
  simp only [z7]
  first | done | rfl
theorem z2f (t : Tbl) (b : Nat) (c : Cfg) (ps : List Int) (ts : List (List Nd)) (tr : List Nd) (hz : szT t) (ht : y1 t = true) (hc : cfgP c) (hb : c.bins = (b : Int)) (hbb : 2 ≤ b ∧ b ≤ 8) (hsm : smG (zi t b)) (hpl : ps.length = t.ys.length) (hpb : ∀ p ∈ ps, -1152921504606846976 ≤ p ∧ p ≤ 1152921504606846976)
  (hts : ts.length ≤ 1000) (htl : ∀ x ∈ ts, x.length ≤ 1000) (htk : yw (zi t b) (resL t.ys ps) c) (hgl : tr.length ≤ 1000) (hlf : ∀ n ∈ tr, zI5 n) (htr : yF (zi t b) (resL t.ys ps) c = tr) (hev : ∀ r, -1152921504606846976 ≤ wa (shrT c tr) r ∧ wa (shrT c tr) r ≤ 1152921504606846976) :
  z6 PR z0h [aTb t, aG (zi t b), aCf c, aSt ps ts] (z2p (addL (shrT c tr) t.rows ps) (ts ++ [shrT c tr]) true) [] 0 := by
 have hv := z05 ht
 have hcl : c.signs.length ≤ 1048576 := by have := hc.2.2.2.2; omega
 have hrl := wj hpl.symm
 have hyl := hv.yl
 have hr40 := hv.r40
 have hgrow := z6L (zi t b) (resL t.ys ps) c hsm (by omega) hcl htk
 rw [htr] at hgrow
 have hgrid := z6N t b hbb ht hz
 rw [← hb] at hgrid
 exact zA7 t (zi t b) c ps (resL t.ys ps) ts tr hz ht hc hsm hgrid hpl hpb hts htl hgl hlf (z1i t.ys ps hpl.symm (by omega) hv.yv hpb) hgrow hev
abbrev cSx (x : List Int × List (List Nd)) : List D := [.sl 1 (eL cI x.1), .sl 1 (eL cT x.2)]
abbrev zLw (l : List (List Int × List (List Nd))) (b : Bool) : AV := .tup [(false, [.d (.sl 2 (eL cSx l))]), (false, [.d (.bool b)])]
abbrev tupS0 : AV := .tup [(false, [.d (.sl 0 [])]), (false, [.d (.bool false)])]
def wY (P : Nat → List Int) (T : Nat → List (List Nd)) (n : Nat) : List (List Int × List (List Nd)) := (List.range n).map fun k => (P k, T k)
theorem z9Z (P : Nat → List Int) (T : Nat → List (List Nd)) (n : Nat) : (wY P T n).length = n := by simp [wY]
theorem zEz (P : Nat → List Int) (T : Nat → List (List Nd)) (n : Nat) : wY P T (n + 1) = wY P T n ++ [(P n, T n)] := by simp [wY, List.range_succ]
theorem zHo (P : Nat → List Int) (T : Nat → List (List Nd)) {n k : Nat} (h : k < n) : (wY P T n)[k]? = some (P k, T k) := by simp [wY, h]
set_option maxHeartbeats 4000000 in
theorem z4p (t : Tbl) (c : Cfg) (hz : szT t) (hcl : c.signs.length ≤ 1048576) (h : ¬ (y1 t = true ∧ z0T c = true)) : z6 PR z1M [aTb t, aCf c] tupS0 [] 0 := by
 refine z6.intro hT (pf Tryz.func136) rfl (by kernel_rfl) Tryz.ntmps136 rfl ?_
 conv => whnf
 cases ht : y1 t with
 | false =>
  refine .inl ⟨_, _, _, z8c t hz ht, rfl, ?_⟩
  conv => whnf
  first | done | rfl
 | true =>
  have hc : z0T c = false := by cases q : z0T c with | true => exact absurd ⟨ht, q⟩ h | false => rfl
  refine .inl ⟨_, _, _, z26 t hz ht, rfl, ?_⟩
  conv => whnf
  refine .inl ⟨_, _, _, yh c hcl, rfl, ?_⟩
  rw [hc]
  conv => whnf
  first | done | rfl
set_option maxHeartbeats 4000000 in
theorem zBF (t : Tbl) (c : Cfg) (g : Grd) (P : Nat → List Int) (T : Nat → List (List Nd)) (n : Nat) (hc : z0T c = true) (hcl : c.signs.length ≤ 1048576) (hn : c.rounds = n) (hn8 : n ≤ 8) (hgrid : z6 PR z1N [aTb t, ai c.bins] (aG g) [] 0) (hnew : z6 PR z1l [aTb t] (z2p (P 0) (T 0) true) [] 0)
  (hround : ∀ k, k < n → z6 PR z0h [aTb t, aG g, aCf c, aSt (P k) (T k)] (z2p (P (k + 1)) (T (k + 1)) true) [] 0) : z6 PR z1M [aTb t, aCf c] (zLw (wY P T (n + 1)) true) [] 0 := by
 refine z6.intro hT (pf Tryz.func136) rfl (by kernel_rfl) Tryz.ntmps136 rfl ?_
 conv => whnf
 refine .inl ⟨_, _, _, hnew, rfl, ?_⟩
 conv => whnf
 refine .inl ⟨_, _, _, yh c hcl, rfl, ?_⟩
 rw [hc]
 conv => whnf
 refine zj 0 ?_
 conv => whnf
 refine zj 1 ?_
 conv => whnf
 have hst1 : eL cSx (wY P T 1) = [[.sl 1 (eL cI (P 0)), .sl 1 (eL cT (T 0))]] := by
  rw [show wY P T 1 = [(P 0, T 0)] from rfl, z7l, zp]
 refine zJ hT hmix [2, 3, 6, 8, 9] { t := [(2, rpTb t), (3, rpCf c), (6, .c (.ptr 0 0)), (8, .c (.ref 1 0 none)), (9, .c (.ptr 2 0))], h := [(0, .box zn (cSt (P 0) (T 0))), (1, .arr zn 2 0 .own (eL cSx (wY P T 1))), (2, .box yX (cG g))], n := 3, N := 51 } rfl ?_ ?_
 ·repeat' first
   | (refine zM rfl ?_; (conv => whnf))
   | (refine zL rfl ?_ ?_ <;> (conv => whnf))
   | (refine zC rfl ?_ ?_ ?_ <;> (conv => whnf))
   | (refine zw rfl ?_ ?_ ?_ ?_ <;> (conv => whnf))
   | (refine .inl ⟨_, _, _, hgrid, rfl, ?_⟩; (conv => whnf))
   | (refine zO rfl ?_; rw [hst1]; (conv => whnf); first | done | rfl)
 conv => whnf
 refine zj 2 ?_
 conv => whnf
 refine zB hT [2, 3, 6, 8, 9, 31, 32] (α := Nat) (fun k => { t := [(2, rpTb t), (3, rpCf c), (6, .c (.ptr 0 0)), (8, .c (.ref 1 0 none)), (9, rpG g), (31, ai c.rounds), (32, ai k)], h := [(0, .box zn (cSt (P k) (T k))), (1, .arr zn 2 0 .own (eL cSx (wY P T (k + 1))))], n := 2, N := 51 })
  (fun k => k ≤ n) (fun k => n - k) 0 (by (conv => whnf); first | done | rfl) (Nat.zero_le _) ?_
 intro k hk
 conv => whnf
 refine zK (fun q => ?_) (fun q => ?_) <;> (conv => whnf) <;> simp only [eH] at q
 ·have hkn : k < n := by omega
  have hsl := z9Z P T (k + 1)
  refine .inl ⟨_, _, _, hround k hkn, rfl, ?_⟩
  conv => whnf
  refine zJ hT hmix [2, 3, 6, 8, 9, 31, 32] { t := [(2, rpTb t), (3, rpCf c), (6, .c (.ptr 0 0)), (8, .c (.ref 1 0 none)), (9, rpG g), (31, ai c.rounds), (32, ai k)], h := [(0, .box zn (cSt (P (k + 1)) (T (k + 1)))), (1, .arr zn 2 0 .own (eL cSx (wY P T (k + 2))))], n := 2, N := 51 } rfl ?_ ?_
  ·repeat' first
    | (refine zM rfl ?_; (conv => whnf))
    | (refine zL rfl ?_ ?_ <;> (conv => whnf))
    | (refine zC rfl ?_ ?_ ?_ <;> (conv => whnf))
    | (refine zw rfl ?_ ?_ ?_ ?_ <;> (conv => whnf))
    | (refine And.intro (by simp [z7, zE, zQ]; omega) ?_; (conv => whnf))
    | (refine zO rfl ?_; (conv => whnf); rw [zEz P T (k + 1), ← zX]; simp only [z7]; first | done | rfl | exact ⟨rfl, rfl⟩)
  conv => whnf
  refine ⟨k + 1, by omega, by omega, ?_⟩
  ((conv => whnf); simp only [eS, wI hkn (by omega)])
  first | done | rfl
 ·obtain rfl : k = n := by omega
  simp only [z7]
  first | done | rfl
theorem zA3 (t : Tbl) (c : Cfg) (hz : szT t) (ht : y1 t = true) (hco : z0T c = true) : z6 PR z1M [aTb t, aCf c] (zLw (wY (fun k => (zm t c (zi t c.bins.toNat) k).1) (fun k => (zm t c (zi t c.bins.toNat) k).2) (c.rounds.toNat + 1)) true) [] 0 := by
 have hv := z05 ht
 have hc := z0K.1 hco
 obtain ⟨⟨hb, hbb⟩, hn, hn1, hn8⟩ := z3G hc
 have hgrid := z6N t c.bins.toNat hbb ht hz
 rw [← hb] at hgrid
 refine zBF t c (zi t c.bins.toNat) (fun k => (zm t c (zi t c.bins.toNat) k).1) (fun k => (zm t c (zi t c.bins.toNat) k).2) c.rounds.toNat hco (by have := hc.2.2.2.2; omega) hn hn8 hgrid (z26 t hz ht) fun k hk => ?_
 have htk := z9I hv hbb hc (k := k) (by omega)
 exact z2f t c.bins.toNat c _ _ (yF (zi t c.bins.toNat) (resL t.ys (zm t c (zi t c.bins.toNat) k).1) c) hz ht hc hb hbb (z9S hv hbb.2) (z0V hv.yl k) (fun p hp => by have := z2q hv hbb hc (k := k) (by omega) p hp; omega)
  (by rw [wJ]; omega) (fun x hx => by have := z4G hv hbb hc (k := k) (by omega) x hx; omega) htk (z6R htk) (z37 htk) rfl (fun r => by have := z5u htk r; omega)
end Go.H.S
namespace Go.H.S
open Go Go.Proofs Go.H
attribute [local irreducible] Tri z6 zR zV zY zW
end Go.H.S
