/- Library, part QL: drawn trees over tasks. -/
import Derived.Test.YtdolkacinfjhcaaGreatLPE
import Derived.Test.YtdolkacinfjhcaaGreatLPS
import Derived.Test.YtdolkacinfjhcaaGreatLQG
set_option maxRecDepth 100000
set_option linter.unusedSimpArgs false
set_option linter.unusedVariables false
namespace Go.H.S
open Go Go.Proofs Go.H
attribute [local irreducible] Tri FnSpec FnSpecM FnSpecX FnSpecJ FnSpecB
def partN : Option Nat → Option (Bool × Nat × Nat)
 | none => none
 | some m => some (true, 0, m)
set_option maxHeartbeats 4000000 in
theorem spec_l17Bent_own (code : List Int) (i h : Int) (hi : inCur code (i, h)) (hl : code.length ≤ 1048576) : FnSpecB PR f_spec_l17Bent [.c (.ptr 0 0)] t_spec_l1Cur (cur code i h) (List Nd × Option Nat × Int × Int)
  (fun x => x.1.length ≤ 32 ∧ (∀ m, x.2.1 = some m → m ≤ x.1.length) ∧ inCur code x.2.2) (fun x => .agg [.ref 1 0 (partN x.2.1)]) (fun x => cur code x.2.2.1 x.2.2.2) (fun x => [(1, .arr t_impl_Node 5 0 .own (eL cN x.1))]) (fun _ => 2) := by
 refine FnSpecB.intro hT 0 (pf Tryz.func239) rfl (by kernel_rfl) Tryz.ntmps239 rfl rfl ?_
 intro v0
 conv => whnf
 refine .inr (.inr (.inr (.inr (.inl ⟨0, ?_⟩))))
 conv => whnf
 refine ⟨_, _, _, _, _, _, spec_l1Below_spec code i h _ hi hl, fun ⟨x, i1, h1⟩ ⟨hx, hi1⟩ => ⟨rfl, ?_⟩⟩
 dsimp only at hx hi1
 have hx2 := hx.2.1 (by decide)
 conv => whnf
 refine .inr (.inr (.inr (.inr (.inl ⟨0, ?_⟩))))
 conv => whnf
 rw [show wAdd .i64 1 x = 1 + x from wAdd64 (by omega) (by omega)]
 refine ⟨_, _, _, _, _, _, spec_l17Right_spec code i1 h1 (1 + x) hi1 hl (by omega), fun ⟨t, i2, h2⟩ ⟨ht, hi2⟩ => ⟨rfl, ?_⟩⟩
 dsimp only at ht hi2
 have htl : 1 ≤ t.length ∧ t.length ≤ 31 := by simp [treeOk] at ht; omega
 conv => whnf
 refine .inr (.inr (.inr (.inr (.inl ⟨0, ?_⟩))))
 conv => whnf
 rw [show nInt (lenRE (eL cN (t, i2, h2).1) none) = (t.length : Int) by simp [lenRE]]
 refine ⟨_, _, _, _, _, _, spec_l1Below_spec code i2 h2 t.length hi2 hl, fun ⟨k, i3, h3⟩ ⟨hk, hi3⟩ => ⟨rfl, ?_⟩⟩
 dsimp only at hk hi3
 obtain ⟨k, rfl⟩ : ∃ m : Nat, k = m := ⟨k.toNat, by omega⟩
 have hk2 := hk.2.1 (by omega)
 obtain ⟨n, hn⟩ := get_lt (show k < t.length by omega)
 conv => whnf
 refine .inr (.inr (.inr (.inr (.inl ⟨0, ?_⟩))))
 conv => whnf
 refine ⟨_, _, _, _, _, _, spec_l1Below_spec code i3 h3 _ hi3 hl, fun ⟨q, i4, h4⟩ ⟨hq, hi4⟩ => ⟨rfl, ?_⟩⟩
 dsimp only at hq hi4
 conv => whnf
 refine ifB_i (fun g0 => ?_) (fun g0 => ?_) <;> (conv => whnf)
 ·refine tri_everyX hT hmix [0, 2, 3] (Y := List Nd × Int × Int) (fun y => y.1.length ≤ 32 ∧ inCur code y.2) (fun y => { t := [(0, .w (.ptr 0 0) v0), (2, .c (.ptr 1 0)), (3, .c (.ptr 2 0))], h := [(0, .box t_spec_l1Cur (cur code y.2.1 y.2.2)), (1, .box t_impl_Tree [.nl 5]), (2, .box t_impl_Tree [.ref 3 0 none]), (3, .arr t_impl_Node 5 0 .own (eL cN y.1))], n := 4, N := 85 }) rfl ?_ ?_
  ·repeat' first
    | (refine anyV_one rfl ?_; (conv => whnf))
    | (refine anyV_two rfl ?_ ?_ <;> (conv => whnf))
    | (refine anyV_three rfl ?_ ?_ ?_ <;> (conv => whnf))
    | (refine .inr (.inr (.inr (.inr (.inl ⟨0, ?_⟩)))); (conv => whnf); refine ⟨_, _, _, _, _, _, spec_l1PickInt_of code _ _ _ [-1, 0, 1, 4, -2, 9223372036854775807] (by simp [eL, cI]) hi4 hl (by simp) (by simp), fun ⟨y, j, g⟩ ⟨hy, hj⟩ => ⟨rfl, ?_⟩⟩; dsimp only at hy hj; (conv => whnf))
    | (refine ref_at rfl (by simp; omega) ?_; (conv => whnf))
    | (refine st_at (k := k) (by simp) hn (by simp [cN]) ?_; (conv => whnf))
   all_goals refine anyV_end rfl ?_
   all_goals refine ⟨(t.set k ⟨y, n.c, n.l, n.r, n.v⟩, j, g), ⟨by simp; omega, hj⟩, ?_⟩
   all_goals ((conv => whnf); simp only [eS])
   all_goals exact nodes_set t n _ (by simp) (by simp [dOver, cN, over])
  ·intro ⟨t', i5, h5⟩ ⟨hy1, hy2⟩
   dsimp only at hy1 hy2
   conv => whnf
   refine ⟨(t', none, i5, h5), ⟨hy1, (fun m hm => by cases hm), hy2⟩, ?_⟩
   conv => whnf
   rfl
 refine ifB_i (fun g1 => ?_) (fun g1 => ?_) <;> (conv => whnf)
 ·refine tri_everyX hT hmix [0, 2, 3] (Y := List Nd × Int × Int) (fun y => y.1.length ≤ 32 ∧ inCur code y.2) (fun y => { t := [(0, .w (.ptr 0 0) v0), (2, .c (.ptr 1 0)), (3, .c (.ptr 2 0))], h := [(0, .box t_spec_l1Cur (cur code y.2.1 y.2.2)), (1, .box t_impl_Tree [.nl 5]), (2, .box t_impl_Tree [.ref 3 0 none]), (3, .arr t_impl_Node 5 0 .own (eL cN y.1))], n := 4, N := 85 }) rfl ?_ ?_
  ·repeat' first
    | (refine anyV_one rfl ?_; (conv => whnf))
    | (refine anyV_two rfl ?_ ?_ <;> (conv => whnf))
    | (refine anyV_three rfl ?_ ?_ ?_ <;> (conv => whnf))
    | (refine .inr (.inr (.inr (.inr (.inl ⟨0, ?_⟩)))); (conv => whnf); refine ⟨_, _, _, _, _, _, spec_l1PickInt_of code _ _ _ [0, 1, 2147483648, -2147483648, 500] (by simp [eL, cI]) hi4 hl (by simp) (by simp), fun ⟨y, j, g⟩ ⟨hy, hj⟩ => ⟨rfl, ?_⟩⟩; dsimp only at hy hj; (conv => whnf))
    | (refine ref_at rfl (by simp; omega) ?_; (conv => whnf))
    | (refine st_at (k := k) (by simp) hn (by simp [cN]) ?_; (conv => whnf))
   all_goals refine anyV_end rfl ?_
   all_goals refine ⟨(t.set k ⟨n.f, y, n.l, n.r, n.v⟩, j, g), ⟨by simp; omega, hj⟩, ?_⟩
   all_goals ((conv => whnf); simp only [eS])
   all_goals exact nodes_set t n _ (by simp) (by simp [dOver, cN, over])
  ·intro ⟨t', i5, h5⟩ ⟨hy1, hy2⟩
   dsimp only at hy1 hy2
   conv => whnf
   refine ⟨(t', none, i5, h5), ⟨hy1, (fun m hm => by cases hm), hy2⟩, ?_⟩
   conv => whnf
   rfl
 refine ifB_i (fun g2 => ?_) (fun g2 => ?_) <;> (conv => whnf)
 ·refine tri_everyX hT hmix [0, 2, 3] (Y := List Nd × Int × Int) (fun y => y.1.length ≤ 32 ∧ inCur code y.2) (fun y => { t := [(0, .w (.ptr 0 0) v0), (2, .c (.ptr 1 0)), (3, .c (.ptr 2 0))], h := [(0, .box t_spec_l1Cur (cur code y.2.1 y.2.2)), (1, .box t_impl_Tree [.nl 5]), (2, .box t_impl_Tree [.ref 3 0 none]), (3, .arr t_impl_Node 5 0 .own (eL cN y.1))], n := 4, N := 85 }) rfl ?_ ?_
  ·repeat' first
    | (refine anyV_one rfl ?_; (conv => whnf))
    | (refine anyV_two rfl ?_ ?_ <;> (conv => whnf))
    | (refine anyV_three rfl ?_ ?_ ?_ <;> (conv => whnf))
    | (refine .inr (.inr (.inr (.inr (.inl ⟨0, ?_⟩)))); (conv => whnf); refine ⟨_, _, _, _, _, _, spec_l1PickInt_of code _ _ _ [0, 1, 2, -1, 40, (k : Int)] (by simp [eL, cI]) hi4 hl (by simp) (by simp), fun ⟨y, j, g⟩ ⟨hy, hj⟩ => ⟨rfl, ?_⟩⟩; dsimp only at hy hj; (conv => whnf))
    | (refine ref_at rfl (by simp; omega) ?_; (conv => whnf))
    | (refine st_at (k := k) (by simp) hn (by simp [cN]) ?_; (conv => whnf))
   all_goals refine anyV_end rfl ?_
   all_goals refine ⟨(t.set k ⟨n.f, n.c, y, n.r, n.v⟩, j, g), ⟨by simp; omega, hj⟩, ?_⟩
   all_goals ((conv => whnf); simp only [eS])
   all_goals exact nodes_set t n _ (by simp) (by simp [dOver, cN, over])
  ·intro ⟨t', i5, h5⟩ ⟨hy1, hy2⟩
   dsimp only at hy1 hy2
   conv => whnf
   refine ⟨(t', none, i5, h5), ⟨hy1, (fun m hm => by cases hm), hy2⟩, ?_⟩
   conv => whnf
   rfl
 refine ifB_i (fun g3 => ?_) (fun g3 => ?_) <;> (conv => whnf)
 ·refine tri_everyX hT hmix [0, 2, 3] (Y := List Nd × Int × Int) (fun y => y.1.length ≤ 32 ∧ inCur code y.2) (fun y => { t := [(0, .w (.ptr 0 0) v0), (2, .c (.ptr 1 0)), (3, .c (.ptr 2 0))], h := [(0, .box t_spec_l1Cur (cur code y.2.1 y.2.2)), (1, .box t_impl_Tree [.nl 5]), (2, .box t_impl_Tree [.ref 3 0 none]), (3, .arr t_impl_Node 5 0 .own (eL cN y.1))], n := 4, N := 85 }) rfl ?_ ?_
  ·repeat' first
    | (refine anyV_one rfl ?_; (conv => whnf))
    | (refine anyV_two rfl ?_ ?_ <;> (conv => whnf))
    | (refine anyV_three rfl ?_ ?_ ?_ <;> (conv => whnf))
    | (refine .inr (.inr (.inr (.inr (.inl ⟨0, ?_⟩)))); (conv => whnf); refine ⟨_, _, _, _, _, _, spec_l1PickInt_of code _ _ _ [0, 1, 2, -1, 40, (k : Int)] (by simp [eL, cI]) hi4 hl (by simp) (by simp), fun ⟨y, j, g⟩ ⟨hy, hj⟩ => ⟨rfl, ?_⟩⟩; dsimp only at hy hj; (conv => whnf))
    | (refine ref_at rfl (by simp; omega) ?_; (conv => whnf))
    | (refine st_at (k := k) (by simp) hn (by simp [cN]) ?_; (conv => whnf))
   all_goals refine anyV_end rfl ?_
   all_goals refine ⟨(t.set k ⟨n.f, n.c, n.l, y, n.v⟩, j, g), ⟨by simp; omega, hj⟩, ?_⟩
   all_goals ((conv => whnf); simp only [eS])
   all_goals exact nodes_set t n _ (by simp) (by simp [dOver, cN, over])
  ·intro ⟨t', i5, h5⟩ ⟨hy1, hy2⟩
   dsimp only at hy1 hy2
   conv => whnf
   refine ⟨(t', none, i5, h5), ⟨hy1, (fun m hm => by cases hm), hy2⟩, ?_⟩
   conv => whnf
   rfl
 refine ifB_i (fun g4 => ?_) (fun g4 => ?_) <;> (conv => whnf)
 ·refine tri_everyX hT hmix [0, 2, 3] (Y := List Nd × Int × Int) (fun y => y.1.length ≤ 32 ∧ inCur code y.2) (fun y => { t := [(0, .w (.ptr 0 0) v0), (2, .c (.ptr 1 0)), (3, .c (.ptr 2 0))], h := [(0, .box t_spec_l1Cur (cur code y.2.1 y.2.2)), (1, .box t_impl_Tree [.nl 5]), (2, .box t_impl_Tree [.ref 3 0 none]), (3, .arr t_impl_Node 5 0 .own (eL cN y.1))], n := 4, N := 85 }) rfl ?_ ?_
  ·repeat' first
    | (refine anyV_one rfl ?_; (conv => whnf))
    | (refine anyV_two rfl ?_ ?_ <;> (conv => whnf))
    | (refine anyV_three rfl ?_ ?_ ?_ <;> (conv => whnf))
    | (refine .inr (.inr (.inr (.inr (.inl ⟨0, ?_⟩)))); (conv => whnf); refine ⟨_, _, _, _, _, _, spec_l1PickInt_of code _ _ _ [0, 1, 1099511627776, 1099511627777, -1099511627777] (by simp [eL, cI]) hi4 hl (by simp) (by simp), fun ⟨y, j, g⟩ ⟨hy, hj⟩ => ⟨rfl, ?_⟩⟩; dsimp only at hy hj; (conv => whnf))
    | (refine ref_at rfl (by simp; omega) ?_; (conv => whnf))
    | (refine st_at (k := k) (by simp) hn (by simp [cN]) ?_; (conv => whnf))
   all_goals refine anyV_end rfl ?_
   all_goals refine ⟨(t.set k ⟨n.f, n.c, n.l, n.r, y⟩, j, g), ⟨by simp; omega, hj⟩, ?_⟩
   all_goals ((conv => whnf); simp only [eS])
   all_goals exact nodes_set t n _ (by simp) (by simp [dOver, cN, over])
  ·intro ⟨t', i5, h5⟩ ⟨hy1, hy2⟩
   dsimp only at hy1 hy2
   conv => whnf
   refine ⟨(t', none, i5, h5), ⟨hy1, (fun m hm => by cases hm), hy2⟩, ?_⟩
   conv => whnf
   rfl
 refine ifB_i (fun g5 => ?_) (fun g5 => ?_) <;> (conv => whnf)
 ·refine And.intro (by unfold Fits; simp; omega) ?_
  conv => whnf
  refine ⟨(t ++ [⟨-1, 0, 0, 0, 0⟩], none, i4, h4), ⟨by simp; omega, (fun m hm => by cases hm), hi4⟩, ?_⟩
  ((conv => whnf); simp only [eS, partN])
  simp only [partOf_none]
  rw [← eL_join]
  simp [eL, cN]
 refine ifB_i (fun g6 => ?_) (fun g6 => ?_) <;> (conv => whnf)
 ·refine And.intro (by simp [lenRE]; omega) ?_
  conv => whnf
  refine ⟨(t, some k, i4, h4), ⟨by dsimp only; omega, (fun m hm => by cases hm; dsimp only; omega), hi4⟩, ?_⟩
  ((conv => whnf); simp only [eS, partN])
  simp
 refine ⟨(t, none, i4, h4), ⟨by dsimp only; omega, (fun m hm => by cases hm), hi4⟩, ?_⟩
 conv => whnf
 rfl
abbrev tup28 (x : Grd × List Int × Cfg × List Nd) : AV := .tup [(false, [.ptr 0 0]), (true, cG x.1), (false, [.d (.sl 1 (eL cI x.2.1))]), (true, cCf x.2.2.1), (true, cTr x.2.2.2)]
def bentP : Option (List Nd × Option Nat) → Prop
 | none => True
 | some (ns, none) => ns.length ≤ 32
 | some (ns, some m) => ns.length ≤ 32 ∧ m ≤ ns.length
set_option maxHeartbeats 4000000 in
theorem spec_l28Args_spec (code : List Int) (hl : code.length ≤ 1048576) : FnSpecX PR f_spec_l28Args [.c (.d (.sl 1 (eL cU code)))] (Grd × List Int × Cfg × List Nd × Int × Int) (fun x => smG x.1 ∧ x.2.1.length ≤ 41 ∧ x.2.2.1.signs.length ≤ 5 ∧ x.2.2.2.1.length ≤ 32 ∧ inCur code x.2.2.2.2)
  (fun x => tup28 (x.1, x.2.1, x.2.2.1, x.2.2.2.1)) (fun x => [(0, .box t_spec_l1Cur (cur code x.2.2.2.2.1 x.2.2.2.2.2))]) (fun _ => 1) := by
 refine FnSpecX.introT hT (pf Tryz.func132) rfl (by kernel_rfl) Tryz.ntmps132 rfl ?_
 refine tri_then hT ?_
 conv => whnf
 refine tri_then hT ?_
 conv => whnf
 refine .inr ⟨_, _, _, _, _, spec_l19Args_spec code hl, fun ⟨g, gr, c, i1, u1⟩ ⟨hg, hgr, hc, hi1⟩ => ⟨rfl, ?_⟩⟩
 dsimp only at hg hgr hc hi1
 conv => whnf
 refine tri_cut hT [3, 5, 6, 7, 8, 9, 10, 11, 12] (α := Option (List Nd)) (fun x => match x with | none => { t := [(3, .c (.ptr 0 0)), (5, .c (.ptr 1 0)), (6, .c (.ptr 2 0)), (7, .c (.ptr 3 0)), (8, .c (.ptr 4 0)), (9, aIs gr), (10, .c (.ptr 5 0)), (11, .c (.ptr 6 0)), (12, ab false)], h := [(0, .box t_impl_Grid [.nl 1, .nl 1]), (1, .box t_impl_Config cCf0), (2, .box t_impl_Tree [.nl 5]), (3, .box t_spec_l1Cur (cur code i1 u1)), (4, .box t_impl_Grid (cG g)), (5, .box t_impl_Config (cCf c)), (6, .box t_impl_Tree [.nl 5])], n := 7, N := 94 } | some ns => { t := [(3, .c (.ptr 0 0)), (5, .c (.ptr 1 0)), (6, .c (.ptr 2 0)), (7, .c (.ptr 3 0)), (8, .c (.ptr 4 0)), (9, aIs gr), (10, .c (.ptr 5 0)), (11, .c (.ptr 6 0)), (12, ab true)], h := [(0, .box t_impl_Grid [.nl 1, .nl 1]), (1, .box t_impl_Config cCf0), (2, .box t_impl_Tree [.nl 5]), (3, .box t_spec_l1Cur (cur code i1 u1)), (4, .box t_impl_Grid (cG g)), (5, .box t_impl_Config (cCf c)), (6, .box t_impl_Tree [.ref 7 0 none]), (7, .arr t_impl_Node 5 0 .own (eL cN ns))], n := 8, N := 94 })
  (fun x => ∀ ns, x = some ns → ns.length ≤ 32) ?_ ?_
 ·conv => whnf
  by_cases ht : taskP g gr c
  ·have hsp := spec_GrowTree_spec g gr c hg (by omega) (by omega) ht
   have hlen := (grown_shape ht).2.2
   generalize growL g gr c = T at hsp hlen
   refine .inl ⟨_, _, _, hsp, rfl, ?_⟩
   conv => whnf
   refine ⟨some T, (fun ns hn => by cases hn; omega), ?_⟩
   conv => whnf
   first | done | rfl
  ·refine .inl ⟨_, _, _, spec_GrowTree_no g gr c hg (by omega) (by omega) ht, rfl, ?_⟩
   conv => whnf
   refine ⟨none, (fun ns hn => by cases hn), ?_⟩
   conv => whnf
   first | done | rfl
 intro x hx
 refine tri_cut hT [3, 5, 6, 7, 8, 9, 10, 11] (α := Option (List Nd × Option Nat) × Int × Int) (fun x => match x with | (none, i, u) => { t := [(3, .c (.ptr 0 0)), (5, .c (.ptr 1 0)), (6, .c (.ptr 2 0)), (7, .c (.ptr 3 0)), (8, .c (.ptr 4 0)), (9, aIs gr), (10, .c (.ptr 5 0)), (11, .c (.ptr 6 0))], h := [(0, .box t_impl_Grid [.nl 1, .nl 1]), (1, .box t_impl_Config cCf0), (2, .box t_impl_Tree [.nl 5]), (3, .box t_spec_l1Cur (cur code i u)), (4, .box t_impl_Grid (cG g)), (5, .box t_impl_Config (cCf c)), (6, .box t_impl_Tree [.nl 5])], n := 7, N := 94 } | (some (ns, p), i, u) => { t := [(3, .c (.ptr 0 0)), (5, .c (.ptr 1 0)), (6, .c (.ptr 2 0)), (7, .c (.ptr 3 0)), (8, .c (.ptr 4 0)), (9, aIs gr), (10, .c (.ptr 5 0)), (11, .c (.ptr 6 0))], h := [(0, .box t_impl_Grid [.nl 1, .nl 1]), (1, .box t_impl_Config cCf0), (2, .box t_impl_Tree [.nl 5]), (3, .box t_spec_l1Cur (cur code i u)), (4, .box t_impl_Grid (cG g)), (5, .box t_impl_Config (cCf c)), (6, .box t_impl_Tree [.ref 7 0 (partN p)]), (7, .arr t_impl_Node 5 0 .own (eL cN ns))], n := 8, N := 94 })
  (fun x => bentP x.1 ∧ inCur code x.2) ?_ ?_
 ·cases x with
  | none =>
   conv => whnf
   refine .inr (.inr (.inr (.inr (.inl ⟨3, ?_⟩))))
   conv => whnf
   refine ⟨_, _, _, _, _, _, spec_l17Bent_own code i1 u1 hi1 hl, fun ⟨ns, p, i2, u2⟩ ⟨hn, hp, hi2⟩ => ⟨rfl, ?_⟩⟩
   dsimp only at hn hp hi2
   rcases p with _ | m
   ·conv => whnf
    refine ⟨(some (ns, none), i2, u2), ⟨hn, hi2⟩, ?_⟩
    conv => whnf
    first | done | rfl
   ·conv => whnf
    refine ⟨(some (ns, some m), i2, u2), ⟨⟨hn, hp m rfl⟩, hi2⟩, ?_⟩
    conv => whnf
    first | done | rfl
  | some ns0 =>
   have hn0 := hx ns0 rfl
   conv => whnf
   refine .inr (.inr (.inr (.inr (.inl ⟨3, ?_⟩))))
   conv => whnf
   refine ⟨_, _, _, _, _, _, spec_l1Once_spec code i1 u1 4 hi1 hl, fun ⟨b, i2, u2⟩ hi2 => ⟨rfl, ?_⟩⟩
   dsimp only at hi2
   cases b with
   | true =>
    conv => whnf
    refine .inr (.inr (.inr (.inr (.inl ⟨3, ?_⟩))))
    conv => whnf
    refine ⟨_, _, _, _, _, _, spec_l17Bent_own code i2 u2 hi2 hl, fun ⟨ns, p, i3, u3⟩ ⟨hn, hp, hi3⟩ => ⟨rfl, ?_⟩⟩
    dsimp only at hn hp hi3
    rcases p with _ | m
    ·conv => whnf
     refine ⟨(some (ns, none), i3, u3), ⟨hn, hi3⟩, ?_⟩
     conv => whnf
     first | done | rfl
    ·conv => whnf
     refine ⟨(some (ns, some m), i3, u3), ⟨⟨hn, hp m rfl⟩, hi3⟩, ?_⟩
     conv => whnf
     first | done | rfl
   | false =>
    conv => whnf
    refine ⟨(some (ns0, none), i2, u2), ⟨hn0, hi2⟩, ?_⟩
    conv => whnf
    first | done | rfl
 clear hx hi1
 intro ⟨y, i2, u2⟩ ⟨hy, hi2⟩
 dsimp only at hy hi2
 refine tri_cut hT [3, 5, 6, 7, 8, 9, 10, 11] (α := Option (List Nd × Option Nat) × Int × Int) (fun x => match x with | (none, i, u) => { t := [(3, .c (.ptr 0 0)), (5, .c (.ptr 1 0)), (6, .c (.ptr 2 0)), (7, .c (.ptr 3 0)), (8, .c (.ptr 4 0)), (9, aIs gr), (10, .c (.ptr 5 0)), (11, .c (.ptr 6 0))], h := [(0, .box t_impl_Grid [.nl 1, .nl 1]), (1, .box t_impl_Config cCf0), (2, .box t_impl_Tree [.nl 5]), (3, .box t_spec_l1Cur (cur code i u)), (4, .box t_impl_Grid (cG g)), (5, .box t_impl_Config (cCf c)), (6, .box t_impl_Tree [.nl 5])], n := 7, N := 94 } | (some (ns, p), i, u) => { t := [(3, .c (.ptr 0 0)), (5, .c (.ptr 1 0)), (6, .c (.ptr 2 0)), (7, .c (.ptr 3 0)), (8, .c (.ptr 4 0)), (9, aIs gr), (10, .c (.ptr 5 0)), (11, .c (.ptr 6 0))], h := [(0, .box t_impl_Grid [.nl 1, .nl 1]), (1, .box t_impl_Config cCf0), (2, .box t_impl_Tree [.nl 5]), (3, .box t_spec_l1Cur (cur code i u)), (4, .box t_impl_Grid (cG g)), (5, .box t_impl_Config (cCf c)), (6, .box t_impl_Tree [.ref 7 0 (partN p)]), (7, .arr t_impl_Node 5 0 .own (eL cN ns))], n := 8, N := 94 })
  (fun x => bentP x.1 ∧ inCur code x.2) ?_ ?_
 ·rcases y with _ | ⟨ns, _ | m⟩
  ·conv => whnf
   refine ⟨(none, i2, u2), ⟨trivial, hi2⟩, ?_⟩
   conv => whnf
   first | done | rfl
  ·have hy : ns.length ≤ 32 := hy
   conv => whnf
   refine ifB_i (fun h1 => ?_) (fun h1 => ?_) <;> (conv => whnf) <;> simp only [eH] at h1
   ·refine .inr (.inr (.inr (.inr (.inl ⟨3, ?_⟩))))
    conv => whnf
    refine ⟨_, _, _, _, _, _, spec_l1Once_spec code i2 u2 4 hi2 hl, fun ⟨b, i3, u3⟩ hi3 => ⟨rfl, ?_⟩⟩
    dsimp only at hi3
    cases b with
    | false =>
     conv => whnf
     refine ⟨(some (ns, none), i3, u3), ⟨hy, hi3⟩, ?_⟩
     conv => whnf
     first | done | rfl
    | true =>
     conv => whnf
     refine .inr (.inr (.inr (.inr (.inl ⟨3, ?_⟩))))
     conv => whnf
     refine ⟨_, _, _, _, _, _, spec_l1Below_spec code i3 u3 _ hi3 hl, fun ⟨k, i4, u4⟩ ⟨hk, hi4⟩ => ⟨rfl, ?_⟩⟩
     dsimp only at hk hi4
     simp only [nInt_eq, lenRE_none, lenRE_some, dLen_eL] at hk h1
     have hk2 := hk.2.1 (by omega)
     obtain ⟨k, rfl⟩ : ∃ q : Nat, k = q := ⟨k.toNat, by omega⟩
     obtain ⟨n, hn⟩ := get_lt (show k < ns.length by omega)
     conv => whnf
     refine ref_at (k := k) rfl (by simp; omega) ?_
     conv => whnf
     refine ld_at (by simp) hn ?_
     conv => whnf
     refine .inl ⟨_, _, _, spec_l17Inner_spec n, rfl, ?_⟩
     conv => whnf
     refine ifB_i (fun h2 => ?_) (fun h2 => ?_) <;> (conv => whnf)
     ·skip
      refine tri_everyX hT hmix [3, 5, 6, 7, 8, 9, 10, 11] (Y := Int × Int × Int) (fun y => inCur code y.2) (fun y => { t := [(3, .c (.ptr 0 0)), (5, .c (.ptr 1 0)), (6, .c (.ptr 2 0)), (7, .c (.ptr 3 0)), (8, .c (.ptr 4 0)), (9, aIs gr), (10, .c (.ptr 5 0)), (11, .c (.ptr 6 0))], h := [(0, .box t_impl_Grid [.nl 1, .nl 1]), (1, .box t_impl_Config cCf0), (2, .box t_impl_Tree [.nl 5]), (3, .box t_spec_l1Cur (cur code y.2.1 y.2.2)), (4, .box t_impl_Grid (cG g)), (5, .box t_impl_Config (cCf c)), (6, .box t_impl_Tree [.ref 7 0 none]), (7, .arr t_impl_Node 5 0 .own (eL cN (ns.set k ⟨n.f, y.1, n.l, n.r, n.v⟩)))], n := 8, N := 94 }) rfl ?_ ?_
      ·repeat' first
        | (refine anyV_one rfl ?_; (conv => whnf))
        | (refine anyV_two rfl ?_ ?_ <;> (conv => whnf))
        | (refine anyV_three rfl ?_ ?_ ?_ <;> (conv => whnf))
        | (refine anyV_four rfl ?_ ?_ ?_ ?_ <;> (conv => whnf))
        | (refine ref_at (k := k) rfl (by simp; omega) ?_; (conv => whnf))
        | (refine ld_at (by simp) hn ?_; (conv => whnf))
        | (refine .inr (.inr (.inr (.inr (.inl ⟨3, ?_⟩)))); (conv => whnf); refine ⟨_, _, _, _, _, _, spec_l1Below_spec code i4 u4 3 hi4 hl, fun ⟨z, ib, ub⟩ ⟨_, hib⟩ => ⟨rfl, ?_⟩⟩; dsimp only at hib; (conv => whnf))
        | (refine .inr (.inr (.inr (.inr (.inl ⟨3, ?_⟩)))); (conv => whnf); refine ⟨_, _, _, _, _, _, spec_l1Below_spec code ib ub 2 hib hl, fun ⟨z2, ic, uc⟩ ⟨_, hic⟩ => ⟨rfl, ?_⟩⟩; dsimp only at hic; (conv => whnf))
        | (refine st_at (k := k) (by simp) hn (by simp [cN]) ?_; (conv => whnf))
       all_goals refine anyV_end rfl ?_
       all_goals refine ⟨(wAdd .i64 (wAdd .i64 n.c (wMul .i64 500 (wSub .i64 z 1))) z2, ic, uc), by assumption, ?_⟩
       all_goals ((conv => whnf); simp only [eS])
       all_goals exact nodes_set ns n _ (by simp) (by simp [dOver, cN, over])
      ·intro ⟨y, i5, u5⟩ hi5
       dsimp only at hi5
       conv => whnf
       refine ⟨(some (ns.set k ⟨n.f, y, n.l, n.r, n.v⟩, none), i5, u5), ⟨(by show (ns.set k _).length ≤ 32; simp; omega), hi5⟩, ?_⟩
       conv => whnf
       first | done | rfl
     ·skip
      refine tri_everyX hT hmix [3, 5, 6, 7, 8, 9, 10, 11] (Y := Int × Int × Int) (fun y => inCur code y.2) (fun y => { t := [(3, .c (.ptr 0 0)), (5, .c (.ptr 1 0)), (6, .c (.ptr 2 0)), (7, .c (.ptr 3 0)), (8, .c (.ptr 4 0)), (9, aIs gr), (10, .c (.ptr 5 0)), (11, .c (.ptr 6 0))], h := [(0, .box t_impl_Grid [.nl 1, .nl 1]), (1, .box t_impl_Config cCf0), (2, .box t_impl_Tree [.nl 5]), (3, .box t_spec_l1Cur (cur code y.2.1 y.2.2)), (4, .box t_impl_Grid (cG g)), (5, .box t_impl_Config (cCf c)), (6, .box t_impl_Tree [.ref 7 0 none]), (7, .arr t_impl_Node 5 0 .own (eL cN (ns.set k ⟨n.f, n.c, n.l, n.r, y.1⟩)))], n := 8, N := 94 }) rfl ?_ ?_
      ·repeat' first
        | (refine anyV_one rfl ?_; (conv => whnf))
        | (refine anyV_two rfl ?_ ?_ <;> (conv => whnf))
        | (refine anyV_three rfl ?_ ?_ ?_ <;> (conv => whnf))
        | (refine anyV_four rfl ?_ ?_ ?_ ?_ <;> (conv => whnf))
        | (refine ref_at (k := k) rfl (by simp; omega) ?_; (conv => whnf))
        | (refine ld_at (by simp) hn ?_; (conv => whnf))
        | (refine .inr (.inr (.inr (.inr (.inl ⟨3, ?_⟩)))); (conv => whnf); refine ⟨_, _, _, _, _, _, spec_l1Below_spec code i4 u4 3 hi4 hl, fun ⟨z, ib, ub⟩ ⟨_, hib⟩ => ⟨rfl, ?_⟩⟩; dsimp only at hib; (conv => whnf))
        | (refine st_at (k := k) (by simp) hn (by simp [cN]) ?_; (conv => whnf))
       all_goals refine anyV_end rfl ?_
       all_goals refine ⟨(wSub .i64 (wAdd .i64 n.v z) 1, ib, ub), by assumption, ?_⟩
       all_goals ((conv => whnf); simp only [eS])
       all_goals exact nodes_set ns n _ (by simp) (by simp [dOver, cN, over])
      ·intro ⟨y, i5, u5⟩ hi5
       dsimp only at hi5
       conv => whnf
       refine ⟨(some (ns.set k ⟨n.f, n.c, n.l, n.r, y⟩, none), i5, u5), ⟨(by show (ns.set k _).length ≤ 32; simp; omega), hi5⟩, ?_⟩
       conv => whnf
       first | done | rfl
   ·refine ⟨(some (ns, none), i2, u2), ⟨hy, hi2⟩, ?_⟩
    conv => whnf
    first | done | rfl
  ·have hy : ns.length ≤ 32 ∧ m ≤ ns.length := hy
   conv => whnf
   refine ifB_i (fun h1 => ?_) (fun h1 => ?_) <;> (conv => whnf) <;> simp only [eH] at h1
   ·refine .inr (.inr (.inr (.inr (.inl ⟨3, ?_⟩))))
    conv => whnf
    refine ⟨_, _, _, _, _, _, spec_l1Once_spec code i2 u2 4 hi2 hl, fun ⟨b, i3, u3⟩ hi3 => ⟨rfl, ?_⟩⟩
    dsimp only at hi3
    cases b with
    | false =>
     conv => whnf
     refine ⟨(some (ns, some m), i3, u3), ⟨hy, hi3⟩, ?_⟩
     conv => whnf
     first | done | rfl
    | true =>
     conv => whnf
     refine .inr (.inr (.inr (.inr (.inl ⟨3, ?_⟩))))
     conv => whnf
     refine ⟨_, _, _, _, _, _, spec_l1Below_spec code i3 u3 _ hi3 hl, fun ⟨k, i4, u4⟩ ⟨hk, hi4⟩ => ⟨rfl, ?_⟩⟩
     dsimp only at hk hi4
     simp only [nInt_eq, lenRE_none, lenRE_some, dLen_eL] at hk h1
     have hk2 := hk.2.1 (by omega)
     obtain ⟨k, rfl⟩ : ∃ q : Nat, k = q := ⟨k.toNat, by omega⟩
     obtain ⟨n, hn⟩ := get_lt (show k < ns.length by omega)
     conv => whnf
     refine ref_at (k := k) rfl (by simp; omega) ?_
     conv => whnf
     refine ld_at (by simp) hn ?_
     conv => whnf
     refine .inl ⟨_, _, _, spec_l17Inner_spec n, rfl, ?_⟩
     conv => whnf
     refine ifB_i (fun h2 => ?_) (fun h2 => ?_) <;> (conv => whnf)
     ·skip
      refine tri_everyX hT hmix [3, 5, 6, 7, 8, 9, 10, 11] (Y := Int × Int × Int) (fun y => inCur code y.2) (fun y => { t := [(3, .c (.ptr 0 0)), (5, .c (.ptr 1 0)), (6, .c (.ptr 2 0)), (7, .c (.ptr 3 0)), (8, .c (.ptr 4 0)), (9, aIs gr), (10, .c (.ptr 5 0)), (11, .c (.ptr 6 0))], h := [(0, .box t_impl_Grid [.nl 1, .nl 1]), (1, .box t_impl_Config cCf0), (2, .box t_impl_Tree [.nl 5]), (3, .box t_spec_l1Cur (cur code y.2.1 y.2.2)), (4, .box t_impl_Grid (cG g)), (5, .box t_impl_Config (cCf c)), (6, .box t_impl_Tree [.ref 7 0 (some (true, 0, m))]), (7, .arr t_impl_Node 5 0 .own (eL cN (ns.set k ⟨n.f, y.1, n.l, n.r, n.v⟩)))], n := 8, N := 94 }) rfl ?_ ?_
      ·repeat' first
        | (refine anyV_one rfl ?_; (conv => whnf))
        | (refine anyV_two rfl ?_ ?_ <;> (conv => whnf))
        | (refine anyV_three rfl ?_ ?_ ?_ <;> (conv => whnf))
        | (refine anyV_four rfl ?_ ?_ ?_ ?_ <;> (conv => whnf))
        | (refine ref_at (k := k) rfl (by simp; omega) ?_; (conv => whnf))
        | (refine ld_at (by simp) hn ?_; (conv => whnf))
        | (refine .inr (.inr (.inr (.inr (.inl ⟨3, ?_⟩)))); (conv => whnf); refine ⟨_, _, _, _, _, _, spec_l1Below_spec code i4 u4 3 hi4 hl, fun ⟨z, ib, ub⟩ ⟨_, hib⟩ => ⟨rfl, ?_⟩⟩; dsimp only at hib; (conv => whnf))
        | (refine .inr (.inr (.inr (.inr (.inl ⟨3, ?_⟩)))); (conv => whnf); refine ⟨_, _, _, _, _, _, spec_l1Below_spec code ib ub 2 hib hl, fun ⟨z2, ic, uc⟩ ⟨_, hic⟩ => ⟨rfl, ?_⟩⟩; dsimp only at hic; (conv => whnf))
        | (refine st_at (k := k) (by simp) hn (by simp [cN]) ?_; (conv => whnf))
       all_goals refine anyV_end rfl ?_
       all_goals refine ⟨(wAdd .i64 (wAdd .i64 n.c (wMul .i64 500 (wSub .i64 z 1))) z2, ic, uc), by assumption, ?_⟩
       all_goals ((conv => whnf); simp only [eS])
       all_goals exact nodes_set ns n _ (by simp) (by simp [dOver, cN, over])
      ·intro ⟨y, i5, u5⟩ hi5
       dsimp only at hi5
       conv => whnf
       refine ⟨(some (ns.set k ⟨n.f, y, n.l, n.r, n.v⟩, some m), i5, u5), ⟨(by refine ⟨?_, ?_⟩ <;> simp <;> omega), hi5⟩, ?_⟩
       conv => whnf
       first | done | rfl
     ·skip
      refine tri_everyX hT hmix [3, 5, 6, 7, 8, 9, 10, 11] (Y := Int × Int × Int) (fun y => inCur code y.2) (fun y => { t := [(3, .c (.ptr 0 0)), (5, .c (.ptr 1 0)), (6, .c (.ptr 2 0)), (7, .c (.ptr 3 0)), (8, .c (.ptr 4 0)), (9, aIs gr), (10, .c (.ptr 5 0)), (11, .c (.ptr 6 0))], h := [(0, .box t_impl_Grid [.nl 1, .nl 1]), (1, .box t_impl_Config cCf0), (2, .box t_impl_Tree [.nl 5]), (3, .box t_spec_l1Cur (cur code y.2.1 y.2.2)), (4, .box t_impl_Grid (cG g)), (5, .box t_impl_Config (cCf c)), (6, .box t_impl_Tree [.ref 7 0 (some (true, 0, m))]), (7, .arr t_impl_Node 5 0 .own (eL cN (ns.set k ⟨n.f, n.c, n.l, n.r, y.1⟩)))], n := 8, N := 94 }) rfl ?_ ?_
      ·repeat' first
        | (refine anyV_one rfl ?_; (conv => whnf))
        | (refine anyV_two rfl ?_ ?_ <;> (conv => whnf))
        | (refine anyV_three rfl ?_ ?_ ?_ <;> (conv => whnf))
        | (refine anyV_four rfl ?_ ?_ ?_ ?_ <;> (conv => whnf))
        | (refine ref_at (k := k) rfl (by simp; omega) ?_; (conv => whnf))
        | (refine ld_at (by simp) hn ?_; (conv => whnf))
        | (refine .inr (.inr (.inr (.inr (.inl ⟨3, ?_⟩)))); (conv => whnf); refine ⟨_, _, _, _, _, _, spec_l1Below_spec code i4 u4 3 hi4 hl, fun ⟨z, ib, ub⟩ ⟨_, hib⟩ => ⟨rfl, ?_⟩⟩; dsimp only at hib; (conv => whnf))
        | (refine st_at (k := k) (by simp) hn (by simp [cN]) ?_; (conv => whnf))
       all_goals refine anyV_end rfl ?_
       all_goals refine ⟨(wSub .i64 (wAdd .i64 n.v z) 1, ib, ub), by assumption, ?_⟩
       all_goals ((conv => whnf); simp only [eS])
       all_goals exact nodes_set ns n _ (by simp) (by simp [dOver, cN, over])
      ·intro ⟨y, i5, u5⟩ hi5
       dsimp only at hi5
       conv => whnf
       refine ⟨(some (ns.set k ⟨n.f, n.c, n.l, n.r, y⟩, some m), i5, u5), ⟨(by refine ⟨?_, ?_⟩ <;> simp <;> omega), hi5⟩, ?_⟩
       conv => whnf
       first | done | rfl
   ·refine ⟨(some (ns, some m), i2, u2), ⟨hy, hi2⟩, ?_⟩
    conv => whnf
    first | done | rfl
 clear hy hi2
 intro ⟨y, i3, u3⟩ ⟨hy, hi3⟩
 dsimp only at hy hi3
 rcases y with _ | ⟨ns, _ | m⟩
 ·refine tri_then hT ?_
  conv => whnf
  refine tri_rp 4 ?_
  conv => whnf
  refine tri_rp 5 ?_
  conv => whnf
  refine tri_fz 6 0 ?_
  conv => whnf
  refine tri_rp 6 ?_
  conv => whnf
  refine tri_every hT hmix [2, 3, 4, 5, 6] { t := [(2, .c (.ptr 0 0)), (3, .c (.ptr 1 0)), (4, aIs gr), (5, .c (.ptr 2 0)), (6, .c (.ptr 3 0))], h := [(0, .box t_spec_l1Cur (cur code i3 u3)), (1, .box t_impl_Grid (cG g)), (2, .box t_impl_Config (cCf c)), (3, .box t_impl_Tree [.d (.sl 5 [])])], n := 4, N := 94 } rfl ?_ ?_
  ·repeat' first
    | (refine anyV_one rfl ?_; (conv => whnf))
    | (refine anyV_two rfl ?_ ?_ <;> (conv => whnf))
    | (refine anyV_three rfl ?_ ?_ ?_ <;> (conv => whnf))
    | (refine anyV_four rfl ?_ ?_ ?_ ?_ <;> (conv => whnf))
    | (refine anyV_five rfl ?_ ?_ ?_ ?_ ?_ <;> (conv => whnf))
    | (refine anyV_end rfl ?_; (conv => whnf); first | done | rfl | (rw [eL_nil]; done) | (rw [eL_nil]; rfl) | (simp only [part_eL, List.drop_zero]; done) | (simp only [part_eL, List.drop_zero]; rfl) | (simp only [partOf_none]; done) | (simp only [partOf_none]; rfl))
  ·refine wpH_sound hT _ _ _ ?_
   conv => whnf
   refine ⟨(g, gr, c, [], i3, u3), ⟨hg, hgr, hc, Nat.zero_le _, hi3⟩, ?_⟩
   conv => whnf
   rw [← eL_nil cN]
 ·refine tri_then hT ?_
  conv => whnf
  refine tri_rp 4 ?_
  conv => whnf
  refine tri_rp 5 ?_
  conv => whnf
  refine tri_fz 6 0 ?_
  conv => whnf
  refine tri_rp 6 ?_
  conv => whnf
  refine tri_every hT hmix [2, 3, 4, 5, 6] { t := [(2, .c (.ptr 0 0)), (3, .c (.ptr 1 0)), (4, aIs gr), (5, .c (.ptr 2 0)), (6, .c (.ptr 3 0))], h := [(0, .box t_spec_l1Cur (cur code i3 u3)), (1, .box t_impl_Grid (cG g)), (2, .box t_impl_Config (cCf c)), (3, .box t_impl_Tree (cTr (ns)))], n := 4, N := 94 } rfl ?_ ?_
  ·repeat' first
    | (refine anyV_one rfl ?_; (conv => whnf))
    | (refine anyV_two rfl ?_ ?_ <;> (conv => whnf))
    | (refine anyV_three rfl ?_ ?_ ?_ <;> (conv => whnf))
    | (refine anyV_four rfl ?_ ?_ ?_ ?_ <;> (conv => whnf))
    | (refine anyV_five rfl ?_ ?_ ?_ ?_ ?_ <;> (conv => whnf))
    | (refine anyV_end rfl ?_; (conv => whnf); first | done | rfl | (rw [eL_nil]; done) | (rw [eL_nil]; rfl) | (simp only [part_eL, List.drop_zero]; done) | (simp only [part_eL, List.drop_zero]; rfl) | (simp only [partOf_none]; done) | (simp only [partOf_none]; rfl))
  ·refine wpH_sound hT _ _ _ ?_
   conv => whnf
   refine ⟨(g, gr, c, ns, i3, u3), ⟨hg, hgr, hc, (show ns.length ≤ 32 from hy), hi3⟩, ?_⟩
   conv => whnf
   first | done | rfl
 ·refine tri_then hT ?_
  conv => whnf
  refine tri_rp 4 ?_
  conv => whnf
  refine tri_rp 5 ?_
  conv => whnf
  refine tri_fz 6 0 ?_
  conv => whnf
  refine tri_rp 6 ?_
  conv => whnf
  refine tri_every hT hmix [2, 3, 4, 5, 6] { t := [(2, .c (.ptr 0 0)), (3, .c (.ptr 1 0)), (4, aIs gr), (5, .c (.ptr 2 0)), (6, .c (.ptr 3 0))], h := [(0, .box t_spec_l1Cur (cur code i3 u3)), (1, .box t_impl_Grid (cG g)), (2, .box t_impl_Config (cCf c)), (3, .box t_impl_Tree (cTr (ns.take m)))], n := 4, N := 94 } rfl ?_ ?_
  ·repeat' first
    | (refine anyV_one rfl ?_; (conv => whnf))
    | (refine anyV_two rfl ?_ ?_ <;> (conv => whnf))
    | (refine anyV_three rfl ?_ ?_ ?_ <;> (conv => whnf))
    | (refine anyV_four rfl ?_ ?_ ?_ ?_ <;> (conv => whnf))
    | (refine anyV_five rfl ?_ ?_ ?_ ?_ ?_ <;> (conv => whnf))
    | (refine anyV_end rfl ?_; (conv => whnf); first | done | rfl | (rw [eL_nil]; done) | (rw [eL_nil]; rfl) | (simp only [part_eL, List.drop_zero]; done) | (simp only [part_eL, List.drop_zero]; rfl) | (simp only [partOf_none]; done) | (simp only [partOf_none]; rfl))
  ·refine wpH_sound hT _ _ _ ?_
   conv => whnf
   refine ⟨(g, gr, c, ns.take m, i3, u3), ⟨hg, hgr, hc, (by have := hy.1; show (ns.take m).length ≤ 32; simp; omega), hi3⟩, ?_⟩
   conv => whnf
   first | done | rfl
end Go.H.S
