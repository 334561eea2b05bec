/- Library, part OE: the law FnFirst . -/
import Derived.Test.YtpkpedaonmbeiaaLEA
import Derived.Test.YtpkpedaonmbeiaaLMA
import Derived.Test.YtpkpedaonmbeiaaH29
namespace Go.H.S
open Go Go.Proofs Go.H
attribute [local irreducible] Tri FnSpec FnSpecM FnSpecX FnSpecJ FnSpecB
set_option maxRecDepth 100000
set_option linter.unusedSimpArgs false
set_option linter.unusedVariables false


theorem drawn_okM {m : Mdl} (hd : drawn m) : okModel m := ⟨⟨by have := hd.names; omega, fun s hs => by have := hd.texts s hs; omega⟩, by have := hd.signs; omega, by have := hd.trees; omega, fun t ht => by have := hd.nodes t ht; omega⟩
theorem drawn_first {m : Mdl} (hd : drawn m) (k : Int) : drawn (firstM m k) := ⟨hd.names, hd.one, hd.texts, hd.signs, by have := hd.trees; simp [firstM]; omega, fun t ht => hd.nodes t (List.mem_of_mem_take ht)⟩
theorem drawn_smM {m : Mdl} (hd : drawn m) : smM m := ⟨by have := hd.names; omega, by have := hd.signs; omega, by have := hd.trees; omega, fun t ht => by have := hd.nodes t ht; omega⟩

set_option maxHeartbeats 4000000 in
theorem law_FnFirst (code : List Int) (hm : code.length ≤ 9223372036854775807 ∧ ∀ y ∈ code, 0 ≤ y ∧ y ≤ 255) : FnSpec PR f_laws_FnFirst [.c (.d (.sl 1 (eL cU code)))] (ab true) [] 0 := by
  refine FnSpec.intro hTn p_laws_FnFirst rfl (by kernel_rfl) n_laws_FnFirst rfl ?_
  conv => whnf
  refine .inl ⟨_, _, _, laws_big_spec code, rfl, ?_⟩
  (conv => whnf)
  refine ifB_i (fun h => ?_) (fun h => ?_) <;> (conv => whnf) <;> simp only [nInt_eq, Int.natCast_zero, dLen_eL, sLen_eq, nOf_eq, Int.toNat_natCast, nAdd_eq, nSub_eq, dLen_nil, dLen_cons, iLt_t, iLt_f, iLe_t, iLe_f, iEq_t, iEq_f, sEq_t, sEq_f, bNot_t, bNot_f, bAnd_t, bEq_t, bEq_f, Bool.not_eq_true, Bool.not_eq_false, Bool.true_eq_false, Bool.false_eq_true] at h
  have hl : code.length ≤ 1048576 := by omega
  refine .inr ⟨_, _, _, _, _, spec_DrawFirstTrees_spec code hl, fun ⟨m, k⟩ hd => ⟨rfl, ?_⟩⟩
  dsimp only at hd
  have hs : smM m := ⟨by have := hd.names; omega, by have := hd.signs; omega, by have := hd.trees; omega, fun t ht => by have := hd.nodes t ht; omega⟩
  (conv => whnf)
  refine .inl ⟨_, _, _, impl_FirstTrees_spec m k hs, rfl, ?_⟩
  (conv => whnf)
  refine tri_fz 4 0 ?_
  (conv => whnf)
  refine tri_fz 4 1 ?_
  (conv => whnf)
  refine tri_fz 4 3 ?_
  (conv => whnf)
  refine tri_rp 4 ?_
  (conv => whnf)
  refine tri_rp 0 ?_
  (conv => whnf)
  have hpt : partOf (eL cT m.trees) (some (true, 0, firstK m k)) = eL cT (firstM m k).trees := by rw [part_eL]; rfl
  simp only [partOf_none, hpt]
  have hok : okModel (firstM m k) := drawn_okM (drawn_first hd k)
  have hsame : FnSpec PR f_spec_SameModel [aM (firstM m k), .agg [.d (.sl 1 (eL cS m.names)), .d (.sl 1 (eL cI m.signs)), .d (.int .i64 m.base), .d (.sl 1 (partOf (eL cT m.trees) (some (true, 0, firstK m k))))]] (ab true) [] 0 := by
    rw [hpt]
    have := spec_SameModel_spec (firstM m k) (firstM m k) hok hok
    rwa [eqMd_self] at this
  refine tri_every hTn hmix [3, 4, 5, 21] { t := [(3, .c (.d (.rp [.sl 1 (eL cS m.names), .sl 1 (eL cI m.signs), .int .i64 m.base, .sl 1 (eL cT m.trees)]))), (4, ai k), (5, .c (.d (.rp [.sl 1 (eL cS m.names), .sl 1 (eL cI m.signs), .int .i64 m.base, .sl 1 (eL cT (firstM m k).trees)]))), (21, ab (bNot true))], h := [], n := 0, N := 45 } rfl ?_ ?_
  · repeat' first
      | (refine anyV_one rfl ?_; (conv => whnf))
      | (refine anyV_two rfl ?_ ?_ <;> (conv => whnf))
      | (refine anyV_three rfl ?_ ?_ ?_ <;> (conv => whnf))
      | (refine .inl ⟨_, _, _, spec_FirstTrees_spec m k hs, rfl, ?_⟩; (conv => whnf))
      | (refine .inl ⟨_, _, _, hsame, rfl, ?_⟩; (conv => whnf))
      | (refine ⟨_, _, _, hsame, rfl, ?_⟩; (conv => whnf))
      | (refine anyV_end rfl ?_; (conv => whnf); first | done | rfl)
  (conv => whnf)
  have hs' : smM (firstM m k) := drawn_smM (drawn_first hd k)
  have hp2 : partOf (eL cT (firstM m k).trees) (some (true, 0, firstK (firstM m k) k)) = eL cT (firstM m k).trees := by rw [part_eL]; exact congrArg (fun x : Mdl => eL cT x.trees) (firstM_twice m k)
  have hp3 : partOf (eL cT m.trees) (some (true, 0, firstK m m.trees.length)) = eL cT m.trees := by rw [part_eL]; exact congrArg (fun x : Mdl => eL cT x.trees) (firstM_all m)
  have h2 : FnSpec PR f_spec_SameModel [.agg [.d (.sl 1 (eL cS m.names)), .d (.sl 1 (eL cI m.signs)), .d (.int .i64 m.base), .d (.sl 1 (partOf (eL cT (firstM m k).trees) (some (true, 0, firstK (firstM m k) k))))], aM (firstM m k)] (ab true) [] 0 := by
    rw [hp2]
    have := spec_SameModel_spec (firstM m k) (firstM m k) hok hok
    rwa [eqMd_self] at this
  have hokm : okModel m := drawn_okM hd
  have h3 : FnSpec PR f_spec_SameModel [.agg [.d (.sl 1 (eL cS m.names)), .d (.sl 1 (eL cI m.signs)), .d (.int .i64 m.base), .d (.sl 1 (partOf (eL cT m.trees) (some (true, 0, firstK m m.trees.length))))], aM m] (ab true) [] 0 := by
    rw [hp3]
    have := spec_SameModel_spec m m hokm hokm
    rwa [eqMd_self] at this
  have q1 := hd.names; have q2 := hd.signs; have q3 := hd.trees
  have hms := spec_ModelOk_spec m (by omega) (fun s hs => by have := hd.texts s hs; omega) (by omega) (by omega) (fun t ht => by have := hd.nodes t ht; omega)
  have hmi := impl_ModelOk_spec (firstM m k) (by show m.names.length ≤ _; omega) (fun s hs => by have := hd.texts s hs; omega) (by show m.signs.length ≤ _; omega) (by have := (drawn_first hd k).trees; omega) (fun t ht => by have := (drawn_first hd k).nodes t ht; omega)
  have hmo := fun h => modelOk_first (m := m) h k
  generalize modelOk (firstM m k) = bo at *
  cases hb : modelOk m
  all_goals rw [hb] at hms hmo
  rotate_left
  obtain rfl : bo = true := hmo rfl
  all_goals refine tri_every hTn hmix [2] { t := [(2, ab true)], h := [], n := 0, N := 45 } rfl ?_ ?_
  all_goals first
    | ((conv => whnf); done)
    | skip
  all_goals
    repeat' first
      | (refine anyV_one rfl ?_; (conv => whnf))
      | (refine anyV_two rfl ?_ ?_ <;> (conv => whnf))
      | (refine anyV_three rfl ?_ ?_ ?_ <;> (conv => whnf))
      | (refine .inl ⟨_, _, _, impl_FirstTrees_spec (firstM m k) k hs', rfl, ?_⟩; (conv => whnf))
      | (refine .inl ⟨_, _, _, h2, rfl, ?_⟩; (conv => whnf))
      | (rw [show nInt (dLen (eL cT m.trees)) = (m.trees.length : Int) by simp]; refine .inl ⟨_, _, _, impl_FirstTrees_spec m m.trees.length hs, rfl, ?_⟩; (conv => whnf))
      | (refine .inl ⟨_, _, _, h3, rfl, ?_⟩; (conv => whnf))
      | (refine .inl ⟨_, _, _, hms, rfl, ?_⟩; (conv => whnf))
      | (refine .inl ⟨_, _, _, hmi, rfl, ?_⟩; (conv => whnf))
      | (refine anyV_end rfl ?_; (conv => whnf); first | done | rfl)
end Go.H.S
