/- One more node: the maker's contract. -/
import Derived.Test.YtignppgiamochaaGreatDoorD1
set_option linter.unusedVariables false
set_option linter.unusedSimpArgs false
namespace Go.AM
open Go
variable {g0 g : G} {h0 h : Heap} {L : List Ent} {Q : MK}
theorem node_call {m lb mp : Nat} {ns : List Bdd.Nd} {i lo hi : Nat} (O : W g0 h0 g h (mk1 m lb mp ns :: mk2 mp ns :: mk3 lb ns :: L)) (hn : ns.length < 16777216)
  (hQ : ∀ lb' h', W g0 h0 g h' (mk1 m lb' mp (Bdd.node ns i lo hi).1 :: mk2 mp (Bdd.node ns i lo hi).1 :: mk3 lb' (Bdd.node ns i lo hi).1 :: L) → Q (iV (Bdd.node ns i lo hi).2) h') :
  Cl f_maker_node [.ptr m 0, iV i, iV lo, iV hi] h Q := by
 refine Yf ok_maker_node (by simp) ?_
 unfold m_maker_node
 with_reducible refine wM_i (Xt ?_)
 simp only [XS, Tm.get_put, Nat.reduceAdd, Nat.reduceEqDiff, ↓reduceIte]
 refine q_eqN ?_
 by_cases hlh : lo = hi
 ·simp only [hlh, decide_true]
  with_reducible refine XC (wM_i (mThen_r ?_))
  simp only [Tm.get_put, Nat.reduceEqDiff, ↓reduceIte]
  refine mFin_i (vs := [iV hi]) (by simp only [resA, Tm.get_put, ↓reduceIte, Option.map_some]) ?_
  have := hQ lb h
  unfold Bdd.node at this
  rw [if_pos hlh, hlh] at this
  exact this O
 ·simp only [hlh, decide_false]
  with_reducible refine Xx (Xy (Xp ?_))
  refine q_build rfl ?_
  refine w_alloc O fun _ _ O => ?_
  refine XO 0 O rfl rfl rfl (by first | rfl | simp [AV.cells, oneA, XT]) fun _ O => ?_
  simp only [Tm.get_put, Nat.reduceEqDiff, ↓reduceIte]
  with_reducible refine q_nil (q_fa0 ?_)
  refine Xv 1 O rfl (by first | exact Xd rfl | rfl) ?_
  refine Xv 0 O rfl (by first | exact Xd rfl | rfl) ?_
  simp only [Tm.get_put, Nat.reduceEqDiff, ↓reduceIte]
  refine w_lookup (a := ⟨i, lo, hi⟩) 2 eqk_nd O rfl (fun p hp => ?_) (fun hp => ?_)
  ·rw [kn_look] at hp
   with_reducible refine q_ext0 (q_ext1 (wM_i (Xt (q_nt (Xx (Xy (Xp (wM_i ?_))))))))
   simp only [Tm.get_put, ↓reduceIte]
   refine mFin_i (vs := [iV p]) (by simp only [resA, Tm.get_put, ↓reduceIte, Option.map_some]) ?_
   have e : Bdd.node ns i lo hi = (ns, p) := by unfold Bdd.node; rw [if_neg hlh, hp]
   rw [e] at hQ
   exact hQ lb _ O.drop1
  ·have hp' := hp
   rw [kn_look] at hp'
   with_reducible refine q_ext0 (q_ext1 (wM_i (Xt (q_nf (XC ?_)))))
   simp only [Tm.get_put, Nat.reduceEqDiff, ↓reduceIte]
   with_reducible refine q_nil (q_fa0 ?_)
   refine Xv 1 O rfl (by first | exact Xd rfl | rfl) ?_
   refine Xv 0 O rfl (by first | exact Xd rfl | rfl) ?_
   refine Yd O rfl rfl fun _ _ O => ?_
   simp only [Tm.get_put, Nat.reduceEqDiff, ↓reduceIte]
   refine w_append 4 O rfl (src_own 0 O rfl rfl) (nd_len ns) (by decide) rfl (by omega) fun lb' _ O => ?_
   with_reducible refine q_nil (q_fa0 ?_)
   refine w_store1 2 O rfl (Nat.le_of_ble_eq_true rfl) (by first | exact grV_cells _ _ | rfl | assumption) (by first | exact XT _ _ | rfl | assumption) fun _ O => ?_
   refine mStay_c (by repeat (first | exact mStay1_n | refine Xe 0 (by assumption) rfl rfl (AV.beq_refl _) ?_ | refine Xe 1 (by assumption) rfl rfl (AV.beq_refl _) ?_ | refine Xe 2 (by assumption) rfl rfl (AV.beq_refl _) ?_ | refine Xe 3 (by assumption) rfl rfl (AV.beq_refl _) ?_ | refine Xe 4 (by assumption) rfl rfl (AV.beq_refl _) ?_ | refine Xe 5 (by assumption) rfl rfl (AV.beq_refl _) ?_ | refine Xe 6 (by assumption) rfl rfl (AV.beq_refl _) ?_ | refine Xe 7 (by assumption) rfl rfl (AV.beq_refl _) ?_ | refine Xe 8 (by assumption) rfl rfl (AV.beq_refl _) ?_ | refine st_loadF (by assumption) (by assumption) rfl (AV.beq_refl _) ?_)) ?_
   refine mStay_c (by repeat (first | exact mStay1_n | refine Xe 0 (by assumption) rfl rfl (AV.beq_refl _) ?_ | refine Xe 1 (by assumption) rfl rfl (AV.beq_refl _) ?_ | refine Xe 2 (by assumption) rfl rfl (AV.beq_refl _) ?_ | refine Xe 3 (by assumption) rfl rfl (AV.beq_refl _) ?_ | refine Xe 4 (by assumption) rfl rfl (AV.beq_refl _) ?_ | refine Xe 5 (by assumption) rfl rfl (AV.beq_refl _) ?_ | refine Xe 6 (by assumption) rfl rfl (AV.beq_refl _) ?_ | refine Xe 7 (by assumption) rfl rfl (AV.beq_refl _) ?_ | refine Xe 8 (by assumption) rfl rfl (AV.beq_refl _) ?_ | refine st_loadF (by assumption) (by assumption) rfl (AV.beq_refl _) ?_)) ?_
   refine mStay_n ?_
   with_reducible refine q_nil (q_fa0 ?_)
   refine Xv 2 O rfl (by first | exact Xd rfl | rfl) ?_
   with_reducible refine q_lenGr ?_
   with_reducible refine Ye (by simp only [Xo]; omega) ?_
   with_reducible refine wM_i ?_
   simp only [Tm.get_put, Nat.reduceEqDiff, ↓reduceIte]
   with_reducible refine q_nil (q_fa0 ?_)
   refine Xv 2 O rfl (by first | exact Xd rfl | rfl) ?_
   refine Xv 1 O rfl (by first | exact Xd rfl | rfl) ?_
   simp only [Tm.get_put, Nat.reduceEqDiff, ↓reduceIte]
   skip
   have hx : mLook (⟨i, lo, hi⟩ : Bdd.Nd) (kn ns 0) = none := hp
   refine w_update (ev := iV) (a := (⟨i, lo, hi⟩ : Bdd.Nd)) (y := ns.length + 1 + 1) 3 eqk_nd O rfl hx fun _ O => ?_
   with_reducible refine Xp (wM_i ?_)
   simp only [Tm.get_put, ↓reduceIte]
   have e : Bdd.node ns i lo hi = (ns ++ [⟨i, lo, hi⟩], ns.length + 2) := by unfold Bdd.node; rw [if_neg hlh, hp']
   refine mFin_i (vs := [iV (ns.length + 1 + 1)]) (by simp only [resA, Tm.get_put, ↓reduceIte, Option.map_some]) ?_
   rw [e] at hQ
   refine hQ lb' _ ?_
   have O2 := O.drop1.drop1
   unfold mk1 mk2 mk3
   rw [kn_app, flat_snoc, List.length_append]
   simp only [kn, Nat.zero_add, List.length_singleton]
   exact O2
end Go.AM
