/- The nodes of a place in the order of a walk: visit and done. -/
import Derived.Test.YtignppgiamochaaGreatDoorD4
set_option linter.unusedVariables false
set_option linter.unusedSimpArgs false
namespace Go.AM
open Go
variable {g0 g : G} {h0 : Heap}
def plE (pm : Nat) (pl : List (Nat × Nat)) : Ent := (pm, some (.map (mEs iV iV pl 0) pl.length))
def visFn (pb mb vb ob : Nat) : AV := .fn (.func f_maker_done_c1) [] [.ptr pb 0, .ptr mb 0, .ptr vb 0, .ptr ob 0]
structure VL (ns : List Bdd.Nd) (pl : List (Nat × Nat)) (out : List Bdd.Nd) : Prop where
 len : out.length + 2 ≤ pl.length
 nd : (pl.map (·.1)).Nodup
 rng : ∀ p ∈ pl.map (·.1), p < ns.length + 2
theorem VL.keys {ns out : List Bdd.Nd} {pl : List (Nat × Nat)} (J : VL ns pl out) {x : Nat} (h : mLook x pl = none) (hx : Bdd.Pl ns x) : ((pl.map (·.1)) ++ [x]).Nodup ∧ ∀ p ∈ (pl.map (·.1)) ++ [x], p < ns.length + 2 := by
 refine ⟨?_, fun p hp => ?_⟩
 ·rw [List.nodup_append]
  refine ⟨J.nd, by simp, fun a ha b hb => ?_⟩
  rw [List.mem_singleton] at hb
  subst hb
  exact fun e => look_none _ _ h (e ▸ ha)
 ·rcases List.mem_append.1 hp with hp | hp
  ·exact J.rng p hp
  ·rw [List.mem_singleton] at hp
   subst hp
   exact hx
theorem VL.lt {ns out : List Bdd.Nd} {pl : List (Nat × Nat)} (J : VL ns pl out) {x : Nat} (h : mLook x pl = none) (hx : Bdd.Pl ns x) : out.length < ns.length := by
 obtain ⟨h1, h2⟩ := J.keys h hx
 have := Bdd.nodup_le _ _ h1 h2
 simp only [List.length_append, List.length_map, List.length_singleton] at this
 have := J.len
 omega
theorem VL.snoc {ns out : List Bdd.Nd} {pl : List (Nat × Nat)} (J : VL ns pl out) {x r : Nat} (h : mLook x pl = none) (hx : Bdd.Pl ns x) (y : Bdd.Nd) : VL ns (pl ++ [(x, r)]) (out ++ [y]) := by
 obtain ⟨h1, h2⟩ := J.keys h hx
 refine ⟨?_, by simpa using h1, by simpa using h2⟩
 have := J.len
 simp only [List.length_append, List.length_singleton]
 omega
theorem visit_call {ns : List Bdd.Nd} (WN : Bdd.Wf ns) (hnl : ns.length < 16777216) {e1 e3 e4 e5 pb pm mb vb ob m lb mp : Nat} : ∀ (n r : Nat) (s : Bdd.St) (pl : List (Nat × Nat)) (ol : Nat) (h : Heap) (L : List Ent) (Q : MK), r < n → Bdd.Pl ns r → Bdd.Inv ns s →
  W g0 h0 g h ((pb, some (.cells false false e1 1 [.map pm])) :: plE pm pl :: (mb, some (.cells false false e3 1 [.ptr m 0])) :: (vb, some (.cells false false e4 1 [visFn pb mb vb ob])) :: (ob, some (.cells false false e5 1 [grV ol s.out.length])) :: mk3 ol s.out :: mk1 m lb mp ns :: mk3 lb ns :: L) →
  (∀ q, mLook q pl = s.pl q) → VL ns pl s.out →
  (∀ ol' pl' h', W g0 h0 g h' ((pb, some (.cells false false e1 1 [.map pm])) :: plE pm pl' :: (mb, some (.cells false false e3 1 [.ptr m 0])) :: (vb, some (.cells false false e4 1 [visFn pb mb vb ob])) :: (ob, some (.cells false false e5 1 [grV ol' (Bdd.visit ns n r s).2.out.length])) :: mk3 ol' (Bdd.visit ns n r s).2.out :: mk1 m lb mp ns :: mk3 lb ns :: L) →
   (∀ q, mLook q pl' = (Bdd.visit ns n r s).2.pl q) → VL ns pl' (Bdd.visit ns n r s).2.out → Q (iV (Bdd.visit ns n r s).1) h') →
  Cl f_maker_done_c1 [iV r, .ptr pb 0, .ptr mb 0, .ptr vb 0, .ptr ob 0] h Q := by
 intro n
 induction n with
 | zero => intro r s pl ol h L Q hn; omega
 | succ n ih =>
  intro r s pl ol h L Q hn hr I O hs hJ hQ
  have hr' := hr
  unfold Bdd.Pl at hr'
  refine Yf ok_maker_done_c1 (by simp) ?_
  unfold m_maker_done_c1
  with_reducible refine wM_i (Xt ?_)
  refine Xv 0 O rfl (by first | exact Xd rfl | rfl) ?_
  simp only [sT, XS, Nat.reduceAdd, Nat.reduceEqDiff, ↓reduceIte] at O ⊢
  refine w_lookup (ek := iV) (ev := iV) (a := r) 1 eqk_i O rfl (fun q hq => ?_) (fun hno => ?_)
  ·with_reducible refine q_ext0 (q_ext1 (XC (wM_i (mThen_r (XZ ?_)))))
   simp only [sT, ↓reduceIte] at O ⊢
   have e : Bdd.visit ns (n + 1) r s = (q, s) := by unfold Bdd.visit; rw [← hs, hq]
   rw [e] at hQ
   exact hQ ol pl _ O hs hJ
  ·have h2 : 2 ≤ r := by
    rcases Nat.lt_or_ge r 2 with h | h
    ·exfalso
     have : r = 0 ∨ r = 1 := by omega
     rcases this with rfl | rfl
     ·rw [hs, I.zero] at hno; cases hno
     ·rw [hs, I.one] at hno; cases hno
    ·exact h
   obtain ⟨x, hx⟩ := hr.node h2
   obtain ⟨l1, l2, l3, v1, v2, v3⟩ := WN.node _ _ hx
   obtain ⟨I1, L1, P1, K1⟩ := Bdd.visit_spec WN n x.lo s (by omega) (by unfold Bdd.Pl; omega) I
   obtain ⟨I2, L2, P2, K2⟩ := Bdd.visit_spec WN n x.hi (Bdd.visit ns n x.lo s).2 (by omega) (by unfold Bdd.Pl; omega) I1
   have e : Bdd.visit ns (n + 1) r s = (let a := Bdd.visit ns n x.lo s
     let b := Bdd.visit ns n x.hi a.2
     (b.2.out.length + 2, b.2.set r ⟨x.v, a.1, b.1⟩)) := by
    conv => lhs; unfold Bdd.visit
    rw [← hs, hno]
    dsimp only
    rw [hx]
   rw [e] at hQ
   dsimp only at hQ
   with_reducible refine q_ext0 (q_ext1 (Xx (Xy (Xp ?_))))
   refine Xv 2 O rfl (by first | exact Xd rfl | rfl) ?_
   with_reducible refine q_nil (q_fa0 ?_)
   refine Xv 6 O rfl (by first | exact Xd rfl | rfl) ?_
   simp only [sT, Nat.reduceEqDiff, ↓reduceIte] at O ⊢
   with_reducible refine q_subN (by omega) (by simp only [Xo]; omega) ?_
   with_reducible refine q_ixGr (by omega) ?_
   refine w_loadGrEl0 7 O rfl ndC_len hx (Xd rfl) (Nat.le_refl _) ?_
   skip
   refine w_alloc O fun bx _ O => ?_
   (refine XO 0 O rfl rfl rfl (by first | rfl | (simp only [AV.cells, List.all_cons, List.all_nil, XT, Bool.true_and, Bool.and_true] <;> rfl) | (simp only [AV.cells, List.all_cons, List.all_nil, Bool.true_and, Bool.and_true, *] <;> rfl)) fun _ O => ?_; simp only [List.set_cons_zero, AV.cells] at O)
   refine Xv 4 O rfl (by first | exact Xd rfl | rfl) ?_
   with_reducible refine q_fa0 ?_
   refine Xv 0 O rfl (by first | exact Xd rfl | rfl) ?_
   simp only [sT, Nat.reduceAdd] at O ⊢
   unfold visFn
   refine q_callFn ?_
   simp only [sT] at O ⊢
   refine ih x.lo s pl ol _ _ _ (by omega) (by unfold Bdd.Pl; omega) I (O.pick 9 [1, 2, 3, 4, 5, 6, 7, 8, 0] (by decide) (by decide)) hs hJ fun ol1 pl1 h1 O hs1 hJ1 => ?_
   generalize Bdd.visit ns n x.lo s = a at *
   refine Xv 3 O rfl (by first | exact Xd rfl | rfl) ?_
   with_reducible refine q_fa0 ?_
   refine Xv 8 O rfl (by first | exact Xd rfl | rfl) ?_
   unfold visFn
   refine q_callFn ?_
   simp only [sT] at O ⊢
   refine ih x.hi a.2 pl1 ol1 _ _ _ (by omega) (by unfold Bdd.Pl; omega) I1 O hs1 hJ1 fun ol2 pl2 h2 O hs2 hJ2 => ?_
   have hno2 : mLook r pl2 = none := by rw [hs2, K2 r (by omega), K1 r (by omega), ← hs, hno]
   generalize Bdd.visit ns n x.hi a.2 = b at *
   have hlt := hJ2.lt hno2 hr
   refine Xv 4 O rfl (by first | exact Xd rfl | rfl) ?_
   with_reducible refine q_fa0 ?_
   refine Xv 8 O rfl (by first | exact Xd rfl | rfl) ?_
   refine q_build rfl ?_
   refine Yd O rfl rfl fun _ _ O => ?_
   simp only [sT] at O ⊢
   refine w_append 6 O rfl (src_own 0 O rfl rfl) (nd_len b.2.out) (by decide) rfl (by omega) fun ol3 _ O => ?_
   simp only [List.set_cons_zero, List.set_cons_succ] at O
   (refine w_store1 5 O rfl (Nat.le_of_ble_eq_true rfl) (by first | exact grV_cells _ _ | rfl | assumption) (by first | exact XT _ _ | rfl | assumption) fun _ O => ?_; simp only [List.set_cons_zero, List.set_cons_succ] at O)
   refine Xv 1 O rfl (by first | exact Xd rfl | rfl) ?_
   refine Xv 5 O rfl (by first | exact Xd rfl | rfl) ?_
   with_reducible refine q_lenGr ?_
   with_reducible refine Ye (by simp only [Xo]; omega) ?_
   refine w_update (ek := iV) (ev := iV) (a := r) (y := b.2.out.length + 1 + 1) 2 eqk_i O rfl hno2 fun _ O => ?_
   refine Xv 5 O rfl (by first | exact Xd rfl | rfl) ?_
   with_reducible refine q_lenGr ?_
   with_reducible refine Ye (by simp only [Xo]; omega) ?_
   with_reducible refine wM_i (XZ ?_)
   simp only [sT, ↓reduceIte] at O ⊢
   refine hQ ol3 (pl2 ++ [(r, b.2.out.length + 1 + 1)]) _ ?_ (fun q => ?_) (hJ2.snoc hno2 hr _)
   ·unfold mk3 plE Bdd.St.set
    dsimp only
    have e1 : (b.2.out ++ [(⟨x.v, a.1, b.1⟩ : Bdd.Nd)]).length = b.2.out.length + 1 := by simp
    rw [flat_snoc, e1]
    exact O.pick 10 [1, 2, 3, 4, 5, 6, 7, 8] (by decide) (by decide)
   ·rw [look_app, hs2]
    unfold Bdd.St.set
    dsimp only
    by_cases hq : q = r
    ·rw [if_pos hq, hq, ← hs2, hno2, if_pos rfl]
    ·rw [if_neg hq, if_neg hq]
     cases b.2.pl q <;> rfl
theorem VL.le {ns out : List Bdd.Nd} {pl : List (Nat × Nat)} (J : VL ns pl out) : out.length ≤ ns.length := by
 have := Bdd.nodup_le _ _ J.nd J.rng
 rw [List.length_map] at this
 have := J.len
 omega
theorem vl0 (ns : List Bdd.Nd) : VL ns [(0, 0), (1, 1)] [] := ⟨by decide, by decide, by intro p hp; simp at hp; omega⟩
theorem done_call {g : G} {h : Heap} {L : List Ent} {Q : MK} {ns : List Bdd.Nd} (WN : Bdd.Wf ns) (hnl : ns.length < 16777216) {m lb mp r : Nat} (hr : Bdd.Pl ns r)
  (O : W g0 h0 g h (mk1 m lb mp ns :: mk2 mp ns :: mk3 lb ns :: L)) (hQ : ∀ g' h' v, W g0 h0 g' h' L → Gle g g' → IsD g' v (Bdd.canon ns r) → Q v h') : Cl f_maker_done [.ptr m 0, iV r] h Q := by
 refine Yf ok_maker_done (by simp) ?_
 unfold m_maker_done
 refine w_box O fun _ _ O => ?_
 refine w_alloc O fun _ _ O => ?_
 with_reducible refine wM_i ?_
 refine w_alloc O fun _ _ O => ?_
 refine w_mkMap O fun _ _ O => ?_
 simp only [sT, XS, AV.cells, Nat.reduceAdd, Nat.reduceEqDiff, ↓reduceIte] at O ⊢
 refine w_update (ek := iV) (ev := iV) (l := []) (a := 0) (y := 0) 0 eqk_i O rfl rfl fun _ O => ?_
 refine w_update (ek := iV) (ev := iV) (l := [(0, 0)]) (a := 1) (y := 1) 0 eqk_i O rfl rfl fun _ O => ?_
 simp only [List.set_cons_zero] at O
 refine w_alloc O fun pb _ O => ?_
 (refine w_store1 0 O rfl (Nat.le_of_ble_eq_true rfl) (by first | exact grV_cells _ _ | rfl | assumption) (by first | exact XT _ _ | rfl | assumption) fun _ O => ?_; simp only [List.set_cons_zero] at O)
 simp only [sT, Nat.reduceAdd] at O ⊢
 refine w_alloc O fun vb _ O => ?_
 (refine w_store1 0 O rfl (Nat.le_of_ble_eq_true rfl) (by first | exact grV_cells _ _ | rfl | assumption) (by first | exact XT _ _ | rfl | assumption) fun _ O => ?_; simp only [List.set_cons_zero] at O)
 refine Xv 0 O rfl (by first | exact Xd rfl | rfl) ?_
 simp only [sT] at O ⊢
 refine is_call ?_
 refine q_callFn ?_
 simp only [List.map_cons, List.map_nil, List.nil_append, List.cons_append, ev_c]
 replace O := O.addN 0
 replace O := O.pick 10 [2, 3, 6, 1, 4, 0, 7, 9, 5] (by decide) (by decide)
 simp only [List.filterMap_cons, List.filterMap_nil, List.getElem?_cons_zero, List.getElem?_cons_succ, List.drop_succ_cons, List.drop_zero, List.cons_append, List.nil_append] at O
 refine visit_call WN hnl (r + 1) r Bdd.st0 [(0, 0), (1, 1)] 0 _ _ _ (Nat.lt_succ_self _) hr (Bdd.inv0 ns) O (fun q => ?_) (vl0 ns) fun ol pl h1 O hs hJ => ?_
 ·simp only [mLook, Bdd.st0]
 have hlen := hJ.le
 refine Xv 4 O rfl (by first | exact Xd rfl | rfl) ?_
 refine q_build2 (by first | exact grV_cells _ _ | assumption | rfl) (by first | exact grV_cells _ _ | assumption | rfl) ?_
 (refine XO 8 O rfl rfl rfl (by first | rfl | (simp only [AV.cells, List.all_cons, List.all_nil, XT, Bool.true_and, Bool.and_true] <;> rfl) | (simp only [AV.cells, List.all_cons, List.all_nil, Bool.true_and, Bool.and_true, *] <;> rfl)) fun _ O => ?_; simp only [List.set_cons_zero, List.set_cons_succ, AV.cells] at O)
 with_reducible refine mFin_c ?_
 refine cellQ_i 8 O rfl rfl ?_
 obtain ⟨g', O', l, hsl⟩ := O.freezeGr (enc := ndC) 5 rfl
 exact hQ g' _ _ (O'.pick 9 [] (by decide) (by decide)) l ⟨Nat.lt_of_le_of_lt hlen hnl, _, rfl, hsl⟩
end Go.AM
