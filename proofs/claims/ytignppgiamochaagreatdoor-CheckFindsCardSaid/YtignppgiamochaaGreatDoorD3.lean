/- Sets in a heap; one node of a set; the operations on the ends. -/
import Derived.Test.YtignppgiamochaaGreatDoorD2
import Derived.Test.YtignppgiamochaaGreatDoorB1
set_option linter.unusedVariables false
set_option linter.unusedSimpArgs false
namespace Go.AM
open Go
def IsD (g : G) (v : AV) (d : List Bdd.Nd × Nat) : Prop := d.1.length < 16777216 ∧ ∃ lv, v = .agg [lv, iV d.2] ∧ IsSl g ndC 3 lv d.1
theorem IsD.mono {g g' : G} (l : Gle g g') {v : AV} {d : List Bdd.Nd × Nat} : IsD g v d → IsD g' v d := fun ⟨h0, lv, h1, h2⟩ => ⟨h0, lv, h1, h2.mono l⟩
theorem ndC_len (x : Bdd.Nd) : (ndC x).length = 3 := rfl
variable {g0 g : G} {h0 h : Heap} {L : List Ent} {Q : MK}
theorem newMaker_call (O : W g0 h0 g h L) (hQ : ∀ m mp h', W g0 h0 g h' (mk1 m 0 mp [] :: mk2 mp [] :: mk3 0 [] :: L) → Q (.ptr m 0) h') : Cl f_diagram_newMaker [] h Q := by
 refine Yf ok_diagram_newMaker (by simp) ?_
 unfold m_diagram_newMaker
 with_reducible refine wM_i ?_
 refine w_mkMap O fun _ _ O => ?_
 refine q_build rfl ?_
 refine w_box O fun _ _ O => ?_
 with_reducible refine wM_i (XZ ?_)
 simp only [sT, XS, AV.cells, Nat.reduceAdd, ↓reduceIte] at O ⊢
 exact hQ _ _ _ ((O.addN 0).pick 3 [1, 2, 0] (by decide) (by decide))
theorem at_call {av : AV} {d : List Bdd.Nd × Nat} {r : Nat} (f : Fz g h) (ha : IsD g av d) (hr : Bdd.Pl d.1 r) (hQ : ∀ h', Step g h g h' → Q (ndV (Bdd.at' d.1 r)) h') : Cl f_D_at [av, iV r] h Q := by
 obtain ⟨hsz, lv, rfl, hl⟩ := ha
 have hr' := hr
 unfold Bdd.Pl at hr'
 have O := W.start f
 refine Yf ok_D_at (by simp) ?_
 unfold m_D_at
 refine w_box O fun _ _ O => ?_
 with_reducible refine wM_i ?_
 refine w_alloc O fun _ _ O => ?_
 with_reducible refine wM_i (Xt ?_)
 simp only [sT, XS, AV.cells, Nat.reduceAdd, Nat.reduceEqDiff, ↓reduceIte] at O ⊢
 refine q_lssN ?_
 by_cases h2 : r < 2
 ·simp only [h2, decide_true]
  with_reducible refine XC ?_
  refine q_build rfl ?_
  (refine XO 0 O rfl rfl rfl (by first | rfl | simp [AV.cells, oneA, XT]) fun _ O => ?_; simp only [List.set_cons_zero, AV.cells] at O)
  with_reducible refine mThen_r (mFin_c ?_)
  refine cellQ_i 0 O rfl rfl ?_
  simp only [sT, Nat.reduceEqDiff, ↓reduceIte] at O ⊢
  have e : Bdd.at' d.1 r = ⟨24, r, r⟩ := by unfold Bdd.at'; rw [if_pos h2]
  rw [e] at hQ
  exact hQ _ O.done
 ·simp only [h2, decide_false]
  with_reducible refine Xx (Xy (Xp ?_))
  simp only [sT, Nat.reduceEqDiff, ↓reduceIte] at O ⊢
  with_reducible refine q_fa0 ?_
  refine Xv 1 O rfl (by first | exact Xd rfl | rfl) ?_
  with_reducible refine q_subN (by omega) (by simp only [Xo]; omega) ?_
  obtain ⟨x, hx⟩ := hr.node (by omega)
  refine q_ixS hl ndC_len hx fun b o he => ?_
  refine w_loadEl0 O he (Xd rfl) (Nat.le_refl _) ?_
  (refine XO 0 O rfl rfl rfl (by first | rfl | simp [AV.cells, oneA, XT]) fun _ O => ?_; simp only [List.set_cons_zero, AV.cells] at O)
  with_reducible refine mFin_c ?_
  refine cellQ_i 0 O rfl rfl ?_
  have e : Bdd.at' d.1 r = x := by unfold Bdd.at'; rw [if_neg h2, hx]; rfl
  rw [e] at hQ
  exact hQ _ O.done
def OpC (fop : FuncId) (op : Nat → Nat → Option Nat) : Prop := ∀ {h : Heap} {x y : Nat} {Q : MK}, (∀ r, op x y = some r → Q (.tup [iV r, .bool true]) h) → (op x y = none → ∀ r : Nat, Q (.tup [iV r, .bool false]) h) → Cl fop [iV x, iV y] h Q
theorem either_call : OpC f_diagram_either Bdd.eitherO := by
 intro h x y Q h1 h2
 refine Yf ok_diagram_either (by simp) ?_
 unfold m_diagram_either
 with_reducible refine wM_i (wM_i (Xt ?_))
 simp only [sT, XS, Nat.reduceEqDiff, ↓reduceIte]
 refine q_eqN ?_
 by_cases hx : x = 1
 ·simp only [hx, decide_true]
  with_reducible refine XI (XI (XX (XC (wM_i (wM_i (mThen_r (mFin_tt ?_)))))))
  simp only [sT, Nat.reduceEqDiff, ↓reduceIte]
  exact h1 1 (by unfold Bdd.eitherO; rw [if_pos (.inl hx)])
 ·simp only [hx, decide_false]
  with_reducible refine XB (XB ?_)
  refine q_eqN ?_
  by_cases hy : y = 1
  ·simp only [hy, decide_true]
   with_reducible refine Ya (XC (wM_i (wM_i (mThen_r (mFin_tt ?_)))))
   simp only [sT, Nat.reduceEqDiff, ↓reduceIte]
   exact h1 1 (by unfold Bdd.eitherO; rw [if_pos (.inr hy)])
  ·simp only [hy, decide_false]
   with_reducible refine Ya (Xx (Xy (Xp ?_)))
   simp only [sT, Nat.reduceEqDiff, ↓reduceIte]
   refine q_eqN ?_
   by_cases hx0 : x = 0
   ·simp only [hx0, decide_true]
    with_reducible refine Yg (Yg ?_)
    refine q_eqN ?_
    by_cases hy0 : y = 0
    ·simp only [hy0, decide_true]
     with_reducible refine XX (wM_i (wM_i (mFin_tt ?_)))
     simp only [sT, Nat.reduceEqDiff, ↓reduceIte]
     exact h1 0 (by unfold Bdd.eitherO; rw [if_neg (by omega), if_pos ⟨hx0, hy0⟩])
    ·simp only [hy0, decide_false]
     with_reducible refine XX (wM_i (wM_i (mFin_tt ?_)))
     simp only [sT, Nat.reduceEqDiff, ↓reduceIte]
     exact h2 (by unfold Bdd.eitherO; rw [if_neg (by omega), if_neg (by omega)]) 0
   ·simp only [hx0, decide_false]
    with_reducible refine Yb (Yb (Ya (wM_i (wM_i (mFin_tt ?_)))))
    simp only [sT, Nat.reduceEqDiff, ↓reduceIte]
    exact h2 (by unfold Bdd.eitherO; rw [if_neg (by omega), if_neg (by omega)]) 0
end Go.AM
