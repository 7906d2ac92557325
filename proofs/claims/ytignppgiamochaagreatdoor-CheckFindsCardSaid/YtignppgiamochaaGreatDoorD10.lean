/- A cube's set, the set of cubes. -/
import Derived.Test.YtignppgiamochaaGreatDoorD9
set_option linter.unusedVariables false
set_option linter.unusedSimpArgs false
namespace Go.AM
open Go
variable {g : G} {h : Heap} {Q : MK}
open Bdd (cfgs XQ XV inB inCu bitsN bitsF setS cuS Cu allF)
theorem cubeL_len (on off : Nat → Bool) : ∀ n, (Bdd.cubeL on off n).1.length ≤ n := by
 intro n
 induction n with
 | zero => exact Nat.le_refl _
 | succ n ih =>
  simp only [Bdd.cubeL, Bdd.cubeS]
  split
  ·have := node_len (Bdd.cubeL on off n).1 (23 - n) 0 (Bdd.cubeL on off n).2; omega
  ·split
   ·have := node_len (Bdd.cubeL on off n).1 (23 - n) (Bdd.cubeL on off n).2 0; omega
   ·omega
theorem Cube_call {on off : Nat} (f : Fz g h) (h1 : on < 4294967296) (h2 : off < 4294967296) (hQ : ∀ g' h' v d, Step g h g' h' → IsD g' v d → Bdd.Dg d (cuS (on, off)) → Q v h') : Cl f_diagram_Cube [uV on, uV off] h Q := by
 have O := W.start f
 refine Yf ok_diagram_Cube (by simp) ?_
 unfold m_diagram_Cube
 simp only [sS, XS] at O ⊢
 refine w_alloc O fun bd _ O => ?_
 have m1 : on &&& 16777215 ≤ 16777215 := Nat.and_le_right
 have m2 : off &&& 16777215 ≤ 16777215 := Nat.and_le_right
 have m3 : on &&& 16777215 &&& (off &&& 16777215) ≤ on &&& 16777215 := Nat.and_le_left
 with_reducible refine wM_i ?_
 simp only [sS, Nat.reduceAdd, Nat.reduceEqDiff, ↓reduceIte] at O ⊢
 with_reducible refine q_andN (by simp only [Xo]; omega) (by simp only [Xo]; omega) ?_
 with_reducible refine q_andN (by simp only [Xo]; omega) (by simp only [Xo]; omega) ?_
 with_reducible refine wM_i (wM_i (Xt ?_))
 simp only [sS, Nat.reduceEqDiff, ↓reduceIte] at O ⊢
 with_reducible refine q_andN (by simp only [Xo]; omega) (by simp only [Xo]; omega) ?_
 refine q_neN ?_
 by_cases h0 : on &&& 16777215 &&& (off &&& 16777215) = 0
 ·rw [decide_eq_true h0]
  simp only [Bool.not_true]
  with_reducible refine Xx (Xy (Xp ?_))
  refine newMaker_call O fun m mp _ O => ?_
  with_reducible refine wM_i (wM_i (Xt (wM_i (XD ?_))))
  have hb1 : ∀ i, i < 24 → (on &&& 16777215).testBit i = on.testBit i := fun i hi => by rw [Nat.testBit_and]; have := Bdd.all_bit i; unfold Bdd.allF at this; rw [this]; simp [hi]
  have hb2 : ∀ i, i < 24 → (off &&& 16777215).testBit i = off.testBit i := fun i hi => by rw [Nat.testBit_and]; have := Bdd.all_bit i; unfold Bdd.allF at this; rw [this]; simp [hi]
  have hd : ∀ i, (on &&& 16777215).testBit i = true → (off &&& 16777215).testBit i = false := fun i hi => by
   have := congrArg (fun n => n.testBit i) h0
   simp only [Nat.testBit_and, Nat.zero_testBit] at this hi ⊢
   cases hx : (off.testBit i && Nat.testBit 16777215 i) with
   | false => rfl
   | true => rw [hx, hi] at this; cases this
  generalize on &&& 16777215 = A at *
  generalize off &&& 16777215 = B at *
  refine XL (fun n t h' => n ≤ 24 ∧ ∃ lb, (t.get 0 = uV A ∧ t.get 1 = uV B ∧ t.get 4 = .ptr bd 0 ∧ t.get 5 = .ptr m 0 ∧ t.get 6 = iV (Bdd.cubeL A.testBit B.testBit (24 - n)).2 ∧ t.get 7 = (match n with | 0 => .int .i64 (-1) | n + 1 => iV n)) ∧
   W g h g h' [mk1 m lb mp (Bdd.cubeL A.testBit B.testBit (24 - n)).1, mk2 mp (Bdd.cubeL A.testBit B.testBit (24 - n)).1, mk3 lb (Bdd.cubeL A.testBit B.testBit (24 - n)).1, (bd, some (.cells false false 45 2 [.snil, iV 0]))]) 24 ⟨Nat.le_refl _, 0, ⟨?_, ?_, ?_, ?_, ?_, ?_⟩, ?_⟩ ?_
  iterate 6 (simp only [Tm.get_put, Nat.reduceEqDiff, ↓reduceIte] <;> rfl)
  ·rw [show Bdd.cubeL A.testBit B.testBit (24 - 24) = ([], 1) from rfl]
   exact O
  rintro n t h3 ⟨hn, lb, ⟨e0, e1, e4, e5, e6, e7⟩, O⟩ R hR
  cases n with
  | zero =>
   dsimp only at e7
   with_reducible refine Xt ?_
   simp only [e7] at O ⊢
   refine q_geq ?_
   rw [decide_eq_false (by decide)]
   with_reducible refine Xx (mExit_i (XF (XF (mThen_oe ?_))))
   simp only [e4, e5, e6] at O ⊢
   have I := Bdd.cubeL_ok hd 24 (Nat.le_refl _)
   refine done_call I.wf (Nat.lt_of_le_of_lt (cubeL_len _ _ 24) (by decide)) I.pl O fun g' h4 v O l hv => ?_
   obtain ⟨hl3, lw, rfl, hW⟩ := hv
   obtain ⟨hw1, hw2⟩ := hW.one
   (refine XO 0 O rfl rfl rfl (by first | rfl | (simp only [AV.cells, List.all_cons, List.all_nil, Bool.and_true] <;> rfl) | (simp only [AV.cells, List.all_cons, List.all_nil, Bool.true_and, Bool.and_true, *] <;> rfl)) fun _ O => ?_; simp only [List.set_cons_zero, AV.cells] at O)
   with_reducible refine mFin_c ?_
   simp only [e4] at O ⊢
   refine cellQ_i 0 O rfl rfl ?_
   refine hQ _ _ _ (Bdd.cubeD A.testBit B.testBit) O.done ⟨hl3, lw, rfl, hW⟩ (Bdd.dg_cube hd fun c => ?_)
   rw [Bdd.cuS_iff]
   constructor
   ·intro h i hi
    have := h i hi
    rw [hb1 i hi, hb2 i hi]
    exact this
   ·intro h i hi
    have := h i hi
    rw [hb1 i hi, hb2 i hi] at this
    exact this
  | succ n =>
   dsimp only at e7
   have hlen := cubeL_len A.testBit B.testBit (24 - (n + 1))
   have hs : Bdd.cubeL A.testBit B.testBit (24 - n) = Bdd.cubeS A.testBit B.testBit (Bdd.cubeL A.testBit B.testBit (24 - (n + 1))) n := by
    rw [show 24 - n = (24 - (n + 1)) + 1 by omega, Bdd.cubeL, show 23 - (24 - (n + 1)) = n by omega]
   with_reducible refine Xt ?_
   simp only [e7] at O ⊢
   refine q_geqN ?_
   rw [decide_eq_true (Nat.zero_le _)]
   have a1 : A >>> n ≤ 16777215 := Nat.le_trans (Nat.shiftRight_le _ _) m1
   have a2 : B >>> n ≤ 16777215 := Nat.le_trans (Nat.shiftRight_le _ _) m2
   with_reducible refine XC (Xy (Xp (Xt (XD (XD ?_)))))
   simp only [e0, e7] at O ⊢
   with_reducible refine q_shrU (by omega) ?_
   with_reducible refine q_andN (by simp only [Xo]; omega) (by simp only [Xo]; omega) ?_
   refine q_eqN ?_
   simp only [bit_eq]
   by_cases hA : A.testBit n = true
   ·rw [decide_eq_true hA]
    with_reducible refine XC ?_
    simp only [sS, e5, e6, e7] at O ⊢
    refine node_call O (by omega) fun lb' h4 O => ?_
    have hs' : Bdd.cubeL A.testBit B.testBit (24 - n) = Bdd.node (Bdd.cubeL A.testBit B.testBit (24 - (n + 1))).1 n 0 (Bdd.cubeL A.testBit B.testBit (24 - (n + 1))).2 := by rw [hs, Bdd.cubeS, if_pos hA]
    rw [← hs'] at O
    with_reducible refine wM_i (Xp ?_)
    simp only [sS, Nat.reduceEqDiff, ↓reduceIte, e7] at O ⊢
    cases n with
    | zero =>
     refine q_sub1 ?_
     with_reducible refine wM_i (Xp ?_)
     simp only [sS] at O ⊢
     refine hR 0 _ _ (by omega) ⟨by omega, lb', ⟨?_, ?_, ?_, ?_, ?_, ?_⟩, O⟩
     iterate 6 (simp only [Tm.get_put, Nat.reduceEqDiff, ↓reduceIte, e0, e1, e4, e5, hs'])
    | succ n =>
     refine q_subN (by omega) (by simp only [Xo]; omega) ?_
     with_reducible refine wM_i (Xp ?_)
     refine hR (n + 1) _ _ (by omega) ⟨by omega, lb', ⟨?_, ?_, ?_, ?_, ?_, ?_⟩, O⟩
     iterate 6 (simp only [Tm.get_put, Nat.reduceEqDiff, ↓reduceIte, e0, e1, e4, e5, hs'] <;> rfl)
   ·rw [decide_eq_false hA]
    with_reducible refine Xx ?_
    simp only [e1, e7] at O ⊢
    with_reducible refine q_shrU (by omega) ?_
    with_reducible refine q_andN (by simp only [Xo]; omega) (by simp only [Xo]; omega) ?_
    refine q_eqN ?_
    simp only [bit_eq]
    by_cases hB : B.testBit n = true
    ·rw [decide_eq_true hB]
     with_reducible refine XC ?_
     simp only [sS, e5, e6, e7] at O ⊢
     refine node_call O (by omega) fun lb' h4 O => ?_
     have hs' : Bdd.cubeL A.testBit B.testBit (24 - n) = Bdd.node (Bdd.cubeL A.testBit B.testBit (24 - (n + 1))).1 n (Bdd.cubeL A.testBit B.testBit (24 - (n + 1))).2 0 := by rw [hs, Bdd.cubeS, if_neg hA, if_pos hB]
     rw [← hs'] at O
     with_reducible refine wM_i (Xp ?_)
     simp only [sS, Nat.reduceEqDiff, ↓reduceIte, e7] at O ⊢
     cases n with
     | zero =>
      refine q_sub1 ?_
      with_reducible refine wM_i (Xp ?_)
      simp only [sS] at O ⊢
      refine hR 0 _ _ (by omega) ⟨by omega, lb', ⟨?_, ?_, ?_, ?_, ?_, ?_⟩, O⟩
      iterate 6 (simp only [Tm.get_put, Nat.reduceEqDiff, ↓reduceIte, e0, e1, e4, e5, hs'])
     | succ n =>
      refine q_subN (by omega) (by simp only [Xo]; omega) ?_
      with_reducible refine wM_i (Xp ?_)
      refine hR (n + 1) _ _ (by omega) ⟨by omega, lb', ⟨?_, ?_, ?_, ?_, ?_, ?_⟩, O⟩
      iterate 6 (simp only [Tm.get_put, Nat.reduceEqDiff, ↓reduceIte, e0, e1, e4, e5, hs'] <;> rfl)
    ·rw [decide_eq_false hB]
     have hs' : Bdd.cubeL A.testBit B.testBit (24 - n) = Bdd.cubeL A.testBit B.testBit (24 - (n + 1)) := by rw [hs, Bdd.cubeS, if_neg hA, if_neg hB]
     rw [← hs'] at O
     with_reducible refine Xx (Xy ?_)
     simp only [sS] at O ⊢
     with_reducible refine Xp ?_
     simp only [e7] at O ⊢
     cases n with
     | zero =>
      refine q_sub1 ?_
      with_reducible refine wM_i (Xp ?_)
      refine hR 0 _ _ (by omega) ⟨by omega, lb, ⟨?_, ?_, ?_, ?_, ?_, ?_⟩, O⟩
      iterate 6 (simp only [Tm.get_put, Nat.reduceEqDiff, ↓reduceIte, e0, e1, e4, e5, e6, hs'])
     | succ n =>
      refine q_subN (by omega) (by simp only [Xo]; omega) ?_
      with_reducible refine wM_i (Xp ?_)
      refine hR (n + 1) _ _ (by omega) ⟨by omega, lb, ⟨?_, ?_, ?_, ?_, ?_, ?_⟩, O⟩
      iterate 6 (simp only [Tm.get_put, Nat.reduceEqDiff, ↓reduceIte, e0, e1, e4, e5, e6, hs'] <;> rfl)
 ·rw [decide_eq_false h0]
  simp only [Bool.not_false]
  with_reducible refine XC ?_
  refine q_build rfl ?_
  (refine XO 0 O rfl rfl rfl (by first | rfl | (simp only [AV.cells, List.all_cons, List.all_nil, XT, Bool.true_and, Bool.and_true] <;> rfl) | (simp only [AV.cells, List.all_cons, List.all_nil, Bool.true_and, Bool.and_true, *] <;> rfl)) fun _ O => ?_; simp only [List.set_cons_zero, AV.cells] at O)
  with_reducible refine mThen_r (mFin_c ?_)
  refine cellQ_i 0 O rfl rfl ?_
  refine hQ _ _ _ ([], 0) O.done (isD_false g) ?_
  have : cuS (on, off) = fun _ => false := by
   funext c
   rw [Bool.eq_false_iff]
   intro hc
   rw [Bdd.cuS_iff] at hc
   apply h0
   apply Nat.eq_of_testBit_eq
   intro j
   have hj := Bdd.all_bit j
   unfold Bdd.allF at hj
   simp only [Nat.testBit_and, Nat.zero_testBit, hj]
   by_cases h24 : j < 24
   ·obtain ⟨c1, c2⟩ := hc j h24
    dsimp only at c1 c2
    cases hx : on.testBit j with
    | false => simp
    | true => cases hy : off.testBit j with
     | false => simp
     | true => have := c1 hx; rw [c2 hy] at this; cases this
   ·simp [h24]
  rw [this]
  exact Bdd.dg_false
end Go.AM
