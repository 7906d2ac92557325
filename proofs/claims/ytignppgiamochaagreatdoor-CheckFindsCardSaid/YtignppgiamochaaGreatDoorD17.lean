/- Are facts the reference's? The fewest features of a list. -/
import Derived.Test.YtignppgiamochaaGreatDoorD16
import Derived.Test.YtignppgiamochaaGreatDoorD14
set_option linter.unusedVariables false
set_option linter.unusedSimpArgs false
namespace Go.AM
open Go
variable {g : G} {h : Heap} {Q : MK}
open Bdd (cfgs XQ XV inB inCu bitsN bitsF setS cuS Cu allF)
theorem equal_call {av bv : AV} {fas : List Fc} {bs : List Kf} {u : Nat} (f : Fz g h) (ha : IsFcs g av fas) (hb : IsKfs g bv bs) (ho : ∀ x ∈ fas, Only u x.S) (hal : fas.length < 4611686018427387904) (hbl : ∀ x ∈ bs, x.ns.length < 4611686018427387904) (hu : u < 4294967296) (hc : XV u 32 ≤ 10)
  (hQ : ∀ g' h' b, Step g h g' h' → (b = true ↔ EqL u fas bs) → Q (.bool b) h') : Cl f_law_equal [av, bv, uV u] h Q := by
 obtain ⟨hA, hAs⟩ := ha
 obtain ⟨hB, hBs⟩ := hb
 have O := W.start f
 refine Yf ok_law_equal (by simp) ?_
 unfold m_law_equal
 with_reducible refine wM_i (Xt ?_)
 simp only [sS, XS, Nat.reduceAdd, Nat.reduceEqDiff, ↓reduceIte] at O ⊢
 refine q_lenS hA ?_
 skip
 refine q_lenS hB ?_
 skip
 refine q_neN ?_
 by_cases hl : fas.length = bs.length
 ·rw [decide_eq_true hl]
  simp only [sS] at O ⊢
  with_reducible refine Xx (Xy (Xp (Xt (wM_i (XD ?_)))))
  refine XL (fun m t h' => ∃ i gi, m + i = fas.length ∧ (t.get 0 = av ∧ t.get 1 = bv ∧ t.get 2 = uV u ∧ t.get 7 = iV i) ∧ Gle g gi ∧ (∀ (j : Nat) a b, j < i → fas[j]? = some a → bs[j]? = some b → Mt u a b) ∧ W g h gi h' []) fas.length ⟨0, g, rfl, ⟨?_, ?_, ?_, ?_⟩, .refl g, (fun j a b hj => by omega), O⟩ ?_
  iterate 4 (simp only [Tm.get_put, Nat.reduceEqDiff, ↓reduceIte])
  rintro m t h1 ⟨i, gi, hm, ⟨e0, e1, e2, e7⟩, hle, hpre, O⟩ R hR
  have hA' := hA.mono hle
  have hB' := hB.mono hle
  with_reducible refine Xt ?_
  simp only [e0, e7] at O ⊢
  refine q_lenS hA' ?_
  skip
  refine q_lssN ?_
  by_cases hi : i < fas.length
  ·rw [decide_eq_true hi]
   obtain ⟨a, hxa⟩ : ∃ x, fas[i]? = some x := ⟨_, List.getElem?_eq_getElem hi⟩
   obtain ⟨b, hxb⟩ : ∃ x, bs[i]? = some x := ⟨_, List.getElem?_eq_getElem (by omega)⟩
   have no : ¬ Mt u a b → ∀ (h' : Heap) (gj : G), W g h gj h' [] → Q (.bool false) h' := fun hne h' gj O' => hQ _ _ false O'.done ⟨(fun e => by cases e), fun e => absurd (e.2 i a b hxa hxb) hne⟩
   with_reducible refine XC (Xy (Xp (Xt (XD ?_))))
   simp only [e0, e1, e2, e7] at O ⊢
   refine q_ixS hA' fcC_len hxa fun p1 o1 he1 => ?_
   with_reducible refine q_fa ?_
   refine XK O (by assumption) (by first | exact Xd rfl | rfl) (Nat.le_of_ble_eq_true rfl) ?_
   refine q_ixS hB' kfC_len hxb fun p2 o2 he2 => ?_
   with_reducible refine q_fa ?_
   refine XK O (by assumption) (by first | exact Xd rfl | rfl) (Nat.le_of_ble_eq_true rfl) ?_
   refine q_neI ?_
   by_cases c1 : a.k = b.k
   ·rw [decide_eq_true c1]
    simp only [sS] at O ⊢
    with_reducible refine XB (XB (XB ?_))
    refine q_ixS hA' fcC_len hxa fun p3 o3 he3 => ?_
    with_reducible refine XB (q_fa (XB ?_))
    refine XK O (by assumption) (by first | exact Xd rfl | rfl) (Nat.le_of_ble_eq_true rfl) ?_
    with_reducible refine XB (XB (XB ?_))
    refine q_ixS hB' kfC_len hxb fun p4 o4 he4 => ?_
    with_reducible refine XB (q_fa (XB ?_))
    refine XK O (by assumption) (by first | exact Xd rfl | rfl) (Nat.le_of_ble_eq_true rfl) ?_
    with_reducible refine XB ?_
    refine q_neI ?_
    by_cases c2 : a.tok = b.tok
    ·rw [decide_eq_true c2]
     with_reducible refine Ya ?_
     simp only [sS] at O ⊢
     with_reducible refine XB (XB (XB ?_))
     refine q_ixS hA' fcC_len hxa fun p5 o5 he5 => ?_
     with_reducible refine XB (q_fa (XB ?_))
     refine XK O (by assumption) (by first | exact Xd rfl | rfl) (Nat.le_of_ble_eq_true rfl) ?_
     with_reducible refine XB (XB (XB ?_))
     refine q_ixS hB' kfC_len hxb fun p6 o6 he6 => ?_
     with_reducible refine XB (q_fa (XB ?_))
     refine XK O (by assumption) (by first | exact Xd rfl | rfl) (Nat.le_of_ble_eq_true rfl) ?_
     with_reducible refine XB ?_
     refine q_neI ?_
     by_cases c3 : a.oth = b.oth
     ·rw [decide_eq_true c3]
      with_reducible refine Ya ?_
      simp only [sS] at O ⊢
      with_reducible refine XB (XB (XB ?_))
      refine q_ixS hA' fcC_len hxa fun p7 o7 he7 => ?_
      with_reducible refine XB (q_fa (XB ?_))
      refine XK O (by assumption) (by first | exact Xd rfl | rfl) (Nat.le_of_ble_eq_true rfl) ?_
      with_reducible refine XB (XB (XB ?_))
      refine q_ixS hB' kfC_len hxb fun p8 o8 he8 => ?_
      with_reducible refine XB (q_fa (XB ?_))
      refine XK O (by assumption) (by first | exact Xd rfl | rfl) (Nat.le_of_ble_eq_true rfl) ?_
      with_reducible refine XB (XB ?_)
      have am := List.mem_of_getElem? hxa
      have bm := List.mem_of_getElem? hxb
      refine alike_call O.fz ((hAs a am).mono hle) ((hBs b bm).mono hle) (hbl b bm) (ho a am) hu hc fun g2 h2 ok S2 hok => ?_
      have O := O.call S2
      cases ok with
      | true =>
       with_reducible refine XB (q_nt (Ya (Xx (Xy (mThen_on ?_)))))
       simp only [e7] at O ⊢
       with_reducible refine Ye (by simp only [Xo]; omega) ?_
       with_reducible refine wM_i (Xp ?_)
       have hmt : Mt u a b := ⟨c1.symm, c2.symm, c3.symm, hok.1 rfl, ho a am⟩
       refine hR (m - 1) _ _ (by omega) ⟨i + 1, g2, by omega, ⟨?_, ?_, ?_, ?_⟩, hle.trans S2.le, (fun j x y hj hx hy => ?_), O⟩
       iterate 4 (simp only [Tm.get_put, Nat.reduceEqDiff, ↓reduceIte, e0, e1, e2])
       by_cases hji : j < i
       ·exact hpre j x y hji hx hy
       ·have : j = i := by omega
        subst this
        rw [hxa] at hx
        rw [hxb] at hy
        cases hx
        cases hy
        exact hmt
      | false =>
       with_reducible refine XB (q_nf (Ya (XC (wM_i (mThen_or (mThen_r (mThen_or (XZ ?_))))))))
       simp only [sS, ↓reduceIte] at O ⊢
       exact no (fun mt => by have := hok.2 mt.ns; cases this) _ _ O
     ·rw [decide_eq_false c3]
      with_reducible refine Ya ?_
      simp only [sS] at O ⊢
      with_reducible refine XI (XI (XI (XI (XI (XI (XI (XI (XI (XI (XI (XI (XI (XX (XC (wM_i (mThen_or (mThen_r (mThen_or (XZ ?_)))))))))))))))))))
      simp only [sS, ↓reduceIte] at O ⊢
      exact no (fun mt => c3 mt.oth.symm) _ _ O
    ·rw [decide_eq_false c2]
     with_reducible refine Ya ?_
     simp only [sS] at O ⊢
     with_reducible refine XI (XI (XI (XI (XI (XI (XI (XI (XI (XI (XI (XX (XI (XI (XI (XI (XI (XI (XI (XI (XI (XI (XI (XI (XI (XX (XC (wM_i (mThen_or (mThen_r (mThen_or (XZ ?_)))))))))))))))))))))))))))))))
     simp only [sS, ↓reduceIte] at O ⊢
     exact no (fun mt => c2 mt.tok.symm) _ _ O
   ·rw [decide_eq_false c1]
    simp only [sS] at O ⊢
    with_reducible refine XI (XI (XI (XI (XI (XI (XI (XI (XI (XI (XI (XX (XI (XI (XI (XI (XI (XI (XI (XI (XI (XI (XI (XX (XI (XI (XI (XI (XI (XI (XI (XI (XI (XI (XI (XI (XI (XX (XC (wM_i (mThen_or (mThen_r (mThen_or (XZ ?_)))))))))))))))))))))))))))))))))))))))))))
    simp only [sS, ↓reduceIte] at O ⊢
    exact no (fun mt => c1 mt.k.symm) _ _ O
  ·rw [decide_eq_false hi]
   with_reducible refine Xx (mExit_i (XF (XF (mThen_oe (wM_i (XZ ?_))))))
   simp only [sS, ↓reduceIte] at O ⊢
   exact hQ _ _ true O.done ⟨fun _ => ⟨hl, fun j a b hx hy => hpre j a b (by have := (List.getElem?_eq_some_iff.1 hx).1; omega) hx hy⟩, fun _ => rfl⟩
 ·rw [decide_eq_false hl]
  simp only [sS] at O ⊢
  with_reducible refine XC (wM_i (mThen_r (XZ ?_)))
  simp only [sS, ↓reduceIte] at O ⊢
  exact hQ _ _ false O.done ⟨(fun e => by cases e), fun e => absurd e.1 hl⟩
def smlN : List Nat → Nat × Nat → Nat × Nat
 | [], s => s
 | x :: r, s => smlN r (if XV x 32 < s.2 then (x, XV x 32) else s)
theorem smallest_call {v : AV} {l : List Nat} (f : Fz g h) (hs : IsSl g nuC 1 v l) (hl : l.length < 4611686018427387904) (hr : ∀ x ∈ l, x < 4294967296) (hQ : ∀ h', Step g h g h' → Q (uV (smlN l (0, 33)).1) h') : Cl f_law_smallest [v] h Q := by
 have O := W.start f
 refine Yf ok_law_smallest (by simp) ?_
 unfold m_law_smallest
 with_reducible refine wM_i (wM_i (wM_i (Xt (wM_i (XD ?_)))))
 simp only [XS] at O ⊢
 refine XL (fun m t h' => ∃ i s, m + i = l.length ∧ (t.get 0 = v ∧ t.get 3 = uV s.1 ∧ t.get 4 = iV s.2 ∧ t.get 5 = iV i) ∧ smlN (l.drop i) s = smlN l (0, 33) ∧ W g h g h' []) l.length ⟨0, (0, 33), rfl, ⟨?_, ?_, ?_, ?_⟩, rfl, O⟩ ?_
 iterate 4 (simp only [Tm.get_put, Nat.reduceEqDiff, ↓reduceIte])
 rintro m t h1 ⟨i, s, hm, ⟨e0, e3, e4, e5⟩, hf, O⟩ R hR
 with_reducible refine Xt ?_
 simp only [e0, e5] at O ⊢
 refine q_lenS hs ?_
 skip
 refine q_lssN ?_
 by_cases hi : i < l.length
 ·rw [decide_eq_true hi]
  obtain ⟨x, hx⟩ : ∃ x, l[i]? = some x := ⟨_, List.getElem?_eq_getElem hi⟩
  have hix : l[i] = x := by rw [List.getElem?_eq_getElem hi] at hx; exact Option.some.inj hx
  have hx32 := hr x (List.mem_of_getElem? hx)
  have hd : smlN (l.drop i) s = smlN (l.drop (i + 1)) (if XV x 32 < s.2 then (x, XV x 32) else s) := by rw [List.drop_eq_getElem_cons hi, hix]; rfl
  with_reducible refine XC (Xy (Xp (Xt (XD (wM_i (Xt (wM_i (XD ?_))))))))
  simp only [sS] at O ⊢
  refine XL (fun m t h' => ∃ j, m + j = 32 ∧ (t.get 0 = v ∧ t.get 3 = uV s.1 ∧ t.get 4 = iV s.2 ∧ t.get 5 = iV i ∧ t.get 6 = iV (XV x j) ∧ t.get 7 = iV j) ∧ W g h g h' []) 32 ⟨0, rfl, ⟨?_, ?_, ?_, ?_, ?_, ?_⟩, O⟩ ?_
  iterate 6 (simp only [Tm.get_put, Nat.reduceEqDiff, ↓reduceIte, e0, e3, e4, e5] <;> rfl)
  rintro m2 t h2 ⟨j, hm2, ⟨e0, e3, e4, e5, e6, e7⟩, O⟩ R2 hR2
  have hcl := Bdd.cntTo_le x j
  with_reducible refine Xt ?_
  simp only [e7] at O ⊢
  refine q_lssN ?_
  by_cases hj : j < 32
  ·rw [decide_eq_true hj]
   have hb : (x >>> j) &&& 1 = if x.testBit j then 1 else 0 := by
    have h1 := bit_eq x j
    have h2 : (x >>> j) &&& 1 ≤ 1 := Nat.and_le_right
    by_cases hb : x.testBit j = true
    ·rw [if_pos hb]; exact h1.mpr hb
    ·rw [if_neg hb]
     have : ¬ ((x >>> j) &&& 1 = 1) := fun e => hb (h1.mp e)
     omega
   have hle : (x >>> j) &&& 1 ≤ 1 := Nat.and_le_right
   with_reducible refine XC (Xy (Xp (Xt (XD ?_))))
   simp only [sS, e0, e5, e6, e7] at O ⊢
   refine q_ixS hs nuC_len hx fun b o he => ?_
   refine w_loadEl0 O (by assumption) (by first | exact Xd rfl | rfl) (Nat.le_of_ble_eq_true rfl) ?_
   with_reducible refine q_shrU (by omega) ?_
   refine q_andN (by simp only [Xo]; exact Nat.le_trans (Nat.shiftRight_le _ _) (by omega)) (by decide) ?_
   with_reducible refine q_toInt (by simp only [Xo]; omega) ?_
   with_reducible refine Ye (by simp only [Xo]; omega) ?_
   with_reducible refine wM_i (Xp ?_)
   simp only [sS, Nat.reduceEqDiff, ↓reduceIte, e7] at O ⊢
   with_reducible refine Ye (by simp only [Xo]; omega) ?_
   with_reducible refine wM_i (Xp ?_)
   refine hR2 (m2 - 1) _ _ (by omega) ⟨j + 1, by omega, ⟨?_, ?_, ?_, ?_, ?_, ?_⟩, O⟩
   iterate 6 (simp only [Tm.get_put, Nat.reduceEqDiff, ↓reduceIte, e0, e3, e4, e5, XV, hb])
  ·rw [decide_eq_false hj]
   have : j = 32 := by omega
   subst this
   with_reducible refine Xx (mExit_i (XF (XF (mThen_oe ?_))))
   simp only [e4, e6] at O ⊢
   refine q_lssN ?_
   by_cases hlt : XV x 32 < s.2
   ·rw [decide_eq_true hlt]
    rw [if_pos hlt] at hd
    with_reducible refine XC ?_
    simp only [sS, e0, e5, e6] at O ⊢
    refine q_ixS hs nuC_len hx fun b o he => ?_
    refine w_loadEl0 O (by assumption) (by first | exact Xd rfl | rfl) (Nat.le_of_ble_eq_true rfl) ?_
    with_reducible refine wM_i (wM_i (Xp ?_))
    simp only [sS, Nat.reduceEqDiff, ↓reduceIte, e5] at O ⊢
    with_reducible refine Ye (by simp only [Xo]; omega) ?_
    with_reducible refine wM_i (Xp ?_)
    refine hR (m - 1) _ _ (by omega) ⟨i + 1, (x, XV x 32), by omega, ⟨?_, ?_, ?_, ?_⟩, hd.symm.trans hf, O⟩
    iterate 4 (simp only [Tm.get_put, Nat.reduceEqDiff, ↓reduceIte, e0])
   ·rw [decide_eq_false hlt]
    rw [if_neg hlt] at hd
    with_reducible refine Xx (Xy (mThen_on ?_))
    simp only [e5] at O ⊢
    with_reducible refine Ye (by simp only [Xo]; omega) ?_
    with_reducible refine wM_i (Xp ?_)
    refine hR (m - 1) _ _ (by omega) ⟨i + 1, s, by omega, ⟨?_, ?_, ?_, ?_⟩, hd.symm.trans hf, O⟩
    iterate 4 (simp only [Tm.get_put, Nat.reduceEqDiff, ↓reduceIte, e0, e3, e4])
 ·rw [decide_eq_false hi]
  have hd : l.drop i = [] := List.drop_eq_nil_of_le (by omega)
  rw [hd] at hf
  have hf' : s = smlN l (0, 33) := hf
  with_reducible refine Xx (mExit_i (XF (XF (mThen_oe (wM_i (XZ ?_))))))
  simp only [sS, ↓reduceIte, e3] at O ⊢
  have := hQ _ O.done
  rw [← hf'] at this
  exact this
end Go.AM
