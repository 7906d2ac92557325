/- The law's small functions: numbers of configurations, cubes. -/
import Derived.Test.YtignppgiamochaaGreatDoorD7
import Derived.Test.YtignppgiamochaaGreatDoorB1
set_option linter.unusedVariables false
set_option linter.unusedSimpArgs false
namespace Go.AM
open Go
variable {g : G} {h : Heap} {Q : MK}
open Bdd (cfgs XQ XV inB inCu bitsN bitsF setS Cu allF)
def nuC (n : Nat) : List AV := [uV n]
def cuC (p : Cu) : List AV := [uV p.1, uV p.2]
theorem nuC_len (x : Nat) : (nuC x).length = 1 := rfl
theorem cuC_len (x : Cu) : (cuC x).length = 2 := rfl
def IsCus (g : G) (v : AV) (l : List Cu) : Prop := IsSl g cuC 2 v l ∧ (∀ p ∈ l, p.1 < 4294967296 ∧ p.2 < 4294967296) ∧ l.length < 4611686018427387904
theorem IsCus.mono {g g' : G} (l : Gle g g') {v : AV} {xs : List Cu} (h : IsCus g v xs) : IsCus g' v xs := ⟨h.1.mono l, h.2⟩
theorem bits_call {v : AV} {l : List Cu} (f : Fz g h) (hl : IsCus g v l) (hQ : ∀ h', Step g h g h' → Q (uV (bitsN l)) h') : Cl f_law_bits [v] h Q := by
 obtain ⟨hs, hr, hlen⟩ := hl
 have O := W.start f
 refine Yf ok_law_bits (by simp) ?_
 unfold m_law_bits
 with_reducible refine wM_i (wM_i (Xt (wM_i (XD ?_))))
 simp only [XS] at O ⊢
 refine XL (fun m t h' => ∃ i u, m + i = l.length ∧ (t.get 0 = v ∧ t.get 3 = uV u ∧ t.get 4 = iV i) ∧ u < 4294967296 ∧ (l.drop i).foldl (fun (u : Nat) (p : Cu) => u ||| p.1 ||| p.2) u = bitsF l ∧ W g h g h' []) l.length ⟨0, 0, rfl, ⟨?_, ?_, ?_⟩, by decide, rfl, O⟩ ?_
 iterate 3 (simp only [Tm.get_put, Nat.reduceEqDiff, ↓reduceIte])
 rintro m t h1 ⟨i, u, hm, ⟨e0, e3, e4⟩, hu, hf, O⟩ R hR
 with_reducible refine Xt ?_
 simp only [e0, e4] at O ⊢
 refine q_lenS hs ?_
 skip
 refine q_lssN ?_
 by_cases hi : i < l.length
 ·rw [decide_eq_true hi]
  obtain ⟨x, hx⟩ : ∃ x, l[i]? = some x := ⟨_, List.getElem?_eq_getElem hi⟩
  obtain ⟨x1, x2⟩ := hr x (List.mem_of_getElem? hx)
  with_reducible refine XC (Xy (Xp (Xt (XD ?_))))
  simp only [e0, e3, e4] at O ⊢
  refine q_ixS hs cuC_len hx fun b o he => ?_
  with_reducible refine q_fa ?_
  refine XK O (by assumption) (by first | exact Xd rfl | rfl) (Nat.le_of_ble_eq_true rfl) ?_
  with_reducible refine q_orN (by simp only [Xo]; omega) (by simp only [Xo]; omega) ?_
  refine q_ixS hs cuC_len hx fun b' o' he' => ?_
  have h32 : u ||| x.1 < 4294967296 := Nat.or_lt_two_pow (n := 32) hu x1
  with_reducible refine q_fa ?_
  refine XK O (by assumption) (by first | exact Xd rfl | rfl) (Nat.le_of_ble_eq_true rfl) ?_
  with_reducible refine q_orN (by simp only [Xo]; omega) (by simp only [Xo]; omega) ?_
  with_reducible refine wM_i (mThen_on ?_)
  simp only [sT, Nat.reduceEqDiff, ↓reduceIte, e4] at O ⊢
  with_reducible refine Ye (by simp only [Xo]; omega) ?_
  with_reducible refine wM_i (Xp ?_)
  refine hR (m - 1) _ _ (by omega) ⟨i + 1, u ||| x.1 ||| x.2, by omega, ⟨?_, ?_, ?_⟩, Nat.or_lt_two_pow (n := 32) h32 x2, ?_, O⟩
  iterate 3 (simp only [Tm.get_put, Nat.reduceEqDiff, ↓reduceIte, e0])
  rw [← hf, List.drop_eq_getElem_cons hi, List.foldl_cons]
  have : l[i] = x := by rw [List.getElem?_eq_getElem hi] at hx; exact Option.some.inj hx
  rw [this]
 ·rw [decide_eq_false hi]
  with_reducible refine Xx (mExit_i (XF (XF (mThen_oe ?_))))
  simp only [e3] at O ⊢
  with_reducible refine q_andN (by simp only [Xo]; omega) (by simp only [Xo]; omega) ?_
  with_reducible refine wM_i (XZ ?_)
  simp only [sT, ↓reduceIte] at O ⊢
  have hd : l.drop i = [] := List.drop_eq_nil_of_le (by omega)
  rw [hd] at hf
  have hf' : u = bitsF l := hf
  have := hQ _ O.done
  unfold bitsN at this
  rw [← hf'] at this
  exact this
theorem few_call {u most : Nat} (f : Fz g h) (hu : u < 4294967296) (hQ : ∀ h', Step g h g h' → Q (.bool (decide (XV u 32 ≤ most))) h') : Cl f_law_few [uV u, iV most] h Q := by
 have O := W.start f
 refine Yf ok_law_few (by simp) ?_
 unfold m_law_few
 with_reducible refine wM_i (wM_i (Xt (wM_i (XD ?_))))
 simp only [sT, XS] at O ⊢
 refine XL (fun m t h' => ∃ i, m + i = 32 ∧ (t.get 0 = uV u ∧ t.get 1 = iV most ∧ t.get 5 = iV (XV u i) ∧ t.get 6 = iV i) ∧ W g h g h' []) 32 ⟨0, rfl, ⟨?_, ?_, ?_, ?_⟩, O⟩ ?_
 iterate 4 (simp only [Tm.get_put, Nat.reduceEqDiff, ↓reduceIte] <;> rfl)
 rintro m t h1 ⟨i, hm, ⟨e0, e1, e5, e6⟩, O⟩ R hR
 have hc := Bdd.cntTo_le u i
 with_reducible refine Xt ?_
 simp only [e6] at O ⊢
 refine q_lssN ?_
 by_cases hi : i < 32
 ·rw [decide_eq_true hi]
  have hb : (u >>> i) &&& 1 = if u.testBit i then 1 else 0 := by
   have h1 := bit_eq u i
   have h2 : (u >>> i) &&& 1 ≤ 1 := Nat.and_le_right
   by_cases hb : u.testBit i = true
   ·rw [if_pos hb]; exact h1.mpr hb
   ·rw [if_neg hb]
    have : ¬ ((u >>> i) &&& 1 = 1) := fun e => hb (h1.mp e)
    omega
  have hle : (u >>> i) &&& 1 ≤ 1 := Nat.and_le_right
  with_reducible refine XC (Xy (Xp (Xt (XD ?_))))
  simp only [e0, e5, e6] at O ⊢
  with_reducible refine q_shrU (by omega) ?_
  refine q_andN (by simp only [Xo]; exact Nat.le_trans (Nat.shiftRight_le _ _) (by omega)) (by decide) ?_
  with_reducible refine q_toInt (by simp only [Xo]; omega) ?_
  with_reducible refine Ye (by simp only [Xo]; omega) ?_
  with_reducible refine wM_i (mThen_on ?_)
  simp only [sT, Nat.reduceEqDiff, ↓reduceIte, e6] at O ⊢
  with_reducible refine Ye (by simp only [Xo]; omega) ?_
  with_reducible refine wM_i (Xp ?_)
  refine hR (m - 1) _ _ (by omega) ⟨i + 1, by omega, ⟨?_, ?_, ?_, ?_⟩, O⟩
  iterate 4 (simp only [Tm.get_put, Nat.reduceEqDiff, ↓reduceIte, e0, e1, XV, hb])
 ·rw [decide_eq_false hi]
  have : i = 32 := by omega
  subst this
  with_reducible refine Xx (mExit_i (XF (XF (mThen_oe ?_))))
  simp only [e1, e5] at O ⊢
  refine q_leqN ?_
  with_reducible refine wM_i (XZ ?_)
  simp only [sT, ↓reduceIte] at O ⊢
  exact hQ _ O.done
end Go.AM
