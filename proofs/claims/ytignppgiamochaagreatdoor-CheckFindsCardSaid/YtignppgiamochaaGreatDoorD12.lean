/- Is a set just these configurations? -/
import Derived.Test.YtignppgiamochaaGreatDoorD11
set_option linter.unusedVariables false
set_option linter.unusedSimpArgs false
namespace Go.AM
open Go
variable {g : G} {h : Heap} {Q : MK}
open Bdd (cfgs XQ XV inB inCu bitsN bitsF setS cuS Cu allF)
def cfgsOf (u : Nat) (S : Bdd.Cfg → Bool) : List Nat := (XQ u).filter fun n => S (cfgN n)
theorem thoseN_eq (l : List Cu) (u : Nat) : thoseN l u = cfgsOf u (setS l) := by
 unfold thoseN cfgsOf
 congr 1
 funext n
 exact (Bdd.setS_in l n).symm
theorem alike_call {dv lv : AV} {S : Bdd.Cfg → Bool} {l : List Nat} {u : Nat} (f : Fz g h) (ha : IsS g dv S) (hl : IsSl g nuC 1 lv l) (hll : l.length < 4611686018427387904) (ho : Only u S) (hu : u < 4294967296) (hc : XV u 32 ≤ 10)
  (hQ : ∀ g' h' b, Step g h g' h' → (b = true ↔ l = cfgsOf u S) → Q (.bool b) h') : Cl f_law_alike [dv, lv, uV u] h Q := by
 obtain ⟨d, ha, da⟩ := ha
 have ha' := ha
 obtain ⟨hl1, la, rfl, hA⟩ := ha
 have O := W.start f
 refine Yf ok_law_alike (by simp) ?_
 unfold m_law_alike
 simp only [sS, XS, Nat.reduceAdd, Nat.reduceEqDiff, ↓reduceIte] at O ⊢
 refine w_box O fun bd _ O => ?_
 with_reducible refine wM_i (wM_i ?_)
 simp only [sS, AV.cells, Nat.reduceAdd, Nat.reduceEqDiff, ↓reduceIte] at O ⊢
 refine Configs_call O.fz hu (by omega) fun g1 h1 cv S1 hC => ?_
 have O := O.call S1
 have hlen : (XQ u).length ≤ 65536 := by unfold XQ; rw [Bdd.cfgs_len]; exact Nat.pow_le_pow_right (by decide : 0 < 2) (show XV u 32 ≤ 16 by omega)
 have hlt : ∀ x ∈ XQ u, x < 4294967296 := fun x hx => Bdd.cfgs_lt u 32 x hx
 with_reducible refine wM_i (wM_i (Xt (wM_i (XD ?_))))
 refine XL (fun m t h' => ∃ i k, m + i = (XQ u).length ∧ (t.get 1 = lv ∧ t.get 2 = uV u ∧ t.get 3 = .ptr bd 0 ∧ t.get 7 = cv ∧ t.get 8 = iV k ∧ t.get 9 = iV i) ∧ k ≤ l.length ∧ l.take k = ((XQ u).take i).filter (fun n => S (cfgN n)) ∧
  W g h g1 h' [(bd, some (.cells false false 45 2 [la, iV d.2]))]) (XQ u).length ⟨0, 0, rfl, ⟨?_, ?_, ?_, ?_, ?_, ?_⟩, Nat.zero_le _, by simp, O⟩ ?_
 iterate 6 (simp only [Tm.get_put, Nat.reduceEqDiff, ↓reduceIte])
 rintro m t h1 ⟨i, k, hm, ⟨e1, e2, e3, e7, e8, e9⟩, hk, hf, O⟩ R hR
 have hl' := hl.mono S1.le
 have hfull : cfgsOf u S = ((XQ u).take i).filter (fun n => S (cfgN n)) ++ ((XQ u).drop i).filter (fun n => S (cfgN n)) := by
  unfold cfgsOf
  rw [← List.filter_append, List.take_append_drop]
 have hsplit : l = cfgsOf u S ↔ l.drop k = ((XQ u).drop i).filter (fun n => S (cfgN n)) := by
  rw [hfull, ← hf]
  constructor
  ·intro e
   exact List.append_cancel_left ((List.take_append_drop k l).trans e)
  ·intro e
   rw [← e, List.take_append_drop]
 with_reducible refine Xt ?_
 simp only [e7, e9] at O ⊢
 refine q_lenS hC ?_
 skip
 refine q_lssN ?_
 by_cases hi : i < (XQ u).length
 ·rw [decide_eq_true hi]
  obtain ⟨x, hx⟩ : ∃ x, (XQ u)[i]? = some x := ⟨_, List.getElem?_eq_getElem hi⟩
  have hix : (XQ u)[i] = x := by rw [List.getElem?_eq_getElem hi] at hx; exact Option.some.inj hx
  have hxl := hlt x (List.mem_of_getElem? hx)
  have hdx : ((XQ u).drop i).filter (fun n => S (cfgN n)) = (if S (cfgN x) = true then [x] else []) ++ ((XQ u).drop (i + 1)).filter (fun n => S (cfgN n)) := by
   rw [List.drop_eq_getElem_cons hi, hix]
   by_cases e : S (cfgN x) = true
   ·rw [if_pos e, List.filter_cons_of_pos (p := fun n => S (cfgN n)) e]; rfl
   ·rw [if_neg e, List.filter_cons_of_neg (p := fun n => S (cfgN n)) e]; rfl
  have htx : ((XQ u).take (i + 1)).filter (fun n => S (cfgN n)) = ((XQ u).take i).filter (fun n => S (cfgN n)) ++ (if S (cfgN x) = true then [x] else []) := by
   rw [List.take_succ_eq_append_getElem hi, hix, List.filter_append]
   congr 1
   by_cases e : S (cfgN x) = true
   ·rw [if_pos e, List.filter_cons_of_pos (p := fun n => S (cfgN n)) e]; rfl
   ·rw [if_neg e, List.filter_cons_of_neg (p := fun n => S (cfgN n)) e]; rfl
  with_reducible refine XC (Xy (Xp (Xt (XD ?_))))
  simp only [e1, e7, e8, e9] at O ⊢
  refine q_lenS hl' ?_
  skip
  refine q_lssN ?_
  have fin : ∀ (is : Bool), (is = true ↔ l[k]? = some x) → (S (cfgN x) = is → k + (if is then 1 else 0) ≤ l.length ∧ l.take (k + (if is then 1 else 0)) = ((XQ u).take (i + 1)).filter (fun n => S (cfgN n))) ∧ (S (cfgN x) ≠ is → l ≠ cfgsOf u S) := by
   intro is his
   constructor
   ·intro hS
    rw [htx, hS]
    cases is with
    | false => simp only [Bool.false_eq_true, if_false, Nat.add_zero, List.append_nil]; exact ⟨hk, hf⟩
    | true =>
     have hkx := his.1 rfl
     have hkl := (List.getElem?_eq_some_iff.1 hkx).1
     have hkg : l[k] = x := by rw [List.getElem?_eq_getElem hkl] at hkx; exact Option.some.inj hkx
     simp only [if_true]
     refine ⟨by omega, ?_⟩
     rw [List.take_succ_eq_append_getElem hkl, hf, hkg]
   ·intro hS he
    have hd := hsplit.1 he
    rw [hdx] at hd
    cases is with
    | false =>
     have hS' : S (cfgN x) = true := by simpa using hS
     rw [if_pos hS'] at hd
     have : l[k]? = some x := by
      have h0 : (l.drop k)[0]? = some x := by rw [hd]; rfl
      rw [List.getElem?_drop] at h0
      exact h0
     exact absurd (his.2 this) (by decide)
    | true =>
     have hS' : ¬ S (cfgN x) = true := hS
     rw [if_neg hS', List.nil_append] at hd
     have hkx := his.1 rfl
     have h0 : (l.drop k)[0]? = some x := by rw [List.getElem?_drop]; exact hkx
     rw [hd] at h0
     have hmem := List.mem_of_getElem? h0
     exact hS' (List.mem_filter.1 hmem).2
  by_cases hkl : k < l.length
  ·rw [decide_eq_true hkl]
   obtain ⟨y, hy⟩ : ∃ y, l[k]? = some y := ⟨_, List.getElem?_eq_getElem hkl⟩
   with_reducible refine Yg (Yg (Yg ?_))
   refine q_ixS hl' nuC_len hy fun b1 o1 he => ?_
   with_reducible refine Yg ?_
   refine w_loadEl0 O (by assumption) (by first | exact Xd rfl | rfl) (Nat.le_of_ble_eq_true rfl) ?_
   with_reducible refine Yg (Yg (Yg ?_))
   refine q_ixS hC nuC_len hx fun b2 o2 he2 => ?_
   with_reducible refine Yg ?_
   refine w_loadEl0 O (by assumption) (by first | exact Xd rfl | rfl) (Nat.le_of_ble_eq_true rfl) ?_
   with_reducible refine Yg ?_
   refine q_eqN ?_
   by_cases hyx : y = x
   ·rw [decide_eq_true hyx]
    obtain ⟨F1, F2⟩ := fin true (by rw [hy, hyx]; simp)
    with_reducible refine XX (wM_i (Xt ?_))
    simp only [sS, ↓reduceIte] at O ⊢
    with_reducible refine XC ?_
    simp only [sS, Nat.reduceEqDiff, ↓reduceIte, e8] at O ⊢
    with_reducible refine Ye (by simp only [Xo]; omega) ?_
    with_reducible refine wM_i (Xp ?_)
    simp only [sS, Nat.reduceEqDiff, ↓reduceIte, e3, e7, e9] at O ⊢
    refine Xv 0 O rfl (by first | exact Xd rfl | rfl) ?_
    refine q_ixS hC nuC_len hx fun b3 o3 he3 => ?_
    refine w_loadEl0 O (by assumption) (by first | exact Xd rfl | rfl) (Nat.le_of_ble_eq_true rfl) ?_
    refine Has_call (d := d) O.fz ⟨hl1, la, rfl, hA.mono S1.le⟩ da hxl fun h4 S4 => ?_
    have O := O.call S4
    by_cases hS : S (cfgN x) = true
    ·rw [hS]
     refine q_neB ?_
     simp only [sS] at O ⊢
     with_reducible refine Xx (Xy (mThen_on ?_))
     simp only [sS, Nat.reduceEqDiff, ↓reduceIte, e9] at O ⊢
     with_reducible refine Ye (by simp only [Xo]; omega) ?_
     with_reducible refine wM_i (Xp ?_)
     obtain ⟨G1, G2⟩ := F1 hS
     refine hR (m - 1) _ _ (by omega) ⟨i + 1, k + 1, by omega, ⟨?_, ?_, ?_, ?_, ?_, ?_⟩, G1, G2, O⟩
     iterate 6 (simp only [Tm.get_put, Nat.reduceEqDiff, ↓reduceIte, e1, e2, e3, e7])
    ·have hS' : S (cfgN x) = false := by simpa using hS
     rw [hS']
     refine q_neB ?_
     simp only [sS] at O ⊢
     with_reducible refine XC (wM_i (mThen_or (mThen_r (mThen_or (XZ ?_)))))
     simp only [sS, ↓reduceIte] at O ⊢
     have := hQ _ _ false O.done ⟨(fun e => by cases e), fun e => absurd e (F2 (by rw [hS']; decide))⟩
     exact this
   ·rw [decide_eq_false hyx]
    obtain ⟨F1, F2⟩ := fin false (by rw [hy]; simp [hyx])
    with_reducible refine XX (wM_i (Xt ?_))
    simp only [sS, ↓reduceIte] at O ⊢
    with_reducible refine Xx (Xy (Xp ?_))
    simp only [sS, Nat.reduceEqDiff, ↓reduceIte, e3, e7, e9] at O ⊢
    refine Xv 0 O rfl (by first | exact Xd rfl | rfl) ?_
    refine q_ixS hC nuC_len hx fun b3 o3 he3 => ?_
    refine w_loadEl0 O (by assumption) (by first | exact Xd rfl | rfl) (Nat.le_of_ble_eq_true rfl) ?_
    refine Has_call (d := d) O.fz ⟨hl1, la, rfl, hA.mono S1.le⟩ da hxl fun h4 S4 => ?_
    have O := O.call S4
    by_cases hS : S (cfgN x) = true
    ·rw [hS]
     refine q_neB ?_
     simp only [sS] at O ⊢
     with_reducible refine XC (wM_i (mThen_or (mThen_r (mThen_or (XZ ?_)))))
     simp only [sS, ↓reduceIte] at O ⊢
     have := hQ _ _ false O.done ⟨(fun e => by cases e), fun e => absurd e (F2 (by rw [hS]; decide))⟩
     exact this
    ·have hS' : S (cfgN x) = false := by simpa using hS
     rw [hS']
     refine q_neB ?_
     simp only [sS] at O ⊢
     with_reducible refine Xx (Xy (mThen_on ?_))
     simp only [sS, Nat.reduceEqDiff, ↓reduceIte, e9] at O ⊢
     with_reducible refine Ye (by simp only [Xo]; omega) ?_
     with_reducible refine wM_i (Xp ?_)
     obtain ⟨G1, G2⟩ := F1 hS'
     refine hR (m - 1) _ _ (by omega) ⟨i + 1, k, by omega, ⟨?_, ?_, ?_, ?_, ?_, ?_⟩, G1, G2, O⟩
     iterate 6 (simp only [Tm.get_put, Nat.reduceEqDiff, ↓reduceIte, e1, e2, e3, e7, e8])
  ·rw [decide_eq_false hkl]
   have hno : l[k]? = none := List.getElem?_eq_none (by omega)
   obtain ⟨F1, F2⟩ := fin false (by rw [hno]; simp)
   with_reducible refine Yb (Yb (Yb (Yb (Yb (Yb (Yb (Yb (Yb (Ya (wM_i (Xt ?_)))))))))))
   simp only [sS, ↓reduceIte] at O ⊢
   with_reducible refine Xx (Xy (Xp ?_))
   simp only [sS, Nat.reduceEqDiff, ↓reduceIte, e3, e7, e9] at O ⊢
   refine Xv 0 O rfl (by first | exact Xd rfl | rfl) ?_
   refine q_ixS hC nuC_len hx fun b3 o3 he3 => ?_
   refine w_loadEl0 O (by assumption) (by first | exact Xd rfl | rfl) (Nat.le_of_ble_eq_true rfl) ?_
   refine Has_call (d := d) O.fz ⟨hl1, la, rfl, hA.mono S1.le⟩ da hxl fun h4 S4 => ?_
   have O := O.call S4
   by_cases hS : S (cfgN x) = true
   ·rw [hS]
    refine q_neB ?_
    simp only [sS] at O ⊢
    with_reducible refine XC (wM_i (mThen_or (mThen_r (mThen_or (XZ ?_)))))
    simp only [sS, ↓reduceIte] at O ⊢
    have := hQ _ _ false O.done ⟨(fun e => by cases e), fun e => absurd e (F2 (by rw [hS]; decide))⟩
    exact this
   ·have hS' : S (cfgN x) = false := by simpa using hS
    rw [hS']
    refine q_neB ?_
    simp only [sS] at O ⊢
    with_reducible refine Xx (Xy (mThen_on ?_))
    simp only [sS, Nat.reduceEqDiff, ↓reduceIte, e9] at O ⊢
    with_reducible refine Ye (by simp only [Xo]; omega) ?_
    with_reducible refine wM_i (Xp ?_)
    obtain ⟨G1, G2⟩ := F1 hS'
    refine hR (m - 1) _ _ (by omega) ⟨i + 1, k, by omega, ⟨?_, ?_, ?_, ?_, ?_, ?_⟩, G1, G2, O⟩
    iterate 6 (simp only [Tm.get_put, Nat.reduceEqDiff, ↓reduceIte, e1, e2, e3, e7, e8])
 ·rw [decide_eq_false hi]
  have hd0 : (XQ u).drop i = [] := List.drop_eq_nil_of_le (by omega)
  rw [hd0] at hsplit
  with_reducible refine Xx (mExit_i (XF (XF (mThen_oe ?_))))
  simp only [e1, e2, e3, e8] at O ⊢
  refine q_lenS hl' ?_
  skip
  refine q_eqN ?_
  by_cases hkl : k = l.length
  ·rw [decide_eq_true hkl]
   have he : l = cfgsOf u S := hsplit.2 (by rw [hkl, List.drop_length]; rfl)
   with_reducible refine Yg ?_
   refine Xv 0 O rfl (by first | exact Xd rfl | rfl) ?_
   with_reducible refine Yg ?_
   refine Support_call (d := d) O.fz ⟨hl1, la, rfl, hA.mono S1.le⟩ da fun h4 S4 => ?_
   have O := O.call S4
   have hsup : d.1.foldl (fun s x => s ||| 1 <<< x.v) 0 < 4294967296 := by
    apply Nat.lt_of_lt_of_le (m := 2 ^ 24) _ (by decide)
    apply Nat.lt_pow_two_of_testBit
    intro j hj
    rw [Bdd.supp_bit, Nat.zero_testBit, Bool.false_or, List.any_eq_false]
    intro x hx
    obtain ⟨j', hj'⟩ := List.getElem?_of_mem hx
    have := (da.wf.node _ _ hj').2.2.2.2.2
    simp only [decide_eq_true_eq]; omega
   have h0 := Bdd.dg_supp da ho
   with_reducible refine Yg (Yg ?_)
   refine q_andNotN (by simp only [Xo]; omega) (by simp only [Xo]; omega) ?_
   rw [h0]
   with_reducible refine Yg ?_
   refine q_eqN ?_
   rw [decide_eq_true rfl]
   with_reducible refine XX (wM_i (XZ ?_))
   simp only [sS, ↓reduceIte] at O ⊢
   exact hQ _ _ true O.done ⟨fun _ => he, fun _ => rfl⟩
  ·rw [decide_eq_false hkl]
   with_reducible refine Yb (Yb (Yb (Yb (Yb (Ya (wM_i (XZ ?_)))))))
   simp only [sS, ↓reduceIte] at O ⊢
   refine hQ _ _ false O.done ⟨(fun e => by cases e), fun e => ?_⟩
   have := congrArg List.length (hsplit.1 e)
   rw [List.length_drop] at this
   simp only [List.filter_nil, List.length_nil] at this
   omega
end Go.AM
