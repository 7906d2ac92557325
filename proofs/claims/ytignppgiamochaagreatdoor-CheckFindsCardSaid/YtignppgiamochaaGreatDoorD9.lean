/- The law's small functions: all configurations of some features; those that are in cubes. -/
import Derived.Test.YtignppgiamochaaGreatDoorD8
set_option linter.unusedVariables false
set_option linter.unusedSimpArgs false
namespace Go.AM
open Go
variable {g : G} {h : Heap} {Q : MK}
open Bdd (cfgs XQ XV inB inCu bitsN bitsF setS Cu allF)
theorem nu_flat (l : List Nat) : (flat nuC l).length = l.length * 1 := flat_len fun _ _ => rfl
theorem shl_lt {i : Nat} (hi : i < 32) : 1 <<< i < 4294967296 := by
 rw [Nat.shiftLeft_eq, Nat.one_mul]
 exact Nat.pow_lt_pow_right (by decide : 1 < 2) hi
theorem Configs_call {u : Nat} (f : Fz g h) (hu : u < 4294967296) (hc : XV u 32 ≤ 16) (hQ : ∀ g' h' v, Step g h g' h' → IsSl g' nuC 1 v (XQ u) → Q v h') : Cl f_R_Configs [uV u] h Q := by
 have O := W.start f
 refine Yf ok_R_Configs (by simp) ?_
 unfold m_R_Configs
 with_reducible refine wM_i ?_
 simp only [XS] at O ⊢
 refine Yd O (cs := [uV 0]) rfl rfl fun b0 _ O => ?_
 with_reducible refine wM_i (Xt (wM_i (XD ?_)))
 refine XL (fun m t h' => ∃ i b fl, m + i = 32 ∧ (t.get 0 = uV u ∧ t.get 3 = exV fl b (cfgs u i).length ∧ t.get 4 = iV i) ∧ W g h g h' [exE fl 24 1 b (flat nuC (cfgs u i)) (cfgs u i).length]) 32 ⟨0, b0, true, rfl, ⟨?_, ?_, ?_⟩, O⟩ ?_
 iterate 3 (simp only [Tm.get_put, Nat.reduceEqDiff, ↓reduceIte] <;> rfl)
 rintro m t h1 ⟨i, b, fl, hm, ⟨e0, e3, e4⟩, O⟩ R hR
 have hlen := Bdd.cfgs_len u i
 with_reducible refine Xt ?_
 simp only [e4] at O ⊢
 refine q_lssN ?_
 by_cases hi : i < 32
 ·rw [decide_eq_true hi]
  have hci : XV u i ≤ 16 := Nat.le_trans (Bdd.cntTo_mono u (by omega)) hc
  have hbnd : (cfgs u i).length ≤ 65536 := by rw [hlen]; exact Nat.pow_le_pow_right (by decide : 0 < 2) hci
  with_reducible refine XC (Xy (Xp (Xt (XD (Xt ?_)))))
  simp only [e0, e4] at O ⊢
  with_reducible refine q_shrU (by omega) ?_
  refine q_andN (by simp only [Xo]; exact Nat.le_trans (Nat.shiftRight_le _ _) (by omega)) (by decide) ?_
  refine q_eqN ?_
  by_cases hb : u.testBit i = true
  ·have h1 := (bit_eq u i).mpr hb
   rw [decide_eq_false (by rw [h1]; decide)]
   with_reducible refine Xx (Xy (Xp ?_))
   simp only [e3] at O ⊢
   refine q_lenX ?_
   with_reducible refine wM_i (wM_i (XD ?_))
   refine XL (fun m t h' => ∃ j b fl xs, m + j = (cfgs u i).length ∧ (t.get 0 = uV u ∧ t.get 3 = exV fl b xs.length ∧ t.get 4 = iV i ∧ t.get 5 = iV (cfgs u i).length ∧ t.get 6 = iV j) ∧ xs = cfgs u i ++ ((cfgs u i).take j).map (fun x => x ||| 1 <<< i) ∧ W g h g h' [exE fl 24 1 b (flat nuC xs) xs.length]) (cfgs u i).length ⟨0, b, fl, cfgs u i, rfl, ⟨?_, ?_, ?_, ?_, ?_⟩, by simp, O⟩ ?_
   iterate 5 (simp only [Tm.get_put, Nat.reduceEqDiff, ↓reduceIte, e0, e3, e4])
   rintro m2 t h2 ⟨j, b, fl, xs, hm2, ⟨e0, e3, e4, e5, e6⟩, hxs, O⟩ R2 hR2
   have hxl : xs.length = (cfgs u i).length + j := by rw [hxs, List.length_append, List.length_map, List.length_take]; omega
   with_reducible refine Xt ?_
   simp only [e5, e6] at O ⊢
   refine q_lssN ?_
   by_cases hj : j < (cfgs u i).length
   ·rw [decide_eq_true hj]
    obtain ⟨x, hx⟩ : ∃ x, (cfgs u i)[j]? = some x := ⟨_, List.getElem?_eq_getElem hj⟩
    have hxx : xs[j]? = some x := by rw [hxs, List.getElem?_append_left hj]; exact hx
    have hx32 : x < 4294967296 := Nat.lt_of_lt_of_le (Bdd.cfgs_lt u i x (List.mem_of_getElem? hx)) (Nat.pow_le_pow_right (by decide : 0 < 2) (by omega) : 2 ^ i ≤ 2 ^ 32)
    have hs32 := shl_lt hi
    with_reducible refine XC (Xy (Xp (Xt (XD ?_))))
    simp only [sS, e3, e4, e6] at O ⊢
    refine q_ixX (by omega) ?_
    skip
    refine w_loadX0 0 O rfl nuC_len hxx rfl (by decide) ?_
    skip
    refine q_shlU hi (by rw [← Nat.shiftLeft_eq]; exact hs32) ?_
    with_reducible refine q_orN (by simp only [Xo]; omega) (by simp only [Xo]; omega) ?_
    refine Yd O rfl rfl fun _ _ O => ?_
    simp only [sS] at O ⊢
    refine w_appendX 1 O rfl (src_own 0 O rfl rfl) (by decide) (nu_flat xs) (by decide) rfl (by omega) fun b' h3 O => ?_
    simp only [List.set_cons_zero, List.set_cons_succ] at O
    with_reducible refine wM_i ?_
    refine mStay_c (st_loadX 1 (by assumption) rfl nuC_len hxx rfl (by decide) (AV.beq_refl _) mStay1_n) (mStay_n ?_)
    with_reducible refine Xp ?_
    simp only [sS, Nat.reduceEqDiff, ↓reduceIte, e6] at O ⊢
    with_reducible refine Ye (by simp only [Xo]; omega) ?_
    with_reducible refine wM_i (Xp ?_)
    refine hR2 (m2 - 1) _ _ (by omega) ⟨j + 1, b', false, xs ++ [x ||| 1 <<< i], by omega, ⟨?_, ?_, ?_, ?_, ?_⟩, ?_, ?_⟩
    ·simp only [Tm.get_put, Nat.reduceEqDiff, ↓reduceIte, e0]
    ·simp only [Tm.get_put, Nat.reduceEqDiff, ↓reduceIte, List.length_append, List.length_singleton]
    ·simp only [Tm.get_put, Nat.reduceEqDiff, ↓reduceIte, e4]
    ·simp only [Tm.get_put, Nat.reduceEqDiff, ↓reduceIte, e5]
    ·simp only [Tm.get_put, ↓reduceIte]
    ·have hjx : (cfgs u i)[j] = x := by rw [List.getElem?_eq_getElem hj] at hx; exact Option.some.inj hx
     rw [List.take_succ_eq_append_getElem hj, hjx, List.map_append, hxs, List.append_assoc]; rfl
    ·rw [flat_snoc, List.length_append]
     exact O.drop1
   ·rw [decide_eq_false hj]
    with_reducible refine Xx (mExit_i (XF (XF ?_)))
    simp only [sS] at O ⊢
    with_reducible refine Xp ?_
    simp only [e4] at O ⊢
    with_reducible refine Ye (by simp only [Xo]; omega) ?_
    with_reducible refine wM_i (Xp ?_)
    have hjl : (cfgs u i).take j = cfgs u i := List.take_of_length_le (by omega)
    have hxs' : xs = cfgs u (i + 1) := by rw [hxs, hjl]; simp only [cfgs, if_pos hb]
    refine hR (m - 1) _ _ (by omega) ⟨i + 1, b, fl, by omega, ⟨?_, ?_, ?_⟩, ?_⟩
    ·simp only [Tm.get_put, Nat.reduceEqDiff, ↓reduceIte, e0]
    ·simp only [Tm.get_put, Nat.reduceEqDiff, ↓reduceIte, e3, hxs']
    ·simp only [Tm.get_put, ↓reduceIte]
    ·rw [← hxs']
     exact O
  ·have h1 : ¬ ((u >>> i) &&& 1 = 1) := fun e => hb ((bit_eq u i).mp e)
   have h2 : (u >>> i) &&& 1 ≤ 1 := Nat.and_le_right
   have h3 : (u >>> i) &&& 1 = 0 := by omega
   rw [decide_eq_true h3]
   with_reducible refine XC (mExit_i (XF (mThen_oe ?_)))
   simp only [e4] at O ⊢
   with_reducible refine Ye (by simp only [Xo]; omega) ?_
   with_reducible refine wM_i (Xp ?_)
   refine hR (m - 1) _ _ (by omega) ⟨i + 1, b, fl, by omega, ⟨?_, ?_, ?_⟩, ?_⟩
   ·simp only [Tm.get_put, Nat.reduceEqDiff, ↓reduceIte, e0]
   ·simp only [Tm.get_put, Nat.reduceEqDiff, ↓reduceIte, e3, cfgs, if_neg hb]
   ·simp only [Tm.get_put, ↓reduceIte]
   ·simp only [cfgs, if_neg hb]
    exact O
 ·rw [decide_eq_false hi]
  with_reducible refine Xx (mExit_i (XF (XF (mThen_oe (wM_i (XZ ?_))))))
  simp only [sS, ↓reduceIte, e3] at O ⊢
  have hi32 : i = 32 := by omega
  subst hi32
  obtain ⟨g', O', l, hsl⟩ := O.freezeX (enc := nuC) 0 rfl
  exact hQ g' _ _ O'.done hsl
theorem in_call {v : AV} {l : List Cu} {n : Nat} (f : Fz g h) (hl : IsCus g v l) (hn : n < 4294967296) (hQ : ∀ h', Step g h g h' → Q (.bool (inB l n)) h') : Cl f_law_in [v, uV n] h Q := by
 obtain ⟨hs, hr, hlen⟩ := hl
 have O := W.start f
 refine Yf ok_law_in (by simp) ?_
 unfold m_law_in
 with_reducible refine wM_i (Xt (wM_i (XD ?_)))
 simp only [sS, XS] at O ⊢
 refine XL (fun m t h' => ∃ i, m + i = l.length ∧ (t.get 0 = v ∧ t.get 1 = uV n ∧ t.get 5 = iV i) ∧ inB (l.drop i) n = inB l n ∧ W g h g h' []) l.length ⟨0, rfl, ⟨?_, ?_, ?_⟩, rfl, O⟩ ?_
 iterate 3 (simp only [Tm.get_put, Nat.reduceEqDiff, ↓reduceIte])
 rintro m t h1 ⟨i, hm, ⟨e0, e1, e5⟩, hf, O⟩ R hR
 with_reducible refine Xt ?_
 simp only [e0, e5] at O ⊢
 refine q_lenS hs ?_
 skip
 refine q_lssN ?_
 by_cases hi : i < l.length
 ·rw [decide_eq_true hi]
  obtain ⟨x, hx⟩ : ∃ x, l[i]? = some x := ⟨_, List.getElem?_eq_getElem hi⟩
  obtain ⟨x1, x2⟩ := hr x (List.mem_of_getElem? hx)
  have hix : l[i] = x := by rw [List.getElem?_eq_getElem hi] at hx; exact Option.some.inj hx
  have hd : inB (l.drop i) n = (inCu x n || inB (l.drop (i + 1)) n) := by
   rw [List.drop_eq_getElem_cons hi, hix]; rfl
  have n1 : n &&& x.1 ≤ n := Nat.and_le_left
  have n2 : n &&& x.2 ≤ n := Nat.and_le_left
  have nxt : inCu x n = false → inB (l.drop (i + 1)) n = inB l n := fun e => by rw [← hf, hd, e]; rfl
  with_reducible refine XC (Xy (Xp (Xt (XD ?_))))
  simp only [e0, e1, e5] at O ⊢
  refine q_ixS hs cuC_len hx fun b o he => ?_
  with_reducible refine q_fa ?_
  refine XK O (by assumption) (by first | exact Xd rfl | rfl) (Nat.le_of_ble_eq_true rfl) ?_
  with_reducible refine q_andN (by simp only [Xo]; omega) (by simp only [Xo]; omega) ?_
  with_reducible refine q_andN (by simp only [Xo]; omega) (by simp only [Xo]; omega) ?_
  refine q_ixS hs cuC_len hx fun b' o' he' => ?_
  with_reducible refine q_fa ?_
  refine XK O (by assumption) (by first | exact Xd rfl | rfl) (Nat.le_of_ble_eq_true rfl) ?_
  with_reducible refine q_andN (by simp only [Xo]; omega) (by simp only [Xo]; omega) ?_
  refine q_eqN ?_
  by_cases hA : n &&& x.1 &&& 16777215 = x.1 &&& 16777215
  ·rw [decide_eq_true hA]
   with_reducible refine Yg (Yg (Yg (Yg ?_)))
   refine q_ixS hs cuC_len hx fun b' o' he' => ?_
   with_reducible refine Yg (q_fa (Yg ?_))
   refine XK O (by assumption) (by first | exact Xd rfl | rfl) (Nat.le_of_ble_eq_true rfl) ?_
   with_reducible refine Yg ?_
   with_reducible refine q_andN (by simp only [Xo]; omega) (by simp only [Xo]; omega) ?_
   with_reducible refine Yg ?_
   with_reducible refine q_andN (by simp only [Xo]; omega) (by simp only [Xo]; omega) ?_
   with_reducible refine Yg ?_
   refine q_eqN ?_
   by_cases hB : n &&& x.2 &&& 16777215 = 0
   ·rw [decide_eq_true hB]
    with_reducible refine XX (XC (wM_i (mThen_or (mThen_r (mThen_or (XZ ?_))))))
    simp only [sS, ↓reduceIte] at O ⊢
    have : inB l n = true := by
     rw [← hf, hd]
     have : inCu x n = true := by unfold inCu; rw [decide_eq_true hA, decide_eq_true hB]; rfl
     rw [this]; rfl
    rw [this] at hQ
    exact hQ _ O.done
   ·rw [decide_eq_false hB]
    with_reducible refine XX (Xx (Xy (mThen_on ?_)))
    simp only [e5] at O ⊢
    with_reducible refine Ye (by simp only [Xo]; omega) ?_
    with_reducible refine wM_i (Xp ?_)
    refine hR (m - 1) _ _ (by omega) ⟨i + 1, by omega, ⟨?_, ?_, ?_⟩, nxt ?_, O⟩
    iterate 3 (simp only [Tm.get_put, Nat.reduceEqDiff, ↓reduceIte, e0, e1])
    unfold inCu; rw [decide_eq_false hB, Bool.and_false]
  ·rw [decide_eq_false hA]
   with_reducible refine Yb (Yb (Yb (Yb (Yb (Yb (Yb (Yb (Yb (Ya (Xx (Xy (mThen_on ?_))))))))))))
   simp only [e5] at O ⊢
   with_reducible refine Ye (by simp only [Xo]; omega) ?_
   with_reducible refine wM_i (Xp ?_)
   refine hR (m - 1) _ _ (by omega) ⟨i + 1, by omega, ⟨?_, ?_, ?_⟩, nxt ?_, O⟩
   iterate 3 (simp only [Tm.get_put, Nat.reduceEqDiff, ↓reduceIte, e0, e1])
   unfold inCu; rw [decide_eq_false hA, Bool.false_and]
 ·rw [decide_eq_false hi]
  with_reducible refine Xx (mExit_i (XF (XF (mThen_oe (wM_i (XZ ?_))))))
  simp only [sS, ↓reduceIte] at O ⊢
  have hd : l.drop i = [] := List.drop_eq_nil_of_le (by omega)
  have : inB l n = false := by rw [← hf, hd]; rfl
  rw [this] at hQ
  exact hQ _ O.done
def thoseN (l : List Cu) (u : Nat) : List Nat := (XQ u).filter fun n => inB l n
theorem those_call {v : AV} {l : List Cu} {u : Nat} (f : Fz g h) (hl : IsCus g v l) (hu : u < 4294967296) (hc : XV u 32 ≤ 16) (hQ : ∀ g' h' w, Step g h g' h' → IsSl g' nuC 1 w (thoseN l u) → Q w h') : Cl f_law_those [v, uV u] h Q := by
 have O := W.start f
 refine Yf ok_law_those (by simp) ?_
 unfold m_law_those
 with_reducible refine wM_i (wM_i ?_)
 simp only [sS, XS, Nat.reduceEqDiff, ↓reduceIte] at O ⊢
 refine Configs_call O.fz hu hc fun g1 h1 cv S hC => ?_
 have O := (O.call S).addN 0
 have hl := hl.mono S.le
 have hlen : (XQ u).length ≤ 65536 := by unfold XQ; rw [Bdd.cfgs_len]; exact Nat.pow_le_pow_right (by decide : 0 < 2) hc
 have hlt : ∀ x ∈ XQ u, x < 4294967296 := fun x hx => Bdd.cfgs_lt u 32 x hx
 with_reducible refine wM_i (Xt (wM_i (XD ?_)))
 refine XL (fun m t h' => ∃ i b, m + i = (XQ u).length ∧ (t.get 0 = v ∧ t.get 5 = grV b (((XQ u).take i).filter fun n => inB l n).length ∧ t.get 6 = cv ∧ t.get 7 = iV i) ∧ W g h g1 h' [grE 24 1 b (flat nuC (((XQ u).take i).filter fun n => inB l n)) (((XQ u).take i).filter fun n => inB l n).length]) (XQ u).length ⟨0, 0, rfl, ⟨?_, ?_, ?_, ?_⟩, O⟩ ?_
 iterate 4 (simp only [Tm.get_put, Nat.reduceEqDiff, ↓reduceIte] <;> rfl)
 rintro m t h1 ⟨i, b, hm, ⟨e0, e5, e6, e7⟩, O⟩ R hR
 with_reducible refine Xt ?_
 simp only [e6, e7] at O ⊢
 refine q_lenS hC ?_
 skip
 refine q_lssN ?_
 by_cases hi : i < (XQ u).length
 ·rw [decide_eq_true hi]
  obtain ⟨x, hx⟩ : ∃ x, (XQ u)[i]? = some x := ⟨_, List.getElem?_eq_getElem hi⟩
  have hix : (XQ u)[i] = x := by rw [List.getElem?_eq_getElem hi] at hx; exact Option.some.inj hx
  have hxl := hlt x (List.mem_of_getElem? hx)
  have hfl : (((XQ u).take i).filter fun n => inB l n).length ≤ 65536 := Nat.le_trans (List.length_filter_le _ _) (by rw [List.length_take]; omega)
  have hts : (((XQ u).take (i + 1)).filter fun n => inB l n) = (((XQ u).take i).filter fun n => inB l n) ++ (if inB l x = true then [x] else []) := by
   rw [List.take_succ_eq_append_getElem hi, hix, List.filter_append]
   congr 1
   by_cases e : inB l x = true
   ·rw [if_pos e, List.filter_cons_of_pos e]; rfl
   ·rw [if_neg e, List.filter_cons_of_neg e]; rfl
  with_reducible refine XC (Xy (Xp (Xt (XD ?_))))
  simp only [e0, e6, e7] at O ⊢
  refine q_ixS hC nuC_len hx fun b1 o1 he => ?_
  refine w_loadEl0 O (by assumption) (by first | exact Xd rfl | rfl) (Nat.le_of_ble_eq_true rfl) ?_
  refine in_call O.fz hl hxl fun h2 S => ?_
  have O := O.call S
  by_cases hin : inB l x = true
  ·rw [hin]
   rw [if_pos hin] at hts
   with_reducible refine XC ?_
   simp only [sS, e5, e6, e7] at O ⊢
   refine q_ixS hC nuC_len hx fun b2 o2 he2 => ?_
   refine w_loadEl0 O (by assumption) (by first | exact Xd rfl | rfl) (Nat.le_of_ble_eq_true rfl) ?_
   refine Yd O rfl rfl fun _ _ O => ?_
   simp only [sS] at O ⊢
   refine w_append 1 O rfl (src_own 0 O rfl rfl) (nu_flat _) (by decide) rfl (by omega) fun b' h3 O => ?_
   simp only [List.set_cons_zero, List.set_cons_succ] at O
   with_reducible refine wM_i (Xp ?_)
   simp only [sS, Nat.reduceEqDiff, ↓reduceIte, e7] at O ⊢
   with_reducible refine Ye (by simp only [Xo]; omega) ?_
   with_reducible refine wM_i (Xp ?_)
   refine hR (m - 1) _ _ (by omega) ⟨i + 1, b', by omega, ⟨?_, ?_, ?_, ?_⟩, ?_⟩
   ·simp only [Tm.get_put, Nat.reduceEqDiff, ↓reduceIte, e0]
   ·simp only [Tm.get_put, Nat.reduceEqDiff, ↓reduceIte, hts, List.length_append, List.length_singleton]
   ·simp only [Tm.get_put, Nat.reduceEqDiff, ↓reduceIte, e6]
   ·simp only [Tm.get_put, ↓reduceIte]
   ·rw [hts, flat_snoc, List.length_append]
    exact O.drop1
  ·have hin' : inB l x = false := by simpa using hin
   rw [hin']
   rw [if_neg hin, List.append_nil] at hts
   with_reducible refine Xx (Xy (mThen_on ?_))
   simp only [e7] at O ⊢
   with_reducible refine Ye (by simp only [Xo]; omega) ?_
   with_reducible refine wM_i (Xp ?_)
   refine hR (m - 1) _ _ (by omega) ⟨i + 1, b, by omega, ⟨?_, ?_, ?_, ?_⟩, ?_⟩
   ·simp only [Tm.get_put, Nat.reduceEqDiff, ↓reduceIte, e0]
   ·simp only [Tm.get_put, Nat.reduceEqDiff, ↓reduceIte, hts, e5]
   ·simp only [Tm.get_put, Nat.reduceEqDiff, ↓reduceIte, e6]
   ·simp only [Tm.get_put, ↓reduceIte]
   ·rw [hts]
    exact O
 ·rw [decide_eq_false hi]
  with_reducible refine Xx (mExit_i (XF (XF (mThen_oe (wM_i (XZ ?_))))))
  simp only [sS, ↓reduceIte, e5] at O ⊢
  have ht : (XQ u).take i = XQ u := List.take_of_length_le (by omega)
  rw [ht] at O
  obtain ⟨g', O', l', hsl⟩ := O.freezeGr (enc := nuC) 0 rfl
  rw [ht]
  exact hQ g' _ _ O'.done hsl
end Go.AM
