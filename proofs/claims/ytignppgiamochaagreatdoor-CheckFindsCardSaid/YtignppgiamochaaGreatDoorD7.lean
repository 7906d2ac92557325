/- Sets: does one have a configuration; its features. -/
import Derived.Test.YtignppgiamochaaGreatDoorD6
set_option linter.unusedVariables false
set_option linter.unusedSimpArgs false
namespace Go.AM
open Go
variable {g : G} {h : Heap} {Q : MK}
abbrev cfgN (n : Nat) : Bdd.Cfg := fun i => n.testBit i
theorem bit_eq (c v : Nat) : (((c >>> v) &&& 1) = 1) = (c.testBit v = true) := by
 rw [Nat.testBit, Nat.and_comm 1, Nat.and_one_is_mod]
 have : (c >>> v) % 2 < 2 := Nat.mod_lt _ (by omega)
 apply propext
 constructor
 ·intro h; rw [h]; rfl
 ·intro h
  have : (c >>> v) % 2 ≠ 0 := by simpa using h
  omega
theorem Has_call {av : AV} {d : List Bdd.Nd × Nat} {S : Bdd.Cfg → Bool} {n : Nat} (f : Fz g h) (ha : IsD g av d) (da : Bdd.Dg d S) (hn : n < 4294967296) (hQ : ∀ h', Step g h g h' → Q (.bool (S (cfgN n))) h') : Cl f_D_Has [av, uV n] h Q := by
 obtain ⟨hl1, la, rfl, hA⟩ := ha
 have O := W.start f
 refine Yf ok_D_Has (by simp) ?_
 unfold m_D_Has
 simp only [sT, XS, Nat.reduceEqDiff, ↓reduceIte] at O ⊢
 refine w_box O fun bd _ O => ?_
 with_reducible refine wM_i (wM_i ?_)
 simp only [sT, AV.cells, Nat.reduceAdd, Nat.reduceEqDiff, ↓reduceIte] at O ⊢
 with_reducible refine q_fa0 ?_
 refine Xv 0 O rfl (by first | exact Xd rfl | rfl) ?_
 with_reducible refine wM_i (Xt (XD ?_))
 refine XL (fun r t h' => (t.get 1 = uV n ∧ t.get 2 = .ptr bd 0 ∧ t.get 5 = iV r) ∧ Bdd.Pl d.1 r ∧ Bdd.sem d.1 r (cfgN n) = S (cfgN n) ∧ W g h g h' [(bd, some (.cells false false 45 2 [la, iV d.2]))]) d.2 ⟨⟨?_, ?_, ?_⟩, da.pl, da.sem _, O⟩ ?_
 iterate 3 (simp only [Tm.get_put, Nat.reduceEqDiff, ↓reduceIte])
 rintro r t h1 ⟨⟨e1, e2, e5⟩, hp, hs, O⟩ R hR
 have hp' := hp
 unfold Bdd.Pl at hp'
 with_reducible refine Xt ?_
 simp only [e5] at O ⊢
 refine q_gtrN ?_
 by_cases h2 : 1 < r
 ·rw [decide_eq_true h2]
  obtain ⟨x, hx⟩ := hp.node h2
  obtain ⟨l1, l2, l3, v1, v2, v3⟩ := da.wf.node _ _ hx
  with_reducible refine XC (Xy (Xp (XD ?_)))
  simp only [e2, e5] at O ⊢
  with_reducible refine q_fa0 ?_
  refine Xv 0 O rfl (by first | exact Xd rfl | rfl) ?_
  with_reducible refine q_subN (by omega) (by simp only [Xo]; omega) ?_
  refine q_ixS hA ndC_len hx fun b o he => ?_
  refine w_loadEl0 O he (Xd rfl) (Nat.le_refl _) ?_
  refine w_alloc O fun _ _ O => ?_
  (refine XO 0 O rfl rfl rfl (by first | rfl | (simp only [AV.cells, List.all_cons, List.all_nil, XT, Bool.true_and, Bool.and_true] <;> rfl) | (simp only [AV.cells, List.all_cons, List.all_nil, Bool.true_and, Bool.and_true, *] <;> rfl)) fun _ O => ?_; simp only [List.set_cons_zero, AV.cells] at O)
  with_reducible refine q_fa0 ?_
  refine Xv 0 O rfl (by first | exact Xd rfl | rfl) ?_
  with_reducible refine wM_i (q_fa0 ?_)
  refine Xv 0 O rfl (by first | exact Xd rfl | rfl) ?_
  simp only [sT, Nat.reduceAdd, Nat.reduceEqDiff, ↓reduceIte, e1] at O ⊢
  with_reducible refine q_shrU (by omega) ?_
  refine q_andN (by simp only [Xo]; exact Nat.le_trans (Nat.shiftRight_le _ _) (by omega)) (by decide) ?_
  refine q_eqN ?_
  simp only [bit_eq]
  by_cases hb : n.testBit x.v = true
  ·rw [decide_eq_true hb]
   with_reducible refine XC (q_fa0 ?_)
   refine Xv 0 O rfl (by first | exact Xd rfl | rfl) ?_
   with_reducible refine wM_i (mThen_on ?_)
   refine hR x.hi _ _ (by omega) ⟨⟨?_, ?_, ?_⟩, by unfold Bdd.Pl; omega, ?_, O.drop1⟩
   iterate 3 (simp only [Tm.get_put, Nat.reduceEqDiff, ↓reduceIte, e1, e2])
   rw [← hs, Bdd.sem_node da.wf h2 hx, if_pos hb]
  ·rw [decide_eq_false hb]
   with_reducible refine Xx (Xy (mThen_on ?_))
   refine hR x.lo _ _ (by omega) ⟨⟨?_, ?_, ?_⟩, by unfold Bdd.Pl; omega, ?_, O.drop1⟩
   iterate 3 (simp only [Tm.get_put, Nat.reduceEqDiff, ↓reduceIte, e1, e2])
   rw [← hs, Bdd.sem_node da.wf h2 hx, if_neg hb]
 ·rw [decide_eq_false h2]
  with_reducible refine Xx (mExit_i (XF (XF (mThen_oe ?_))))
  simp only [e5] at O ⊢
  refine q_eqN ?_
  with_reducible refine wM_i (XZ ?_)
  simp only [sT, ↓reduceIte] at O ⊢
  have := hQ _ O.done
  rw [← hs, Bdd.sem_two (by omega)] at this
  exact this
theorem Support_call {av : AV} {d : List Bdd.Nd × Nat} {S : Bdd.Cfg → Bool} (f : Fz g h) (ha : IsD g av d) (da : Bdd.Dg d S) (hQ : ∀ h', Step g h g h' → Q (uV (d.1.foldl (fun s x => s ||| 1 <<< x.v) 0)) h') : Cl f_D_Support [av] h Q := by
 obtain ⟨hl1, la, rfl, hA⟩ := ha
 have O := W.start f
 refine Yf ok_D_Support (by simp) ?_
 unfold m_D_Support
 refine w_box O fun _ _ O => ?_
 with_reducible refine wM_i (wM_i (Xt (q_fa0 ?_)))
 refine Xv 0 O rfl (by first | exact Xd rfl | rfl) ?_
 with_reducible refine wM_i ?_
 simp only [sT, XS, AV.cells, Nat.reduceAdd, ↓reduceIte] at O ⊢
 refine q_lenS hA ?_
 with_reducible refine wM_i (wM_i (XD ?_))
 refine XL (fun m t h' => ∃ i s, m + i = d.1.length ∧ (t.get 3 = uV s ∧ t.get 7 = la ∧ t.get 8 = iV d.1.length ∧ t.get 9 = iV i) ∧ s < 16777216 ∧ (d.1.drop i).foldl (fun s x => s ||| 1 <<< x.v) s = d.1.foldl (fun s x => s ||| 1 <<< x.v) 0 ∧ W g h g h' []) d.1.length ⟨0, 0, rfl, ⟨?_, ?_, ?_, ?_⟩, by decide, rfl, O.drop1⟩ ?_
 iterate 4 (simp only [Tm.get_put, Nat.reduceEqDiff, ↓reduceIte])
 rintro m t h1 ⟨i, s, hm, ⟨e3, e7, e8, e9⟩, hs, hf, O⟩ R hR
 simp only [e8, e9] at O ⊢
 refine q_lssN ?_
 by_cases hi : i < d.1.length
 ·rw [decide_eq_true hi]
  obtain ⟨x, hx⟩ : ∃ x, d.1[i]? = some x := ⟨_, List.getElem?_eq_getElem hi⟩
  obtain ⟨l1, l2, l3, v1, v2, v3⟩ := da.wf.node _ _ hx
  with_reducible refine Xt (XC (Xy (Xp (Xt (XD ?_)))))
  simp only [e3, e7, e9] at O ⊢
  refine q_ixS hA ndC_len hx fun b o he => ?_
  refine w_loadEl0 O he (Xd rfl) (Nat.le_refl _) ?_
  refine w_alloc O fun _ _ O => ?_
  (refine XO 0 O rfl rfl rfl (by first | rfl | (simp only [AV.cells, List.all_cons, List.all_nil, XT, Bool.true_and, Bool.and_true] <;> rfl) | (simp only [AV.cells, List.all_cons, List.all_nil, Bool.true_and, Bool.and_true, *] <;> rfl)) fun _ O => ?_; simp only [List.set_cons_zero, AV.cells] at O)
  with_reducible refine q_fa0 ?_
  refine Xv 0 O rfl (by first | exact Xd rfl | rfl) ?_
  simp only [sT, Nat.reduceAdd] at O ⊢
  have hb : 1 <<< x.v < 16777216 := by
   rw [Nat.shiftLeft_eq, Nat.one_mul]
   exact Nat.pow_lt_pow_right (by decide : 1 < 2) v3
  refine q_shlU (by omega) (by rw [← Nat.shiftLeft_eq]; omega) ?_
  with_reducible refine q_orN (by simp only [Xo]; omega) (by simp only [Xo]; omega) ?_
  with_reducible refine wM_i (mThen_on ?_)
  simp only [sT, Nat.reduceEqDiff, ↓reduceIte, e9] at O ⊢
  with_reducible refine Ye (by simp only [Xo]; omega) ?_
  with_reducible refine wM_i (Xp ?_)
  refine hR (m - 1) _ _ (by omega) ⟨i + 1, s ||| 1 <<< x.v, by omega, ⟨?_, ?_, ?_, ?_⟩, ?_, ?_, O.drop1⟩
  iterate 4 (simp only [Tm.get_put, Nat.reduceEqDiff, ↓reduceIte, e7, e8] <;> rfl)
  ·exact Nat.or_lt_two_pow (n := 24) hs hb
  ·rw [← hf, List.drop_eq_getElem_cons hi, List.foldl_cons]
   have : d.1[i] = x := by rw [List.getElem?_eq_getElem hi] at hx; exact Option.some.inj hx
   rw [this]
 ·rw [decide_eq_false hi]
  with_reducible refine Xt (Xx (mExit_i (XF (XF (mThen_oe (wM_i (XZ ?_)))))))
  simp only [sT, ↓reduceIte, e3] at O ⊢
  have hd : d.1.drop i = [] := List.drop_eq_nil_of_le (by omega)
  rw [hd] at hf
  rw [← hf] at hQ
  exact hQ _ O.done
end Go.AM
