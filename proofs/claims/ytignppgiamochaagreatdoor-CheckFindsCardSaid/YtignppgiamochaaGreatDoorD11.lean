/- The set of cubes; is a set just these configurations? -/
import Derived.Test.YtignppgiamochaaGreatDoorD10
set_option linter.unusedVariables false
set_option linter.unusedSimpArgs false
namespace Go.AM
open Go
variable {g : G} {h : Heap} {Q : MK}
open Bdd (cfgs XQ XV inB inCu bitsN bitsF setS cuS Cu allF)
def IsS (g : G) (v : AV) (S : Bdd.Cfg → Bool) : Prop := ∃ d, IsD g v d ∧ Bdd.Dg d S
theorem IsS.mono {g g' : G} (l : Gle g g') {v : AV} {S : Bdd.Cfg → Bool} : IsS g v S → IsS g' v S := fun ⟨d, h1, h2⟩ => ⟨d, h1.mono l, h2⟩
def Only (u : Nat) (S : Bdd.Cfg → Bool) : Prop := ∀ i, u.testBit i = false → ∀ c, S (Bdd.set c i false) = S c
theorem cnt24 (u : Nat) : XV u 24 ≤ XV u 32 := Bdd.cntTo_mono u (by decide)
theorem Only.size {u : Nat} {S : Bdd.Cfg → Bool} (h : Only u S) (hc : XV u 32 ≤ 10) {d : List Bdd.Nd × Nat} (hd : Bdd.Dg d S) : d.1.length < 1024 :=
 Nat.lt_of_lt_of_le (Bdd.dg_size hd h) (Nat.le_trans (Nat.pow_le_pow_right (by decide : 0 < 2) (Nat.le_trans (cnt24 u) hc)) (by decide))
theorem size_mul {a b : Nat} (ha : a < 1024) (hb : b < 1024) : (a + 2) * (b + 2) < 16777216 :=
 Nat.lt_of_le_of_lt (Nat.mul_le_mul (show a + 2 ≤ 1025 by omega) (show b + 2 ≤ 1025 by omega)) (by decide)
theorem Only.or {u : Nat} {S T : Bdd.Cfg → Bool} (a : Only u S) (b : Only u T) : Only u fun c => S c || T c := fun i hi c => by dsimp only; rw [a i hi, b i hi]
theorem OrS_call {av bv : AV} {S T : Bdd.Cfg → Bool} {u : Nat} (f : Fz g h) (ha : IsS g av S) (hb : IsS g bv T) (oa : Only u S) (ob : Only u T) (hc : XV u 32 ≤ 10)
  (hQ : ∀ g' h' v, Step g h g' h' → IsS g' v (fun c => S c || T c) → Q v h') : Cl f_D_Or [av, bv] h Q := by
 obtain ⟨d, h1, h2⟩ := ha
 obtain ⟨e, h3, h4⟩ := hb
 exact Or_call f h1 h3 h2 h4 (size_mul (oa.size hc h2) (ob.size hc h4)) fun g' h' v S hv => hQ g' h' v S ⟨_, hv, Bdd.dg_or h2 h4⟩
def Within (u : Nat) (l : List Cu) : Prop := ∀ i, u.testBit i = false → (bitsN l).testBit i = false
theorem Within.only {u : Nat} {l : List Cu} (h : Within u l) : Only u (setS l) := fun i hi c => Bdd.setS_only (h i hi) c false
theorem Within.sub {u : Nat} {l m : List Cu} (h : Within u l) (hm : ∀ p ∈ m, p ∈ l) : Within u m := fun i hi => by
 have := h i hi
 rw [Bdd.bitsN_bit] at this ⊢
 cases h24 : decide (i < 24) with
 | false => rfl
 | true =>
  rw [h24, Bool.true_and, List.any_eq_false] at this
  rw [Bool.true_and, List.any_eq_false]
  exact fun p hp => this p (hm p hp)
theorem setS_one (p : Cu) : setS [p] = cuS p := by funext c; simp [setS]
theorem setS_app (l m : List Cu) : setS (l ++ m) = fun c => setS l c || setS m c := by funext c; simp [setS]
theorem set_call {v : AV} {l : List Cu} {u : Nat} (f : Fz g h) (hl : IsCus g v l) (hw : Within u l) (hc : XV u 32 ≤ 10) (hQ : ∀ g' h' w, Step g h g' h' → IsS g' w (setS l) → Q w h') : Cl f_law_set [v] h Q := by
 obtain ⟨hs, hr, hlen⟩ := hl
 have O := W.start f
 refine Yf ok_law_set (by simp) ?_
 unfold m_law_set
 simp only [XS] at O ⊢
 refine w_alloc O fun br _ O => ?_
 with_reducible refine wM_i ?_
 simp only [sS, Nat.reduceAdd] at O ⊢
 refine False_call O.fz fun h1 S => ?_
 have O := O.call S
 skip
 refine w_alloc O fun bd _ O => ?_
 with_reducible refine wM_i ?_
 (refine XO 0 O rfl rfl rfl (by first | rfl | (simp only [AV.cells, List.all_cons, List.all_nil, XT, Bool.true_and, Bool.and_true] <;> rfl) | (simp only [AV.cells, List.all_cons, List.all_nil, Bool.true_and, Bool.and_true, *] <;> rfl)) fun _ O => ?_; simp only [List.set_cons_zero, AV.cells] at O)
 with_reducible refine Xt (wM_i (XD ?_))
 simp only [sS, Nat.reduceAdd] at O ⊢
 refine XL (fun m t h' => ∃ i gi d la, m + i = l.length ∧ (t.get 0 = v ∧ t.get 2 = .ptr br 0 ∧ t.get 3 = .ptr bd 0 ∧ t.get 4 = iV i) ∧ Gle g gi ∧ IsSl gi ndC 3 la d.1 ∧ d.1.length < 16777216 ∧ Bdd.Dg d (setS (l.take i)) ∧ W g h gi h' [(bd, some (.cells false false 45 2 [la, iV d.2])), (br, some (.cells false false 45 2 [.snil, iV 0]))]) l.length ⟨0, g, ([], 0), .snil, rfl, ⟨?_, ?_, ?_, ?_⟩, .refl g, isSl_nil _ _ _, by decide, Bdd.dg_false, O⟩ ?_
 iterate 4 (simp only [Tm.get_put, Nat.reduceEqDiff, ↓reduceIte])
 rintro m t h1 ⟨i, gi, d, la, hm, ⟨e0, e2, e3, e4⟩, hle, hA, hdl, hdd, O⟩ R hR
 have hs' := hs.mono hle
 obtain ⟨a1, a2⟩ := hA.one
 with_reducible refine Xt ?_
 simp only [e0, e4] at O ⊢
 refine q_lenS hs' ?_
 skip
 refine q_lssN ?_
 by_cases hi : i < l.length
 ·rw [decide_eq_true hi]
  obtain ⟨x, hx⟩ : ∃ x, l[i]? = some x := ⟨_, List.getElem?_eq_getElem hi⟩
  have hix : l[i] = x := by rw [List.getElem?_eq_getElem hi] at hx; exact Option.some.inj hx
  obtain ⟨x1, x2⟩ := hr x (List.mem_of_getElem? hx)
  with_reducible refine XC (Xy (Xp (Xt (XD ?_))))
  simp only [sS, e0, e3, e4] at O ⊢
  refine Xv 0 O rfl (by first | exact Xd rfl | rfl) ?_
  refine q_ixS hs' cuC_len hx fun b o he => ?_
  with_reducible refine q_fa ?_
  refine XK O (by assumption) (by first | exact Xd rfl | rfl) (Nat.le_of_ble_eq_true rfl) ?_
  refine q_ixS hs' cuC_len hx fun b' o' he' => ?_
  with_reducible refine q_fa ?_
  refine XK O (by assumption) (by first | exact Xd rfl | rfl) (Nat.le_of_ble_eq_true rfl) ?_
  refine Cube_call O.fz x1 x2 fun g2 h2 cv cd S hcv hcd => ?_
  have O := O.call S
  have ox : Only u (cuS x) := by rw [← setS_one]; exact (hw.sub (m := [x]) (by simp; exact List.mem_of_getElem? hx)).only
  have ol : Only u (setS (l.take i)) := (hw.sub (m := l.take i) fun p hp => List.mem_of_mem_take hp).only
  skip
  refine OrS_call (S := setS (l.take i)) (T := cuS x) O.fz ⟨d, ⟨hdl, la, rfl, hA.mono S.le⟩, hdd⟩ ⟨cd, hcv, hcd⟩ ol ox hc fun g3 h3 ov S2 hov => ?_
  have O := O.call S2
  obtain ⟨d2, ⟨hl2, lw, rfl, hW⟩, hd2⟩ := hov
  obtain ⟨w1, w2⟩ := hW.one
  (refine XO 0 O rfl rfl rfl (by first | rfl | (simp only [AV.cells, List.all_cons, List.all_nil, Bool.and_true] <;> rfl) | (simp only [AV.cells, List.all_cons, List.all_nil, Bool.true_and, Bool.and_true, *] <;> rfl)) fun _ O => ?_; simp only [List.set_cons_zero, AV.cells] at O)
  refine mStay_c (by repeat (first | exact mStay1_n | refine Xe 0 (by assumption) rfl rfl (AV.beq_refl _) ?_ | refine Xe 1 (by assumption) rfl rfl (AV.beq_refl _) ?_ | refine Xe 2 (by assumption) rfl rfl (AV.beq_refl _) ?_ | refine Xe 3 (by assumption) rfl rfl (AV.beq_refl _) ?_ | refine Xe 4 (by assumption) rfl rfl (AV.beq_refl _) ?_ | refine Xe 5 (by assumption) rfl rfl (AV.beq_refl _) ?_ | refine Xe 6 (by assumption) rfl rfl (AV.beq_refl _) ?_ | refine Xe 7 (by assumption) rfl rfl (AV.beq_refl _) ?_ | refine Xe 8 (by assumption) rfl rfl (AV.beq_refl _) ?_ | refine st_loadF (by assumption) (by assumption) rfl (AV.beq_refl _) ?_)) ?_
  refine mStay_n ?_
  with_reducible refine Xp ?_
  simp only [e4] at O ⊢
  with_reducible refine Ye (by simp only [Xo]; omega) ?_
  with_reducible refine wM_i (Xp ?_)
  refine hR (m - 1) _ _ (by omega) ⟨i + 1, g3, d2, lw, by omega, ⟨?_, ?_, ?_, ?_⟩, hle.trans (S.le.trans S2.le), hW, hl2, ?_, O⟩
  iterate 4 (simp only [Tm.get_put, Nat.reduceEqDiff, ↓reduceIte, e0, e2, e3])
  rw [List.take_succ_eq_append_getElem hi, hix, setS_app, setS_one]
  exact hd2
 ·rw [decide_eq_false hi]
  with_reducible refine Xx (mExit_i (XF (XF (mThen_oe ?_))))
  simp only [e2, e3] at O ⊢
  refine Xv 0 O rfl (by first | exact Xd rfl | rfl) ?_
  (refine XO 1 O rfl rfl rfl (by first | rfl | (simp only [AV.cells, List.all_cons, List.all_nil, Bool.and_true] <;> rfl) | (simp only [AV.cells, List.all_cons, List.all_nil, Bool.true_and, Bool.and_true, *] <;> rfl)) fun _ O => ?_; simp only [List.set_cons_zero, List.set_cons_succ, AV.cells] at O)
  with_reducible refine mFin_c ?_
  simp only [e2] at O ⊢
  refine cellQ_i 1 O rfl rfl ?_
  have ht : l.take i = l := List.take_of_length_le (by omega)
  rw [ht] at hdd
  exact hQ _ _ _ O.done ⟨d, ⟨hdl, la, rfl, hA⟩, hdd⟩
end Go.AM
