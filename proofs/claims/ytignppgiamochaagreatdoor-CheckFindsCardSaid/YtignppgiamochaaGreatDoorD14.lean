/- The configuration with the fewest features of a set. -/
import Derived.Test.YtignppgiamochaaGreatDoorD13
set_option linter.unusedVariables false
set_option linter.unusedSimpArgs false
namespace Go.AM
open Go
variable {g : G} {h : Heap} {Q : MK}
structure RepC (ns : List Bdd.Nd) (p : Nat) (x : Cho) : Prop where
 lv : x.lv = Bdd.var ns p
 co : x.co + x.lv ≤ 24
 c : x.c < 16777216
 is : ∃ o, Bdd.Least (Bdd.sem ns p) o ∧ (o = none → x.b = false) ∧ ∀ a, o = some a → x.b = true ∧ a = (x.co, x.c)
def bstC (i : Nat) (lo hi : Cho) : Cho := betC { lo with lv := i } ⟨i, hi.co + 1, hi.c ||| 1 <<< i, hi.b⟩
theorem repC_node {ns : List Bdd.Nd} (WN : Bdd.Wf ns) {j : Nat} {x : Bdd.Nd} (hx : ns[j]? = some x) {lo hi : Cho} (rl : RepC ns x.lo lo) (rh : RepC ns x.hi hi) : RepC ns (j + 2) (bstC x.v lo hi) := by
 obtain ⟨l1, l2, l3, v1, v2, v3⟩ := WN.node _ _ hx
 obtain ⟨a1, a2, a3, oa, a4, a5, a6⟩ := rl
 obtain ⟨b1, b2, b3, ob, b4, b5, b6⟩ := rh
 have hxk : ns[j + 2 - 2]? = some x := hx
 have hv : Bdd.var ns (j + 2) = x.v := Bdd.var_node (by omega) hxk
 have hb : 1 <<< x.v < 16777216 := by rw [Nat.shiftLeft_eq, Nat.one_mul]; exact Nat.pow_lt_pow_right (by decide : 1 < 2) v3
 have hor : hi.c ||| 1 <<< x.v < 16777216 := Nat.or_lt_two_pow (n := 24) b3 hb
 have L := Bdd.least_node (S := Bdd.sem ns (j + 2)) v3 (Bdd.sem_blind WN v1) (Bdd.sem_blind WN v2) (fun c => Bdd.sem_node WN (by omega) hxk c) a4 b4
 refine ⟨?_, ?_, ?_, _, L, ?_, ?_⟩
 ·rw [hv]; unfold bstC betC; split <;> rfl
 ·unfold bstC betC
  split
  ·dsimp only; omega
  ·dsimp only; omega
 ·unfold bstC betC
  split
  ·exact hor
  ·exact a3
 ·intro h
  cases oa with
  | none =>
   rw [Bdd.better_none] at h
   have hbn : ob = none := by cases ob with
    | none => rfl
    | some b => cases h
   unfold bstC betC
   rw [if_pos (.inl (a5 rfl))]
   exact b5 hbn
  | some a => cases ob with
   | none => cases h
   | some b => unfold Bdd.better Bdd.plus at h; dsimp only [Option.map] at h; split at h <;> cases h
 ·intro r hr
  cases oa with
  | none =>
   rw [Bdd.better_none] at hr
   cases ob with
   | none => cases hr
   | some b =>
    cases hr
    obtain ⟨c1, c2⟩ := b6 b rfl
    unfold bstC betC
    rw [if_pos (.inl (a5 rfl))]
    exact ⟨c1, by rw [c2]⟩
  | some a =>
   obtain ⟨d1, d2⟩ := a6 a rfl
   cases ob with
   | none =>
    rw [show Bdd.plus x.v none = none from rfl, Bdd.better_none'] at hr
    cases hr
    unfold bstC betC
    rw [if_neg (by simp only [d1, b5 rfl]; simp)]
    exact ⟨d1, d2⟩
   | some b =>
    obtain ⟨c1, c2⟩ := b6 b rfl
    subst d2
    subst c2
    unfold Bdd.better Bdd.plus at hr
    dsimp only [Option.map] at hr
    unfold bstC betC
    simp only [d1, c1, true_and, Bool.true_eq_false, false_or]
    split at hr
    ·rename_i hc
     cases hr
     rw [if_pos hc]
     exact ⟨rfl, rfl⟩
    ·rename_i hc
     cases hr
     rw [if_neg hc]
     exact ⟨rfl, rfl⟩
def WxF (g : G) (wx wb : Nat) : Prop := ∃ ro sp e z, g wx = some (.cells ro sp e z [.ptr wb 0])
theorem WxF.mono {g g' : G} (l : Gle g g') {wx wb : Nat} : WxF g wx wb → WxF g' wx wb := fun ⟨ro, sp, e, z, h⟩ => ⟨ro, sp, e, z, l _ _ h⟩
theorem best_c1_call {wb wx i : Nat} {lo hi : Cho} (f : Fz g h) (hw : WtF g wb) (hx : WxF g wx wb) (hi24 : i < 24) (h1 : i + 1 ≤ lo.lv) (h2 : i + 1 ≤ hi.lv) (l1 : lo.co + lo.lv ≤ 24) (l2 : hi.co + hi.lv ≤ 24) (c1 : lo.c < 16777216) (c2 : hi.c < 16777216)
  (hQ : ∀ g' h', Step g h g' h' → Q (.agg (chC (bstC i lo hi))) h') : Cl f_D_best_c1 [iV i, .agg (chC lo), .agg (chC hi), .ptr wx 0] h Q := by
 have hx' := hx
 obtain ⟨ro, sp, e, z, hg⟩ := hx
 have O := W.start f
 refine Yf ok_D_best_c1 (by simp) ?_
 unfold m_D_best_c1
 refine w_box O fun _ _ O => ?_
 refine w_box O fun _ _ O => ?_
 refine w_alloc O fun _ _ O => ?_
 with_reducible refine wM_i ?_
 refine w_loadF O (by assumption) (by first | exact Xd rfl | rfl) ?_
 refine w_loadF O (by assumption) (by first | exact Xd rfl | rfl) ?_
 refine Xv 2 O rfl (by first | exact Xd rfl | rfl) ?_
 simp only [sS, XS, AV.cells, Nat.reduceAdd, Nat.reduceEqDiff, ↓reduceIte] at O ⊢
 with_reducible refine Ye (by simp only [Xo]; omega) ?_
 refine w_loadF O (by assumption) (by first | exact Xd rfl | rfl) ?_
 refine w_loadF O (by assumption) (by first | exact Xd rfl | rfl) ?_
 refine Xv 1 O rfl (by first | exact Xd rfl | rfl) ?_
 with_reducible refine Ye (by simp only [Xo]; omega) ?_
 refine down_call O.fz hw h1 (by omega) (by omega) c1 fun h3 S => ?_
 have O := O.call S
 skip
 refine step_call (x := { lo with lv := i + 1 }) (on := false) O.fz hw hi24 (by dsimp only; omega) c1 fun h3 S => ?_
 have O := O.call S
 skip
 refine down_call O.fz hw h2 (by omega) (by omega) c2 fun h3 S => ?_
 have O := O.call S
 skip
 refine step_call (x := { hi with lv := i + 1 }) (on := true) O.fz hw hi24 (by dsimp only; omega) c2 fun h3 S => ?_
 have O := O.call S
 skip
 refine better_call (x := stepC { lo with lv := i + 1 } i false) (y := stepC { hi with lv := i + 1 } i true) O.fz fun g4 h4 S => ?_
 have O := O.call S
 (refine XO 0 O rfl rfl rfl (by first | rfl | (simp only [AV.cells, List.all_cons, List.all_nil, XT, Bool.true_and, Bool.and_true] <;> rfl) | (simp only [AV.cells, List.all_cons, List.all_nil, Bool.true_and, Bool.and_true, *] <;> rfl)) fun _ O => ?_; simp only [List.set_cons_zero, AV.cells] at O)
 refine mStay_c (by repeat (first | exact mStay1_n | refine Xe 0 (by assumption) rfl rfl (AV.beq_refl _) ?_ | refine Xe 1 (by assumption) rfl rfl (AV.beq_refl _) ?_ | refine Xe 2 (by assumption) rfl rfl (AV.beq_refl _) ?_ | refine Xe 3 (by assumption) rfl rfl (AV.beq_refl _) ?_ | refine Xe 4 (by assumption) rfl rfl (AV.beq_refl _) ?_ | refine Xe 5 (by assumption) rfl rfl (AV.beq_refl _) ?_ | refine Xe 6 (by assumption) rfl rfl (AV.beq_refl _) ?_ | refine Xe 7 (by assumption) rfl rfl (AV.beq_refl _) ?_ | refine Xe 8 (by assumption) rfl rfl (AV.beq_refl _) ?_ | refine st_loadF (by assumption) (by assumption) rfl (AV.beq_refl _) ?_)) ?_
 refine mStay_c (by repeat (first | exact mStay1_n | refine Xe 0 (by assumption) rfl rfl (AV.beq_refl _) ?_ | refine Xe 1 (by assumption) rfl rfl (AV.beq_refl _) ?_ | refine Xe 2 (by assumption) rfl rfl (AV.beq_refl _) ?_ | refine Xe 3 (by assumption) rfl rfl (AV.beq_refl _) ?_ | refine Xe 4 (by assumption) rfl rfl (AV.beq_refl _) ?_ | refine Xe 5 (by assumption) rfl rfl (AV.beq_refl _) ?_ | refine Xe 6 (by assumption) rfl rfl (AV.beq_refl _) ?_ | refine Xe 7 (by assumption) rfl rfl (AV.beq_refl _) ?_ | refine Xe 8 (by assumption) rfl rfl (AV.beq_refl _) ?_ | refine st_loadF (by assumption) (by assumption) rfl (AV.beq_refl _) ?_)) ?_
 refine mStay_c (by repeat (first | exact mStay1_n | refine Xe 0 (by assumption) rfl rfl (AV.beq_refl _) ?_ | refine Xe 1 (by assumption) rfl rfl (AV.beq_refl _) ?_ | refine Xe 2 (by assumption) rfl rfl (AV.beq_refl _) ?_ | refine Xe 3 (by assumption) rfl rfl (AV.beq_refl _) ?_ | refine Xe 4 (by assumption) rfl rfl (AV.beq_refl _) ?_ | refine Xe 5 (by assumption) rfl rfl (AV.beq_refl _) ?_ | refine Xe 6 (by assumption) rfl rfl (AV.beq_refl _) ?_ | refine Xe 7 (by assumption) rfl rfl (AV.beq_refl _) ?_ | refine Xe 8 (by assumption) rfl rfl (AV.beq_refl _) ?_ | refine st_loadF (by assumption) (by assumption) rfl (AV.beq_refl _) ?_)) ?_
 refine mStay_c (by repeat (first | exact mStay1_n | refine Xe 0 (by assumption) rfl rfl (AV.beq_refl _) ?_ | refine Xe 1 (by assumption) rfl rfl (AV.beq_refl _) ?_ | refine Xe 2 (by assumption) rfl rfl (AV.beq_refl _) ?_ | refine Xe 3 (by assumption) rfl rfl (AV.beq_refl _) ?_ | refine Xe 4 (by assumption) rfl rfl (AV.beq_refl _) ?_ | refine Xe 5 (by assumption) rfl rfl (AV.beq_refl _) ?_ | refine Xe 6 (by assumption) rfl rfl (AV.beq_refl _) ?_ | refine Xe 7 (by assumption) rfl rfl (AV.beq_refl _) ?_ | refine Xe 8 (by assumption) rfl rfl (AV.beq_refl _) ?_ | refine st_loadF (by assumption) (by assumption) rfl (AV.beq_refl _) ?_)) ?_
 refine mStay_n ?_
 with_reducible refine mFin_c ?_
 refine cellQ_i 0 O rfl rfl ?_
 exact hQ _ _ O.done
theorem chC_len (x : Cho) : (chC x).length = 4 := rfl
theorem ch_flat (l : List Cho) : (flat chC l).length = l.length * 4 := flat_len fun _ _ => rfl
theorem Fold_call {av : AV} {d : List Bdd.Nd × Nat} {S : Bdd.Cfg → Bool} {wb wx : Nat} (f : Fz g h) (ha : IsD g av d) (da : Bdd.Dg d S) (hw : WtF g wb) (hx' : WxF g wx wb)
  (hQ : ∀ g' h' x, Step g h g' h' → RepC d.1 d.2 x → Q (.agg (chC x)) h') : Cl f_diagram_Fold_diagram_choice [av, .agg (chC ⟨24, 0, 0, false⟩), .agg (chC ⟨24, 0, 0, true⟩), .fn (.func f_D_best_c1) [] [.ptr wx 0]] h Q := by
 obtain ⟨hl1, la, rfl, hA⟩ := ha
 have O := W.start f
 refine Yf ok_diagram_Fold_diagram_choice (by simp) ?_
 unfold m_diagram_Fold_diagram_choice
 simp only [sS, XS, Nat.reduceAdd, Nat.reduceEqDiff, ↓reduceIte] at O ⊢
 refine w_box O fun bd _ O => ?_
 with_reducible refine wM_i ?_
 simp only [sS, AV.cells, Nat.reduceAdd, Nat.reduceEqDiff, ↓reduceIte] at O ⊢
 refine w_box O fun be _ O => ?_
 simp only [sS, AV.cells, Nat.reduceAdd] at O ⊢
 refine w_box O fun bf _ O => ?_
 simp only [sS, AV.cells, Nat.reduceAdd] at O ⊢
 refine w_alloc O fun br _ O => ?_
 with_reducible refine wM_i ?_
 refine Xv 2 O rfl (by first | exact Xd rfl | rfl) ?_
 refine Xv 1 O rfl (by first | exact Xd rfl | rfl) ?_
 simp only [sS, Nat.reduceAdd] at O ⊢
 refine Yd O (cs := flat chC [⟨24, 0, 0, false⟩, ⟨24, 0, 0, true⟩]) rfl rfl fun b0 _ O => ?_
 replace O := O.pick 5 [0, 1, 4] (by decide) (by decide)
 with_reducible refine wM_i (Xt ?_)
 simp only [sS, Nat.reduceEqDiff, ↓reduceIte] at O ⊢
 with_reducible refine q_fa0 ?_
 refine Xv 2 O rfl (by first | exact Xd rfl | rfl) ?_
 with_reducible refine wM_i ?_
 simp only [sS, ↓reduceIte] at O ⊢
 refine q_lenS hA ?_
 with_reducible refine wM_i (wM_i (XD ?_))
 refine XL (fun m t h' => ∃ i b fl xs gi, m + i = d.1.length ∧ (t.get 3 = .fn (.func f_D_best_c1) [] [.ptr wx 0] ∧ t.get 4 = .ptr bd 0 ∧ t.get 8 = .ptr br 0 ∧ t.get 9 = exV fl b xs.length ∧ t.get 16 = la ∧ t.get 17 = iV d.1.length ∧ t.get 18 = iV i) ∧ xs.length = i + 2 ∧ (∀ (p : Nat) x, xs[p]? = some x → RepC d.1 p x) ∧ Gle g gi ∧
  W g h gi h' [exE fl 178 4 b (flat chC xs) xs.length, (br, some (.cells false false 178 4 [iV 0, iV 0, uV 0, .bool false])), (bd, some (.cells false false 45 2 [la, iV d.2]))]) d.1.length ⟨0, b0, true, [⟨24, 0, 0, false⟩, ⟨24, 0, 0, true⟩], g, rfl, ⟨?_, ?_, ?_, ?_, ?_, ?_, ?_⟩, rfl, ?_, .refl g, O⟩ ?_
 iterate 7 (simp only [Tm.get_put, Nat.reduceEqDiff, ↓reduceIte] <;> rfl)
 ·intro p x hx
  have hp : p = 0 ∨ p = 1 := by
   have := (List.getElem?_eq_some_iff.1 hx).1
   simp at this; omega
  rcases hp with rfl | rfl
  ·simp at hx; subst hx
   exact ⟨by rw [Bdd.var_two (by omega)], by decide, by decide, none, by rw [show Bdd.sem d.1 0 = fun _ => false from funext fun c => Bdd.sem_zero _ c]; exact Bdd.least_false, (fun _ => rfl), (fun a h => by cases h)⟩
  ·simp at hx; subst hx
   exact ⟨by rw [Bdd.var_two (by omega)], by decide, by decide, some (0, 0), by rw [show Bdd.sem d.1 1 = fun _ => true from funext fun c => Bdd.sem_one _ c]; exact Bdd.least_true, (fun h => by cases h), (fun a h => by cases h; exact ⟨rfl, rfl⟩)⟩
 rintro m t h1 ⟨i, b, fl, xs, gi, hm, ⟨e3, e4, e8, e9, e16, e17, e18⟩, hxl, hxr, hle, O⟩ R hR
 have hA' := hA.mono hle
 simp only [e17, e18] at O ⊢
 refine q_lssN ?_
 by_cases hi : i < d.1.length
 ·rw [decide_eq_true hi]
  obtain ⟨x, hx⟩ : ∃ x, d.1[i]? = some x := ⟨_, List.getElem?_eq_getElem hi⟩
  obtain ⟨n1, n2, n3, v1, v2, v3⟩ := da.wf.node _ _ hx
  obtain ⟨lo, hlo⟩ : ∃ y, xs[x.lo]? = some y := ⟨_, List.getElem?_eq_getElem (by omega)⟩
  obtain ⟨hh, hhi⟩ : ∃ y, xs[x.hi]? = some y := ⟨_, List.getElem?_eq_getElem (by omega)⟩
  have r1 := hxr _ _ hlo
  have r2 := hxr _ _ hhi
  have q1 := r1.lv
  have q2 := r2.lv
  with_reducible refine Xt (XC (Xy (Xp (Xt (XD ?_)))))
  simp only [sS, e3, e9, e16, e18] at O ⊢
  refine q_ixS hA' ndC_len hx fun bn on he => ?_
  refine XK O (by assumption) (by first | exact Xd rfl | rfl) (Nat.le_of_ble_eq_true rfl) ?_
  refine w_alloc O fun _ _ O => ?_
  (refine XO 0 O rfl rfl rfl (by first | rfl | (simp only [AV.cells, List.all_cons, List.all_nil, XT, Bool.true_and, Bool.and_true] <;> rfl) | (simp only [AV.cells, List.all_cons, List.all_nil, Bool.true_and, Bool.and_true, *] <;> rfl)) fun _ O => ?_; simp only [List.set_cons_zero, AV.cells] at O)
  with_reducible refine q_fa0 ?_
  refine Xv 0 O rfl (by first | exact Xd rfl | rfl) ?_
  with_reducible refine q_fa0 ?_
  refine Xv 0 O rfl (by first | exact Xd rfl | rfl) ?_
  simp only [sS, Nat.reduceAdd] at O ⊢
  refine q_ixX (by omega) ?_
  skip
  refine w_loadX0 1 O rfl chC_len hlo (Xd rfl) (Nat.le_refl _) ?_
  with_reducible refine q_fa0 ?_
  refine Xv 0 O rfl (by first | exact Xd rfl | rfl) ?_
  refine q_ixX (by omega) ?_
  skip
  refine w_loadX0 1 O rfl chC_len hhi (Xd rfl) (Nat.le_refl _) ?_
  refine q_callFn ?_
  simp only [sS] at O ⊢
  refine best_c1_call O.fz (hw.mono hle) (hx'.mono hle) v3 (by omega) (by omega) r1.co r2.co r1.c r2.c fun g4 h4 S => ?_
  have O := O.call S
  refine Yd O rfl rfl fun _ _ O => ?_
  simp only [sS] at O ⊢
  refine w_appendX 2 O rfl (src_own 0 O rfl rfl) (by decide) (ch_flat xs) (by decide) rfl (by omega) fun b' h5 O => ?_
  simp only [List.set_cons_zero, List.set_cons_succ] at O
  with_reducible refine wM_i (Xp ?_)
  simp only [sS, Nat.reduceEqDiff, ↓reduceIte, e18] at O ⊢
  with_reducible refine Ye (by simp only [Xo]; omega) ?_
  with_reducible refine wM_i (Xp ?_)
  refine hR (m - 1) _ _ (by omega) ⟨i + 1, b', false, xs ++ [bstC x.v lo hh], g4, by omega, ⟨?_, ?_, ?_, ?_, ?_, ?_, ?_⟩, by simp [hxl], ?_, hle.trans S.le, ?_⟩
  ·simp only [Tm.get_put, Nat.reduceEqDiff, ↓reduceIte, e3]
  ·simp only [Tm.get_put, Nat.reduceEqDiff, ↓reduceIte, e4]
  ·simp only [Tm.get_put, Nat.reduceEqDiff, ↓reduceIte, e8]
  ·simp only [Tm.get_put, Nat.reduceEqDiff, ↓reduceIte, List.length_append, List.length_singleton]
  ·simp only [Tm.get_put, Nat.reduceEqDiff, ↓reduceIte, e16]
  ·simp only [Tm.get_put, Nat.reduceEqDiff, ↓reduceIte, e17]
  ·simp only [Tm.get_put, ↓reduceIte]
  ·intro p y hy
   by_cases hp : p < xs.length
   ·rw [List.getElem?_append_left hp] at hy
    exact hxr p y hy
   ·have hpl : p = i + 2 := by
     have := (List.getElem?_eq_some_iff.1 hy).1
     simp at this; omega
    subst hpl
    rw [List.getElem?_append_right (by omega), hxl] at hy
    simp at hy
    subst hy
    exact repC_node da.wf hx r1 r2
  ·rw [flat_snoc, List.length_append]
   exact O.pick 5 [2, 3, 4] (by decide) (by decide)
 ·rw [decide_eq_false hi]
  with_reducible refine Xt (Xx (mExit_i (XF (XF (mThen_oe ?_)))))
  simp only [e4, e8, e9] at O ⊢
  with_reducible refine q_fa0 ?_
  refine Xv 2 O rfl (by first | exact Xd rfl | rfl) ?_
  have hpl := da.pl
  unfold Bdd.Pl at hpl
  obtain ⟨y, hy⟩ : ∃ y, xs[d.2]? = some y := ⟨_, List.getElem?_eq_getElem (by omega)⟩
  refine q_ixX (by omega) ?_
  skip
  refine w_loadX0 0 O rfl chC_len hy (Xd rfl) (Nat.le_refl _) ?_
  (refine XO 1 O rfl rfl rfl (by first | rfl | (simp only [AV.cells, List.all_cons, List.all_nil, XT, Bool.true_and, Bool.and_true] <;> rfl) | (simp only [AV.cells, List.all_cons, List.all_nil, Bool.true_and, Bool.and_true, *] <;> rfl)) fun _ O => ?_; simp only [List.set_cons_zero, List.set_cons_succ, AV.cells] at O)
  with_reducible refine mFin_c ?_
  simp only [e8] at O ⊢
  refine cellQ_i 1 O rfl rfl ?_
  exact hQ _ _ y O.done (hxr _ _ hy)
def BestC (S : Bdd.Cfg → Bool) (x : Cho) : Prop := ∃ o, Bdd.Least S o ∧ (o = none → x.b = false ∧ x.c = 0) ∧ ∀ a, o = some a → x.b = true ∧ x.c = a.2
theorem best_call {av : AV} {d : List Bdd.Nd × Nat} {S : Bdd.Cfg → Bool} {wb : Nat} (f : Fz g h) (ha : IsD g av d) (da : Bdd.Dg d S) (hw : WtF g wb)
  (hQ : ∀ g' h' x, Step g h g' h' → BestC S x → Q (.agg (chC x)) h') : Cl f_D_best [av, .ptr wb 0] h Q := by
 have ha' := ha
 obtain ⟨hl1, la, rfl, hA⟩ := ha
 have O := W.start f
 refine Yf ok_D_best (by simp) ?_
 unfold m_D_best
 simp only [sS, XS, Nat.reduceEqDiff, ↓reduceIte] at O ⊢
 refine w_box O fun bd _ O => ?_
 simp only [sS, AV.cells, Nat.reduceAdd] at O ⊢
 refine w_box O fun bw _ O => ?_
 with_reducible refine wM_i ?_
 simp only [sS, AV.cells] at O ⊢
 refine w_alloc O fun br _ O => ?_
 with_reducible refine wM_i ?_
 refine q_build rfl ?_
 refine w_alloc O fun _ _ O => ?_
 (refine XO 0 O rfl rfl rfl (by first | rfl | (simp only [AV.cells, List.all_cons, List.all_nil, XT, Bool.true_and, Bool.and_true] <;> rfl) | (simp only [AV.cells, List.all_cons, List.all_nil, Bool.true_and, Bool.and_true, *] <;> rfl)) fun _ O => ?_; simp only [List.set_cons_zero, AV.cells] at O)
 refine Xv 3 O rfl (by first | exact Xd rfl | rfl) ?_
 refine q_build rfl ?_
 refine Xv 0 O rfl (by first | exact Xd rfl | rfl) ?_
 simp only [sS, Nat.reduceAdd, Nat.reduceEqDiff, ↓reduceIte] at O ⊢
 have hno := (O.own 2 bw _ rfl).2.2.2
 replace O := O.freeze (n := 2) rfl
 have hx : WxF (G.add g bw (.cells false false 180 1 [.ptr wb 0])) bw wb := ⟨_, _, _, _, G.add_self _ _ _⟩
 have hle := G.add_le (g := g) (b := bw) (.cells false false 180 1 [.ptr wb 0]) hno
 refine Fold_call O.fz (ha'.mono hle) da (hw.mono hle) hx fun g3 h3 x S1 hr => ?_
 have hg3 : g3 bw = some (.cells false false 180 1 [.ptr wb 0]) := S1.le _ _ (G.add_self _ _ _)
 have O := O.call S1
 simp only [sS] at O ⊢
 refine w_alloc O fun bc _ O => ?_
 with_reducible refine wM_i ?_
 (refine XO 0 O rfl rfl rfl (by first | rfl | (simp only [AV.cells, List.all_cons, List.all_nil, XT, Bool.true_and, Bool.and_true] <;> rfl) | (simp only [AV.cells, List.all_cons, List.all_nil, Bool.true_and, Bool.and_true, *] <;> rfl)) fun _ O => ?_; simp only [List.set_cons_zero, AV.cells] at O)
 with_reducible refine Xt ?_
 simp only [sS, Nat.reduceAdd, ↓reduceIte] at O ⊢
 with_reducible refine q_fa0 ?_
 refine Xv 0 O rfl (by first | exact Xd rfl | rfl) ?_
 obtain ⟨r1, r2, r3, o, r4, r5, r6⟩ := hr
 have r4' : Bdd.Least S o := by rw [show S = Bdd.sem d.1 d.2 from funext fun c => (da.sem c).symm]; exact r4
 cases hb : x.b with
 | false =>
  with_reducible refine q_nf (XC ?_)
  refine q_build rfl ?_
  (refine XO 2 O rfl rfl rfl (by first | rfl | (simp only [AV.cells, List.all_cons, List.all_nil, XT, Bool.true_and, Bool.and_true] <;> rfl) | (simp only [AV.cells, List.all_cons, List.all_nil, Bool.true_and, Bool.and_true, *] <;> rfl)) fun _ O => ?_; simp only [List.set_cons_zero, List.set_cons_succ, AV.cells] at O)
  with_reducible refine mThen_r (mFin_c ?_)
  refine cellQ_i 2 O rfl rfl ?_
  refine hQ _ _ ⟨0, 0, 0, false⟩ O.done ⟨o, r4', fun _ => ⟨rfl, rfl⟩, fun a ha => ?_⟩
  have := (r6 a ha).1
  rw [hb] at this; cases this
 | true =>
  with_reducible refine q_nt (Xx (Xy (Xp ?_)))
  refine w_loadF O (by assumption) (by first | exact Xd rfl | rfl) ?_
  refine Xv 0 O rfl (by first | exact Xd rfl | rfl) ?_
  simp only [sS, Nat.reduceEqDiff, ↓reduceIte] at O ⊢
  refine down_call (x := x) O.fz (hw.mono (hle.trans S1.le)) (Nat.zero_le _) (by omega) (by omega) r3 fun h5 S2 => ?_
  have O := O.call S2
  (refine XO 2 O rfl rfl rfl (by first | rfl | (simp only [AV.cells, List.all_cons, List.all_nil, XT, Bool.true_and, Bool.and_true] <;> rfl) | (simp only [AV.cells, List.all_cons, List.all_nil, Bool.true_and, Bool.and_true, *] <;> rfl)) fun _ O => ?_; simp only [List.set_cons_zero, List.set_cons_succ, AV.cells] at O)
  with_reducible refine mFin_c ?_
  refine cellQ_i 2 O rfl rfl ?_
  refine hQ _ _ { x with lv := 0 } O.done ⟨o, r4', fun ho => ?_, fun a ha => ?_⟩
  ·have := r5 ho
   rw [hb] at this; cases this
  ·obtain ⟨k1, k2⟩ := r6 a ha
   exact ⟨k1, by rw [k2]⟩
theorem Smallest_call {av : AV} {S : Bdd.Cfg → Bool} (f : Fz g h) (ha : IsS g av S)
  (hQ : ∀ g' h' o, Step g h g' h' → Bdd.Least S o → Q (.tup [uV (match o with | none => 0 | some a => a.2), .bool o.isSome]) h') : Cl f_D_Smallest [av] h Q := by
 obtain ⟨d, ha, da⟩ := ha
 have ha' := ha
 obtain ⟨hl1, la, rfl, hA⟩ := ha
 have O := W.start f
 refine Yf ok_D_Smallest (by simp) ?_
 unfold m_D_Smallest
 simp only [sS, XS, ↓reduceIte] at O ⊢
 refine w_box O fun bd _ O => ?_
 with_reducible refine wM_i (wM_i (wM_i ?_))
 simp only [sS, AV.cells, Nat.reduceAdd] at O ⊢
 refine w_alloc O fun bw _ O => ?_
 with_reducible refine wM_i (Xt (wM_i (XD ?_)))
 simp only [sS, Nat.reduceAdd] at O ⊢
 refine XL (fun m t h' => ∃ i, m + i = 24 ∧ (t.get 1 = .ptr bd 0 ∧ t.get 4 = .ptr bw 0 ∧ t.get 7 = iV i) ∧ W g h g h' [(bw, some (.cells false false 176 48 (wC i))), (bd, some (.cells false false 45 2 [la, iV d.2]))]) 24 ⟨0, rfl, ⟨?_, ?_, ?_⟩, O⟩ ?_
 iterate 3 (simp only [Tm.get_put, Nat.reduceEqDiff, ↓reduceIte])
 rintro m t h1 ⟨i, hm, ⟨e1, e4, e7⟩, O⟩ R hR
 simp only [e7] at O ⊢
 refine q_lssN ?_
 by_cases hi : i < 24
 ·rw [decide_eq_true hi]
  with_reducible refine Xt (XC (Xy (Xp (Xt (XD ?_)))))
  simp only [sS, e4, e7] at O ⊢
  with_reducible refine q_ixArr (by omega) ?_
  with_reducible refine q_ixArr (by omega) ?_
  simp only [sS, Nat.reduceMul] at O ⊢
  refine w_store1 0 O rfl (by rw [wC_len]; omega) rfl rfl fun _ O => ?_
  simp only [List.set_cons_zero, wC_set i hi] at O
  with_reducible refine Xp ?_
  simp only [e7] at O ⊢
  with_reducible refine Ye (by simp only [Xo]; omega) ?_
  with_reducible refine wM_i (Xp ?_)
  refine hR (m - 1) _ _ (by omega) ⟨i + 1, by omega, ⟨?_, ?_, ?_⟩, O⟩
  iterate 3 (simp only [Tm.get_put, Nat.reduceEqDiff, ↓reduceIte, e1, e4])
 ·rw [decide_eq_false hi]
  have : i = 24 := by omega
  subst this
  with_reducible refine Xt (Xx (mExit_i (XF (XF (mThen_oe ?_)))))
  simp only [e1, e4] at O ⊢
  refine Xv 1 O rfl (by first | exact Xd rfl | rfl) ?_
  have hno := (O.own 0 bw _ rfl).2.2.2
  replace O := O.freeze (n := 0) rfl
  have hle := G.add_le (g := g) (b := bw) (.cells false false 176 48 (wC 24)) hno
  refine best_call O.fz (ha'.mono hle) da ⟨_, _, _, _, G.add_self _ _ _⟩ fun g3 h3 x S1 hx => ?_
  have O := O.call S1
  refine w_alloc O fun _ _ O => ?_
  (refine XO 0 O rfl rfl rfl (by first | rfl | (simp only [AV.cells, List.all_cons, List.all_nil, XT, Bool.true_and, Bool.and_true] <;> rfl) | (simp only [AV.cells, List.all_cons, List.all_nil, Bool.true_and, Bool.and_true, *] <;> rfl)) fun _ O => ?_; simp only [List.set_cons_zero, AV.cells] at O)
  with_reducible refine q_fa0 ?_
  refine Xv 0 O rfl (by first | exact Xd rfl | rfl) ?_
  with_reducible refine q_fa0 ?_
  refine Xv 0 O rfl (by first | exact Xd rfl | rfl) ?_
  with_reducible refine wM_i (wM_i (mFin_tt ?_))
  simp only [sS, Nat.reduceAdd, Nat.reduceEqDiff, ↓reduceIte] at O ⊢
  obtain ⟨o, k1, k2, k3⟩ := hx
  have := hQ _ _ o O.done k1
  cases o with
  | none =>
   obtain ⟨k4, k5⟩ := k2 rfl
   rw [k4, k5]
   exact this
  | some a =>
   obtain ⟨k4, k5⟩ := k3 a rfl
   rw [k4, k5]
   exact this
end Go.AM
