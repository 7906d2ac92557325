/- Comparing; the choices of the least configuration. -/
import Derived.Test.YtignppgiamochaaGreatDoorD11
import Derived.Test.YtignppgiamochaaGreatDoorB1
set_option linter.unusedVariables false
set_option linter.unusedSimpArgs false
namespace Go.AM
open Go
variable {g : G} {h : Heap} {Q : MK}
def cmpI (a b : Int) : Int := if a < b then -1 else if b < a then 1 else 0
theorem isNaN_int64_call {K : IntKind} {a : Int} (hQ : Q (.bool false) h) : Cl f_cmp_isNaN_int64 [.int K a] h Q := by
 refine Yf ok_cmp_isNaN_int64 (by simp) ?_
 unfold m_cmp_isNaN_int64
 with_reducible refine wM_i ?_
 simp only [sS, XS, Nat.reduceEqDiff, ↓reduceIte]
 refine q_neI ?_
 rw [decide_eq_true rfl]
 with_reducible refine wM_i (XZ ?_)
 simp only [sS, ↓reduceIte]
 exact hQ
theorem Compare_int64_call {K : IntKind} {a b : Int} (hQ : Q (.int .i64 (cmpI a b)) h) : Cl f_cmp_Compare_int64 [.int K a, .int K b] h Q := by
 refine Yf ok_cmp_Compare_int64 (by simp) ?_
 unfold m_cmp_Compare_int64
 with_reducible refine wM_i ?_
 simp only [sS, XS, Nat.reduceEqDiff, ↓reduceIte]
 refine isNaN_int64_call ?_
 skip
 refine isNaN_int64_call ?_
 with_reducible refine wM_i (Xt (Xx (Xy (Xp (Xt ?_)))))
 simp only [sS, ↓reduceIte]
 with_reducible refine Xx (Xy (Xp (Xt ?_)))
 simp only [sS, Nat.reduceEqDiff, ↓reduceIte]
 refine q_lss ?_
 by_cases h1 : a < b
 ·rw [decide_eq_true h1]
  with_reducible refine XC (wM_i (mThen_r (XZ ?_)))
  simp only [sS, ↓reduceIte]
  unfold cmpI at hQ
  rw [if_pos h1] at hQ
  exact hQ
 ·rw [decide_eq_false h1]
  with_reducible refine Xx (Xy (Xp (Xt ?_)))
  simp only [sS, Nat.reduceEqDiff, ↓reduceIte]
  refine q_gtr ?_
  by_cases h2 : b < a
  ·rw [decide_eq_true h2]
   with_reducible refine XC (wM_i (mThen_r (XZ ?_)))
   simp only [sS, ↓reduceIte]
   unfold cmpI at hQ
   rw [if_neg h1, if_pos h2] at hQ
   exact hQ
  ·rw [decide_eq_false h2]
   with_reducible refine Xx (Xy (Xp (wM_i (XZ ?_))))
   simp only [sS, ↓reduceIte]
   unfold cmpI at hQ
   rw [if_neg h1, if_neg h2] at hQ
   exact hQ
theorem isNaN_uint32_call {K : IntKind} {a : Int} (hQ : Q (.bool false) h) : Cl f_cmp_isNaN_uint32 [.int K a] h Q := by
 refine Yf ok_cmp_isNaN_uint32 (by simp) ?_
 unfold m_cmp_isNaN_uint32
 with_reducible refine wM_i ?_
 simp only [sS, XS, Nat.reduceEqDiff, ↓reduceIte]
 refine q_neI ?_
 rw [decide_eq_true rfl]
 with_reducible refine wM_i (XZ ?_)
 simp only [sS, ↓reduceIte]
 exact hQ
theorem Compare_uint32_call {K : IntKind} {a b : Int} (hQ : Q (.int .i64 (cmpI a b)) h) : Cl f_cmp_Compare_uint32 [.int K a, .int K b] h Q := by
 refine Yf ok_cmp_Compare_uint32 (by simp) ?_
 unfold m_cmp_Compare_uint32
 with_reducible refine wM_i ?_
 simp only [sS, XS, Nat.reduceEqDiff, ↓reduceIte]
 refine isNaN_uint32_call ?_
 skip
 refine isNaN_uint32_call ?_
 with_reducible refine wM_i (Xt (Xx (Xy (Xp (Xt ?_)))))
 simp only [sS, ↓reduceIte]
 with_reducible refine Xx (Xy (Xp (Xt ?_)))
 simp only [sS, Nat.reduceEqDiff, ↓reduceIte]
 refine q_lss ?_
 by_cases h1 : a < b
 ·rw [decide_eq_true h1]
  with_reducible refine XC (wM_i (mThen_r (XZ ?_)))
  simp only [sS, ↓reduceIte]
  unfold cmpI at hQ
  rw [if_pos h1] at hQ
  exact hQ
 ·rw [decide_eq_false h1]
  with_reducible refine Xx (Xy (Xp (Xt ?_)))
  simp only [sS, Nat.reduceEqDiff, ↓reduceIte]
  refine q_gtr ?_
  by_cases h2 : b < a
  ·rw [decide_eq_true h2]
   with_reducible refine XC (wM_i (mThen_r (XZ ?_)))
   simp only [sS, ↓reduceIte]
   unfold cmpI at hQ
   rw [if_neg h1, if_pos h2] at hQ
   exact hQ
  ·rw [decide_eq_false h2]
   with_reducible refine Xx (Xy (Xp (wM_i (XZ ?_))))
   simp only [sS, ↓reduceIte]
   unfold cmpI at hQ
   rw [if_neg h1, if_neg h2] at hQ
   exact hQ
def inC (n : Int) : List AV := [.int .i64 n]
theorem inC_len (n : Int) : (inC n).length = 1 := rfl
def firstNZ : List Int → Int
 | [] => 0
 | x :: r => if x = 0 then firstNZ r else x
theorem Or_int_call {v : AV} {l : List Int} (f : Fz g h) (hs : IsSl g inC 1 v l) (hl : l.length < 4611686018427387904) (hQ : ∀ h', Step g h g h' → Q (.int .i64 (firstNZ l)) h') : Cl f_cmp_Or_int [v] h Q := by
 have O := W.start f
 refine Yf ok_cmp_Or_int (by simp) ?_
 unfold m_cmp_Or_int
 with_reducible refine wM_i (wM_i (Xt (wM_i ?_)))
 simp only [sS, XS, Nat.reduceEqDiff, ↓reduceIte] at O ⊢
 refine q_lenS hs ?_
 with_reducible refine wM_i (wM_i (XD ?_))
 refine XL (fun m t h' => ∃ i, m + i = l.length ∧ (t.get 3 = iV 0 ∧ t.get 6 = v ∧ t.get 7 = iV l.length ∧ t.get 8 = iV i) ∧ firstNZ (l.drop i) = firstNZ l ∧ W g h g h' []) l.length ⟨0, rfl, ⟨?_, ?_, ?_, ?_⟩, rfl, O⟩ ?_
 iterate 4 (simp only [Tm.get_put, Nat.reduceEqDiff, ↓reduceIte])
 rintro m t h1 ⟨i, hm, ⟨e3, e6, e7, e8⟩, hf, O⟩ R hR
 simp only [e7, e8] at O ⊢
 refine q_lssN ?_
 by_cases hi : i < l.length
 ·rw [decide_eq_true hi]
  obtain ⟨x, hx⟩ : ∃ x, l[i]? = some x := ⟨_, List.getElem?_eq_getElem hi⟩
  have hix : l[i] = x := by rw [List.getElem?_eq_getElem hi] at hx; exact Option.some.inj hx
  have hd : firstNZ (l.drop i) = if x = 0 then firstNZ (l.drop (i + 1)) else x := by rw [List.drop_eq_getElem_cons hi, hix]; rfl
  with_reducible refine Xt (XC (Xy (Xp (Xt (XD ?_)))))
  simp only [e3, e6, e8] at O ⊢
  refine q_ixS hs inC_len hx fun b o he => ?_
  refine w_loadEl0 O (by assumption) (by first | exact Xd rfl | rfl) (Nat.le_of_ble_eq_true rfl) ?_
  refine q_neI ?_
  by_cases h0 : x = Int.ofNat 0
  ·rw [decide_eq_true h0]
   simp only [sS] at O ⊢
   with_reducible refine Xx (Xy (mThen_on ?_))
   simp only [e8] at O ⊢
   with_reducible refine Ye (by simp only [Xo]; omega) ?_
   with_reducible refine wM_i (Xp ?_)
   refine hR (m - 1) _ _ (by omega) ⟨i + 1, by omega, ⟨?_, ?_, ?_, ?_⟩, ?_, O⟩
   iterate 4 (simp only [Tm.get_put, Nat.reduceEqDiff, ↓reduceIte, e3, e6, e7])
   rw [← hf, hd, if_pos (show x = 0 from h0)]
  ·rw [decide_eq_false h0]
   simp only [sS] at O ⊢
   with_reducible refine XC (wM_i (mThen_or (mThen_r (mThen_or (XZ ?_)))))
   simp only [sS, ↓reduceIte] at O ⊢
   have := hQ _ O.done
   rw [← hf, hd, if_neg (show ¬ x = 0 from h0)] at this
   exact this
 ·rw [decide_eq_false hi]
  with_reducible refine Xt (Xx (mExit_i (XF (XF (mThen_oe (wM_i (XZ ?_)))))))
  simp only [sS, ↓reduceIte, e3] at O ⊢
  have hd : l.drop i = [] := List.drop_eq_nil_of_le (by omega)
  rw [hd] at hf
  rw [← hf] at hQ
  exact hQ _ O.done
structure Cho where
 lv : Nat
 co : Nat
 c : Nat
 b : Bool
abbrev chC (x : Cho) : List AV := [iV x.lv, iV x.co, uV x.c, .bool x.b]
def wC (i : Nat) : List AV := (List.range 48).map fun k => iV (if k % 2 = 1 ∧ k / 2 < i then 1 else 0)
theorem wC_len (i : Nat) : (wC i).length = 48 := by simp [wC]
theorem wC_get (i k : Nat) (hk : k < 48) : (wC i)[k]? = some (iV (if k % 2 = 1 ∧ k / 2 < i then 1 else 0)) := by
 unfold wC
 rw [List.getElem?_map, List.getElem?_range hk]; rfl
theorem wC_set (i : Nat) (hi : i < 24) : (wC i).set (i * 2 + 1) (iV 1) = wC (i + 1) := by
 apply List.ext_getElem?
 intro k
 rw [List.getElem?_set]
 by_cases hk : k < 48
 ·rw [wC_get (i + 1) _ hk, wC_len]
  by_cases e : i * 2 + 1 = k
  ·rw [if_pos e, if_pos (by omega), if_pos (by omega)]
  ·rw [if_neg e, wC_get i _ hk]
   congr 3
   apply propext
   constructor
   ·rintro ⟨h1, h2⟩; exact ⟨h1, by omega⟩
   ·rintro ⟨h1, h2⟩; exact ⟨h1, by omega⟩
 ·have h1 : i * 2 + 1 ≠ k := by omega
  rw [if_neg h1, List.getElem?_eq_none (by rw [wC_len]; omega), List.getElem?_eq_none (by rw [wC_len]; omega)]
theorem part_one {cs : List AV} {o : Nat} {v : AV} (h : cs[o]? = some v) : partA ⟨false, 1⟩ cs o = some v := by
 have hl := (List.getElem?_eq_some_iff.1 h).1
 simp only [partA, takeAt_eq o cs 1 (by omega)]
 rw [List.drop_eq_getElem_cons hl, List.take_succ_cons, List.take_zero]
 rw [List.getElem?_eq_getElem hl] at h
 exact h
theorem w_part {i k : Nat} (hi : i < 24) (hk : k < 2) : partA ⟨false, 1⟩ (wC 24) (i * 2 + k) = some (iV k) := by
 refine part_one ?_
 rw [wC_get _ _ (by omega)]
 congr 2
 have : k = 0 ∨ k = 1 := by omega
 rcases this with rfl | rfl
 ·rw [if_neg (by omega)]
 ·rw [if_pos (by omega)]
def WtF (g : G) (wb : Nat) : Prop := ∃ ro sp e z, g wb = some (.cells ro sp e z (wC 24))
theorem WtF.mono {g g' : G} (l : Gle g g') {wb : Nat} : WtF g wb → WtF g' wb := fun ⟨ro, sp, e, z, h⟩ => ⟨ro, sp, e, z, l _ _ h⟩
def stepC (x : Cho) (i : Nat) (on : Bool) : Cho := ⟨i, x.co + (if on then 1 else 0), if on then x.c ||| 1 <<< i else x.c, x.b⟩
theorem step_call {wb : Nat} {x : Cho} {i : Nat} {on : Bool} (f : Fz g h) (hw : WtF g wb) (hi : i < 24) (hco : x.co < 1000000) (hc : x.c < 16777216) (hQ : ∀ h', Step g h g h' → Q (.agg (chC (stepC x i on))) h') : Cl f_weights_step [.ptr wb 0, .agg (chC x), iV i, .bool on] h Q := by
 obtain ⟨ro, sp, e, z, hg⟩ := hw
 cases on with
 | true =>
  have O := W.start f
  refine Yf ok_weights_step (by simp) ?_
  unfold m_weights_step
  refine w_box O fun _ _ O => ?_
  with_reducible refine wM_i ?_
  refine w_alloc O fun _ _ O => ?_
  with_reducible refine wM_i ?_
  simp only [sS, XS, AV.cells, Nat.reduceAdd, Nat.reduceEqDiff, ↓reduceIte] at O ⊢
  with_reducible refine q_fa0 ?_
  (refine w_store1 1 O rfl (Nat.le_of_ble_eq_true rfl) (by first | exact grV_cells _ _ | rfl | assumption) (by first | exact XT _ _ | rfl | assumption) fun _ O => ?_; simp only [List.set_cons_zero, List.set_cons_succ] at O)
  with_reducible refine Xt ?_
  simp only [sS, Nat.reduceEqDiff, ↓reduceIte] at O ⊢
  with_reducible refine XC ?_
  simp only [sS, Nat.reduceEqDiff, ↓reduceIte] at O ⊢
  with_reducible refine q_fa0 ?_
  refine Xv 1 O rfl (by first | exact Xd rfl | rfl) ?_
  with_reducible refine q_nil ?_
  with_reducible refine q_ixArr (by omega) ?_
  with_reducible refine q_ixArr (by omega) ?_
  simp only [sS, Nat.reduceMul] at O ⊢
  refine w_loadF O hg (w_part (k := 1) hi (by omega)) ?_
  with_reducible refine Ye (by simp only [Xo]; omega) ?_
  with_reducible refine q_fa0 ?_
  (refine w_store1 1 O rfl (Nat.le_of_ble_eq_true rfl) (by first | exact grV_cells _ _ | rfl | assumption) (by first | exact XT _ _ | rfl | assumption) fun _ O => ?_; simp only [List.set_cons_zero, List.set_cons_succ] at O)
  with_reducible refine q_fa0 ?_
  refine Xv 1 O rfl (by first | exact Xd rfl | rfl) ?_
  refine q_shlU (by omega) (by rw [← Nat.shiftLeft_eq]; exact shl_lt (by omega)) ?_
  have := shl_lt (i := i) (by omega)
  with_reducible refine q_orN (by simp only [Xo]; omega) (by simp only [Xo]; omega) ?_
  with_reducible refine q_fa0 ?_
  (refine w_store1 1 O rfl (Nat.le_of_ble_eq_true rfl) (by first | exact grV_cells _ _ | rfl | assumption) (by first | exact XT _ _ | rfl | assumption) fun _ O => ?_; simp only [List.set_cons_zero, List.set_cons_succ] at O)
  with_reducible refine Xp ?_
  refine Xv 1 O rfl (by first | exact Xd rfl | rfl) ?_
  (refine XO 0 O rfl rfl rfl (by first | rfl | (simp only [AV.cells, List.all_cons, List.all_nil, XT, Bool.true_and, Bool.and_true] <;> rfl) | (simp only [AV.cells, List.all_cons, List.all_nil, Bool.true_and, Bool.and_true, *] <;> rfl)) fun _ O => ?_; simp only [List.set_cons_zero, AV.cells] at O)
  with_reducible refine mFin_c ?_
  refine cellQ_i 0 O rfl rfl ?_
  exact hQ _ O.done
 | false =>
  have O := W.start f
  refine Yf ok_weights_step (by simp) ?_
  unfold m_weights_step
  refine w_box O fun _ _ O => ?_
  with_reducible refine wM_i ?_
  refine w_alloc O fun _ _ O => ?_
  with_reducible refine wM_i ?_
  simp only [sS, XS, AV.cells, Nat.reduceAdd, Nat.reduceEqDiff, ↓reduceIte] at O ⊢
  with_reducible refine q_fa0 ?_
  (refine w_store1 1 O rfl (Nat.le_of_ble_eq_true rfl) (by first | exact grV_cells _ _ | rfl | assumption) (by first | exact XT _ _ | rfl | assumption) fun _ O => ?_; simp only [List.set_cons_zero, List.set_cons_succ] at O)
  with_reducible refine Xt ?_
  simp only [sS, Nat.reduceEqDiff, ↓reduceIte] at O ⊢
  with_reducible refine Xx ?_
  simp only [sS, Nat.reduceEqDiff, ↓reduceIte] at O ⊢
  with_reducible refine q_fa0 ?_
  refine Xv 1 O rfl (by first | exact Xd rfl | rfl) ?_
  with_reducible refine q_nil ?_
  with_reducible refine q_ixArr (by omega) ?_
  with_reducible refine q_ixArr (by omega) ?_
  simp only [sS, Nat.reduceMul] at O ⊢
  refine w_loadF O hg (w_part (k := 0) hi (by omega)) ?_
  with_reducible refine Ye (by simp only [Xo]; omega) ?_
  with_reducible refine q_fa0 ?_
  (refine w_store1 1 O rfl (Nat.le_of_ble_eq_true rfl) (by first | exact grV_cells _ _ | rfl | assumption) (by first | exact XT _ _ | rfl | assumption) fun _ O => ?_; simp only [List.set_cons_zero, List.set_cons_succ] at O)
  with_reducible refine Xp ?_
  refine Xv 1 O rfl (by first | exact Xd rfl | rfl) ?_
  (refine XO 0 O rfl rfl rfl (by first | rfl | (simp only [AV.cells, List.all_cons, List.all_nil, XT, Bool.true_and, Bool.and_true] <;> rfl) | (simp only [AV.cells, List.all_cons, List.all_nil, Bool.true_and, Bool.and_true, *] <;> rfl)) fun _ O => ?_; simp only [List.set_cons_zero, AV.cells] at O)
  with_reducible refine mFin_c ?_
  refine cellQ_i 0 O rfl rfl ?_
  exact hQ _ O.done
theorem down_call {wb : Nat} {x : Cho} {level : Nat} (f : Fz g h) (hw : WtF g wb) (hl : level ≤ x.lv) (hx : x.lv ≤ 24) (hco : x.co < 1000000) (hc : x.c < 16777216) (hQ : ∀ h', Step g h g h' → Q (.agg (chC { x with lv := level })) h') : Cl f_weights_down [.ptr wb 0, .agg (chC x), iV level] h Q := by
 have O := W.start f
 have hw' := hw
 obtain ⟨ro, sp, e, z, hg⟩ := hw
 obtain ⟨lv, co, c, b⟩ := x
 dsimp only at hl hx hco hc hQ
 refine Yf ok_weights_down (by simp) ?_
 unfold m_weights_down
 simp only [sS, XS, Nat.reduceAdd, Nat.reduceEqDiff, ↓reduceIte] at O ⊢
 refine w_box O fun bx _ O => ?_
 with_reducible refine wM_i ?_
 simp only [sS, AV.cells, Nat.reduceAdd] at O ⊢
 refine w_alloc O fun br _ O => ?_
 with_reducible refine wM_i (Xt ?_)
 simp only [sS, Nat.reduceAdd, Nat.reduceEqDiff, ↓reduceIte] at O ⊢
 with_reducible refine q_fa0 ?_
 refine Xv 1 O rfl (by first | exact Xd rfl | rfl) ?_
 simp only [sS] at O ⊢
 have main : ∀ (t : Tm) (h' : Heap) (n : Nat), n + level = lv → (t.get 0 = .ptr wb 0 ∧ t.get 2 = iV level ∧ t.get 4 = .ptr bx 0 ∧ t.get 6 = .ptr br 0 ∧ t.get 7 = (match lv with | 0 => .int .i64 (-1) | k + 1 => iV k)) → W g h g h' [(br, some (.cells false false 178 4 [iV 0, iV 0, uV 0, .bool false])), (bx, some (.cells false false 178 4 (chC ⟨lv, co, c, b⟩)))] → True := fun _ _ _ _ _ _ => trivial
 clear main
 cases lv with
 | zero =>
  have hl0 : level = 0 := by omega
  subst hl0
  refine q_sub1 ?_
  with_reducible refine wM_i (XD ?_)
  refine XL (fun _ t h' => (t.get 2 = iV 0 ∧ t.get 4 = .ptr bx 0 ∧ t.get 6 = .ptr br 0 ∧ t.get 7 = .int .i64 (-1)) ∧ W g h g h' [(br, some (.cells false false 178 4 [iV 0, iV 0, uV 0, .bool false])), (bx, some (.cells false false 178 4 (chC ⟨0, co, c, b⟩)))]) 0 ⟨⟨?_, ?_, ?_, ?_⟩, O⟩ ?_
  iterate 4 (simp only [Tm.get_put, Nat.reduceEqDiff, ↓reduceIte])
  rintro n t h1 ⟨⟨e2, e4, e6, e7⟩, O⟩ R hR
  with_reducible refine Xt ?_
  simp only [e2, e7] at O ⊢
  refine q_geq ?_
  rw [decide_eq_false (by decide)]
  with_reducible refine Xx (mExit_i (XF (XF (mThen_oe ?_))))
  simp only [e4, e6] at O ⊢
  refine Xv 1 O rfl (by first | exact Xd rfl | rfl) ?_
  (refine XO 0 O rfl rfl rfl (by first | rfl | (simp only [AV.cells, List.all_cons, List.all_nil, XT, Bool.true_and, Bool.and_true] <;> rfl) | (simp only [AV.cells, List.all_cons, List.all_nil, Bool.true_and, Bool.and_true, *] <;> rfl)) fun _ O => ?_; simp only [List.set_cons_zero, AV.cells] at O)
  with_reducible refine mFin_c ?_
  simp only [e6] at O ⊢
  refine cellQ_i 0 O rfl rfl ?_
  exact hQ _ O.done
 | succ lv =>
  with_reducible refine q_subN (by omega) (by simp only [Xo]; omega) ?_
  with_reducible refine wM_i (XD ?_)
  refine XL (fun n t h' => n + level ≤ lv + 1 ∧ (t.get 0 = .ptr wb 0 ∧ t.get 2 = iV level ∧ t.get 4 = .ptr bx 0 ∧ t.get 6 = .ptr br 0 ∧ t.get 7 = (match n + level with | 0 => .int .i64 (-1) | k + 1 => iV k)) ∧ W g h g h' [(br, some (.cells false false 178 4 [iV 0, iV 0, uV 0, .bool false])), (bx, some (.cells false false 178 4 (chC ⟨n + level, co, c, b⟩)))]) (lv + 1 - level) ⟨by omega, ⟨?_, ?_, ?_, ?_, ?_⟩, ?_⟩ ?_
  iterate 4 (simp only [Tm.get_put, Nat.reduceEqDiff, ↓reduceIte])
  ·rw [show lv + 1 - level + level = lv + 1 by omega]
   simp only [Tm.get_put, ↓reduceIte, Nat.add_sub_cancel]
  ·rw [show lv + 1 - level + level = lv + 1 by omega]
   exact O
  rintro n t h1 ⟨hn, ⟨e0, e2, e4, e6, e7⟩, O⟩ R hR
  cases n with
  | zero =>
   rw [Nat.zero_add] at e7 O
   with_reducible refine Xt ?_
   simp only [e2] at O ⊢
   cases level with
   | zero =>
    dsimp only at e7
    simp only [e7]
    refine q_geq ?_
    rw [decide_eq_false (by decide)]
    with_reducible refine Xx (mExit_i (XF (XF (mThen_oe ?_))))
    simp only [e4, e6] at O ⊢
    refine Xv 1 O rfl (by first | exact Xd rfl | rfl) ?_
    (refine XO 0 O rfl rfl rfl (by first | rfl | (simp only [AV.cells, List.all_cons, List.all_nil, XT, Bool.true_and, Bool.and_true] <;> rfl) | (simp only [AV.cells, List.all_cons, List.all_nil, Bool.true_and, Bool.and_true, *] <;> rfl)) fun _ O => ?_; simp only [List.set_cons_zero, AV.cells] at O)
    with_reducible refine mFin_c ?_
    simp only [e6] at O ⊢
    refine cellQ_i 0 O rfl rfl ?_
    exact hQ _ O.done
   | succ level =>
    dsimp only at e7
    simp only [e7]
    refine q_geqN ?_
    rw [decide_eq_false (by omega)]
    with_reducible refine Xx (mExit_i (XF (XF (mThen_oe ?_))))
    simp only [e4, e6] at O ⊢
    refine Xv 1 O rfl (by first | exact Xd rfl | rfl) ?_
    (refine XO 0 O rfl rfl rfl (by first | rfl | (simp only [AV.cells, List.all_cons, List.all_nil, XT, Bool.true_and, Bool.and_true] <;> rfl) | (simp only [AV.cells, List.all_cons, List.all_nil, Bool.true_and, Bool.and_true, *] <;> rfl)) fun _ O => ?_; simp only [List.set_cons_zero, AV.cells] at O)
    with_reducible refine mFin_c ?_
    simp only [e6] at O ⊢
    refine cellQ_i 0 O rfl rfl ?_
    exact hQ _ O.done
  | succ n =>
   have e7' : t.get 7 = iV (n + level) := by rw [e7, show n + 1 + level = (n + level) + 1 by omega]
   with_reducible refine Xt ?_
   simp only [e2, e7'] at O ⊢
   refine q_geqN ?_
   rw [decide_eq_true (by omega)]
   with_reducible refine XC (Xy (Xp (Xt (XD ?_))))
   simp only [sS, e0, e4, e7'] at O ⊢
   refine Xv 1 O rfl (by first | exact Xd rfl | rfl) ?_
   with_reducible refine q_nil ?_
   with_reducible refine q_ixArr (by omega) ?_
   with_reducible refine q_ixArr (by omega) ?_
   simp only [sS, Nat.reduceMul] at O ⊢
   refine w_loadF O hg (w_part (k := 1) (by omega) (by omega)) ?_
   with_reducible refine q_nil ?_
   with_reducible refine q_ixArr (by omega) ?_
   with_reducible refine q_ixArr (by omega) ?_
   simp only [sS, Nat.reduceMul] at O ⊢
   refine w_loadF O hg (w_part (k := 0) (by omega) (by omega)) ?_
   refine q_lssN ?_
   rw [decide_eq_false (by omega)]
   refine step_call (x := ⟨n + 1 + level, co, c, b⟩) O.fz hw' (by omega) hco hc fun h2 S => ?_
   have O := O.call S
   (refine XO 1 O rfl rfl rfl (by first | rfl | (simp only [AV.cells, List.all_cons, List.all_nil, XT, Bool.true_and, Bool.and_true] <;> rfl) | (simp only [AV.cells, List.all_cons, List.all_nil, Bool.true_and, Bool.and_true, *] <;> rfl)) fun _ O => ?_; simp only [List.set_cons_zero, List.set_cons_succ, AV.cells] at O)
   with_reducible refine Xp ?_
   simp only [e7'] at O ⊢
   rcases Nat.eq_zero_or_pos (n + level) with h0 | h0
   ·rw [h0]
    refine q_sub1 ?_
    with_reducible refine wM_i (Xp ?_)
    refine hR n _ _ (by omega) ⟨by omega, ⟨?_, ?_, ?_, ?_, ?_⟩, ?_⟩
    iterate 4 (simp only [Tm.get_put, Nat.reduceEqDiff, ↓reduceIte, e0, e2, e4, e6])
    ·rw [h0]
     simp only [Tm.get_put, ↓reduceIte]
    ·rw [h0] at O ⊢
     exact O
   ·refine q_subN (by omega) (by simp only [Xo]; omega) ?_
    with_reducible refine wM_i (Xp ?_)
    refine hR n _ _ (by omega) ⟨by omega, ⟨?_, ?_, ?_, ?_, ?_⟩, O⟩
    iterate 4 (simp only [Tm.get_put, Nat.reduceEqDiff, ↓reduceIte, e0, e2, e4, e6])
    obtain ⟨k, hk⟩ : ∃ k, n + level = k + 1 := ⟨n + level - 1, by omega⟩
    rw [hk]
    simp only [Tm.get_put, ↓reduceIte, Nat.add_sub_cancel]
def betC (x y : Cho) : Cho := if x.b = false ∨ (y.b = true ∧ (y.co < x.co ∨ (y.co = x.co ∧ y.c < x.c))) then y else x
theorem or2 (a b : Int) : firstNZ [a, b] = if a = 0 then b else a := by
 simp only [firstNZ]
 by_cases h : a = 0
 ·simp only [if_pos h]
  by_cases h2 : b = 0
  ·rw [if_pos h2, h2]
  ·rw [if_neg h2]
 ·simp only [if_neg h]
theorem isSl_lit {g : G} {b : Nat} {ro sp : Bool} {e z : Nat} {l : List Int} (h : g b = some (.cells ro sp e z (flat inC l))) {cap : Cap} : IsSl g inC 1 (.sl b 0 l.length cap) l :=
 .inr ⟨b, 0, cap, rfl, ro, sp, e, z, _, h, takeAt_all rfl⟩
theorem cmp_lt (a b c d : Nat) : (firstNZ [cmpI (Int.ofNat a) (Int.ofNat b), cmpI (Int.ofNat c) (Int.ofNat d)] < Int.ofNat 0) = (a < b ∨ (a = b ∧ c < d)) := by
 rw [or2]
 unfold cmpI
 simp only [ofNat_lt']
 apply propext
 by_cases h1 : a < b
 ·simp only [if_pos h1]
  exact ⟨fun _ => .inl h1, fun _ => by rw [if_neg (by decide)]; decide⟩
 ·simp only [if_neg h1]
  by_cases h2 : b < a
  ·simp only [if_pos h2]
   constructor
   ·intro h; rw [if_neg (by decide)] at h; exact absurd h (by decide)
   ·intro h; omega
  ·simp only [if_neg h2, if_true]
   by_cases h3 : c < d
   ·simp only [if_pos h3]
    exact ⟨fun _ => .inr ⟨by omega, h3⟩, fun _ => by decide⟩
   ·simp only [if_neg h3]
    constructor
    ·intro h
     by_cases h4 : d < c
     ·rw [if_pos h4] at h; exact absurd h (by decide)
     ·rw [if_neg h4] at h; exact absurd h (by decide)
    ·intro h; omega
theorem better_call {x y : Cho} (f : Fz g h) (hQ : ∀ g' h', Step g h g' h' → Q (.agg (chC (betC x y))) h') : Cl f_diagram_better [.agg (chC x), .agg (chC y)] h Q := by
 obtain ⟨l1, co1, c1, b1⟩ := x
 obtain ⟨l2, co2, c2, b2⟩ := y
 cases b1 with
 | false =>
  have O := W.start f
  refine Yf ok_diagram_better (by simp) ?_
  unfold m_diagram_better
  refine w_box O fun _ _ O => ?_
  with_reducible refine wM_i ?_
  refine w_box O fun _ _ O => ?_
  refine w_alloc O fun _ _ O => ?_
  with_reducible refine wM_i (Xt ?_)
  simp only [sS, XS, AV.cells, Nat.reduceAdd, Nat.reduceEqDiff, ↓reduceIte] at O ⊢
  with_reducible refine q_fa0 ?_
  refine Xv 2 O rfl (by first | exact Xd rfl | rfl) ?_
  with_reducible refine q_nf (XI (XI (XI (mIf_u (mIf_u (mIf_u (mIf_u (mIf_u (mIfA_u (mIf_u (mIfA_u (mIf_u (mIf_u (mIf_u (mIf_u (mIf_u (XI (XX ?_))))))))))))))))))
  refine mStay_n ?_
  with_reducible refine XC ?_
  refine Xv 1 O rfl (by first | exact Xd rfl | rfl) ?_
  (refine XO 0 O rfl rfl rfl (by first | rfl | (simp only [AV.cells, List.all_cons, List.all_nil, XT, Bool.true_and, Bool.and_true] <;> rfl) | (simp only [AV.cells, List.all_cons, List.all_nil, Bool.true_and, Bool.and_true, *] <;> rfl)) fun _ O => ?_; simp only [List.set_cons_zero, AV.cells] at O)
  with_reducible refine mThen_r (mFin_c ?_)
  refine cellQ_i 0 O rfl rfl ?_
  have e : betC ⟨l1, co1, c1, false⟩ ⟨l2, co2, c2, b2⟩ = ⟨l2, co2, c2, b2⟩ := by unfold betC; rw [if_pos (.inl rfl)]
  rw [e] at hQ
  exact hQ _ _ O.done
 | true =>
  cases b2 with
  | false =>
   have O := W.start f
   refine Yf ok_diagram_better (by simp) ?_
   unfold m_diagram_better
   refine w_box O fun _ _ O => ?_
   with_reducible refine wM_i ?_
   refine w_box O fun _ _ O => ?_
   refine w_alloc O fun _ _ O => ?_
   with_reducible refine wM_i (Xt ?_)
   simp only [sS, XS, AV.cells, Nat.reduceAdd, Nat.reduceEqDiff, ↓reduceIte] at O ⊢
   with_reducible refine q_fa0 ?_
   refine Xv 2 O rfl (by first | exact Xd rfl | rfl) ?_
   with_reducible refine q_nt (XB (q_fa0 (XB ?_)))
   refine Xv 1 O rfl (by first | exact Xd rfl | rfl) ?_
   with_reducible refine XB (Yb (Yb (Yb (Yb (Yb (mIfA_f (Yb (mIfA_f (Yb (Yb (Yb (Yb (Yb (XB (Ya (Ya ?_))))))))))))))))
   refine mStay_n ?_
   with_reducible refine Xx (Xy (Xp ?_))
   refine Xv 2 O rfl (by first | exact Xd rfl | rfl) ?_
   (refine XO 0 O rfl rfl rfl (by first | rfl | (simp only [AV.cells, List.all_cons, List.all_nil, XT, Bool.true_and, Bool.and_true] <;> rfl) | (simp only [AV.cells, List.all_cons, List.all_nil, Bool.true_and, Bool.and_true, *] <;> rfl)) fun _ O => ?_; simp only [List.set_cons_zero, AV.cells] at O)
   with_reducible refine mFin_c ?_
   refine cellQ_i 0 O rfl rfl ?_
   have e : betC ⟨l1, co1, c1, true⟩ ⟨l2, co2, c2, false⟩ = ⟨l1, co1, c1, true⟩ := by unfold betC; rw [if_neg (by simp)]
   rw [e] at hQ
   exact hQ _ _ O.done
  | true =>
   have O := W.start f
   refine Yf ok_diagram_better (by simp) ?_
   unfold m_diagram_better
   refine w_box O fun _ _ O => ?_
   with_reducible refine wM_i ?_
   refine w_box O fun _ _ O => ?_
   refine w_alloc O fun _ _ O => ?_
   with_reducible refine wM_i (Xt ?_)
   simp only [sS, XS, AV.cells, Nat.reduceAdd, Nat.reduceEqDiff, ↓reduceIte] at O ⊢
   with_reducible refine q_fa0 ?_
   refine Xv 2 O rfl (by first | exact Xd rfl | rfl) ?_
   with_reducible refine q_nt (XB (q_fa0 (XB ?_)))
   refine Xv 1 O rfl (by first | exact Xd rfl | rfl) ?_
   with_reducible refine XB (Yg (q_fa0 (Yg ?_)))
   refine Xv 1 O rfl (by first | exact Xd rfl | rfl) ?_
   with_reducible refine Yg (q_fa0 (Yg ?_))
   refine Xv 2 O rfl (by first | exact Xd rfl | rfl) ?_
   with_reducible refine Yg (q_fa0 (mIfA_t ?_))
   refine Xv 1 O rfl (by first | exact Xd rfl | rfl) ?_
   with_reducible refine Yg (q_fa0 (mIfA_t ?_))
   refine Xv 2 O rfl (by first | exact Xd rfl | rfl) ?_
   with_reducible refine Yg ?_
   simp only [sS] at O ⊢
   refine Compare_int64_call ?_
   with_reducible refine Yg ?_
   refine Compare_uint32_call ?_
   with_reducible refine Yg ?_
   refine Yd O rfl rfl fun _ _ O => ?_
   with_reducible refine Yg ?_
   simp only [sS] at O ⊢
   have O2 := O.freeze (n := 0) rfl
   refine Or_int_call (l := [cmpI (Int.ofNat co2) (Int.ofNat co1), cmpI (Int.ofNat c2) (Int.ofNat c1)]) O2.fz (isSl_lit (G.add_self _ _ _)) (by simp) fun h3 S => ?_
   have O := O2.call S
   with_reducible refine Yg ?_
   simp only [sS] at O ⊢
   refine q_lss ?_
   simp only [cmp_lt]
   by_cases hc : co2 < co1 ∨ (co2 = co1 ∧ c2 < c1)
   ·rw [decide_eq_true hc]
    with_reducible refine XB (XX (Ya ?_))
    refine mStay_c (by repeat (first | exact mStay1_n | refine Xe 0 (by assumption) rfl rfl (AV.beq_refl _) ?_ | refine Xe 1 (by assumption) rfl rfl (AV.beq_refl _) ?_ | refine Xe 2 (by assumption) rfl rfl (AV.beq_refl _) ?_ | refine Xe 3 (by assumption) rfl rfl (AV.beq_refl _) ?_ | refine Xe 4 (by assumption) rfl rfl (AV.beq_refl _) ?_ | refine Xe 5 (by assumption) rfl rfl (AV.beq_refl _) ?_ | refine Xe 6 (by assumption) rfl rfl (AV.beq_refl _) ?_ | refine Xe 7 (by assumption) rfl rfl (AV.beq_refl _) ?_ | refine Xe 8 (by assumption) rfl rfl (AV.beq_refl _) ?_ | refine st_loadF (by assumption) (by assumption) rfl (AV.beq_refl _) ?_)) ?_
    refine mStay_c (by repeat (first | exact mStay1_n | refine Xe 0 (by assumption) rfl rfl (AV.beq_refl _) ?_ | refine Xe 1 (by assumption) rfl rfl (AV.beq_refl _) ?_ | refine Xe 2 (by assumption) rfl rfl (AV.beq_refl _) ?_ | refine Xe 3 (by assumption) rfl rfl (AV.beq_refl _) ?_ | refine Xe 4 (by assumption) rfl rfl (AV.beq_refl _) ?_ | refine Xe 5 (by assumption) rfl rfl (AV.beq_refl _) ?_ | refine Xe 6 (by assumption) rfl rfl (AV.beq_refl _) ?_ | refine Xe 7 (by assumption) rfl rfl (AV.beq_refl _) ?_ | refine Xe 8 (by assumption) rfl rfl (AV.beq_refl _) ?_ | refine st_loadF (by assumption) (by assumption) rfl (AV.beq_refl _) ?_)) ?_
    refine mStay_n ?_
    with_reducible refine XC ?_
    refine Xv 2 O rfl (by first | exact Xd rfl | rfl) ?_
    (refine XO 1 O rfl rfl rfl (by first | rfl | (simp only [AV.cells, List.all_cons, List.all_nil, XT, Bool.true_and, Bool.and_true] <;> rfl) | (simp only [AV.cells, List.all_cons, List.all_nil, Bool.true_and, Bool.and_true, *] <;> rfl)) fun _ O => ?_; simp only [List.set_cons_zero, List.set_cons_succ, AV.cells] at O)
    with_reducible refine mThen_r (mFin_c ?_)
    refine cellQ_i 1 O rfl rfl ?_
    have e : betC ⟨l1, co1, c1, true⟩ ⟨l2, co2, c2, true⟩ = ⟨l2, co2, c2, true⟩ := by unfold betC; rw [if_pos (.inr ⟨rfl, hc⟩)]
    rw [e] at hQ
    exact hQ _ _ O.done
   ·rw [decide_eq_false hc]
    with_reducible refine XB (XX (Ya ?_))
    refine mStay_c (by repeat (first | exact mStay1_n | refine Xe 0 (by assumption) rfl rfl (AV.beq_refl _) ?_ | refine Xe 1 (by assumption) rfl rfl (AV.beq_refl _) ?_ | refine Xe 2 (by assumption) rfl rfl (AV.beq_refl _) ?_ | refine Xe 3 (by assumption) rfl rfl (AV.beq_refl _) ?_ | refine Xe 4 (by assumption) rfl rfl (AV.beq_refl _) ?_ | refine Xe 5 (by assumption) rfl rfl (AV.beq_refl _) ?_ | refine Xe 6 (by assumption) rfl rfl (AV.beq_refl _) ?_ | refine Xe 7 (by assumption) rfl rfl (AV.beq_refl _) ?_ | refine Xe 8 (by assumption) rfl rfl (AV.beq_refl _) ?_ | refine st_loadF (by assumption) (by assumption) rfl (AV.beq_refl _) ?_)) ?_
    refine mStay_c (by repeat (first | exact mStay1_n | refine Xe 0 (by assumption) rfl rfl (AV.beq_refl _) ?_ | refine Xe 1 (by assumption) rfl rfl (AV.beq_refl _) ?_ | refine Xe 2 (by assumption) rfl rfl (AV.beq_refl _) ?_ | refine Xe 3 (by assumption) rfl rfl (AV.beq_refl _) ?_ | refine Xe 4 (by assumption) rfl rfl (AV.beq_refl _) ?_ | refine Xe 5 (by assumption) rfl rfl (AV.beq_refl _) ?_ | refine Xe 6 (by assumption) rfl rfl (AV.beq_refl _) ?_ | refine Xe 7 (by assumption) rfl rfl (AV.beq_refl _) ?_ | refine Xe 8 (by assumption) rfl rfl (AV.beq_refl _) ?_ | refine st_loadF (by assumption) (by assumption) rfl (AV.beq_refl _) ?_)) ?_
    refine mStay_n ?_
    with_reducible refine Xx (Xy (Xp ?_))
    refine Xv 3 O rfl (by first | exact Xd rfl | rfl) ?_
    (refine XO 1 O rfl rfl rfl (by first | rfl | (simp only [AV.cells, List.all_cons, List.all_nil, XT, Bool.true_and, Bool.and_true] <;> rfl) | (simp only [AV.cells, List.all_cons, List.all_nil, Bool.true_and, Bool.and_true, *] <;> rfl)) fun _ O => ?_; simp only [List.set_cons_zero, List.set_cons_succ, AV.cells] at O)
    with_reducible refine mFin_c ?_
    refine cellQ_i 1 O rfl rfl ?_
    have e : betC ⟨l1, co1, c1, true⟩ ⟨l2, co2, c2, true⟩ = ⟨l1, co1, c1, true⟩ := by unfold betC; rw [if_neg (by simp only [Bool.true_eq_false, true_and, false_or]; exact hc)]
    rw [e] at hQ
    exact hQ _ _ O.done
end Go.AM
