/- Rows of facts: their features. -/
import Derived.Test.YtignppgiamochaaGreatDoorD12
set_option linter.unusedVariables false
set_option linter.unusedSimpArgs false
namespace Go.AM
open Go
variable {g : G} {h : Heap} {Q : MK}
open Bdd (cfgs XQ XV inB inCu bitsN bitsF setS cuS Cu allF)
structure Rw where
 k : Int
 tok : Int
 oth : Int
 lv : AV
 cs : List Cu
def rwC (x : Rw) : List AV := [.int .u8 x.k, .int .i64 x.tok, .int .i64 x.oth, x.lv]
theorem rwC_len (x : Rw) : (rwC x).length = 4 := rfl
def IsRws (g : G) (v : AV) (l : List Rw) : Prop := IsSl g rwC 4 v l ∧ (∀ x ∈ l, IsCus g x.lv x.cs) ∧ l.length < 4611686018427387904
theorem IsRws.mono {g g' : G} (l : Gle g g') {v : AV} {xs : List Rw} (h : IsRws g v xs) : IsRws g' v xs := ⟨h.1.mono l, fun x hx => (h.2.1 x hx).mono l, h.2.2⟩
structure Ro where
 v : AV
 rows : List Rw
def roC (x : Ro) : List AV := [x.v]
theorem roC_len (x : Ro) : (roC x).length = 1 := rfl
def IsRos (g : G) (v : AV) (l : List Ro) : Prop := IsSl g roC 1 v l ∧ (∀ x ∈ l, IsRws g x.v x.rows) ∧ l.length < 4611686018427387904
theorem IsRos.mono {g g' : G} (l : Gle g g') {v : AV} {xs : List Ro} (h : IsRos g v xs) : IsRos g' v xs := ⟨h.1.mono l, fun x hx => (h.2.1 x hx).mono l, h.2.2⟩
theorem Within.or {u w : Nat} {l : List Cu} (h : Within u l) : Within (u ||| w) l := fun i hi => h i (by rw [Nat.testBit_or, Bool.or_eq_false_iff] at hi; exact hi.1)
theorem within_bits (u : Nat) (l : List Cu) : Within (u ||| bitsN l) l := fun i hi => by rw [Nat.testBit_or, Bool.or_eq_false_iff] at hi; exact hi.2
theorem bitsN_lt (l : List Cu) : bitsN l < 16777216 := Nat.lt_of_le_of_lt Nat.and_le_right (by decide)
structure RowOk (u n : Nat) (r : Rw) : Prop where
 w : Within u r.cs
 len : r.cs.length ≤ n
theorem RowOk.mono {u w n m : Nat} {r : Rw} (h : RowOk u n r) (hm : n ≤ m) : RowOk (u ||| w) m r := ⟨h.w.or, Nat.le_trans h.len hm⟩
structure RoOk (u n : Nat) (x : Ro) : Prop where
 row : ∀ r ∈ x.rows, RowOk u n r
 len : x.rows.length ≤ n
theorem RoOk.mono {u w n m : Nat} {x : Ro} (h : RoOk u n x) (hm : n ≤ m) : RoOk (u ||| w) m x := ⟨fun r hr => (h.row r hr).mono hm, Nat.le_trans h.len hm⟩
structure RB (u most : Nat) (l : List Ro) (d : List Cu) : Prop where
 cnt : XV u 32 ≤ most
 wd : Within u d
 dl : d.length ≤ 300
 len : l.length ≤ 300
 ok : ∀ x ∈ l, RoOk u 300 x
theorem rowBits_call {v dv : AV} {l : List Ro} {d : List Cu} {most : Nat} (f : Fz g h) (hl : IsRos g v l) (hd : IsCus g dv d)
  (hQ : ∀ h' u ok, Step g h g h' → u < 16777216 → (ok = true → RB u most l d) → Q (.tup [uV u, .bool ok]) h') : Cl f_law_rowBits [v, dv, iV most] h Q := by
 have hd' := hd
 obtain ⟨hs, hr, hlen⟩ := hl
 obtain ⟨hds, hdr, hdlen⟩ := hd
 have O := W.start f
 refine Yf ok_law_rowBits (by simp) ?_
 unfold m_law_rowBits
 with_reducible refine wM_i (wM_i ?_)
 simp only [sS, XS, Nat.reduceAdd, Nat.reduceEqDiff, ↓reduceIte] at O ⊢
 refine bits_call O.fz hd' fun h1 S => ?_
 have O := O.call S
 with_reducible refine wM_i ?_
 simp only [sS, Nat.reduceEqDiff, ↓reduceIte] at O ⊢
 refine q_lenS hds ?_
 skip
 refine q_lenS hs ?_
 with_reducible refine Ye (by simp only [Xo]; omega) ?_
 with_reducible refine wM_i (Xt (wM_i (XD ?_)))
 refine XL (fun m t h' => ∃ i u n, m + i = l.length ∧ (t.get 0 = v ∧ t.get 2 = iV most ∧ t.get 8 = uV u ∧ t.get 9 = iV n ∧ t.get 10 = iV i) ∧ u < 16777216 ∧ n < 9223372036854775807 ∧ l.length ≤ n ∧ d.length ≤ n ∧ Within u d ∧ (n < 300 → ∀ x ∈ l.take i, RoOk u n x) ∧ W g h g h' []) l.length
  ⟨0, bitsN d, d.length + l.length, rfl, ⟨?_, ?_, ?_, ?_, ?_⟩, bitsN_lt d, by omega, by omega, by omega, fun i hi => hi, (by intro _ x hx; simp at hx), O⟩ ?_
 iterate 5 (simp only [Tm.get_put, Nat.reduceEqDiff, ↓reduceIte])
 rintro m t h1 ⟨i, u, n, hm, ⟨e0, e2, e8, e9, e10⟩, hu, hn, hn1, hn2, hwd, hok, O⟩ R hR
 with_reducible refine Xt ?_
 simp only [e0, e9, e10] at O ⊢
 refine q_lenS hs ?_
 skip
 refine q_lssN ?_
 have out : (n < 300 → ∀ x ∈ l, RoOk u n x) → ∀ (h' : Heap), W g h g h' [] → (∀ ok, (ok = true → n < 300 ∧ XV u 32 ≤ most) → Q (.tup [uV u, .bool ok]) h') := by
  intro hall h' O' ok hk
  refine hQ _ _ _ O'.done hu fun e => ?_
  obtain ⟨k1, k2⟩ := hk e
  exact ⟨k2, hwd, by omega, by omega, fun x hx => ⟨fun r hr => ⟨((hall k1 x hx).row r hr).w, by have := ((hall k1 x hx).row r hr).len; omega⟩, by have := (hall k1 x hx).len; omega⟩⟩
 by_cases hi : i < l.length
 ·rw [decide_eq_true hi]
  obtain ⟨x, hx⟩ : ∃ x, l[i]? = some x := ⟨_, List.getElem?_eq_getElem hi⟩
  have hix : l[i] = x := by rw [List.getElem?_eq_getElem hi] at hx; exact Option.some.inj hx
  have hxr := hr x (List.mem_of_getElem? hx)
  obtain ⟨xs1, xs2, xs3⟩ := hxr
  with_reducible refine Yg (Yg ?_)
  refine q_lssN ?_
  by_cases h400 : n < 400
  ·rw [decide_eq_true h400]
   with_reducible refine XX (XC (Xy (Xp (Xt (XD ?_)))))
   simp only [e0, e9, e10] at O ⊢
   refine q_ixS hs roC_len hx fun b o he => ?_
   refine w_loadEl0 O (by assumption) (by first | exact Xd rfl | rfl) (Nat.le_of_ble_eq_true rfl) ?_
   refine q_lenS xs1 ?_
   with_reducible refine Ye (by simp only [Xo]; omega) ?_
   with_reducible refine wM_i (wM_i (XD ?_))
   refine XL (fun m t h' => ∃ k u' n', m + k = x.rows.length ∧ (t.get 0 = v ∧ t.get 2 = iV most ∧ t.get 8 = uV u' ∧ t.get 9 = iV n' ∧ t.get 10 = iV i ∧ t.get 11 = iV k) ∧ u' < 16777216 ∧ n' < 9223372036854775807 ∧ n ≤ n' ∧ x.rows.length ≤ n' ∧ Within u' d ∧ (n' < 300 → ∀ y ∈ l.take i, RoOk u' n' y) ∧ (n' < 300 → ∀ r ∈ x.rows.take k, RowOk u' n' r) ∧ W g h g h' []) x.rows.length
    ⟨0, u, n + x.rows.length, rfl, ⟨?_, ?_, ?_, ?_, ?_, ?_⟩, hu, by omega, by omega, by omega, hwd, (fun h y hy => by have := (hok (by omega) y hy).mono (w := 0) (show n ≤ n + x.rows.length by omega); rwa [Nat.or_zero] at this), (by intro _ r hr; simp at hr), O⟩ ?_
   iterate 6 (simp only [Tm.get_put, Nat.reduceEqDiff, ↓reduceIte, e0, e2, e8, e10])
   rintro m2 t h2 ⟨k, u', n', hm2, ⟨e0, e2, e8, e9, e10, e11⟩, hu', hn', hnn, hxn, hwd', hok', hrow, O⟩ R2 hR2
   have nxt : (n' < 300 → ∀ r ∈ x.rows, RowOk u' n' r) → (n' < 300 → ∀ y ∈ l.take (i + 1), RoOk u' n' y) := by
    intro hall h3 y hy
    rw [List.take_succ_eq_append_getElem hi, hix] at hy
    rcases List.mem_append.1 hy with hy | hy
    ·exact hok' h3 y hy
    ·rw [List.mem_singleton] at hy
     subst hy
     exact ⟨hall h3, hxn⟩
   with_reducible refine Xt ?_
   simp only [e0, e9, e10, e11] at O ⊢
   refine q_ixS hs roC_len hx fun b o he => ?_
   refine w_loadEl0 O (by assumption) (by first | exact Xd rfl | rfl) (Nat.le_of_ble_eq_true rfl) ?_
   refine q_lenS xs1 ?_
   skip
   refine q_lssN ?_
   by_cases hk : k < x.rows.length
   ·rw [decide_eq_true hk]
    obtain ⟨r, hrx⟩ : ∃ r, x.rows[k]? = some r := ⟨_, List.getElem?_eq_getElem hk⟩
    have hkr : x.rows[k] = r := by rw [List.getElem?_eq_getElem hk] at hrx; exact Option.some.inj hrx
    have hrc := xs2 r (List.mem_of_getElem? hrx)
    have hrc' := hrc
    obtain ⟨rc1, rc2, rc3⟩ := hrc
    with_reducible refine Yg (Yg ?_)
    refine q_lssN ?_
    by_cases h4 : n' < 400
    ·rw [decide_eq_true h4]
     with_reducible refine XX (XC (Xy (Xp (Xt (XD ?_)))))
     simp only [sS, e0, e9, e10, e11] at O ⊢
     refine q_ixS hs roC_len hx fun b o he => ?_
     refine w_loadEl0 O (by assumption) (by first | exact Xd rfl | rfl) (Nat.le_of_ble_eq_true rfl) ?_
     refine q_ixS xs1 rwC_len hrx fun b o he => ?_
     with_reducible refine q_fa ?_
     refine XK O (by assumption) (by first | exact Xd rfl | rfl) (Nat.le_of_ble_eq_true rfl) ?_
     refine q_lenS rc1 ?_
     with_reducible refine Ye (by simp only [Xo]; omega) ?_
     with_reducible refine wM_i ?_
     simp only [sS, Nat.reduceEqDiff, ↓reduceIte, e0, e8, e10, e11] at O ⊢
     refine q_ixS hs roC_len hx fun b o he => ?_
     refine w_loadEl0 O (by assumption) (by first | exact Xd rfl | rfl) (Nat.le_of_ble_eq_true rfl) ?_
     refine q_ixS xs1 rwC_len hrx fun b o he => ?_
     with_reducible refine q_fa ?_
     refine XK O (by assumption) (by first | exact Xd rfl | rfl) (Nat.le_of_ble_eq_true rfl) ?_
     refine bits_call O.fz hrc' fun h3 S3 => ?_
     have O := O.call S3
     have hbl := bitsN_lt r.cs
     with_reducible refine q_orN (by simp only [Xo]; omega) (by simp only [Xo]; omega) ?_
     with_reducible refine wM_i (Xp ?_)
     simp only [sS, Nat.reduceEqDiff, ↓reduceIte, e11] at O ⊢
     with_reducible refine Ye (by simp only [Xo]; omega) ?_
     with_reducible refine wM_i (Xp ?_)
     refine hR2 (m2 - 1) _ _ (by omega) ⟨k + 1, u' ||| bitsN r.cs, n' + r.cs.length, by omega, ⟨?_, ?_, ?_, ?_, ?_, ?_⟩, Nat.or_lt_two_pow (n := 24) hu' hbl, by omega, by omega, by omega, hwd'.or, (fun h y hy => (hok' (by omega) y hy).mono (by omega)), (fun h y hy => ?_), O⟩
     iterate 6 (simp only [Tm.get_put, Nat.reduceEqDiff, ↓reduceIte, e0, e2, e10])
     rw [List.take_succ_eq_append_getElem hk, hkr] at hy
     rcases List.mem_append.1 hy with hy | hy
     ·exact (hrow (by omega) y hy).mono (by omega)
     ·rw [List.mem_singleton] at hy
      subst hy
      exact ⟨within_bits _ _, by omega⟩
    ·rw [decide_eq_false h4]
     with_reducible refine XX (Xx (mExit_i (XF (XF ?_))))
     simp only [sS] at O ⊢
     with_reducible refine Xp ?_
     simp only [e10] at O ⊢
     with_reducible refine Ye (by simp only [Xo]; omega) ?_
     with_reducible refine wM_i (Xp ?_)
     refine hR (m - 1) _ _ (by omega) ⟨i + 1, u', n', by omega, ⟨?_, ?_, ?_, ?_, ?_⟩, hu', hn', by omega, by omega, hwd', (fun h => absurd h (by omega)), O⟩
     iterate 5 (simp only [Tm.get_put, Nat.reduceEqDiff, ↓reduceIte, e0, e2, e8, e9])
   ·rw [decide_eq_false hk]
    have htk : x.rows.take k = x.rows := List.take_of_length_le (by omega)
    rw [htk] at hrow
    with_reducible refine Yb (Yb (Ya (Xx (mExit_i (XF (XF ?_))))))
    simp only [sS] at O ⊢
    with_reducible refine Xp ?_
    simp only [e10] at O ⊢
    with_reducible refine Ye (by simp only [Xo]; omega) ?_
    with_reducible refine wM_i (Xp ?_)
    refine hR (m - 1) _ _ (by omega) ⟨i + 1, u', n', by omega, ⟨?_, ?_, ?_, ?_, ?_⟩, hu', hn', by omega, by omega, hwd', nxt hrow, O⟩
    iterate 5 (simp only [Tm.get_put, Nat.reduceEqDiff, ↓reduceIte, e0, e2, e8, e9])
  ·rw [decide_eq_false h400]
   with_reducible refine XX (Xx (mExit_i (XF (XF (mThen_oe ?_)))))
   simp only [e2, e8, e9] at O ⊢
   refine q_lssN ?_
   rw [decide_eq_false (by omega)]
   with_reducible refine Yb (Yb (Yb (Ya (wM_i (wM_i (mFin_tt ?_))))))
   simp only [sS, Nat.reduceEqDiff, ↓reduceIte] at O ⊢
   exact out (fun h => absurd h (by omega)) _ O false (fun e => by cases e)
 ·rw [decide_eq_false hi]
  have htk : l.take i = l := List.take_of_length_le (by omega)
  rw [htk] at hok
  with_reducible refine Yb (Yb (Ya (Xx (mExit_i (XF (XF (mThen_oe ?_)))))))
  simp only [e2, e8, e9] at O ⊢
  refine q_lssN ?_
  by_cases h3 : n < 300
  ·rw [decide_eq_true h3]
   with_reducible refine Yg (Yg (Yg ?_))
   refine few_call O.fz (by omega) fun h2 S2 => ?_
   have O := O.call S2
   with_reducible refine XX (wM_i (wM_i (mFin_tt ?_)))
   simp only [sS, Nat.reduceEqDiff, ↓reduceIte] at O ⊢
   exact out hok _ O _ (fun e => ⟨h3, by simpa using e⟩)
  ·rw [decide_eq_false h3]
   with_reducible refine Yb (Yb (Yb (Ya (wM_i (wM_i (mFin_tt ?_))))))
   simp only [sS, Nat.reduceEqDiff, ↓reduceIte] at O ⊢
   exact out hok _ O false (fun e => by cases e)
end Go.AM
