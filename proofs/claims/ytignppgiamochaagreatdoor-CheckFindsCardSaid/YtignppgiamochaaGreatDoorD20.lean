/- The errors, each with its smallest configuration. -/
import Derived.Test.YtignppgiamochaaGreatDoorD17
import Derived.Test.YtignppgiamochaaGreatDoorD19
set_option linter.unusedVariables false
set_option linter.unusedSimpArgs false
namespace Go.AM
open Go
variable {g : G} {h : Heap} {Q : MK}
open Bdd (cfgs XQ XV inB inCu bitsN bitsF setS cuS Cu allF)
theorem Only.blind {u : Nat} {S : Bdd.Cfg → Bool} (h : Only u S) {i : Nat} (hi : u.testBit i = false) : Bdd.Blind S i := by
 intro c d hcd
 rw [← h i hi c, ← h i hi d]
 congr 1
 funext j
 unfold Bdd.set
 by_cases e : j = i
 ·simp [e]
 ·simp [e, hcd j e]
theorem least_mem {u : Nat} {S : Bdd.Cfg → Bool} (ho : Only u S) {a : Nat × Nat} (h : Bdd.Least S (some a)) : a.2 ∈ cfgsOf u S := by
 obtain ⟨h1, h2, h3, h4⟩ := h.some a rfl
 refine List.mem_filter.2 ⟨(Bdd.cfgs_mem u 32 a.2).2 fun j hj => ?_, h3⟩
 have hj24 : j < 24 := by
  rcases Nat.lt_or_ge j 24 with h | h
  ·exact h
  ·rw [Nat.testBit_lt_two_pow (Nat.lt_of_lt_of_le h1 (Nat.pow_le_pow_right (by decide) h))] at hj
   cases hj
 refine ⟨?_, by omega⟩
 cases hb : u.testBit j with
 | true => rfl
 | false => rw [h.bit (ho.blind hb) hj24] at hj; cases hj
theorem cfgsOf_lt {u : Nat} {S : Bdd.Cfg → Bool} (hu : u < 16777216) {n : Nat} (h : n ∈ cfgsOf u S) : n < 16777216 ∧ S (cfgN n) = true := by
 obtain ⟨h1, h2⟩ := List.mem_filter.1 h
 refine ⟨?_, h2⟩
 have := (Bdd.cfgs_mem u 32 n).1 h1
 apply Nat.lt_pow_two_of_testBit (n := 24)
 intro i hi
 cases hb : n.testBit i with
 | false => rfl
 | true =>
  have h3 := (this i hb).1
  rw [Nat.testBit_lt_two_pow (Nat.lt_of_lt_of_le hu (Nat.pow_le_pow_right (by decide) hi : 2 ^ 24 ≤ 2 ^ i))] at h3
  cases h3
theorem least_some {u : Nat} {S : Bdd.Cfg → Bool} (ho : Only u S) (hu : u < 16777216) {o : Option (Nat × Nat)} (h : Bdd.Least S o) : o.isSome = !(cfgsOf u S).isEmpty := by
 cases o with
 | none =>
  have : cfgsOf u S = [] := by
   cases hc : cfgsOf u S with
   | nil => rfl
   | cons n r =>
    obtain ⟨h1, h2⟩ := cfgsOf_lt (S := S) hu (n := n) (by rw [hc]; simp)
    rw [show S (cfgN n) = S (Bdd.cfg n) from rfl, h.none rfl n h1] at h2
    cases h2
  rw [this]; rfl
 | some a =>
  have := least_mem ho h
  cases hc : cfgsOf u S with
  | nil => rw [hc] at this; cases this
  | cons n r => rfl
theorem cnt32 {n : Nat} (h : n < 16777216) : XV n 32 = Bdd.weight n := by
 rw [Bdd.weight_cnt]
 have : ∀ k, XV n (24 + k) = XV n 24 := by
  intro k
  induction k with
  | zero => rfl
  | succ k ih =>
   rw [← Nat.add_assoc, XV, ih, Nat.testBit_lt_two_pow (Nat.lt_of_lt_of_le h (Nat.pow_le_pow_right (by decide) (by omega) : 2 ^ 24 ≤ 2 ^ (24 + k)))]
   simp
 exact this 8
theorem sml_spec : ∀ (l : List Nat) (s : Nat × Nat), l.Pairwise (· < ·) → (smlN l s = s ∧ ∀ y ∈ l, s.2 ≤ XV y 32) ∨ ((smlN l s).1 ∈ l ∧ (smlN l s).2 = XV (smlN l s).1 32 ∧ (smlN l s).2 < s.2 ∧ ∀ y ∈ l, (smlN l s).2 < XV y 32 ∨ ((smlN l s).2 = XV y 32 ∧ (smlN l s).1 ≤ y)) := by
 intro l
 induction l with
 | nil => intro s _; exact .inl ⟨rfl, by simp⟩
 | cons x r ih =>
  intro s hp
  obtain ⟨hx, hr⟩ := List.pairwise_cons.1 hp
  simp only [smlN]
  by_cases hc : XV x 32 < s.2
  ·rw [if_pos hc]
   rcases ih (x, XV x 32) hr with ⟨h1, h2⟩ | ⟨h1, h2, h3, h4⟩
   ·refine .inr ?_
    rw [h1]
    refine ⟨by simp, rfl, hc, fun y hy => ?_⟩
    rcases List.mem_cons.1 hy with rfl | hy
    ·exact .inr ⟨rfl, Nat.le_refl _⟩
    ·have := h2 y hy
     have := hx y hy
     dsimp only at *
     omega
   ·refine .inr ⟨by simp [h1], h2, ?_, fun y hy => ?_⟩
    ·dsimp only at h3; omega
    ·rcases List.mem_cons.1 hy with rfl | hy
     ·exact .inl h3
     ·exact h4 y hy
  ·rw [if_neg hc]
   rcases ih s hr with ⟨h1, h2⟩ | ⟨h1, h2, h3, h4⟩
   ·refine .inl ⟨h1, fun y hy => ?_⟩
    rcases List.mem_cons.1 hy with rfl | hy
    ·omega
    ·exact h2 y hy
   ·refine .inr ⟨by simp [h1], h2, h3, fun y hy => ?_⟩
    rcases List.mem_cons.1 hy with rfl | hy
    ·exact .inl (by omega)
    ·exact h4 y hy
theorem sml_least {u : Nat} {S : Bdd.Cfg → Bool} (ho : Only u S) (hu : u < 16777216) {a : Nat × Nat} (h : Bdd.Least S (some a)) : (smlN (cfgsOf u S) (0, 33)).1 = a.2 := by
 have hm := least_mem ho h
 obtain ⟨h1, h2, h3, h4⟩ := h.some a rfl
 have hsorted : (cfgsOf u S).Pairwise (· < ·) := (Bdd.cfgs_sorted u 32).filter _
 rcases sml_spec (cfgsOf u S) (0, 33) hsorted with ⟨_, e⟩ | ⟨k1, k2, k3, k4⟩
 ·have := e _ hm
  have := Bdd.cntTo_le a.2 32
  dsimp only at *
  omega
 ·generalize smlN (cfgsOf u S) (0, 33) = s at *
  obtain ⟨c1, c2⟩ := cfgsOf_lt hu k1
  have e1 := h4 s.1 c1 c2
  have e2 := k4 a.2 hm
  rw [cnt32 c1] at k2
  rw [cnt32 (cfgsOf_lt hu hm).1] at e2
  omega
structure Pb where
 code : Int
 tok : Int
 lv : AV
 r : Nat
 least : Nat
 S : Bdd.Cfg → Bool
def pbC (x : Pb) : List AV := [.int .u8 x.code, .int .i64 x.tok, x.lv, iV x.r, uV x.least]
theorem pbC_len (x : Pb) : (pbC x).length = 5 := rfl
theorem pb_flat (l : List Pb) : (flat pbC l).length = l.length * 5 := flat_len fun _ _ => rfl
structure PbOf (u : Nat) (a : Fc) (p : Pb) : Prop where
 code : p.code = norm .u8 a.oth
 tok : p.tok = a.tok
 S : p.S = a.S
 least : p.least = (smlN (cfgsOf u a.S) (0, 33)).1
def badF (u : Nat) (a : Fc) : Bool := decide (a.k = Int.ofNat 4) && !(cfgsOf u a.S).isEmpty
def PbL (u : Nat) (fas : List Fc) (ps : List Pb) : Prop := fas.length = ps.length ∧ ∀ (i : Nat) a p, fas[i]? = some a → ps[i]? = some p → PbOf u a p
theorem PbL.snoc {u : Nat} {fas : List Fc} {bs : List Pb} (h : PbL u fas bs) {a : Fc} {b : Pb} (m : PbOf u a b) : PbL u (fas ++ [a]) (bs ++ [b]) := by
 obtain ⟨h1, h2⟩ := h
 refine ⟨by simp [h1], fun i x y hx hy => ?_⟩
 by_cases hi : i < fas.length
 ·rw [List.getElem?_append_left hi] at hx
  rw [List.getElem?_append_left (by omega)] at hy
  exact h2 i x y hx hy
 ·have hil : i = fas.length := by
   have := (List.getElem?_eq_some_iff.1 hx).1
   simp at this; omega
  subst hil
  rw [List.getElem?_append_right (Nat.le_refl _)] at hx
  rw [List.getElem?_append_right (by omega), h1] at hy
  simp at hx hy
  subst hx
  subst hy
  exact m
theorem q_toIntG {c : MCall} {k : MK} {K J : IntKind} {n : Int} (hk : k (.int K (norm K n)) h) : q c (.toInt K (C (.int J n))) h k := q_of rfl hk
theorem Problems_call {v : AV} {l : List Fc} {u : Nat} (f : Fz g h) (hl : IsFcs g v l) (ho : ∀ x ∈ l, Only u x.S) (hu : u < 16777216) (hn : l.length ≤ 1000000)
  (hQ : ∀ g' h' w ps, Step g h g' h' → IsSl g' pbC 5 w ps → (∀ x ∈ ps, IsS g' (.agg [x.lv, iV x.r]) x.S) → PbL u (l.filter (badF u)) ps → Q w h') : Cl f_check_Problems [v] h Q := by
 obtain ⟨hs, hS⟩ := hl
 have O := W.start f
 refine Yf ok_check_Problems (by simp) ?_
 unfold m_check_Problems
 with_reducible refine wM_i (wM_i (Xt (wM_i ?_)))
 simp only [sS, XS, Nat.reduceEqDiff, ↓reduceIte] at O ⊢
 refine q_lenS hs ?_
 with_reducible refine wM_i (wM_i (XD ?_))
 replace O := O.addN 0
 refine XL (fun m t h' => ∃ i b ps gi, m + i = l.length ∧ (t.get 3 = grV b ps.length ∧ t.get 8 = v ∧ t.get 9 = iV l.length ∧ t.get 10 = iV i) ∧ ps.length ≤ i ∧ Gle g gi ∧ (∀ x ∈ ps, IsS gi (.agg [x.lv, iV x.r]) x.S) ∧ PbL u ((l.take i).filter (badF u)) ps ∧ W g h gi h' [grE 59 5 b (flat pbC ps) ps.length]) l.length ⟨0, 0, [], g, rfl, ⟨?_, ?_, ?_, ?_⟩, Nat.le_refl _, .refl g, (by simp), ⟨rfl, fun i a b h => by simp at h⟩, O⟩ ?_
 iterate 4 (simp only [Tm.get_put, Nat.reduceEqDiff, ↓reduceIte] <;> rfl)
 rintro m t h1 ⟨i, b, ps, gi, hm, ⟨e3, e8, e9, e10⟩, hpl, hle, hPS, hP, O⟩ R hR
 have hs' := hs.mono hle
 simp only [e9, e10] at O ⊢
 refine q_lssN ?_
 by_cases hi : i < l.length
 ·rw [decide_eq_true hi]
  obtain ⟨x, hx⟩ : ∃ x, l[i]? = some x := ⟨_, List.getElem?_eq_getElem hi⟩
  have hix : l[i] = x := by rw [List.getElem?_eq_getElem hi] at hx; exact Option.some.inj hx
  have hxm := List.mem_of_getElem? hx
  have hxS := (hS x hxm).mono hle
  have hxo := oneA_of hxS
  have htk : (l.take (i + 1)).filter (badF u) = (l.take i).filter (badF u) ++ (if badF u x = true then [x] else []) := by
   rw [List.take_succ_eq_append_getElem hi, hix, List.filter_append]
   congr 1
   by_cases e : badF u x = true
   ·rw [if_pos e, List.filter_cons_of_pos e]; rfl
   ·rw [if_neg e, List.filter_cons_of_neg e]; rfl
  with_reducible refine Xt (XC (Xy (Xp (Xt (XD ?_)))))
  simp only [e8, e10] at O ⊢
  refine q_ixS hs' fcC_len hx fun p1 o1 he1 => ?_
  refine XK O (by assumption) (by first | exact Xd rfl | rfl) (Nat.le_of_ble_eq_true rfl) ?_
  refine w_alloc O fun bx _ O => ?_
  refine XO 0 O rfl rfl rfl (fcC_one hxo) fun _ O => ?_
  simp only [List.set_cons_zero, AV.cells] at O
  with_reducible refine q_fa0 ?_
  refine Xv 0 O rfl (by first | exact Xd rfl | rfl) ?_
  simp only [sS, Nat.reduceAdd] at O ⊢
  refine Smallest_call O.fz hxS fun g2 h2 o S2 hlo => ?_
  have O := O.call S2
  have hsome := least_some (ho x hxm) hu hlo
  have go : badF u x = false → ∀ (t' : Tm) (h' : Heap), (t'.get 3 = grV b ps.length ∧ t'.get 8 = v ∧ t'.get 9 = iV l.length ∧ t'.get 10 = iV (i + 1)) → W g h g2 h' [grE 59 5 b (flat pbC ps) ps.length] → R t' h' := by
   intro hb t' h' ht O'
   rw [hb] at htk
   simp only [Bool.false_eq_true, if_false, List.append_nil] at htk
   exact hR (m - 1) _ _ (by omega) ⟨i + 1, b, ps, g2, by omega, ht, by omega, hle.trans S2.le, fun y hy => (hPS y hy).mono S2.le, by rw [htk]; exact hP, O'⟩
  cases o with
  | none =>
   have hb : badF u x = false := by unfold badF; rw [← hsome]; simp
   with_reducible refine q_ext0 (q_ext1 ?_)
   simp only [sS] at O ⊢
   with_reducible refine Yb (Yb (Yb (Ya (Xx (Xy (mThen_on ?_))))))
   simp only [e10] at O ⊢
   with_reducible refine Ye (by simp only [Xo]; omega) ?_
   with_reducible refine wM_i (Xp ?_)
   refine go hb _ _ ⟨?_, ?_, ?_, ?_⟩ O.drop1
   iterate 4 (simp only [Tm.get_put, Nat.reduceEqDiff, ↓reduceIte, e3, e8, e9])
  | some a =>
   with_reducible refine q_ext0 (q_ext1 ?_)
   simp only [sS] at O ⊢
   with_reducible refine Yg (q_fa0 (Yg ?_))
   refine Xv 0 O rfl (by first | exact Xd rfl | rfl) ?_
   with_reducible refine Yg ?_
   refine q_eqI' ?_
   by_cases hk : x.k = Int.ofNat 4
   ·rw [decide_eq_true hk]
    have hb : badF u x = true := by unfold badF; rw [← hsome, decide_eq_true hk]; rfl
    rw [if_pos hb] at htk
    with_reducible refine XX (XC (q_fa0 ?_))
    refine Xv 0 O rfl (by first | exact Xd rfl | rfl) ?_
    simp only [sS, e3] at O ⊢
    refine q_toIntG ?_
    with_reducible refine q_fa0 ?_
    refine Xv 0 O rfl (by first | exact Xd rfl | rfl) ?_
    with_reducible refine q_fa0 ?_
    refine Xv 0 O rfl (by first | exact Xd rfl | rfl) ?_
    refine q_build rfl ?_
    simp only [sS] at O ⊢
    refine Yd O (cs := pbC ⟨norm .u8 x.oth, x.tok, x.lv, x.r, a.2, x.S⟩) rfl rfl fun _ _ O => ?_
    skip
    refine w_append 2 O rfl (src_own 0 O rfl rfl) (pb_flat ps) (by decide) (by simp only [pbC, List.all_cons, List.all_nil, hxo, Bool.and_true, Bool.true_and] <;> rfl) (by omega) fun b' h3 O => ?_
    simp only [List.set_cons_zero, List.set_cons_succ] at O
    with_reducible refine wM_i (Xp ?_)
    simp only [sS, Nat.reduceEqDiff, ↓reduceIte, e10] at O ⊢
    with_reducible refine Ye (by simp only [Xo]; omega) ?_
    with_reducible refine wM_i (Xp ?_)
    refine hR (m - 1) _ _ (by omega) ⟨i + 1, b', ps ++ [⟨norm .u8 x.oth, x.tok, x.lv, x.r, a.2, x.S⟩], g2, by omega, ⟨?_, ?_, ?_, ?_⟩, by simp; omega, hle.trans S2.le, ?_, ?_, ?_⟩
    ·simp only [Tm.get_put, Nat.reduceEqDiff, ↓reduceIte, List.length_append, List.length_singleton]
    ·simp only [Tm.get_put, Nat.reduceEqDiff, ↓reduceIte, e8]
    ·simp only [Tm.get_put, Nat.reduceEqDiff, ↓reduceIte, e9]
    ·simp only [Tm.get_put, ↓reduceIte]
    ·intro y hy
     rcases List.mem_append.1 hy with hy | hy
     ·exact (hPS y hy).mono S2.le
     ·rw [List.mem_singleton] at hy
      subst hy
      exact hxS.mono S2.le
    ·rw [htk]
     exact hP.snoc ⟨rfl, rfl, rfl, (sml_least (ho x hxm) hu hlo).symm⟩
    ·rw [flat_snoc, List.length_append]
     exact O.pick 3 [2] (by decide) (by decide)
   ·rw [decide_eq_false hk]
    have hb : badF u x = false := by unfold badF; rw [decide_eq_false hk]; rfl
    with_reducible refine XX (Xx (Xy (mThen_on ?_)))
    simp only [e10] at O ⊢
    with_reducible refine Ye (by simp only [Xo]; omega) ?_
    with_reducible refine wM_i (Xp ?_)
    refine go hb _ _ ⟨?_, ?_, ?_, ?_⟩ O.drop1
    iterate 4 (simp only [Tm.get_put, Nat.reduceEqDiff, ↓reduceIte, e3, e8, e9])
 ·rw [decide_eq_false hi]
  have htk : l.take i = l := List.take_of_length_le (by omega)
  rw [htk] at hP
  with_reducible refine Xt (Xx (mExit_i (XF (XF (mThen_oe (wM_i (XZ ?_)))))))
  simp only [sS, ↓reduceIte, e3] at O ⊢
  obtain ⟨g1, O1, l1, s1⟩ := O.freezeGr (enc := pbC) 0 rfl
  exact hQ _ _ _ ps O1.done s1 (fun x hx => (hPS x hx).mono l1) hP
end Go.AM
