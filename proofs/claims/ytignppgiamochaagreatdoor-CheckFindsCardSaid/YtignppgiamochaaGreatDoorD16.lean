/- Rows fas facts of the program and of the reference. -/
import Derived.Test.YtignppgiamochaaGreatDoorD15
set_option linter.unusedVariables false
set_option linter.unusedSimpArgs false
namespace Go.AM
open Go
variable {g : G} {h : Heap} {Q : MK}
open Bdd (cfgs XQ XV inB inCu bitsN bitsF setS cuS Cu allF)
structure Fc where
 k : Int
 tok : Int
 oth : Int
 lv : AV
 r : Nat
 S : Bdd.Cfg → Bool
def fcC (x : Fc) : List AV := [.int .u8 x.k, .int .i64 x.tok, .int .i64 x.oth, x.lv, iV x.r]
theorem fcC_len (x : Fc) : (fcC x).length = 5 := rfl
def IsFcs (g : G) (v : AV) (l : List Fc) : Prop := IsSl g fcC 5 v l ∧ ∀ x ∈ l, IsS g (.agg [x.lv, iV x.r]) x.S
theorem IsFcs.mono {g g' : G} (l : Gle g g') {v : AV} {xs : List Fc} (h : IsFcs g v xs) : IsFcs g' v xs := ⟨h.1.mono l, fun x hx => (h.2 x hx).mono l⟩
structure Kf where
 k : Int
 tok : Int
 oth : Int
 lv : AV
 ns : List Nat
def kfC (x : Kf) : List AV := [.int .u8 x.k, .int .i64 x.tok, .int .i64 x.oth, x.lv]
theorem kfC_len (x : Kf) : (kfC x).length = 4 := rfl
def IsKfs (g : G) (v : AV) (l : List Kf) : Prop := IsSl g kfC 4 v l ∧ ∀ x ∈ l, IsSl g nuC 1 x.lv x.ns
theorem IsKfs.mono {g g' : G} (l : Gle g g') {v : AV} {xs : List Kf} (h : IsKfs g v xs) : IsKfs g' v xs := ⟨h.1.mono l, fun x hx => (h.2 x hx).mono l⟩
structure Mt (u : Nat) (a : Fc) (b : Kf) : Prop where
 k : b.k = a.k
 tok : b.tok = a.tok
 oth : b.oth = a.oth
 ns : b.ns = cfgsOf u a.S
 only : Only u a.S
def EqL (u : Nat) (fas : List Fc) (bs : List Kf) : Prop := fas.length = bs.length ∧ ∀ (i : Nat) a b, fas[i]? = some a → bs[i]? = some b → Mt u a b
theorem EqL.nil (u : Nat) : EqL u [] [] := ⟨rfl, fun i a b h => by simp at h⟩
theorem EqL.snoc {u : Nat} {fas : List Fc} {bs : List Kf} (h : EqL u fas bs) {a : Fc} {b : Kf} (m : Mt u a b) : EqL u (fas ++ [a]) (bs ++ [b]) := by
 obtain ⟨h1, h2⟩ := h
 refine ⟨by simp [h1], fun i x y hx hy => ?_⟩
 by_cases hi : i < fas.length
 ·rw [List.getElem?_append_left hi] at hx
  rw [List.getElem?_append_left (by omega)] at hy
  exact h2 i x y hx hy
 ·have hil : i = fas.length := by
   have := (List.getElem?_eq_some_iff.1 hx).1
   simp at this; omega
  subst hil
  rw [List.getElem?_append_right (Nat.le_refl _)] at hx
  rw [List.getElem?_append_right (by omega), h1] at hy
  simp at hx hy
  subst hx
  subst hy
  exact m
theorem fc_flat (l : List Fc) : (flat fcC l).length = l.length * 5 := flat_len fun _ _ => rfl
theorem kf_flat (l : List Kf) : (flat kfC l).length = l.length * 4 := flat_len fun _ _ => rfl
theorem q_build4 {c : MCall} {k : MK} {a b d e z1 z2 z3 z4 : AV} (h1 : a.cells = [a]) (h2 : b.cells = [b]) (h3 : d.cells = [d]) (h4 : e.cells = [e]) (hk : k (.agg [a, b, d, e]) h) : q c (.build [z1, z2, z3, z4] [(0, 1, C a), (1, 1, C b), (2, 1, C d), (3, 1, C e)]) h k := by
 refine q_build ?_ hk
 simp only [evParts, List.map_cons, List.map_nil, Opd.ev, fillA, h1, h2, h3, h4]
 rfl
theorem rows_call {v : AV} {l : List Rw} {u : Nat} (f : Fz g h) (hl : IsRws g v l) (hn : l.length ≤ 300) (hw : ∀ x ∈ l, Within u x.cs) (hu : u < 4294967296) (hc : XV u 32 ≤ 10)
  (hQ : ∀ g' h' av bv fas bs, Step g h g' h' → IsFcs g' av fas → IsKfs g' bv bs → EqL u fas bs → fas.length = l.length → Q (.tup [av, bv]) h') : Cl f_law_rows [v, uV u] h Q := by
 obtain ⟨hs, hr, hlen⟩ := hl
 have O := W.start f
 refine Yf ok_law_rows (by simp) ?_
 unfold m_law_rows
 with_reducible refine wM_i (wM_i (wM_i (wM_i (Xt (wM_i (XD ?_))))))
 simp only [sS, XS] at O ⊢
 replace O := (O.addN 0).addN 0
 refine XL (fun m t h' => ∃ i b1 b2 fas bs gi, m + i = l.length ∧ (t.get 0 = v ∧ t.get 1 = uV u ∧ t.get 6 = grV b1 fas.length ∧ t.get 7 = grV b2 bs.length ∧ t.get 8 = iV i) ∧ fas.length = i ∧ bs.length = i ∧ Gle g gi ∧ (∀ x ∈ fas, IsS gi (.agg [x.lv, iV x.r]) x.S) ∧ (∀ x ∈ bs, IsSl gi nuC 1 x.lv x.ns) ∧ EqL u fas bs ∧
  W g h gi h' [grE 87 5 b1 (flat fcC fas) fas.length, grE 53 4 b2 (flat kfC bs) bs.length]) l.length ⟨0, 0, 0, [], [], g, rfl, ⟨?_, ?_, ?_, ?_, ?_⟩, rfl, rfl, .refl g, (by simp), (by simp), EqL.nil u, O⟩ ?_
 iterate 5 (simp only [Tm.get_put, Nat.reduceEqDiff, ↓reduceIte] <;> rfl)
 rintro m t h1 ⟨i, b1, b2, fas, bs, gi, hm, ⟨e0, e1, e6, e7, e8⟩, hal, hbl, hle, hA, hB, hE, O⟩ R hR
 have hs' := hs.mono hle
 with_reducible refine Xt ?_
 simp only [e0, e8] at O ⊢
 refine q_lenS hs' ?_
 skip
 refine q_lssN ?_
 by_cases hi : i < l.length
 ·rw [decide_eq_true hi]
  obtain ⟨x, hx⟩ : ∃ x, l[i]? = some x := ⟨_, List.getElem?_eq_getElem hi⟩
  have hxm := List.mem_of_getElem? hx
  have hxr := (hr x hxm).mono hle
  have hxw := hw x hxm
  with_reducible refine XC (Xy (Xp (Xt (XD ?_))))
  simp only [sS, e0, e6, e8] at O ⊢
  refine q_ixS hs' rwC_len hx fun p1 o1 he1 => ?_
  with_reducible refine q_fa ?_
  refine XK O (by assumption) (by first | exact Xd rfl | rfl) (Nat.le_of_ble_eq_true rfl) ?_
  refine q_ixS hs' rwC_len hx fun p2 o2 he2 => ?_
  with_reducible refine q_fa ?_
  refine XK O (by assumption) (by first | exact Xd rfl | rfl) (Nat.le_of_ble_eq_true rfl) ?_
  refine q_ixS hs' rwC_len hx fun p3 o3 he3 => ?_
  with_reducible refine q_fa ?_
  refine XK O (by assumption) (by first | exact Xd rfl | rfl) (Nat.le_of_ble_eq_true rfl) ?_
  refine q_ixS hs' rwC_len hx fun p4 o4 he4 => ?_
  with_reducible refine q_fa ?_
  refine XK O (by assumption) (by first | exact Xd rfl | rfl) (Nat.le_of_ble_eq_true rfl) ?_
  refine set_call O.fz hxr hxw hc fun g2 h2 sv S2 hsv => ?_
  have O := O.call S2
  have hsv' := hsv
  obtain ⟨d2, ⟨hl2, lw, rfl, hW⟩, hd2⟩ := hsv
  obtain ⟨w1, w2⟩ := hW.one
  have he1' := he1.mono S2.le
  have he2' := he2.mono S2.le
  have he3' := he3.mono S2.le
  refine q_build rfl ?_
  simp only [sS] at O ⊢
  refine Yd O (cs := fcC ⟨x.k, x.tok, x.oth, lw, d2.2, setS x.cs⟩) rfl rfl fun _ _ O => ?_
  skip
  refine w_append 1 O rfl (src_own 0 O rfl rfl) (fc_flat fas) (by decide) (by simp only [fcC, List.all_cons, List.all_nil, w2, Bool.and_true, Bool.true_and] <;> rfl) (by omega) fun b1' h3 O => ?_
  simp only [List.set_cons_zero, List.set_cons_succ] at O
  with_reducible refine wM_i ?_
  refine mStay_c (by repeat (first | exact mStay1_n | refine Xe 0 (by assumption) rfl rfl (AV.beq_refl _) ?_ | refine Xe 1 (by assumption) rfl rfl (AV.beq_refl _) ?_ | refine Xe 2 (by assumption) rfl rfl (AV.beq_refl _) ?_ | refine Xe 3 (by assumption) rfl rfl (AV.beq_refl _) ?_ | refine Xe 4 (by assumption) rfl rfl (AV.beq_refl _) ?_ | refine Xe 5 (by assumption) rfl rfl (AV.beq_refl _) ?_ | refine Xe 6 (by assumption) rfl rfl (AV.beq_refl _) ?_ | refine Xe 7 (by assumption) rfl rfl (AV.beq_refl _) ?_ | refine Xe 8 (by assumption) rfl rfl (AV.beq_refl _) ?_ | refine st_loadEl (by assumption) (by assumption) rfl (Nat.le_of_ble_eq_true rfl) (AV.beq_refl _) ?_ | refine st_loadF (by assumption) (by assumption) rfl (AV.beq_refl _) ?_)) ?_
  refine mStay_c (by repeat (first | exact mStay1_n | refine Xe 0 (by assumption) rfl rfl (AV.beq_refl _) ?_ | refine Xe 1 (by assumption) rfl rfl (AV.beq_refl _) ?_ | refine Xe 2 (by assumption) rfl rfl (AV.beq_refl _) ?_ | refine Xe 3 (by assumption) rfl rfl (AV.beq_refl _) ?_ | refine Xe 4 (by assumption) rfl rfl (AV.beq_refl _) ?_ | refine Xe 5 (by assumption) rfl rfl (AV.beq_refl _) ?_ | refine Xe 6 (by assumption) rfl rfl (AV.beq_refl _) ?_ | refine Xe 7 (by assumption) rfl rfl (AV.beq_refl _) ?_ | refine Xe 8 (by assumption) rfl rfl (AV.beq_refl _) ?_ | refine st_loadEl (by assumption) (by assumption) rfl (Nat.le_of_ble_eq_true rfl) (AV.beq_refl _) ?_ | refine st_loadF (by assumption) (by assumption) rfl (AV.beq_refl _) ?_)) ?_
  refine mStay_c (by repeat (first | exact mStay1_n | refine Xe 0 (by assumption) rfl rfl (AV.beq_refl _) ?_ | refine Xe 1 (by assumption) rfl rfl (AV.beq_refl _) ?_ | refine Xe 2 (by assumption) rfl rfl (AV.beq_refl _) ?_ | refine Xe 3 (by assumption) rfl rfl (AV.beq_refl _) ?_ | refine Xe 4 (by assumption) rfl rfl (AV.beq_refl _) ?_ | refine Xe 5 (by assumption) rfl rfl (AV.beq_refl _) ?_ | refine Xe 6 (by assumption) rfl rfl (AV.beq_refl _) ?_ | refine Xe 7 (by assumption) rfl rfl (AV.beq_refl _) ?_ | refine Xe 8 (by assumption) rfl rfl (AV.beq_refl _) ?_ | refine st_loadEl (by assumption) (by assumption) rfl (Nat.le_of_ble_eq_true rfl) (AV.beq_refl _) ?_ | refine st_loadF (by assumption) (by assumption) rfl (AV.beq_refl _) ?_)) ?_
  refine mStay_n ?_
  simp only [sS, Nat.reduceEqDiff, ↓reduceIte, e0, e1, e7, e8] at O ⊢
  have hs2 := hs'.mono S2.le
  refine q_ixS hs2 rwC_len hx fun q1 u1 je1 => ?_
  with_reducible refine q_fa ?_
  refine XK O (by assumption) (by first | exact Xd rfl | rfl) (Nat.le_of_ble_eq_true rfl) ?_
  refine q_ixS hs2 rwC_len hx fun q2 u2 je2 => ?_
  with_reducible refine q_fa ?_
  refine XK O (by assumption) (by first | exact Xd rfl | rfl) (Nat.le_of_ble_eq_true rfl) ?_
  refine q_ixS hs2 rwC_len hx fun q3 u3 je3 => ?_
  with_reducible refine q_fa ?_
  refine XK O (by assumption) (by first | exact Xd rfl | rfl) (Nat.le_of_ble_eq_true rfl) ?_
  refine q_ixS hs2 rwC_len hx fun q4 u4 je4 => ?_
  with_reducible refine q_fa ?_
  refine XK O (by assumption) (by first | exact Xd rfl | rfl) (Nat.le_of_ble_eq_true rfl) ?_
  refine those_call O.fz (hxr.mono S2.le) hu (by omega) fun g3 h4 kv S3 hkv => ?_
  have O := O.call S3
  obtain ⟨v1, v2⟩ := hkv.one
  have je1' := je1.mono S3.le
  have je2' := je2.mono S3.le
  have je3' := je3.mono S3.le
  skip
  refine q_build4 rfl rfl rfl v1 ?_
  skip
  refine Yd O (cs := kfC ⟨x.k, x.tok, x.oth, kv, thoseN x.cs u⟩) rfl rfl fun _ _ O => ?_
  skip
  refine w_append 3 O rfl (src_own 0 O rfl rfl) (kf_flat bs) (by decide) (by simp only [kfC, List.all_cons, List.all_nil, v2, Bool.and_true] <;> rfl) (by omega) fun b2' h5 O => ?_
  simp only [List.set_cons_zero, List.set_cons_succ] at O
  with_reducible refine wM_i ?_
  refine mStay_c (by repeat (first | exact mStay1_n | refine Xe 0 (by assumption) rfl rfl (AV.beq_refl _) ?_ | refine Xe 1 (by assumption) rfl rfl (AV.beq_refl _) ?_ | refine Xe 2 (by assumption) rfl rfl (AV.beq_refl _) ?_ | refine Xe 3 (by assumption) rfl rfl (AV.beq_refl _) ?_ | refine Xe 4 (by assumption) rfl rfl (AV.beq_refl _) ?_ | refine Xe 5 (by assumption) rfl rfl (AV.beq_refl _) ?_ | refine Xe 6 (by assumption) rfl rfl (AV.beq_refl _) ?_ | refine Xe 7 (by assumption) rfl rfl (AV.beq_refl _) ?_ | refine Xe 8 (by assumption) rfl rfl (AV.beq_refl _) ?_ | refine st_loadEl (by assumption) (by assumption) rfl (Nat.le_of_ble_eq_true rfl) (AV.beq_refl _) ?_ | refine st_loadF (by assumption) (by assumption) rfl (AV.beq_refl _) ?_)) ?_
  refine mStay_c (by repeat (first | exact mStay1_n | refine Xe 0 (by assumption) rfl rfl (AV.beq_refl _) ?_ | refine Xe 1 (by assumption) rfl rfl (AV.beq_refl _) ?_ | refine Xe 2 (by assumption) rfl rfl (AV.beq_refl _) ?_ | refine Xe 3 (by assumption) rfl rfl (AV.beq_refl _) ?_ | refine Xe 4 (by assumption) rfl rfl (AV.beq_refl _) ?_ | refine Xe 5 (by assumption) rfl rfl (AV.beq_refl _) ?_ | refine Xe 6 (by assumption) rfl rfl (AV.beq_refl _) ?_ | refine Xe 7 (by assumption) rfl rfl (AV.beq_refl _) ?_ | refine Xe 8 (by assumption) rfl rfl (AV.beq_refl _) ?_ | refine st_loadEl (by assumption) (by assumption) rfl (Nat.le_of_ble_eq_true rfl) (AV.beq_refl _) ?_ | refine st_loadF (by assumption) (by assumption) rfl (AV.beq_refl _) ?_)) ?_
  refine mStay_c (by repeat (first | exact mStay1_n | refine Xe 0 (by assumption) rfl rfl (AV.beq_refl _) ?_ | refine Xe 1 (by assumption) rfl rfl (AV.beq_refl _) ?_ | refine Xe 2 (by assumption) rfl rfl (AV.beq_refl _) ?_ | refine Xe 3 (by assumption) rfl rfl (AV.beq_refl _) ?_ | refine Xe 4 (by assumption) rfl rfl (AV.beq_refl _) ?_ | refine Xe 5 (by assumption) rfl rfl (AV.beq_refl _) ?_ | refine Xe 6 (by assumption) rfl rfl (AV.beq_refl _) ?_ | refine Xe 7 (by assumption) rfl rfl (AV.beq_refl _) ?_ | refine Xe 8 (by assumption) rfl rfl (AV.beq_refl _) ?_ | refine st_loadEl (by assumption) (by assumption) rfl (Nat.le_of_ble_eq_true rfl) (AV.beq_refl _) ?_ | refine st_loadF (by assumption) (by assumption) rfl (AV.beq_refl _) ?_)) ?_
  refine mStay_n ?_
  with_reducible refine Xp ?_
  simp only [sS, Nat.reduceEqDiff, ↓reduceIte, e8] at O ⊢
  with_reducible refine Ye (by simp only [Xo]; omega) ?_
  with_reducible refine wM_i (Xp ?_)
  have hm' : Mt u ⟨x.k, x.tok, x.oth, lw, d2.2, setS x.cs⟩ ⟨x.k, x.tok, x.oth, kv, thoseN x.cs u⟩ := ⟨rfl, rfl, rfl, thoseN_eq _ _, hxw.only⟩
  refine hR (m - 1) _ _ (by omega) ⟨i + 1, b1', b2', fas ++ [⟨x.k, x.tok, x.oth, lw, d2.2, setS x.cs⟩], bs ++ [⟨x.k, x.tok, x.oth, kv, thoseN x.cs u⟩], g3, by omega, ⟨?_, ?_, ?_, ?_, ?_⟩, by simp [hal], by simp [hbl], hle.trans (S2.le.trans S3.le), ?_, ?_, hE.snoc hm', ?_⟩
  ·simp only [Tm.get_put, Nat.reduceEqDiff, ↓reduceIte, e0]
  ·simp only [Tm.get_put, Nat.reduceEqDiff, ↓reduceIte, e1]
  ·simp only [Tm.get_put, Nat.reduceEqDiff, ↓reduceIte, List.length_append, List.length_singleton]
  ·simp only [Tm.get_put, Nat.reduceEqDiff, ↓reduceIte, List.length_append, List.length_singleton]
  ·simp only [Tm.get_put, ↓reduceIte]
  ·intro y hy
   rcases List.mem_append.1 hy with hy | hy
   ·exact (hA y hy).mono (S2.le.trans S3.le)
   ·rw [List.mem_singleton] at hy
    subst hy
    exact hsv'.mono S3.le
  ·intro y hy
   rcases List.mem_append.1 hy with hy | hy
   ·exact (hB y hy).mono (S2.le.trans S3.le)
   ·rw [List.mem_singleton] at hy
    subst hy
    exact hkv
  ·rw [flat_snoc, flat_snoc, List.length_append, List.length_append]
   exact O.pick 4 [2, 3] (by decide) (by decide)
 ·rw [decide_eq_false hi]
  with_reducible refine Xx (mExit_i (XF (XF (mThen_oe (wM_i (wM_i (mFin_tt ?_)))))))
  simp only [sS, Nat.reduceEqDiff, ↓reduceIte, e6, e7] at O ⊢
  obtain ⟨g1, O1, l1, s1⟩ := O.freezeGr (enc := fcC) 0 rfl
  obtain ⟨g2, O2, l2, s2⟩ := O1.freezeGr (enc := kfC) 1 rfl
  exact hQ _ _ _ _ fas bs O2.done ⟨s1.mono l2, fun x hx => (hA x hx).mono (l1.trans l2)⟩ ⟨s2, fun x hx => (hB x hx).mono (l1.trans l2)⟩ hE (by omega)
end Go.AM
