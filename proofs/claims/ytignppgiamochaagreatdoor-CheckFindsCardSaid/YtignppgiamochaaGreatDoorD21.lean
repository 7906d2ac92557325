/- The law CheckFinds answers true. -/
import Derived.Test.YtignppgiamochaaGreatDoorD20
set_option linter.unusedVariables false
set_option linter.unusedSimpArgs false
namespace Go.AM
open Go
variable {g : G} {h : Heap} {Q : MK}
open Bdd (cfgs XQ XV inB inCu bitsN bitsF setS cuS Cu allF)
theorem mIfA_ft {o : MK → Prop} {mk : AV → List MA} {fas : List MA} {h : Heap} {k : AV → Heap → List MA → Prop} (x : o fun v h => k v h (mk v)) : mIfA (.bool false) false o mk fas h k := x
theorem LaidH.step {g' : G} {h' : Heap} (l : LaidH h) (s : Step g h g' h') : LaidH h' := fun b x hb => by
 obtain ⟨h1, h2⟩ := l b x hb
 exact ⟨Nat.lt_of_lt_of_le h1 s.ext.le, s.ext.has b x h1 h2⟩
theorem EqL.cons {u : Nat} {a : Fc} {b : Kf} {fas : List Fc} {bs : List Kf} : EqL u (a :: fas) (b :: bs) ↔ Mt u a b ∧ EqL u fas bs := by
 constructor
 ·rintro ⟨h1, h2⟩
  exact ⟨h2 0 a b rfl rfl, by simpa using h1, fun i x y hx hy => h2 (i + 1) x y (by simpa using hx) (by simpa using hy)⟩
 ·rintro ⟨m, h1, h2⟩
  refine ⟨by simp [h1], fun i x y hx hy => ?_⟩
  cases i with
  | zero => simp at hx hy; subst hx; subst hy; exact m
  | succ i => exact h2 i x y (by simpa using hx) (by simpa using hy)
theorem EqL.filter {u : Nat} {pA : Fc → Bool} {pB : Kf → Bool} (hp : ∀ a b, Mt u a b → pA a = pB b) : ∀ {fas : List Fc} {bs : List Kf}, EqL u fas bs → EqL u (fas.filter pA) (bs.filter pB) := by
 intro fas
 induction fas with
 | nil =>
  intro bs E
  have : bs = [] := List.eq_nil_of_length_eq_zero (by rw [← E.1]; rfl)
  subst this
  exact EqL.nil u
 | cons a fas ih =>
  intro bs E
  cases bs with
  | nil => have := E.1; simp at this
  | cons b bs =>
   obtain ⟨m, E'⟩ := EqL.cons.1 E
   have e := hp a b m
   by_cases h1 : pA a = true
   ·rw [List.filter_cons_of_pos h1, List.filter_cons_of_pos (by rw [← e]; exact h1)]
    exact EqL.cons.2 ⟨m, ih E'⟩
   ·rw [List.filter_cons_of_neg h1, List.filter_cons_of_neg (by rw [← e]; exact h1)]
    exact ih E'
def badK (b : Kf) : Bool := decide (b.k = Int.ofNat 4) && decide (0 < b.ns.length)
theorem bad_eq {u : Nat} (a : Fc) (b : Kf) (m : Mt u a b) : badF u a = badK b := by
 unfold badF badK
 rw [m.k, m.ns]
 congr 1
 cases cfgsOf u a.S <;> rfl
def ofK (kind tok : Int) (b : Kf) : Bool := decide (b.k = kind) && decide (b.tok = tok)
def toK (kind oth : Int) (b : Kf) : Bool := decide (b.k = kind) && decide (b.oth = oth)
theorem kfC_one {b : Kf} (h : oneA b.lv = true) : (kfC b).all oneA = true := by
 simp only [kfC, List.all_cons, List.all_nil, h, Bool.and_true] <;> rfl
theorem filter_step {α : Type} {p : α → Bool} {l : List α} {i : Nat} {x : α} (hx : l[i]? = some x) : (l.take (i + 1)).filter p = (l.take i).filter p ++ (if p x = true then [x] else []) := by
 obtain ⟨hi, hix⟩ := List.getElem?_eq_some_iff.1 hx
 rw [List.take_succ_eq_append_getElem hi, hix, List.filter_append]
 congr 1
 by_cases e : p x = true
 ·rw [if_pos e, List.filter_cons_of_pos e]; rfl
 ·rw [if_neg e, List.filter_cons_of_neg e]; rfl
theorem filter_len {α : Type} {p : α → Bool} {l : List α} {n i : Nat} (h : l.length ≤ n) : ((l.take i).filter p).length ≤ n := Nat.le_trans (List.length_filter_le _ _) (by rw [List.length_take]; omega)
theorem CheckFinds_call {v : AV} {l : List Rw} {kind tok oth : Int} (f : Fz g h) (hl : IsRws g v l) (hL : LaidH h) (hQ : ∀ g' h', Step g h g' h' → Q (.bool true) h') : Cl f_law_CheckFinds [v, .int .u8 kind, .int .i64 tok, .int .i64 oth] h Q := by
 have O := W.start f
 obtain ⟨ev, eo⟩ := hl.1.one
 refine Yf ok_law_CheckFinds (by simp) ?_
 unfold m_law_CheckFinds
 with_reducible refine wM_i ?_
 simp only [sS, XS, Nat.reduceAdd, Nat.reduceEqDiff, ↓reduceIte] at O ⊢
 refine Yd O (cs := flat roC [⟨v, l⟩]) (by simp only [evParts, List.map_cons, List.map_nil, ev_c, fillA, ev]; rfl) rfl fun bl _ O => ?_
 obtain ⟨g1, O, hle1, hg1⟩ := O.freezeB (n := 0) rfl
 have hros : IsRos g1 (.sl bl 0 1 (.ex 1)) [⟨v, l⟩] := ⟨.inr ⟨bl, 0, .ex 1, rfl, _, _, _, _, _, hg1, takeAt_all rfl⟩, (fun x hx => by rw [List.mem_singleton] at hx; subst hx; exact hl.mono hle1), by simp⟩
 have hnil : IsCus g1 .snil [] := ⟨isSl_nil _ _ _, by simp, by decide⟩
 refine rowBits_call (most := 6) O.fz hros hnil fun h2 u ok S2 hu hok => ?_
 have O := O.call S2
 cases ok with
 | false =>
  with_reducible refine q_ext0 (q_ext1 (wM_i (Xt (q_nf (XC ?_)))))
  simp only [sS] at O ⊢
  exact awake_call (hL.step O.done) (by
   with_reducible refine wM_i (mThen_r (XZ ?_))
   simp only [sS, ↓reduceIte] at O ⊢
   exact hQ _ _ O.done)
 | true =>
  have hrb := hok rfl
  have hc := hrb.cnt
  have hro := hrb.ok ⟨v, l⟩ (by simp)
  with_reducible refine q_ext0 (q_ext1 (wM_i (Xt (q_nt (Xx (Xy (Xp ?_)))))))
  simp only [sS, Nat.reduceEqDiff, ↓reduceIte] at O ⊢
  refine rows_call O.fz (hl.mono hle1) hro.len (fun x hx => (hro.row x hx).w) (by omega) (by omega) fun g3 h3 av bv fas bs S3 hA hB hE hAl => ?_
  have O := O.call S3
  have hBl : bs.length = fas.length := hE.1.symm
  have hll : l.length ≤ 300 := hro.len
  have hAo : ∀ a ∈ fas, Only u a.S := fun a ha => by
   obtain ⟨i, hi⟩ := List.getElem?_of_mem ha
   have hil := (List.getElem?_eq_some_iff.1 hi).1
   exact (hE.2 i a _ hi (List.getElem?_eq_getElem (by omega))).only
  with_reducible refine q_ext0 (q_ext1 (wM_i (wM_i (wM_i (wM_i (wM_i (Xt (wM_i (XD ?_)))))))))
  replace O := ((O.addN 0).addN 0).addN 0
  refine XL (fun m t h' => ∃ i b1 b2 b3, m + i = bs.length ∧ (t.get 1 = .int .u8 kind ∧ t.get 2 = .int .i64 tok ∧ t.get 3 = .int .i64 oth ∧ t.get 9 = uV u ∧ t.get 11 = av ∧ t.get 12 = bv ∧ t.get 13 = grV b1 ((bs.take i).filter (ofK kind tok)).length ∧ t.get 14 = grV b2 ((bs.take i).filter (toK kind oth)).length ∧ t.get 15 = grV b3 ((bs.take i).filter badK).length ∧ t.get 16 = iV i) ∧
   W g h g3 h' [grE 53 4 b1 (flat kfC ((bs.take i).filter (ofK kind tok))) ((bs.take i).filter (ofK kind tok)).length, grE 53 4 b2 (flat kfC ((bs.take i).filter (toK kind oth))) ((bs.take i).filter (toK kind oth)).length, grE 53 4 b3 (flat kfC ((bs.take i).filter badK)) ((bs.take i).filter badK).length]) bs.length ⟨0, 0, 0, 0, rfl, ⟨?_, ?_, ?_, ?_, ?_, ?_, ?_, ?_, ?_, ?_⟩, O.pick 4 [0, 1, 2] (by decide) (by decide)⟩ ?_
  iterate 10 (simp only [Tm.get_put, Nat.reduceEqDiff, ↓reduceIte] <;> rfl)
  rintro m t h1 ⟨i, b1, b2, b3, hm, ⟨e1, e2, e3, e9, e11, e12, e13, e14, e15, e16⟩, O⟩ R hR
  have hB' := hB
  obtain ⟨hBs, hBn⟩ := hB
  with_reducible refine Xt ?_
  simp only [e12, e16] at O ⊢
  refine q_lenS hBs ?_
  skip
  refine q_lssN ?_
  by_cases hi : i < bs.length
  ·rw [decide_eq_true hi]
   obtain ⟨x, hx⟩ : ∃ x, bs[i]? = some x := ⟨_, List.getElem?_eq_getElem hi⟩
   have hxo := kfC_one (hBn x (List.mem_of_getElem? hx)).one.2
   have f1 := filter_step (p := ofK kind tok) hx
   have f2 := filter_step (p := toK kind oth) hx
   have f3 := filter_step (p := badK) hx
   have n1 := filter_len (p := ofK kind tok) (n := 300) (i := i) (show bs.length ≤ 300 by omega)
   have n2 := filter_len (p := toK kind oth) (n := 300) (i := i) (show bs.length ≤ 300 by omega)
   have n3 := filter_len (p := badK) (n := 300) (i := i) (show bs.length ≤ 300 by omega)
   generalize hF1 : (bs.take i).filter (ofK kind tok) = F1 at *
   generalize hF2 : (bs.take i).filter (toK kind oth) = F2 at *
   generalize hF3 : (bs.take i).filter badK = F3 at *
   with_reducible refine XC (Xy (Xp ?_))
   refine Xt ?_
   with_reducible refine XD ?_
   simp only [sS] at O ⊢
   refine mSeq_mid (fun t hh => ∃ b1 b2 b3, (t.get 1 = .int .u8 kind ∧ t.get 2 = .int .i64 tok ∧ t.get 3 = .int .i64 oth ∧ t.get 9 = uV u ∧ t.get 11 = av ∧ t.get 12 = bv ∧ t.get 13 = grV b1 ((F1 ++ if ofK kind tok x = true then [x] else [])).length ∧ t.get 14 = grV b2 (F2).length ∧ t.get 15 = grV b3 (F3).length ∧ t.get 16 = iV i) ∧ W g h g3 hh [grE 53 4 b1 (flat kfC (F1 ++ if ofK kind tok x = true then [x] else [])) ((F1 ++ if ofK kind tok x = true then [x] else [])).length, grE 53 4 b2 (flat kfC F2) (F2).length, grE 53 4 b3 (flat kfC F3) (F3).length]) ?_ ?_
   ·intro k' hk
    simp only [e1, e2, e12, e16] at O ⊢
    refine q_ixS hBs kfC_len hx fun p1 o1 he1 => ?_
    with_reducible refine q_fa ?_
    refine XK O (by assumption) (by first | exact Xd rfl | rfl) (Nat.le_of_ble_eq_true rfl) ?_
    refine q_eqI' ?_
    by_cases c1 : x.k = kind
    ·rw [decide_eq_true c1]
     with_reducible refine Yg (Yg (Yg ?_))
     refine q_ixS hBs kfC_len hx fun p2 o2 he2 => ?_
     with_reducible refine Yg (q_fa (Yg ?_))
     refine XK O (by assumption) (by first | exact Xd rfl | rfl) (Nat.le_of_ble_eq_true rfl) ?_
     with_reducible refine Yg (Yg ?_)
     refine q_eqI' ?_
     by_cases c2 : x.tok = tok
     ·rw [decide_eq_true c2]
      have hP : ofK kind tok x = true := by unfold ofK; rw [decide_eq_true c1, decide_eq_true c2]; rfl
      simp only [if_pos hP] at hk
      with_reducible refine XX (XC ?_)
      simp only [e12, e13, e16] at O ⊢
      refine q_ixS hBs kfC_len hx fun p3 o3 he3 => ?_
      refine XK O (by assumption) (by first | exact Xd rfl | rfl) (Nat.le_of_ble_eq_true rfl) ?_
      refine Yd O (cs := kfC x) rfl rfl fun _ _ O => ?_
      skip
      refine w_append 1 O rfl (src_own 0 O rfl rfl) (kf_flat _) (by decide) hxo (by omega) fun b' h5 O => ?_
      simp only [List.set_cons_zero, List.set_cons_succ] at O
      with_reducible refine wM_i ?_
      refine hk _ _ ⟨b', b2, b3, ⟨?_, ?_, ?_, ?_, ?_, ?_, ?_, ?_, ?_, ?_⟩, ?_⟩
      iterate 10 (simp only [Tm.get_put, Nat.reduceEqDiff, ↓reduceIte, e1, e2, e3, e9, e11, e12, e14, e15, e16, List.length_append, List.length_singleton])
      ·rw [flat_snoc, show (F1 ++ [x]).length = F1.length + 1 by simp]
       exact O.drop1
     ·rw [decide_eq_false c2]
      have hP : ¬ ofK kind tok x = true := by unfold ofK; rw [decide_eq_false c2, Bool.and_false]; decide
      simp only [if_neg hP, List.append_nil] at hk
      with_reducible refine XX (Xx (Xy ?_))
      exact hk _ _ ⟨b1, b2, b3, ⟨e1, e2, e3, e9, e11, e12, e13, e14, e15, e16⟩, O⟩
    ·rw [decide_eq_false c1]
     have hP : ¬ ofK kind tok x = true := by unfold ofK; rw [decide_eq_false c1, Bool.false_and]; decide
     simp only [if_neg hP, List.append_nil] at hk
     with_reducible refine Yb (Yb (Yb (Yb (Yb (Yb (Yb (Ya (Xx (Xy ?_)))))))))
     exact hk _ _ ⟨b1, b2, b3, ⟨e1, e2, e3, e9, e11, e12, e13, e14, e15, e16⟩, O⟩
   rintro t h1 ⟨b1, b2, b3, ⟨e1, e2, e3, e9, e11, e12, e13, e14, e15, e16⟩, O⟩
   refine mSeq_mid (fun t hh => ∃ b1 b2 b3, (t.get 1 = .int .u8 kind ∧ t.get 2 = .int .i64 tok ∧ t.get 3 = .int .i64 oth ∧ t.get 9 = uV u ∧ t.get 11 = av ∧ t.get 12 = bv ∧ t.get 13 = grV b1 ((F1 ++ if ofK kind tok x = true then [x] else [])).length ∧ t.get 14 = grV b2 ((F2 ++ if toK kind oth x = true then [x] else [])).length ∧ t.get 15 = grV b3 (F3).length ∧ t.get 16 = iV i) ∧ W g h g3 hh [grE 53 4 b1 (flat kfC (F1 ++ if ofK kind tok x = true then [x] else [])) ((F1 ++ if ofK kind tok x = true then [x] else [])).length, grE 53 4 b2 (flat kfC (F2 ++ if toK kind oth x = true then [x] else [])) ((F2 ++ if toK kind oth x = true then [x] else [])).length, grE 53 4 b3 (flat kfC F3) (F3).length]) ?_ ?_
   ·intro k' hk
    simp only [e1, e3, e12, e16] at O ⊢
    refine q_ixS hBs kfC_len hx fun p1 o1 he1 => ?_
    with_reducible refine q_fa ?_
    refine XK O (by assumption) (by first | exact Xd rfl | rfl) (Nat.le_of_ble_eq_true rfl) ?_
    refine q_eqI' ?_
    by_cases c1 : x.k = kind
    ·rw [decide_eq_true c1]
     with_reducible refine Yg (Yg (Yg ?_))
     refine q_ixS hBs kfC_len hx fun p2 o2 he2 => ?_
     with_reducible refine Yg (q_fa (Yg ?_))
     refine XK O (by assumption) (by first | exact Xd rfl | rfl) (Nat.le_of_ble_eq_true rfl) ?_
     with_reducible refine Yg (Yg ?_)
     refine q_eqI' ?_
     by_cases c2 : x.oth = oth
     ·rw [decide_eq_true c2]
      have hP : toK kind oth x = true := by unfold toK; rw [decide_eq_true c1, decide_eq_true c2]; rfl
      simp only [if_pos hP] at hk
      with_reducible refine XX (XC ?_)
      simp only [e12, e14, e16] at O ⊢
      refine q_ixS hBs kfC_len hx fun p3 o3 he3 => ?_
      refine XK O (by assumption) (by first | exact Xd rfl | rfl) (Nat.le_of_ble_eq_true rfl) ?_
      refine Yd O (cs := kfC x) rfl rfl fun _ _ O => ?_
      skip
      refine w_append 2 O rfl (src_own 0 O rfl rfl) (kf_flat _) (by decide) hxo (by omega) fun b' h5 O => ?_
      simp only [List.set_cons_zero, List.set_cons_succ] at O
      with_reducible refine wM_i ?_
      refine hk _ _ ⟨b1, b', b3, ⟨?_, ?_, ?_, ?_, ?_, ?_, ?_, ?_, ?_, ?_⟩, ?_⟩
      iterate 10 (simp only [Tm.get_put, Nat.reduceEqDiff, ↓reduceIte, e1, e2, e3, e9, e11, e12, e13, e15, e16, List.length_append, List.length_singleton])
      ·rw [flat_snoc, show (F2 ++ [x]).length = F2.length + 1 by simp]
       exact O.drop1
     ·rw [decide_eq_false c2]
      have hP : ¬ toK kind oth x = true := by unfold toK; rw [decide_eq_false c2, Bool.and_false]; decide
      simp only [if_neg hP, List.append_nil] at hk
      with_reducible refine XX (Xx (Xy ?_))
      exact hk _ _ ⟨b1, b2, b3, ⟨e1, e2, e3, e9, e11, e12, e13, e14, e15, e16⟩, O⟩
    ·rw [decide_eq_false c1]
     have hP : ¬ toK kind oth x = true := by unfold toK; rw [decide_eq_false c1, Bool.false_and]; decide
     simp only [if_neg hP, List.append_nil] at hk
     with_reducible refine Yb (Yb (Yb (Yb (Yb (Yb (Yb (Ya (Xx (Xy ?_)))))))))
     exact hk _ _ ⟨b1, b2, b3, ⟨e1, e2, e3, e9, e11, e12, e13, e14, e15, e16⟩, O⟩
   rintro t h1 ⟨b1, b2, b3, ⟨e1, e2, e3, e9, e11, e12, e13, e14, e15, e16⟩, O⟩
   have hk : ∀ (t' : Tm) (h' : Heap) (b1 b2 b3 : Nat), (t'.get 1 = .int .u8 kind ∧ t'.get 2 = .int .i64 tok ∧ t'.get 3 = .int .i64 oth ∧ t'.get 9 = uV u ∧ t'.get 11 = av ∧ t'.get 12 = bv ∧ t'.get 13 = grV b1 (F1 ++ if ofK kind tok x = true then [x] else []).length ∧ t'.get 14 = grV b2 (F2 ++ if toK kind oth x = true then [x] else []).length ∧ t'.get 15 = grV b3 (F3 ++ if badK x = true then [x] else []).length ∧ t'.get 16 = iV (i + 1)) → W g h g3 h' [grE 53 4 b1 (flat kfC (F1 ++ if ofK kind tok x = true then [x] else [])) (F1 ++ if ofK kind tok x = true then [x] else []).length, grE 53 4 b2 (flat kfC (F2 ++ if toK kind oth x = true then [x] else [])) (F2 ++ if toK kind oth x = true then [x] else []).length, grE 53 4 b3 (flat kfC (F3 ++ if badK x = true then [x] else [])) (F3 ++ if badK x = true then [x] else []).length] → R t' h' := by
    intro t' h' b1 b2 b3 ht hO
    refine hR (m - 1) _ _ (by omega) ⟨i + 1, b1, b2, b3, by omega, ?_, ?_⟩
    ·rw [f1, f2, f3]; exact ht
    ·rw [f1, f2, f3]; exact hO
   simp only [e12, e16] at O ⊢
   refine q_ixS hBs kfC_len hx fun p1 o1 he1 => ?_
   with_reducible refine q_fa ?_
   refine XK O (by assumption) (by first | exact Xd rfl | rfl) (Nat.le_of_ble_eq_true rfl) ?_
   refine q_eqI' ?_
   by_cases c1 : x.k = Int.ofNat 4
   ·rw [decide_eq_true c1]
    with_reducible refine Yg (Yg (Yg ?_))
    refine q_ixS hBs kfC_len hx fun p2 o2 he2 => ?_
    with_reducible refine Yg (q_fa (Yg ?_))
    refine XK O (by assumption) (by first | exact Xd rfl | rfl) (Nat.le_of_ble_eq_true rfl) ?_
    with_reducible refine Yg ?_
    refine q_lenS (hBn x (List.mem_of_getElem? hx)) ?_
    with_reducible refine Yg ?_
    refine q_gtrN ?_
    by_cases c2 : 0 < x.ns.length
    ·rw [decide_eq_true c2]
     have hP : badK x = true := by unfold badK; rw [decide_eq_true c1, decide_eq_true c2]; rfl
     simp only [if_pos hP] at hk
     with_reducible refine XX (XC ?_)
     simp only [sS, e12, e15, e16] at O ⊢
     refine q_ixS hBs kfC_len hx fun p3 o3 he3 => ?_
     refine XK O (by assumption) (by first | exact Xd rfl | rfl) (Nat.le_of_ble_eq_true rfl) ?_
     refine Yd O (cs := kfC x) rfl rfl fun _ _ O => ?_
     skip
     refine w_append 3 O rfl (src_own 0 O rfl rfl) (kf_flat _) (by decide) hxo (by omega) fun b' h5 O => ?_
     simp only [List.set_cons_zero, List.set_cons_succ] at O
     with_reducible refine wM_i (Xp ?_)
     simp only [sS, Nat.reduceEqDiff, ↓reduceIte, e16] at O ⊢
     with_reducible refine Ye (by simp only [Xo]; omega) ?_
     with_reducible refine wM_i (Xp ?_)
     refine hk _ _ b1 b2 b' ⟨?_, ?_, ?_, ?_, ?_, ?_, ?_, ?_, ?_, ?_⟩ ?_
     iterate 10 (simp only [Tm.get_put, Nat.reduceEqDiff, ↓reduceIte, e1, e2, e3, e9, e11, e12, e13, e14, List.length_append, List.length_singleton])
     simp only [flat_snoc, List.length_append, List.length_singleton] at O ⊢
     exact O.drop1
    ·rw [decide_eq_false c2]
     have hP : ¬ badK x = true := by unfold badK; rw [decide_eq_false c2, Bool.and_false]; decide
     simp only [if_neg hP, List.append_nil] at hk
     with_reducible refine XX (Xx (Xy (mThen_on ?_)))
     simp only [e16] at O ⊢
     with_reducible refine Ye (by simp only [Xo]; omega) ?_
     with_reducible refine wM_i (Xp ?_)
     refine hk _ _ b1 b2 b3 ⟨?_, ?_, ?_, ?_, ?_, ?_, ?_, ?_, ?_, ?_⟩ O
     iterate 10 (simp only [Tm.get_put, Nat.reduceEqDiff, ↓reduceIte, e1, e2, e3, e9, e11, e12, e13, e14, e15])
   ·rw [decide_eq_false c1]
    have hP : ¬ badK x = true := by unfold badK; rw [decide_eq_false c1, Bool.false_and]; decide
    simp only [if_neg hP, List.append_nil] at hk
    with_reducible refine Yb (Yb (Yb (Yb (Yb (Yb (Yb (Ya (Xx (Xy (mThen_on ?_))))))))))
    simp only [e16] at O ⊢
    with_reducible refine Ye (by simp only [Xo]; omega) ?_
    with_reducible refine wM_i (Xp ?_)
    refine hk _ _ b1 b2 b3 ⟨?_, ?_, ?_, ?_, ?_, ?_, ?_, ?_, ?_, ?_⟩ O
    iterate 10 (simp only [Tm.get_put, Nat.reduceEqDiff, ↓reduceIte, e1, e2, e3, e9, e11, e12, e13, e14, e15])
  ·rw [decide_eq_false hi]
   have htk : bs.take i = bs := List.take_of_length_le (by omega)
   rw [htk] at e13 e14 e15 O
   with_reducible refine Xx (mExit_i (XF (XF (mThen_oe ?_))))
   simp only [e11] at O ⊢
   have hEb := EqL.filter bad_eq hE
   have hEo : EqL u (fas.filter fun x => decide (x.k = kind) && decide (x.tok = tok)) (bs.filter (ofK kind tok)) := EqL.filter (fun a b m => by unfold ofK; rw [m.k, m.tok]) hE
   have hEt : EqL u (fas.filter fun x => decide (x.k = kind) && decide (x.oth = oth)) (bs.filter (toK kind oth)) := EqL.filter (fun a b m => by unfold toK; rw [m.k, m.oth]) hE
   have hlA : ∀ p : Fc → Bool, (fas.filter p).length ≤ 300 := fun p => Nat.le_trans (List.length_filter_le _ _) (by omega)
   have hlB : ∀ p : Kf → Bool, (bs.filter p).length ≤ 300 := fun p => Nat.le_trans (List.length_filter_le _ _) (by omega)
   have hns : ∀ x ∈ bs, x.ns.length < 4611686018427387904 := fun x hx => by
    obtain ⟨j, hj⟩ := List.getElem?_of_mem hx
    have hjl := (List.getElem?_eq_some_iff.1 hj).1
    rw [(hE.2 j _ x (List.getElem?_eq_getElem (by omega)) hj).ns]
    refine Nat.lt_of_le_of_lt (List.length_filter_le _ _) ?_
    unfold XQ
    rw [Bdd.cfgs_len]
    exact Nat.lt_of_le_of_lt (Nat.pow_le_pow_right (by decide : 0 < 2) hc) (by decide)
   have hB3l := hlB badK
   generalize hB1 : bs.filter (ofK kind tok) = B1 at *
   generalize hB2 : bs.filter (toK kind oth) = B2 at *
   generalize hB3 : bs.filter badK = B3 at *
   have m1 : ∀ x ∈ B1, x ∈ bs := fun x hx => by rw [← hB1] at hx; exact (List.mem_filter.1 hx).1
   have m2 : ∀ x ∈ B2, x ∈ bs := fun x hx => by rw [← hB2] at hx; exact (List.mem_filter.1 hx).1
   have m3 : ∀ x ∈ B3, x ∈ bs := fun x hx => by rw [← hB3] at hx; exact (List.mem_filter.1 hx).1
   obtain ⟨ga, O, la, s1⟩ := O.freezeGr (enc := kfC) 0 rfl
   obtain ⟨gb, O, lb, s2⟩ := O.freezeGr (enc := kfC) 1 rfl
   obtain ⟨gc, O, lc, s3⟩ := O.freezeGr (enc := kfC) 2 rfl
   have q1 := s1.mono (lb.trans lc)
   have q2 := s2.mono lc
   have l3 := la.trans (lb.trans lc)
   generalize grV b1 B1.length = V1 at *
   generalize grV b2 B2.length = V2 at *
   generalize grV b3 B3.length = V3 at *
   refine Problems_call (u := u) O.fz (hA.mono l3) hAo hu (by omega) fun g5 h5 w ps S5 hps hpS hpl => ?_
   have O := O.call S5
   with_reducible refine wM_i (Xt ?_)
   simp only [sS, Nat.reduceEqDiff, ↓reduceIte, e1, e2, e3, e9, e11, e13, e14, e15] at O ⊢
   refine q_lenS hps ?_
   skip
   refine q_lenS (s3.mono S5.le) ?_
   skip
   refine q_neN ?_
   have hlen : ps.length = B3.length := by rw [← hpl.1]; exact hEb.1
   rw [decide_eq_true hlen]
   simp only [sS] at O ⊢
   with_reducible refine XB (XB (XB (XB ?_)))
   refine Of_call O.fz (hA.mono (l3.trans S5.le)) (by omega) fun g6 h6 w1 S6 hw1 => ?_
   have O := O.call S6
   with_reducible refine XB (XB (XB ?_))
   refine equal_call O.fz hw1 ⟨q1.mono (S5.le.trans S6.le), fun x hx => (hBn x (m1 x hx)).mono (l3.trans (S5.le.trans S6.le))⟩ (fun x hx => hAo x (List.mem_filter.1 hx).1) (Nat.lt_of_le_of_lt (hlA _) (by decide)) (fun x hx => hns x (m1 x hx)) (by omega) (by omega) fun g7 h7 bo S7 hbo => ?_
   have hbt := hbo.2 hEo
   subst hbt
   have O := O.call S7
   with_reducible refine XB (q_nt (Ya (XB (XB (XB (XB ?_))))))
   refine To_call O.fz (hA.mono (l3.trans (S5.le.trans (S6.le.trans S7.le)))) (by omega) fun g8 h8 w2 S8 hw2 => ?_
   have O := O.call S8
   with_reducible refine XB (XB (XB ?_))
   refine equal_call O.fz hw2 ⟨q2.mono (S5.le.trans (S6.le.trans (S7.le.trans S8.le))), fun x hx => (hBn x (m2 x hx)).mono (l3.trans (S5.le.trans (S6.le.trans (S7.le.trans S8.le))))⟩ (fun x hx => hAo x (List.mem_filter.1 hx).1) (Nat.lt_of_le_of_lt (hlA _) (by decide)) (fun x hx => hns x (m2 x hx)) (by omega) (by omega) fun g9 h9 bo S9 hbo => ?_
   have hbt := hbo.2 hEt
   subst hbt
   have O := O.call S9
   with_reducible refine XB (q_nt (Ya (Xx (Xy (Xp (Xt (wM_i (XD ?_))))))))
   have l9 := S5.le.trans (S6.le.trans (S7.le.trans (S8.le.trans S9.le)))
   have hps9 := hps.mono (S6.le.trans (S7.le.trans (S8.le.trans S9.le)))
   have s39 := s3.mono l9
   replace O := O.pick 3 [] (by decide) (by decide)
   have hE3 : EqL u (fas.filter (badF u)) B3 := hEb
   refine XL (fun m t h' => ∃ i gi, m + i = ps.length ∧ (t.get 9 = uV u ∧ t.get 15 = V3 ∧ t.get 17 = w ∧ t.get 18 = iV i) ∧ Gle g9 gi ∧ W g h gi h' []) ps.length ⟨0, g9, rfl, ⟨?_, ?_, ?_, ?_⟩, .refl g9, O⟩ ?_
   iterate 4 (simp only [Tm.get_put, Nat.reduceEqDiff, ↓reduceIte, e9, e15])
   clear e1 e2 e3 e9 e11 e12 e13 e14 e15 e16
   rintro m2 t h2 ⟨i2, gi, hm2, ⟨e9, e15, e17, e18⟩, hle2, O⟩ R2 hR2
   have hpsi := hps9.mono hle2
   have s3i := s39.mono hle2
   with_reducible refine Xt ?_
   simp only [e17, e18] at O ⊢
   refine q_lenS hpsi ?_
   skip
   refine q_lssN ?_
   by_cases hi2 : i2 < ps.length
   ·rw [decide_eq_true hi2]
    obtain ⟨pp, hpp⟩ : ∃ x, ps[i2]? = some x := ⟨_, List.getElem?_eq_getElem hi2⟩
    obtain ⟨bb, hbb⟩ : ∃ x, B3[i2]? = some x := ⟨_, List.getElem?_eq_getElem (by omega)⟩
    obtain ⟨aa, haa⟩ : ∃ x, (fas.filter (badF u))[i2]? = some x := ⟨_, List.getElem?_eq_getElem (by rw [hpl.1]; exact hi2)⟩
    have hpo := hpl.2 i2 aa pp haa hpp
    have hmt := hE3.2 i2 aa bb haa hbb
    have hppm := List.mem_of_getElem? hpp
    have hbbm := List.mem_of_getElem? hbb
    have hbn := (hBn bb (m3 bb hbbm)).mono ((l3.trans l9).trans hle2)
    with_reducible refine XC (Xy (Xp (Xt (XD ?_))))
    simp only [e9, e15, e17, e18] at O ⊢
    refine q_ixS hpsi pbC_len hpp fun p1 o1 he1 => ?_
    with_reducible refine q_fa ?_
    refine XK O (by assumption) (by first | exact Xd rfl | rfl) (Nat.le_of_ble_eq_true rfl) ?_
    refine q_ixS s3i kfC_len hbb fun p2 o2 he2 => ?_
    with_reducible refine q_fa ?_
    refine XK O (by assumption) (by first | exact Xd rfl | rfl) (Nat.le_of_ble_eq_true rfl) ?_
    refine q_toIntG ?_
    skip
    refine q_neI ?_
    rw [decide_eq_true (by rw [hpo.code, hmt.oth])]
    simp only [sS] at O ⊢
    with_reducible refine XB (XB (XB ?_))
    refine q_ixS hpsi pbC_len hpp fun p3 o3 he3 => ?_
    with_reducible refine XB (q_fa (XB ?_))
    refine XK O (by assumption) (by first | exact Xd rfl | rfl) (Nat.le_of_ble_eq_true rfl) ?_
    with_reducible refine XB (XB (XB ?_))
    refine q_ixS s3i kfC_len hbb fun p4 o4 he4 => ?_
    with_reducible refine XB (q_fa (XB ?_))
    refine XK O (by assumption) (by first | exact Xd rfl | rfl) (Nat.le_of_ble_eq_true rfl) ?_
    with_reducible refine XB ?_
    refine q_neI ?_
    rw [decide_eq_true (by rw [hpo.tok, hmt.tok])]
    with_reducible refine Ya ?_
    simp only [sS] at O ⊢
    with_reducible refine XB (XB (XB ?_))
    refine q_ixS hpsi pbC_len hpp fun p5 o5 he5 => ?_
    with_reducible refine XB (q_fa (XB ?_))
    refine XK O (by assumption) (by first | exact Xd rfl | rfl) (Nat.le_of_ble_eq_true rfl) ?_
    with_reducible refine XB (XB (XB ?_))
    simp only [sS] at O ⊢
    refine q_ixS s3i kfC_len hbb fun p6 o6 he6 => ?_
    with_reducible refine XB (q_fa (XB ?_))
    refine XK O (by assumption) (by first | exact Xd rfl | rfl) (Nat.le_of_ble_eq_true rfl) ?_
    with_reducible refine XB (XB ?_)
    refine alike_call O.fz ((hpS pp hppm).mono ((S6.le.trans (S7.le.trans (S8.le.trans S9.le))).trans hle2)) hbn (hns bb (m3 bb hbbm)) (by rw [hpo.S]; exact hmt.only) (by omega) (by omega) fun ga2 h3 ok S10 hok => ?_
    have hokt : ok = true := hok.2 (by rw [hpo.S]; exact hmt.ns)
    subst hokt
    have O := O.call S10
    have hpsj := hpsi.mono S10.le
    have s3j := s3i.mono S10.le
    with_reducible refine XB (q_nt (Ya (XB (XB (XB ?_)))))
    refine q_ixS hpsj pbC_len hpp fun p7 o7 he7 => ?_
    with_reducible refine XB (q_fa (mIfA_ft ?_))
    refine XK O (by assumption) (by first | exact Xd rfl | rfl) (Nat.le_of_ble_eq_true rfl) ?_
    with_reducible refine XB (XB (XB ?_))
    refine q_ixS s3j kfC_len hbb fun p8 o8 he8 => ?_
    with_reducible refine XB (q_fa (XB ?_))
    refine XK O (by assumption) (by first | exact Xd rfl | rfl) (Nat.le_of_ble_eq_true rfl) ?_
    with_reducible refine XB ?_
    refine smallest_call O.fz (hbn.mono S10.le) (hns bb (m3 bb hbbm)) (fun x hx => by
     rw [hmt.ns] at hx
     have := (cfgsOf_lt hu hx).1
     omega) fun h4 S11 => ?_
    have O := O.call S11
    with_reducible refine XB ?_
    refine q_neN ?_
    rw [decide_eq_true (by rw [hpo.least, hmt.ns])]
    with_reducible refine Ya ?_
    refine mStay_c (by repeat (first | exact mStay1_n | refine Xe 0 (by assumption) rfl rfl (AV.beq_refl _) ?_ | refine Xe 1 (by assumption) rfl rfl (AV.beq_refl _) ?_ | refine Xe 2 (by assumption) rfl rfl (AV.beq_refl _) ?_ | refine Xe 3 (by assumption) rfl rfl (AV.beq_refl _) ?_ | refine Xe 4 (by assumption) rfl rfl (AV.beq_refl _) ?_ | refine Xe 5 (by assumption) rfl rfl (AV.beq_refl _) ?_ | refine Xe 6 (by assumption) rfl rfl (AV.beq_refl _) ?_ | refine Xe 7 (by assumption) rfl rfl (AV.beq_refl _) ?_ | refine Xe 8 (by assumption) rfl rfl (AV.beq_refl _) ?_ | refine st_loadEl (by assumption) (by assumption) rfl (Nat.le_of_ble_eq_true rfl) (AV.beq_refl _) ?_ | refine st_loadF (by assumption) (by assumption) rfl (AV.beq_refl _) ?_)) ?_
    refine mStay_n ?_
    simp only [sS] at O ⊢
    with_reducible refine Xx (Xy (mThen_on ?_))
    simp only [e18] at O ⊢
    with_reducible refine Ye (by simp only [Xo]; omega) ?_
    with_reducible refine wM_i (Xp ?_)
    refine hR2 (m2 - 1) _ _ (by omega) ⟨i2 + 1, ga2, by omega, ⟨?_, ?_, ?_, ?_⟩, hle2.trans S10.le, O⟩
    iterate 4 (simp only [Tm.get_put, Nat.reduceEqDiff, ↓reduceIte, e9, e15, e17])
   ·rw [decide_eq_false hi2]
    with_reducible refine Xx (mExit_i (XF (XF (mThen_oe ?_))))
    exact awake_call (hL.step O.done) (by
     with_reducible refine wM_i (XZ ?_)
     simp only [sS, ↓reduceIte] at O ⊢
     exact hQ _ _ O.done)
end Go.AM
