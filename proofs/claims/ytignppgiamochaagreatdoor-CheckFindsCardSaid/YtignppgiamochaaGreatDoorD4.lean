/- Two sets joined. -/
import Derived.Test.YtignppgiamochaaGreatDoorD3
set_option linter.unusedVariables false
set_option linter.unusedSimpArgs false
namespace Go.AM
open Go
def kk (a : Nat × Nat) : AV := .agg [iV a.1, iV a.2]
def pjE (e p m : Nat) (la : AV) (ra : Nat) (lv : AV) (rb sp : Nat) : Ent := (p, some (.cells false false e 6 [.ptr m 0, la, iV ra, lv, iV rb, .map sp]))
def sE (sp : Nat) (sl : List ((Nat × Nat) × Nat)) : Ent := (sp, some (.map (mEs kk iV sl 0) sl.length))
structure JL (A B : List Bdd.Nd) (sl : List ((Nat × Nat) × Nat)) (ns : List Bdd.Nd) : Prop where
 len : ns.length ≤ sl.length
 nd : (sl.map (·.1)).Nodup
 rng : ∀ p ∈ sl.map (·.1), p.1 < A.length + 2 ∧ p.2 < B.length + 2
theorem look_app {K V : Type} [DecidableEq K] (a b : K) (v : V) : ∀ l : List (K × V), mLook a (l ++ [(b, v)]) = match mLook a l with | some w => some w | none => if a = b then some v else none := by
 intro l
 induction l with
 | nil => rfl
 | cons x r ih =>
  obtain ⟨k, w⟩ := x
  simp only [List.cons_append, mLook]
  by_cases e : a = k
  ·simp [e]
  ·simp only [if_neg e]; exact ih
theorem look_none {K V : Type} [DecidableEq K] (a : K) : ∀ l : List (K × V), mLook a l = none → a ∉ l.map (·.1) := by
 intro l
 induction l with
 | nil => intro _; simp
 | cons x r ih =>
  obtain ⟨k, w⟩ := x
  intro h
  simp only [mLook] at h
  split at h
  ·cases h
  ·rename_i hne
   simp only [List.map_cons, List.mem_cons, not_or]
   exact ⟨hne, ih h⟩
theorem node_len (ns : List Bdd.Nd) (i lo hi : Nat) : (Bdd.node ns i lo hi).1.length ≤ ns.length + 1 := by
 unfold Bdd.node
 split
 ·exact Nat.le_succ _
 ·split
  ·exact Nat.le_succ _
  ·simp
theorem JL.keys {A B : List Bdd.Nd} {sl : List ((Nat × Nat) × Nat)} {ns : List Bdd.Nd} (J : JL A B sl ns) {x y : Nat} (h : mLook (x, y) sl = none) (hx : Bdd.Pl A x) (hy : Bdd.Pl B y) : ((sl.map (·.1)) ++ [(x, y)]).Nodup ∧ ∀ p ∈ (sl.map (·.1)) ++ [(x, y)], p.1 < A.length + 2 ∧ p.2 < B.length + 2 := by
 refine ⟨?_, fun p hp => ?_⟩
 ·rw [List.nodup_append]
  refine ⟨J.nd, by simp, fun a ha b hb => ?_⟩
  rw [List.mem_singleton] at hb
  subst hb
  exact fun e => look_none _ _ h (e ▸ ha)
 ·rcases List.mem_append.1 hp with hp | hp
  ·exact J.rng p hp
  ·rw [List.mem_singleton] at hp
   subst hp
   exact ⟨hx, hy⟩
theorem JL.lt {A B : List Bdd.Nd} {sl : List ((Nat × Nat) × Nat)} {ns : List Bdd.Nd} (J : JL A B sl ns) {x y N : Nat} (h : mLook (x, y) sl = none) (hx : Bdd.Pl A x) (hy : Bdd.Pl B y) (hN : (A.length + 2) * (B.length + 2) ≤ N) : ns.length < N := by
 obtain ⟨h1, h2⟩ := J.keys h hx hy
 have := Bdd.pairs_le h1 h2
 simp only [List.length_append, List.length_map, List.length_singleton] at this
 have := J.len
 omega
theorem JL.snoc {A B : List Bdd.Nd} {sl : List ((Nat × Nat) × Nat)} {ns ns' : List Bdd.Nd} (J : JL A B sl ns) {x y r : Nat} (h : mLook (x, y) sl = none) (hx : Bdd.Pl A x) (hy : Bdd.Pl B y) (hl : ns'.length ≤ ns.length + 1) : JL A B (sl ++ [((x, y), r)]) ns' := by
 obtain ⟨h1, h2⟩ := J.keys h hx hy
 refine ⟨?_, by simpa using h1, by simpa using h2⟩
 have := J.len
 simp only [List.length_append, List.length_singleton]
 omega
theorem eqk_kk (a b : Nat × Nat) : eqKey (.array 2 .i) (kk a) (kk b) = some (decide (a = b)) := eqk_ii a b
variable {g0 g : G} {h0 : Heap}
theorem join_call {A B : List Bdd.Nd} {op : Nat → Nat → Option Nat} {fb : Bool → Bool → Bool} {fop : FuncId} (WA : Bdd.Wf A) (WB : Bdd.Wf B) (OO : Bdd.OpOk A B op fb) (hop : OpC fop op) (hbig : (A.length + 2) * (B.length + 2) ≤ 16777216)
  {la lv : AV} {ra rb e p m mp sp : Nat} (hA : IsSl g ndC 3 la A) (hB : IsSl g ndC 3 lv B) (hAl : A.length < 16777216) (hBl : B.length < 16777216) : ∀ (n x y : Nat) (s : Bdd.JSt) (sl : List ((Nat × Nat) × Nat)) (lb : Nat) (h : Heap) (L : List Ent) (Q : MK), x + y < n → Bdd.Pl A x → Bdd.Pl B y →
  W g0 h0 g h (pjE e p m la ra lv rb sp :: sE sp sl :: mk1 m lb mp s.ns :: mk2 mp s.ns :: mk3 lb s.ns :: L) → (∀ u v, mLook (u, v) sl = s.seen u v) → JL A B sl s.ns →
  (∀ lb' sl' h', W g0 h0 g h' (pjE e p m la ra lv rb sp :: sE sp sl' :: mk1 m lb' mp (Bdd.join A B op n x y s).2.ns :: mk2 mp (Bdd.join A B op n x y s).2.ns :: mk3 lb' (Bdd.join A B op n x y s).2.ns :: L) → (∀ u v, mLook (u, v) sl' = (Bdd.join A B op n x y s).2.seen u v) → JL A B sl' (Bdd.join A B op n x y s).2.ns → Q (iV (Bdd.join A B op n x y s).1) h') →
  Cl f_pairs_join [.ptr p 0, iV x, iV y, .fn (.func fop) [] []] h Q := by
 intro n
 induction n with
 | zero => intro x y s sl lb h L Q hn; omega
 | succ n ih =>
  intro x y s sl lb h L Q hn hx hy O hs hJ hQ
  refine Yf ok_pairs_join (by simp) ?_
  unfold m_pairs_join
  with_reducible refine wM_i (Xt ?_)
  refine q_callFn ?_
  simp only [sT, XS, Nat.reduceAdd, Nat.reduceEqDiff, ↓reduceIte] at O ⊢
  refine hop (fun r hr => ?_) (fun ho r0 => ?_)
  ·with_reducible refine q_ext0 (q_ext1 (XC (wM_i (mThen_r (XZ ?_)))))
   simp only [sT, ↓reduceIte] at O ⊢
   have e : Bdd.join A B op (n + 1) x y s = (r, s) := by unfold Bdd.join; rw [hr]
   rw [e] at hQ
   exact hQ lb sl _ O hs hJ
  ·with_reducible refine q_ext0 (q_ext1 (Xx (Xy (Xp ?_))))
   refine q_build rfl ?_
   simp only [sT, Nat.reduceEqDiff, ↓reduceIte] at O ⊢
   refine w_alloc O fun bk _ O => ?_
   with_reducible refine wM_i ?_
   (refine XO 0 O rfl rfl rfl (by first | rfl | simp [AV.cells, oneA, XT]) fun _ O => ?_; simp only [List.set_cons_zero, AV.cells] at O)
   with_reducible refine Xt ?_
   simp only [sT, Nat.reduceAdd, Nat.reduceEqDiff, ↓reduceIte] at O ⊢
   with_reducible refine q_nil (q_fa0 ?_)
   refine Xv 1 O rfl (by first | exact Xd rfl | rfl) ?_
   refine Xv 0 O rfl (by first | exact Xd rfl | rfl) ?_
   refine w_lookup (ek := kk) (ev := iV) (a := (x, y)) 2 eqk_kk O rfl (fun r hr => ?_) (fun hno => ?_)
   ·with_reducible refine q_ext0 (q_ext1 (XC (wM_i (mThen_r (XZ ?_)))))
    simp only [sT, ↓reduceIte] at O ⊢
    have e : Bdd.join A B op (n + 1) x y s = (r, s) := by unfold Bdd.join; rw [ho]; dsimp only; rw [← hs, hr]
    rw [e] at hQ
    exact hQ lb sl _ O.drop1 hs hJ
   ·obtain ⟨p1, p2, p3, hi24⟩ := Bdd.join_less WA WB OO hx hy ho false
    obtain ⟨q1, q2, q3, _⟩ := Bdd.join_less WA WB OO hx hy ho true
    simp only [Bool.false_eq_true, if_false] at p1 p2 p3
    simp only [if_true] at q1 q2 q3
    with_reducible refine q_ext0 (q_ext1 (Xx (Xy (Xp ?_))))
    simp only [sT, Nat.reduceEqDiff, ↓reduceIte] at O ⊢
    with_reducible refine q_nil (q_fa0 ?_)
    refine Xv 1 O rfl (by first | exact Xd rfl | rfl) ?_
    with_reducible refine q_nil (q_fa0 ?_)
    refine Xv 1 O rfl (by first | exact Xd rfl | rfl) ?_
    simp only [sT] at O ⊢
    refine w_alloc O fun bS _ O => ?_
    refine w_alloc O fun bT _ O => ?_
    with_reducible refine wM_i ?_
    simp only [sT, Nat.reduceAdd, ↓reduceIte] at O ⊢
    refine at_call (d := (A, ra)) O.fz ⟨hAl, la, rfl, hA⟩ hx fun h1 S => ?_
    have O := O.call S
    simp only [sT] at O ⊢
    refine at_call (d := (B, rb)) O.fz ⟨hBl, lv, rfl, hB⟩ hy fun h1 S => ?_
    have O := O.call S
    (refine XO 1 O rfl rfl rfl (by first | rfl | simp [AV.cells, oneA, XT]) fun _ O => ?_; simp only [List.set_cons_zero, List.set_cons_succ, AV.cells] at O)
    (refine XO 0 O rfl rfl rfl (by first | rfl | simp [AV.cells, oneA, XT]) fun _ O => ?_; simp only [List.set_cons_zero, AV.cells] at O)
    refine mStay_c (by repeat (first | exact mStay1_n | refine Xe 0 (by assumption) rfl rfl (AV.beq_refl _) ?_ | refine Xe 1 (by assumption) rfl rfl (AV.beq_refl _) ?_ | refine Xe 2 (by assumption) rfl rfl (AV.beq_refl _) ?_ | refine Xe 3 (by assumption) rfl rfl (AV.beq_refl _) ?_ | refine Xe 4 (by assumption) rfl rfl (AV.beq_refl _) ?_ | refine Xe 5 (by assumption) rfl rfl (AV.beq_refl _) ?_ | refine Xe 6 (by assumption) rfl rfl (AV.beq_refl _) ?_ | refine Xe 7 (by assumption) rfl rfl (AV.beq_refl _) ?_ | refine Xe 8 (by assumption) rfl rfl (AV.beq_refl _) ?_ | refine st_loadF (by assumption) (by assumption) rfl (AV.beq_refl _) ?_)) ?_
    refine mStay_c (by repeat (first | exact mStay1_n | refine Xe 0 (by assumption) rfl rfl (AV.beq_refl _) ?_ | refine Xe 1 (by assumption) rfl rfl (AV.beq_refl _) ?_ | refine Xe 2 (by assumption) rfl rfl (AV.beq_refl _) ?_ | refine Xe 3 (by assumption) rfl rfl (AV.beq_refl _) ?_ | refine Xe 4 (by assumption) rfl rfl (AV.beq_refl _) ?_ | refine Xe 5 (by assumption) rfl rfl (AV.beq_refl _) ?_ | refine Xe 6 (by assumption) rfl rfl (AV.beq_refl _) ?_ | refine Xe 7 (by assumption) rfl rfl (AV.beq_refl _) ?_ | refine Xe 8 (by assumption) rfl rfl (AV.beq_refl _) ?_ | refine st_loadF (by assumption) (by assumption) rfl (AV.beq_refl _) ?_)) ?_
    refine mStay_n ?_
    with_reducible refine q_fa0 ?_
    refine Xv 1 O rfl (by first | exact Xd rfl | rfl) ?_
    with_reducible refine q_fa0 ?_
    refine Xv 0 O rfl (by first | exact Xd rfl | rfl) ?_
    with_reducible refine q_minN (wM_i ?_)
    refine q_build rfl ?_
    refine q_build rfl ?_
    simp only [sT, Nat.reduceEqDiff, ↓reduceIte] at O ⊢
    generalize hSd : Bdd.at' A x = S at *
    generalize hTd : Bdd.at' B y = T at *
    refine w_alloc O fun b17 _ O => ?_
    with_reducible refine wM_i ?_
    simp only [sT, Nat.reduceAdd] at O ⊢
    refine w_alloc O fun b18 _ O => ?_
    with_reducible refine wM_i ?_
    (refine XO 1 O rfl rfl rfl (by first | rfl | simp [AV.cells, oneA, XT]) fun _ O => ?_; simp only [List.set_cons_zero, List.set_cons_succ, AV.cells] at O)
    (refine XO 0 O rfl rfl rfl (by first | rfl | simp [AV.cells, oneA, XT]) fun _ O => ?_; simp only [List.set_cons_zero, AV.cells] at O)
    simp only [sT, Nat.reduceAdd] at O ⊢
    refine mSeq_mid (fun t h => (t.get 0 = .ptr p 0 ∧ t.get 3 = .fn (.func fop) [] [] ∧ t.get 11 = .ptr bk 0 ∧ t.get 15 = .ptr bT 0 ∧ t.get 16 = iV (min S.v T.v) ∧ t.get 17 = .ptr b17 0 ∧ t.get 18 = .ptr b18 0) ∧
     W g0 h0 g h ((b18, some (.cells false false 308 2 [iV (if S.v = min S.v T.v then S.hi else x), iV y])) :: (b17, some (.cells false false 308 2 [iV (if S.v = min S.v T.v then S.lo else x), iV y])) :: (bT, some (.cells false false 163 3 [iV T.v, iV T.lo, iV T.hi])) :: (bk, some (.cells false false 308 2 [iV x, iV y])) :: pjE e p m la ra lv rb sp :: sE sp sl :: mk1 m lb mp s.ns :: mk2 mp s.ns :: mk3 lb s.ns :: L)) ?_ ?_
    ·intro k' hk
     with_reducible refine q_fa0 ?_
     refine Xv 3 O rfl (by first | exact Xd rfl | rfl) ?_
     simp only [sT, Nat.reduceEqDiff, ↓reduceIte] at O ⊢
     refine q_eqN ?_
     by_cases hS : S.v = min S.v T.v
     ·rw [decide_eq_true hS]
      with_reducible refine XC (q_fa0 ?_)
      refine Xv 3 O rfl (by first | exact Xd rfl | rfl) ?_
      with_reducible refine q_fa0 ?_
      refine Xv 3 O rfl (by first | exact Xd rfl | rfl) ?_
      simp only [sT, Nat.reduceEqDiff, ↓reduceIte] at O ⊢
      with_reducible refine q_ixArr (by omega) ?_
      (refine w_store1 1 O rfl (Nat.le_of_ble_eq_true rfl) (by first | exact grV_cells _ _ | rfl | assumption) (by first | exact XT _ _ | rfl | assumption) fun _ O => ?_; simp only [List.set_cons_zero, List.set_cons_succ] at O)
      with_reducible refine q_ixArr (by omega) ?_
      (refine w_store1 0 O rfl (Nat.le_of_ble_eq_true rfl) (by first | exact grV_cells _ _ | rfl | assumption) (by first | exact XT _ _ | rfl | assumption) fun _ O => ?_; simp only [List.set_cons_zero] at O)
      refine mStay_c (by repeat (first | exact mStay1_n | refine Xe 0 (by assumption) rfl rfl (AV.beq_refl _) ?_ | refine Xe 1 (by assumption) rfl rfl (AV.beq_refl _) ?_ | refine Xe 2 (by assumption) rfl rfl (AV.beq_refl _) ?_ | refine Xe 3 (by assumption) rfl rfl (AV.beq_refl _) ?_ | refine Xe 4 (by assumption) rfl rfl (AV.beq_refl _) ?_ | refine Xe 5 (by assumption) rfl rfl (AV.beq_refl _) ?_ | refine Xe 6 (by assumption) rfl rfl (AV.beq_refl _) ?_ | refine Xe 7 (by assumption) rfl rfl (AV.beq_refl _) ?_ | refine Xe 8 (by assumption) rfl rfl (AV.beq_refl _) ?_ | refine st_loadF (by assumption) (by assumption) rfl (AV.beq_refl _) ?_)) ?_
      refine mStay_n ?_
      simp only [sT, Nat.reduceMul] at O ⊢
      refine hk _ _ ⟨⟨?_, ?_, ?_, ?_, ?_, ?_, ?_⟩, ?_⟩
      iterate 7 (simp only [Tm.get_put, Nat.reduceEqDiff, ↓reduceIte])
      rw [if_pos hS, if_pos hS]
      exact O.pick 5 [0, 1, 2, 4] (by decide) (by decide)
     ·rw [decide_eq_false hS]
      with_reducible refine Xx (Xy ?_)
      refine hk _ _ ⟨⟨?_, ?_, ?_, ?_, ?_, ?_, ?_⟩, ?_⟩
      iterate 7 (simp only [Tm.get_put, Nat.reduceEqDiff, ↓reduceIte])
      rw [if_neg hS, if_neg hS]
      exact O.pick 5 [0, 1, 2, 4] (by decide) (by decide)
    rintro t h ⟨⟨e0, e3, e11, e15, e16, e17, e18⟩, O⟩
    refine mSeq_mid (fun t h => (t.get 0 = .ptr p 0 ∧ t.get 3 = .fn (.func fop) [] [] ∧ t.get 11 = .ptr bk 0 ∧ t.get 16 = iV (min S.v T.v) ∧ t.get 17 = .ptr b17 0 ∧ t.get 18 = .ptr b18 0) ∧
     W g0 h0 g h ((b18, some (.cells false false 308 2 [iV (if S.v = min S.v T.v then S.hi else x), iV (if T.v = min S.v T.v then T.hi else y)])) :: (b17, some (.cells false false 308 2 [iV (if S.v = min S.v T.v then S.lo else x), iV (if T.v = min S.v T.v then T.lo else y)])) :: (bk, some (.cells false false 308 2 [iV x, iV y])) :: pjE e p m la ra lv rb sp :: sE sp sl :: mk1 m lb mp s.ns :: mk2 mp s.ns :: mk3 lb s.ns :: L)) ?_ ?_
    ·intro k' hk
     simp only [e15, e16] at O ⊢
     with_reducible refine q_fa0 ?_
     refine Xv 2 O rfl (by first | exact Xd rfl | rfl) ?_
     refine q_eqN ?_
     by_cases hS : T.v = min S.v T.v
     ·rw [decide_eq_true hS]
      with_reducible refine XC ?_
      simp only [e15, e17, e18] at O ⊢
      with_reducible refine q_fa0 ?_
      refine Xv 2 O rfl (by first | exact Xd rfl | rfl) ?_
      with_reducible refine q_fa0 ?_
      refine Xv 2 O rfl (by first | exact Xd rfl | rfl) ?_
      with_reducible refine q_ixArr (by omega) ?_
      (refine w_store1 1 O rfl (Nat.le_of_ble_eq_true rfl) (by first | exact grV_cells _ _ | rfl | assumption) (by first | exact XT _ _ | rfl | assumption) fun _ O => ?_; simp only [List.set_cons_zero, List.set_cons_succ] at O)
      with_reducible refine q_ixArr (by omega) ?_
      (refine w_store1 0 O rfl (Nat.le_of_ble_eq_true rfl) (by first | exact grV_cells _ _ | rfl | assumption) (by first | exact XT _ _ | rfl | assumption) fun _ O => ?_; simp only [List.set_cons_zero, List.set_cons_succ] at O)
      refine mStay_c (by repeat (first | exact mStay1_n | refine Xe 0 (by assumption) rfl rfl (AV.beq_refl _) ?_ | refine Xe 1 (by assumption) rfl rfl (AV.beq_refl _) ?_ | refine Xe 2 (by assumption) rfl rfl (AV.beq_refl _) ?_ | refine Xe 3 (by assumption) rfl rfl (AV.beq_refl _) ?_ | refine Xe 4 (by assumption) rfl rfl (AV.beq_refl _) ?_ | refine Xe 5 (by assumption) rfl rfl (AV.beq_refl _) ?_ | refine Xe 6 (by assumption) rfl rfl (AV.beq_refl _) ?_ | refine Xe 7 (by assumption) rfl rfl (AV.beq_refl _) ?_ | refine Xe 8 (by assumption) rfl rfl (AV.beq_refl _) ?_ | refine st_loadF (by assumption) (by assumption) rfl (AV.beq_refl _) ?_)) ?_
      refine mStay_n ?_
      refine hk _ _ ⟨⟨e0, e3, e11, e16, e17, e18⟩, ?_⟩
      rw [if_pos hS, if_pos hS]
      exact O.pick 3 [0, 1] (by decide) (by decide)
     ·rw [decide_eq_false hS]
      with_reducible refine Xx (Xy ?_)
      refine hk _ _ ⟨⟨e0, e3, e11, e16, e17, e18⟩, ?_⟩
      rw [if_neg hS, if_neg hS]
      exact O.pick 3 [0, 1] (by decide) (by decide)
    rintro t h ⟨⟨e0, e3, e11, e16, e17, e18⟩, O⟩
    simp only [e0, e3, e11, e16, e17, e18] at O ⊢
    with_reducible refine q_ixArr (by omega) ?_
    refine Xv 1 O rfl (by first | exact Xd rfl | rfl) ?_
    with_reducible refine q_ixArr (by omega) ?_
    refine Xv 1 O rfl (by first | exact Xd rfl | rfl) ?_
    have s1 := Bdd.join_seen WA WB OO n _ _ s p1 p2 x y (by omega)
    have s2 := Bdd.join_seen WA WB OO n _ _ (Bdd.join A B op n (if S.v = min S.v T.v then S.lo else x) (if T.v = min S.v T.v then T.lo else y) s).2 q1 q2 x y (by omega)
    have e : Bdd.join A B op (n + 1) x y s = (let a := Bdd.join A B op n (if S.v = min S.v T.v then S.lo else x) (if T.v = min S.v T.v then T.lo else y) s
      let b := Bdd.join A B op n (if S.v = min S.v T.v then S.hi else x) (if T.v = min S.v T.v then T.hi else y) a.2
      let k := Bdd.node b.2.ns (min S.v T.v) a.1 b.1
      (k.2, ⟨k.1, fun u v => if u = x ∧ v = y then some k.2 else b.2.seen u v⟩)) := by
     conv => lhs; unfold Bdd.join
     rw [ho]
     dsimp only
     rw [← hs, hno, hSd, hTd]
    rw [e] at hQ
    dsimp only at hQ
    refine ih _ _ s sl lb _ _ _ (by omega) p1 p2 (O.pick 8 [3, 4, 5, 6, 7, 0, 2] (by decide) (by decide)) hs hJ fun lb1 sl1 h1 O hs1 hJ1 => ?_
    generalize Bdd.join A B op n (if S.v = min S.v T.v then S.lo else x) (if T.v = min S.v T.v then T.lo else y) s = a at *
    with_reducible refine q_nil (q_fa0 ?_)
    refine Xv 0 O rfl (by first | exact Xd rfl | rfl) ?_
    with_reducible refine q_ixArr (by omega) ?_
    refine Xv 5 O rfl (by first | exact Xd rfl | rfl) ?_
    with_reducible refine q_ixArr (by omega) ?_
    refine Xv 5 O rfl (by first | exact Xd rfl | rfl) ?_
    refine ih _ _ a.2 sl1 lb1 _ _ _ (by omega) q1 q2 O hs1 hJ1 fun lb2 sl2 h2 O hs2 hJ2 => ?_
    generalize Bdd.join A B op n (if S.v = min S.v T.v then S.hi else x) (if T.v = min S.v T.v then T.hi else y) a.2 = b at *
    have hno2 : mLook (x, y) sl2 = none := by rw [hs2, s2, s1, ← hs, hno]
    have hlt : b.2.ns.length < 16777216 := hJ2.lt hno2 hx hy hbig
    refine node_call (O.pick 7 [2, 3, 4, 0, 1, 6] (by decide) (by decide)) hlt fun lb3 h3 O => ?_
    have hkl := node_len b.2.ns (min S.v T.v) a.1 b.1
    generalize Bdd.node b.2.ns (min S.v T.v) a.1 b.1 = k at *
    refine mStay_c (by repeat (first | exact mStay1_n | refine Xe 0 (by assumption) rfl rfl (AV.beq_refl _) ?_ | refine Xe 1 (by assumption) rfl rfl (AV.beq_refl _) ?_ | refine Xe 2 (by assumption) rfl rfl (AV.beq_refl _) ?_ | refine Xe 3 (by assumption) rfl rfl (AV.beq_refl _) ?_ | refine Xe 4 (by assumption) rfl rfl (AV.beq_refl _) ?_ | refine Xe 5 (by assumption) rfl rfl (AV.beq_refl _) ?_ | refine Xe 6 (by assumption) rfl rfl (AV.beq_refl _) ?_ | refine Xe 7 (by assumption) rfl rfl (AV.beq_refl _) ?_ | refine Xe 8 (by assumption) rfl rfl (AV.beq_refl _) ?_ | refine st_loadF (by assumption) (by assumption) rfl (AV.beq_refl _) ?_)) ?_
    refine mStay_n ?_
    with_reducible refine q_nil (q_fa0 ?_)
    refine Xv 3 O rfl (by first | exact Xd rfl | rfl) ?_
    refine Xv 5 O rfl (by first | exact Xd rfl | rfl) ?_
    refine w_update (ek := kk) (ev := iV) (a := (x, y)) (y := k.2) 4 eqk_kk O rfl hno2 fun _ O => ?_
    with_reducible refine wM_i (XZ ?_)
    simp only [sT, ↓reduceIte] at O ⊢
    refine hQ lb3 (sl2 ++ [((x, y), k.2)]) _ (O.pick 6 [3, 4, 0, 1, 2] (by decide) (by decide)) (fun u v => ?_) ?_
    ·rw [look_app, hs2]
     by_cases huv : u = x ∧ v = y
     ·rw [if_pos huv, huv.1, huv.2, ← hs2, hno2]
      simp
     ·rw [if_neg huv]
      cases b.2.seen u v with
      | some w => rfl
      | none =>
       have : ¬ ((u, v) : Nat × Nat) = (x, y) := fun e => huv ⟨congrArg Prod.fst e, congrArg Prod.snd e⟩
       simp only [if_neg this]
    ·exact hJ2.snoc hno2 hx hy hkl
end Go.AM
