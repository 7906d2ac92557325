/- Sets: joined, empty, full, with a configuration, their features. -/
import Derived.Test.YtignppgiamochaaGreatDoorD5
set_option linter.unusedVariables false
set_option linter.unusedSimpArgs false
namespace Go.AM
open Go
variable {g : G} {h : Heap} {Q : MK}
theorem with_call {op : Nat → Nat → Option Nat} {fb : Bool → Bool → Bool} {fop : FuncId} {av bv : AV} {d e : List Bdd.Nd × Nat} {S T : Bdd.Cfg → Bool} (f : Fz g h) (ha : IsD g av d) (hb : IsD g bv e) (da : Bdd.Dg d S) (db : Bdd.Dg e T) (OO : Bdd.OpOk d.1 e.1 op fb) (hop : OpC fop op)
  (hbig : (d.1.length + 2) * (e.1.length + 2) < 16777216) (hQ : ∀ g' h' v, Step g h g' h' → IsD g' v (Bdd.withD d e op) → Q v h') : Cl f_D_with [av, bv, .fn (.func fop) [] []] h Q := by
 obtain ⟨hl1, la, rfl, hA⟩ := ha
 obtain ⟨hl2, lv, rfl, hB⟩ := hb
 have O := W.start f
 refine Yf ok_D_with (by simp) ?_
 unfold m_D_with
 refine w_box O fun _ _ O => ?_
 refine w_box O fun _ _ O => ?_
 refine w_alloc O fun _ _ O => ?_
 with_reducible refine wM_i ?_
 refine Xv 2 O rfl (by first | exact Xd rfl | rfl) ?_
 refine Xv 1 O rfl (by first | exact Xd rfl | rfl) ?_
 refine w_mkMap O fun _ _ O => ?_
 simp only [sT, XS, AV.cells, Nat.reduceAdd, Nat.reduceEqDiff, ↓reduceIte] at O ⊢
 refine newMaker_call O fun m mp h1 O => ?_
 refine q_build rfl ?_
 refine w_box O fun _ _ O => ?_
 refine mStay_c (by repeat (first | exact mStay1_n | refine Xe 0 (by assumption) rfl rfl (AV.beq_refl _) ?_ | refine Xe 1 (by assumption) rfl rfl (AV.beq_refl _) ?_ | refine Xe 2 (by assumption) rfl rfl (AV.beq_refl _) ?_ | refine Xe 3 (by assumption) rfl rfl (AV.beq_refl _) ?_ | refine Xe 4 (by assumption) rfl rfl (AV.beq_refl _) ?_ | refine Xe 5 (by assumption) rfl rfl (AV.beq_refl _) ?_ | refine Xe 6 (by assumption) rfl rfl (AV.beq_refl _) ?_ | refine Xe 7 (by assumption) rfl rfl (AV.beq_refl _) ?_ | refine Xe 8 (by assumption) rfl rfl (AV.beq_refl _) ?_ | refine st_loadF (by assumption) (by assumption) rfl (AV.beq_refl _) ?_)) ?_
 refine mStay_c (by repeat (first | exact mStay1_n | refine Xe 0 (by assumption) rfl rfl (AV.beq_refl _) ?_ | refine Xe 1 (by assumption) rfl rfl (AV.beq_refl _) ?_ | refine Xe 2 (by assumption) rfl rfl (AV.beq_refl _) ?_ | refine Xe 3 (by assumption) rfl rfl (AV.beq_refl _) ?_ | refine Xe 4 (by assumption) rfl rfl (AV.beq_refl _) ?_ | refine Xe 5 (by assumption) rfl rfl (AV.beq_refl _) ?_ | refine Xe 6 (by assumption) rfl rfl (AV.beq_refl _) ?_ | refine Xe 7 (by assumption) rfl rfl (AV.beq_refl _) ?_ | refine Xe 8 (by assumption) rfl rfl (AV.beq_refl _) ?_ | refine st_loadF (by assumption) (by assumption) rfl (AV.beq_refl _) ?_)) ?_
 refine mStay_n ?_
 with_reducible refine q_nil (q_fa0 ?_)
 refine Xv 0 O rfl (by first | exact Xd rfl | rfl) ?_
 with_reducible refine q_fa0 ?_
 refine Xv 7 O rfl (by first | exact Xd rfl | rfl) ?_
 with_reducible refine q_fa0 ?_
 refine Xv 6 O rfl (by first | exact Xd rfl | rfl) ?_
 simp only [sT, AV.cells, Nat.reduceAdd] at O ⊢
 replace O := O.pick 8 [0, 4, 1, 2, 3, 5, 6, 7] (by decide) (by decide)
 simp only [List.filterMap_cons, List.filterMap_nil, List.getElem?_cons_zero, List.getElem?_cons_succ, List.drop_succ_cons, List.drop_zero, List.cons_append, List.nil_append] at O
 obtain ⟨j1, j2, j3⟩ := Bdd.join_spec da.wf db.wf OO (d.2 + e.2 + 1) d.2 e.2 ⟨[], fun _ _ => none⟩ (by omega) da.pl db.pl ⟨⟨fun j x h => by simp at h, fun i j x h => by simp at h⟩, fun x y r h => by cases h⟩
 refine join_call da.wf db.wf OO hop (Nat.le_of_lt hbig) hA hB hl1 hl2 (d.2 + e.2 + 1) d.2 e.2 ⟨[], fun _ _ => none⟩ [] 0 _ _ _ (by omega) da.pl db.pl O (fun u v => rfl) ⟨Nat.zero_le _, by simp, by simp⟩ fun lb' sl' h2 O hs2 hJ2 => ?_
 skip
 have hlen : (Bdd.join d.1 e.1 op (d.2 + e.2 + 1) d.2 e.2 ⟨[], fun _ _ => none⟩).2.ns.length < 16777216 := by
  have h1 := Bdd.pairs_le hJ2.nd hJ2.rng
  have h2 := hJ2.len
  rw [List.length_map] at h1
  omega
 replace O := O.pick 8 [2, 3, 4, 0, 5, 6, 7] (by decide) (by decide)
 simp only [List.filterMap_cons, List.filterMap_nil, List.getElem?_cons_zero, List.getElem?_cons_succ, List.drop_succ_cons, List.drop_zero, List.cons_append, List.nil_append] at O
 refine done_call j1.wf hlen j3.pl O fun g' h3 v O l hv => ?_
 obtain ⟨hl3, lw, rfl, hW⟩ := hv
 obtain ⟨hw1, hw2⟩ := hW.one
 (refine XO 1 O rfl rfl rfl (by first | rfl | (simp only [AV.cells, List.all_cons, List.all_nil, Bool.and_true] <;> rfl) | (simp only [AV.cells, List.all_cons, List.all_nil, Bool.true_and, Bool.and_true, *] <;> rfl)) fun _ O => ?_; simp only [List.set_cons_zero, List.set_cons_succ, AV.cells] at O)
 refine mStay_c (by repeat (first | exact mStay1_n | refine Xe 0 (by assumption) rfl rfl (AV.beq_refl _) ?_ | refine Xe 1 (by assumption) rfl rfl (AV.beq_refl _) ?_ | refine Xe 2 (by assumption) rfl rfl (AV.beq_refl _) ?_ | refine Xe 3 (by assumption) rfl rfl (AV.beq_refl _) ?_ | refine Xe 4 (by assumption) rfl rfl (AV.beq_refl _) ?_ | refine Xe 5 (by assumption) rfl rfl (AV.beq_refl _) ?_ | refine Xe 6 (by assumption) rfl rfl (AV.beq_refl _) ?_ | refine Xe 7 (by assumption) rfl rfl (AV.beq_refl _) ?_ | refine Xe 8 (by assumption) rfl rfl (AV.beq_refl _) ?_ | refine st_loadF (by assumption) (by assumption) rfl (AV.beq_refl _) ?_)) ?_
 refine mStay_n ?_
 with_reducible refine mFin_c ?_
 refine cellQ_i 1 O rfl rfl ?_
 exact hQ _ _ _ O.done ⟨hl3, lw, rfl, hW⟩
theorem Or_call {av bv : AV} {d e : List Bdd.Nd × Nat} {S T : Bdd.Cfg → Bool} (f : Fz g h) (ha : IsD g av d) (hb : IsD g bv e) (da : Bdd.Dg d S) (db : Bdd.Dg e T)
  (hbig : (d.1.length + 2) * (e.1.length + 2) < 16777216) (hQ : ∀ g' h' v, Step g h g' h' → IsD g' v (Bdd.withD d e Bdd.eitherO) → Q v h') : Cl f_D_Or [av, bv] h Q := by
 have ha' := ha
 have hb' := hb
 obtain ⟨hl1, la, rfl, hA⟩ := ha
 obtain ⟨hl2, lv, rfl, hB⟩ := hb
 have O := W.start f
 refine Yf ok_D_Or (by simp) ?_
 unfold m_D_Or
 refine w_box O fun _ _ O => ?_
 refine w_box O fun _ _ O => ?_
 refine w_alloc O fun _ _ O => ?_
 with_reducible refine wM_i ?_
 refine Xv 2 O rfl (by first | exact Xd rfl | rfl) ?_
 refine Xv 1 O rfl (by first | exact Xd rfl | rfl) ?_
 simp only [sT, XS, AV.cells, Nat.reduceAdd, Nat.reduceEqDiff, ↓reduceIte] at O ⊢
 refine with_call O.fz ha' hb' da db (Bdd.either_ok _ _) either_call hbig fun g' h1 v S hv => ?_
 have O := O.call S
 obtain ⟨hl3, lw, rfl, hW⟩ := hv
 obtain ⟨hw1, hw2⟩ := hW.one
 (refine XO 0 O rfl rfl rfl (by first | rfl | (simp only [AV.cells, List.all_cons, List.all_nil, Bool.and_true] <;> rfl) | (simp only [AV.cells, List.all_cons, List.all_nil, Bool.true_and, Bool.and_true, *] <;> rfl)) fun _ O => ?_; simp only [List.set_cons_zero, AV.cells] at O)
 with_reducible refine mFin_c ?_
 refine cellQ_i 0 O rfl rfl ?_
 exact hQ _ _ _ O.done ⟨hl3, lw, rfl, hW⟩
theorem isD_false (g : G) : IsD g (.agg [.snil, iV 0]) ([], 0) := ⟨by decide, _, rfl, isSl_nil _ _ _⟩
theorem False_call (f : Fz g h) (hQ : ∀ h', Step g h g h' → Q (.agg [.snil, iV 0]) h') : Cl f_diagram_False [] h Q := by
 have O := W.start f
 refine Yf ok_diagram_False (by simp) ?_
 unfold m_diagram_False
 refine w_alloc O fun _ _ O => ?_
 with_reducible refine wM_i ?_
 refine q_build rfl ?_
 (refine XO 0 O rfl rfl rfl (by first | rfl | (simp only [AV.cells, List.all_cons, List.all_nil, XT, Bool.true_and, Bool.and_true] <;> rfl) | (simp only [AV.cells, List.all_cons, List.all_nil, Bool.true_and, Bool.and_true, *] <;> rfl)) fun _ O => ?_; simp only [List.set_cons_zero, AV.cells] at O)
 with_reducible refine mFin_c ?_
 refine cellQ_i 0 O rfl rfl ?_
 simp only [sT, Nat.reduceAdd] at O ⊢
 exact hQ _ O.done
end Go.AM
