/- Facts with some left out. -/
import Derived.Test.YtignppgiamochaaGreatDoorD18
set_option linter.unusedVariables false
set_option linter.unusedSimpArgs false
namespace Go.AM
open Go
variable {g0 g : G} {h0 h : Heap} {L : List Ent} {Q : MK}
theorem W.freezeB (O : W g0 h0 g h L) {n b : Nat} {x : Blk} (hn : L[n]? = some (b, some x)) : ∃ g', W g0 h0 g' h (L.set n (0, none)) ∧ Gle g g' ∧ g' b = some x :=
 ⟨_, O.freeze hn, G.add_le _ (O.own n b _ hn).2.2.2, G.add_self _ _ _⟩
def CapOf (n : Nat) (sp : Bool) (c : Cap) : Prop := (c = .ex n ∧ sp = false) ∨ (c = .op 0 ∧ sp = true)
theorem rep_len (n : Nat) (zs : List AV) : (rep n zs).length = n * zs.length := by
 induction n with
 | zero => simp [rep]
 | succ n ih => simp only [rep, List.length_append, ih, Nat.succ_mul]; omega
theorem rep_one (n : Nat) (zs : List AV) (h : zs.all oneA = true) : (rep n zs).all oneA = true := by
 induction n with
 | zero => rfl
 | succ n ih => simp only [rep, List.all_append, h, ih, Bool.and_self]
theorem w_cutTail {c : MCall} {k : MK} (n : Nat) {b len i e z : Nat} {sp : Bool} {cs : List AV} {cp : Cap} (O : W g0 h0 g h L) (hn : L[n]? = some (b, some (.cells false sp e z cs))) (hc : CapOf len sp cp) (hcs : cs.length = len * z) (hz : 0 < z) (hi : i < len)
  (hk : ∀ cp', k (.sl b (i * z) (len - i) cp') h) : q c (.sliceSl z (C (.sl b 0 len cp)) (some (C (iV i))) none none) h k := by
 have hb := (O.own n b _ hn).2.2.1
 rcases hc with ⟨rfl, rfl⟩ | ⟨rfl, rfl⟩
 ·refine q_of ?_ (hk (.ex (len - i)))
  simp only [aop, Opd.ev, Option.map_some, Option.map_none, sliceSlA, natOr, natOf, nbeq, show Nat.ble i len = true from Nat.ble_eq_true_of_le (by omega), show Nat.ble len len = true from Nat.ble_eq_true_of_le (by omega), Bool.and_self, cond_true, show ¬ len = i by omega, decide_false, cond_false, Nat.zero_add, valOf]
 ·have hkn : (cs.length - 0) / z = len := by rw [Nat.sub_zero, hcs]; exact Nat.mul_div_cancel _ hz
  by_cases h0 : i = 0
  ·subst h0
   have := hk (.op 0)
   rw [Nat.zero_mul, Nat.sub_zero] at this
   refine q_of ?_ this
   simp only [aop, Opd.ev, Option.map_some, Option.map_none, sliceSlA, natOr, natOf, nbeq, hb, decide_true, show Nat.blt 0 z = true from by simp only [Nat.blt_eq]; exact hz, Bool.and_self, cond_true, hkn, show Nat.ble 0 len = true from Nat.ble_eq_true_of_le (by omega), show Nat.ble len len = true from Nat.ble_eq_true_of_le (by omega), valOf, Option.map_some]
  ·refine q_of ?_ (hk (.op (0 + i)))
   simp only [aop, Opd.ev, Option.map_some, Option.map_none, sliceSlA, natOr, natOf, nbeq, hb, decide_true, show Nat.blt 0 z = true from by simp only [Nat.blt_eq]; exact hz, Bool.and_self, cond_true, hkn, show Nat.ble i len = true from Nat.ble_eq_true_of_le (by omega), show Nat.ble len len = true from Nat.ble_eq_true_of_le (by omega), h0, decide_false, cond_false, show Nat.blt i len = true from by simp only [Nat.blt_eq]; exact hi, Nat.zero_add, valOf, Option.map_some]
theorem w_cutHead {c : MCall} {k : MK} (n : Nat) {b len i e z : Nat} {sp : Bool} {cs : List AV} {cp : Cap} (O : W g0 h0 g h L) (hn : L[n]? = some (b, some (.cells false sp e z cs))) (hc : CapOf len sp cp) (hcs : cs.length = len * z) (hz : 0 < z) (hi : i ≤ len)
  (hk : ∀ cp', k (.sl b 0 i cp') h) : q c (.sliceSl z (C (.sl b 0 len cp)) none (some (C (iV i))) none) h k := by
 have hb := (O.own n b _ hn).2.2.1
 rcases hc with ⟨rfl, rfl⟩ | ⟨rfl, rfl⟩
 ·refine q_of ?_ (hk (.ex len))
  simp only [aop, Opd.ev, Option.map_some, Option.map_none, sliceSlA, natOr, natOf, nbeq, show Nat.ble 0 i = true from Nat.ble_eq_true_of_le (by omega), show Nat.ble i len = true from Nat.ble_eq_true_of_le hi, show Nat.ble len len = true from Nat.ble_eq_true_of_le (by omega), Bool.and_self, cond_true, Nat.zero_mul, Nat.zero_add, Nat.sub_zero, valOf, Option.map_some]
  cases decide (len = 0) <;> rfl
 ·have hkn : (cs.length - 0) / z = len := by rw [Nat.sub_zero, hcs]; exact Nat.mul_div_cancel _ hz
  refine q_of ?_ (hk (.op 0))
  simp only [aop, Opd.ev, Option.map_some, Option.map_none, sliceSlA, natOr, natOf, nbeq, hb, decide_true, show Nat.blt 0 z = true from by simp only [Nat.blt_eq]; exact hz, Bool.and_self, cond_true, hkn, show Nat.ble 0 i = true from Nat.ble_eq_true_of_le (by omega), show Nat.ble i len = true from Nat.ble_eq_true_of_le hi, valOf, Option.map_some]
theorem w_clear {c : MCall} {k : MK} (n : Nat) {b len o e z : Nat} {sp : Bool} {cs zs : List AV} {cp : Cap} (O : W g0 h0 g h L) (hn : L[n]? = some (b, some (.cells false sp e z cs))) (hz : Nat.beq zs.length z = true) (ha : zs.all oneA = true) (hl : o + (rep len zs).length ≤ cs.length)
  (hk : ∀ h', W g0 h0 g h' (L.set n (b, some (.cells false sp e z (cs.take o ++ rep len zs ++ cs.drop (o + (rep len zs).length))))) → k (.tup []) h') : q c (.clear z zs (C (.sl b o len cp))) h k := by
 have hb := (O.own n b _ hn).2.2.1
 refine q_of (h' := h.put b (.cells false sp e z (cs.take o ++ rep len zs ++ cs.drop (o + (rep len zs).length)))) ?_ (hk _ (O.put hn _))
 simp only [aop, Opd.ev, hz, cond_true, store_ok hb (rep_one len zs ha) (setAt_eq _ _ _ hl)]
theorem DeleteFunc_call {fl : Bool} {b : Nat} {l : List Fc} {fn : FuncId} {cap : List AV} {p : Fc → Bool} (O : W g0 h0 g h (exE fl 87 5 b (flat fcC l) l.length :: L)) (hf : FnP g fn cap p) (hS : ∀ x ∈ l, IsS g (.agg [x.lv, iV x.r]) x.S) (hn : l.length ≤ 1000000)
  (hQ : ∀ g' h' v, Gle g g' → W g0 h0 g' h' L → IsFcs g' v (l.filter fun x => !p x) → Q v h') : Cl f_slices_DeleteFunc_Lcheck_Fact_check_Fact [exV fl b l.length, .fn (.func fn) [] cap] h Q := by
 have ho : ∀ x ∈ l, oneA x.lv = true := fun x hx => oneA_of (hS x hx)
 refine Yf ok_slices_DeleteFunc_Lcheck_Fact_check_Fact (by simp) ?_
 unfold m_slices_DeleteFunc_Lcheck_Fact_check_Fact
 with_reducible refine wM_i ?_
 simp only [sS, XS, Nat.reduceEqDiff, ↓reduceIte] at O ⊢
 refine IndexFunc_call O hf ho (by omega) fun g1 h1 hle1 O => ?_
 cases hidx : idxF p l 0 with
 | none =>
  with_reducible refine wM_i (Xt ?_)
  simp only [sS, ↓reduceIte] at O ⊢
  refine q_eqI' ?_
  rw [decide_eq_true rfl]
  with_reducible refine XC (wM_i (mThen_r (XZ ?_)))
  simp only [sS, Nat.reduceEqDiff, ↓reduceIte] at O ⊢
  obtain ⟨g2, O2, l2, hsl⟩ := O.freezeX (enc := fcC) 0 rfl
  have hfl : (l.filter fun x => !p x) = l := List.filter_eq_self.2 fun x hx => by rw [idxF_none hidx x hx]; rfl
  have := hQ g2 _ (exV fl b l.length) (hle1.trans l2) O2.drop1
  rw [hfl] at this
  exact this ⟨hsl, fun x hx => (hS x hx).mono (hle1.trans l2)⟩
 | some i0 =>
  obtain ⟨-, k2, k3, k4⟩ := idxF_some hidx
  rw [Nat.sub_zero] at k2 k3 k4
  with_reducible refine wM_i (Xt ?_)
  simp only [sS, ↓reduceIte] at O ⊢
  refine q_eqI' ?_
  rw [decide_eq_false (by intro h; cases h)]
  obtain ⟨sp, cp, hcp, hv, hE⟩ : ∃ sp cp, CapOf l.length sp cp ∧ exV fl b l.length = .sl b 0 l.length cp ∧ exE fl 87 5 b (flat fcC l) l.length = (b, some (.cells false sp 87 5 (flat fcC l))) := by
   cases fl
   ·refine ⟨true, .op 0, .inr ⟨rfl, rfl⟩, ?_, ?_⟩
    ·unfold exV grV; rw [if_neg (by omega)]
    ·unfold exE grE; rw [if_neg (by omega)]
   ·exact ⟨false, .ex l.length, .inl ⟨rfl, rfl⟩, rfl, rfl⟩
  rw [hE] at O
  with_reducible refine Xx (Xy (Xp (Xt ?_)))
  simp only [sS, ↓reduceIte] at O ⊢
  with_reducible refine Ye (by simp only [Xo]; omega) ?_
  with_reducible refine wM_i (XD ?_)
  refine XL (fun m t h' => ∃ i j cur gi, m + j = l.length ∧ (t.get 0 = .sl b 0 l.length cp ∧ t.get 1 = .fn (.func fn) [] cap ∧ t.get 5 = iV i ∧ t.get 6 = iV j) ∧ i < j ∧ cur.length = l.length ∧ cur.take i = (l.take j).filter (fun x => !p x) ∧ cur.drop j = l.drop j ∧ Gle g gi ∧ W g0 h0 gi h' ((b, some (.cells false sp 87 5 (flat fcC cur))) :: L)) (l.length - (i0 + 1)) ⟨i0, i0 + 1, l, g1, by omega, ⟨?_, ?_, ?_, ?_⟩, by omega, rfl, ?_, rfl, hle1, O⟩ ?_
  ·simp only [Tm.get_put, Nat.reduceEqDiff, ↓reduceIte, hv]
  iterate 3 (simp only [Tm.get_put, Nat.reduceEqDiff, ↓reduceIte])
  ·rw [List.take_succ_eq_append_getElem k2, List.filter_append]
   have e1 : (l.take i0).filter (fun x => !p x) = l.take i0 := List.filter_eq_self.2 fun x hx => by
    obtain ⟨j, hj⟩ := List.getElem?_of_mem hx
    have hjl := (List.getElem?_eq_some_iff.1 hj).1
    rw [List.length_take] at hjl
    rw [List.getElem?_take_of_lt (by omega)] at hj
    rw [k3 j x (by omega) hj]; rfl
   have e2 : [l[i0]].filter (fun x => !p x) = [] := by
    rw [List.filter_cons_of_neg (p := fun x => !p x) (by rw [k4 _ (List.getElem?_eq_getElem k2)]; decide)]; rfl
   rw [e1, e2, List.append_nil]
  rintro m t h2 ⟨i, j, cur, gi, hm, ⟨e0, e1, e5, e6⟩, hij, hcl, hct, hcd, hle, O⟩ R hR
  have hcll : (flat fcC cur).length = cur.length * 5 := flat_len fun x _ => fcC_len x
  with_reducible refine Xt ?_
  simp only [e0, e6] at O ⊢
  with_reducible refine q_lenSl ?_
  refine q_lssN ?_
  by_cases hj : j < l.length
  ·rw [decide_eq_true hj]
   obtain ⟨x, hx⟩ : ∃ x, l[j]? = some x := ⟨_, List.getElem?_eq_getElem hj⟩
   have hjx : l[j] = x := by rw [List.getElem?_eq_getElem hj] at hx; exact Option.some.inj hx
   have hxc : cur[j]? = some x := by
    have h0 : (cur.drop j)[0]? = (l.drop j)[0]? := by rw [hcd]
    rw [List.getElem?_drop, List.getElem?_drop] at h0
    exact h0.trans hx
   have hxo := ho x (List.mem_of_getElem? hx)
   have htk : (l.take (j + 1)).filter (fun x => !p x) = (l.take j).filter (fun x => !p x) ++ (if p x = true then [] else [x]) := by
    rw [List.take_succ_eq_append_getElem hj, hjx, List.filter_append]
    congr 1
    by_cases e : p x = true
    ·rw [if_pos e, List.filter_cons_of_neg (p := fun x => !p x) (by rw [e]; decide)]; rfl
    ·rw [if_neg e, List.filter_cons_of_pos (p := fun x => !p x) (by simpa using e)]; rfl
   with_reducible refine XC (Xy (Xp (Xt (XD ?_))))
   simp only [e0, e1, e6] at O ⊢
   with_reducible refine q_ixSl (by omega) ?_
   simp only [sS] at O ⊢
   refine Xv 0 O rfl (part_flat (off := 0) (fun x _ => fcC_len x) hxc (Xd rfl) (Nat.le_refl _)) ?_
   skip
   refine w_alloc O fun bx _ O => ?_
   refine XO 0 O rfl rfl rfl (fcC_one hxo) fun _ O => ?_
   simp only [List.set_cons_zero, AV.cells] at O
   refine Xv 0 O rfl (by first | exact Xd rfl | rfl) ?_
   refine q_callFn ?_
   simp only [sS, Nat.reduceAdd] at O ⊢
   refine hf x hle O.fz hxo fun g3 h3 S3 => ?_
   have O := O.call S3
   by_cases hp : p x = true
   ·rw [hp]
    rw [if_pos hp, List.append_nil] at htk
    with_reducible refine q_nt (Xx (Xy (mThen_on ?_)))
    simp only [e6] at O ⊢
    with_reducible refine Ye (by simp only [Xo]; omega) ?_
    with_reducible refine wM_i (Xp ?_)
    refine hR (m - 1) _ _ (by omega) ⟨i, j + 1, cur, g3, by omega, ⟨?_, ?_, ?_, ?_⟩, by omega, hcl, by rw [htk]; exact hct, ?_, hle.trans S3.le, O.drop1⟩
    iterate 4 (simp only [Tm.get_put, Nat.reduceEqDiff, ↓reduceIte, e0, e1, e5])
    rw [← List.drop_drop, hcd, List.drop_drop]
   ·have hp' : p x = false := by simpa using hp
    rw [hp']
    rw [if_neg hp] at htk
    with_reducible refine q_nf (XC ?_)
    refine Xv 0 O rfl (by first | exact Xd rfl | rfl) ?_
    simp only [sS, e0, e5] at O ⊢
    with_reducible refine q_ixSl (by omega) ?_
    simp only [sS] at O ⊢
    refine w_store 1 O rfl rfl (fcC_one hxo) (flat_set fcC_len (by omega) x) fun _ O => ?_
    simp only [List.set_cons_zero, List.set_cons_succ] at O
    with_reducible refine Ye (by simp only [Xo]; omega) ?_
    with_reducible refine wM_i (Xp ?_)
    simp only [sS, Nat.reduceEqDiff, ↓reduceIte, e6] at O ⊢
    with_reducible refine Ye (by simp only [Xo]; omega) ?_
    with_reducible refine wM_i (Xp ?_)
    refine hR (m - 1) _ _ (by omega) ⟨i + 1, j + 1, cur.set i x, g3, by omega, ⟨?_, ?_, ?_, ?_⟩, by omega, by rw [List.length_set]; exact hcl, ?_, ?_, hle.trans S3.le, O.drop1⟩
    iterate 4 (simp only [Tm.get_put, Nat.reduceEqDiff, ↓reduceIte, e0, e1])
    ·rw [htk, ← hct, List.set_eq_take_append_cons_drop, if_pos (by omega), List.take_append, List.length_take, Nat.min_eq_left (by omega), List.take_of_length_le (by rw [List.length_take]; omega), show i + 1 - i = 1 by omega, List.take_succ_cons, List.take_zero]
    ·rw [List.drop_set_of_lt (by omega), ← List.drop_drop, hcd, List.drop_drop]
  ·rw [decide_eq_false hj]
   have htk : l.take j = l := List.take_of_length_le (by omega)
   rw [htk] at hct
   with_reducible refine Xx (mExit_i (XF (XF (mThen_oe ?_))))
   simp only [e0, e5] at O ⊢
   refine w_cutTail 0 O rfl hcp (by rw [hcll, hcl]) (by decide) (by omega) fun cp1 => ?_
   refine w_clear 0 O rfl rfl rfl (by rw [hcll, hcl, rep_len]; simp only [List.length_cons, List.length_nil]; omega) fun _ O => ?_
   simp only [List.set_cons_zero] at O
   refine w_cutHead 0 O rfl hcp ?_ (by decide) (show i ≤ l.length by omega) fun cp2 => ?_
   ·rw [List.length_append, List.length_append, List.length_take, List.length_drop, rep_len, hcll, hcl]
    simp only [List.length_cons, List.length_nil]
    omega
   with_reducible refine wM_i (XZ ?_)
   simp only [sS, ↓reduceIte] at O ⊢
   obtain ⟨gz, O, hlz, hgz⟩ := O.freezeB (n := 0) rfl
   have hlc := hle.trans hlz
   have hlen : (l.filter fun x => !p x).length = i := by rw [← hct, List.length_take]; omega
   have := hQ _ _ (.sl b 0 i cp2) hlc O.drop1
   refine this ⟨.inr ⟨b, 0, cp2, by rw [hlen], false, sp, 87, 5, _, hgz, ?_⟩, fun x hx => (hS x (List.mem_filter.1 hx).1).mono hlc⟩
   rw [(flat_split fcC_len cur i).1, hct, List.append_assoc, takeAt_eq _ _ _ (by rw [List.length_append]; omega)]
   simp
theorem chosen_c1_call {g1 : G} {bx : Nat} {fn : FuncId} {cap : List AV} {p : Fc → Bool} (hg : ∃ ro sp e z, g1 bx = some (.cells ro sp e z [.fn (.func fn) [] cap])) (hf : FnP g1 fn cap p) : FnP g1 f_check_chosen_c1 [.ptr bx 0] fun x => !p x := by
 intro g2 h Q x hle f ho hQ
 obtain ⟨ro, sp, e, z, hg⟩ := hg
 have hg2 := hle _ _ hg
 have O := W.start f
 refine Yf ok_check_chosen_c1 (by simp) ?_
 unfold m_check_chosen_c1
 refine w_box O fun _ _ O => ?_
 with_reducible refine wM_i ?_
 refine w_loadF O (by assumption) (by first | exact Xd rfl | rfl) ?_
 refine Xv 0 O rfl (by first | exact Xd rfl | rfl) ?_
 refine q_callFn ?_
 simp only [sS, XS, AV.cells, Nat.reduceEqDiff, ↓reduceIte] at O ⊢
 refine hf x hle O.fz ho fun g3 h3 S => ?_
 have O := O.call S
 skip
 refine q_not ?_
 with_reducible refine wM_i (XZ ?_)
 simp only [sS, ↓reduceIte] at O ⊢
 exact hQ _ _ O.done
theorem chosen_call {v : AV} {l : List Fc} {fn : FuncId} {cap : List AV} {p : Fc → Bool} (f : Fz g h) (hl : IsFcs g v l) (hf : FnP g fn cap p) (hn : l.length ≤ 1000000)
  (hQ : ∀ g' h' w, Step g h g' h' → IsFcs g' w (l.filter p) → Q w h') : Cl f_check_chosen [v, .fn (.func fn) [] cap] h Q := by
 have O := W.start f
 refine Yf ok_check_chosen (by simp) ?_
 unfold m_check_chosen
 simp only [sS, XS, ↓reduceIte] at O ⊢
 refine w_box O fun bx _ O => ?_
 with_reducible refine wM_i ?_
 simp only [sS, AV.cells, Nat.reduceEqDiff, ↓reduceIte] at O ⊢
 obtain ⟨g1, O, hle, hg1⟩ := O.freezeB (n := 0) rfl
 refine Clone_call O (hl.mono hle) (by omega) fun fl b h2 O => ?_
 simp only [sS] at O ⊢
 have hfc : FnP g1 f_check_chosen_c1 [.ptr bx 0] fun x => !p x := chosen_c1_call ⟨_, _, _, _, hg1⟩ (hf.mono hle)
 refine DeleteFunc_call O hfc (fun x hx => (hl.2 x hx).mono hle) hn fun g2 h3 w hle2 O hw => ?_
 with_reducible refine wM_i (XZ ?_)
 simp only [sS, ↓reduceIte] at O ⊢
 have := hQ _ _ w O.done
 simp only [Bool.not_not] at hw
 exact this hw
theorem OfC_call {bk bt : Nat} {kind tok : Int} (h1 : ∃ ro sp e z, g bk = some (.cells ro sp e z [.int .u8 kind])) (h2 : ∃ ro sp e z, g bt = some (.cells ro sp e z [.int .i64 tok])) : FnP g f_check_Of_c1 [.ptr bk 0, .ptr bt 0] fun x => decide (x.k = kind) && decide (x.tok = tok) := by
 intro g2 h Q x hle f ho hQ
 obtain ⟨ro, sp, e, z, hg⟩ := h1
 obtain ⟨ro', sp', e', z', hg'⟩ := h2
 have k1 := hle _ _ hg
 have k2 := hle _ _ hg'
 have O := W.start f
 refine Yf ok_check_Of_c1 (by simp) ?_
 unfold m_check_Of_c1
 refine w_box O fun _ _ O => ?_
 with_reducible refine wM_i (q_fa0 ?_)
 refine Xv 0 O rfl (by first | exact Xd rfl | rfl) ?_
 refine w_loadF O (by assumption) (by first | exact Xd rfl | rfl) ?_
 simp only [sS, XS, AV.cells, Nat.reduceAdd, Nat.reduceEqDiff, ↓reduceIte] at O ⊢
 refine q_eqI' ?_
 by_cases c1 : x.k = kind
 ·rw [decide_eq_true c1]
  with_reducible refine Yg (q_fa0 (Yg ?_))
  refine Xv 0 O rfl (by first | exact Xd rfl | rfl) ?_
  with_reducible refine Yg ?_
  refine w_loadF O (by assumption) (by first | exact Xd rfl | rfl) ?_
  with_reducible refine Yg ?_
  refine q_eqI' ?_
  with_reducible refine XX (wM_i (XZ ?_))
  simp only [sS, ↓reduceIte] at O ⊢
  have := hQ _ _ O.done
  dsimp only at this
  rw [decide_eq_true c1, Bool.true_and] at this
  exact this
 ·rw [decide_eq_false c1]
  with_reducible refine Yb (Yb (Yb (Yb (Ya (wM_i (XZ ?_))))))
  simp only [sS, ↓reduceIte] at O ⊢
  have := hQ _ _ O.done
  dsimp only at this
  rw [decide_eq_false c1, Bool.false_and] at this
  exact this
theorem ToC_call {bk bt : Nat} {kind oth : Int} (h1 : ∃ ro sp e z, g bk = some (.cells ro sp e z [.int .u8 kind])) (h2 : ∃ ro sp e z, g bt = some (.cells ro sp e z [.int .i64 oth])) : FnP g f_check_To_c1 [.ptr bk 0, .ptr bt 0] fun x => decide (x.k = kind) && decide (x.oth = oth) := by
 intro g2 h Q x hle f ho hQ
 obtain ⟨ro, sp, e, z, hg⟩ := h1
 obtain ⟨ro', sp', e', z', hg'⟩ := h2
 have k1 := hle _ _ hg
 have k2 := hle _ _ hg'
 have O := W.start f
 refine Yf ok_check_To_c1 (by simp) ?_
 unfold m_check_To_c1
 refine w_box O fun _ _ O => ?_
 with_reducible refine wM_i (q_fa0 ?_)
 refine Xv 0 O rfl (by first | exact Xd rfl | rfl) ?_
 refine w_loadF O (by assumption) (by first | exact Xd rfl | rfl) ?_
 simp only [sS, XS, AV.cells, Nat.reduceAdd, Nat.reduceEqDiff, ↓reduceIte] at O ⊢
 refine q_eqI' ?_
 by_cases c1 : x.k = kind
 ·rw [decide_eq_true c1]
  with_reducible refine Yg (q_fa0 (Yg ?_))
  refine Xv 0 O rfl (by first | exact Xd rfl | rfl) ?_
  with_reducible refine Yg ?_
  refine w_loadF O (by assumption) (by first | exact Xd rfl | rfl) ?_
  with_reducible refine Yg ?_
  refine q_eqI' ?_
  with_reducible refine XX (wM_i (XZ ?_))
  simp only [sS, ↓reduceIte] at O ⊢
  have := hQ _ _ O.done
  dsimp only at this
  rw [decide_eq_true c1, Bool.true_and] at this
  exact this
 ·rw [decide_eq_false c1]
  with_reducible refine Yb (Yb (Yb (Yb (Ya (wM_i (XZ ?_))))))
  simp only [sS, ↓reduceIte] at O ⊢
  have := hQ _ _ O.done
  dsimp only at this
  rw [decide_eq_false c1, Bool.false_and] at this
  exact this
theorem Of_call {v : AV} {l : List Fc} {kind tok : Int} (f : Fz g h) (hl : IsFcs g v l) (hn : l.length ≤ 1000000) (hQ : ∀ g' h' w, Step g h g' h' → IsFcs g' w (l.filter fun x => decide (x.k = kind) && decide (x.tok = tok)) → Q w h') : Cl f_check_Of [v, .int .u8 kind, .int .i64 tok] h Q := by
 have O := W.start f
 refine Yf ok_check_Of (by simp) ?_
 unfold m_check_Of
 simp only [sS, XS, Nat.reduceAdd, Nat.reduceEqDiff, ↓reduceIte] at O ⊢
 refine w_box O fun bk _ O => ?_
 simp only [sS, AV.cells] at O ⊢
 refine w_box O fun bt _ O => ?_
 with_reducible refine wM_i ?_
 simp only [sS, AV.cells, Nat.reduceEqDiff, ↓reduceIte] at O ⊢
 obtain ⟨g1, O, hle1, hg1⟩ := O.freezeB (n := 0) rfl
 obtain ⟨g2, O, hle2, hg2⟩ := O.freezeB (n := 1) rfl
 refine chosen_call O.fz (hl.mono (hle1.trans hle2)) (OfC_call (kind := kind) (tok := tok) ⟨_, _, _, _, hg2⟩ ⟨_, _, _, _, hle2 _ _ hg1⟩) hn fun g3 h3 w S hw => ?_
 have O := O.call S
 with_reducible refine wM_i (XZ ?_)
 simp only [sS, ↓reduceIte] at O ⊢
 exact hQ _ _ w O.done hw
theorem To_call {v : AV} {l : List Fc} {kind oth : Int} (f : Fz g h) (hl : IsFcs g v l) (hn : l.length ≤ 1000000) (hQ : ∀ g' h' w, Step g h g' h' → IsFcs g' w (l.filter fun x => decide (x.k = kind) && decide (x.oth = oth)) → Q w h') : Cl f_check_To [v, .int .u8 kind, .int .i64 oth] h Q := by
 have O := W.start f
 refine Yf ok_check_To (by simp) ?_
 unfold m_check_To
 simp only [sS, XS, Nat.reduceAdd, Nat.reduceEqDiff, ↓reduceIte] at O ⊢
 refine w_box O fun bk _ O => ?_
 simp only [sS, AV.cells] at O ⊢
 refine w_box O fun bt _ O => ?_
 with_reducible refine wM_i ?_
 simp only [sS, AV.cells, Nat.reduceEqDiff, ↓reduceIte] at O ⊢
 obtain ⟨g1, O, hle1, hg1⟩ := O.freezeB (n := 0) rfl
 obtain ⟨g2, O, hle2, hg2⟩ := O.freezeB (n := 1) rfl
 refine chosen_call O.fz (hl.mono (hle1.trans hle2)) (ToC_call (kind := kind) (oth := oth) ⟨_, _, _, _, hg2⟩ ⟨_, _, _, _, hle2 _ _ hg1⟩) hn fun g3 h3 w S hw => ?_
 have O := O.call S
 with_reducible refine wM_i (XZ ?_)
 simp only [sS, ↓reduceIte] at O ⊢
 exact hQ _ _ w O.done hw
end Go.AM
