/- Lists copied, and with elements left out. -/
import Derived.Test.YtignppgiamochaaGreatDoorD16
set_option linter.unusedVariables false
set_option linter.unusedSimpArgs false
namespace Go.AM
open Go
variable {g0 g : G} {h0 h : Heap} {L : List Ent} {Q : MK}
theorem setAt_eq : ∀ (o : Nat) (cs vs : List AV), o + vs.length ≤ cs.length → setAt cs o vs = some (cs.take o ++ vs ++ cs.drop (o + vs.length)) := by
 intro o
 induction o with
 | zero =>
  intro cs vs h
  have : setAt cs 0 vs = setAt.over cs vs := by cases cs <;> rfl
  rw [this, over_eq vs cs (by omega)]
  simp
 | succ o ih =>
  intro cs vs h
  cases cs with
  | nil => simp at h
  | cons c r =>
   simp only [setAt]
   rw [ih r vs (by simp at h; omega)]
   simp only [Option.map_some, List.take_succ_cons, List.cons_append, Nat.succ_add, List.drop_succ_cons]
theorem flat_split {α : Type} {enc : α → List AV} {z : Nat} (hz : ∀ x, (enc x).length = z) : ∀ (l : List α) (i : Nat), (flat enc l).take (i * z) = flat enc (l.take i) ∧ (flat enc l).drop (i * z) = flat enc (l.drop i) := by
 intro l
 induction l with
 | nil => intro i; simp [flat_nil]
 | cons x r ih =>
  intro i
  cases i with
  | zero => simp [flat_nil]
  | succ i =>
   obtain ⟨h1, h2⟩ := ih i
   have hx := hz x
   rw [flat_cons, Nat.succ_mul]
   constructor
   ·rw [List.take_append, List.take_of_length_le (by omega), hx, show i * z + z - z = i * z by omega, h1, List.take_succ_cons, flat_cons]
   ·rw [List.drop_append, List.drop_eq_nil_of_le (by omega), hx, show i * z + z - z = i * z by omega, h2, List.drop_succ_cons, List.nil_append]
theorem flat_set {α : Type} {enc : α → List AV} {z : Nat} (hz : ∀ x, (enc x).length = z) {l : List α} {i : Nat} (hi : i < l.length) (x : α) : setAt (flat enc l) (i * z) (enc x) = some (flat enc (l.set i x)) := by
 have hl : (flat enc l).length = l.length * z := flat_len fun x _ => hz x
 have hm : i * z + z ≤ l.length * z := by rw [← Nat.succ_mul]; exact Nat.mul_le_mul_right z hi
 rw [setAt_eq _ _ _ (by rw [hz, hl]; exact hm), hz, ← Nat.succ_mul, (flat_split hz l i).1, (flat_split hz l (i + 1)).2]
 congr 1
 rw [List.set_eq_take_append_cons_drop, if_pos hi, flat_app, flat_cons, List.append_assoc]
def FnP (g : G) (fn : FuncId) (cap : List AV) (p : Fc → Bool) : Prop := ∀ {g1 : G} {h : Heap} {Q : MK} (x : Fc), Gle g g1 → Fz g1 h → oneA x.lv = true → (∀ g2 h', Step g1 h g2 h' → Q (.bool (p x)) h') → Cl fn (.agg (fcC x) :: cap) h Q
theorem FnP.mono {g g' : G} (l : Gle g g') {fn : FuncId} {cap : List AV} {p : Fc → Bool} (h : FnP g fn cap p) : FnP g' fn cap p := fun x l2 f ho k => h x (l.trans l2) f ho k
theorem oneA_of {g : G} {x : Fc} (h : IsS g (.agg [x.lv, iV x.r]) x.S) : oneA x.lv = true := by
 obtain ⟨d, ⟨_, lv, e, hs⟩, _⟩ := h
 simp only [AV.agg.injEq, List.cons.injEq] at e
 rw [e.1]
 exact hs.one.2
theorem fcC_one {x : Fc} (h : oneA x.lv = true) : (fcC x).all oneA = true := by
 simp only [fcC, List.all_cons, List.all_nil, h, Bool.and_true, Bool.true_and] <;> rfl
theorem flat_one {l : List Fc} (h : ∀ x ∈ l, oneA x.lv = true) : (flat fcC l).all oneA = true := by
 induction l with
 | nil => rfl
 | cons x r ih => rw [flat_cons, List.all_append, fcC_one (h x (by simp)), ih fun y hy => h y (by simp [hy])]; rfl
theorem q_eqNil {c : MCall} {k : MK} {z : Nat} {α : Type} {enc : α → List AV} {v : AV} {xs : List α} (hs : IsSl g enc z v xs) (h1 : v = .snil → xs = [] → k (.bool true) h) (h2 : k (.bool false) h) : q c (.eq false .slice (C v) (C .snil)) h k := by
 rcases hs with ⟨rfl, rfl | rfl | ⟨b, rfl⟩⟩ | ⟨b, o, cap, rfl, _⟩
 ·exact q_of rfl (h1 rfl rfl)
 ·exact q_of rfl h2
 ·exact q_of rfl h2
 ·exact q_of rfl h2
theorem Clone_call {v : AV} {l : List Fc} (O : W g0 h0 g h L) (hl : IsFcs g v l) (hn : l.length ≤ 100000000)
  (hQ : ∀ fl b h', W g0 h0 g h' (exE fl 87 5 b (flat fcC l) l.length :: L) → Q (exV fl b l.length) h') : Cl f_slices_Clone_Lcheck_Fact_check_Fact [v] h Q := by
 obtain ⟨hs, hS⟩ := hl
 refine Yf ok_slices_Clone_Lcheck_Fact_check_Fact (by simp) ?_
 unfold m_slices_Clone_Lcheck_Fact_check_Fact
 with_reducible refine wM_i (Xt ?_)
 simp only [sS, XS, Nat.reduceEqDiff, ↓reduceIte] at O ⊢
 refine q_eqNil hs (fun e1 e2 => ?_) ?_
 ·subst e2
  with_reducible refine XC (wM_i (mThen_r (XZ ?_)))
  simp only [sS, ↓reduceIte] at O ⊢
  exact hQ false 0 _ (O.addN 0)
 ·with_reducible refine Xx (Xy (Xp ?_))
  simp only [sS, Nat.reduceEqDiff, ↓reduceIte] at O ⊢
  refine Yd O (cs := []) rfl rfl fun b0 hb O => ?_
  skip
  have hsrc := src_S O hs fcC_len
  by_cases h0 : l.length = 0
  ·have h0' : l = [] := List.eq_nil_of_length_eq_zero h0
   subst h0'
   refine q_of (v := .sl b0 0 0 (.ex 0)) (h' := Heap.put hb b0 (.cells false false 87 5 [])) ?_ ?_
   ·simp only [aop, Opd.ev, hsrc, List.length_nil, flat_nil, appendA, List.all_nil, Nat.add_zero]
    rw [show Nat.ble 0 0 = true from rfl]
    simp only [cond_true]
    rw [store_ok (O.own 0 b0 _ rfl).2.2.1 rfl (show setAt [] (0 + 0 * 5) [] = some [] from rfl)]
    rfl
   ·with_reducible refine wM_i (XZ ?_)
    simp only [sS, ↓reduceIte] at O ⊢
    exact hQ true b0 _ (O.put (n := 0) rfl _)
  ·refine w_appendX (fl := true) 0 O rfl hsrc (by omega) rfl (by decide) (flat_one fun x hx => oneA_of (hS x hx)) (by omega) fun b' h' O => ?_
   simp only [List.set_cons_zero, Nat.zero_add, List.nil_append] at O ⊢
   with_reducible refine wM_i (XZ ?_)
   simp only [sS, ↓reduceIte] at O ⊢
   exact hQ false b' _ O
def idxF (p : Fc → Bool) : List Fc → Nat → Option Nat
 | [], _ => none
 | x :: r, n => if p x = true then some n else idxF p r (n + 1)
theorem idxF_some {p : Fc → Bool} : ∀ {l : List Fc} {n i : Nat}, idxF p l n = some i → n ≤ i ∧ i - n < l.length ∧ (∀ (j : Nat) x, j < i - n → l[j]? = some x → p x = false) ∧ ∀ x, l[i - n]? = some x → p x = true := by
 intro l
 induction l with
 | nil => intro n i h; cases h
 | cons x r ih =>
  intro n i h
  simp only [idxF] at h
  split at h
  ·rename_i hp
   cases h
   refine ⟨Nat.le_refl _, by simp, fun j y hj => by omega, fun y hy => ?_⟩
   rw [Nat.sub_self] at hy
   simp at hy
   subst hy
   exact hp
  ·rename_i hp
   obtain ⟨h1, h2, h3, h4⟩ := ih h
   refine ⟨by omega, by simp; omega, fun j y hj hy => ?_, fun y hy => ?_⟩
   ·cases j with
    | zero => simp at hy; subst hy; simpa using hp
    | succ j => exact h3 j y (by omega) (by simpa using hy)
   ·rw [show i - n = (i - (n + 1)) + 1 by omega] at hy
    exact h4 y (by simpa using hy)
theorem idxF_none {p : Fc → Bool} : ∀ {l : List Fc} {n : Nat}, idxF p l n = none → ∀ x ∈ l, p x = false := by
 intro l
 induction l with
 | nil => intro n _ x hx; simp at hx
 | cons y r ih =>
  intro n h x hx
  simp only [idxF] at h
  split at h
  ·cases h
  ·rename_i hp
   rcases List.mem_cons.1 hx with rfl | hx
   ·simpa using hp
   ·exact ih h x hx
theorem IndexFunc_call {fl : Bool} {b : Nat} {l : List Fc} {fn : FuncId} {cap : List AV} {p : Fc → Bool} (O : W g0 h0 g h (exE fl 87 5 b (flat fcC l) l.length :: L)) (hf : FnP g fn cap p) (ho : ∀ x ∈ l, oneA x.lv = true) (hn : l.length ≤ 100000000)
  (hQ : ∀ g' h', Gle g g' → W g0 h0 g' h' (exE fl 87 5 b (flat fcC l) l.length :: L) → Q (match idxF p l 0 with | some i => iV i | none => .int .i64 (-1)) h') : Cl f_slices_IndexFunc_Lcheck_Fact_check_Fact [exV fl b l.length, .fn (.func fn) [] cap] h Q := by
 refine Yf ok_slices_IndexFunc_Lcheck_Fact_check_Fact (by simp) ?_
 unfold m_slices_IndexFunc_Lcheck_Fact_check_Fact
 with_reducible refine wM_i (Xt ?_)
 simp only [sS, XS, Nat.reduceEqDiff, ↓reduceIte] at O ⊢
 refine q_lenX ?_
 with_reducible refine wM_i (wM_i (XD ?_))
 refine XL (fun m t h' => ∃ i gi, m + i = l.length ∧ (t.get 0 = exV fl b l.length ∧ t.get 1 = .fn (.func fn) [] cap ∧ t.get 7 = iV l.length ∧ t.get 8 = iV i) ∧ Gle g gi ∧ idxF p (l.drop i) i = idxF p l 0 ∧ W g0 h0 gi h' (exE fl 87 5 b (flat fcC l) l.length :: L)) l.length ⟨0, g, rfl, ⟨?_, ?_, ?_, ?_⟩, .refl g, rfl, O⟩ ?_
 iterate 4 (simp only [Tm.get_put, Nat.reduceEqDiff, ↓reduceIte])
 rintro m t h1 ⟨i, gi, hm, ⟨e0, e1, e7, e8⟩, hle, hidx, O⟩ R hR
 simp only [e7, e8] at O ⊢
 refine q_lssN ?_
 by_cases hi : i < l.length
 ·rw [decide_eq_true hi]
  obtain ⟨x, hx⟩ : ∃ x, l[i]? = some x := ⟨_, List.getElem?_eq_getElem hi⟩
  have hix : l[i] = x := by rw [List.getElem?_eq_getElem hi] at hx; exact Option.some.inj hx
  have hd : idxF p (l.drop i) i = if p x = true then some i else idxF p (l.drop (i + 1)) (i + 1) := by rw [List.drop_eq_getElem_cons hi, hix]; rfl
  with_reducible refine Xt (XC (Xy (Xp (Xt (XD ?_)))))
  simp only [e0, e1, e8] at O ⊢
  refine q_ixX hi ?_
  skip
  refine w_loadX0 0 O rfl fcC_len hx (Xd rfl) (Nat.le_refl _) ?_
  refine q_callFn ?_
  simp only [sS] at O ⊢
  refine hf x hle O.fz (ho x (List.mem_of_getElem? hx)) fun g2 h2 S2 => ?_
  have O := O.call S2
  by_cases hp : p x = true
  ·rw [hp]
   with_reducible refine XC (wM_i (mThen_or (mThen_r (mThen_or (XZ ?_)))))
   simp only [sS, ↓reduceIte] at O ⊢
   have := hQ _ _ (hle.trans S2.le) O
   rw [← hidx, hd, if_pos hp] at this
   exact this
  ·have hp' : p x = false := by simpa using hp
   rw [hp']
   with_reducible refine Xx (Xy (mThen_on ?_))
   simp only [e8] at O ⊢
   with_reducible refine Ye (by simp only [Xo]; omega) ?_
   with_reducible refine wM_i (Xp ?_)
   refine hR (m - 1) _ _ (by omega) ⟨i + 1, g2, by omega, ⟨?_, ?_, ?_, ?_⟩, hle.trans S2.le, ?_, O⟩
   iterate 4 (simp only [Tm.get_put, Nat.reduceEqDiff, ↓reduceIte, e0, e1, e7])
   rw [← hidx, hd, if_neg hp]
 ·rw [decide_eq_false hi]
  with_reducible refine Xt (Xx (mExit_i (XF (XF (mThen_oe (wM_i (XZ ?_)))))))
  simp only [sS, ↓reduceIte] at O ⊢
  have hd : l.drop i = [] := List.drop_eq_nil_of_le (by omega)
  rw [hd] at hidx
  have := hQ _ _ hle O
  rw [← hidx] at this
  exact this
end Go.AM
