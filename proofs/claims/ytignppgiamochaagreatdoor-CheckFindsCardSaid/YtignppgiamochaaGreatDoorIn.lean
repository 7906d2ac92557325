/- What comes in, as the contracts want it: rows of facts. -/
import Derived.Test.YtignppgiamochaaGreatDoorAmIn
import Derived.Test.YtignppgiamochaaGreatDoorD21
set_option linter.unusedVariables false
set_option linter.unusedSimpArgs false
namespace Go.AM
open Go Go.Proofs
open Bdd (Cu)
set_option maxRecDepth 100000
def gOf (h : Heap) : G := fun b => if @LT.lt Nat _ b h.next then h.get b else none
theorem gOf_fz (h : Heap) : Fz (gOf h) h := fun b x hb => by
 unfold gOf at hb
 split at hb
 ·rename_i hlt; exact ⟨hlt, hb⟩
 ·cases hb
theorem map_all {α : Type} {enc : α → List AV} {Good : α → Prop} : ∀ {l : List (List AV)}, (∀ x ∈ l, ∃ y, x = enc y ∧ Good y) → ∃ ys : List α, l.flatten = flat enc ys ∧ l.length = ys.length ∧ ∀ y ∈ ys, Good y := by
 intro l
 induction l with
 | nil => intro _; exact ⟨[], rfl, rfl, fun y hy => by simp at hy⟩
 | cons x l ih =>
  intro h
  obtain ⟨y, rfl, hy⟩ := h _ (List.mem_cons_self ..)
  obtain ⟨ys, h1, h2, h3⟩ := ih fun x hx => h x (List.mem_cons_of_mem _ hx)
  refine ⟨y :: ys, by rw [List.flatten_cons, h1, flat_cons], by simp [h2], fun z hz => ?_⟩
  rcases List.mem_cons.1 hz with rfl | hz
  ·exact hy
  ·exact h3 z hz
theorem Shp.sl {P : Program} {h : Heap} {n : Nat} {t e : TypeId} {avs : List AV} (hu : P.underlying t = some (.slice e)) (hs : Shp P h (n + 1) t avs) {α : Type} (enc : α → List AV) (Good : α → Prop) (z : Nat)
  (hf : ∀ x, x.length = P.cellsOf e → Shp P h n e x → ∃ y, x = enc y ∧ Good y) : ∃ v ys, avs = [v] ∧ IsSl (gOf h) enc z v ys ∧ (∀ y ∈ ys, Good y) ∧ ys.length < 4611686018427387904 := by
 unfold Shp at hs
 rw [hu] at hs
 rcases hs with rfl | rfl | ⟨b, len, cap, elems, rfl, h2, h3, h4, ⟨el, z', h5⟩, h6, h7⟩
 ·exact ⟨_, [], rfl, .inl ⟨rfl, .inl rfl⟩, fun y hy => by simp at hy, Nat.le_of_ble_eq_true rfl⟩
 ·exact ⟨_, [], rfl, .inl ⟨rfl, .inr (.inl rfl)⟩, fun y hy => by simp at hy, Nat.le_of_ble_eq_true rfl⟩
 ·obtain ⟨ys, k1, k2, k3⟩ := map_all fun x hx => hf x (h7 x hx).1 (h7 x hx).2
  have hl : ys.length = len := by omega
  have hr : reachBytes < 4611686018427387904 := by decide
  refine ⟨_, ys, rfl, .inr ⟨b, 0, .ex cap, by rw [hl], true, false, el, z', elems.flatten, ?_, ?_⟩, k3, by omega⟩
  ·unfold gOf; rw [if_pos h6]; exact h5
  ·rw [k1]; exact takeAt_all rfl
theorem Shp.fld {P : Program} {h : Heap} {n : Nat} {t : TypeId} {fs : Array Field} {avs : List AV} (hu : P.underlying t = some (.struct fs)) (hs : Shp P h (n + 1) t avs) : avs.length = fs.size ∧ ∀ (i : Nat) (f : Field), fs[i]? = some f → ∃ a, avs[i]? = some a ∧ Shp P h n f.type [a] := by
 unfold Shp at hs
 rw [hu] at hs
 exact hs
theorem Shp.int {P : Program} {h : Heap} {n : Nat} {t : TypeId} {k : IntKind} {a : AV} (hu : P.underlying t = some (.int k)) (hs : Shp P h (n + 1) t [a]) : ∃ z, a = .int k z ∧ (Lit.int k z).wf = true := by
 unfold Shp at hs
 rw [hu] at hs
 obtain ⟨z, h1, h2⟩ := hs
 cases h1
 exact ⟨z, rfl, h2⟩
theorem u32_nat {z : Int} (h : (Lit.int .u32 z).wf = true) : ∃ n : Nat, z = .ofNat n ∧ n < 4294967296 := by
 unfold Lit.wf at h
 rw [Bool.and_eq_true, decide_eq_true_eq, decide_eq_true_eq] at h
 obtain ⟨h1, h2⟩ := h
 have e1 : IntKind.u32.min = 0 := by decide
 have e2 : IntKind.u32.max = 4294967295 := by decide
 rw [e1] at h1
 rw [e2] at h2
 exact ⟨z.toNat, by show z = ((z.toNat : Nat) : Int); omega, by omega⟩
theorem shp_cube {h : Heap} {n : Nat} {x : List AV} (hs : Shp Tryz.prog h (n + 2) 105 x) : ∃ p : Cu, x = cuC p ∧ p.1 < 4294967296 ∧ p.2 < 4294967296 := by
 obtain ⟨h1, h2⟩ := Shp.fld Tryz.underlying105 hs
 obtain ⟨a, k1, k2⟩ := h2 0 _ rfl
 obtain ⟨b, m1, m2⟩ := h2 1 _ rfl
 obtain ⟨za, rfl, wa⟩ := Shp.int Tryz.underlying24 k2
 obtain ⟨zb, rfl, wb⟩ := Shp.int Tryz.underlying24 m2
 obtain ⟨na, rfl, la⟩ := u32_nat wa
 obtain ⟨nb, rfl, lb⟩ := u32_nat wb
 match x, h1, k1, m1 with
 | [_, _], _, k1, m1 => cases k1; cases m1; exact ⟨(na, nb), rfl, la, lb⟩
theorem shp_cubes {h : Heap} {n : Nat} {a : AV} (hs : Shp Tryz.prog h (n + 3) 23 [a]) : ∃ cs, IsCus (gOf h) a cs := by
 obtain ⟨v, ys, h1, h2, h3, h4⟩ := Shp.sl Tryz.underlying23 hs cuC (fun p => p.1 < 4294967296 ∧ p.2 < 4294967296) 2 fun x _ hx => shp_cube hx
 cases h1
 exact ⟨ys, h2, h3, h4⟩
theorem shp_row {h : Heap} {n : Nat} {x : List AV} (hs : Shp Tryz.prog h (n + 4) 95 x) : ∃ r : Rw, x = rwC r ∧ IsCus (gOf h) r.lv r.cs := by
 obtain ⟨h1, h2⟩ := Shp.fld Tryz.underlying95 hs
 obtain ⟨a, a1, a2⟩ := h2 0 _ rfl
 obtain ⟨b, b1, b2⟩ := h2 1 _ rfl
 obtain ⟨c, c1, c2⟩ := h2 2 _ rfl
 obtain ⟨d, d1, d2⟩ := h2 3 _ rfl
 obtain ⟨za, rfl, _⟩ := Shp.int Tryz.underlying5 a2
 obtain ⟨zb, rfl, _⟩ := Shp.int Tryz.underlying3 b2
 obtain ⟨zc, rfl, _⟩ := Shp.int Tryz.underlying3 c2
 obtain ⟨cs, hcs⟩ := shp_cubes d2
 match x, h1, a1, b1, c1, d1 with
 | [_, _, _, _], _, a1, b1, c1, d1 => cases a1; cases b1; cases c1; cases d1; exact ⟨⟨za, zb, zc, d, cs⟩, rfl, hcs⟩
theorem shp_rows {h : Heap} {n : Nat} {avs : List AV} (hs : Shp Tryz.prog h (n + 5) 36 avs) : ∃ v l, avs = [v] ∧ IsRws (gOf h) v l := by
 obtain ⟨v, ys, h1, h2, h3, h4⟩ := Shp.sl Tryz.underlying36 hs rwC (fun r => IsCus (gOf h) r.lv r.cs) 4 fun x _ hx => shp_row hx
 exact ⟨v, ys, h1, h2, h3, h4⟩
theorem plain_rows : PlainT Tryz.prog 5 36 = true := by kernel_rfl
end Go.AM
