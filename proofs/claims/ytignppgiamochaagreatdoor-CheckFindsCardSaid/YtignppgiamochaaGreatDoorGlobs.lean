/- In a world in which the listed variables lie as the program's text lays them, the abstract machine's first heap stands for them: the six variables. -/
import Derived.Test.YtignppgiamochaaGreatDoorLaid
set_option linter.unusedVariables false
set_option linter.unusedSimpArgs false
namespace Go.AM
open Go Go.Proofs Go.Proofs.YtignppgiamochaaGreatDoor
theorem star_eq : "*" ++ "errors.errorString" = "*errors.errorString" := by decide
theorem row419 (u : TypeId) (h : Tryz.prog.typeName? 3 u = some "*errors.errorString") : u = 419 :=
 typeName_ptr_named (nm := "errors.errorString") (by rw [star_eq]; kernel_rfl) (by kernel_rfl) (by decide) u (by rw [star_eq]; exact h)
def signsB : List (List UInt8) := [[60, 61], [62, 61], [61, 61], [33, 61], [38, 38], [124, 124], [43], [45], [42], [47], [37], [60], [62], [61], [33], [40], [41], [123], [125], [44], [59], [58]]
def synB : List UInt8 := [105, 110, 118, 97, 108, 105, 100, 32, 115, 121, 110, 116, 97, 120]
def rngB : List UInt8 := [118, 97, 108, 117, 101, 32, 111, 117, 116, 32, 111, 102, 32, 114, 97, 110, 103, 101]
def laidL : List (String × DataW Unit) := [("math/bits.deBruijn32tab", .agg (tab32L.map fun m => .lit (.int .u8 (.ofNat m)))), ("math/bits.deBruijn64tab", .agg (tab64L.map fun m => .lit (.int .u8 (.ofNat m)))), ("internal/strconv.uint64pow10", .agg (pow10L.map fun m => .lit (.int .u64 (.ofNat m)))),
 ("strconv.ErrRange", .iface "*errors.errorString" (.ptr (.agg [.lit (.string rngB)]))), ("strconv.ErrSyntax", .iface "*errors.errorString" (.ptr (.agg [.lit (.string synB)]))), ("motley/source.signs", .agg (signsB.map fun m => .lit (.string m)))]
theorem laidL_eq : Rows.checkFindsRow.laid = laidL := by kernel_rfl
def env0 (a1 a2 : Addr) : Env := fun b => match b with
 | 0 => some ⟨0, 0, 1, 0⟩
 | 1 => some ⟨1, 0, 1, 0⟩
 | 2 => some ⟨2, 0, 1, 0⟩
 | 3 => some ⟨3, 0, 1, 0⟩
 | 4 => some ⟨4, 0, 1, 0⟩
 | 5 => some ⟨5, 0, 1, 0⟩
 | 6 => some ⟨a1.block, a1.off, 1, 0⟩
 | 7 => some ⟨a2.block, a2.off, 1, 0⟩
 | _ => none
theorem get_new_ne (h : Heap) (x : Blk) (n b : Nat) (hn : h.next = n) (hb : n ≠ b) : (h.new x).get b = h.get b := by
 rw [Heap.get_new, hn, if_neg hb]
theorem get_nil (b : Nat) : (⟨.nil, 0⟩ : Heap).get b = none := by
 unfold Heap.get Tr.get Tr.nil
 dsimp only
 cases Nat.ble 65536 b with
 | true => rfl
 | false =>
  dsimp only [cond_false]
  have : ∀ {α : Type} (x : α) (d : Nat), (N4.rep x).sel d = x := by
   intro α x d; unfold N4.rep N4.sel; cases Nat.ble 2 d <;> cases Nat.ble 3 d <;> cases Nat.ble 1 d <;> rfl
  unfold Q8.get
  simp only [this]
theorem h0_big (b : Nat) (hb : 8 ≤ b) : h0.get b = none := by
 unfold h0
 rw [get_new_ne _ _ 7 b rfl (by omega), get_new_ne _ _ 6 b rfl (by omega), get_new_ne _ _ 5 b rfl (by omega), get_new_ne _ _ 4 b rfl (by omega), get_new_ne _ _ 3 b rfl (by omega), get_new_ne _ _ 2 b rfl (by omega), get_new_ne _ _ 1 b rfl (by omega), get_new_ne _ _ 0 b rfl (by omega)]
 exact get_nil b
theorem k_0 : h0.get 0 = some b0 := by kernel_rfl
theorem k_1 : h0.get 1 = some b1 := by kernel_rfl
theorem k_2 : h0.get 2 = some b2 := by kernel_rfl
theorem k_3 : h0.get 3 = some b3 := by kernel_rfl
theorem k_4 : h0.get 4 = some b4 := by kernel_rfl
theorem k_5 : h0.get 5 = some b5 := by kernel_rfl
theorem k_6 : h0.get 6 = some b6 := by kernel_rfl
theorem k_7 : h0.get 7 = some b7 := by kernel_rfl
theorem h0_next : h0.next = 8 := by kernel_rfl
theorem h0_get (b : Nat) (x : Blk) (h : h0.get b = some x) : (b = 0 ∧ x = b0) ∨ (b = 1 ∧ x = b1) ∨ (b = 2 ∧ x = b2) ∨ (b = 3 ∧ x = b3) ∨ (b = 4 ∧ x = b4) ∨ (b = 5 ∧ x = b5) ∨ (b = 6 ∧ x = b6) ∨ (b = 7 ∧ x = b7) := by
 rcases Nat.lt_or_ge b 8 with hlt | hge
 ·have h8 : b = 0 ∨ b = 1 ∨ b = 2 ∨ b = 3 ∨ b = 4 ∨ b = 5 ∨ b = 6 ∨ b = 7 := by omega
  rcases h8 with rfl | rfl | rfl | rfl | rfl | rfl | rfl | rfl
  ·rw [k_0] at h; cases h; exact .inl ⟨rfl, rfl⟩
  ·rw [k_1] at h; cases h; exact .inr (.inl ⟨rfl, rfl⟩)
  ·rw [k_2] at h; cases h; exact .inr (.inr (.inl ⟨rfl, rfl⟩))
  ·rw [k_3] at h; cases h; exact .inr (.inr (.inr (.inl ⟨rfl, rfl⟩)))
  ·rw [k_4] at h; cases h; exact .inr (.inr (.inr (.inr (.inl ⟨rfl, rfl⟩))))
  ·rw [k_5] at h; cases h; exact .inr (.inr (.inr (.inr (.inr (.inl ⟨rfl, rfl⟩)))))
  ·rw [k_6] at h; cases h; exact .inr (.inr (.inr (.inr (.inr (.inr (.inl ⟨rfl, rfl⟩))))))
  ·rw [k_7] at h; cases h; exact .inr (.inr (.inr (.inr (.inr (.inr (.inr ⟨rfl, rfl⟩))))))
 ·rw [h0_big b hge] at h; cases h
theorem cells_whole {e : Env} {cs : List AV} {arr : Array Value} (h : Rl e cs arr.toList) : Rl e cs ((arr.toList.drop 0).take cs.length) := by
 rw [List.drop_zero, List.take_of_length_le (by rw [h.length]; exact Nat.le_refl _)]
 exact h
theorem strs_eq : (signsB.map fun m => AV.str (m.map (·.toNat))) = strs signsL := by kernel_rfl
theorem syn_eq : synL.map UInt8.ofNat = synB := by kernel_rfl
theorem rng_eq : rngL.map UInt8.ofNat = rngB := by kernel_rfl
theorem var_block {P : Program} {W : World} {n : String} {g : Nat} {cs : Array Value} (hg : P.globalNamed n = some g) (h : W.var? P n = some cs) : ∃ el fr, W.heap[g]? = some (.cells cs el fr) := by
 unfold World.var? at h
 rw [hg] at h
 simp only [Option.bind_some] at h
 cases hh : W.heap[g]? with
 | none => rw [hh] at h; cases h
 | some o =>
  rw [hh] at h
  cases o with
  | cells c el fr => cases h; exact ⟨el, fr, rfl⟩
  | _ => cases h
theorem cell_block {W : World} {a : Addr} {v : Value} (h : W.cell? a = some v) : a.spot = none ∧ ∃ cs el fr, W.heap[a.block]? = some (.cells cs el fr) ∧ cs[a.off]? = some v := by
 unfold World.cell? at h
 cases hh : W.heap[a.block]? with
 | none => rw [hh] at h; cases h
 | some o =>
  rw [hh] at h
  cases o with
  | cells c el fr =>
   dsimp only at h
   split at h
   ·cases h
   ·rename_i hs
    exact ⟨by simpa using hs, c, el, fr, rfl, h⟩
  | _ => cases h
theorem rb_ro {e : Env} {blk base : Nat} {elem : TypeId} {cs : List AV} {arr : Array Value} {el : TypeId} {fr : Nat × Nat} (h : Rl e cs ((arr.toList.drop base).take cs.length)) : Rb e ⟨blk, base, 1, 0⟩ (.cells true false elem 1 cs) (.cells arr el fr) :=
 .cells _ _ _ _ _ _ _ _ rfl h (fun h => by cases h) (fun h => by cases h)
theorem globs {W : World} (h : laidMet Tryz.prog laidL W) : ∃ e, RelH e h0 W ∧ CtxOk ⟨Tryz.prog, gs0, 0⟩ e := by
 have hA := h
 have hB := hA.tail
 have hC := hB.tail
 have hD := hC.tail
 have hE := hD.tail
 have hF := hE.tail
 have n1 : Tryz.prog.globalNamed "strconv.ErrSyntax" = some 1 := by kernel_rfl
 have n2 : Tryz.prog.globalNamed "strconv.ErrRange" = some 2 := by kernel_rfl
 obtain ⟨a2, s2, v2, c2, t2, _⟩ := laid_sentinel (g := 2) (ti := 329) (tp := 419) (te := 421) (ts := 9) hD n2 (by kernel_rfl) Tryz.underlying329 row419 Tryz.underlying419 Tryz.underlying421 rfl rfl Tryz.underlying9 (by kernel_rfl) (by kernel_rfl)
 obtain ⟨a1, s1, v1, c1, t1, _⟩ := laid_sentinel (g := 1) (ti := 329) (tp := 419) (te := 421) (ts := 9) hE n1 (by kernel_rfl) Tryz.underlying329 row419 Tryz.underlying419 Tryz.underlying421 rfl rfl Tryz.underlying9 (by kernel_rfl) (by kernel_rfl)
 obtain ⟨el2, fr2, w2⟩ := var_block n2 v2
 obtain ⟨el1, fr1, w1⟩ := var_block n1 v1
 obtain ⟨p2, cs7, el7, fr7, w7, x7⟩ := cell_block c2
 obtain ⟨p1, cs6, el6, fr6, w6, x6⟩ := cell_block c1
 obtain ⟨cs4, el4, fr4, w4, r4⟩ := laid_ints hA (g := 4) (t := 425) (te := 5) (N := 32) (by kernel_rfl) (by kernel_rfl) Tryz.underlying425 (by kernel_rfl) Tryz.underlying5 (by kernel_rfl) (env0 a1 a2)
 obtain ⟨cs5, el5, fr5, w5, r5⟩ := laid_ints hB (g := 5) (t := 426) (te := 5) (N := 64) (by kernel_rfl) (by kernel_rfl) Tryz.underlying426 (by kernel_rfl) Tryz.underlying5 (by kernel_rfl) (env0 a1 a2)
 obtain ⟨cs3, el3, fr3, w3, r3⟩ := laid_ints hC (g := 3) (t := 422) (te := 324) (N := 20) (by kernel_rfl) (by kernel_rfl) Tryz.underlying422 (by kernel_rfl) Tryz.underlying324 (by kernel_rfl) (env0 a1 a2)
 obtain ⟨cs0, el0, fr0, w0, r0⟩ := laid_strs hF (g := 0) (t := 254) (te := 9) (N := 22) (by kernel_rfl) (by kernel_rfl) Tryz.underlying254 (by kernel_rfl) Tryz.underlying9 (by kernel_rfl) (env0 a1 a2)
 rw [strs_eq] at r0
 have one : ∀ {e : Env} {a : Addr} {cs : Array Value} {v : Value} {x : AV}, cs[a.off]? = some v → Rv e x v → Rl e [x] ((cs.toList.drop a.off).take [x].length) := by
  intro e a cs v x hx hv
  have hx' : cs.toList[a.off]? = some v := by simpa using hx
  obtain ⟨hlt, he⟩ := List.getElem?_eq_some_iff.1 hx'
  rw [List.drop_eq_getElem_cons hlt, he]
  exact .cons _ _ _ _ hv .nil
 refine ⟨env0 a1 a2, ⟨?_, ?_, ?_, ?_⟩, ⟨?_⟩⟩
 ·intro b x i hb hi
  rcases h0_get b x hb with ⟨rfl, rfl⟩ | ⟨rfl, rfl⟩ | ⟨rfl, rfl⟩ | ⟨rfl, rfl⟩ | ⟨rfl, rfl⟩ | ⟨rfl, rfl⟩ | ⟨rfl, rfl⟩ | ⟨rfl, rfl⟩
  ·cases hi; exact ⟨_, w0, rb_ro (cells_whole r0)⟩
  ·cases hi
   refine ⟨_, w1, rb_ro (cells_whole (.cons _ _ _ _ (.ifc _ _ _ ?_) .nil))⟩
   have := Rv.ptr (e := env0 a1 a2) 6 0 ⟨a1.block, a1.off, 1, 0⟩ rfl
   obtain ⟨blk, off, spot⟩ := a1
   cases p1
   exact this
  ·cases hi
   refine ⟨_, w2, rb_ro (cells_whole (.cons _ _ _ _ (.ifc _ _ _ ?_) .nil))⟩
   have := Rv.ptr (e := env0 a1 a2) 7 0 ⟨a2.block, a2.off, 1, 0⟩ rfl
   obtain ⟨blk, off, spot⟩ := a2
   cases p2
   exact this
  ·cases hi; exact ⟨_, w3, rb_ro (cells_whole r3)⟩
  ·cases hi; exact ⟨_, w4, rb_ro (cells_whole r4)⟩
  ·cases hi; exact ⟨_, w5, rb_ro (cells_whole r5)⟩
  ·cases hi; exact ⟨_, w6, rb_ro (one x6 (.str _ _ (by rw [t1, syn_eq])))⟩
  ·cases hi; exact ⟨_, w7, rb_ro (one x7 (.str _ _ (by rw [t2, rng_eq])))⟩
 ·intro b b' x x' i i' hb _ _ _ _ hrw
  rcases h0_get b x hb with ⟨_, rfl⟩ | ⟨_, rfl⟩ | ⟨_, rfl⟩ | ⟨_, rfl⟩ | ⟨_, rfl⟩ | ⟨_, rfl⟩ | ⟨_, rfl⟩ | ⟨_, rfl⟩ <;> cases hrw
 ·intro b i hi
  show (b : Nat) < h0.next
  rw [h0_next]
  rcases Nat.lt_or_ge b 8 with hlt | hge
  ·exact hlt
  ·exfalso
   obtain ⟨m, rfl⟩ : ∃ m : Nat, b = m + 8 := ⟨Nat.sub b 8, (Nat.sub_add_cancel hge).symm⟩
   cases hi
 ·intro b x hb
  show (b : Nat) < h0.next
  rw [h0_next]
  rcases Nat.lt_or_ge b 8 with hlt | hge
  ·exact hlt
  ·rw [h0_big b hge] at hb; cases hb
 ·intro g b hgb
  unfold globId gs0 at hgb
  simp only [List.find?] at hgb
  repeat' split at hgb
  all_goals first
   | (rename_i hg; cases hgb; simp only [beq_iff_eq] at hg; subst hg; exact ⟨_, rfl, rfl, rfl⟩)
   | cases hgb
end Go.AM
