/- In a world in which the listed variables lie as the program's text lays them, the abstract machine's first heap stands for them. -/
import Derived.Test.YtignppgiamochaaGreatDoorRows
import Derived.Test.YtignppgiamochaaGreatDoorAw
import Derived.Stop.LaidErr
set_option linter.unusedVariables false
set_option linter.unusedSimpArgs false
namespace Go.AM
open Go Go.Proofs Go.RowKit Go.ChangeShapes
section
variable {H : Type} {enc : TypeId × Value → H} {P : Program} {w : World} {base fuel : Nat} {sp : Nat → Bool} {held : Bool}
theorem trod_str {e : TypeId} {cs : List Value} {l : List UInt8} {p : List MemPlace} (hu : P.underlying e = some .string) (h : DataW.trod enc P w base sp held fuel e cs = some (.lit (.string l), p)) :
  ∃ s : ByteArray, cs = [.string s] ∧ s.data.toList = l := by
 cases fuel with
 | zero => cases h
 | succ fuel =>
  unfold DataW.trod at h
  rw [hu] at h
  split at h <;> first | (cases h; done) | skip
  all_goals first
   | (rename_i s _ _; split at h <;> first | (cases h; done) | (cases h; exact ⟨_, rfl, rfl⟩))
   | (rename_i hx; cases hx)
   | skip
theorem trod_int {e : TypeId} {cs : List Value} {k k' : IntKind} {n : Int} {p : List MemPlace} (hu : P.underlying e = some (.int k)) (h : DataW.trod enc P w base sp held fuel e cs = some (.lit (.int k' n), p)) :
  cs = [.int k' n] := by
 cases fuel with
 | zero => cases h
 | succ fuel =>
  unfold DataW.trod at h
  rw [hu] at h
  split at h <;> first | (cases h; done) | skip
  all_goals first
   | (split at h <;> first | (cases h; done) | (rename_i hx; cases h; rw [hx.1]; done) | skip)
   | skip
  all_goals first
   | (rename_i hx _; cases hx; done)
   | skip
  all_goals (exfalso; simp_all; done)
theorem range_mapM {α : Type} {f : Nat → Option α} {n : Nat} {xs : List α} (h : (List.range n).mapM f = some xs) : xs.length = n ∧ ∀ (i : Nat), i < n → ∃ x, xs[i]? = some x ∧ f i = some x := by
 have key : ∀ (l : List Nat) (xs : List α), l.mapM f = some xs → xs.length = l.length ∧ ∀ (i y : Nat), l[i]? = some y → ∃ x, xs[i]? = some x ∧ f y = some x := by
  intro l
  induction l with
  | nil => intro xs h; simp at h; subst h; exact ⟨rfl, fun i y hy => by simp at hy⟩
  | cons a l ih =>
   intro xs h
   simp only [List.mapM_cons, Option.bind_eq_bind, Option.bind_eq_some_iff] at h
   obtain ⟨x, hx, ys, hys, h⟩ := h
   cases h
   obtain ⟨h1, h2⟩ := ih ys hys
   refine ⟨by simp [h1], fun i y hy => ?_⟩
   cases i with
   | zero => simp at hy; subst hy; exact ⟨x, by simp, hx⟩
   | succ i => simpa using h2 i y (by simpa using hy)
 obtain ⟨h1, h2⟩ := key _ _ h
 exact ⟨by simpa using h1, fun i hi => h2 i i (by simp [hi])⟩
theorem trod_array {t e : TypeId} {n : Nat} {cs : List Value} {ds : List (DataW H)} {p : List MemPlace} (hu : P.underlying t = some (.array n e)) (hc : P.cellsOf t = n) (he : P.cellsOf e = 1) (h : DataW.trod enc P w base sp held fuel t cs = some (.agg ds, p)) :
  cs.length = n ∧ ds.length = n ∧ ∀ (i : Nat) (d : DataW H) (c : Value), ds[i]? = some d → cs[i]? = some c → ∃ f q, DataW.trod enc P w base sp held f e [c] = some (d, q) := by
 cases fuel with
 | zero => cases h
 | succ fuel =>
  unfold DataW.trod at h
  rw [hu] at h
  dsimp only at h
  split at h
  ·rename_i hl
   rw [hc] at hl
   simp only [Option.map_eq_some_iff] at h
   obtain ⟨xs, hxs, h⟩ := h
   cases h
   obtain ⟨h1, h2⟩ := range_mapM hxs
   refine ⟨hl, by simp [h1], fun i d c hd hcc => ?_⟩
   have hi : i < n := by
    have := (List.getElem?_eq_some_iff.1 hcc).1
    omega
   obtain ⟨x, hx, hf⟩ := h2 i hi
   rw [he, Nat.mul_one] at hf
   obtain ⟨hlt, hce⟩ := List.getElem?_eq_some_iff.1 hcc
   have h3 : (cs.drop i).take 1 = [c] := by rw [List.drop_eq_getElem_cons hlt, hce]; rfl
   rw [h3] at hf
   have h4 : x.1 = d := by
    rw [List.getElem?_map, hx] at hd
    simpa using hd
   exact ⟨fuel, x.2, by rw [hf, ← h4]⟩
  ·cases h
theorem Rl.of_get {e : Env} : ∀ {vs : List AV} {xs : List Value}, vs.length = xs.length → (∀ (i : Nat) (v : AV) (x : Value), vs[i]? = some v → xs[i]? = some x → Rv e v x) → Rl e vs xs := by
 intro vs
 induction vs with
 | nil => intro xs h _; cases xs with
  | nil => exact .nil
  | cons _ _ => simp at h
 | cons v vs ih =>
  intro xs h hg
  cases xs with
  | nil => simp at h
  | cons x xs => exact .cons _ _ _ _ (hg 0 v x (by simp) (by simp)) (ih (by simpa using h) fun i v x h1 h2 => hg (i + 1) v x (by simpa using h1) (by simpa using h2))
end
theorem laid_head {P : Program} {W : World} {n : String} {d : DataW Unit} {r : List (String × DataW Unit)} {g : Nat} {t : TypeId} (h : laidMet P ((n, d) :: r) W) (hg : P.globalNamed n = some g) (ht : (P.globals[g]?).map (·.type) = some t) :
  ∃ cs el fr fuel p, W.heap[g]? = some (.cells cs el fr) ∧ DataW.trod (fun _ => ()) P W 0 (fun _ => true) false fuel t cs.toList = some (d, p) := by
 obtain ⟨ps, ⟨g0, t0, cs0, f0, p0, q0, hg0, ht0, hv0, hd0, _, e0⟩, _, _⟩ := h
 obtain rfl := Option.some.inj (hg.symm.trans hg0)
 obtain rfl := Option.some.inj (ht.symm.trans ht0)
 unfold World.var? at hv0
 rw [hg] at hv0
 simp only [Option.bind_some] at hv0
 cases hh : W.heap[g]? with
 | none => rw [hh] at hv0; cases hv0
 | some o =>
  rw [hh] at hv0
  cases o with
  | cells cs el fr => cases hv0; exact ⟨_, el, fr, f0, p0, rfl, hd0⟩
  | _ => cases hv0
theorem laid_ints {P : Program} {W : World} {n : String} {k : IntKind} {l : List Nat} {r : List (String × DataW Unit)} {g N : Nat} {t te : TypeId} (h : laidMet P ((n, .agg (l.map fun m => .lit (.int k (.ofNat m)))) :: r) W) (hg : P.globalNamed n = some g)
  (ht : (P.globals[g]?).map (·.type) = some t) (hu : P.underlying t = some (.array N te)) (hc : P.cellsOf t = N) (hk : P.underlying te = some (.int k)) (he : P.cellsOf te = 1) (e : Env) :
  ∃ cs el fr, W.heap[g]? = some (.cells cs el fr) ∧ Rl e (l.map fun m => .int k (.ofNat m)) cs.toList := by
 obtain ⟨cs, el, fr, fuel, p, h1, h2⟩ := laid_head h hg ht
 obtain ⟨h3, h4, h5⟩ := trod_array hu hc he h2
 refine ⟨cs, el, fr, h1, Rl.of_get (by simp at h4 ⊢; simp at h3; omega) fun i v x hv hx => ?_⟩
 rw [List.getElem?_map, Option.map_eq_some_iff] at hv
 obtain ⟨m, hm, rfl⟩ := hv
 obtain ⟨f, q, h6⟩ := h5 i (.lit (.int k (.ofNat m))) x (by rw [List.getElem?_map, hm]; rfl) hx
 have := trod_int hk h6
 simp only [List.cons.injEq, and_true] at this
 subst this
 exact .int _ _
theorem laid_strs {P : Program} {W : World} {n : String} {l : List (List UInt8)} {r : List (String × DataW Unit)} {g N : Nat} {t te : TypeId} (h : laidMet P ((n, .agg (l.map fun m => .lit (.string m))) :: r) W) (hg : P.globalNamed n = some g)
  (ht : (P.globals[g]?).map (·.type) = some t) (hu : P.underlying t = some (.array N te)) (hc : P.cellsOf t = N) (hk : P.underlying te = some .string) (he : P.cellsOf te = 1) (e : Env) :
  ∃ cs el fr, W.heap[g]? = some (.cells cs el fr) ∧ Rl e (l.map fun m => .str (m.map (·.toNat))) cs.toList := by
 obtain ⟨cs, el, fr, fuel, p, h1, h2⟩ := laid_head h hg ht
 obtain ⟨h3, h4, h5⟩ := trod_array hu hc he h2
 refine ⟨cs, el, fr, h1, Rl.of_get (by simp at h4 ⊢; simp at h3; omega) fun i v x hv hx => ?_⟩
 rw [List.getElem?_map, Option.map_eq_some_iff] at hv
 obtain ⟨m, hm, rfl⟩ := hv
 obtain ⟨f, q, h6⟩ := h5 i (.lit (.string m)) x (by rw [List.getElem?_map, hm]; rfl) hx
 obtain ⟨s, h7, h8⟩ := trod_str hk h6
 simp only [List.cons.injEq, and_true] at h7
 subst h7
 refine .str _ _ ?_
 rw [h8, List.map_map]
 have : (UInt8.ofNat ∘ fun (x : UInt8) => x.toNat) = id := by funext y; simp
 rw [this, List.map_id]
end Go.AM
