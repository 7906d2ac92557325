/- Every operation of the abstract machine is sound. -/
import Derived.Test.YtignppgiamochaaGreatDoorA1
import Derived.Laws.Sem
set_option linter.unusedVariables false
set_option linter.unusedSimpArgs false
namespace Go.AM
open Go
structure CtxOk (C : Ctx) (e : Env) : Prop where
 glob : ∀ g b, globId C.gs g = some b → ∃ i, e b = some i ∧ i.blk = g ∧ i.base = 0
theorem CtxOk.mono {C : Ctx} {e e' : Env} (h : CtxOk C e) (he : e.le e') : CtxOk C e' :=
 ⟨fun g b hg => let ⟨i, h1, h2, h3⟩ := h.glob g b hg; ⟨i, he _ _ h1, h2, h3⟩⟩
structure RelT (e : Env) (n : Nat) (t : Tm) (a : Act) : Prop where
 val : ∀ m, m < n → Rv e (t.get (pathOf m)) (a.tmps.getD m undef)
 size : n ≤ a.tmps.size
 small : n ≤ 65536
theorem RelT.mono {e e' : Env} {n : Nat} {t : Tm} {a : Act} (h : RelT e n t a) (he : e.le e') : RelT e' n t a := ⟨fun m hm => (h.val m hm).mono he, h.size, h.small⟩
theorem RelT.put {e : Env} {n : Nat} {t : Tm} {a : Act} (h : RelT e n t a) {d : Nat} (hd : d < n) {v : AV} {x : Value} (hv : Rv e v x) :
  RelT e n (putD (some (pathOf d)) v t) (a.put (some d) x) where
 val m hm := by
  simp only [putD, Act.put, Tm.get_put]
  have hs := h.size
  by_cases hdm : d = m
  ·subst hdm
   have : d < a.tmps.size := by omega
   simpa [Array.getD, this] using hv
  ·have hp : pathOf d ≠ pathOf m := fun e' => hdm (pathOf_inj (by have := h.small; omega) (by have := h.small; omega) e')
   rw [if_neg hp]
   have : (a.tmps.setIfInBounds d x).getD m undef = a.tmps.getD m undef := by
    simp only [Array.getD_eq_getD_getElem?, Array.getElem?_setIfInBounds]
    rw [if_neg hdm]
   rw [this]
   exact h.val m hm
 size := by simp [Act.put, h.size]
 small := h.small
theorem constA_list {e : Env} {n : Nat} (ih : ∀ {v : Value} {x : AV}, constA n v = some x → Rv e x v) :
  ∀ {l : List Value} {r : List AV}, l.mapM (constA n) = some r → Rl e r l := by
 intro l
 induction l with
 | nil => intro r h; simp at h; subst h; exact .nil
 | cons v l ihl =>
  intro r h
  simp only [List.mapM_cons, Option.bind_eq_bind, Option.bind_eq_some_iff] at h
  obtain ⟨x, hx, xs, hxs, h⟩ := h
  cases h
  exact .cons _ _ _ _ (ih hx) (ihl hxs)
theorem constA_sound {e : Env} : ∀ {n : Nat} {v : Value} {x : AV}, constA n v = some x → Rv e x v := by
 intro n
 induction n with
 | zero => intro v x h; simp [constA] at h
 | succ n ih =>
  intro v x h
  unfold constA at h
  split at h
  ·cases h; exact .bool _
  ·cases h; exact .int _ _
  ·cases h
   refine .str _ _ ?_
   rw [List.map_map]
   have : (UInt8.ofNat ∘ fun (x : UInt8) => x.toNat) = id := by funext y; simp
   rw [this, List.map_id]
  ·cases h; exact .pnil
  ·cases h; exact .snil
  ·cases h; exact .mnil
  ·simp only [Option.bind_eq_bind, Option.bind_eq_some_iff] at h
   obtain ⟨a, ha, b, hb, h⟩ := h
   cases h
   exact .fn _ _ _ _ _ (constA_list ih ha) (constA_list ih hb)
  ·cases h; exact .fnil
  ·cases h; exact .inil
  ·simp only [Option.map_eq_some_iff] at h
   obtain ⟨a, ha, rfl⟩ := h
   exact .ifc _ _ _ (ih ha)
  ·simp only [Option.map_eq_some_iff] at h
   obtain ⟨a, ha, rfl⟩ := h
   exact .agg _ _ (constA_list ih ha)
  ·simp only [Option.map_eq_some_iff] at h
   obtain ⟨a, ha, rfl⟩ := h
   exact .tup _ _ (constA_list ih ha)
  ·cases h
section
variable {C : Ctx} {e : Env} {t : Tm} {a : Act}
theorem opd_sound (hC : CtxOk C e) (hT : RelT e C.ntmps t a) {x : Operand} {y : Opd} (h : opd C x = some y) : Rv e (y.ev t) (a.eval x) := by
 unfold opd at h
 split at h
 ·split at h
  ·rename_i n hn; cases h; exact hT.val _ hn
  ·cases h
 ·simp only [Option.map_eq_some_iff] at h
  obtain ⟨v, hv, rfl⟩ := h
  exact constA_sound hv
 ·simp only [Option.map_eq_some_iff] at h
  obtain ⟨b, hb, rfl⟩ := h
  obtain ⟨i, h1, h2, h3⟩ := hC.glob _ _ hb
  have := Rv.ptr (e := e) b 0 i h1
  rw [h2, h3] at this
  exact this
 ·cases h
  exact .fn _ _ _ _ _ .nil .nil
theorem opds_sound (hC : CtxOk C e) (hT : RelT e C.ntmps t a) : ∀ {l : List Operand} {r : List Opd}, l.mapM (opd C) = some r → Rl e (r.map (·.ev t)) (l.map a.eval) := by
 intro l
 induction l with
 | nil => intro r h; simp at h; subst h; exact .nil
 | cons v l ihl =>
  intro r h
  simp only [List.mapM_cons, Option.bind_eq_bind, Option.bind_eq_some_iff] at h
  obtain ⟨x, hx, xs, hxs, h⟩ := h
  cases h
  exact .cons _ _ _ _ (opd_sound hC hT hx) (ihl hxs)
end
def OpOk (P : Program) (e : Env) (h : Heap) (w : World) (s : Sem Next) : ARes → Prop
 | .val v h' => ∃ e' x w', s.run P w = .ok (.value x) w' ∧ Rv e' v x ∧ Post e h w e' h' w'
 | .skip h' => ∃ e' w', s.run P w = .ok .skip w' ∧ Post e h w e' h' w'
 | .enter f args h' => h' = h ∧ ∃ args' : Array Value, Rl e args args'.toList ∧ s.run P w = (callFunc f args').run P w
section
variable {P : Program} {e : Env} {h : Heap} {w : World}
theorem OpOk.same (hH : RelH e h w) {s : Sem Value} {v : AV} {x : Value} (hs : s.run P w = .ok x w) (hv : Rv e v x) : OpOk P e h w (do pure (Next.value (← s))) (.val v h) :=
 ⟨e, x, w, by rw [Xf hs]; rfl, hv, .refl hH⟩
theorem OpOk.val {s : Sem Value} {v : AV} {x : Value} {e' : Env} {h' : Heap} {w' : World} (hs : s.run P w = .ok x w') (hv : Rv e' v x) (hp : Post e h w e' h' w') :
  OpOk P e h w (do pure (Next.value (← s))) (.val v h') :=
 ⟨e', x, w', by rw [Xf hs]; rfl, hv, hp⟩
theorem OpOk.unit {s : Sem Unit} {e' : Env} {h' : Heap} {w' : World} (hs : s.run P w = .ok () w') (hp : Post e h w e' h' w') :
  OpOk P e h w (do s; pure Next.skip) (.skip h') :=
 ⟨e', w', by rw [Xf hs]; rfl, hp⟩
theorem lay_some {C : Ctx} {ty : TypeId} {l : Lay} (hl : lay C ty = some l) : ∃ d i, C.P.underlying ty = some d ∧ C.P.info? ty = some i ∧ l.size = i.size ∧
  l.agg = isAggD d := by
 unfold lay at hl
 split at hl
 ·rename_i d i h1 h2; cases hl; exact ⟨d, i, h1, h2, rfl, rfl⟩
 ·cases hl
theorem Rl.one {e : Env} {v : AV} {xs : List Value} (h : Rl e [v] xs) : ∃ x, xs = [x] ∧ Rv e v x := by
 cases h with
 | cons _ x _ xs h hs => cases hs; exact ⟨x, rfl, h⟩
theorem cells_known {cs : List AV} {arr : Array Value} {base : Nat} (hcs : Rl e cs ((arr.toList.drop base).take cs.length)) : cs = [] ∨ base + cs.length ≤ arr.size := by
 have := hcs.length
 simp at this
 rcases Nat.eq_zero_or_pos cs.length with h0 | h0
 ·exact .inl (List.eq_nil_of_length_eq_zero h0)
 ·exact .inr (by omega)
theorem part_of_cells {cs : List AV} {arr : Array Value} {base o n : Nat} {r : List AV} (hcs : Rl e cs ((arr.toList.drop base).take cs.length)) (hr : takeAt cs o n = some r) :
  Rl e r ((arr.toList.drop (base + o)).take n) ∧ (0 < n → base + o + n ≤ arr.size) := by
 obtain ⟨h1, h2⟩ := takeAt_some hr
 have hle := fun hn => takeAt_le hr hn
 rcases Nat.eq_zero_or_pos n with h0 | h0
 ·subst h0
  have : r = [] := List.eq_nil_of_length_eq_zero h2
  subst this
  exact ⟨by simpa using Rl.nil, by simp⟩
 ·have hk := hle h0
  have hlen := hcs.length
  simp at hlen
  refine ⟨?_, fun _ => by omega⟩
  have := (hcs.drop o).take n
  rw [← h1] at this
  have e1 : (List.drop o (List.take cs.length (arr.toList.drop base))).take n = (arr.toList.drop (base + o)).take n := by
   rw [List.drop_take, List.take_take, List.drop_drop]
   congr 1
   omega
  rwa [e1] at this
theorem run_loadVar {C : Ctx} {ty : TypeId} {l : Lay} (hl : lay C ty = some l) {cs : List AV} {o : Nat} {v : AV} (hv : partA l cs o = some v) {b base : Nat} {arr : Array Value} {el : TypeId} {fr : Nat × Nat}
  (hb : w.heap[b]? = some (.cells arr el fr)) (hcs : Rl e cs ((arr.toList.drop base).take cs.length)) : ∃ x, (loadVar ty ⟨b, base + o, none⟩).run C.P w = .ok x w ∧ Rv e v x := by
 obtain ⟨d, i, h1, h2, h3, h4⟩ := lay_some hl
 unfold loadVar
 rw [Xf (run_isAgg h1 w), ← h4]
 unfold partA at hv
 cases hagg : l.agg with
 | true =>
  rw [hagg] at hv
  simp only [Option.map_eq_some_iff] at hv
  obtain ⟨r, hr, rfl⟩ := hv
  obtain ⟨p1, p2⟩ := part_of_cells hcs hr
  simp only [if_true]
  rw [Xf (run_size h2 w), ← h3]
  rcases Nat.eq_zero_or_pos l.size with h0 | h0
  ·rw [h0] at p1 ⊢
   have : (loadCells ⟨b, base + o, none⟩ 0).run C.P w = .ok #[] w := rfl
   rw [Xf this]
   simp at p1
   exact ⟨_, rfl, .agg _ _ (by simpa using p1)⟩
  ·rw [Xf (run_loadCells hb (p2 h0))]
   exact ⟨_, rfl, .agg _ _ (by simpa using p1)⟩
 | false =>
  rw [hagg] at hv
  dsimp only at hv
  simp only [Bool.false_eq_true, if_false]
  split at hv
  ·rename_i u hr
   cases hv
   obtain ⟨p1, p2⟩ := part_of_cells hcs hr
   have hlt := p2 (by omega)
   obtain ⟨x, hx, hvx⟩ := p1.one
   refine ⟨x, run_load hb ?_, hvx⟩
   have : (arr.toList.drop (base + o))[0]? = some x := by
    have h5 := congrArg (fun l => l[0]?) hx
    simpa using h5
   simpa using this
  ·cases hv
theorem one_of {vs : List AV} {xs : List Value} (h : Rl e vs xs) (ho : vs.all oneA = true) : ∀ x ∈ xs, oneC x = true := by
 induction vs generalizing xs with
 | nil => cases h; intro x hx; cases hx
 | cons v vs ih =>
  cases h with
  | cons _ x _ xs h hs =>
   simp only [List.all_cons, Bool.and_eq_true] at ho
   intro y hy
   rcases List.mem_cons.1 hy with rfl | hy
   ·cases h <;> first | rfl | (have := ho.1; simp [oneA] at this)
   ·exact ih hs ho.2 y hy
theorem over_drop {l : List Value} {p o : Nat} {xs : List Value} (h : p + o ≤ l.length) : (over l (p + o) xs).drop p = over (l.drop p) o xs := by
 unfold over
 rw [List.append_assoc, List.drop_append_of_le_length (by simp; omega), List.drop_take, List.drop_drop, List.append_assoc]
 congr 2
 ·omega
 ·congr 1
  omega
theorem over_take {l : List Value} {o n : Nat} {xs : List Value} (h : o + xs.length ≤ n) (hn : n ≤ l.length) : (over l o xs).take n = over (l.take n) o xs := by
 unfold over
 rw [List.take_append, List.take_take, List.take_of_length_le (l := l.take o ++ xs) (by simp; omega), List.drop_take]
 have : (List.take o l ++ xs).length = o + xs.length := by simp; omega
 rw [this, show min o n = o by omega]
theorem Rl.over {cs vs : List AV} {ys xs : List Value} (h : Rl e cs ys) (hv : Rl e vs xs) (o : Nat) : Rl e (cs.take o ++ vs ++ cs.drop (o + vs.length)) (AM.over ys o xs) := by
 unfold AM.over
 rw [hv.length]
 exact ((h.take o).append hv).append (h.drop _)
theorem store_sound (hH : RelH e h w) {b : Id} {i : Img} (hi : e b = some i) {o : Nat} {vs : List AV} {h' : Heap} (hs : h.store b o vs = some h') {xs : List Value} (hx : Rl e vs xs) :
  ∃ w', (storeCells ⟨i.blk, i.base + o, none⟩ xs).run P w = .ok () w' ∧ Post e h w e h' w' := by
 unfold Heap.store at hs
 split at hs
 ·rename_i sp el z cs hb
  split at hs
  ·rename_i cs' hone hset
   cases hs
   obtain ⟨ob, hob, hrb⟩ := hH.blocks _ _ _ hb hi
   cases hrb with
   | cells _ _ _ _ _ arr el' fr hz hcs hfr hsp =>
    have hxl := hx.length
    have same : vs = [] → cs' = cs → ∃ w', (storeCells ⟨i.blk, i.base + o, none⟩ xs).run P w = .ok () w' ∧ Post e h w e (h.put b (.cells false sp el z cs')) w' := by
     intro h1 h2
     subst h1; subst h2
     cases hx
     refine ⟨w, rfl, ?_⟩
     have hp := post_set hH hb rfl hi (.cells false sp el z cs' arr el' fr hz hcs hfr hsp)
     have hw : ({ w with heap := w.heap.setIfInBounds i.blk (.cells arr el' fr) } : World) = w := setCells_same hob
     rw [hw] at hp
     exact hp
    rcases setAt_some hset with ⟨h1, h2⟩ | ⟨h1, h2⟩
    ·exact same h1 h2
    ·by_cases hemp : cs.length = 0
     ·have hv : vs = [] := List.eq_nil_of_length_eq_zero (by omega)
      refine same hv ?_
      rw [h2, hv]
      have : cs = [] := List.eq_nil_of_length_eq_zero hemp
      simp [this]
     ·have hk : i.base + cs.length ≤ arr.size := by
       rcases cells_known hcs with hk | hk
       ·rw [hk] at hemp; simp at hemp
       ·exact hk
      have hrun := run_storeCells (P := P) (b := i.blk) (o := i.base + o) xs 0 w arr hob (one_of hx hone) (by omega) (hfr rfl)
      refine ⟨_, hrun, ?_⟩
      have hlen : (over arr.toList (i.base + o) xs).length = arr.size := by
       rw [over_length (by simp; omega)]; simp
      refine post_set hH hb rfl hi (.cells false sp el z cs' _ el' fr hz ?_ ?_ ?_)
      ·have hl' : cs'.length = cs.length := by rw [h2]; simp; omega
       rw [hl']
       show Rl e cs' (((over arr.toList (i.base + o) xs)).drop i.base |>.take cs.length)
       rw [over_drop (by simp; omega), over_take (by omega) (by simp; omega), h2]
       exact hcs.over hx o
      ·intro _ k hk'
       refine hfr rfl k ?_
       simp only [List.size_toArray] at hk'
       rw [Nat.add_zero] at hk'
       omega
      ·intro hs'
       have := hsp hs'
       simp only [List.size_toArray]
       rw [Nat.add_zero]
       omega
  ·cases hs
 ·cases hs
end
end Go.AM
namespace Go.AM
open Go
section
variable {e : Env}
theorem Rv.inv_bool {b : Bool} {x : Value} (h : Rv e (.bool b) x) : x = .bool b := by cases h; rfl
theorem Rv.inv_int {k : IntKind} {n : Int} {x : Value} (h : Rv e (.int k n) x) : x = .int k n := by cases h; rfl
theorem Rv.inv_str {l : List Nat} {x : Value} (h : Rv e (.str l) x) : ∃ s : ByteArray, x = .string s ∧ s.data.toList = l.map UInt8.ofNat := by cases h; exact ⟨_, rfl, ‹_›⟩
theorem Rv.inv_ptr {b : Id} {o : Nat} {x : Value} (h : Rv e (.ptr b o) x) : ∃ i, e b = some i ∧ x = .pointer (some ⟨i.blk, i.base + o, none⟩) := by cases h; exact ⟨_, ‹_›, rfl⟩
theorem Rv.inv_pnil {x : Value} (h : Rv e .pnil x) : x = .pointer none := by cases h; rfl
theorem Rv.inv_snil {x : Value} (h : Rv e .snil x) : x = .slice none 0 0 := by cases h; rfl
theorem Rv.inv_sl0 {x : Value} (h : Rv e .sl0 x) : ∃ a, x = .slice (some a) 0 0 := by cases h; exact ⟨_, rfl⟩
theorem Rv.inv_slx {b : Id} {x : Value} (h : Rv e (.slx b) x) : ∃ a c i, x = .slice (some a) 0 c ∧ e b = some i ∧ 0 < i.z ∧
  (c = 0 ∨ (a.block = i.blk ∧ a.spot = none ∧ i.base ≤ a.off ∧ a.off + c * i.z = i.base + i.tot)) := by cases h; exact ⟨_, _, _, rfl, ‹_›, ‹_›, ‹_›⟩
theorem Rv.inv_slE {b : Id} {o len c : Nat} {x : Value} (h : Rv e (.sl b o len (.ex c)) x) : ∃ i, e b = some i ∧ x = .slice (some ⟨i.blk, i.base + o, none⟩) len c := by cases h; exact ⟨_, ‹_›, rfl⟩
theorem Rv.inv_slO {b : Id} {o len d : Nat} {x : Value} (h : Rv e (.sl b o len (.op d)) x) : ∃ i c, e b = some i ∧ x = .slice (some ⟨i.blk, i.base + o, none⟩) len c ∧ 0 < i.z ∧ o + c * i.z = i.tot ∧ len ≤ c := by
 cases h; exact ⟨_, _, ‹_›, rfl, ‹_›, ‹_›, ‹_›⟩
theorem Rv.inv_sl {b : Id} {o len : Nat} {cp : Cap} {x : Value} (h : Rv e (.sl b o len cp) x) : ∃ i c, e b = some i ∧ x = .slice (some ⟨i.blk, i.base + o, none⟩) len c := by
 cases cp with
 | ex n => obtain ⟨i, h1, h2⟩ := h.inv_slE; exact ⟨i, n, h1, h2⟩
 | op n => obtain ⟨i, c, h1, h2, _⟩ := h.inv_slO; exact ⟨i, c, h1, h2⟩
theorem Rv.inv_map {b : Id} {x : Value} (h : Rv e (.map b) x) : ∃ i, e b = some i ∧ x = .map (some i.blk) := by cases h; exact ⟨_, ‹_›, rfl⟩
theorem Rv.inv_mnil {x : Value} (h : Rv e .mnil x) : x = .map none := by cases h; rfl
theorem Rv.inv_fn {f : Fn} {p q : List AV} {x : Value} (h : Rv e (.fn f p q) x) : ∃ p' q', x = .func f p' q' ∧ Rl e p p'.toList ∧ Rl e q q'.toList := by cases h; exact ⟨_, _, rfl, ‹_›, ‹_›⟩
theorem Rv.inv_fnil {x : Value} (h : Rv e .fnil x) : x = .nilFunc := by cases h; rfl
theorem Rv.inv_ifc {t : TypeId} {v : AV} {x : Value} (h : Rv e (.ifc t v) x) : ∃ v', x = .iface t v' ∧ Rv e v v' := by cases h; exact ⟨_, rfl, ‹_›⟩
theorem Rv.inv_inil {x : Value} (h : Rv e .inil x) : x = .nilIface := by cases h; rfl
theorem Rv.inv_agg {cs : List AV} {x : Value} (h : Rv e (.agg cs) x) : ∃ cs', x = .agg cs' ∧ Rl e cs cs'.toList := by cases h; exact ⟨_, rfl, ‹_›⟩
theorem Rv.inv_tup {cs : List AV} {x : Value} (h : Rv e (.tup cs) x) : ∃ cs', x = .tuple cs' ∧ Rl e cs cs'.toList := by cases h; exact ⟨_, rfl, ‹_›⟩
end
variable {C : Ctx} {e : Env} {t : Tm} {a : Act} {h : Heap} {w : World} {o : Oper} {ao : AOp} {r : ARes}
theorem valOf_some {h : Heap} {x : Option AV} {r : ARes} (hr : valOf h x = some r) : ∃ v, x = some v ∧ r = .val v h := by
 unfold valOf at hr
 simp only [Option.map_eq_some_iff] at hr
 obtain ⟨v, h1, h2⟩ := hr
 exact ⟨v, h1, h2.symm⟩
theorem valH_some {x : Option (AV × Heap)} {r : ARes} (hr : valH x = some r) : ∃ v h', x = some (v, h') ∧ r = .val v h' := by
 unfold valH at hr
 simp only [Option.map_eq_some_iff] at hr
 obtain ⟨⟨v, h'⟩, h1, h2⟩ := hr
 exact ⟨v, h', h1, h2.symm⟩
theorem skipH_some {x : Option Heap} {r : ARes} (hr : skipH x = some r) : ∃ h', x = some h' ∧ r = .skip h' := by
 unfold skipH at hr
 simp only [Option.map_eq_some_iff] at hr
 obtain ⟨h', h1, h2⟩ := hr
 exact ⟨h', h1, h2.symm⟩
structure At (C : Ctx) (e : Env) (t : Tm) (a : Act) (h : Heap) (w : World) : Prop where
 ctx : CtxOk C e
 tm : RelT e C.ntmps t a
 hp : RelH e h w
theorem At.ev (A : At C e t a h w) {x : Operand} {y : Opd} (hy : opd C x = some y) : Rv e (y.ev t) (a.eval x) := opd_sound A.ctx A.tm hy
theorem At.evs (A : At C e t a h w) {l : List Operand} {r : List Opd} (hy : l.mapM (opd C) = some r) : Rl e (r.map (·.ev t)) (l.map a.eval) := opds_sound A.ctx A.tm hy
theorem ok_load {ty : TypeId} {x : Operand} (A : At C e t a h w) (hop : o.op = .load ty x) (hc : cop C o = some ao) (hr : aop ao t h = some r) : OpOk C.P e h w (execOp a.eval o) r := by
 unfold cop at hc
 rw [hop] at hc
 simp only [Option.bind_eq_bind, Option.bind_eq_some_iff, Option.some.injEq] at hc
 obtain ⟨l, hl, y, hy, rfl⟩ := hc
 have hx := A.ev hy
 simp only [aop] at hr
 unfold execOp
 rw [hop]
 split at hr
 ·rename_i b off hptr
  split at hr
  ·rename_i cs hb
   obtain ⟨v, hv, rfl⟩ := valOf_some hr
   rw [hptr] at hx
   obtain ⟨i, hi, hxe⟩ := hx.inv_ptr
   obtain ⟨ob, hob, hrb⟩ := A.hp.blocks _ _ _ hb hi
   cases hrb with
   | cells _ _ _ _ _ arr el fr hz hcs hfr hsp =>
    obtain ⟨xv, hrun, hvx⟩ := run_loadVar (C := C) hl hv hob hcs
    refine OpOk.same A.hp ?_ hvx
    simp only [Instr.loadAt, hxe, Instr.sureAddr]
    rw [Xf (run_pure _ _)]
    exact hrun
  ·cases hr
 ·cases hr
theorem ok_store {ty : TypeId} {x y : Operand} (A : At C e t a h w) (hop : o.op = .store ty x y) (hc : cop C o = some ao) (hr : aop ao t h = some r) : OpOk C.P e h w (execOp a.eval o) r := by
 unfold cop at hc
 rw [hop] at hc
 simp only [Option.bind_eq_bind, Option.bind_eq_some_iff, Option.some.injEq] at hc
 obtain ⟨l, hl, x', hx', y', hy', rfl⟩ := hc
 have hx := A.ev hx'
 have hy := A.ev hy'
 simp only [aop] at hr
 unfold execOp
 rw [hop]
 split at hr
 ·rename_i b off hptr
  rw [hptr] at hx
  obtain ⟨i, hi, hxe⟩ := hx.inv_ptr
  cases hbeq : Nat.beq ((y'.ev t).cells).length l.size with
  | false => rw [hbeq] at hr; cases hr
  | true =>
   rw [hbeq] at hr
   have hlen := Nat.eq_of_beq_eq_true hbeq
   obtain ⟨h', hs, rfl⟩ := skipH_some hr
   obtain ⟨w', hrun, hp⟩ := store_sound (P := C.P) A.hp hi hs hy.cells
   obtain ⟨d, ti, h1, h2, h3, h4⟩ := lay_some hl
   refine OpOk.unit ?_ hp
   simp only [Instr.storeAt, hxe, Instr.sureAddr]
   rw [Xf (run_pure _ _)]
   unfold storeVar
   rw [Xf (run_size h2 w)]
   have hsz : (a.eval y).cells.size = ti.size := by
    have := hy.cells.length
    simp at this
    omega
   simp only [hsz, ne_eq, not_true_eq_false, if_false]
   exact hrun
 ·cases hr
theorem new_cells (hH : RelH e h w) (elem z : Nat) {vs : List AV} {xs : Array Value} (hv : Rl e vs xs.toList) (z' : Nat) (hz : z' = z) :
  Post e h w (e.set h.next ⟨w.heap.size, 0, z', 0⟩) (h.new (.cells false false elem z vs)) { w with heap := w.heap.push (.cells xs elem) } := by
 refine post_new hH _ _ 0 z' 0 (.cells _ _ _ _ _ _ _ _ hz ?_ ?_ ?_)
 ·have := hv.length
  have h2 : (xs.toList.drop 0).take vs.length = xs.toList := by rw [List.drop_zero, this, List.take_length]
  show Rl _ vs ((xs.toList.drop 0).take vs.length)
  rw [h2]
  exact hv.mono (hH.set_le _)
 ·intro _ k _ hk; simp at hk
 ·intro hh; cases hh
theorem set_next (e : Env) (h : Heap) (i : Img) : (e.set h.next i) h.next = some i := by simp [Env.set]
theorem zero_some {C : Ctx} {ty : TypeId} {v : AV} (hz : zero C ty = some v) (e : Env) : ∃ i x, C.P.info? ty = some i ∧ i.zero = some x ∧ Rv e v x := by
 unfold zero at hz
 simp only [Option.bind_eq_some_iff] at hz
 obtain ⟨x, ⟨i, hi, hx⟩, hv⟩ := hz
 exact ⟨i, x, hi, hx, constA_sound hv⟩
theorem ok_alloc {ty : TypeId} (A : At C e t a h w) (hop : o.op = .alloc ty) (hc : cop C o = some ao) (hr : aop ao t h = some r) : OpOk C.P e h w (execOp a.eval o) r := by
 unfold cop at hc
 rw [hop] at hc
 simp only [Option.map_eq_some_iff] at hc
 obtain ⟨z, hz, rfl⟩ := hc
 obtain ⟨i, x, h1, h2, h3⟩ := zero_some hz e
 simp only [aop, Option.some.injEq] at hr
 subst hr
 unfold execOp
 rw [hop]
 have hp := new_cells A.hp ty z.cells.length h3.cells z.cells.length rfl
 refine OpOk.val ?_ (.ptr _ 0 _ (set_next _ _ _)) hp
 unfold Instr.alloc
 rw [Xf (run_zero h1 h2 w)]
 rfl
theorem ok_box {ty : TypeId} {x : Operand} (A : At C e t a h w) (hop : o.op = .box ty x) (hc : cop C o = some ao) (hr : aop ao t h = some r) : OpOk C.P e h w (execOp a.eval o) r := by
 unfold cop at hc
 rw [hop] at hc
 simp only [Option.map_eq_some_iff] at hc
 obtain ⟨y, hy, rfl⟩ := hc
 have hx := A.ev hy
 simp only [aop, Option.some.injEq] at hr
 subst hr
 unfold execOp
 rw [hop]
 have hp := new_cells A.hp ty (y.ev t).cells.length hx.cells (y.ev t).cells.length rfl
 exact OpOk.val rfl (.ptr _ 0 _ (set_next _ _ _)) hp
theorem ok_move {x : Operand} (A : At C e t a h w) (hop : o.op = .move x ∨ o.op = .assign x) (hc : cop C o = some ao) (hr : aop ao t h = some r) : OpOk C.P e h w (execOp a.eval o) r := by
 unfold cop at hc
 have hc' : (opd C x).map .mv = some ao := by rcases hop with hop | hop <;> (rw [hop] at hc; exact hc)
 simp only [Option.map_eq_some_iff] at hc'
 obtain ⟨y, hy, rfl⟩ := hc'
 have hx := A.ev hy
 simp only [aop, Option.some.injEq] at hr
 subst hr
 have : execOp a.eval o = pure (.value (a.eval x)) := by unfold execOp; rcases hop with hop | hop <;> rw [hop]
 rw [this]
 exact ⟨e, _, w, rfl, hx, .refl A.hp⟩
theorem ok_pick {c x y : Operand} (A : At C e t a h w) (hop : o.op = .pick c x y) (hc : cop C o = some ao) (hr : aop ao t h = some r) : OpOk C.P e h w (execOp a.eval o) r := by
 unfold cop at hc
 rw [hop] at hc
 simp only [Option.bind_eq_bind, Option.bind_eq_some_iff, Option.some.injEq] at hc
 obtain ⟨c', hc', x', hx', y', hy', rfl⟩ := hc
 have h1 := A.ev hc'
 have h2 := A.ev hx'
 have h3 := A.ev hy'
 simp only [aop] at hr
 unfold execOp
 rw [hop]
 split at hr
 ·rename_i hb
  cases hr
  rw [hb] at h1
  exact ⟨e, _, w, by simp only [h1.inv_bool, asBool]; rfl, h2, .refl A.hp⟩
 ·rename_i hb
  cases hr
  rw [hb] at h1
  exact ⟨e, _, w, by simp only [h1.inv_bool, asBool]; rfl, h3, .refl A.hp⟩
 ·cases hr
theorem ok_nilCheck {x : Operand} (A : At C e t a h w) (hop : o.op = .nilCheck x) (hc : cop C o = some ao) (hr : aop ao t h = some r) : OpOk C.P e h w (execOp a.eval o) r := by
 unfold cop at hc
 rw [hop] at hc
 simp only [Option.map_eq_some_iff] at hc
 obtain ⟨y, hy, rfl⟩ := hc
 have hx := A.ev hy
 simp only [aop] at hr
 unfold execOp
 rw [hop]
 dsimp only
 generalize y.ev t = v at hx hr
 generalize a.eval x = u at hx ⊢
 have key : ∀ r', some (ARes.val v h) = some r' → r' = r → (pure (Next.value u) : Sem Next) = pure (Next.value u) → OpOk C.P e h w (pure (Next.value u)) r := by
  intro r' h1 h2 _
  cases h1; subst h2
  exact ⟨e, u, w, rfl, hx, .refl A.hp⟩
 cases hx with
 | pnil => cases hr
 | inil => cases hr
 | fnil => cases hr
 | fn f p q p' q' hp hq => cases f <;> first | (cases hr; done) | exact key _ hr.symm.symm rfl rfl | exact key _ rfl (Option.some.inj hr) rfl
 | _ => exact key _ rfl (Option.some.inj hr) rfl
theorem ok_mkIface {ty : TypeId} {x : Operand} (A : At C e t a h w) (hop : o.op = .makeInterface ty x) (hc : cop C o = some ao) (hr : aop ao t h = some r) : OpOk C.P e h w (execOp a.eval o) r := by
 unfold cop at hc
 rw [hop] at hc
 dsimp only at hc
 split at hc
 ·cases hc
 ·rename_i d hne hd
  simp only [Option.map_eq_some_iff] at hc
  obtain ⟨y, hy, rfl⟩ := hc
  have hx := A.ev hy
  simp only [aop, Option.some.injEq] at hr
  subst hr
  unfold execOp
  rw [hop]
  refine OpOk.same A.hp ?_ (.ifc _ _ _ hx)
  unfold Instr.makeInterface
  rw [Xf (Xn hd w)]
  cases d <;> first | rfl | exact (hne _ rfl).elim
 ·cases hc
theorem ok_mkFn {f : Fn} {p q : Array Operand} (A : At C e t a h w) (hop : o.op = .makeFunc f p q) (hc : cop C o = some ao) (hr : aop ao t h = some r) : OpOk C.P e h w (execOp a.eval o) r := by
 unfold cop at hc
 rw [hop] at hc
 simp only [Option.bind_eq_bind, Option.bind_eq_some_iff, Option.some.injEq] at hc
 obtain ⟨p', hp', q', hq', rfl⟩ := hc
 simp only [aop, Option.some.injEq] at hr
 subst hr
 unfold execOp
 rw [hop]
 refine OpOk.same A.hp rfl (.fn _ _ _ _ _ ?_ ?_)
 ·simpa using A.evs hp'
 ·simpa using A.evs hq'
theorem ok_fieldAddr {ty : TypeId} {x : Operand} {f : Nat} (A : At C e t a h w) (hop : o.op = .fieldAddr ty x f) (hc : cop C o = some ao) (hr : aop ao t h = some r) : OpOk C.P e h w (execOp a.eval o) r := by
 unfold cop at hc
 rw [hop] at hc
 dsimp only at hc
 split at hc
 ·rename_i fs hd
  simp only [Option.bind_eq_bind, Option.bind_eq_some_iff] at hc
  obtain ⟨fl, hfl, hc⟩ := hc
  split at hc
  ·simp at hc
  ·rename_i hz
   simp only [Option.bind_eq_some_iff, Option.some.injEq] at hc
   obtain ⟨y, hy, rfl⟩ := hc
   have hx := A.ev hy
   simp only [aop] at hr
   unfold execOp
   rw [hop]
   split at hr
   ·rename_i b off hptr
    cases hr
    rw [hptr] at hx
    obtain ⟨i, hi, hxe⟩ := hx.inv_ptr
    refine OpOk.same (v := .ptr b (off + fl.offset)) A.hp ?_ (.ptr b (off + fl.offset) i hi)
    unfold Instr.fieldAt
    rw [Xf (Xn hd w)]
    simp only [hfl, hxe, Instr.sureAddr]
    rw [Xf (run_pure _ _)]
    unfold fieldPlace
    have hinfo : ∃ ti, C.P.info? fl.type = some ti ∧ ti.size ≠ 0 := by
     unfold Program.cellsOf at hz
     cases h' : C.P.info? fl.type with
     | none => rw [h'] at hz; simp at hz
     | some ti => rw [h'] at hz; exact ⟨ti, rfl, by simpa using hz⟩
    obtain ⟨ti, hti, hnz⟩ := hinfo
    have : (do
      let __do_lift ← sizeOf fl.type
      if __do_lift = 0 then partAt ⟨i.blk, i.base + off, none⟩ fl.offset fl.byteOffset else pure ((⟨i.blk, i.base + off, none⟩ : Addr).add fl.offset)).run C.P w = .ok ⟨i.blk, i.base + (off + fl.offset), none⟩ w := by
     rw [Xf (run_size hti w), if_neg hnz, Addr.add_at, Nat.add_assoc]
     rfl
    rw [Xf this]
    rfl
   ·cases hr
 ·cases hc
end Go.AM
namespace Go.AM
open Go
theorem maxNat_bits (k : IntKind) : Xo k + 1 = 2 ^ (k.bits - (if k.signed then 1 else 0)) := by cases k <;> decide
theorem wrap_nonneg (k : IntKind) (m : Nat) (h : m ≤ Xo k) : k.wrap (Int.ofNat m) = Int.ofNat m := by
 cases k <;> simp [IntKind.wrap, IntKind.bits, IntKind.signed, Xo] at h ⊢ <;> omega
theorem wrap_neg (k : IntKind) (m : Nat) (hs : k.signed = true) (h : m ≤ Xo k) : k.wrap (Int.negSucc m) = Int.negSucc m := by
 have e : Int.negSucc m = -(m : Int) - 1 := by omega
 rw [e]
 have key : ∀ (n : Int) (M H : Int), n = -(m : Int) - 1 → M = 2 * H → (m : Int) < H → (if decide (n % M ≥ H) = true then n % M - M else n % M) = n := by
  intro n M H h1 h2 h3
  have h4 : n % M = n + M := by
   rw [← Int.add_emod_right, Int.emod_eq_of_lt (by omega) (by omega)]
  rw [h4, if_pos (by simp; omega)]
  omega
 cases k with
 | i8 => exact key _ (2 ^ 8) (2 ^ 7) rfl (by decide) (by simp only [Xo] at h; omega)
 | i16 => exact key _ (2 ^ 16) (2 ^ 15) rfl (by decide) (by simp only [Xo] at h; omega)
 | i32 => exact key _ (2 ^ 32) (2 ^ 31) rfl (by decide) (by simp only [Xo] at h; omega)
 | i64 => exact key _ (2 ^ 64) (2 ^ 63) rfl (by decide) (by simp only [Xo] at h; omega)
 | _ => cases hs
theorem norm_eq (k : IntKind) (z : Int) : norm k z = k.wrap z := by
 unfold norm
 cases z with
 | ofNat m =>
  dsimp only
  cases hb : Nat.ble m (Xo k) with
  | false => rfl
  | true => exact (wrap_nonneg k m (Nat.le_of_ble_eq_true hb)).symm
 | negSucc m =>
  dsimp only
  cases hb : (k.signed && Nat.ble m (Xo k)) with
  | false => rfl
  | true =>
   simp only [Bool.and_eq_true] at hb
   exact (wrap_neg k m hb.1 (Nat.le_of_ble_eq_true hb.2)).symm
theorem addI_eq (x y : Int) : addI x y = x + y := by
 cases x <;> cases y <;> rfl
theorem ble_false {a b : Nat} (h : Nat.ble a b = false) : b < a := by
 rcases Nat.lt_or_ge b a with h' | h'
 ·exact h'
 ·rw [Nat.ble_eq_true_of_le h'] at h; cases h
theorem subI_eq (x y : Int) : subI x y = x - y := by
 cases x with
 | ofNat a =>
  cases y with
  | ofNat b =>
   unfold subI
   dsimp only
   cases hb : Nat.ble b a with
   | true =>
    have := Nat.le_of_ble_eq_true hb
    show Int.ofNat (a - b) = Int.ofNat a - Int.ofNat b
    simp only [Int.ofNat_eq_natCast]; omega
   | false =>
    have := ble_false hb
    show Int.negSucc (b - a - 1) = Int.ofNat a - Int.ofNat b
    simp only [Int.ofNat_eq_natCast]; omega
  | negSucc b => rfl
 | negSucc a => cases y <;> rfl
theorem eqI_eq (x y : Int) : eqI x y = (x == y) := by
 cases x with
 | ofNat a =>
  cases y with
  | ofNat b =>
   show Nat.beq a b = _
   cases h : Nat.beq a b with
   | true => have := Nat.eq_of_beq_eq_true h; subst this; simp
   | false => have := Nat.ne_of_beq_eq_false h; symm; simp; omega
  | negSucc b => show false = _; symm; simp
 | negSucc a =>
  cases y with
  | ofNat b => show false = _; symm; simp
  | negSucc b =>
   show Nat.beq a b = _
   cases h : Nat.beq a b with
   | true => have := Nat.eq_of_beq_eq_true h; subst this; simp
   | false => have := Nat.ne_of_beq_eq_false h; symm; simp; omega
theorem leI_eq (x y : Int) : leI x y = decide (x ≤ y) := by
 cases x with
 | ofNat a =>
  cases y with
  | ofNat b =>
   show Nat.ble a b = _
   cases h : Nat.ble a b with
   | true => have := Nat.le_of_ble_eq_true h; symm; simp; omega
   | false => have := ble_false h; symm; simp; omega
  | negSucc b => show false = _; symm; simp; omega
 | negSucc a =>
  cases y with
  | ofNat b => show true = _; symm; simp; omega
  | negSucc b =>
   show Nat.ble b a = _
   cases h : Nat.ble b a with
   | true => have := Nat.le_of_ble_eq_true h; symm; simp; omega
   | false => have := ble_false h; symm; simp; omega
theorem lt_bits {k : IntKind} {a : Nat} (h : a ≤ Xo k) : a < 2 ^ k.bits := by cases k <;> simp [Xo, IntKind.bits] at h ⊢ <;> omega
theorem ofInt_toNat {k : IntKind} {a : Nat} (h : a ≤ Xo k) : (BitVec.ofInt k.bits (Int.ofNat a)).toNat = a := by
 have := lt_bits h
 rw [show (Int.ofNat a) = ((a : Nat) : Int) from rfl, BitVec.ofInt_natCast]
 simp [Nat.mod_eq_of_lt this]
theorem wrap_small {k : IntKind} {a : Nat} (h : a ≤ Xo k) : k.wrap (a : Int) = Int.ofNat a := by
 rw [← norm_eq]
 unfold norm
 show (bif Nat.ble a (Xo k) then _ else _) = _
 rw [Nat.ble_eq_true_of_le h]; rfl
theorem pow_of_maxNat {k : IntKind} {a : Nat} (h : a ≤ Xo k) : a < 2 ^ (k.bits - (if k.signed then 1 else 0)) := by rw [← maxNat_bits]; omega
theorem bits_and {k : IntKind} {a b : Nat} (ha : a ≤ Xo k) (hb : b ≤ Xo k) : k.wrap ((BitVec.ofInt k.bits (Int.ofNat a) &&& BitVec.ofInt k.bits (Int.ofNat b)).toNat : Int) = Int.ofNat (Nat.land a b) := by
 rw [BitVec.toNat_and, ofInt_toNat ha, ofInt_toNat hb]
 exact wrap_small (Nat.le_trans Nat.and_le_left ha)
theorem bits_or {k : IntKind} {a b : Nat} (ha : a ≤ Xo k) (hb : b ≤ Xo k) : k.wrap ((BitVec.ofInt k.bits (Int.ofNat a) ||| BitVec.ofInt k.bits (Int.ofNat b)).toNat : Int) = Int.ofNat (Nat.lor a b) := by
 rw [BitVec.toNat_or, ofInt_toNat ha, ofInt_toNat hb]
 refine wrap_small ?_
 have := Nat.or_lt_two_pow (pow_of_maxNat ha) (pow_of_maxNat hb)
 rw [← maxNat_bits] at this
 omega
theorem bits_xor {k : IntKind} {a b : Nat} (ha : a ≤ Xo k) (hb : b ≤ Xo k) : k.wrap ((BitVec.ofInt k.bits (Int.ofNat a) ^^^ BitVec.ofInt k.bits (Int.ofNat b)).toNat : Int) = Int.ofNat (Nat.xor a b) := by
 rw [BitVec.toNat_xor, ofInt_toNat ha, ofInt_toNat hb]
 refine wrap_small ?_
 have := Nat.xor_lt_two_pow (pow_of_maxNat ha) (pow_of_maxNat hb)
 rw [← maxNat_bits] at this
 omega
theorem bits_andNot {k : IntKind} {a b : Nat} (ha : a ≤ Xo k) (hb : b ≤ Xo k) : k.wrap ((BitVec.ofInt k.bits (Int.ofNat a) &&& ~~~ (BitVec.ofInt k.bits (Int.ofNat b))).toNat : Int) = Int.ofNat (Nat.xor a (Nat.land a b)) := by
 have key : (BitVec.ofInt k.bits (Int.ofNat a) &&& ~~~ (BitVec.ofInt k.bits (Int.ofNat b))).toNat = a ^^^ (a &&& b) := by
  have h1 : (BitVec.ofInt k.bits (Int.ofNat a) &&& ~~~ (BitVec.ofInt k.bits (Int.ofNat b))) = (BitVec.ofInt k.bits (Int.ofNat a) ^^^ (BitVec.ofInt k.bits (Int.ofNat a) &&& BitVec.ofInt k.bits (Int.ofNat b))) := by
   apply BitVec.eq_of_getLsbD_eq
   intro i hi
   simp only [BitVec.getLsbD_and, BitVec.getLsbD_not, BitVec.getLsbD_xor, hi, decide_true, Bool.true_and]
   cases (BitVec.ofInt k.bits (Int.ofNat a)).getLsbD i <;> cases (BitVec.ofInt k.bits (Int.ofNat b)).getLsbD i <;> rfl
  rw [h1, BitVec.toNat_xor, BitVec.toNat_and, ofInt_toNat ha, ofInt_toNat hb]
 rw [key]
 refine wrap_small ?_
 have h2 : a &&& b ≤ Xo k := Nat.le_trans Nat.and_le_left ha
 have := Nat.xor_lt_two_pow (pow_of_maxNat ha) (pow_of_maxNat h2)
 rw [← maxNat_bits] at this
 omega
theorem ofNat_inj {a b : Nat} (ha : a < 256) (hb : b < 256) (h : UInt8.ofNat a = UInt8.ofNat b) : a = b := by
 have := congrArg UInt8.toNat h
 simp at this
 omega
theorem strEq_sound {a b : List Nat} {r : Bool} (h : strEq a b = some r) : r = (a.map UInt8.ofNat == b.map UInt8.ofNat) := by
 induction a generalizing b with
 | nil => cases b <;> simp [strEq] at h <;> subst h <;> rfl
 | cons x a ih =>
  cases b with
  | nil => simp [strEq] at h; subst h; rfl
  | cons y b =>
   simp only [strEq] at h
   cases hxy : Nat.beq x y with
   | true =>
    have := Nat.eq_of_beq_eq_true hxy
    subst this
    rw [hxy] at h
    have := ih h
    simp [this]
   | false =>
    rw [hxy] at h
    simp only [cond_false] at h
    cases hl : (Nat.blt x 256 && Nat.blt y 256) with
    | false => rw [hl] at h; cases h
    | true =>
     rw [hl] at h
     simp only [cond_true, Option.some.injEq] at h
     subst h
     simp only [Bool.and_eq_true] at hl
     have h1 : x < 256 := Nat.le_of_ble_eq_true hl.1
     have h2 : y < 256 := Nat.le_of_ble_eq_true hl.2
     have hne := Nat.ne_of_beq_eq_false hxy
     symm
     simp only [List.map_cons, beq_eq_false_iff_ne, ne_eq, List.cons.injEq, not_and]
     intro he
     exact absurd (ofNat_inj h1 h2 he) hne
theorem strLt_sound {a b : List Nat} {r : Bool} (h : strLt a b = some r) : r = Op.bytesLess (a.map UInt8.ofNat) (b.map UInt8.ofNat) := by
 induction a generalizing b with
 | nil => cases b <;> simp [strLt] at h <;> subst h <;> rfl
 | cons x a ih =>
  cases b with
  | nil => simp [strLt] at h; subst h; rfl
  | cons y b =>
   simp only [strLt] at h
   simp only [List.map_cons, Op.bytesLess]
   cases hxy : Nat.beq x y with
   | true =>
    have := Nat.eq_of_beq_eq_true hxy
    subst this
    rw [hxy] at h
    have := ih h
    simp [this, UInt8.lt_irrefl]
   | false =>
    rw [hxy] at h
    simp only [cond_false] at h
    cases hl : (Nat.blt x 256 && Nat.blt y 256) with
    | false => rw [hl] at h; cases h
    | true =>
     rw [hl] at h
     simp only [cond_true, Option.some.injEq] at h
     subst h
     simp only [Bool.and_eq_true] at hl
     have h1 : x < 256 := Nat.le_of_ble_eq_true hl.1
     have h2 : y < 256 := Nat.le_of_ble_eq_true hl.2
     have hne := Nat.ne_of_beq_eq_false hxy
     have e1 : (UInt8.ofNat x == UInt8.ofNat y) = false := by
      simp only [beq_eq_false_iff_ne, ne_eq]
      intro he; exact hne (ofNat_inj h1 h2 he)
     have e2 : decide (UInt8.ofNat x < UInt8.ofNat y) = Nat.blt x y := by
      have : (UInt8.ofNat x < UInt8.ofNat y) ↔ x < y := by
       rw [UInt8.lt_iff_toNat_lt]; simp; omega
      rw [decide_eq_decide.2 this]
      cases hb : Nat.blt x y with
      | true => exact decide_eq_true (Nat.le_of_ble_eq_true hb)
      | false => exact decide_eq_false (by have := ble_false hb; omega)
     rw [e1, e2]
     simp
theorem toList_data (s : ByteArray) : s.toList = s.data.toList := by
 have loop : ∀ (n i : Nat) (r : List UInt8), n = s.size - i → ByteArray.toList.loop s i r = r.reverse ++ s.data.toList.drop i := by
  intro n
  induction n with
  | zero =>
   intro i r hn
   unfold ByteArray.toList.loop
   have : ¬ i < s.size := by omega
   rw [if_neg this]
   have : s.data.toList.drop i = [] := List.drop_eq_nil_of_le (by simp; show s.size ≤ i; omega)
   simp [this]
  | succ n ih =>
   intro i r hn
   unfold ByteArray.toList.loop
   have hlt : i < s.size := by omega
   rw [if_pos hlt, ih (i + 1) _ (by omega)]
   have hlt' : i < s.data.toList.length := by simpa using hlt
   rw [List.drop_eq_getElem_cons hlt']
   have : s.get! i = s.data.toList[i] := by
    cases s with | mk d => simp [ByteArray.get!]; simp at hlt'; simp [hlt']
   simp [this]
 unfold ByteArray.toList
 simpa using loop s.size 0 [] (by simp)
end Go.AM
namespace Go.AM
open Go
variable {C : Ctx} {e : Env} {t : Tm} {a : Act} {h : Heap} {w : World} {o : Oper} {ao : AOp} {r : ARes}
theorem run_part {ty : TypeId} {l : Lay} (hl : lay C ty = some l) {cs : List AV} {cs' : Array Value} (hcs : Rl e cs cs'.toList) {off : Nat} {v : AV} (hv : partA l cs off = some v) (w : World) :
  ∃ x, (part ty cs' off).run C.P w = .ok x w ∧ Rv e v x := by
 obtain ⟨d, i, h1, h2, h3, h4⟩ := lay_some hl
 unfold part
 rw [Xf (run_isAgg h1 w), ← h4]
 unfold partA at hv
 cases hagg : l.agg with
 | true =>
  rw [hagg] at hv
  simp only [Option.map_eq_some_iff] at hv
  obtain ⟨r, hr, rfl⟩ := hv
  obtain ⟨p1, p2⟩ := takeAt_some hr
  simp only [if_true]
  rw [Xf (run_size h2 w), ← h3]
  refine ⟨_, rfl, .agg _ _ ?_⟩
  have := (hcs.drop off).take l.size
  rw [← p1] at this
  simpa [Array.toList_extract, List.extract_eq_take_drop] using this
 | false =>
  rw [hagg] at hv
  dsimp only at hv
  simp only [Bool.false_eq_true, if_false]
  split at hv
  ·rename_i u hr
   cases hv
   obtain ⟨p1, p2⟩ := takeAt_some hr
   have hg : cs[off]? = some v := by
    have := congrArg (fun l => l[0]?) p1
    simpa using this.symm
   obtain ⟨x, hx, hvx⟩ := hcs.get hg
   have : cs'[off]? = some x := by simpa using hx
   rw [this]
   exact ⟨x, rfl, hvx⟩
  ·cases hv
theorem ok_field {ty : TypeId} {x : Operand} {f : Nat} (A : At C e t a h w) (hop : o.op = .field ty x f) (hc : cop C o = some ao) (hr : aop ao t h = some r) : OpOk C.P e h w (execOp a.eval o) r := by
 unfold cop at hc
 rw [hop] at hc
 dsimp only at hc
 split at hc
 ·rename_i fs hd
  simp only [Option.bind_eq_bind, Option.bind_eq_some_iff, Option.some.injEq] at hc
  obtain ⟨fl, hfl, l, hl, y, hy, rfl⟩ := hc
  have hx := A.ev hy
  simp only [aop] at hr
  unfold execOp
  rw [hop]
  split at hr
  ·rename_i cs hag
   obtain ⟨v, hv, rfl⟩ := valOf_some hr
   rw [hag] at hx
   obtain ⟨cs', hxe, hcs⟩ := hx.inv_agg
   obtain ⟨xv, hrun, hvx⟩ := run_part hl hcs hv w
   refine OpOk.same A.hp ?_ hvx
   unfold Instr.field
   rw [Xf (Xn hd w)]
   simp only [hfl, hxe, asAgg]
   rw [Xf (run_pure _ _)]
   exact hrun
  ·cases hr
 ·cases hc
theorem natOf_some {v : AV} {n : Nat} (h : natOf v = some n) : ∃ k, v = .int k (.ofNat n) := by
 unfold natOf at h
 split at h
 ·cases h; exact ⟨_, rfl⟩
 ·cases h
theorem sz_some {ty : TypeId} {n : Nat} (h : sz C ty = some n) : ∃ i, C.P.info? ty = some i ∧ i.size = n := by
 unfold sz at h
 simp only [Option.map_eq_some_iff] at h
 exact h
theorem asIntOf_int (k : IntKind) (n : Int) (w : World) : (asIntOf (.int k n)).run C.P w = .ok (k, n) w := rfl
theorem ok_indexArr {ty : TypeId} {x i : Operand} (A : At C e t a h w) (hop : o.op = .indexAddr ty x i) (hc : cop C o = some ao) (hr : aop ao t h = some r) : OpOk C.P e h w (execOp a.eval o) r := by
 unfold cop at hc
 rw [hop] at hc
 dsimp only at hc
 unfold execOp
 rw [hop]
 dsimp only
 split at hc
 ·rename_i n el hd
  simp only [Option.bind_eq_bind, Option.bind_eq_some_iff, Option.some.injEq] at hc
  obtain ⟨z, hz, x', hx', i', hi', rfl⟩ := hc
  have hx := A.ev hx'
  have hi := A.ev hi'
  obtain ⟨ti, h1, h2⟩ := sz_some hz
  simp only [aop] at hr
  split at hr
  ·rename_i b off k hptr hk
   rw [hptr] at hx
   obtain ⟨im, him, hxe⟩ := hx.inv_ptr
   obtain ⟨kd, hik⟩ := natOf_some hk
   rw [hik] at hi
   cases hb : Nat.blt k n with
   | false => rw [hb] at hr; cases hr
   | true =>
    have hlt : k < n := Nat.le_of_ble_eq_true hb
    rw [hb] at hr
    cases hr
    refine OpOk.same (v := .ptr b (off + k * z)) A.hp ?_ (.ptr b (off + k * z) im him)
    unfold Instr.indexAt
    rw [hi.inv_int, Xf (asIntOf_int _ _ _)]
    dsimp only
    rw [Xf (Xn hd w)]
    dsimp only
    rw [hxe, Xf (rfl : (Instr.sureAddr (.pointer (some ⟨im.blk, im.base + off, none⟩))).run C.P w = .ok _ w), Xf (run_pure _ w), Xf (Xn hd w)]
    dsimp only
    have hcnd : (0 ≤ (Int.ofNat k) ∧ (Int.ofNat k) < (n : Int)) := ⟨Int.natCast_nonneg k, by simpa using hlt⟩
    rw [if_pos hcnd, Xf (run_size h1 w), Addr.add_at, h2]
    simp only [Int.ofNat_eq_natCast, Int.toNat_natCast, Nat.add_assoc]
    rfl
  ·cases hr
 ·rename_i el hd
  simp only [Option.bind_eq_bind, Option.bind_eq_some_iff, Option.some.injEq] at hc
  obtain ⟨z, hz, x', hx', i', hi', rfl⟩ := hc
  have hx := A.ev hx'
  have hi := A.ev hi'
  obtain ⟨ti, h1, h2⟩ := sz_some hz
  simp only [aop] at hr
  split at hr
  ·rename_i b off len cp k hptr hk
   rw [hptr] at hx
   obtain ⟨im, c, him, hxe⟩ := hx.inv_sl
   obtain ⟨kd, hik⟩ := natOf_some hk
   rw [hik] at hi
   cases hb : Nat.blt k len with
   | false => rw [hb] at hr; cases hr
   | true =>
    have hlt : k < len := Nat.le_of_ble_eq_true hb
    rw [hb] at hr
    cases hr
    refine OpOk.same (v := .ptr b (off + k * z)) A.hp ?_ (.ptr b (off + k * z) im him)
    unfold Instr.indexAt
    rw [hi.inv_int, Xf (asIntOf_int _ _ _)]
    dsimp only
    rw [Xf (Xn hd w)]
    rw [hxe]
    rw [Xf (run_pure _ w), Xf (Xn hd w)]
    dsimp only
    have hcnd : (0 ≤ (Int.ofNat k) ∧ (Int.ofNat k) < (len : Int)) := ⟨Int.natCast_nonneg k, by simpa using hlt⟩
    rw [if_pos hcnd, Xf (run_size h1 w), Addr.add_at, h2]
    simp only [Int.ofNat_eq_natCast, Int.toNat_natCast, Nat.add_assoc]
    rfl
  ·cases hr
 ·cases hc
theorem ok_index {ty : TypeId} {x i : Operand} (A : At C e t a h w) (hop : o.op = .index ty x i) (hc : cop C o = some ao) (hr : aop ao t h = some r) : OpOk C.P e h w (execOp a.eval o) r := by
 unfold cop at hc
 rw [hop] at hc
 dsimp only at hc
 unfold execOp
 rw [hop]
 dsimp only
 split at hc
 ·rename_i n el hd
  simp only [Option.bind_eq_bind, Option.bind_eq_some_iff, Option.some.injEq] at hc
  obtain ⟨l, hl, x', hx', i', hi', rfl⟩ := hc
  have hx := A.ev hx'
  have hi := A.ev hi'
  simp only [aop] at hr
  split at hr
  ·rename_i cs k hag hk
   rw [hag] at hx
   obtain ⟨cs', hxe, hcs⟩ := hx.inv_agg
   obtain ⟨kd, hik⟩ := natOf_some hk
   rw [hik] at hi
   cases hb : Nat.blt k n with
   | false => rw [hb] at hr; cases hr
   | true =>
    have hlt : k < n := Nat.le_of_ble_eq_true hb
    rw [hb] at hr
    obtain ⟨v, hv, rfl⟩ := valOf_some hr
    obtain ⟨xv, hrun, hvx⟩ := run_part hl hcs hv w
    obtain ⟨d, ti, g1, g2, g3, g4⟩ := lay_some hl
    refine OpOk.same A.hp ?_ hvx
    unfold Instr.index
    rw [hi.inv_int, Xf (asIntOf_int _ _ _), Xf (Xn hd w), hxe]
    dsimp only
    have hcnd : (0 ≤ (Int.ofNat k) ∧ (Int.ofNat k) < (n : Int)) := ⟨Int.natCast_nonneg k, by simpa using hlt⟩
    rw [if_pos hcnd, Xf (run_size g2 w), ← g3]
    exact hrun
  ·cases hr
 ·rename_i hd
  simp only [Option.bind_eq_bind, Option.bind_eq_some_iff, Option.some.injEq] at hc
  obtain ⟨x', hx', i', hi', rfl⟩ := hc
  have hx := A.ev hx'
  have hi := A.ev hi'
  simp only [aop] at hr
  split at hr
  ·rename_i s k hag hk
   rw [hag] at hx
   obtain ⟨s', hxe, hs⟩ := hx.inv_str
   obtain ⟨kd, hik⟩ := natOf_some hk
   rw [hik] at hi
   split at hr
   ·rename_i c rest hdrop
    cases hb : Nat.blt c 256 with
    | false => rw [hb] at hr; cases hr
    | true =>
     have hlt : c < 256 := Nat.le_of_ble_eq_true hb
     rw [hb] at hr
     cases hr
     refine OpOk.same A.hp ?_ (.int _ _)
     unfold Instr.index
     rw [hi.inv_int, Xf (asIntOf_int _ _ _), Xf (Xn hd w), hxe]
     dsimp only
     have hk' : s[k]? = some c := by
      have := congrArg (fun l => l[0]?) hdrop
      simpa using this
     have hd2 : s'.data.toList[k]? = some (UInt8.ofNat c) := by rw [hs]; simp [hk']
     have hsz : k < s'.size := by
      have h3 := (List.getElem?_eq_some_iff.1 hd2).1
      simpa using h3
     have hg : s'[k]? = some (UInt8.ofNat c) := by
      rw [getElem?_pos s' k hsz]
      have h3 := (List.getElem?_eq_some_iff.1 hd2).2
      congr 1
     have h0 : (0 : Int) ≤ Int.ofNat k := Int.natCast_nonneg k
     rw [if_pos h0]
     simp only [Int.ofNat_eq_natCast, Int.toNat_natCast, hg]
     have : ((UInt8.ofNat c).toNat : Int) = (c : Int) := by simp; omega
     rw [this]
     rfl
   ·cases hr
  ·cases hr
 ·cases hc
theorem ok_extract {x : Operand} {i : Nat} (A : At C e t a h w) (hop : o.op = .extract x i) (hc : cop C o = some ao) (hr : aop ao t h = some r) : OpOk C.P e h w (execOp a.eval o) r := by
 unfold cop at hc
 rw [hop] at hc
 simp only [Option.map_eq_some_iff] at hc
 obtain ⟨y, hy, rfl⟩ := hc
 have hx := A.ev hy
 simp only [aop] at hr
 unfold execOp
 rw [hop]
 split at hr
 ·rename_i vs htup
  rw [htup] at hx
  obtain ⟨cs', hxe, hcs⟩ := hx.inv_tup
  split at hr
  ·rename_i v rest hdrop
   cases hr
   have hk' : vs[i]? = some v := by
    have := congrArg (fun l => l[0]?) hdrop
    simpa using this
   obtain ⟨xv, hxv, hvx⟩ := hcs.get hk'
   have : cs'[i]? = some xv := by simpa using hxv
   refine OpOk.same A.hp ?_ hvx
   unfold Instr.extract
   rw [hxe]
   dsimp only
   rw [this]
   rfl
  ·cases hr
 ·cases hr
theorem binI_sound {op : BinOp} {k : IntKind} {x y : Int} {v : AV} (hv : binI op k x y = some v) (w : World) (hne : op ≠ .shl ∧ op ≠ .shr) :
  ∃ u, (match op with
   | .add | .sub | .mul => Op.intArith op k x y
   | .quo | .rem => Op.intDiv op k x y
   | .and | .or | .xor | .andNot => Op.intBits op k x y
   | _ => Op.intCmp op x y : Sem Value).run C.P w = .ok u w ∧ Rv e v u := by
 cases op <;> simp only [binI, boolV, Option.some.injEq] at hv
 case add => subst hv; exact ⟨_, rfl, by rw [norm_eq, addI_eq]; exact .int _ _⟩
 case sub => subst hv; exact ⟨_, rfl, by rw [norm_eq, subI_eq]; exact .int _ _⟩
 case mul => subst hv; exact ⟨_, rfl, by rw [norm_eq]; exact .int _ _⟩
 case quo =>
  split at hv
  ·cases hv
  ·rename_i h0; cases hv
   refine ⟨_, ?_, by rw [norm_eq]; exact .int _ _⟩
   simp only [Op.intDiv, if_neg h0]; rfl
 case rem =>
  split at hv
  ·cases hv
  ·rename_i h0; cases hv
   refine ⟨_, ?_, .int _ _⟩
   simp only [Op.intDiv, if_neg h0]; rfl
 case and =>
  split at hv
  ·rename_i a b
   cases hb : (Nat.ble a (Xo k) && Nat.ble b (Xo k)) with
   | false => rw [hb] at hv; cases hv
   | true =>
    rw [hb] at hv; cases hv
    simp only [Bool.and_eq_true] at hb
    refine ⟨_, rfl, ?_⟩
    rw [bits_and (Nat.le_of_ble_eq_true hb.1) (Nat.le_of_ble_eq_true hb.2)]
    exact .int _ _
  ·cases hv
 case or =>
  split at hv
  ·rename_i a b
   cases hb : (Nat.ble a (Xo k) && Nat.ble b (Xo k)) with
   | false => rw [hb] at hv; cases hv
   | true =>
    rw [hb] at hv; cases hv
    simp only [Bool.and_eq_true] at hb
    refine ⟨_, rfl, ?_⟩
    rw [bits_or (Nat.le_of_ble_eq_true hb.1) (Nat.le_of_ble_eq_true hb.2)]
    exact .int _ _
  ·cases hv
 case xor =>
  split at hv
  ·rename_i a b
   cases hb : (Nat.ble a (Xo k) && Nat.ble b (Xo k)) with
   | false => rw [hb] at hv; cases hv
   | true =>
    rw [hb] at hv; cases hv
    simp only [Bool.and_eq_true] at hb
    refine ⟨_, rfl, ?_⟩
    rw [bits_xor (Nat.le_of_ble_eq_true hb.1) (Nat.le_of_ble_eq_true hb.2)]
    exact .int _ _
  ·cases hv
 case andNot =>
  split at hv
  ·rename_i a b
   cases hb : (Nat.ble a (Xo k) && Nat.ble b (Xo k)) with
   | false => rw [hb] at hv; cases hv
   | true =>
    rw [hb] at hv; cases hv
    simp only [Bool.and_eq_true] at hb
    refine ⟨_, rfl, ?_⟩
    rw [bits_andNot (Nat.le_of_ble_eq_true hb.1) (Nat.le_of_ble_eq_true hb.2)]
    exact .int _ _
  ·cases hv
 case shl => cases hv
 case shr => cases hv
 case eql => subst hv; exact ⟨_, rfl, by rw [eqI_eq]; exact .bool _⟩
 case neq => subst hv; exact ⟨_, rfl, by rw [eqI_eq]; exact .bool _⟩
 case lss => subst hv; exact ⟨.bool (decide (x < y)), rfl, by
  have : (!(leI y x)) = decide (x < y) := by rw [leI_eq, ← decide_not]; exact decide_eq_decide.2 (by omega)
  rw [this]; exact .bool _⟩
 case leq => subst hv; exact ⟨_, rfl, by rw [leI_eq]; exact .bool _⟩
 case gtr => subst hv; exact ⟨.bool (decide (x > y)), rfl, by
  have : (!(leI x y)) = decide (x > y) := by rw [leI_eq, ← decide_not]; exact decide_eq_decide.2 (by omega)
  rw [this]; exact .bool _⟩
 case geq => subst hv; exact ⟨_, rfl, by rw [leI_eq]; exact .bool _⟩
theorem shiftI_sound {op : BinOp} {k yk : IntKind} {x y : Int} {v : AV} (hv : shiftI op k x y = some v) (w : World) : ∃ u, (Op.shift op k x yk y).run C.P w = .ok u w ∧ Rv e v u := by
 unfold shiftI at hv
 split at hv
 ·rename_i a n
  have h0 : ¬ (Int.ofNat n < 0) := by simp
  dsimp only at hv
  unfold Op.shift
  rw [if_neg h0]
  dsimp only
  split at hv
  ·cases hv
   refine ⟨_, rfl, ?_⟩
   have : (Int.ofNat a * 2 ^ (min (Int.ofNat n).toNat k.bits) : Int) = Int.ofNat (a * 2 ^ Nat.min n k.bits) := by
    simp
    try rfl
   rw [this, ← norm_eq]
   exact .int _ _
  ·cases hv
   refine ⟨_, rfl, ?_⟩
   have : ((Int.ofNat a).fdiv (2 ^ (min (Int.ofNat n).toNat k.bits)) : Int) = Int.ofNat (a / 2 ^ Nat.min n k.bits) := by
    have e1 : ((2 : Int) ^ (min (Int.ofNat n).toNat k.bits)) = ((2 ^ Nat.min n k.bits : Nat) : Int) := by
     simp
     try rfl
    rw [e1, show (Int.ofNat a) = ((a : Nat) : Int) from rfl, Int.fdiv_eq_ediv_of_nonneg _ (Int.natCast_nonneg _)]
    exact (Int.natCast_ediv a (2 ^ Nat.min n k.bits)).symm
   rw [this]
   exact .int _ _
  ·cases hv
 ·cases hv
theorem binS_sound {op : BinOp} {x y : List Nat} {x' y' : ByteArray} {v : AV} (hx : x'.data.toList = x.map UInt8.ofNat) (hy : y'.data.toList = y.map UInt8.ofNat) (hv : binS op x y = some v) (w : World) :
  ∃ u, (Op.stringOp op x' y').run C.P w = .ok u w ∧ Rv e v u := by
 unfold Op.stringOp
 rw [toList_data, toList_data, hx, hy]
 have eqb : ∀ {b}, strEq x y = some b → (List.map UInt8.ofNat x == List.map UInt8.ofNat y) = b := fun h => (strEq_sound h).symm
 have swap : ∀ p q : List UInt8, (Op.bytesLess p q || p == q) = !(Op.bytesLess q p) := by
  intro p
  induction p with
  | nil => intro q; cases q <;> rfl
  | cons c p ih =>
   intro q
   cases q with
   | nil => rfl
   | cons d q =>
    simp only [Op.bytesLess]
    rcases Nat.lt_trichotomy c.toNat d.toNat with h | h | h
    ·have h1 : c < d := h
     have h2 : ¬ d < c := by rw [UInt8.lt_iff_toNat_lt]; omega
     have h3 : (d == c) = false := by simp; intro e'; subst e'; omega
     simp [h1, h2, h3]
    ·have : c = d := UInt8.toNat_inj.1 h
     subst this
     have := ih q
     simp [UInt8.lt_irrefl]
     simpa using this
    ·have h1 : d < c := h
     have h2 : ¬ c < d := by rw [UInt8.lt_iff_toNat_lt]; omega
     have h3 : (c == d) = false := by simp; intro e'; subst e'; omega
     have h4 : (c :: p == d :: q) = false := by simp; intro e'; subst e'; omega
     simp [h1, h2, h3, h4]
 cases op <;> simp only [binS, Option.map_eq_some_iff] at hv
 case add =>
  cases hb : Nat.ble (x.length + y.length) 1000000000 with
  | false => rw [hb] at hv; cases hv
  | true =>
   rw [hb] at hv; cases hv
   have hle := Nat.le_of_ble_eq_true hb
   have l1 : x'.size = x.length := by have := congrArg List.length hx; simpa using this
   have l2 : y'.size = y.length := by have := congrArg List.length hy; simpa using this
   have hno : ¬ (((x'.size + y'.size : Nat) : Int) > IntKind.i64.max) := by
    have : IntKind.i64.max = 9223372036854775807 := by decide
    rw [this]; omega
   dsimp only
   rw [if_neg hno]
   refine ⟨_, rfl, .str _ _ ?_⟩
   rw [ByteArray.data_append, Array.toList_append, hx, hy, List.map_append]
 case eql => obtain ⟨b, hb, rfl⟩ := hv; exact ⟨_, rfl, by rw [eqb hb]; exact .bool _⟩
 case neq => obtain ⟨b, hb, rfl⟩ := hv; exact ⟨_, rfl, by rw [eqb hb]; exact .bool _⟩
 case lss => obtain ⟨b, hb, rfl⟩ := hv; exact ⟨_, rfl, by rw [← strLt_sound hb]; exact .bool _⟩
 case leq => obtain ⟨b, hb, rfl⟩ := hv; exact ⟨_, rfl, by rw [swap, ← strLt_sound hb]; exact .bool _⟩
 case gtr => obtain ⟨b, hb, rfl⟩ := hv; exact ⟨_, rfl, by rw [swap, ← strLt_sound hb, Bool.not_not]; exact .bool _⟩
 case geq => obtain ⟨b, hb, rfl⟩ := hv; exact ⟨_, rfl, by rw [← strLt_sound hb]; exact .bool _⟩
 all_goals cases hv
end Go.AM
namespace Go.AM
open Go
variable {C : Ctx} {e : Env} {t : Tm} {a : Act} {h : Heap} {w : World} {o : Oper} {ao : AOp} {r : ARes}
def skDesc : SK → TypeDesc → Prop
 | .b, d => d = .bool
 | .i, d => ∃ k, d = .int k
 | .s, d => d = .string
theorem skOf_some {ty : TypeId} {k : SK} (hk : skOf C ty = some k) : ∃ d, C.P.underlying ty = some d ∧ skDesc k d := by
 unfold skOf at hk
 split at hk
 ·rename_i hd; cases hk; exact ⟨_, hd, rfl⟩
 ·rename_i k' hd; cases hk; exact ⟨_, hd, k', rfl⟩
 ·rename_i hd; cases hk; exact ⟨_, hd, rfl⟩
 ·cases hk
theorem beq_bytes {x y : ByteArray} {l m : List Nat} (hx : x.data.toList = l.map UInt8.ofNat) (hy : y.data.toList = m.map UInt8.ofNat) {b : Bool} (hb : strEq l m = some b) : (x == y) = b := by
 rw [strEq_sound hb, ← hx, ← hy]
 have : (x == y) = (x.data == y.data) := by cases x; cases y; rfl
 rw [this, Bool.eq_iff_iff]
 simp only [beq_iff_eq]
 constructor
 ·intro h; rw [h]
 ·intro h; exact Array.toList_inj.1 h
theorem eqScalar_sound {k : SK} {x y : AV} {x' y' : Value} {b : Bool} (hx : Rv e x x') (hy : Rv e y y') (hb : XH k x y = some b) {d : Nat} {ty : TypeId} {ds : TypeDesc} (hd : C.P.underlying ty = some ds) (hk : skDesc k ds) (w : World) :
  (Op.equalIn (d + 1) ty x' y').run C.P w = .ok b w := by
 unfold Op.equalIn
 cases k with
 | b =>
  simp only [skDesc] at hk; subst hk
  unfold XH at hb
  dsimp only at hb
  split at hb
  ·cases hb
   rw [Xf (Xn hd w), hx.inv_bool, hy.inv_bool]; rfl
  ·cases hb
 | i =>
  obtain ⟨kk, rfl⟩ := hk
  unfold XH at hb
  dsimp only at hb
  split at hb
  ·rename_i k1 a1 k2 a2
   split at hb
   ·rename_i hkk
    cases hb
    subst hkk
    rw [Xf (Xn hd w), hx.inv_int, hy.inv_int]
    dsimp only
    rw [if_pos rfl, eqI_eq]; rfl
   ·cases hb
  ·cases hb
 | s =>
  simp only [skDesc] at hk; subst hk
  unfold XH at hb
  dsimp only at hb
  split at hb
  ·obtain ⟨s1, h1, h1'⟩ := hx.inv_str
   obtain ⟨s2, h2, h2'⟩ := hy.inv_str
   rw [Xf (Xn hd w), h1, h2]
   dsimp only
   rw [beq_bytes h1' h2' hb]; rfl
  ·cases hb
theorem sameNow_sound {k : SK} {x y : AV} {x' y' : Value} {b : Bool} (hx : Rv e x x') (hy : Rv e y y') (hb : XH k x y = some b) {ds : TypeDesc} (hk : skDesc k ds) : Instr.sameNow ds x' y' = some b := by
 cases k with
 | b =>
  simp only [skDesc] at hk; subst hk
  unfold XH at hb
  dsimp only at hb
  split at hb
  ·cases hb
   rw [hx.inv_bool, hy.inv_bool]; rfl
  ·cases hb
 | i =>
  obtain ⟨kk, rfl⟩ := hk
  unfold XH at hb
  dsimp only at hb
  split at hb
  ·rename_i k1 a1 k2 a2
   split at hb
   ·rename_i hkk
    cases hb
    subst hkk
    rw [hx.inv_int, hy.inv_int]
    unfold Instr.sameNow
    dsimp only
    rw [if_pos rfl, eqI_eq]
   ·cases hb
  ·cases hb
 | s =>
  simp only [skDesc] at hk; subst hk
  unfold XH at hb
  dsimp only at hb
  split at hb
  ·obtain ⟨s1, h1, h1'⟩ := hx.inv_str
   obtain ⟨s2, h2, h2'⟩ := hy.inv_str
   rw [h1, h2]
   unfold Instr.sameNow
   dsimp only
   rw [beq_bytes h1' h2' hb]
  ·cases hb
theorem sameBits_scalar {k : SK} {x y : AV} {x' y' : Value} (hx : Rv e x x') (hy : Rv e y y') (hb : XH k x y = some true) (n : Nat) : Instr.sameBits n y' x' = true ∧ Instr.sameBits n x' y' = true := by
 cases k with
 | b =>
  unfold XH at hb
  dsimp only at hb
  split at hb
  ·rename_i b1 b2
   simp at hb; subst hb
   rw [hx.inv_bool, hy.inv_bool]
   cases n <;> simp [Instr.sameBits]
  ·cases hb
 | i =>
  unfold XH at hb
  dsimp only at hb
  split at hb
  ·rename_i k1 a1 k2 a2
   split at hb
   ·rename_i hkk
    subst hkk
    rw [eqI_eq] at hb
    simp at hb; subst hb
    rw [hx.inv_int, hy.inv_int]
    cases n <;> simp [Instr.sameBits]
   ·cases hb
  ·cases hb
 | s =>
  unfold XH at hb
  dsimp only at hb
  split at hb
  ·obtain ⟨s1, h1, h1'⟩ := hx.inv_str
   obtain ⟨s2, h2, h2'⟩ := hy.inv_str
   have h3 := beq_bytes h1' h2' hb
   have h4 : (s1.data == s2.data) = true := by rw [← h3]; cases s1; cases s2; rfl
   have : s1 = s2 := by cases s1; cases s2; simp at h4; rw [h4]
   subst this
   rw [h1, h2]
   cases n <;> exact ⟨h3, h3⟩
  ·cases hb
theorem list_forIn_yield {α β : Type} (l : List α) (f : α → β → Sem (ForInStep β)) (b : β) : (forIn l b f : Sem β) = (match l with
  | [] => pure b
  | a :: l => f a b >>= fun r => (match r with
   | .done b => pure b
   | .yield b => forIn l b f)) := by
 cases l with
 | nil => rfl
 | cons a l =>
  rw [List.forIn_cons]
  congr 1
theorem eqFields {d : Nat} (w : World) : ∀ {ks : List SK} {fs : List Field} {off : Nat} {xs ys : List AV} {xs' ys' : Array Value} {b : Bool}, flatFields C fs off = some ks →
  Rl e xs (xs'.toList.drop off) → Rl e ys (ys'.toList.drop off) → eqCells ks xs ys = some b →
  (forIn fs ((none, ()) : Option Bool × PUnit) (fun f _ => do
    if f.name ≠ "_" then
     if !(← Op.equalIn (d + 1) f.type (← part f.type xs' f.offset) (← part f.type ys' f.offset)) then pure (.done (some false, ())) else pure (.yield (none, ()))
    else pure (.yield (none, ()))) : Sem (Option Bool × PUnit)).run C.P w = .ok (if b then (none, ()) else (some false, ())) w := by
 intro ks
 induction ks with
 | nil =>
  intro fs off xs ys xs' ys' b hf hx hy hb
  cases fs with
  | nil =>
   cases xs <;> cases ys <;> simp [eqCells] at hb
   subst hb; rfl
  | cons f fs =>
   simp only [flatFields] at hf
   split at hf
   ·split at hf <;> cases hf
   ·cases hf
 | cons k ks ih =>
  intro fs off xs ys xs' ys' b hf hx hy hb
  cases fs with
  | nil => simp [flatFields] at hf
  | cons f fs =>
   simp only [flatFields] at hf
   split at hf
   ·rename_i hcnd
    simp only [Bool.and_eq_true, bne_iff_ne, ne_eq, beq_iff_eq] at hcnd
    obtain ⟨hname, hoff⟩ := hcnd
    split at hf
    ·rename_i k1 ks1 hk1 hks1
     cases hf
     obtain ⟨ds, hds, hkd⟩ := skOf_some hk1
     cases xs with
     | nil => simp [eqCells] at hb
     | cons x xs =>
      cases ys with
      | nil => simp [eqCells] at hb
      | cons y ys =>
       have hx' := hx
       have hy' := hy
       obtain ⟨xv, hxv, hrx⟩ := hx.get (n := 0) (by simp : (x :: xs)[0]? = some x)
       obtain ⟨yv, hyv, hry⟩ := hy.get (n := 0) (by simp : (y :: ys)[0]? = some y)
       have gx : xs'[off]? = some xv := by simpa using hxv
       have gy : ys'[off]? = some yv := by simpa using hyv
       have nag : isAggD ds = false := by
        cases k with
        | b => simp only [skDesc] at hkd; subst hkd; rfl
        | i => obtain ⟨_, rfl⟩ := hkd; rfl
        | s => simp only [skDesc] at hkd; subst hkd; rfl
       have px : ∀ w, (part f.type xs' f.offset).run C.P w = .ok xv w := by
        intro w
        unfold part
        rw [Xf (run_isAgg hds w), nag, if_neg (by simp), hoff, gx]; rfl
       have py : ∀ w, (part f.type ys' f.offset).run C.P w = .ok yv w := by
        intro w
        unfold part
        rw [Xf (run_isAgg hds w), nag, if_neg (by simp), hoff, gy]; rfl
       simp only [eqCells] at hb
       rw [list_forIn_yield]
       dsimp only
       have hn : f.name ≠ "_" := hname
       cases hs : XH k x y with
       | none => rw [hs] at hb; simp at hb
       | some bb =>
        have heq := eqScalar_sound (d := d) hrx hry hs hds hkd w
        have body : (do
          if f.name ≠ "_" then
           if !(← Op.equalIn (d + 1) f.type (← part f.type xs' f.offset) (← part f.type ys' f.offset)) then pure (.done (some false, ())) else pure (.yield (none, ()))
          else pure (.yield (none, ())) : Sem (ForInStep (Option Bool × PUnit))).run C.P w = .ok (if bb then .yield (none, ()) else .done (some false, ())) w := by
         rw [if_pos hn, Xf (px w), Xf (py w), Xf heq]
         cases bb <;> rfl
        rw [Xf body]
        cases bb with
        | false =>
         rw [hs] at hb
         simp at hb; subst hb
         rfl
        | true =>
         rw [hs] at hb
         simp only at hb
         refine ih hks1 ?_ ?_ hb
         ·have := hx'.drop 1
          simpa [List.drop_drop] using this
         ·have := hy'.drop 1
          simpa [List.drop_drop] using this
    ·cases hf
   ·cases hf
theorem eqStruct {ks : List SK} {fs : Array Field} {ty : TypeId} {xs ys : List AV} {xs' ys' : Array Value} {b : Bool} {d : Nat} (hd : C.P.underlying ty = some (.struct fs)) (hst : C.P.stoodInHeld ty = false)
  (hf : flatFields C fs.toList 0 = some ks) (hx : Rl e xs xs'.toList) (hy : Rl e ys ys'.toList) (hb : eqCells ks xs ys = some b) (w : World) :
  (Op.equalIn (d + 2) ty (.agg xs') (.agg ys')).run C.P w = .ok b w := by
 unfold Op.equalIn
 rw [Xf (Xn hd w)]
 dsimp only
 rw [Xf (run_program w)]
 simp only [hst, Bool.false_eq_true, if_false]
 have := eqFields (d := d) w hf (by simpa using hx) (by simpa using hy) hb
 rw [← Array.forIn_toList, Xf this]
 cases b <;> rfl
theorem eqElems {d n : Nat} {k : SK} {el : TypeId} {ds : TypeDesc} (hds : C.P.underlying el = some ds) (hkd : skDesc k ds) (w : World) {xs' ys' : Array Value} : ∀ {m i : Nat} {xs ys : List AV} {b : Bool}, i + m = n →
  Rl e xs (xs'.toList.drop i) → Rl e ys (ys'.toList.drop i) → eqCells (List.replicate m k) xs ys = some b →
  (forIn (List.range' i m) ((none, ()) : Option Bool × PUnit) (fun i _ => do
    if !(← Op.equalIn (d + 1) el (← part el xs' (i * 1)) (← part el ys' (i * 1))) then pure (.done (some false, ())) else pure (.yield (none, ()))) : Sem (Option Bool × PUnit)).run C.P w = .ok (if b then (none, ()) else (some false, ())) w := by
 intro m
 induction m with
 | zero =>
  intro i xs ys b hi hx hy hb
  cases xs <;> cases ys <;> simp [eqCells] at hb
  subst hb; rfl
 | succ m ih =>
  intro i xs ys b hi hx hy hb
  rw [List.replicate_succ] at hb
  cases xs with
  | nil => simp [eqCells] at hb
  | cons x xs =>
   cases ys with
   | nil => simp [eqCells] at hb
   | cons y ys =>
    have hx' := hx
    have hy' := hy
    obtain ⟨xv, hxv, hrx⟩ := hx.get (n := 0) (by simp : (x :: xs)[0]? = some x)
    obtain ⟨yv, hyv, hry⟩ := hy.get (n := 0) (by simp : (y :: ys)[0]? = some y)
    have gx : xs'[i]? = some xv := by simpa using hxv
    have gy : ys'[i]? = some yv := by simpa using hyv
    have nag : isAggD ds = false := by
     cases k with
     | b => simp only [skDesc] at hkd; subst hkd; rfl
     | i => obtain ⟨_, rfl⟩ := hkd; rfl
     | s => simp only [skDesc] at hkd; subst hkd; rfl
    have px : ∀ w, (part el xs' (i * 1)).run C.P w = .ok xv w := by
     intro w
     unfold part
     rw [Xf (run_isAgg hds w), nag, if_neg (by simp), Nat.mul_one, gx]; rfl
    have py : ∀ w, (part el ys' (i * 1)).run C.P w = .ok yv w := by
     intro w
     unfold part
     rw [Xf (run_isAgg hds w), nag, if_neg (by simp), Nat.mul_one, gy]; rfl
    simp only [eqCells] at hb
    rw [List.range'_succ, list_forIn_yield]
    dsimp only
    cases hs : XH k x y with
    | none => rw [hs] at hb; simp at hb
    | some bb =>
     have heq := eqScalar_sound (d := d) hrx hry hs hds hkd w
     have body : (do
       if !(← Op.equalIn (d + 1) el (← part el xs' (i * 1)) (← part el ys' (i * 1))) then pure (.done (some false, ())) else pure (.yield (none, ())) : Sem (ForInStep (Option Bool × PUnit))).run C.P w = .ok (if bb then .yield (none, ()) else .done (some false, ())) w := by
      rw [Xf (px w), Xf (py w), Xf heq]
      cases bb <;> rfl
     rw [Xf body]
     cases bb with
     | false =>
      rw [hs] at hb
      simp at hb; subst hb
      rfl
     | true =>
      rw [hs] at hb
      simp only at hb
      refine ih (by omega) ?_ ?_ hb
      ·have := hx'.drop 1
       simpa [List.drop_drop] using this
      ·have := hy'.drop 1
       simpa [List.drop_drop] using this
theorem eqArray {n : Nat} {k : SK} {el ty : TypeId} {ds : TypeDesc} {xs ys : List AV} {xs' ys' : Array Value} {b : Bool} {d : Nat} (hd : C.P.underlying ty = some (.array n el)) (hds : C.P.underlying el = some ds) (hkd : skDesc k ds)
  {i : TypeInfo} (hi : C.P.info? el = some i) (hs : i.size = 1) (hx : Rl e xs xs'.toList) (hy : Rl e ys ys'.toList) (hb : eqCells (List.replicate n k) xs ys = some b) (w : World) :
  (Op.equalIn (d + 2) ty (.agg xs') (.agg ys')).run C.P w = .ok b w := by
 unfold Op.equalIn
 rw [Xf (Xn hd w)]
 dsimp only
 rw [Xf (run_size hi w), hs]
 have := eqElems (d := d) (n := n) (i := 0) hds hkd w (by omega) (by simpa using hx) (by simpa using hy) hb
 rw [Std.Legacy.Range.forIn_eq_forIn_range']
 simp only [Std.Legacy.Range.size, Nat.sub_zero, Nat.add_sub_cancel, Nat.div_one]
 rw [Xf this]
 cases b <;> rfl
end Go.AM
namespace Go.AM
open Go
variable {C : Ctx} {e : Env} {t : Tm} {a : Act} {h : Heap} {w : World} {o : Oper} {ao : AOp} {r : ARes}
def EqSays (P : Program) (ty : TypeId) (x' y' : Value) (b : Bool) (w : World) : Prop :=
 (binOp .eql ty x' y').run P w = .ok (.bool b) w ∧ (binOp .neq ty x' y').run P w = .ok (.bool (!b)) w
theorem EqSays.of_equal {P : Program} {ty : TypeId} {x' y' : Value} {b : Bool} {w : World} (h : (Op.equal ty x' y').run P w = .ok b w)
  (h1 : binOp .eql ty x' y' = (do pure (.bool (← Op.equal ty x' y')))) (h2 : binOp .neq ty x' y' = (do pure (.bool (!(← Op.equal ty x' y'))))) : EqSays P ty x' y' b w := by
 refine ⟨?_, ?_⟩
 ·rw [h1, Xf h]; rfl
 ·rw [h2, Xf h]; rfl
theorem eqScalar_says {k : SK} {x y : AV} {x' y' : Value} {b : Bool} (hx : Rv e x x') (hy : Rv e y y') (hb : XH k x y = some b) {ty : TypeId} {ds : TypeDesc} (hd : C.P.underlying ty = some ds) (hk : skDesc k ds) (w : World) :
  EqSays C.P ty x' y' b w := by
 have heq := eqScalar_sound (C := C) (d := 9999) hx hy hb hd hk w
 cases k with
 | b =>
  unfold XH at hb
  dsimp only at hb
  split at hb
  ·rw [hx.inv_bool, hy.inv_bool] at heq ⊢
   exact .of_equal heq rfl rfl
  ·cases hb
 | i =>
  unfold XH at hb
  dsimp only at hb
  split at hb
  ·split at hb
   ·rename_i hkk
    cases hb; subst hkk
    rw [hx.inv_int, hy.inv_int, eqI_eq]
    refine ⟨?_, ?_⟩
    ·simp only [binOp, ne_eq, not_true_eq_false, if_false]; rfl
    ·simp only [binOp, ne_eq, not_true_eq_false, if_false]; rfl
   ·cases hb
  ·cases hb
 | s =>
  unfold XH at hb
  dsimp only at hb
  split at hb
  ·obtain ⟨s1, h1, h1'⟩ := hx.inv_str
   obtain ⟨s2, h2, h2'⟩ := hy.inv_str
   rw [h1, h2]
   have h3 := strEq_sound hb
   refine ⟨?_, ?_⟩
   ·simp only [binOp, Op.stringOp]
    rw [toList_data, toList_data, h1', h2', h3]; rfl
   ·simp only [binOp, Op.stringOp]
    rw [toList_data, toList_data, h1', h2', h3]; rfl
  ·cases hb
theorem kindOf_scalars {ty : TypeId} {k : SK} (hk : kindOf ty (scalars C) = some k) : skOf C ty = some k ∧ ((C.P.info? ty).map (·.comparable)) = some true := by
 have key : ∀ l : List Nat, kindOf ty (l.filterMap fun t => if ((C.P.info? t).map (·.comparable)).getD false then (skOf C t).map fun k => (t, k) else none) = some k →
   skOf C ty = some k ∧ ((C.P.info? ty).map (·.comparable)) = some true := by
  intro l
  induction l with
  | nil => intro h; simp [kindOf] at h
  | cons u l ih =>
   intro h
   rw [List.filterMap_cons] at h
   cases hc : ((C.P.info? u).map (·.comparable)).getD false with
   | false => rw [hc] at h; exact ih h
   | true =>
    rw [hc] at h
    simp only [if_true] at h
    cases hs : skOf C u with
    | none => rw [hs] at h; exact ih h
    | some k' =>
     rw [hs] at h
     simp only [Option.map_some, kindOf] at h
     cases hb : Nat.beq u ty with
     | false => rw [hb] at h; exact ih h
     | true =>
      rw [hb] at h
      have := Nat.eq_of_beq_eq_true hb
      subst this
      simp only [cond_true, Option.some.injEq] at h
      subst h
      refine ⟨hs, ?_⟩
      cases hi : (C.P.info? u).map (·.comparable) with
      | none => rw [hi] at hc; simp at hc
      | some bb => rw [hi] at hc; simp at hc; rw [hc]
 exact key _ hk
theorem comparable_info {ty : TypeId} (h : ((C.P.info? ty).map (·.comparable)) = some true) : ∃ i, C.P.info? ty = some i ∧ i.comparable = true := by
 simp only [Option.map_eq_some_iff] at h
 exact h
theorem eqV_says {ok : Bool} {ty : TypeId} {et : EqT} (het : eqT C ok ty = some et) {x y : AV} {x' y' : Value} {b : Bool} (hx : Rv e x x') (hy : Rv e y y') (hb : eqV et x y = some b) (w : World) : EqSays C.P ty x' y' b w := by
 unfold eqT at het
 split at het
 ·rename_i hd; cases het
  exact eqScalar_says (k := .b) hx hy (show XH _ x y = some b from hb) hd rfl w
 ·rename_i k hd; cases het
  exact eqScalar_says (k := .i) hx hy (show XH _ x y = some b from hb) hd ⟨_, rfl⟩ w
 ·rename_i hd; cases het
  exact eqScalar_says (k := .s) hx hy (show XH _ x y = some b from hb) hd rfl w
 ·
  rename_i el hd
  split at het
  ·rename_i n hsz
   cases het
   obtain ⟨ti, hti, hn⟩ := sz_some hsz
   change eqPtr x y = some b at hb
   unfold eqPtr at hb
   split at hb <;> first | (cases hb; done) | skip
   ·cases hb
    rw [hx.inv_pnil, hy.inv_pnil]
    refine .of_equal ?_ rfl rfl
    unfold Op.equal Op.equalIn Op.maxDepth; dsimp only; rw [Xf (Xn hd w)]; rfl
   ·cases hb
    obtain ⟨i, _, hye⟩ := hy.inv_ptr
    rw [hx.inv_pnil, hye]
    refine .of_equal ?_ rfl rfl
    unfold Op.equal Op.equalIn Op.maxDepth; dsimp only; rw [Xf (Xn hd w)]; rfl
   ·cases hb
    obtain ⟨i, _, hxe⟩ := hx.inv_ptr
    rw [hxe, hy.inv_pnil]
    refine .of_equal ?_ rfl rfl
    unfold Op.equal Op.equalIn Op.maxDepth; dsimp only; rw [Xf (Xn hd w)]; rfl
   ·rename_i b1 o1 b2 o2
    split at hb
    ·rename_i hbb
     subst hbb
     cases hb
     obtain ⟨i, hi, hxe⟩ := hx.inv_ptr
     obtain ⟨j, hj, hye⟩ := hy.inv_ptr
     rw [hi] at hj; cases hj
     rw [hxe, hye]
     refine .of_equal ?_ rfl rfl
     unfold Op.equal Op.equalIn Op.maxDepth; dsimp only; rw [Xf (Xn hd w)]
     dsimp only
     rw [Xf (run_size hti w), if_pos (by omega)]
     unfold sameAddr
     simp only [beq_self_eq_true, if_true]
     have : ((⟨i.blk, i.base + o1, none⟩ : Addr) == ⟨i.blk, i.base + o2, none⟩) = Nat.beq o1 o2 := by
      rw [Bool.eq_iff_iff]
      simp only [beq_iff_eq, Addr.mk.injEq, true_and, and_true]
      constructor
      ·intro hh; rw [show o1 = o2 by omega]; simp
      ·intro hh; rw [Nat.eq_of_beq_eq_true hh]
     rw [this]; rfl
    ·cases hb
  ·cases het
 ·
  rename_i ms hd
  cases het
  change eqIfc ok (scalars C) x y = some b at hb
  unfold eqIfc at hb
  split at hb <;> first | (cases hb; done) | skip
  ·cases ok with
   | false => cases hb
   | true =>
    cases hb
    rw [hx.inv_inil, hy.inv_inil]
    refine .of_equal ?_ rfl rfl
    unfold Op.equal Op.equalIn Op.maxDepth; dsimp only; rw [Xf (Xn hd w)]; rfl
  ·cases hb
   obtain ⟨v', hye, _⟩ := hy.inv_ifc
   rw [hx.inv_inil, hye]
   refine .of_equal ?_ rfl rfl
   unfold Op.equal Op.equalIn Op.maxDepth; dsimp only; rw [Xf (Xn hd w)]; rfl
  ·cases hb
   obtain ⟨v', hxe, _⟩ := hx.inv_ifc
   rw [hxe, hy.inv_inil]
   refine .of_equal ?_ rfl rfl
   unfold Op.equal Op.equalIn Op.maxDepth; dsimp only; rw [Xf (Xn hd w)]; rfl
  ·rename_i t1 v1 t2 v2
   obtain ⟨x1, hxe, hx1⟩ := hx.inv_ifc
   obtain ⟨y1, hye, hy1⟩ := hy.inv_ifc
   rw [hxe, hye]
   refine .of_equal ?_ rfl rfl
   unfold Op.equal Op.maxDepth
   show (Op.equalIn (9999 + 1) ty _ _).run C.P w = _
   unfold Op.equalIn
   rw [Xf (Xn hd w)]
   dsimp only
   cases htt : Nat.beq t1 t2 with
   | false =>
    rw [htt] at hb
    cases hb
    rw [if_pos (Nat.ne_of_beq_eq_false htt)]; rfl
   | true =>
    rw [htt] at hb
    have := Nat.eq_of_beq_eq_true htt
    subst this
    simp only [cond_true] at hb
    split at hb
    ·rename_i k hk
     obtain ⟨hs, hcmp⟩ := kindOf_scalars hk
     obtain ⟨ds, hds, hkd⟩ := skOf_some hs
     obtain ⟨ti, hti, hc⟩ := comparable_info hcmp
     rw [if_neg (by simp), Xf (run_info hti w), hc]
     simp only [Bool.not_true, Bool.false_eq_true, if_false]
     exact eqScalar_sound (d := 9998) hx1 hy1 hb hds hkd w
    ·cases hb
 ·rename_i el hd; cases het
  change eqSl x y = some b at hb
  unfold eqSl at hb
  have go : ∀ {u v : Value} {bb : Bool}, (Op.equalIn (9999 + 1) ty u v).run C.P w = .ok bb w → binOp .eql ty u v = (do pure (.bool (← Op.equal ty u v))) → binOp .neq ty u v = (do pure (.bool (!(← Op.equal ty u v)))) → EqSays C.P ty u v bb w :=
   fun h1 h2 h3 => .of_equal h1 h2 h3
  split at hb <;> first | (cases hb; done) | skip
  ·cases hb; rw [hx.inv_snil, hy.inv_snil]; refine go ?_ rfl rfl; unfold Op.equalIn; rw [Xf (Xn hd w)]; rfl
  ·cases hb; obtain ⟨i, c, _, hye⟩ := hy.inv_sl; rw [hx.inv_snil, hye]; refine go ?_ rfl rfl; unfold Op.equalIn; rw [Xf (Xn hd w)]; rfl
  ·cases hb; obtain ⟨i, c, _, hxe⟩ := hx.inv_sl; rw [hy.inv_snil, hxe]; refine go ?_ rfl rfl; unfold Op.equalIn; rw [Xf (Xn hd w)]; rfl
  ·cases hb; obtain ⟨a, c, _, hxe, _⟩ := hx.inv_slx; rw [hy.inv_snil, hxe]; refine go ?_ rfl rfl; unfold Op.equalIn; rw [Xf (Xn hd w)]; rfl
  ·cases hb; obtain ⟨a, hxe⟩ := hx.inv_sl0; rw [hy.inv_snil, hxe]; refine go ?_ rfl rfl; unfold Op.equalIn; rw [Xf (Xn hd w)]; rfl
  ·cases hb; obtain ⟨a, c, _, hye, _⟩ := hy.inv_slx; rw [hx.inv_snil, hye]; refine go ?_ rfl rfl; unfold Op.equalIn; rw [Xf (Xn hd w)]; rfl
  ·cases hb; obtain ⟨a, hye⟩ := hy.inv_sl0; rw [hx.inv_snil, hye]; refine go ?_ rfl rfl; unfold Op.equalIn; rw [Xf (Xn hd w)]; rfl
 ·rename_i k el hd; cases het
  change eqMp x y = some b at hb
  unfold eqMp at hb
  have go : ∀ {u v : Value} {bb : Bool}, (Op.equalIn (9999 + 1) ty u v).run C.P w = .ok bb w → binOp .eql ty u v = (do pure (.bool (← Op.equal ty u v))) → binOp .neq ty u v = (do pure (.bool (!(← Op.equal ty u v)))) → EqSays C.P ty u v bb w :=
   fun h1 h2 h3 => .of_equal h1 h2 h3
  split at hb <;> first | (cases hb; done) | skip
  ·cases hb; rw [hx.inv_mnil, hy.inv_mnil]; refine go ?_ rfl rfl; unfold Op.equalIn; rw [Xf (Xn hd w)]; rfl
  ·cases hb; obtain ⟨i, _, hye⟩ := hy.inv_map; rw [hx.inv_mnil, hye]; refine go ?_ rfl rfl; unfold Op.equalIn; rw [Xf (Xn hd w)]; rfl
  ·cases hb; obtain ⟨i, _, hxe⟩ := hx.inv_map; rw [hy.inv_mnil, hxe]; refine go ?_ rfl rfl; unfold Op.equalIn; rw [Xf (Xn hd w)]; rfl
 ·rename_i p q v hd; cases het
  change eqFn x y = some b at hb
  unfold eqFn at hb
  have go : ∀ {u v : Value} {bb : Bool}, (Op.equalIn (9999 + 1) ty u v).run C.P w = .ok bb w → binOp .eql ty u v = (do pure (.bool (← Op.equal ty u v))) → binOp .neq ty u v = (do pure (.bool (!(← Op.equal ty u v)))) → EqSays C.P ty u v bb w :=
   fun h1 h2 h3 => .of_equal h1 h2 h3
  split at hb <;> first | (cases hb; done) | skip
  ·cases hb; rw [hx.inv_fnil, hy.inv_fnil]; refine go ?_ rfl rfl; unfold Op.equalIn; rw [Xf (Xn hd w)]; rfl
  ·cases hb; obtain ⟨i, c, hye, _⟩ := hy.inv_fn; rw [hx.inv_fnil, hye]; refine go ?_ rfl rfl; unfold Op.equalIn; rw [Xf (Xn hd w)]; rfl
  ·cases hb; obtain ⟨i, c, hxe, _⟩ := hx.inv_fn; rw [hy.inv_fnil, hxe]; refine go ?_ rfl rfl; unfold Op.equalIn; rw [Xf (Xn hd w)]; rfl
 ·rename_i fs hd
  split at het
  ·rename_i hcnd
   simp only [Bool.and_eq_true, Bool.not_eq_true'] at hcnd
   simp only [Option.map_eq_some_iff] at het
   obtain ⟨ks, hks, rfl⟩ := het
   have hb' : eqKey (.struct ks) x y = some b := hb
   unfold eqKey at hb'
   dsimp only at hb'
   split at hb'
   ·obtain ⟨x1, hxe, hx1⟩ := hx.inv_agg
    obtain ⟨y1, hye, hy1⟩ := hy.inv_agg
    rw [hxe, hye]
    exact .of_equal (eqStruct (d := 9998) hd hcnd.1 hks hx1 hy1 hb' w) rfl rfl
   ·cases hb'
  ·cases het
 ·rename_i n el hd
  split at het
  ·rename_i k hk hsz
   split at het
   ·rename_i hcnd
    cases het
    have hb' : eqKey (.array n k) x y = some b := hb
    unfold eqKey at hb'
    dsimp only at hb'
    split at hb'
    ·obtain ⟨x1, hxe, hx1⟩ := hx.inv_agg
     obtain ⟨y1, hye, hy1⟩ := hy.inv_agg
     obtain ⟨ds, hds, hkd⟩ := skOf_some hk
     obtain ⟨ti, hti, hn⟩ := sz_some hsz
     rw [hxe, hye]
     exact .of_equal (eqArray (d := 9998) hd hds hkd hti hn hx1 hy1 hb' w) rfl rfl
    ·cases hb'
   ·cases het
  ·cases het
 ·cases het
theorem guard_other {op : BinOp} (h1 : op ≠ .eql) (h2 : op ≠ .neq) (ty : TypeId) (x y : Operand) (u v : Value) (w : World) : (eqGuard op ty x y u v).run C.P w = .ok () w := by
 unfold eqGuard
 cases op <;> first | exact absurd rfl h1 | exact absurd rfl h2 | rfl
theorem guard_eq {op : BinOp} (hop : op = .eql ∨ op = .neq) {ty : TypeId} {x y : Operand} {u v : Value} {w : World}
  (h1 : u = .nilIface → v = .nilIface → (isConstO x || isConstO y) = true)
  (h2 : ∀ p q, u = .agg p → v = .agg q → C.P.eqGuardType C.P.depth ty = false) : (eqGuard op ty x y u v).run C.P w = .ok () w := by
 have fin : ∀ s : Sem Unit, s.run C.P w = .ok () w → s.run C.P w = .ok () w := fun _ h => h
 rcases hop with rfl | rfl
 all_goals
  unfold eqGuard
  simp only [Bool.not_true, Bool.false_eq_true, if_false]
  cases u <;> cases v <;> first
   | rfl
   | (dsimp only; rw [Xf (run_program w), Xf (run_program w), h2 _ _ rfl rfl]; rfl)
   | (cases x <;> cases y <;> first | rfl | (have := h1 rfl rfl; simp [isConstO] at this))
theorem eqT_guard {ok : Bool} {ty : TypeId} {et : EqT} (het : eqT C ok ty = some et) {x y : AV} {x' y' : Value} {b : Bool} (hx : Rv e x x') (hy : Rv e y y') (hb : eqV et x y = some b) :
  (x' = .nilIface → y' = .nilIface → ok = true) ∧ (∀ p q, x' = .agg p → y' = .agg q → C.P.eqGuardType C.P.depth ty = false) := by
 have scal : ∀ k, XH k x y = some b → (x' ≠ .nilIface) ∧ ∀ p, x' ≠ .agg p := by
  intro k hk
  unfold XH at hk
  cases k <;> dsimp only at hk <;> split at hk <;> first | (cases hk; done) | skip
  ·rw [hx.inv_bool]; exact ⟨by simp, by simp⟩
  ·rw [hx.inv_int]; exact ⟨by simp, by simp⟩
  ·obtain ⟨s, hs, _⟩ := hx.inv_str; rw [hs]; exact ⟨by simp, by simp⟩
 have notAgg : (∀ cs, x ≠ .agg cs) → ∀ p, x' ≠ .agg p := by
  intro hne p hp
  subst hp
  cases hx
  exact hne _ rfl
 have notNil : x ≠ .inil → x' ≠ .nilIface := by
  intro hne hp
  subst hp
  cases hx
  exact hne rfl
 have isAgg : ∀ cs, x = .agg cs → x' ≠ .nilIface := by
  intro cs hcs
  exact notNil (by rw [hcs]; simp)
 have viaScal : ∀ k, XH k x y = some b → (x' = .nilIface → y' = .nilIface → ok = true) ∧ (∀ p q, x' = .agg p → y' = .agg q → C.P.eqGuardType C.P.depth ty = false) :=
  fun k hk => ⟨fun h1 _ => absurd h1 (scal k hk).1, fun p _ h1 _ => absurd h1 ((scal k hk).2 p)⟩
 have via : (∀ cs, x ≠ .agg cs) → x ≠ .inil → (x' = .nilIface → y' = .nilIface → ok = true) ∧ (∀ p q, x' = .agg p → y' = .agg q → C.P.eqGuardType C.P.depth ty = false) :=
  fun h1 h2 => ⟨fun h _ => absurd h (notNil h2), fun p _ h _ => absurd h (notAgg h1 p)⟩
 unfold eqT at het
 split at het
 ·cases het; exact viaScal .b hb
 ·cases het; exact viaScal .i hb
 ·cases het; exact viaScal .s hb
 ·split at het
  ·cases het
   change eqPtr x y = some b at hb
   unfold eqPtr at hb
   split at hb <;> first | (cases hb; done) | exact via (by simp) (by simp)
  ·cases het
 ·cases het
  change eqIfc ok (scalars C) x y = some b at hb
  unfold eqIfc at hb
  refine ⟨fun h1 h2 => ?_, fun p q h1 h2 => ?_⟩
  ·subst h1; subst h2
   cases hx; cases hy
   dsimp only at hb
   cases ok with
   | false => cases hb
   | true => rfl
  ·subst h1
   cases hx
   dsimp only at hb
   cases hb
 ·cases het
  change eqSl x y = some b at hb
  unfold eqSl at hb
  split at hb <;> first | (cases hb; done) | exact via (by simp) (by simp)
 ·cases het
  change eqMp x y = some b at hb
  unfold eqMp at hb
  split at hb <;> first | (cases hb; done) | exact via (by simp) (by simp)
 ·cases het
  change eqFn x y = some b at hb
  unfold eqFn at hb
  split at hb <;> first | (cases hb; done) | exact via (by simp) (by simp)
 ·split at het
  ·rename_i hcnd
   simp only [Bool.and_eq_true, Bool.not_eq_true'] at hcnd
   simp only [Option.map_eq_some_iff] at het
   obtain ⟨ks, hks, rfl⟩ := het
   refine ⟨fun h1 h2 => ?_, fun p q _ _ => hcnd.2⟩
   subst h1
   cases hx
   change (none : Option Bool) = some b at hb
   cases hb
  ·cases het
 ·split at het
  ·split at het
   ·rename_i hcnd
    cases het
    refine ⟨fun h1 h2 => ?_, fun p q _ _ => by simpa using hcnd⟩
    subst h1
    cases hx
    change (none : Option Bool) = some b at hb
    cases hb
   ·cases het
  ·cases het
 ·cases het
theorem bin_sound {op : BinOp} (hne1 : op ≠ .eql) (hne2 : op ≠ .neq) {x y : AV} {x' y' : Value} (hx : Rv e x x') (hy : Rv e y y') {v : AV} (hv : bin op x y = some v) (ty : TypeId) (w : World) :
  ∃ u, (binOp op ty x' y').run C.P w = .ok u w ∧ Rv e v u := by
 unfold bin at hv
 split at hv
 ·rename_i k1 a1 k2 a2
  rw [hx.inv_int, hy.inv_int]
  split at hv
  ·obtain ⟨u, h1, h2⟩ := shiftI_sound (C := C) (e := e) (yk := k2) hv w
   exact ⟨u, h1, h2⟩
  ·obtain ⟨u, h1, h2⟩ := shiftI_sound (C := C) (e := e) (yk := k2) hv w
   exact ⟨u, h1, h2⟩
  ·rename_i hs1 hs2
   split at hv
   ·rename_i hkk
    subst hkk
    obtain ⟨u, h1, h2⟩ := binI_sound (C := C) (e := e) hv w ⟨fun h => hs1 h, fun h => hs2 h⟩
    refine ⟨u, ?_, h2⟩
    rw [← h1]
    cases op <;> first | exact (hs1 rfl).elim | exact (hs2 rfl).elim | (simp only [binOp, ne_eq, not_true_eq_false, if_false])
   ·cases hv
 ·obtain ⟨s1, h1, h1'⟩ := hx.inv_str
  obtain ⟨s2, h2, h2'⟩ := hy.inv_str
  rw [h1, h2]
  obtain ⟨u, h3, h4⟩ := binS_sound (C := C) (e := e) h1' h2' hv w
  exact ⟨u, by rw [← h3]; cases op <;> rfl, h4⟩
 ·cases hv
theorem ok_binOp {op : BinOp} {ty yt : TypeId} {x y : Operand} (A : At C e t a h w) (hop : o.op = .binOp op ty x y yt) (hc : cop C o = some ao) (hr : aop ao t h = some r) : OpOk C.P e h w (execOp a.eval o) r := by
 unfold cop at hc
 rw [hop] at hc
 simp only [Option.bind_eq_bind, Option.bind_eq_some_iff] at hc
 obtain ⟨x', hx', y', hy', hc⟩ := hc
 have hx := A.ev hx'
 have hy := A.ev hy'
 unfold execOp
 rw [hop]
 dsimp only
 by_cases heq : op = .eql ∨ op = .neq
 ·have hc' : ∃ et, eqT C (isConstO x || isConstO y) ty = some et ∧ ao = .eq (isNeq op) et x' y' := by
   rcases heq with rfl | rfl <;> (simp only [Option.bind_eq_some_iff, Option.some.injEq] at hc; obtain ⟨et, h1, h2⟩ := hc; exact ⟨et, h1, h2.symm⟩)
  obtain ⟨et, het, rfl⟩ := hc'
  simp only [aop] at hr
  obtain ⟨v, hv, rfl⟩ := valOf_some hr
  simp only [Option.map_eq_some_iff] at hv
  obtain ⟨b, hb, rfl⟩ := hv
  obtain ⟨g1, g2⟩ := eqT_guard het hx hy hb
  obtain ⟨s1, s2⟩ := eqV_says het hx hy hb w
  have hg := guard_eq (C := C) (w := w) heq g1 g2
  refine OpOk.same (x := .bool (bif isNeq op then !b else b)) A.hp ?_ (.bool _)
  rw [Xf hg]
  rcases heq with rfl | rfl
  ·exact s1
  ·exact s2
 ·have h1 : op ≠ .eql := fun h => heq (.inl h)
  have h2 : op ≠ .neq := fun h => heq (.inr h)
  have hc' : ao = .bin op x' y' := by
   cases op <;> first | exact absurd rfl h1 | exact absurd rfl h2 | (simp only [Option.some.injEq] at hc; exact hc.symm)
  subst hc'
  simp only [aop] at hr
  obtain ⟨v, hv, rfl⟩ := valOf_some hr
  obtain ⟨u, hu, hvu⟩ := bin_sound (C := C) h1 h2 hx hy hv ty w
  refine OpOk.same A.hp ?_ hvu
  rw [Xf (guard_other h1 h2 ty x y _ _ w)]
  exact hu
theorem ok_unOp {op : UnOp} {ty : TypeId} {x : Operand} (A : At C e t a h w) (hop : o.op = .unOp op ty x) (hc : cop C o = some ao) (hr : aop ao t h = some r) : OpOk C.P e h w (execOp a.eval o) r := by
 unfold cop at hc
 rw [hop] at hc
 simp only [Option.map_eq_some_iff] at hc
 obtain ⟨y, hy, rfl⟩ := hc
 have hx := A.ev hy
 simp only [aop] at hr
 obtain ⟨v, hv, rfl⟩ := valOf_some hr
 unfold execOp
 rw [hop]
 dsimp only
 unfold un at hv
 split at hv
 ·cases hv
  rename_i hy'
  rw [hy'] at hx
  refine OpOk.same A.hp ?_ (.int _ _)
  rw [hx.inv_int, norm_eq, subI_eq]; rfl
 ·cases hv
  rename_i hy'
  rw [hy'] at hx
  refine OpOk.same A.hp ?_ (.bool _)
  rw [hx.inv_bool]; rfl
 ·cases hv
end Go.AM
namespace Go.AM
open Go
variable {C : Ctx} {e : Env} {t : Tm} {a : Act} {h : Heap} {w : World} {o : Oper} {ao : AOp} {r : ARes}
theorem source_sound (hH : RelH e h w) {z : Nat} {x : AV} {x' : Value} (hx : Rv e x x') {n : Nat} {cs : List AV} (hs : source z x h = some (n, cs)) :
  (Builtin.lenOf x').run C.P w = .ok n w ∧ ∃ xs : Array Value, (∀ q, (Builtin.firstCells z n x').run C.P { w with drawn := q } = .ok xs { w with drawn := q }) ∧ Rl e cs xs.toList ∧ cs.length = n * z := by
 unfold source at hs
 split at hs
 ·cases hs; rw [hx.inv_snil]; exact ⟨rfl, #[], fun _ => rfl, .nil, by simp⟩
 ·cases hs; obtain ⟨a, ha⟩ := hx.inv_sl0; rw [ha]
  refine ⟨rfl, #[], fun _ => ?_, .nil, by simp⟩
  simp only [Builtin.firstCells, Nat.zero_mul]; rfl
 ·cases hs; obtain ⟨a, c, i, ha, _⟩ := hx.inv_slx; rw [ha]
  refine ⟨rfl, #[], fun _ => ?_, .nil, by simp⟩
  simp only [Builtin.firstCells, Nat.zero_mul]; rfl
 ·rename_i b off m cp
  simp only [Option.map_eq_some_iff] at hs
  obtain ⟨cs', hcs', hs⟩ := hs
  cases hs
  obtain ⟨i, c, hi, hxe⟩ := hx.inv_sl
  rw [hxe]
  refine ⟨rfl, ?_⟩
  unfold Heap.cells at hcs'
  split at hcs'
  ·rename_i ro sp el z' bs hb
   obtain ⟨ob, hob, hrb⟩ := hH.blocks _ _ _ hb hi
   cases hrb with
   | cells _ _ _ _ _ arr el' fr hz hcs hfr hsp =>
    obtain ⟨p1, p2⟩ := part_of_cells hcs hcs'
    have hlen := (takeAt_some hcs').2
    refine ⟨((arr.toList.drop (i.base + off)).take (n * z)).toArray, fun q => ?_, by simpa using p1, hlen⟩
    unfold Builtin.firstCells
    rcases Nat.eq_zero_or_pos (n * z) with h0 | h0
    ·rw [h0]; simp; rfl
    ·exact run_loadCells (w := { w with drawn := q }) hob (p2 h0)
  ·cases hcs'
 ·rename_i s
  cases hz1 : Nat.beq z 1 with
  | false => rw [hz1] at hs; cases hs
  | true =>
  rw [hz1] at hs
  have hz1' := Nat.eq_of_beq_eq_true hz1
  subst hz1'
  cases hs
  obtain ⟨s', hse, hs'⟩ := hx.inv_str
  rw [hse]
  have hsz : s'.size = s.length := by have := congrArg List.length hs'; simpa using this
  refine ⟨by show Result.ok s'.size w = _; rw [hsz], ((s'.extract 0 s.length).data.map fun b => .int .u8 b.toNat), fun _ => rfl, ?_, by simp⟩
  have h1 : (s'.extract 0 s.length).data.toList = s.map UInt8.ofNat := by
   rw [← hsz, ByteArray.data_extract]
   simp only [Array.toList_extract, List.extract_eq_take_drop, Nat.sub_zero, List.drop_zero]
   rw [List.take_of_length_le (by simp), hs']
  rw [Array.toList_map, h1, List.map_map]
  refine Rl.map (f := fun c => AV.int .u8 (.ofNat (c % 256))) (g := (fun b : UInt8 => Value.int .u8 b.toNat) ∘ UInt8.ofNat) ?_
  intro c _
  have : (UInt8.ofNat c).toNat = c % 256 := by simp
  simp only [Function.comp, this]
  exact .int _ _
 ·cases hs
theorem strToBytes_ok {s d el : TypeId} {x : Operand} (A : At C e t a h w) (hs : C.P.underlying s = some .string) (hd : C.P.underlying d = some (.slice el)) (hel : C.P.underlying el = some (.int .u8)) {l : List Nat} {s' : ByteArray}
  (hse : a.eval x = .string s') (hs' : s'.data.toList = l.map UInt8.ofNat) :
  OpOk C.P e h w (do pure (Next.value (← convert s d (a.eval x)))) (.val (.sl h.next 0 l.length (.op 0)) (h.new (.cells false true el 1 (l.map fun c => .int .u8 (.ofNat (c % 256)))))) := by
 have hsz : s'.size = l.length := by have := congrArg List.length hs'; simpa using this
 let elems : Array Value := s'.data.map fun b => .int .u8 b.toNat
 obtain ⟨n, dr, hch, hforced, hcut⟩ := run_choose (P := C.P) (.appendCap s'.size 0 el) w
 have hn : s'.size ≤ n := by
  rw [hcut rfl]
  simp only [Question.cut]; omega
 let arr : Array Value := elems ++ Array.replicate (n - s'.size) (.int .u8 0)
 have hasz : arr.size = n := by
  have : elems.size = s'.size := by simp [elems]
  simp only [arr, Array.size_append, Array.size_replicate, this]; omega
 let w1 : World := { w with drawn := dr }
 let w2 : World := { w1 with heap := w1.heap.push (.cells arr el) }
 let w3 : World := { w1 with heap := w1.heap.push (.cells arr el (n, n + 1)) }
 have hrun : (convert s d (a.eval x)).run C.P w = .ok (.slice (some ⟨w.heap.size, 0, none⟩) s'.size n) w3 := by
  unfold convert
  rw [Xf (Xn hs w), Xf (Xn hd w), hse]
  dsimp only
  rw [Xf (Xn hel w)]
  dsimp only
  unfold Conv.stringToBytes
  rw [Xf hch]
  have hnew : (newRow el (elems ++ Array.replicate (n - s'.size) (.int .u8 0))).run C.P w1 = .ok ⟨w.heap.size, 0, none⟩ w2 := rfl
  rw [Xf hnew]
  have hmark : (markStringish ⟨w.heap.size, 0, none⟩).run C.P w2 = .ok () w3 := by
   unfold markStringish
   have hsh : (shape w.heap.size).run C.P w2 = .ok (some (el, n)) w2 := by
    unfold shape
    simp only [Sem.run]
    have : w2.shape? w.heap.size = some (el, n) := by
     simp only [World.shape?, w2, w1]
     simp [hasz]
    rw [this]
   rw [Xf hsh]
   dsimp only
   unfold freeze
   simp only [Sem.run]
   have : w2.freeze ⟨w.heap.size, n, none⟩ 1 = w3 := by
    unfold World.freeze
    rw [if_neg (by simp)]
    refine congrArg (fun H => ({ w2 with heap := H } : World)) (?_ : _ = w3.heap)
    apply Array.ext_getElem?
    intro k
    simp only [w2, w3, w1, Array.getElem?_modify, Array.getElem?_push]
    by_cases hk : w.heap.size = k
    ·subst hk; simp
    ·have : ¬ k = w.heap.size := fun h => hk h.symm
     simp [hk, this]
   rw [this]
  rw [Xf hmark]
  rfl
 have hp := post_new (A.hp.drawn dr) (.cells false true el 1 (l.map fun c => .int .u8 (.ofNat (c % 256)))) (.cells arr el (n, n + 1)) 0 1 n
  (.cells _ _ _ _ _ _ _ _ rfl ?_ ?_ ?_)
 ·refine OpOk.val hrun ?_ hp.of_drawn
  rw [hsz]
  have := Rv.slO (e := e.set h.next ⟨w.heap.size, 0, 1, n⟩) h.next 0 l.length n 0 ⟨w.heap.size, 0, 1, n⟩ (set_next _ _ _) (by simp) (by simp) (by omega)
  simpa using this
 ·have h1 : (arr.toList.drop 0).take (l.map fun c => AV.int .u8 (.ofNat (c % 256))).length = elems.toList := by
   have h2 : elems.size = l.length := by simp [elems]; exact hsz
   simp only [List.drop_zero, List.length_map, arr, Array.toList_append]
   rw [List.take_append_of_le_length (by simp [h2]), List.take_of_length_le (by simp [h2])]
  show Rl _ _ ((arr.toList.drop 0).take _)
  rw [h1]
  simp only [elems, Array.toList_map, hs', List.map_map]
  refine Rl.map (f := fun c => AV.int .u8 (.ofNat (c % 256))) (g := (fun b : UInt8 => Value.int .u8 b.toNat) ∘ UInt8.ofNat) ?_
  intro c _
  have : (UInt8.ofNat c).toNat = c % 256 := by simp
  simp only [Function.comp, this]
  exact .int _ _
 ·intro _ k hk
  rw [hasz] at hk
  simp; omega
 ·intro _
  simp [hasz]
theorem ok_convert {s d : TypeId} {x : Operand} (A : At C e t a h w) (hop : o.op = .convert s d x) (hc : cop C o = some ao) (hr : aop ao t h = some r) : OpOk C.P e h w (execOp a.eval o) r := by
 unfold cop at hc
 rw [hop] at hc
 simp only [Option.bind_eq_bind, Option.bind_eq_some_iff] at hc
 obtain ⟨y, hy, hc⟩ := hc
 have hx := A.ev hy
 unfold execOp
 rw [hop]
 dsimp only
 split at hc
 ·rename_i k1 k2 hs hd
  cases hc
  simp only [aop] at hr
  split at hr
  ·rename_i k n hyv
   cases hr
   rw [hyv] at hx
   refine OpOk.same A.hp ?_ (.int _ _)
   unfold convert
   rw [Xf (Xn hs w), Xf (Xn hd w), hx.inv_int, norm_eq]
   rfl
  ·cases hr
 ·rename_i hs hd
  cases hc
  simp only [aop] at hr
  split at hr
  ·rename_i l hyv
   cases hr
   rw [hyv] at hx
   obtain ⟨s', hse, hs'⟩ := hx.inv_str
   refine OpOk.same A.hp ?_ (.str _ _ hs')
   unfold convert
   rw [Xf (Xn hs w), Xf (Xn hd w), hse]
   rfl
  ·cases hr
 ·rename_i el hs hd
  split at hc
  ·rename_i hel
   cases hc
   simp only [aop] at hr
   split at hr
   ·rename_i l hyv
    cases hr
    rw [hyv] at hx
    obtain ⟨s', hse, hs'⟩ := hx.inv_str
    exact strToBytes_ok A hs hd hel hse hs'
   ·cases hr
  ·cases hc
 ·cases hc
end Go.AM
namespace Go.AM
open Go
variable {C : Ctx} {e : Env} {t : Tm} {a : Act} {h : Heap} {w : World} {o : Oper} {ao : AOp} {r : ARes}
theorem ok_assert {x : Operand} {xt ty : TypeId} {ok : Bool} (A : At C e t a h w) (hop : o.op = .typeAssert x xt ty ok) (hc : cop C o = some ao) (hr : aop ao t h = some r) : OpOk C.P e h w (execOp a.eval o) r := by
 unfold cop at hc
 rw [hop] at hc
 dsimp only at hc
 split at hc
 ·cases hc
 ·rename_i d hne hd
  simp only [Option.bind_eq_bind, Option.bind_eq_some_iff, Option.some.injEq] at hc
  obtain ⟨z, hz, y, hy, rfl⟩ := hc
  have hx := A.ev hy
  obtain ⟨zi, zv, hzi, hzv, hzr⟩ := zero_some hz e
  unfold execOp
  rw [hop]
  dsimp only
  simp only [aop] at hr
  have hnot : ∀ ms, d ≠ .interface ms := fun ms hd' => hne ms hd'
  split at hr
  ·rename_i u v hyv
   rw [hyv] at hx
   obtain ⟨v', hxe, hv'⟩ := hx.inv_ifc
   split at hr
   ·rename_i hut
    cases hr
    subst hut
    cases ok with
    | true =>
     refine OpOk.same (x := .tuple #[v', .bool true]) A.hp ?_ (.tup _ _ (.cons _ _ _ _ hv' (.cons _ _ _ _ (.bool _) .nil)))
     unfold Instr.typeAssert
     rw [Xf (Xn hd w), hxe]
     cases d <;> first | exact absurd rfl (hnot _) | (simp only [if_pos]; rfl)
    | false =>
     refine OpOk.same (x := v') A.hp ?_ hv'
     unfold Instr.typeAssert
     rw [Xf (Xn hd w), hxe]
     cases d <;> first | exact absurd rfl (hnot _) | (simp only [if_pos]; rfl)
   ·rename_i hut
    cases ok with
    | false => cases hr
    | true =>
     cases hr
     refine OpOk.same (x := .tuple #[zv, .bool false]) A.hp ?_ (.tup _ _ (.cons _ _ _ _ hzr (.cons _ _ _ _ (.bool _) .nil)))
     unfold Instr.typeAssert
     rw [Xf (Xn hd w), hxe]
     cases d <;> first | exact absurd rfl (hnot _) | (simp only [if_neg hut, if_true]; rw [Xf (run_zero hzi hzv w)]; rfl)
  ·rename_i hyv
   rw [hyv] at hx
   cases ok with
   | false => cases hr
   | true =>
    cases hr
    refine OpOk.same (x := .tuple #[zv, .bool false]) A.hp ?_ (.tup _ _ (.cons _ _ _ _ hzr (.cons _ _ _ _ (.bool _) .nil)))
    unfold Instr.typeAssert
    rw [Xf (Xn hd w), hx.inv_inil]
    cases d <;> first | exact absurd rfl (hnot _) | (simp only [if_true]; rw [Xf (run_zero hzi hzv w)]; rfl)
  ·cases hr
 ·cases hc
theorem ok_mkMap {ty : TypeId} {x : Option Operand} (A : At C e t a h w) (hop : o.op = .makeMap ty x) (hc : cop C o = some ao) (hr : aop ao t h = some r) : OpOk C.P e h w (execOp a.eval o) r := by
 unfold cop at hc
 rw [hop] at hc
 dsimp only at hc
 unfold execOp
 rw [hop]
 dsimp only
 have hp := post_new A.hp (.map [] 0) (.map #[] 0) 0 0 0 (.map _ _ _ .nil)
 have hv : Rv (e.set h.next ⟨w.heap.size, 0, 0, 0⟩) (.map h.next) (.map (some w.heap.size)) := .map _ ⟨w.heap.size, 0, 0, 0⟩ (set_next _ _ _)
 split at hc
 ·cases hc
  simp only [aop, Option.some.injEq] at hr
  subst hr
  exact OpOk.val rfl hv hp
 ·rename_i k n
  split at hc
  ·rename_i p q hd
   cases hc
   simp only [aop, Option.some.injEq] at hr
   subst hr
   refine OpOk.val ?_ hv hp
   unfold Instr.makeMap
   simp only [Option.map_some]
   rw [Xf (Xn hd w)]
   rfl
  ·cases hc
 ·cases hc
theorem zipIdx_fold {cs vs : List Value} (off : Nat) : ∀ (j : Nat), off + j + vs.length ≤ cs.length →
  (((vs.zipIdx j).foldl (fun (cs : Array Value) (c, j) => cs.setIfInBounds (off + j) c) cs.toArray)) = (over cs (off + j) vs).toArray := by
 induction vs generalizing cs with
 | nil => intro j _; simp [over]
 | cons v vs ih =>
  intro j hj
  simp only [List.zipIdx_cons, List.foldl_cons]
  have h1 : cs.toArray.setIfInBounds (off + j) v = (cs.set (off + j) v).toArray := by simp
  rw [h1, ih (j + 1) (by simp at hj ⊢; omega), show off + (j + 1) = off + j + 1 by omega, over_set _ _ _ _ (by simp at hj; omega)]
theorem fill_sound {place : Nat → Option (Nat × Nat)} : ∀ {ps : List (Nat × Nat × AV)} {ps' : List (Nat × Value)} {cs cs2 : List AV} {xs : List Value},
  fillA cs ps = some cs2 → Rl e cs xs → ps.length = ps'.length → (∀ (i : Nat) (p : Nat × Nat × AV) (q : Nat × Value), ps[i]? = some p → ps'[i]? = some q → place q.1 = some (p.1, p.2.1) ∧ Rv e p.2.2 q.2) →
  ∃ xs2 : Array Value, Instr.fill place xs.toArray ps' = some xs2 ∧ Rl e cs2 xs2.toList := by
 intro ps
 induction ps with
 | nil =>
  intro ps' cs cs2 xs hf hx hl hall
  cases ps' with
  | nil => simp [fillA] at hf; subst hf; exact ⟨xs.toArray, rfl, by simpa using hx⟩
  | cons => simp at hl
 | cons p ps ih =>
  intro ps' cs cs2 xs hf hx hl hall
  cases ps' with
  | nil => simp at hl
  | cons q ps' =>
   obtain ⟨off, size, v⟩ := p
   obtain ⟨i, x⟩ := q
   obtain ⟨h1, h2⟩ := hall 0 (off, size, v) (i, x) rfl rfl
   unfold fillA at hf
   cases hb : (Nat.beq v.cells.length size && Nat.blt 0 size) with
   | false => rw [hb] at hf; cases hf
   | true =>
    rw [hb] at hf
    simp only [Bool.and_eq_true] at hb
    have hsz := Nat.eq_of_beq_eq_true hb.1
    have hpos : 0 < size := Nat.le_of_ble_eq_true hb.2
    simp only [cond_true] at hf
    split at hf
    ·rename_i cs1 hset
     have hlen := h2.cells.length
     have hcl := hx.length
     have hxs : x.cells.size = size := by simp at hlen; omega
     unfold Instr.fill
     simp only [h1]
     rcases setAt_some hset with ⟨g1, g2⟩ | ⟨g1, g2⟩
     ·rw [g1] at hsz; simp at hsz; omega
     ·rw [if_neg (by simp; omega)]
      have hfold : x.cells.zipIdx.foldl (fun (cs : Array Value) (c, j) => cs.setIfInBounds (off + j) c) xs.toArray = (over xs off x.cells.toList).toArray := by
       rw [← Array.foldl_toList, Array.toList_zipIdx]
       have := zipIdx_fold (cs := xs) (vs := x.cells.toList) off 0 (by simp; omega)
       simpa using this
      have e1 : (x.cells.zipIdx.foldl (fun cs (x : Value × Nat) => match x with | (c, j) => cs.setIfInBounds (off + j) c) xs.toArray) = (over xs off x.cells.toList).toArray := hfold
      rw [e1]
      refine ih hf ?_ (by simpa using hl) (fun i p q hp hq => hall (i + 1) p q (by simpa using hp) (by simpa using hq))
      rw [g2]
      exact hx.over h2.cells off
    ·cases hf
theorem parts_sound (A : At C e t a h w) {place : Nat → Option (Nat × Nat)} : ∀ {ps : List (Nat × Operand)} {qs : List (Nat × Nat × Opd)}, (ps.mapM fun (i, x) => do
   let (off, size) ← place i
   some (off, size, ← opd C x)) = some qs → (evParts t qs).length = (ps.map fun (i, x) => (i, a.eval x)).length ∧
  ∀ (i : Nat) (p : Nat × Nat × AV) (q : Nat × Value), (evParts t qs)[i]? = some p → (ps.map fun (i, x) => (i, a.eval x))[i]? = some q → place q.1 = some (p.1, p.2.1) ∧ Rv e p.2.2 q.2 := by
 intro ps
 induction ps with
 | nil => intro qs hq; simp at hq; subst hq; exact ⟨rfl, fun i p q hp => by simp [evParts] at hp⟩
 | cons p ps ih =>
  intro qs hq
  obtain ⟨k, x⟩ := p
  simp only [List.mapM_cons, Option.bind_eq_bind, Option.bind_eq_some_iff] at hq
  obtain ⟨⟨off, size, y⟩, ⟨⟨off', size'⟩, hpl, y', hy, hyy⟩, qs', hqs', hq⟩ := hq
  cases hyy
  cases hq
  obtain ⟨h1, h2⟩ := ih (by simpa using hqs')
  refine ⟨by simp [evParts] at h1 ⊢; exact h1, ?_⟩
  intro i p q hp hq
  cases i with
  | zero =>
   simp [evParts] at hp hq
   subst hp; subst hq
   exact ⟨hpl, A.ev hy⟩
  | succ i =>
   simp only [evParts, List.map_cons, List.getElem?_cons_succ] at hp hq
   exact h2 i p q hp hq
theorem parts_arr (A : At C e t a h w) {place : Nat → Option (Nat × Nat)} {ps : Array (Nat × Operand)} {qs : List (Nat × Nat × Opd)} (hq : parts C place ps = some qs) :
  (evParts t qs).length = (ps.toList.map fun (i, x) => (i, a.eval x)).length ∧
  ∀ (i : Nat) (p : Nat × Nat × AV) (q : Nat × Value), (evParts t qs)[i]? = some p → (ps.toList.map fun (i, x) => (i, a.eval x))[i]? = some q → place q.1 = some (p.1, p.2.1) ∧ Rv e p.2.2 q.2 :=
 parts_sound A (place := place) hq
theorem places_sound {fs : List Field} {pl : List (Nat × Nat)} (hp : (fs.mapM (fun (f : Field) => (sz C f.type).map fun n => (f.offset, n))) = some pl) (w : World) :
  (fs.mapM (fun f => do pure (f.offset, ← sizeOf f.type)) : Sem (List (Nat × Nat))).run C.P w = .ok pl w := by
 induction fs generalizing pl with
 | nil => simp at hp; subst hp; rfl
 | cons f fs ih =>
  simp only [List.mapM_cons, Option.bind_eq_bind, Option.bind_eq_some_iff, Option.map_eq_some_iff] at hp
  obtain ⟨x, ⟨n, hn, rfl⟩, pl', hpl', hp⟩ := hp
  cases hp
  obtain ⟨ti, hti, rfl⟩ := sz_some hn
  have h1 : (do pure (f.offset, ← sizeOf f.type) : Sem (Nat × Nat)).run C.P w = .ok (f.offset, ti.size) w := by rw [Xf (run_size hti w)]; rfl
  rw [List.mapM_cons, Xf h1, Xf (ih hpl')]
  rfl
theorem ok_build {ty : TypeId} {ps : Array (Nat × Operand)} (A : At C e t a h w) (hop : o.op = .build ty ps) (hc : cop C o = some ao) (hr : aop ao t h = some r) : OpOk C.P e h w (execOp a.eval o) r := by
 unfold cop at hc
 rw [hop] at hc
 simp only [Option.bind_eq_bind, Option.bind_eq_some_iff] at hc
 obtain ⟨z, hz, hc⟩ := hc
 obtain ⟨zi, zv, hzi, hzv, hzr⟩ := zero_some hz e
 unfold execOp
 rw [hop]
 dsimp only
 have main : ∀ (place : Nat → Option (Nat × Nat)) (qs : List (Nat × Nat × Opd)), parts C place ps = some qs → ao = .build z.cells qs →
   ((∀ cells, Instr.fill place zv.cells (ps.map fun (i, x) => (i, a.eval x)).toList = some cells → (Instr.build ty (ps.map fun (i, x) => (i, a.eval x))).run C.P w = .ok (.agg cells) w)) →
   OpOk C.P e h w (do pure (Next.value (← Instr.build ty (ps.map fun (i, x) => (i, a.eval x))))) r := by
  intro place qs hqs hao hrun
  subst hao
  simp only [aop] at hr
  obtain ⟨v, hv, rfl⟩ := valOf_some hr
  simp only [Option.map_eq_some_iff] at hv
  obtain ⟨cs, hcs, rfl⟩ := hv
  obtain ⟨g1, g2⟩ := parts_sound A (show (ps.toList.mapM fun (i, x) => do
   let (off, size) ← place i
   some (off, size, ← opd C x)) = some qs from hqs)
  obtain ⟨xs2, f1, f2⟩ := fill_sound (place := place) hcs hzr.cells g1 g2
  refine OpOk.same A.hp (hrun xs2 ?_) (.agg _ _ f2)
  rw [← f1]
  congr 1
  simp
 split at hc
 ·rename_i fs hd
  simp only [Option.bind_eq_some_iff, Option.map_eq_some_iff] at hc
  obtain ⟨pl, hpl, qs, hqs, hao⟩ := hc
  refine main _ qs hqs hao.symm ?_
  intro cells hfill
  unfold Instr.build
  rw [Xf (run_zero hzi hzv w), Xf (Xn hd w)]
  dsimp only
  have hm : (fs.mapM fun f => do pure (f.offset, ← sizeOf f.type) : Sem (Array (Nat × Nat))).run C.P w = .ok pl.toArray w := by
   rw [Array.mapM_eq_mapM_toList, map_eq_pure_bind, Xf (places_sound hpl w)]
   rfl
  rw [Xf hm]
  have hpp : (fun (x : Nat) => pl.toArray[x]?) = (fun (i : Nat) => pl[i]?) := by funext i; simp
  rw [hpp, hfill]
  rfl
 ·rename_i n el hd
  simp only [Option.bind_eq_some_iff, Option.map_eq_some_iff] at hc
  obtain ⟨m, hm, qs, hqs, hao⟩ := hc
  obtain ⟨ti, hti, rfl⟩ := sz_some hm
  refine main _ qs hqs hao.symm ?_
  intro cells hfill
  unfold Instr.build
  rw [Xf (run_zero hzi hzv w), Xf (Xn hd w)]
  dsimp only
  rw [Xf (run_size hti w)]
  rw [hfill]
  rfl
 ·cases hc
end Go.AM
namespace Go.AM
open Go
variable {C : Ctx} {e : Env} {t : Tm} {a : Act} {h : Heap} {w : World} {o : Oper} {ao : AOp} {r : ARes}
theorem range_rep (zs : Array Value) : ∀ n : Nat, Rl e [] [] → ((List.range (n * zs.size)).map fun i => zs[i % zs.size]!) = (List.replicate n zs.toList).flatten := by
 intro n _
 induction n with
 | zero => simp
 | succ n ih =>
  rw [Nat.succ_mul, Nat.add_comm, List.range_add, List.map_append, List.map_map, List.replicate_succ, List.flatten_cons]
  congr 1
  ·apply List.ext_getElem
   ·simp
   ·intro i h1 h2
    simp at h1 h2 ⊢
    rw [Nat.mod_eq_of_lt h2]
    simp [h2]
  ·rw [← ih]
   apply List.map_congr_left
   intro i _
   simp
theorem rep_flatten {vs : List AV} {zs : List Value} (hv : Rl e vs zs) : ∀ n : Nat, Rl e (rep n vs) (List.replicate n zs).flatten := by
 intro n
 induction n with
 | zero => exact .nil
 | succ n ih => rw [List.replicate_succ, List.flatten_cons]; exact hv.append ih
theorem rep_length (n : Nat) (vs : List AV) : (rep n vs).length = n * vs.length := by
 induction n with
 | zero => simp [rep]
 | succ n ih => simp [rep, ih, Nat.succ_mul]; omega
theorem zero_row {z : AV} {zv : Value} (hz : Rv e z zv) (n m : Nat) (hm : z.cells.length = m) {el : TypeId} {zi : TypeInfo} (hzi : C.P.info? el = some zi) (hzv : zi.zero = some zv) (w : World) :
  ∃ zs : Array Value, Rl e (rep n z.cells) (((Array.range (n * m)).map (zs[· % zs.size]!)).toList) ∧
   ∀ {β : Type} (k : Array Value → Sem β), (if n * m = 0 then (do let z ← pure #[]; k z) else (do let y ← zeroValue el; let z ← pure y.cells; k z) : Sem β).run C.P w = (k zs).run C.P w := by
 have hl := hz.cells.length
 by_cases h0 : n * m = 0
 ·refine ⟨#[], ?_, fun k => by rw [if_pos h0, Xf (run_pure _ w)]⟩
  rw [h0]
  have : rep n z.cells = [] := List.eq_nil_of_length_eq_zero (by rw [rep_length, hm]; exact h0)
  rw [this]
  simpa using Rl.nil
 ·refine ⟨zv.cells, ?_, fun k => by rw [if_neg h0, Xf (run_zero hzi hzv w), Xf (run_pure _ w)]⟩
  have hs : zv.cells.size = m := by simp at hl; omega
  rw [Array.toList_map, Array.toList_range, ← hs, range_rep (e := e) zv.cells n .nil]
  exact rep_flatten hz.cells n
theorem ok_buildSlice {ty : TypeId} {len : Nat} {ps : Array (Nat × Operand)} (A : At C e t a h w) (hop : o.op = .buildSlice ty len ps) (hc : cop C o = some ao) (hr : aop ao t h = some r) : OpOk C.P e h w (execOp a.eval o) r := by
 unfold cop at hc
 rw [hop] at hc
 dsimp only at hc
 split at hc
 ·rename_i el hd
  simp only [Option.bind_eq_bind, Option.bind_eq_some_iff, Option.map_eq_some_iff] at hc
  obtain ⟨z, hz, m, hm, qs, hqs, rfl⟩ := hc
  obtain ⟨zi, zv, hzi, hzv, hzr⟩ := zero_some hz e
  obtain ⟨ti, hti, rfl⟩ := sz_some hm
  unfold execOp
  rw [hop]
  dsimp only
  simp only [aop] at hr
  split at hr
  ·rename_i cs hcs
   cases hb : (Nat.ble (len * ti.size) 16777216 && Nat.beq z.cells.length ti.size) with
   | false => rw [hb] at hr; cases hr
   | true =>
    rw [hb] at hr
    simp only [Bool.and_eq_true] at hb
    have h1 := Nat.le_of_ble_eq_true hb.1
    have h2 := Nat.eq_of_beq_eq_true hb.2
    cases hr
    obtain ⟨zs, hrow, hzs⟩ := zero_row (C := C) hzr len ti.size h2 hzi hzv w
    obtain ⟨g1, g2⟩ := parts_arr A hqs
    obtain ⟨xs2, f1, f2⟩ := fill_sound (place := fun i => some (i * ti.size, ti.size)) hcs hrow g1 g2
    have hp := new_cells A.hp el ti.size f2 ti.size rfl
    refine OpOk.val ?_ (.slE h.next 0 len len _ (set_next _ _ _)) hp
    unfold Instr.buildSlice
    rw [Xf (Xn hd w)]
    dsimp only
    rw [Xf (run_size hti w)]
    have : ¬ (len * ti.size > 2 ^ 24) := by omega
    rw [if_neg this, hzs]
    have e1 : Instr.fill (fun i => some (i * ti.size, ti.size)) ((Array.range (len * ti.size)).map (zs[· % zs.size]!)) (ps.map fun (i, x) => (i, a.eval x)).toList = some xs2 := by
     rw [Array.toList_map]
     rw [Array.toArray_toList] at f1
     exact f1
    rw [e1]
    rfl
  ·cases hr
 ·cases hc
theorem natOf_int {v : AV} {x : Value} {n : Nat} (hv : Rv e v x) (h : natOf v = some n) : ∃ k, x = .int k (Int.ofNat n) := by
 obtain ⟨k, rfl⟩ := natOf_some h
 exact ⟨k, hv.inv_int⟩
theorem askRoom_run (n : Nat) (w : World) : (askRoom n).run C.P w = .ok () w := by
 unfold askRoom
 split <;> rfl
theorem wrap64 {n : Nat} (h : n ≤ bigLim) : IntKind.i64.wrap (Int.ofNat n) = Int.ofNat n := wrap_nonneg .i64 n (by unfold bigLim at h; simp [Xo]; omega)
theorem ok_mkSlice {ty : TypeId} {l c : Operand} (A : At C e t a h w) (hop : o.op = .makeSlice ty l c) (hc : cop C o = some ao) (hr : aop ao t h = some r) : OpOk C.P e h w (execOp a.eval o) r := by
 unfold cop at hc
 rw [hop] at hc
 dsimp only at hc
 split at hc
 ·rename_i el hd
  simp only [Option.bind_eq_bind, Option.bind_eq_some_iff, Option.some.injEq] at hc
  obtain ⟨z, hz, m, hm, l', hl', c', hc', rfl⟩ := hc
  obtain ⟨zi, zv, hzi, hzv, hzr⟩ := zero_some hz e
  obtain ⟨ti, hti, rfl⟩ := sz_some hm
  rw [hzi] at hti; cases hti
  have hl := A.ev hl'
  have hcv := A.ev hc'
  unfold execOp
  rw [hop]
  dsimp only
  simp only [aop] at hr
  split at hr
  ·rename_i ln cn hln hcn
   cases hb : (Nat.ble ln cn && Nat.ble (cn * (C.P.bytesOf el + 1)) bigLim && Nat.ble (cn * zi.size) 16777216 && Nat.beq z.cells.length zi.size) with
   | false => rw [hb] at hr; cases hr
   | true =>
    rw [hb] at hr
    simp only [Bool.and_eq_true] at hb
    have h1 := Nat.le_of_ble_eq_true hb.1.1.1
    have h2 := Nat.le_of_ble_eq_true hb.1.1.2
    have h4 := Nat.eq_of_beq_eq_true hb.2
    cases hr
    have hbytes : C.P.bytesOf el = zi.bytes := by unfold Program.bytesOf; rw [hzi]; rfl
    rw [hbytes] at h2
    have h2a : cn * (zi.bytes + 1) = cn * zi.bytes + cn := by rw [Nat.mul_add, Nat.mul_one]
    obtain ⟨k1, e1⟩ := natOf_int hl hln
    obtain ⟨k2, e2⟩ := natOf_int hcv hcn
    obtain ⟨zs, hrow, hzs⟩ := zero_row (C := C) hzr cn zi.size h4 hzi hzv w
    have hp := new_cells A.hp el zi.size hrow zi.size rfl
    refine OpOk.val ?_ (.slE h.next 0 ln cn _ (set_next _ _ _)) hp
    unfold Instr.makeSlice
    rw [Xf (Xn hd w)]
    dsimp only
    have a1 : ∀ k n, (asInt (.int k n)).run C.P w = .ok n w := fun _ _ => rfl
    rw [e1, e2, Xf (a1 _ _), Xf (a1 _ _), Xf (run_info hzi w)]
    rw [wrap64 (n := cn) (by omega), wrap64 (n := ln) (by omega)]
    have hno : ¬ ((decide ((Int.ofNat cn) < 0) || decide ((zi.bytes : Int) * (Int.ofNat cn) > 2 ^ 48)) || decide ((Int.ofNat ln) < 0) || decide ((Int.ofNat ln) > Int.ofNat cn)) = true := by
     have : ((zi.bytes : Int) * (Int.ofNat cn)) = ((cn * zi.bytes : Nat) : Int) := by rw [Nat.mul_comm]; simp
     rw [this]
     unfold bigLim at h2
     simp only [Bool.or_eq_true, decide_eq_true_eq, Int.ofNat_eq_natCast]
     omega
    rw [if_neg hno, Xf (askRoom_run _ w), Xf (run_size hzi w)]
    simp only [Int.ofNat_eq_natCast, Int.toNat_natCast]
    rw [hzs]
    rfl
  ·cases hr
 ·cases hc
end Go.AM
namespace Go.AM
open Go
variable {C : Ctx} {e : Env} {t : Tm} {a : Act} {h : Heap} {w : World} {o : Oper} {ao : AOp} {r : ARes}
def RO (e : Env) : Option AV → Option Value → Prop
 | none, none => True
 | some v, some x => Rv e v x
 | _, _ => False
theorem At.opt (A : At C e t a h w) {x : Option Operand} {y : Option Opd} (hy : optOpd C x = some y) : RO e (y.map (·.ev t)) (x.map a.eval) := by
 unfold optOpd at hy
 cases x with
 | none => cases hy; trivial
 | some x =>
  simp only [Option.map_eq_some_iff] at hy
  obtain ⟨z, hz, rfl⟩ := hy
  exact A.ev hz
theorem natOr_sound {v : Option AV} {x : Option Value} (hv : RO e v x) {d n : Nat} (hn : natOr v d = some n) : (x = none ∧ n = d) ∨ (∃ k, x = some (.int k (Int.ofNat n))) := by
 unfold natOr at hn
 cases v with
 | none =>
  cases x with
  | none => cases hn; exact .inl ⟨rfl, rfl⟩
  | some => exact hv.elim
 | some v =>
  cases x with
  | none => exact hv.elim
  | some x =>
   obtain ⟨k, hk⟩ := natOf_int (show Rv e v x from hv) hn
   exact .inr ⟨k, by rw [hk]⟩
theorem bound_run {k : IntKind} {n y : Nat} (h : n ≤ y) (code : BoundsCode) (w : World) : (Instr.sliceBound (.int k (Int.ofNat n)) y code).run C.P w = .ok n w := by
 unfold Instr.sliceBound
 rw [Xf (asIntOf_int k _ w)]
 dsimp only
 rw [if_pos ⟨Int.natCast_nonneg n, by simp; omega⟩]
 rfl
theorem bounds_run {b : Bool} {len cap l hh m : Nat} {lo hi mx : Option Value} (h1 : l ≤ hh) (h2 : hh ≤ m) (h3 : m ≤ cap)
  (hlo : (lo = none ∧ l = 0) ∨ ∃ k, lo = some (.int k (Int.ofNat l))) (hhi : (hi = none ∧ hh = len) ∨ ∃ k, hi = some (.int k (Int.ofNat hh)))
  (hmx : (mx = none ∧ m = cap) ∨ ∃ k, mx = some (.int k (Int.ofNat m))) (hmh : mx.isSome = true → hi.isSome = true) (w : World) :
  (Instr.sliceBounds b len cap lo hi mx).run C.P w = .ok (l, hh, m) w := by
 unfold Instr.sliceBounds
 rcases hmx with ⟨rfl, rfl⟩ | ⟨k, rfl⟩
 ·dsimp only
  rw [Xf (run_pure _ w)]
  rcases hhi with ⟨rfl, rfl⟩ | ⟨k2, rfl⟩
  ·dsimp only
   rw [Xf (run_pure _ w)]
   rcases hlo with ⟨rfl, rfl⟩ | ⟨k3, rfl⟩
   ·rfl
   ·dsimp only
    rw [Xf (bound_run h1 _ w)]; rfl
  ·dsimp only
   rw [Xf (bound_run h2 _ w)]
   rcases hlo with ⟨rfl, rfl⟩ | ⟨k3, rfl⟩
   ·rfl
   ·dsimp only
    rw [Xf (bound_run h1 _ w)]; rfl
 ·dsimp only
  rw [Xf (bound_run h3 _ w)]
  rcases hhi with ⟨rfl, rfl⟩ | ⟨k2, rfl⟩
  ·cases hmh rfl
  ·dsimp only
   rw [Xf (bound_run h2 _ w)]
   rcases hlo with ⟨rfl, rfl⟩ | ⟨k3, rfl⟩
   ·rfl
   ·dsimp only
    rw [Xf (bound_run h1 _ w)]; rfl
theorem sliceStr_run {ty : TypeId} (hd : C.P.underlying ty = some .string) {s : List Nat} {s' : ByteArray} (hs : s'.data.toList = s.map UInt8.ofNat) {lo hi : Option AV} {lo' hi' : Option Value} (hlo : RO e lo lo') (hhi : RO e hi hi')
  {v : AV} (hv : sliceStrA s lo hi = some v) (w : World) : ∃ x, (Instr.sliceAt ty (.string s') lo' hi' none).run C.P w = .ok x w ∧ Rv e v x := by
 unfold sliceStrA at hv
 split at hv
 ·rename_i l hh hl hhh
  cases hb : (Nat.ble l hh && Nat.ble hh s.length) with
  | false => rw [hb] at hv; cases hv
  | true =>
   rw [hb] at hv
   simp only [Bool.and_eq_true] at hb
   have h1 := Nat.le_of_ble_eq_true hb.1
   have h2 := Nat.le_of_ble_eq_true hb.2
   cases hv
   have hsz : s'.size = s.length := by have := congrArg List.length hs; simpa using this
   have hb := bounds_run (C := C) (b := false) (len := s'.size) (cap := s'.size) (mx := none) h1 (by omega : hh ≤ s'.size) (Nat.le_refl _) (natOr_sound hlo hl)
    (by rw [hsz]; exact natOr_sound hhi hhh) (.inl ⟨rfl, rfl⟩) (by simp) w
   refine ⟨_, ?_, .str _ (s'.extract l hh) ?_⟩
   ·unfold Instr.sliceAt
    rw [Xf (Xn hd w)]
    unfold Instr.slice
    dsimp only
    rw [Xf (Xn hd w)]
    dsimp only
    simp only [Option.isSome_none, Bool.false_eq_true, if_false]
    rw [Xf hb]
    rfl
   ·rw [ByteArray.data_extract, Array.toList_extract, hs, List.extract_eq_take_drop, List.map_drop, List.map_take, List.drop_take]
 ·cases hv
theorem natOr_zero {v : Option AV} {x : Option Value} (hv : RO e v x) (hn : natOr v 0 = some 0) : x = none ∨ ∃ k, x = some (.int k (Int.ofNat 0)) := by
 rcases natOr_sound hv hn with ⟨h1, _⟩ | h1
 ·exact .inl h1
 ·exact .inr h1
theorem sliceSl_run (hH : RelH e h w) {ty el : TypeId} {ti : TypeInfo} (hd : C.P.underlying ty = some (.slice el)) (hti : C.P.info? el = some ti) {x : AV} {x' : Value} (hx : Rv e x x')
  {lo hi mx : Option AV} {lo' hi' mx' : Option Value} (hlo : RO e lo lo') (hhi : RO e hi hi') (hmx : RO e mx mx') (hmh : mx'.isSome = true → hi'.isSome = true)
  {v : AV} (hv : sliceSlA ti.size x lo hi mx h = some v) : ∃ y, (Instr.sliceAt ty x' lo' hi' mx').run C.P w = .ok y w ∧ Rv e v y := by
 have model : ∀ (p : Option Addr) (len cap l hh m : Nat), x' = .slice p len cap → l ≤ hh → hh ≤ m → m ≤ cap → ((lo' = none ∧ l = 0) ∨ ∃ k, lo' = some (.int k (Int.ofNat l))) →
   ((hi' = none ∧ hh = len) ∨ ∃ k, hi' = some (.int k (Int.ofNat hh))) → ((mx' = none ∧ m = cap) ∨ ∃ k, mx' = some (.int k (Int.ofNat m))) →
   (Instr.sliceAt ty x' lo' hi' mx').run C.P w = .ok (.slice (if m = l then p else p.map (·.add (l * ti.size))) (hh - l) (m - l)) w := by
  intro p len cap l hh m hxe h1 h2 h3 h4 h5 h6
  subst hxe
  unfold Instr.sliceAt
  rw [Xf (Xn hd w)]
  dsimp only
  unfold Instr.slice
  rw [Xf (Xn hd w)]
  dsimp only
  rw [Xf (bounds_run h1 h2 h3 h4 h5 h6 hmh w)]
  dsimp only
  rw [Xf (run_size hti w)]
  rfl
 unfold sliceSlA at hv
 split at hv
 ·cases hv
 ·rename_i l hl
  have hlo' := natOr_sound hlo hl
  split at hv
  ·
   split at hv
   ·rename_i h0 m0
    cases hv
    have e1 := hx.inv_snil
    refine ⟨_, model none 0 0 0 0 0 e1 (Nat.le_refl _) (Nat.le_refl _) (Nat.le_refl _) hlo' ?_ ?_, .snil⟩
    ·exact natOr_sound hhi h0
    ·exact natOr_sound hmx m0
   ·cases hv
  ·split at hv
   ·rename_i h0 m0
    cases hv
    obtain ⟨p, e1⟩ := hx.inv_sl0
    refine ⟨_, model (some p) 0 0 0 0 0 e1 (Nat.le_refl _) (Nat.le_refl _) (Nat.le_refl _) hlo' ?_ ?_, ?_⟩
    ·exact natOr_sound hhi h0
    ·exact natOr_sound hmx m0
    ·simpa using Rv.sl0 (e := e) p
   ·cases hv
  ·rename_i b
   split at hv
   ·rename_i h0 m0
    obtain ⟨p, c, i, e1, e2, e3, e4⟩ := hx.inv_slx
    cases mx with
    | none =>
     cases hv
     have hmn : mx' = none := by cases mx' with | none => rfl | some => exact hmx.elim
     refine ⟨_, model (some p) 0 c 0 0 c e1 (Nat.le_refl _) (Nat.zero_le _) (Nat.le_refl _) hlo' ?_ (.inl ⟨hmn, rfl⟩), ?_⟩
     ·exact natOr_sound hhi h0
     ·have hh : (if c = 0 then some p else (some p).map (·.add (0 * ti.size))) = some p := by
       split
       ·rfl
       ·simp [Addr.add]
      rw [hh]
      simpa using Rv.slx (e := e) b p c i e2 e3 e4
    | some mv =>
     cases hv
     obtain ⟨k, hk⟩ : ∃ k, mx' = some (.int k (Int.ofNat 0)) := by
      rcases natOr_zero hmx m0 with h' | h'
      ·rw [h'] at hmx; exact hmx.elim
      ·exact h'
     refine ⟨_, model (some p) 0 c 0 0 0 e1 (Nat.le_refl _) (Nat.zero_le _) (Nat.zero_le _) hlo' ?_ (.inr ⟨k, hk⟩), ?_⟩
     ·exact natOr_sound hhi h0
     ·simpa using Rv.sl0 (e := e) p
   ·cases hv
  ·rename_i b off len c
   split at hv
   ·rename_i hh m h0 m0
    cases hb : (Nat.ble l hh && Nat.ble hh m && Nat.ble m c) with
    | false => rw [hb] at hv; cases hv
    | true =>
     rw [hb] at hv
     simp only [Bool.and_eq_true] at hb
     have h1 := Nat.le_of_ble_eq_true hb.1.1
     have h2 := Nat.le_of_ble_eq_true hb.1.2
     have h3 := Nat.le_of_ble_eq_true hb.2
     cases hv
     obtain ⟨i, e1, e2⟩ := hx.inv_slE
     refine ⟨_, model _ len c l hh m e2 h1 h2 h3 hlo' (natOr_sound hhi h0) (natOr_sound hmx m0), ?_⟩
     cases hml : Nat.beq m l with
     | true =>
      have := Nat.eq_of_beq_eq_true hml
      rw [if_pos this]
      exact .slE _ _ _ _ _ e1
     | false =>
      have := Nat.ne_of_beq_eq_false hml
      rw [if_neg this]
      simp only [Option.map_some, Addr.add_at, cond_false]
      rw [Nat.add_assoc]
      exact .slE _ _ _ _ _ e1
   ·cases hv
  ·rename_i b off len d
   obtain ⟨i, c, e1, e2, e3, e4, e5⟩ := hx.inv_slO
   split at hv
   ·cases hv
   ·rename_i known hkn
    have hk : ∃ ro el2 z2 cs, h.get b = some (.cells ro true el2 z2 cs) ∧ ti.size = z2 ∧ 0 < ti.size ∧ known = (cs.length - off) / ti.size := by
     split at hkn
     ·rename_i ro el2 z2 cs hb
      cases hbb : (Nat.beq ti.size z2 && Nat.blt 0 ti.size) with
      | false => rw [hbb] at hkn; cases hkn
      | true =>
       rw [hbb] at hkn
       simp only [Bool.and_eq_true] at hbb
       cases hkn
       exact ⟨ro, el2, z2, cs, hb, Nat.eq_of_beq_eq_true hbb.1, Nat.le_of_ble_eq_true hbb.2, rfl⟩
     ·cases hkn
    obtain ⟨ro, el2, z2, cs, hb, hz2, hzpos, hknown⟩ := hk
    obtain ⟨ob, hob, hrb⟩ := hH.blocks _ _ _ hb e1
    cases hrb with
    | cells _ _ _ _ _ arr el' fr hz hcs hfr hsp =>
     have hspr := hsp rfl
     have hzi : i.z = ti.size := by rw [hz, hz2]
     rw [hzi] at e3 e4
     have hkc : known ≤ c := by
      rw [hknown]
      have hle : cs.length ≤ i.tot := by
       rcases cells_known hcs with hk | hk
       ·rw [hk]; simp
       ·omega
      refine Nat.div_le_of_le_mul ?_
      rw [Nat.mul_comm]; omega
     split at hv
     ·cases hv
     ·rename_i hh h0
      split at hv
      ·rename_i mv
       split at hv
       ·rename_i m m0
        cases hbb : (Nat.ble l hh && Nat.ble hh m && Nat.ble m known) with
        | false => rw [hbb] at hv; cases hv
        | true =>
         rw [hbb] at hv
         simp only [Bool.and_eq_true] at hbb
         have h1 := Nat.le_of_ble_eq_true hbb.1.1
         have h2 := Nat.le_of_ble_eq_true hbb.1.2
         have h3 := Nat.le_of_ble_eq_true hbb.2
         cases hv
         have hmm : ∃ k, mx' = some (.int k (Int.ofNat m)) := by
          cases mx' with
          | none => exact hmx.elim
          | some u => obtain ⟨k, hk⟩ := natOf_int (show Rv e mv u from hmx) m0; exact ⟨k, by rw [hk]⟩
         refine ⟨_, model _ len c l hh m e2 h1 h2 (by omega) hlo' (natOr_sound hhi h0) (.inr hmm), ?_⟩
         cases hml : Nat.beq m l with
         | true =>
          have := Nat.eq_of_beq_eq_true hml
          rw [if_pos this]
          exact .slE _ _ _ _ _ e1
         | false =>
          have := Nat.ne_of_beq_eq_false hml
          rw [if_neg this]
          simp only [Option.map_some, Addr.add_at, cond_false]
          rw [Nat.add_assoc]
          exact .slE _ _ _ _ _ e1
       ·cases hv
      ·have hmn : mx' = none := by cases mx' with | none => rfl | some => exact hmx.elim
       cases hbb : (Nat.ble l hh && Nat.ble hh known) with
       | false => rw [hbb] at hv; cases hv
       | true =>
        rw [hbb] at hv
        simp only [Bool.and_eq_true] at hbb
        have h1 := Nat.le_of_ble_eq_true hbb.1
        have h2 := Nat.le_of_ble_eq_true hbb.2
        have hrun := model _ len c l hh c e2 h1 (by omega) (Nat.le_refl _) hlo' (natOr_sound hhi h0) (.inl ⟨hmn, rfl⟩)
        refine ⟨_, hrun, ?_⟩
        simp only [cond_true] at hv
        cases hl0 : Nat.beq l 0 with
        | true =>
         have hl0' := Nat.eq_of_beq_eq_true hl0
         rw [hl0] at hv
         cases hv
         subst hl0'
         have hh' : (if c = 0 then some (⟨i.blk, i.base + off, none⟩ : Addr) else (some (⟨i.blk, i.base + off, none⟩ : Addr)).map (·.add (0 * ti.size))) = some ⟨i.blk, i.base + off, none⟩ := by
          split
          ·rfl
          ·simp [Addr.add]
         rw [hh']
         simpa using Rv.slO (e := e) b off hh c d i e1 (by omega) (by rw [hzi]; exact e4) (by omega)
        | false =>
         rw [hl0] at hv
         simp only [cond_false] at hv
         cases hlk : Nat.blt l known with
         | true =>
          have hlk' : l < known := Nat.le_of_ble_eq_true hlk
          rw [hlk] at hv
          cases hv
          rw [if_neg (by omega)]
          simp only [Option.map_some, Addr.add_at]
          rw [Nat.add_assoc]
          refine .slO b (off + l * ti.size) (hh - l) (c - l) (d + l) i e1 (by omega) ?_ (by omega)
          rw [hzi, Nat.sub_mul]
          have : l * ti.size ≤ c * ti.size := Nat.mul_le_mul_right _ (by omega)
          omega
         | false =>
          have hlk' : known ≤ l := by have := ble_false hlk; omega
          rw [hlk] at hv
          cases hv
          have hhl : hh - l = 0 := by omega
          rw [hhl]
          by_cases hcl : c = l
          ·rw [if_pos hcl]
           refine .slx b _ (c - l) i e1 (by omega) (.inl (by omega))
          ·rw [if_neg hcl]
           simp only [Option.map_some, Addr.add_at]
           refine .slx b _ (c - l) i e1 (by omega) (.inr ⟨rfl, rfl, by simp only []; omega, ?_⟩)
           show i.base + off + l * ti.size + (c - l) * i.z = i.base + i.tot
           rw [hzi, Nat.sub_mul]
           have : l * ti.size ≤ c * ti.size := Nat.mul_le_mul_right _ (by omega)
           omega
  ·cases hv
theorem ok_slice {ty : TypeId} {x : Operand} {lo hi mx : Option Operand} (A : At C e t a h w) (hop : o.op = .slice ty x lo hi mx) (hc : cop C o = some ao) (hr : aop ao t h = some r) : OpOk C.P e h w (execOp a.eval o) r := by
 unfold cop at hc
 rw [hop] at hc
 simp only [Option.bind_eq_bind, Option.bind_eq_some_iff] at hc
 obtain ⟨y, hy, lo', hlo', hc⟩ := hc
 have hx := A.ev hy
 unfold execOp
 rw [hop]
 dsimp only
 have key : (mx.isSome = true → hi.isSome = true) ∧ ∃ hi', optOpd C hi = some hi' ∧ ∃ mx', optOpd C mx = some mx' ∧ (match C.P.underlying ty with
   | some .string => match mx' with
    | none => some (AOp.sliceStr y lo' hi')
    | some _ => none
   | some (.slice e) => do some (AOp.sliceSl (← sz C e) y lo' hi' mx')
   | _ => none) = some ao := by
  split at hc
  ·cases hc
  ·rename_i hcnd
   simp only [Option.bind_eq_some_iff] at hc
   obtain ⟨hi', hhi', mx', hmx', hc⟩ := hc
   refine ⟨?_, hi', hhi', mx', hmx', hc⟩
   intro hm
   cases hh : hi with
   | none => rw [hm, hh] at hcnd; simp at hcnd
   | some => rfl
 obtain ⟨hmh, hi', hhi', mx', hmx', hc⟩ := key
 split at hc
 ·rename_i hd
  cases mx' with
  | some => cases hc
  | none =>
   cases hc
   simp only [aop] at hr
   split at hr
   ·rename_i s hys
    obtain ⟨v, hv, rfl⟩ := valOf_some hr
    rw [hys] at hx
    obtain ⟨s', hse, hs⟩ := hx.inv_str
    have hmn : mx = none := by
     have := A.opt hmx'
     cases mx with
     | none => rfl
     | some => exact this.elim
    obtain ⟨u, hu, hvu⟩ := sliceStr_run (C := C) hd hs (A.opt hlo') (A.opt hhi') hv w
    refine OpOk.same A.hp ?_ hvu
    rw [hse, hmn]
    exact hu
   ·cases hr
 ·rename_i el hd
  simp only [Option.bind_eq_bind, Option.bind_eq_some_iff, Option.some.injEq] at hc
  obtain ⟨m, hm, rfl⟩ := hc
  obtain ⟨ti, hti, rfl⟩ := sz_some hm
  simp only [aop] at hr
  obtain ⟨v, hv, rfl⟩ := valOf_some hr
  obtain ⟨u, hu, hvu⟩ := sliceSl_run (C := C) A.hp hd hti hx (A.opt hlo') (A.opt hhi') (A.opt hmx') (by simpa using hmh) hv
  exact OpOk.same A.hp hu hvu
 ·cases hc
end Go.AM
namespace Go.AM
open Go
variable {C : Ctx} {e : Env} {t : Tm} {a : Act} {h : Heap} {w : World} {o : Oper} {ao : AOp} {r : ARes}
theorem keyT_some {ty : TypeId} {et : EqT} (hk : keyT C ty = some et) : eqT C false ty = some et ∧ ((∃ k, et = .scalar k) ∨ (∃ ks, et = .struct ks) ∨ (∃ n k, et = .array n k)) := by
 unfold keyT at hk
 split at hk
 ·rename_i k h1; cases hk; exact ⟨h1, .inl ⟨k, rfl⟩⟩
 ·rename_i k h1; cases hk; exact ⟨h1, .inr (.inl ⟨k, rfl⟩)⟩
 ·rename_i n k h1; cases hk; exact ⟨h1, .inr (.inr ⟨n, k, rfl⟩)⟩
 ·cases hk
theorem eqT_scalar {ty : TypeId} {k : SK} {ok : Bool} (h : eqT C ok ty = some (.scalar k)) : ∃ d, C.P.underlying ty = some d ∧ skDesc k d := by
 unfold eqT at h
 split at h <;> first | (cases h; done) | skip
 ·rename_i hd; cases h; exact ⟨_, hd, rfl⟩
 ·rename_i kk hd; cases h; exact ⟨_, hd, kk, rfl⟩
 ·rename_i hd; cases h; exact ⟨_, hd, rfl⟩
 ·split at h <;> cases h
 ·split at h
  ·simp only [Option.map_eq_some_iff] at h; obtain ⟨_, _, h⟩ := h; cases h
  ·cases h
 ·split at h
  ·split at h <;> cases h
  ·cases h
theorem eqT_struct {ty : TypeId} {ks : List SK} {ok : Bool} (h : eqT C ok ty = some (.struct ks)) : ∃ fs, C.P.underlying ty = some (.struct fs) ∧ C.P.stoodInHeld ty = false ∧ flatFields C fs.toList 0 = some ks := by
 unfold eqT at h
 split at h <;> first | (cases h; done) | skip
 ·split at h <;> cases h
 ·rename_i fs hd
  split at h
  ·rename_i hcnd
   simp only [Bool.and_eq_true, Bool.not_eq_true'] at hcnd
   simp only [Option.map_eq_some_iff] at h
   obtain ⟨ks', hks, h⟩ := h
   cases h
   exact ⟨fs, hd, hcnd.1, hks⟩
  ·cases h
 ·split at h
  ·split at h <;> cases h
  ·cases h
theorem eqT_array {ty : TypeId} {n : Nat} {k : SK} {ok : Bool} (h : eqT C ok ty = some (.array n k)) : ∃ el ds i, C.P.underlying ty = some (.array n el) ∧ C.P.underlying el = some ds ∧ skDesc k ds ∧ C.P.info? el = some i ∧ i.size = 1 := by
 unfold eqT at h
 split at h <;> first | (cases h; done) | skip
 ·split at h <;> cases h
 ·split at h
  ·simp only [Option.map_eq_some_iff] at h; obtain ⟨_, _, h⟩ := h; cases h
  ·cases h
 ·rename_i n' el hd
  split at h
  ·rename_i k' hk hs
   split at h
   ·cases h
    obtain ⟨ds, hds, hkd⟩ := skOf_some hk
    obtain ⟨i, hi, his⟩ := sz_some hs
    exact ⟨el, ds, i, hd, hds, hkd, hi, his⟩
   ·cases h
  ·cases h
theorem eqKey_sound {ty : TypeId} {et : EqT} (hk : eqT C false ty = some et) {x y : AV} {x' y' : Value} {b : Bool} (hx : Rv e x x') (hy : Rv e y y') (hb : eqKey et x y = some b) (w : World) :
  (Op.equal ty x' y').run C.P w = .ok b w := by
 unfold Op.equal Op.maxDepth
 unfold eqKey at hb
 split at hb
 ·rename_i k
  obtain ⟨d, hd, hkd⟩ := eqT_scalar hk
  exact eqScalar_sound (d := 9999) hx hy hb hd hkd w
 ·rename_i ks
  obtain ⟨fs, hd, hst, hf⟩ := eqT_struct hk
  split at hb
  ·obtain ⟨x1, hxe, hx1⟩ := hx.inv_agg
   obtain ⟨y1, hye, hy1⟩ := hy.inv_agg
   rw [hxe, hye]
   exact eqStruct (d := 9998) hd hst hf hx1 hy1 hb w
  ·cases hb
 ·rename_i n k
  obtain ⟨el, ds, i, hd, hds, hkd, hi, his⟩ := eqT_array hk
  split at hb
  ·obtain ⟨x1, hxe, hx1⟩ := hx.inv_agg
   obtain ⟨y1, hye, hy1⟩ := hy.inv_agg
   rw [hxe, hye]
   exact eqArray (d := 9998) hd hds hkd hi his hx1 hy1 hb w
  ·cases hb
 ·cases hb
theorem cells_bits {ks : List SK} : ∀ {xs ys : List AV} {xs' ys' : List Value}, Rl e xs xs' → Rl e ys ys' → eqCells ks xs ys = some true → ∀ n, xs'.length = ys'.length ∧ ((ys'.zip xs').all fun (x, y) => Instr.sameBits n x y) = true := by
 induction ks with
 | nil =>
  intro xs ys xs' ys' hx hy hb n
  cases xs <;> cases ys <;> simp [eqCells] at hb
  cases hx; cases hy; exact ⟨rfl, rfl⟩
 | cons k ks ih =>
  intro xs ys xs' ys' hx hy hb n
  cases xs with
  | nil => simp [eqCells] at hb
  | cons x xs =>
   cases ys with
   | nil => simp [eqCells] at hb
   | cons y ys =>
    cases hx with
    | cons _ u _ us hu hus =>
     cases hy with
     | cons _ v _ vs hv hvs =>
      simp only [eqCells] at hb
      split at hb
      ·rename_i hs
       obtain ⟨h1, h2⟩ := ih hus hvs hb n
       have h3 := (sameBits_scalar hu hv hs n).1
       exact ⟨by simp [h1], by simp [h3]; simpa using h2⟩
      ·rename_i hne
       exact absurd hb hne
theorem stays_run {et : EqT} {x y : AV} {x' y' : Value} (hx : Rv e x x') (hy : Rv e y y') (hb : eqKey et x y = some true) (w : World) : (Instr.keyThatStays y' x').run C.P w = .ok x' w := by
 have : Instr.sameBits 10000 y' x' = true := by
  unfold eqKey at hb
  split at hb
  ·exact (sameBits_scalar hx hy hb 10000).1
  ·split at hb
   ·obtain ⟨x1, hxe, hx1⟩ := hx.inv_agg
    obtain ⟨y1, hye, hy1⟩ := hy.inv_agg
    rw [hxe, hye]
    obtain ⟨h1, h2⟩ := cells_bits hx1 hy1 hb 9999
    show (y1.size == x1.size && (y1.toList.zip x1.toList).all fun (x, y) => Instr.sameBits 9999 x y) = true
    simp at h1
    simp only [Bool.and_eq_true, beq_iff_eq]
    exact ⟨by omega, h2⟩
   ·cases hb
  ·split at hb
   ·obtain ⟨x1, hxe, hx1⟩ := hx.inv_agg
    obtain ⟨y1, hye, hy1⟩ := hy.inv_agg
    rw [hxe, hye]
    obtain ⟨h1, h2⟩ := cells_bits hx1 hy1 hb 9999
    show (y1.size == x1.size && (y1.toList.zip x1.toList).all fun (x, y) => Instr.sameBits 9999 x y) = true
    simp at h1
    simp only [Bool.and_eq_true, beq_iff_eq]
    exact ⟨by omega, h2⟩
   ·cases hb
  ·cases hb
 unfold Instr.keyThatStays
 rw [if_pos this]
 rfl
theorem check_scalar {k : SK} {ds : TypeDesc} {ty : TypeId} (hd : C.P.underlying ty = some ds) (hk : skDesc k ds) {x : AV} {x' : Value} (hx : Rv e x x') {b : Bool} {y : AV} (hb : XH k x y = some b) (emp : Bool) (n : Nat) (w : World) :
  (Instr.checkKey emp (n + 1) ty x').run C.P w = .ok () w := by
 unfold Instr.checkKey
 rw [Xf (Xn hd w)]
 cases k with
 | b => simp only [skDesc] at hk; subst hk; cases x' <;> rfl
 | i => obtain ⟨kk, rfl⟩ := hk; cases x' <;> rfl
 | s => simp only [skDesc] at hk; subst hk; cases x' <;> rfl
theorem strEq_refl {l : List Nat} {b : Bool} (h : strEq l l = some b) : b = true := by
 have := strEq_sound h
 simpa using this
theorem eqScalar_refl {k : SK} {x : AV} {b : Bool} (hs : XH k x x = some b) : b = true := by
 cases k <;> cases x <;> simp only [XH] at hs <;> first | (cases hs; done) | skip
 ·simpa using hs.symm
 ·simp [eqI_eq] at hs; exact hs
 ·exact strEq_refl hs
theorem check_fields (emp : Bool) (n : Nat) (w : World) : ∀ {ks : List SK} {fs : List Field} {off : Nat} {xs ys : List AV} {xs' : Array Value} {b : Bool}, flatFields C fs off = some ks →
  Rl e xs (xs'.toList.drop off) → eqCells ks xs xs = some b → ys = xs →
  (forIn fs PUnit.unit (fun (f : Field) (_ : PUnit) => do
    if f.name ≠ "_" then do
     Instr.checkKey emp (n + 1) f.type (← part f.type xs' f.offset)
     pure (ForInStep.yield PUnit.unit)
    else pure (ForInStep.yield PUnit.unit)) : Sem PUnit).run C.P w = .ok PUnit.unit w := by
 intro ks
 induction ks with
 | nil =>
  intro fs off xs ys xs' b hf hx hb _
  cases fs with
  | nil => rfl
  | cons f fs =>
   simp only [flatFields] at hf
   split at hf
   ·split at hf <;> cases hf
   ·cases hf
 | cons k ks ih =>
  intro fs off xs ys xs' b hf hx hb _
  cases fs with
  | nil => simp [flatFields] at hf
  | cons f fs =>
   simp only [flatFields] at hf
   split at hf
   ·rename_i hcnd
    simp only [Bool.and_eq_true, bne_iff_ne, ne_eq, beq_iff_eq] at hcnd
    obtain ⟨hname, hoff⟩ := hcnd
    split at hf
    ·rename_i k1 ks1 hk1 hks1
     cases hf
     obtain ⟨ds, hds, hkd⟩ := skOf_some hk1
     cases xs with
     | nil => simp [eqCells] at hb
     | cons x xs =>
      obtain ⟨xv, hxv, hrx⟩ := hx.get (n := 0) (by simp : (x :: xs)[0]? = some x)
      have gx : xs'[off]? = some xv := by simpa using hxv
      have nag : isAggD ds = false := by
       cases k with
       | b => simp only [skDesc] at hkd; subst hkd; rfl
       | i => obtain ⟨_, rfl⟩ := hkd; rfl
       | s => simp only [skDesc] at hkd; subst hkd; rfl
      have px : (part f.type xs' f.offset).run C.P w = .ok xv w := by
       unfold part
       rw [Xf (run_isAgg hds w), nag, if_neg (by simp), hoff, gx]; rfl
      simp only [eqCells] at hb
      have hn : f.name ≠ "_" := hname
      have hex : ∃ bb, XH k x x = some bb := by
       cases hs : XH k x x with
       | none => rw [hs] at hb; simp at hb
       | some bb => exact ⟨bb, rfl⟩
      obtain ⟨bb, hs⟩ := hex
      have hbb := eqScalar_refl hs
      subst hbb
      rw [hs] at hb
      simp only at hb
      rw [list_forIn_yield]
      dsimp only
      have body : (do
        if f.name ≠ "_" then do
         Instr.checkKey emp (n + 1) f.type (← part f.type xs' f.offset)
         pure (ForInStep.yield PUnit.unit)
        else pure (ForInStep.yield PUnit.unit) : Sem (ForInStep PUnit)).run C.P w = .ok (.yield PUnit.unit) w := by
       rw [if_pos hn, Xf px, Xf (check_scalar hds hkd hrx hs emp n w)]; rfl
      rw [Xf body]
      refine ih hks1 ?_ hb rfl (ys := xs)
      have := hx.drop 1
      simpa [List.drop_drop] using this
    ·cases hf
   ·cases hf
theorem check_elems (emp : Bool) (n : Nat) {k : SK} {el : TypeId} {ds : TypeDesc} (hds : C.P.underlying el = some ds) (hkd : skDesc k ds) {ti : TypeInfo} (hti : C.P.info? el = some ti) (hs1 : ti.size = 1) (w : World) {xs' : Array Value} :
  ∀ {m i : Nat} {xs : List AV} {b : Bool}, Rl e xs (xs'.toList.drop i) → eqCells (List.replicate m k) xs xs = some b →
  (forIn (List.range' i m) PUnit.unit (fun (i : Nat) (_ : PUnit) => do
    Instr.checkKey emp (n + 1) el (← part el xs' (i * (← sizeOf el)))
    pure (ForInStep.yield PUnit.unit)) : Sem PUnit).run C.P w = .ok PUnit.unit w := by
 intro m
 induction m with
 | zero => intro i xs b _ _; rfl
 | succ m ih =>
  intro i xs b hx hb
  rw [List.replicate_succ] at hb
  cases xs with
  | nil => simp [eqCells] at hb
  | cons x xs =>
   obtain ⟨xv, hxv, hrx⟩ := hx.get (n := 0) (by simp : (x :: xs)[0]? = some x)
   have gx : xs'[i]? = some xv := by simpa using hxv
   have nag : isAggD ds = false := by
    cases k with
    | b => simp only [skDesc] at hkd; subst hkd; rfl
    | i => obtain ⟨_, rfl⟩ := hkd; rfl
    | s => simp only [skDesc] at hkd; subst hkd; rfl
   have px : (part el xs' (i * 1)).run C.P w = .ok xv w := by
    unfold part
    rw [Xf (run_isAgg hds w), nag, if_neg (by simp), Nat.mul_one, gx]; rfl
   simp only [eqCells] at hb
   have hex : ∃ bb, XH k x x = some bb := by
    cases hs : XH k x x with
    | none => rw [hs] at hb; simp at hb
    | some bb => exact ⟨bb, rfl⟩
   obtain ⟨bb, hs⟩ := hex
   have := eqScalar_refl hs
   subst this
   rw [hs] at hb
   simp only at hb
   rw [List.range'_succ, list_forIn_yield]
   dsimp only
   have body : (do
     Instr.checkKey emp (n + 1) el (← part el xs' (i * (← sizeOf el)))
     pure (ForInStep.yield PUnit.unit) : Sem (ForInStep PUnit)).run C.P w = .ok (.yield PUnit.unit) w := by
    rw [Xf (run_size hti w), hs1, Xf px, Xf (check_scalar hds hkd hrx hs emp n w)]; rfl
   rw [Xf body]
   refine ih ?_ hb
   have := hx.drop 1
   simpa [List.drop_drop] using this
theorem key_ok {ty : TypeId} {et : EqT} (hk : eqT C false ty = some et) {x : AV} {x' : Value} {b : Bool} (hx : Rv e x x') (hb : eqKey et x x = some b) (emp : Bool) (w : World) :
  (Instr.checkKey emp 10000 ty x').run C.P w = .ok () w := by
 unfold eqKey at hb
 split at hb
 ·rename_i k
  obtain ⟨d, hd, hkd⟩ := eqT_scalar hk
  exact check_scalar hd hkd hx hb emp 9999 w
 ·rename_i ks
  obtain ⟨fs, hd, hst, hf⟩ := eqT_struct hk
  cases x with
  | agg p =>
   obtain ⟨x1, hxe, hx1⟩ := hx.inv_agg
   rw [hxe]
   have := check_fields (C := C) emp 9998 w hf (by simpa using hx1) hb rfl
   show (Instr.checkKey emp (9999 + 1) ty _).run C.P w = _
   unfold Instr.checkKey
   rw [Xf (Xn hd w)]
   dsimp only
   rw [← Array.forIn_toList, Xf this]
   rfl
  | _ => cases hb
 ·rename_i n k
  obtain ⟨el, ds, i, hd, hds, hkd, hi, his⟩ := eqT_array hk
  cases x with
  | agg p =>
   obtain ⟨x1, hxe, hx1⟩ := hx.inv_agg
   rw [hxe]
   have := check_elems (C := C) emp 9998 (i := 0) hds hkd hi his w (by simpa using hx1) hb
   show (Instr.checkKey emp (9999 + 1) ty _).run C.P w = _
   unfold Instr.checkKey
   rw [Xf (Xn hd w)]
   dsimp only
   rw [Std.Legacy.Range.forIn_eq_forIn_range']
   simp only [Std.Legacy.Range.size, Nat.sub_zero, Nat.add_sub_cancel, Nat.div_one]
   rw [Xf this]
   rfl
  | _ => cases hb
 ·cases hb
theorem Res.length {xs : List (AV × AV × Nat)} {ms : List MapEntry} (hr : Res e xs ms) : xs.length = ms.length := by
 induction hr with
 | nil => rfl
 | cons x m xs ms h hs ih => simp [ih]
inductive Found (et : EqT) (k : AV) : List (AV × AV × Nat) → Option (Nat × AV) → Prop
 | nil : Found et k [] none
 | here (k' v : AV) (n : Nat) (es : List (AV × AV × Nat)) (h : eqKey et k k' = some true) : Found et k ((k', v, n) :: es) (some (0, v))
 | skip (k' v : AV) (n : Nat) (es : List (AV × AV × Nat)) (r : Option (Nat × AV)) (h : eqKey et k k' = some false) (hr : Found et k es r) : Found et k ((k', v, n) :: es) (r.map fun (i, v) => (i + 1, v))
theorem findA_found {et : EqT} {k : AV} : ∀ {es : List (AV × AV × Nat)} {r : Option AV}, findA et k es = some r → ∃ q, Found et k es q ∧ q.map (·.2) = r := by
 intro es
 induction es with
 | nil => intro r h; simp [findA] at h; subst h; exact ⟨none, .nil, rfl⟩
 | cons x es ih =>
  intro r h
  obtain ⟨k', v, n⟩ := x
  unfold findA at h
  split at h
  ·rename_i hk; cases h; exact ⟨_, .here _ _ _ _ hk, rfl⟩
  ·rename_i hk
   obtain ⟨q, h1, h2⟩ := ih h
   refine ⟨_, .skip _ _ _ _ _ hk h1, ?_⟩
   rw [← h2]
   cases q <;> rfl
  ·cases h
def FoundV (e : Env) : Option (Nat × AV) → Option (Nat × Value) → Prop
 | none, none => True
 | some (i, v), some (j, x) => i = j ∧ Rv e v x
 | _, _ => False
theorem findNow_sound {k : SK} {ds : TypeDesc} (hkd : skDesc k ds) {key : AV} {key' : Value} (hx : Rv e key key') : ∀ {es : List (AV × AV × Nat)} {ms : List MapEntry} {q : Option (Nat × AV)} (j : Nat), Res e es ms → Found (.scalar k) key es q →
  ∃ r, Instr.findNow ds key' ms j = some r ∧ FoundV e (q.map fun (i, v) => (i + j, v)) r := by
 intro es
 induction es with
 | nil => intro ms q j hr hf; cases hr; cases hf; exact ⟨none, rfl, trivial⟩
 | cons x es ih =>
  intro ms q j hr hf
  cases hr with
  | cons _ m _ ms hm hms =>
   cases hf with
   | here k' v n _ hk =>
    have hs : XH k key k' = some true := hk
    unfold Instr.findNow
    rw [sameNow_sound hx hm.1 hs hkd]
    exact ⟨_, rfl, by simp [FoundV]; exact hm.2.1⟩
   | skip k' v n _ r hk hr' =>
    have hs : XH k key k' = some false := hk
    unfold Instr.findNow
    rw [sameNow_sound hx hm.1 hs hkd]
    obtain ⟨r1, h1, h2⟩ := ih (j + 1) hms hr'
    refine ⟨r1, h1, ?_⟩
    cases r with
    | none => exact h2
    | some p =>
     obtain ⟨i, v'⟩ := p
     simp only [Option.map_some] at h2 ⊢
     rw [show i + 1 + j = i + (j + 1) by omega]
     exact h2
theorem findAsking_sound {ty : TypeId} {et : EqT} (hk : eqT C false ty = some et) {key : AV} {key' : Value} (hx : Rv e key key') (w : World) : ∀ {es : List (AV × AV × Nat)} {ms : List MapEntry} {q : Option (Nat × AV)} (j : Nat), Res e es ms → Found et key es q →
  ∃ r, (Instr.findAsking ty key' ms j).run C.P w = .ok r w ∧ FoundV e (q.map fun (i, v) => (i + j, v)) r := by
 intro es
 induction es with
 | nil => intro ms q j hr hf; cases hr; cases hf; exact ⟨none, rfl, trivial⟩
 | cons x es ih =>
  intro ms q j hr hf
  cases hr with
  | cons _ m _ ms hm hms =>
   cases hf with
   | here k' v n _ hkk =>
    unfold Instr.findAsking
    rw [Xf (eqKey_sound hk hx hm.1 hkk w)]
    exact ⟨_, rfl, by simp [FoundV]; exact hm.2.1⟩
   | skip k' v n _ r hkk hr' =>
    unfold Instr.findAsking
    rw [Xf (eqKey_sound hk hx hm.1 hkk w)]
    obtain ⟨r1, h1, h2⟩ := ih (j + 1) hms hr'
    refine ⟨r1, by simpa using h1, ?_⟩
    cases r with
    | none => exact h2
    | some p =>
     obtain ⟨i, v'⟩ := p
     simp only [Option.map_some] at h2 ⊢
     rw [show i + 1 + j = i + (j + 1) by omega]
     exact h2
theorem findKey_sound {ty : TypeId} {et : EqT} (hk : eqT C false ty = some et) (hsh : (∃ k, et = .scalar k) ∨ (∃ ks, et = .struct ks) ∨ (∃ n k, et = .array n k)) {key : AV} {key' : Value} (hx : Rv e key key') {es : List (AV × AV × Nat)} {ms : List MapEntry} {q : Option (Nat × AV)}
  (hr : Res e es ms) (hf : Found et key es q) (w : World) : ∃ r, (Instr.findKey ty key' ms).run C.P w = .ok r w ∧ FoundV e q r := by
 have hq : (q.map fun (i, v) => (i + 0, v)) = q := by cases q <;> rfl
 have asking : ∀ ds, C.P.underlying ty = some ds → (Instr.findNow ds key' ms 0 = none ∨ (es = [] ∧ Instr.findNow ds key' ms 0 = some none)) → ∃ r, (Instr.findKey ty key' ms).run C.P w = .ok r w ∧ FoundV e q r := by
  intro ds hds hor
  unfold Instr.findKey
  rw [Xf (Xn hds w)]
  rcases hor with h1 | ⟨h0, h1⟩
  ·rw [h1]
   obtain ⟨r, h2, h3⟩ := findAsking_sound hk hx w 0 hr hf
   rw [hq] at h3
   exact ⟨r, h2, h3⟩
  ·rw [h1]
   subst h0
   cases hf
   exact ⟨none, rfl, trivial⟩
 rcases hsh with ⟨k, rfl⟩ | ⟨ks, rfl⟩ | ⟨n, k, rfl⟩
 ·obtain ⟨ds, hds, hkd⟩ := eqT_scalar hk
  obtain ⟨r, h1, h2⟩ := findNow_sound hkd hx 0 hr hf
  rw [hq] at h2
  refine ⟨r, ?_, h2⟩
  unfold Instr.findKey
  rw [Xf (Xn hds w), h1]
  rfl
 ·obtain ⟨fs, hd, _, _⟩ := eqT_struct hk
  refine asking _ hd ?_
  cases hr with
  | nil => exact .inr ⟨rfl, rfl⟩
  | cons x m xs ms h hs => exact .inl (by unfold Instr.findNow Instr.sameNow; rfl)
 ·obtain ⟨el, ds, i, hd, _⟩ := eqT_array hk
  refine asking _ hd ?_
  cases hr with
  | nil => exact .inr ⟨rfl, rfl⟩
  | cons x m xs ms h hs => exact .inl (by unfold Instr.findNow Instr.sameNow; rfl)
end Go.AM
namespace Go.AM
open Go
variable {C : Ctx} {e : Env} {t : Tm} {a : Act} {h : Heap} {w : World} {o : Oper} {ao : AOp} {r : ARes}
theorem Res.append {xs ys : List (AV × AV × Nat)} {ms ns : List MapEntry} (h1 : Res e xs ms) (h2 : Res e ys ns) : Res e (xs ++ ys) (ms ++ ns) := by
 induction h1 with
 | nil => exact h2
 | cons x m xs ms h hs ih => exact .cons _ _ _ _ h ih
theorem set_sound {et : EqT} {k v : AV} {k' v' : Value} (hk : Rv e k k') (hv : Rv e v v') : ∀ {es es2 : List (AV × AV × Nat)} {ms : List MapEntry} {i : Nat} {v0 : AV}, Found et k es (some (i, v0)) → setA et k v es = some es2 → Res e es ms →
  ∃ m k2, ms[i]? = some m ∧ Rv e k2 m.key ∧ eqKey et k k2 = some true ∧ Res e es2 (ms.modify i fun m => { m with key := k', val := v' }) := by
 intro es
 induction es with
 | nil => intro es2 ms i v0 hf; cases hf
 | cons x es ih =>
  intro es2 ms i v0 hf hs hr
  obtain ⟨kx, vx, n⟩ := x
  cases hr with
  | cons _ m _ ms hm hms =>
   generalize hq : some (i, v0) = q at hf
   cases hf with
   | here _ _ _ _ hkk =>
    cases hq
    unfold setA at hs
    rw [hkk] at hs
    cases hs
    exact ⟨m, kx, rfl, hm.1, hkk, .cons _ _ _ _ ⟨hk, hv, hm.2.2⟩ hms⟩
   | skip _ _ _ _ r hkk hr' =>
    cases r with
    | none => cases hq
    | some p =>
     obtain ⟨j, v1⟩ := p
     cases hq
     unfold setA at hs
     rw [hkk] at hs
     simp only [Option.map_eq_some_iff] at hs
     obtain ⟨es3, hs3, rfl⟩ := hs
     obtain ⟨m2, k2, g1, g2, g3, g4⟩ := ih hr' hs3 hms
     exact ⟨m2, k2, by simpa using g1, g2, g3, .cons _ _ _ _ hm g4⟩
theorem ok_lookup {ty : TypeId} {x i : Operand} {ok : Bool} (A : At C e t a h w) (hop : o.op = .lookup ty x i ok) (hc : cop C o = some ao) (hr : aop ao t h = some r) : OpOk C.P e h w (execOp a.eval o) r := by
 unfold cop at hc
 rw [hop] at hc
 dsimp only at hc
 split at hc
 ·rename_i kt el hd
  simp only [Option.bind_eq_bind, Option.bind_eq_some_iff, Option.some.injEq] at hc
  obtain ⟨et, het, z, hz, x', hx', i', hi', rfl⟩ := hc
  obtain ⟨hkt, hsh⟩ := keyT_some het
  obtain ⟨zi, zv, hzi, hzv, hzr⟩ := zero_some hz e
  have hx := A.ev hx'
  have hi := A.ev hi'
  simp only [aop] at hr
  obtain ⟨v, hv, rfl⟩ := valOf_some hr
  unfold execOp
  rw [hop]
  dsimp only
  have out : ∀ (v1 : AV) (v1' : Value) (b : Bool), Rv e v1 v1' → Rv e (bif ok then .tup [v1, .bool b] else v1) (if ok then .tuple #[v1', .bool b] else v1') := by
   intro v1 v1' b h1
   cases ok
   ·exact h1
   ·exact .tup _ _ (.cons _ _ _ _ h1 (.cons _ _ _ _ (.bool _) .nil))
  unfold lookupA at hv
  dsimp only at hv
  split at hv
  ·rename_i hxm
   rw [hxm] at hx
   split at hv
   ·rename_i bk hbk
    cases hv
    refine OpOk.same A.hp ?_ (out _ _ false hzr)
    unfold Instr.lookup
    rw [Xf (Xn hd w), hx.inv_mnil]
    dsimp only
    rw [Xf (run_pure _ w), Xf (key_ok hkt hi hbk _ w)]
    have : (Instr.findKey kt (a.eval i) #[].toList).run C.P w = .ok none w := by
     obtain ⟨r1, h1, h2⟩ := findKey_sound hkt hsh hi (.nil : Res e [] []) .nil w
     cases r1 with
     | none => exact h1
     | some => exact h2.elim
    rw [Xf this]
    dsimp only
    rw [Xf (run_zero hzi hzv w), Xf (run_pure _ w)]
    rfl
   ·cases hv
  ·rename_i b hxm
   rw [hxm] at hx
   obtain ⟨im, him, hxe⟩ := hx.inv_map
   split at hv
   ·rename_i es clock hb
    obtain ⟨ob, hob, hrb⟩ := A.hp.blocks _ _ _ hb him
    cases hrb with
    | map _ _ ms hres =>
     have hget := run_getObj (P := C.P) hob (fun _ _ _ => by simp)
     have pre : ∀ {β : Type} (k : Array MapEntry → Sem β), (do
       let .map es _ ← getObj im.blk | stuck "Lookup: map expected"
       k es).run C.P w = (k ms).run C.P w := by
      intro β k
      rw [Xf hget]
     split at hv
     ·rename_i bk v1 hbk hfind
      cases hv
      obtain ⟨q, hf, hq⟩ := findA_found hfind
      obtain ⟨r1, h1, h2⟩ := findKey_sound hkt hsh hi hres hf w
      cases q with
      | none => cases hq
      | some p =>
       cases r1 with
       | none => exact h2.elim
       | some p' =>
        obtain ⟨j, vv⟩ := p
        obtain ⟨j', vv'⟩ := p'
        simp only [Option.map_some, Option.some.injEq] at hq
        subst hq
        refine OpOk.same A.hp ?_ (out _ _ true h2.2)
        unfold Instr.lookup
        rw [Xf (Xn hd w), hxe]
        dsimp only
        rw [Xf hget]
        dsimp only
        rw [Xf (run_pure _ w), Xf (key_ok hkt hi hbk _ w), Xf h1]
        dsimp only
        rw [Xf (run_pure _ w)]
        rfl
     ·rename_i bk hbk hfind
      cases hv
      obtain ⟨q, hf, hq⟩ := findA_found hfind
      obtain ⟨r1, h1, h2⟩ := findKey_sound hkt hsh hi hres hf w
      cases q with
      | some => cases hq
      | none =>
       cases r1 with
       | some => exact h2.elim
       | none =>
        refine OpOk.same A.hp ?_ (out _ _ false hzr)
        unfold Instr.lookup
        rw [Xf (Xn hd w), hxe]
        dsimp only
        rw [Xf hget]
        dsimp only
        rw [Xf (run_pure _ w), Xf (key_ok hkt hi hbk _ w), Xf h1]
        dsimp only
        rw [Xf (run_zero hzi hzv w), Xf (run_pure _ w)]
        rfl
     ·cases hv
   ·cases hv
  ·cases hv
 ·cases hc
theorem ok_mapUpdate {ty : TypeId} {m k x : Operand} (A : At C e t a h w) (hop : o.op = .mapUpdate ty m k x ∨ o.op = .insert ty m k x) (hc : cop C o = some ao) (hr : aop ao t h = some r) : OpOk C.P e h w (execOp a.eval o) r := by
 unfold cop at hc
 have hc' : (match C.P.underlying ty with
  | some (.map kt _) => do some (AOp.mapUpdate (← keyT C kt) (← opd C m) (← opd C k) (← opd C x))
  | _ => none) = some ao := by rcases hop with hop | hop <;> (rw [hop] at hc; exact hc)
 clear hc
 have hex : execOp a.eval o = (do Instr.mapUpdate ty (a.eval m) (a.eval k) (a.eval x); pure Next.skip) := by unfold execOp; rcases hop with hop | hop <;> rw [hop]
 rw [hex]
 split at hc'
 ·rename_i kt el hd
  simp only [Option.bind_eq_bind, Option.bind_eq_some_iff, Option.some.injEq] at hc'
  obtain ⟨et, het, m', hm', k', hk', x', hx', rfl⟩ := hc'
  obtain ⟨hkt, hsh⟩ := keyT_some het
  have hm := A.ev hm'
  have hk := A.ev hk'
  have hx := A.ev hx'
  simp only [aop] at hr
  obtain ⟨h', hh, rfl⟩ := skipH_some hr
  unfold updateA at hh
  split at hh
  ·rename_i b hmb
   rw [hmb] at hm
   obtain ⟨im, him, hme⟩ := hm.inv_map
   split at hh
   ·rename_i es clock hb
    obtain ⟨ob, hob, hrb⟩ := A.hp.blocks _ _ _ hb him
    cases hrb with
    | map _ _ ms hres =>
     have hget := run_getObj (P := C.P) hob (fun _ _ _ => by simp)
     split at hh
     ·rename_i bk v1 hbk hfind
      split at hh
      ·rename_i es2 hset
       cases hh
       obtain ⟨q, hf, hq⟩ := findA_found hfind
       obtain ⟨r1, h1, h2⟩ := findKey_sound hkt hsh hk hres hf w
       cases q with
       | none => cases hq
       | some p =>
        cases r1 with
        | none => exact h2.elim
        | some p' =>
         obtain ⟨j, vv⟩ := p
         obtain ⟨j', vv'⟩ := p'
         obtain ⟨rfl, _⟩ : j = j' ∧ _ := h2
         obtain ⟨m2, k2, g1, g2, g3, g4⟩ := set_sound hk hx hf hset hres
         have hp := post_set A.hp hb rfl him (.map es2 clock (ms.modify j fun m => { m with key := a.eval k, val := a.eval x }) (by rw [Array.toList_modify]; exact g4))
         refine OpOk.unit ?_ hp
         unfold Instr.mapUpdate
         rw [Xf (Xn hd w), hme]
         dsimp only
         rw [Xf hget]
         dsimp only
         rw [Xf (key_ok hkt hk hbk _ w), Xf h1]
         dsimp only
         have hgm : ms[j]? = some m2 := by simpa using g1
         rw [hgm]
         simp only [Option.map_some, Option.getD_some]
         rw [Xf (stays_run hk g2 g3 w)]
         exact run_setObj hob (fun _ _ _ => by simp)
      ·cases hh
     ·rename_i bk hbk hfind
      cases hh
      obtain ⟨q, hf, hq⟩ := findA_found hfind
      obtain ⟨r1, h1, h2⟩ := findKey_sound hkt hsh hk hres hf w
      cases q with
      | some => cases hq
      | none =>
       cases r1 with
       | some => exact h2.elim
       | none =>
        have hp := post_set A.hp hb rfl him (.map (es ++ [(k'.ev t, x'.ev t, clock)]) (clock + 1) (ms.push { key := a.eval k, val := a.eval x, born := clock })
         (by rw [Array.toList_push]; exact hres.append (.cons _ _ _ _ ⟨hk, hx, rfl⟩ .nil)))
        refine OpOk.unit ?_ hp
        unfold Instr.mapUpdate
        rw [Xf (Xn hd w), hme]
        dsimp only
        rw [Xf hget]
        dsimp only
        rw [Xf (key_ok hkt hk hbk _ w), Xf h1]
        exact run_setObj hob (fun _ _ _ => by simp)
     ·cases hh
   ·cases hh
  ·cases hh
 ·cases hc'
theorem ok_range {ty : TypeId} {x : Operand} (A : At C e t a h w) (hop : o.op = .range ty x) (hc : cop C o = some ao) (hr : aop ao t h = some r) : OpOk C.P e h w (execOp a.eval o) r := by
 unfold cop at hc
 rw [hop] at hc
 dsimp only at hc
 unfold execOp
 rw [hop]
 dsimp only
 split at hc
 ·rename_i kt el hd
  simp only [Option.map_eq_some_iff] at hc
  obtain ⟨x', hx', rfl⟩ := hc
  have hx := A.ev hx'
  simp only [aop] at hr
  split at hr
  ·rename_i hxm
   rw [hxm] at hx
   cases hr
   have hp := post_new A.hp (.miter none 0 [] 0) (.mapIter none 0 #[] 0) 0 0 0 (.miterN _ _ _ _ rfl rfl)
   refine OpOk.val ?_ (.ptr h.next 0 _ (set_next _ _ _)) hp
   unfold Instr.range
   rw [Xf (Xn hd w), hx.inv_mnil]
   rfl
  ·rename_i b hxm
   rw [hxm] at hx
   obtain ⟨im, him, hxe⟩ := hx.inv_map
   split at hr
   ·rename_i es clock hb
    cases hr
    obtain ⟨ob, hob, hrb⟩ := A.hp.blocks _ _ _ hb him
    cases hrb with
    | map _ _ ms hres =>
     have hget := run_getObj (P := C.P) hob (fun _ _ _ => by simp)
     have hp := post_new A.hp (.miter (some b) clock [] clock) (.mapIter (some im.blk) clock #[] clock) 0 0 0 (.miter b im _ _ _ _ (A.hp.set_le _ _ _ him) rfl rfl)
     refine OpOk.val ?_ (.ptr h.next 0 _ (set_next _ _ _)) hp
     unfold Instr.range
     rw [Xf (Xn hd w), hxe]
     dsimp only
     rw [Xf hget]
     rfl
   ·cases hr
  ·cases hr
 ·cases hc
end Go.AM
namespace Go.AM
open Go
variable {C : Ctx} {e : Env} {t : Tm} {a : Act} {h : Heap} {w : World} {o : Oper} {ao : AOp} {r : ARes}
theorem Res.filter {es : List (AV × AV × Nat)} {ms : List MapEntry} (hr : Res e es ms) (p : Nat → Bool) : Res e (es.filter fun x => p x.2.2) (ms.filter fun m => p m.born) := by
 induction hr with
 | nil => exact .nil
 | cons x m xs ms h hs ih =>
  simp only [List.filter_cons, h.2.2]
  cases p m.born
  ·simpa using ih
  ·simpa using Res.cons _ _ _ _ h ih
theorem Res.all {es : List (AV × AV × Nat)} {ms : List MapEntry} (hr : Res e es ms) (p : Nat → Bool) : (es.all fun x => p x.2.2) = (ms.all fun m => p m.born) := by
 induction hr with
 | nil => rfl
 | cons x m xs ms h hs ih => simp [h.2.2, ih]
theorem contains_list {seen : List Nat} {seen' : Array Nat} (h : seen'.toList = seen) (n : Nat) : seen'.contains n = seen.contains n := by
 rw [← h]; simp
theorem back_last : ∀ {l : List Nat} {n : Nat}, lastOf l = some n → l.getLast? = some n := by
 intro l
 induction l with
 | nil => intro n h; cases h
 | cons x l ih =>
  intro n h
  cases l with
  | nil => simp [lastOf] at h; subst h; rfl
  | cons y l =>
   have h' : lastOf (y :: l) = some n := h
   rw [List.getLast?_cons_cons]
   exact ih h'
theorem ok_next {x : Operand} {isS : Bool} (A : At C e t a h w) (hop : o.op = .next x isS) (hc : cop C o = some ao) (hr : aop ao t h = some r) : OpOk C.P e h w (execOp a.eval o) r := by
 unfold cop at hc
 rw [hop] at hc
 simp only [Option.map_eq_some_iff] at hc
 obtain ⟨y, hy, rfl⟩ := hc
 have hx := A.ev hy
 simp only [aop] at hr
 obtain ⟨v, h', hv, rfl⟩ := valH_some hr
 unfold execOp
 rw [hop]
 dsimp only
 unfold nextA at hv
 split at hv
 ·rename_i b hyp
  rw [hyp] at hx
  obtain ⟨im, him, hxe⟩ := hx.inv_ptr
  split at hv
  ·rename_i since seen last hb
   cases hv
   obtain ⟨ob, hob, hrb⟩ := A.hp.blocks _ _ _ hb him
   cases hrb with
   | miterN _ _ _ seen' hseen hbase =>
    have hget := run_getObj (P := C.P) hob (fun _ _ _ => by simp)
    refine OpOk.same A.hp ?_ (.tup _ #[.bool false] (.cons _ _ _ _ (.bool _) .nil))
    have hxe' : a.eval x = .pointer (some ⟨im.blk, 0, none⟩) := by rw [hxe, hbase]
    rw [hxe']
    unfold Instr.next
    show ((getObj im.blk >>= _) : Sem Value).run C.P w = _
    rw [Xf hget]
    rfl
  ·rename_i m since seen last hb
   obtain ⟨ob, hob, hrb⟩ := A.hp.blocks _ _ _ hb him
   cases hrb with
   | miter _ j _ _ _ seen' hm hseen hbase =>
    have hget := run_getObj (P := C.P) hob (fun _ _ _ => by simp)
    unfold nextMap at hv
    split at hv
    ·rename_i es clock hbm
     obtain ⟨om, hom, hrm⟩ := A.hp.blocks _ _ _ hbm hm
     cases hrm with
     | map _ _ ms hres =>
      have hgetm := run_getObj (P := C.P) hom (fun _ _ _ => by simp)
      split at hv
      ·cases hv
      ·rename_i hcnd
       have hemp : (!seen'.isEmpty && !ms.isEmpty && ms.all (·.born ≥ last)) = false := by
        have h1 : seen'.isEmpty = seen.isEmpty := by rw [← hseen]; simp [Array.isEmpty]
        have h2 : ms.isEmpty = es.isEmpty := by
         have h4 : ms.isEmpty = ms.toList.isEmpty := by simp
         rw [h4]
         have h5 := hres
         generalize ms.toList = l at h5 ⊢
         cases h5 <;> rfl
        have h3 : ms.all (·.born ≥ last) = es.all (fun e => Nat.ble last e.2.2) := by
         have := hres.all (fun n => decide (n ≥ last))
         rw [← Array.all_toList, ← this]
         congr 1
         funext x
         cases hb : Nat.ble last x.2.2 with
         | true => exact decide_eq_true (Nat.le_of_ble_eq_true hb)
         | false => exact decide_eq_false (by have := ble_false hb; omega)
        rw [h1, h2, h3]
        cases hh : (!seen.isEmpty && !es.isEmpty && es.all fun e => Nat.ble last e.2.2) with
        | false => rfl
        | true => rw [hh] at hcnd; simp at hcnd
       have hleft := hres.filter (fun n => !(seen.contains n))
       have hlm : (ms.filter fun e => !seen'.contains e.born).toList = ms.toList.filter fun m => !(seen.contains m.born) := by
        rw [Array.toList_filter]
        congr 1
        funext m
        rw [contains_list hseen]
       dsimp only at hv
       have start : ∀ {r2 : Result Value}, ((do
         let left := ms.filter fun e => !seen'.contains e.born
         let old := left.filter (·.born < since)
         let new := left.filter (·.born ≥ since)
         let candidates := (if old.isEmpty then #[none] else #[]) ++ (old ++ new).map some
         match candidates[← choose (.mapNext candidates.size)]? with
         | some (some e) =>
          setObj im.blk (.mapIter (some j.blk) since (seen'.push e.born) clock)
          pure (.tuple #[.bool true, e.key, e.val])
         | some none => pure (.tuple #[.bool false])
         | none => stuck "Next: no such candidate") : Sem Value).run C.P w = r2 → (Instr.next (a.eval x) false o.type).run C.P w = r2 := by
        intro r2 hrun
        have hxe' : a.eval x = .pointer (some ⟨im.blk, 0, none⟩) := by rw [hxe, hbase]
        rw [hxe']
        unfold Instr.next
        show ((getObj im.blk >>= _) : Sem Value).run C.P w = _
        rw [Xf hget]
        dsimp only
        rw [Xf hgetm]
        dsimp only
        rw [hemp]
        simp only [Bool.false_eq_true, if_false]
        exact hrun
       split at hv
       ·rename_i hnil
        cases hv
        have hl0 : ms.filter (fun e => !seen'.contains e.born) = #[] := by
         apply Array.toList_inj.1
         rw [hlm]
         rw [hnil] at hleft
         generalize ms.toList.filter (fun m => !(seen.contains m.born)) = q at hleft ⊢
         cases hleft
         rfl
        refine OpOk.same A.hp (start ?_) (.tup _ #[.bool false] (.cons _ _ _ _ (.bool _) .nil))
        rw [hl0]
        have hold : ((#[] : Array MapEntry).filter fun x => decide (x.born < since)) = #[] := by simp
        have hnew : ((#[] : Array MapEntry).filter fun x => decide (x.born ≥ since)) = #[] := by simp
        dsimp only
        rw [hold, hnew]
        have hc1 : ((if (#[] : Array MapEntry).isEmpty then #[none] else #[]) ++ (#[] ++ #[] : Array MapEntry).map some : Array (Option MapEntry)) = #[none] := by simp [Array.isEmpty]
        rw [hc1]
        rfl
       ·rename_i k val n hone
        cases hlt : Nat.blt n since with
        | false => rw [hlt] at hv; cases hv
        | true =>
         rw [hlt] at hv
         cases hv
         have hlt' : n < since := Nat.le_of_ble_eq_true hlt
         rw [hone] at hleft
         obtain ⟨me, hme, hmem⟩ : ∃ me, ms.filter (fun e => !seen'.contains e.born) = #[me] ∧ Re e (k, val, n) me := by
          generalize hq : ms.toList.filter (fun m => !(seen.contains m.born)) = q at hleft hlm
          cases hleft with
          | cons _ me _ ms2 h1 h2 =>
           cases h2
           exact ⟨me, Array.toList_inj.1 hlm, h1⟩
         have hborn : me.born = n := hmem.2.2.symm
         have hp := post_set A.hp hb rfl him (.miter m j since clock (seen ++ [n]) (seen'.push n) hm (by rw [Array.toList_push, hseen]) hbase)
         refine OpOk.val (start ?_) (.tup _ #[.bool true, me.key, me.val] (.cons _ _ _ _ (.bool _) (.cons _ _ _ _ hmem.1 (.cons _ _ _ _ hmem.2.1 .nil)))) hp
         rw [hme]
         have hold : (#[me].filter fun x => decide (x.born < since)) = #[me] := by simp [hborn, hlt']
         have hnew : (#[me].filter fun x => decide (x.born ≥ since)) = #[] := by simp [hborn]; omega
         dsimp only
         rw [hold, hnew]
         have hc1 : ((if (#[me] : Array MapEntry).isEmpty then #[none] else #[]) ++ (#[me] ++ #[]).map some : Array (Option MapEntry)) = #[some me] := by simp [Array.isEmpty]
         rw [hc1]
         have hch : (choose (.mapNext (#[some me] : Array (Option MapEntry)).size)).run C.P w = .ok 0 w := rfl
         rw [Xf hch]
         have hg0 : (#[some me] : Array (Option MapEntry))[0]? = some (some me) := rfl
         rw [hg0]
         dsimp only
         rw [hborn, Xf (run_setObj hob (fun _ _ _ => by simp))]
         rfl
       ·cases hv
    ·cases hv
  ·cases hv
 ·cases hv
theorem born_sound {n : Nat} {v : AV} : ∀ {es : List (AV × AV × Nat)} {ms : List MapEntry}, bornA n es = some v → Res e es ms → ∃ m, ms.find? (·.born == n) = some m ∧ Rv e v (.tuple #[m.key, m.val]) := by
 intro es
 induction es with
 | nil => intro ms h; cases h
 | cons x es ih =>
  intro ms h hr
  obtain ⟨k, u, b⟩ := x
  cases hr with
  | cons _ m _ ms hm hms =>
   unfold bornA at h
   cases hb : Nat.beq b n with
   | true =>
    rw [hb] at h
    cases h
    have := Nat.eq_of_beq_eq_true hb
    refine ⟨m, ?_, .tup _ _ (.cons _ _ _ _ hm.1 (.cons _ _ _ _ hm.2.1 .nil))⟩
    rw [List.find?_cons_of_pos]
    have h2 := hm.2.2
    simp only at h2
    simp; omega
   | false =>
    rw [hb] at h
    obtain ⟨m2, h1, h2⟩ := ih h hms
    refine ⟨m2, ?_, h2⟩
    rw [List.find?_cons_of_neg]
    ·exact h1
    ·have h3 := hm.2.2
     have := Nat.ne_of_beq_eq_false hb
     simp only at h3
     simp; omega
theorem ok_entry {x : Operand} (A : At C e t a h w) (hop : o.op = .entry x) (hc : cop C o = some ao) (hr : aop ao t h = some r) : OpOk C.P e h w (execOp a.eval o) r := by
 unfold cop at hc
 rw [hop] at hc
 simp only [Option.map_eq_some_iff] at hc
 obtain ⟨y, hy, rfl⟩ := hc
 have hx := A.ev hy
 simp only [aop] at hr
 obtain ⟨v, hv, rfl⟩ := valOf_some hr
 unfold execOp
 rw [hop]
 dsimp only
 unfold entryA at hv
 split at hv
 ·rename_i b hyp
  rw [hyp] at hx
  obtain ⟨im, him, hxe⟩ := hx.inv_ptr
  split at hv
  ·rename_i m since seen stepped hb
   obtain ⟨ob, hob, hrb⟩ := A.hp.blocks _ _ _ hb him
   cases hrb with
   | miter _ j _ _ _ seen' hm hseen hbase =>
    have hget := run_getObj (P := C.P) hob (fun _ _ _ => by simp)
    split at hv
    ·rename_i n es clock hlast hbm
     obtain ⟨om, hom, hrm⟩ := A.hp.blocks _ _ _ hbm hm
     cases hrm with
     | map _ _ ms hres =>
      have hgetm := run_getObj (P := C.P) hom (fun _ _ _ => by simp)
      cases hcl : Nat.beq clock stepped with
      | false => rw [hcl] at hv; cases hv
      | true =>
       rw [hcl] at hv
       have hcs := Nat.eq_of_beq_eq_true hcl
       obtain ⟨me, hfind, hval⟩ := born_sound hv hres
       have hxe' : a.eval x = .pointer (some ⟨im.blk, 0, none⟩) := by rw [hxe, hbase]
       have hback : seen'.back? = some n := by
        have := back_last hlast
        rw [← hseen] at this
        rw [← Array.getLast?_toList]; exact this
       refine OpOk.same A.hp ?_ hval
       rw [hxe']
       unfold Instr.entry
       show ((getObj im.blk >>= _) : Sem Value).run C.P w = _
       rw [Xf hget]
       show ((match seen'.back? with
        | some stamp => _
        | _ => _) : Sem Value).run C.P w = _
       rw [hback]
       dsimp only
       rw [Xf hgetm]
       dsimp only
       have hne : (clock != stepped) = false := by simp [hcs]
       rw [hne]
       simp only [Bool.false_eq_true, if_false]
       have hf2 : ms.find? (·.born == n) = some me := by rw [← Array.find?_toList]; exact hfind
       rw [hf2]
       rfl
    ·cases hv
  ·cases hv
 ·cases hv
end Go.AM
namespace Go.AM
open Go
variable {C : Ctx} {e : Env} {t : Tm} {a : Act} {h : Heap} {w : World} {o : Oper} {ao : AOp} {r : ARes}
theorem minMax_sound {mx : Bool} : ∀ {l : List AV} {xs : List Value} {x : AV} {x' : Value} {v : AV}, minMax mx x l = some v → Rv e x x' → Rl e l xs → ∀ w : World, ∃ u, (xs.foldlM (if mx then Builtin.max2 else Builtin.min2) x').run C.P w = .ok u w ∧ Rv e v u := by
 intro l
 induction l with
 | nil => intro xs x x' v h hx hl w; cases hl; simp [minMax] at h; subst h; exact ⟨x', rfl, hx⟩
 | cons y l ih =>
  intro xs x x' v h hx hl w
  cases hl with
  | cons _ y' _ ys hy hys =>
   unfold minMax at h
   split at h
   ·rename_i k a1 k2 b1
    split at h
    ·rename_i hk
     subst hk
     have hstep : ((if mx then Builtin.max2 else Builtin.min2) x' y').run C.P w = .ok (.int k (bif mx then (bif leI b1 a1 then a1 else b1) else (bif leI a1 b1 then a1 else b1))) w := by
      rw [hx.inv_int, hy.inv_int]
      cases mx with
      | true =>
       show Result.ok (Value.int k (if b1 > a1 then b1 else a1)) w = Result.ok (Value.int k (bif leI b1 a1 then a1 else b1)) w
       congr 2
       rw [leI_eq]
       by_cases hle : b1 ≤ a1
       ·rw [if_neg (by omega)]; simp [hle]
       ·rw [if_pos (by omega)]; simp [hle]
      | false =>
       show Result.ok (Value.int k (if b1 < a1 then b1 else a1)) w = Result.ok (Value.int k (bif leI a1 b1 then a1 else b1)) w
       congr 2
       rw [leI_eq]
       by_cases hle : a1 ≤ b1
       ·rw [if_neg (by omega)]; simp [hle]
       ·rw [if_pos (by omega)]; simp [hle]
     rw [List.foldlM_cons, Xf hstep]
     exact ih h (.int _ _) hys w
    ·cases h
   ·cases h
theorem nextcap_le (n c : Nat) (h : c < n) : Builtin.nextslicecap n c ≤ 2 * n + 1000 := by
 have grow : ∀ (k c : Nat), c ≤ 2 * n + 1000 → Builtin.growBy n k c ≤ 2 * n + 1000 ∨ Builtin.growBy n k c ≤ c := by
  intro k
  induction k with
  | zero => intro c hc; exact .inl hc
  | succ k ih =>
   intro c hc
   unfold Builtin.growBy
   split
   ·exact .inl hc
   ·rename_i hlt
    have : c + (c + 768) / 4 ≤ 2 * n + 1000 := by omega
    rcases ih _ this with h1 | h1
    ·exact .inl h1
    ·exact .inl (by omega)
 unfold Builtin.nextslicecap
 split
 ·omega
 ·split
  ·omega
  ·rcases grow 4 c (by omega) with h1 | h1
   ·exact h1
   ·omega
theorem append_room {st el : TypeId} {xt : TypeId} {d : TypeDesc} {ats : Array TypeId} (h0 : ats[0]? = some st) (h1 : ats[1]? = some xt) (hst : C.P.underlying st = some (.slice el)) (hxt : C.P.underlying xt = some d) (hd : ∀ k, d ≠ .int k)
  {ti : TypeInfo} (hti : C.P.info? el = some ti) {ty : TypeId} {base : Option Addr} {len cap n : Nat} {x : Value} {xs : Array Value} (hlen : (Builtin.lenOf x).run C.P w = .ok n w) (hcells : (Builtin.firstCells ti.size n x).run C.P w = .ok xs w) (hroom : len + n ≤ cap) :
  (Builtin.append_ ats ty #[.slice base len cap, x]).run C.P w = (match base with
   | some a => (do storeCells (a.add (len * ti.size)) xs.toList; pure (.slice base (len + n) cap) : Sem Value)
   | none => pure (.slice base (len + n) cap)).run C.P w := by
 unfold Builtin.append_
 have e0 : (#[Value.slice base len cap, x] : Array Value)[0]? = some (.slice base len cap) := rfl
 have e1 : (#[Value.slice base len cap, x] : Array Value)[1]? = some x := rfl
 rw [h0, e0, e1]
 dsimp only
 rw [Xf (Xn hst w)]
 dsimp only
 rw [Xf (run_size hti w), h1]
 dsimp only
 rw [Xf (Xn hxt w)]
 cases d <;> first | exact absurd rfl (hd _) | skip
 all_goals
  rw [Xf (run_pure _ w)]
  simp only [Bool.false_eq_true, if_false, Bool.not_false, if_true]
  rw [Xf hlen, if_pos hroom, Xf hcells]
  cases base <;> rfl
theorem append_grow {st el : TypeId} {xt : TypeId} {d : TypeDesc} {ats : Array TypeId} (h0 : ats[0]? = some st) (h1 : ats[1]? = some xt) (hst : C.P.underlying st = some (.slice el)) (hxt : C.P.underlying xt = some d) (hd : ∀ k, d ≠ .int k)
  {ti : TypeInfo} (hti : C.P.info? el = some ti) {zv : Value} (hzv : ti.zero = some zv) {ty : TypeId} {base : Option Addr} {len cap n : Nat} {x : Value} {xs ys : Array Value} (hlen : (Builtin.lenOf x).run C.P w = .ok n w)
  (hcells : ∀ q, (Builtin.firstCells ti.size n x).run C.P { w with drawn := q } = .ok xs { w with drawn := q })
  (hold : ∀ q, (Builtin.firstCells ti.size len (.slice base len cap)).run C.P { w with drawn := q } = .ok ys { w with drawn := q })
  (hroom : ¬ len + n ≤ cap) (hlim : (len + n) * (ti.bytes + 1) ≤ bigLim) :
  ∃ c q, len + n ≤ c ∧ (Builtin.append_ ats ty #[.slice base len cap, x]).run C.P w =
   .ok (.slice (some ⟨w.heap.size, 0, none⟩) (len + n) c) { w with drawn := q, heap := w.heap.push (.cells (ys ++ xs ++ Builtin.zeroCells zv.cells (c - (len + n))) el) } := by
 obtain ⟨c, q, hch, _, hcut⟩ := run_choose (P := C.P) (.appendCap (len + n) cap el) w
 have hcn : len + n ≤ c := by
  rw [hcut rfl]
  simp only [Question.cut]; omega
 refine ⟨c, q, hcn, ?_⟩
 have hmul : (len + n) * (ti.bytes + 1) = (len + n) * ti.bytes + (len + n) := by rw [Nat.mul_add, Nat.mul_one]
 have hsmall : len + n ≤ bigLim := by omega
 unfold bigLim at hlim hsmall
 have hno1 : ¬ (((len + n : Nat) : Int) > IntKind.i64.max ∧ (false = true ∨ ti.bytes = 0)) := by
  have : IntKind.i64.max = 9223372036854775807 := by decide
  rw [this]; omega
 have hcapb := nextcap_le (len + n) cap (by omega)
 have hno2 : ¬ (Builtin.nextslicecap (len + n) cap * ti.bytes > 2 ^ 48) := by
  have h3 : Builtin.nextslicecap (len + n) cap * ti.bytes ≤ (2 * (len + n) + 1000) * ti.bytes := Nat.mul_le_mul_right _ hcapb
  have h4 : (2 * (len + n) + 1000) * ti.bytes = 2 * ((len + n) * ti.bytes) + 1000 * ti.bytes := by
   rw [Nat.add_mul, Nat.mul_assoc]
  have h5 : ti.bytes ≤ (len + n) * ti.bytes := Nat.le_mul_of_pos_left _ (by omega)
  omega
 unfold Builtin.append_
 have e0 : (#[Value.slice base len cap, x] : Array Value)[0]? = some (.slice base len cap) := rfl
 have e1 : (#[Value.slice base len cap, x] : Array Value)[1]? = some x := rfl
 rw [h0, e0, e1]
 dsimp only
 rw [Xf (Xn hst w)]
 dsimp only
 rw [Xf (run_size hti w), h1]
 dsimp only
 rw [Xf (Xn hxt w)]
 cases d <;> first | exact absurd rfl (hd _) | skip
 all_goals
  rw [Xf (run_pure _ w)]
  simp only [Bool.false_eq_true, if_false, Bool.not_false, if_true]
  rw [Xf hlen, if_neg hroom, Xf (run_info hti w)]
  simp only [Bool.false_eq_true, false_or] at hno1 ⊢
  rw [if_neg hno1, Xf (run_info hti w), if_neg hno2, Xf hch, Xf (run_info hti _), Xf (askRoom_run _ _), Xf (hold q), Xf (hcells q), Xf (run_zero hti hzv _)]
  rfl
end Go.AM
namespace Go.AM
open Go
variable {C : Ctx} {e : Env} {t : Tm} {a : Act} {h : Heap} {w : World} {o : Oper} {ao : AOp} {r : ARes}
structure Appends (P : Program) (w : World) (s : Value → Sem Value) (el : TypeId) (z n : Nat) (xs : Array Value) (zs : Array Value) (lim : Nat → Prop) : Prop where
 room : ∀ base len cap, len + n ≤ cap → (s (.slice base len cap)).run P w = (match base with
   | some a => (do storeCells (a.add (len * z)) xs.toList; pure (.slice base (len + n) cap) : Sem Value)
   | none => pure (.slice base (len + n) cap)).run P w
 grow : ∀ base len cap (ys : Array Value), (∀ q, (Builtin.firstCells z len (.slice base len cap)).run P { w with drawn := q } = .ok ys { w with drawn := q }) → ¬ len + n ≤ cap → lim (len + n) →
  ∃ c q, len + n ≤ c ∧ (s (.slice base len cap)).run P w =
   .ok (.slice (some ⟨w.heap.size, 0, none⟩) (len + n) c) { w with drawn := q, heap := w.heap.push (.cells (ys ++ xs ++ Builtin.zeroCells zs (c - (len + n))) el) }
theorem zeroCells_size (zs : Array Value) (n : Nat) : (Builtin.zeroCells zs n).size = n * zs.size := by simp [Builtin.zeroCells]
theorem post_grown (hH : RelH e h w) {el : TypeId} {z : Nat} (hz : 0 < z) {vs : List AV} {ys zs : Array Value} (hv : Rl e vs ys.toList) {m c : Nat} (hm : vs.length = m * z) (hc : m ≤ c) (hzs : zs.size = z) (q : Nat) :
  ∃ e', Post e h w e' (h.new (.cells false true el z vs)) { w with drawn := q, heap := w.heap.push (.cells (ys ++ Builtin.zeroCells zs (c - m)) el) } ∧
   Rv e' (.sl h.next 0 m (.op 0)) (.slice (some ⟨w.heap.size, 0, none⟩) m c) := by
 have hl := hv.length
 have hsz : (ys ++ Builtin.zeroCells zs (c - m)).size = c * z := by
  rw [Array.size_append, zeroCells_size, hzs]
  have : ys.size = m * z := by simp at hl; omega
  rw [this, ← Nat.add_mul]; congr 1; omega
 refine ⟨e.set h.next ⟨w.heap.size, 0, z, c * z⟩, ?_, ?_⟩
 ·refine (post_new (hH.drawn q) _ _ 0 z (c * z) (.cells _ _ _ _ _ _ _ _ rfl ?_ ?_ ?_)).of_drawn
  ·show Rl _ vs (((ys ++ Builtin.zeroCells zs (c - m)).toList.drop 0).take vs.length)
   rw [List.drop_zero, Array.toList_append, List.take_append_of_le_length (by omega), List.take_of_length_le (by omega)]
   exact hv.mono (hH.set_le _)
  ·intro _ k _ hk; simp at hk
  ·intro _; rw [hsz]; simp
 ·have := Rv.slO (e := e.set h.next ⟨w.heap.size, 0, z, c * z⟩) h.next 0 m c 0 ⟨w.heap.size, 0, z, c * z⟩ (set_next _ _ _) hz (by simp) hc
  simpa using this
theorem post_inplace (hH : RelH e h w) {P : Program} {b : Id} {i : Img} {el0 : TypeId} {z : Nat} {cs : List AV} (hz : 0 < z) (hb : h.get b = some (.cells false true el0 z cs)) (hi : e b = some i)
  {arr : Array Value} {el' : TypeId} {fr : Nat × Nat} (hob : w.heap[i.blk]? = some (.cells arr el' fr)) (hfr : ∀ k, k < arr.size → ¬ (fr.1 ≤ k ∧ k < fr.2))
  {q len n c : Nat} {old new : List AV} {xs : List Value} (hold : Rl e old ((arr.toList.drop q).take old.length)) (holen : old.length = len * z) (hnew : Rl e new xs) (hnlen : new.length = n * z) (hone : new.all oneA = true)
  (hsize : q + c * z = arr.size) (hroom : len + n ≤ c) (el : TypeId) :
  ∃ e' w', (storeCells ⟨i.blk, q + len * z, none⟩ xs).run P w = .ok () w' ∧ Post e h w e' ((h.kill b).new (.cells false true el z (old ++ new))) w' ∧
   Rv e' (.sl h.next 0 (len + n) (.op 0)) (.slice (some ⟨i.blk, q, none⟩) (len + n) c) := by
 have hxl := hnew.length
 have hmul : (len + n) * z ≤ c * z := Nat.mul_le_mul_right _ hroom
 have hsplit : (len + n) * z = len * z + n * z := Nat.add_mul _ _ _
 have hrun := run_storeCells (P := P) (b := i.blk) (o := q + len * z) xs 0 w arr hob (one_of hnew hone) (by omega) hfr
 rw [Nat.add_zero] at hrun
 refine ⟨e.set h.next ⟨i.blk, q, z, c * z⟩, _, hrun, ?_, ?_⟩
 ·have hlen2 : (over arr.toList (q + len * z) xs).length = arr.size := by rw [over_length (by simp; omega)]; simp
  refine post_adopt hH q z (c * z) hb rfl hi (.cells _ _ _ _ _ _ _ _ rfl ?_ ?_ ?_)
  ·show Rl _ (old ++ new) (((over arr.toList (q + len * z) xs).drop q).take (old ++ new).length)
   have hL : (old ++ new).length = len * z + n * z := by simp [holen, hnlen]
   rw [hL, over_drop (by simp; omega), over_take (by omega) (by simp; omega)]
   have h1 : Rl e (old ++ new) (over ((arr.toList.drop q).take (len * z + n * z)) (len * z) xs) := by
    unfold over
    have t1 : ((arr.toList.drop q).take (len * z + n * z)).take (len * z) = (arr.toList.drop q).take old.length := by
     rw [List.take_take, holen]; congr 1; omega
    have t2 : ((arr.toList.drop q).take (len * z + n * z)).drop (len * z + xs.length) = [] := by
     apply List.drop_eq_nil_of_le
     simp; omega
    rw [t1, t2, List.append_nil]
    exact hold.append hnew
   exact h1.mono (hH.set_le _)
  ·intro _ k hk
   simp only [List.size_toArray] at hk
   exact hfr k (by omega)
  ·intro _
   simp only [List.size_toArray]
   omega
 ·have := Rv.slO (e := e.set h.next ⟨i.blk, q, z, c * z⟩) h.next 0 (len + n) c 0 ⟨i.blk, q, z, c * z⟩ (set_next _ _ _) hz (by simp) hroom
  simpa using this
theorem appendA_sound (hH : RelH e h w) {P : Program} {s : Value → Sem Value} {el bytes z n : Nat} (hz : 0 < z) {new : List AV} {xs zs : Array Value} (hnew : Rl e new xs.toList) (hlen : new.length = n * z) (hzs : zs.size = z)
  (hA : Appends P w s el z n xs zs (fun m => m * (bytes + 1) ≤ bigLim)) {x : AV} {x' : Value} (hx : Rv e x x') {v : AV} {h' : Heap} (hv : appendA el bytes z x (some (n, new)) h = some (v, h')) :
  ∃ e' y w', (s x').run P w = .ok y w' ∧ Rv e' v y ∧ Post e h w e' h' w' := by
 have hxl := hnew.length
 unfold appendA at hv
 dsimp only at hv
 split at hv
 ·cases hv
 rename_i hone
 have nil0 : n = 0 → xs.toList = [] := by
  intro h0
  rw [h0, Nat.zero_mul] at hlen
  rw [hlen] at hxl
  exact List.eq_nil_of_length_eq_zero hxl.symm
 have fresh0 : ∀ {hh : Heap} {x2 : Value} {base : Option Addr} {cap : Nat}, RelH e hh w → x' = .slice base 0 cap → ¬ 0 + n ≤ cap → (bif Nat.ble ((0 + n) * (bytes + 1)) bigLim then some (AV.sl hh.next 0 (0 + n) (.op 0), hh.new (.cells false true el z ([] ++ new))) else none) = some (v, h') →
   ∃ e' y w', (s x').run P w = .ok y w' ∧ Rv e' v y ∧ Post e hh w e' h' w' := by
  intro hh x2 base cap hHH hxe hno hf
  cases hb : Nat.ble ((0 + n) * (bytes + 1)) bigLim with
  | false => rw [hb] at hf; cases hf
  | true =>
   rw [hb] at hf
   cases hf
   have hlim := Nat.le_of_ble_eq_true hb
   have hold : ∀ q, (Builtin.firstCells z 0 (.slice base 0 cap)).run P { w with drawn := q } = .ok #[] { w with drawn := q } := by
    intro q
    cases base with
    | none => rfl
    | some p => simp only [Builtin.firstCells, Nat.zero_mul]; rfl
   obtain ⟨c, q, hc, hrun⟩ := hA.grow base 0 cap #[] hold hno hlim
   obtain ⟨e', hp, hrv⟩ := post_grown hHH (el := el) hz (vs := [] ++ new) (ys := #[] ++ xs) (zs := zs) (by simpa using hnew) (m := 0 + n) (c := c) (by simpa using hlen) hc hzs q
   exact ⟨e', _, _, by rw [hxe]; exact hrun, hrv, hp⟩
 split at hv
 ·
  have hxe := hx.inv_snil
  split at hv
  ·cases hv
   have hroom := hA.room none 0 0 (by omega)
   exact ⟨e, _, w, by rw [hxe, hroom]; rfl, .snil, .refl hH⟩
  ·rename_i hn0
   exact fresh0 (x2 := x') hH hxe (by intro hh; exact hn0 (by omega)) hv
 ·
  obtain ⟨p, hxe⟩ := hx.inv_sl0
  split at hv
  ·cases hv
   have hroom := hA.room (some p) 0 0 (by omega)
   dsimp only at hroom
   rw [nil0 rfl] at hroom
   exact ⟨e, _, w, by rw [hxe, hroom]; rfl, .sl0 p, .refl hH⟩
  ·rename_i hn0
   exact fresh0 (x2 := x') hH hxe (by intro hh; exact hn0 (by omega)) hv
 ·
  rename_i b
  obtain ⟨p, c, i, hxe, hi, hiz, hor⟩ := hx.inv_slx
  split at hv
  ·cases hv
   have hroom := hA.room (some p) 0 c (by omega)
   dsimp only at hroom
   rw [nil0 rfl] at hroom
   exact ⟨e, _, w, by rw [hxe, hroom]; rfl, .slx b p c i hi hiz hor, .refl hH⟩
  ·rename_i hn0
   split at hv
   ·rename_i e2 z2 cs hb
    cases hbb : (Nat.beq e2 el && Nat.beq z2 z) with
    | false => rw [hbb] at hv; cases hv
    | true =>
     rw [hbb] at hv
     simp only [Bool.and_eq_true] at hbb
     have hz2 := Nat.eq_of_beq_eq_true hbb.2
     have hnext : (h.kill b).next = h.next := rfl
     by_cases hroomc : 0 + n ≤ c
     ·
      obtain ⟨ob, hob, hrb⟩ := hH.blocks _ _ _ hb hi
      cases hrb with
      | cells _ _ _ _ _ arr el' fr hzi hcs hfr hsp =>
       have hspr := hsp rfl
       have hcpos : c ≠ 0 := by intro hh; exact hn0 (by omega)
       obtain ⟨p1, p2, p3, p4⟩ := hor.resolve_left hcpos
       simp only [cond_true] at hv
       cases hbl : Nat.ble ((0 + n) * (bytes + 1)) bigLim with
       | false => rw [hbl] at hv; cases hv
       | true =>
        rw [hbl] at hv
        cases hv
        have hiz' : i.z = z := by rw [hzi, hz2]
        rw [hiz'] at p4
        have hpe : p = ⟨i.blk, p.off, none⟩ := by cases p; simp only at p1 p2; subst p1; subst p2; rfl
        subst hz2
        obtain ⟨e', w', g1, g2, g3⟩ := post_inplace (P := P) hH hz hb hi hob (hfr rfl) (q := p.off) (len := 0) (n := n) (c := c) (old := []) (by simpa using Rl.nil) (by simp) hnew hlen hone (by omega) hroomc el
        refine ⟨e', _, w', ?_, g3, g2⟩
        rw [hxe, hA.room (some p) 0 c hroomc]
        dsimp only
        have hadd : p.add (0 * z2) = ⟨i.blk, p.off + 0 * z2, none⟩ := by rw [hpe, Addr.add_at]
        rw [hadd, Xf g1, ← hpe]
        rfl
     ·have := fresh0 (x2 := x') (post_kill hH hi).rel hxe hroomc hv
      obtain ⟨e', y, w', g1, g2, g3⟩ := this
      exact ⟨e', y, w', g1, g2, (post_kill hH hi).trans g3⟩
   ·cases hv
 ·
  rename_i b off len c
  obtain ⟨i, hi, hxe⟩ := hx.inv_slE
  cases hle : Nat.ble (len + n) c with
  | true =>
   have hroom := Nat.le_of_ble_eq_true hle
   rw [hle] at hv
   simp only [cond_true, Option.map_eq_some_iff] at hv
   obtain ⟨h2, hst, hv⟩ := hv
   cases hv
   obtain ⟨w', g1, g2⟩ := store_sound (P := P) hH hi hst hnew
   refine ⟨e, _, w', ?_, .slE _ _ _ _ _ hi, g2⟩
   rw [hxe, hA.room _ len c hroom]
   dsimp only
   rw [Addr.add_at, Nat.add_assoc, Xf g1]
   rfl
  | false =>
   have hno : ¬ len + n ≤ c := by have := ble_false hle; omega
   rw [hle] at hv
   simp only [cond_false] at hv
   split at hv
   ·rename_i old hold
    cases hb : Nat.ble ((len + n) * (bytes + 1)) bigLim with
    | false => rw [hb] at hv; cases hv
    | true =>
     rw [hb] at hv
     cases hv
     have hlim := Nat.le_of_ble_eq_true hb
     obtain ⟨ys, hys, hyr, hyl⟩ : ∃ ys : Array Value, (∀ q, (Builtin.firstCells z len (.slice (some ⟨i.blk, i.base + off, none⟩) len c)).run P { w with drawn := q } = .ok ys { w with drawn := q }) ∧ Rl e old ys.toList ∧ old.length = len * z := by
      have hsrc : source z (.sl b off len (.ex c)) h = some (len, old) := by show (h.cells b off (len * z)).map _ = _; rw [hold]; rfl
      have hx2 : Rv e (.sl b off len (.ex c)) (.slice (some ⟨i.blk, i.base + off, none⟩) len c) := .slE _ _ _ _ _ hi
      obtain ⟨_, ys, h1, h2, h3⟩ := source_sound (C := ⟨P, [], 0⟩) hH hx2 hsrc
      exact ⟨ys, h1, h2, h3⟩
     obtain ⟨c2, q, hc2, hrun⟩ := hA.grow _ len c ys hys hno hlim
     obtain ⟨e', hp, hrv⟩ := post_grown hH (el := el) hz (vs := old ++ new) (ys := ys ++ xs) (zs := zs) (by rw [Array.toList_append]; exact hyr.append hnew) (m := len + n) (c := c2)
      (by rw [List.length_append, hyl, hlen, Nat.add_mul]) hc2 hzs q
     exact ⟨e', _, _, by rw [hxe]; exact hrun, hrv, hp⟩
   ·cases hv
 ·
  rename_i b off len d
  obtain ⟨i, c, hi, hxe, hiz, hct, hlc⟩ := hx.inv_slO
  split at hv
  ·cases hv
   have hroom := hA.room (some ⟨i.blk, i.base + off, none⟩) len c (by omega)
   dsimp only at hroom
   rw [nil0 rfl] at hroom
   exact ⟨e, _, w, by rw [hxe, hroom]; rfl, .slO _ _ _ _ _ _ hi hiz hct hlc, .refl hH⟩
  ·rename_i hn0
   split at hv
   ·rename_i e2 z2 cs hb
    cases hbb : (Nat.beq e2 el && Nat.beq z2 z) with
    | false => rw [hbb] at hv; cases hv
    | true =>
     rw [hbb] at hv
     simp only [Bool.and_eq_true] at hbb
     have hz2 := Nat.eq_of_beq_eq_true hbb.2
     subst hz2
     simp only [cond_true] at hv
     obtain ⟨ob, hob, hrb⟩ := hH.blocks _ _ _ hb hi
     cases hrb with
     | cells _ _ _ _ _ arr el' fr hzi hcs hfr hsp =>
      have hspr := hsp rfl
      rw [hzi] at hct hiz
      cases hknown : Nat.ble (off + (len + n) * z2) cs.length with
      | true =>
       have hk := Nat.le_of_ble_eq_true hknown
       rw [hknown] at hv
       simp only [cond_true, Option.map_eq_some_iff] at hv
       obtain ⟨h2, hst, hv⟩ := hv
       cases hv
       have hle : cs.length ≤ i.tot := by
        rcases cells_known hcs with hk | hk
        ·rw [hk]; simp
        ·omega
       have hroom : len + n ≤ c := by
        have : (len + n) * z2 ≤ c * z2 := by omega
        exact Nat.le_of_mul_le_mul_right this hz
       obtain ⟨w', g1, g2⟩ := store_sound (P := P) hH hi hst hnew
       refine ⟨e, _, w', ?_, .slO _ _ _ c _ _ hi (by omega) (by rw [hzi]; exact hct) hroom, g2⟩
       rw [hxe, hA.room _ len c hroom]
       dsimp only
       rw [Addr.add_at, Nat.add_assoc, Xf g1]
       rfl
      | false =>
       rw [hknown] at hv
       simp only [cond_false] at hv
       split at hv
       ·rename_i old hold
        cases hbl : Nat.ble ((len + n) * (bytes + 1)) bigLim with
        | false => rw [hbl] at hv; cases hv
        | true =>
         rw [hbl] at hv
         cases hv
         have hlim := Nat.le_of_ble_eq_true hbl
         obtain ⟨p1, p2⟩ := part_of_cells hcs hold
         have hol := (takeAt_some hold).2
         by_cases hroom : len + n ≤ c
         ·obtain ⟨e', w', g1, g2, g3⟩ := post_inplace (P := P) hH hz hb hi hob (hfr rfl) (q := i.base + off) (len := len) (n := n) (c := c) (old := old) (by rw [hol]; exact p1) hol hnew hlen hone (by omega) hroom el
          refine ⟨e', _, w', ?_, g3, g2⟩
          rw [hxe, hA.room _ len c hroom]
          dsimp only
          rw [Addr.add_at, Xf g1]
          rfl
         ·have hsrc : source z2 (.sl b off len (.op d)) h = some (len, old) := by
           show (h.cells b off (len * z2)).map _ = _
           unfold Heap.cells
           rw [hb]
           dsimp only
           rw [hold]; rfl
          have hx2 : Rv e (.sl b off len (.op d)) (.slice (some ⟨i.blk, i.base + off, none⟩) len c) := .slO _ _ _ _ _ _ hi (by omega) (by rw [hzi]; exact hct) hlc
          obtain ⟨_, ys, hys, hyr, hyl⟩ := source_sound (C := ⟨P, [], 0⟩) hH hx2 hsrc
          obtain ⟨c2, q, hc2, hrun⟩ := hA.grow _ len c ys hys hroom hlim
          obtain ⟨e', hp, hrv⟩ := post_grown (post_kill hH hi).rel (el := el) hz (vs := old ++ new) (ys := ys ++ xs) (zs := zs) (by rw [Array.toList_append]; exact hyr.append hnew) (m := len + n) (c := c2)
           (by rw [List.length_append, hyl, hlen, Nat.add_mul]) hc2 hzs q
          exact ⟨e', _, _, by rw [hxe]; exact hrun, hrv, (post_kill hH hi).trans hp⟩
       ·cases hv
   ·cases hv
 ·cases hv
end Go.AM
namespace Go.AM
open Go
variable {C : Ctx} {e : Env} {t : Tm} {a : Act} {h : Heap} {w : World} {o : Oper} {ao : AOp} {r : ARes}
theorem append_make {st el : TypeId} {xt : TypeId} {k : IntKind} {ats : Array TypeId} (h0 : ats[0]? = some st) (h1 : ats[1]? = some xt) (hst : C.P.underlying st = some (.slice el)) (hxt : C.P.underlying xt = some (.int k))
  {ti : TypeInfo} (hti : C.P.info? el = some ti) {zv : Value} (hzv : ti.zero = some zv) {ty : TypeId} {kk : IntKind} {n : Nat} (hn : n * (ti.bytes + 1) ≤ bigLim) :
  Appends C.P w (fun s => Builtin.append_ ats ty #[s, .int kk (Int.ofNat n)]) el ti.size n (if n * ti.size = 0 then #[] else Builtin.zeroCells zv.cells n) zv.cells (fun m => m * (ti.bytes + 1) ≤ bigLim) := by
 have hnn : n * (ti.bytes + 1) = n * ti.bytes + n := by rw [Nat.mul_add, Nat.mul_one]
 have hwrap : IntKind.i64.wrap (Int.ofNat n) = Int.ofNat n := wrap64 (by omega)
 have hneg : ¬ ((Int.ofNat n) < 0) := by simp
 have hbig : ¬ ((Int.ofNat n) * (ti.bytes : Int) > 2 ^ 48) := by
  have : (Int.ofNat n) * (ti.bytes : Int) = ((n * ti.bytes : Nat) : Int) := by simp
  rw [this]
  unfold bigLim at hn
  omega
 have hasInt : (asInt (.int kk (Int.ofNat n))).run C.P w = .ok (Int.ofNat n) w := rfl
 have mk : ∀ w', (do pure (Builtin.zeroCells (← zeroValue el).cells n) : Sem (Array Value)).run C.P w' = .ok (Builtin.zeroCells zv.cells n) w' := by
  intro w'
  rw [Xf (run_zero hti hzv _)]; rfl
 constructor
 ·intro base len cap hroom
  show (Builtin.append_ ats ty #[.slice base len cap, .int kk (Int.ofNat n)]).run C.P w = _
  unfold Builtin.append_
  have e0 : (#[Value.slice base len cap, .int kk (Int.ofNat n)] : Array Value)[0]? = some (.slice base len cap) := rfl
  have e1 : (#[Value.slice base len cap, .int kk (Int.ofNat n)] : Array Value)[1]? = some (.int kk (Int.ofNat n)) := rfl
  rw [h0, e0, e1]
  dsimp only
  rw [Xf (Xn hst w)]
  dsimp only
  rw [Xf (run_size hti w), h1]
  dsimp only
  rw [Xf (Xn hxt w), Xf (run_pure _ w)]
  simp only [if_true, Bool.not_true, Bool.false_eq_true, if_false]
  rw [Xf hasInt, hwrap, if_neg hneg, Xf (run_info hti w), if_neg hbig, Xf (run_pure _ w)]
  simp only [Int.ofNat_eq_natCast, Int.toNat_natCast]
  rw [if_pos hroom]
  split
  ·rename_i hz
   rw [Xf (run_pure _ w)]
   cases base <;> rfl
  ·rename_i hz
   rw [Xf (mk w)]
   cases base <;> rfl
 ·intro base len cap ys hold hroom hlim
  obtain ⟨c, q, hch, _, hcut⟩ := run_choose (P := C.P) (.appendCap (len + n) cap el) w
  have hcn : len + n ≤ c := by
   rw [hcut rfl]
   simp only [Question.cut]; omega
  refine ⟨c, q, hcn, ?_⟩
  have hmul : (len + n) * (ti.bytes + 1) = (len + n) * ti.bytes + (len + n) := by rw [Nat.mul_add, Nat.mul_one]
  have hsmall : len + n ≤ bigLim := by omega
  unfold bigLim at hlim hsmall
  have hno1 : ¬ (((len + n : Nat) : Int) > IntKind.i64.max) := by
   have : IntKind.i64.max = 9223372036854775807 := by decide
   rw [this]; omega
  have hcapb := nextcap_le (len + n) cap (by omega)
  have hno2 : ¬ (Builtin.nextslicecap (len + n) cap * ti.bytes > 2 ^ 48) := by
   have h3 : Builtin.nextslicecap (len + n) cap * ti.bytes ≤ (2 * (len + n) + 1000) * ti.bytes := Nat.mul_le_mul_right _ hcapb
   have h4 : (2 * (len + n) + 1000) * ti.bytes = 2 * ((len + n) * ti.bytes) + 1000 * ti.bytes := by
    rw [Nat.add_mul, Nat.mul_assoc]
   have h5 : ti.bytes ≤ (len + n) * ti.bytes := Nat.le_mul_of_pos_left _ (by omega)
   omega
  show (Builtin.append_ ats ty #[.slice base len cap, .int kk (Int.ofNat n)]).run C.P w = _
  unfold Builtin.append_
  have e0 : (#[Value.slice base len cap, .int kk (Int.ofNat n)] : Array Value)[0]? = some (.slice base len cap) := rfl
  have e1 : (#[Value.slice base len cap, .int kk (Int.ofNat n)] : Array Value)[1]? = some (.int kk (Int.ofNat n)) := rfl
  rw [h0, e0, e1]
  dsimp only
  rw [Xf (Xn hst w)]
  dsimp only
  rw [Xf (run_size hti w), h1]
  dsimp only
  rw [Xf (Xn hxt w), Xf (run_pure _ w)]
  simp only [if_true, Bool.not_true, Bool.false_eq_true, if_false]
  rw [Xf hasInt, hwrap, if_neg hneg, Xf (run_info hti w), if_neg hbig, Xf (run_pure _ w)]
  simp only [Int.ofNat_eq_natCast, Int.toNat_natCast]
  rw [if_neg hroom, Xf (run_info hti w), if_neg (fun hh => hno1 hh.1), Xf (run_info hti w), if_neg hno2, Xf hch, Xf (run_info hti _), Xf (askRoom_run _ _), Xf (hold q)]
  split
  ·rename_i hz
   rw [Xf (run_pure _ _), Xf (run_zero hti hzv _)]
   rfl
  ·rename_i hz
   rw [Xf (mk _), Xf (run_zero hti hzv _)]
   rfl
theorem append_plain {st el : TypeId} {xt : TypeId} {d : TypeDesc} {ats : Array TypeId} (h0 : ats[0]? = some st) (h1 : ats[1]? = some xt) (hst : C.P.underlying st = some (.slice el)) (hxt : C.P.underlying xt = some d) (hd : ∀ k, d ≠ .int k)
  {ti : TypeInfo} (hti : C.P.info? el = some ti) {zv : Value} (hzv : ti.zero = some zv) {ty : TypeId} {n : Nat} {x : Value} {xs : Array Value} (hlen : (Builtin.lenOf x).run C.P w = .ok n w)
  (hcells : ∀ q, (Builtin.firstCells ti.size n x).run C.P { w with drawn := q } = .ok xs { w with drawn := q }) :
  Appends C.P w (fun s => Builtin.append_ ats ty #[s, x]) el ti.size n xs zv.cells (fun m => m * (ti.bytes + 1) ≤ bigLim) where
 room := fun _ _ _ hroom => append_room h0 h1 hst hxt hd hti hlen (hcells w.drawn) hroom
 grow := fun _ _ _ _ hold hroom hlim => append_grow h0 h1 hst hxt hd hti hzv hlen hcells hold hroom hlim
theorem appendOp_some {st xt : TypeId} {s x : Opd} (hc : appendOp C st xt s x = some ao) : ∃ el ti z d, C.P.underlying st = some (.slice el) ∧ C.P.info? el = some ti ∧ zero C el = some z ∧ z.cells.length = ti.size ∧ 0 < ti.size ∧
  C.P.underlying xt = some d ∧ ((∃ k, d = .int k ∧ ao = .appendMake el ti.bytes ti.size z.cells s x) ∨ ((∀ k, d ≠ .int k) ∧ ao = .append el ti.bytes ti.size s x)) := by
 unfold appendOp at hc
 split at hc
 ·rename_i el hst
  split at hc
  ·rename_i ti z hti hz
   cases hb : (Nat.beq z.cells.length ti.size && Nat.blt 0 ti.size) with
   | false => rw [hb] at hc; cases hc
   | true =>
    rw [hb] at hc
    simp only [Bool.and_eq_true] at hb
    have h1 := Nat.eq_of_beq_eq_true hb.1
    have h2 : 0 < ti.size := Nat.le_of_ble_eq_true hb.2
    simp only [cond_true] at hc
    split at hc
    ·rename_i k hd
     cases hc
     exact ⟨el, ti, z, _, hst, hti, hz, h1, h2, hd, .inl ⟨k, rfl, rfl⟩⟩
    ·rename_i d hne hd
     cases hc
     exact ⟨el, ti, z, d, hst, hti, hz, h1, h2, hd, .inr ⟨fun k hk => hne k hk, rfl⟩⟩
    ·cases hc
  ·cases hc
 ·cases hc
theorem ok_appendOp (A : At C e t a h w) {st xt ty : TypeId} {ats : Array TypeId} {s x : Operand} {s' x' : Opd} (h0 : ats[0]? = some st) (h1 : ats[1]? = some xt) (hs : opd C s = some s') (hx : opd C x = some x') (hc : appendOp C st xt s' x' = some ao) (hr : aop ao t h = some r) :
  OpOk C.P e h w (do pure (Next.value (← Builtin.append_ ats ty #[a.eval s, a.eval x]))) r := by
 obtain ⟨el, ti, z, d, hst, hti, hz, hzl, hpos, hxt, hor⟩ := appendOp_some hc
 obtain ⟨zi, zv, hzi, hzv, hzr⟩ := zero_some hz e
 rw [hti] at hzi; cases hzi
 have hzs : zv.cells.size = ti.size := by have := hzr.cells.length; simp at this; omega
 have hsv := A.ev hs
 have hxv := A.ev hx
 rcases hor with ⟨k, rfl, rfl⟩ | ⟨hne, rfl⟩
 ·simp only [aop] at hr
  obtain ⟨v, h', hv, rfl⟩ := valH_some hr
  split at hv
  ·rename_i kk n hxe
   cases hb : (Nat.ble (n * (ti.bytes + 1)) bigLim && Nat.ble (n * ti.size) 16777216 && Nat.beq z.cells.length ti.size) with
   | false => rw [hb] at hv; unfold appendA at hv; cases hv
   | true =>
    rw [hb] at hv
    simp only [Bool.and_eq_true] at hb
    have hlim := Nat.le_of_ble_eq_true hb.1.1
    rw [hxe] at hxv
    have hA := append_make (C := C) (w := w) h0 h1 hst hxt hti hzv (ty := ty) (kk := kk) hlim
    have hnew : Rl e (rep n z.cells) ((if n * ti.size = 0 then #[] else Builtin.zeroCells zv.cells n) : Array Value).toList := by
     split
     ·rename_i h00
      have : rep n z.cells = [] := List.eq_nil_of_length_eq_zero (by rw [rep_length, hzl]; exact h00)
      rw [this]; exact .nil
     ·have := rep_flatten hzr.cells n
      have h5 := range_rep (e := e) zv.cells n .nil
      unfold Builtin.zeroCells
      rw [Array.toList_map, Array.toList_range, h5]
      exact this
    obtain ⟨e', y, w', g1, g2, g3⟩ := appendA_sound A.hp hpos hnew (by rw [rep_length, hzl]) hzs hA hsv hv
    rw [hxv.inv_int]
    exact OpOk.val g1 g2 g3
  ·unfold appendA at hv; cases hv
 ·simp only [aop] at hr
  obtain ⟨v, h', hv, rfl⟩ := valH_some hr
  cases hsrc : source ti.size (x'.ev t) h with
  | none => rw [hsrc] at hv; unfold appendA at hv; cases hv
  | some p =>
   obtain ⟨n, new⟩ := p
   rw [hsrc] at hv
   obtain ⟨hlen, xs, hcells, hrl, hnl⟩ := source_sound (C := C) A.hp hxv hsrc
   have hA := append_plain (C := C) (w := w) h0 h1 hst hxt hne hti hzv (ty := ty) hlen hcells
   obtain ⟨e', y, w', g1, g2, g3⟩ := appendA_sound A.hp hpos hrl hnl hzs hA hsv hv
   exact OpOk.val g1 g2 g3
end Go.AM
namespace Go.AM
open Go
variable {C : Ctx} {e : Env} {t : Tm} {a : Act} {h : Heap} {w : World} {o : Oper} {ao : AOp} {r : ARes}
theorem args_two {l : Array Operand} {x y : Opd} (h : l.toList.mapM (opd C) = some [x, y]) : ∃ p q, l = #[p, q] ∧ opd C p = some x ∧ opd C q = some y := by
 cases hl : l.toList with
 | nil => rw [hl] at h; simp at h
 | cons p l1 =>
  cases l1 with
  | nil =>
   rw [hl] at h
   simp only [List.mapM_cons, List.mapM_nil, Option.bind_eq_bind, Option.bind_eq_some_iff] at h
   obtain ⟨x1, h1, r1, h2, h3⟩ := h
   cases h2; cases h3
  | cons q l2 =>
   cases l2 with
   | nil =>
    rw [hl] at h
    simp only [List.mapM_cons, List.mapM_nil, Option.bind_eq_bind, Option.bind_eq_some_iff] at h
    obtain ⟨x1, h1, r1, ⟨y1, h2, r2, h3, h4⟩, h5⟩ := h
    cases h3; cases h4; cases h5
    exact ⟨p, q, by rw [← Array.toArray_toList (xs := l), hl], h1, h2⟩
   | cons q2 l3 =>
    rw [hl] at h
    simp only [List.mapM_cons, Option.bind_eq_bind, Option.bind_eq_some_iff] at h
    obtain ⟨x1, h1, r1, ⟨y1, h2, r2, ⟨z1, h6, r3, _, h7⟩, h4⟩, h5⟩ := h
    cases h7; cases h4; cases h5
theorem args_one {l : Array Operand} {x : Opd} (h : l.toList.mapM (opd C) = some [x]) : ∃ p, l = #[p] ∧ opd C p = some x := by
 cases hl : l.toList with
 | nil => rw [hl] at h; simp at h
 | cons p l1 =>
  cases l1 with
  | nil =>
   rw [hl] at h
   simp only [List.mapM_cons, List.mapM_nil, Option.bind_eq_bind, Option.bind_eq_some_iff] at h
   obtain ⟨x1, h1, r1, h2, h3⟩ := h
   cases h2; cases h3
   exact ⟨p, by rw [← Array.toArray_toList (xs := l), hl], h1⟩
  | cons q l2 =>
   rw [hl] at h
   simp only [List.mapM_cons, Option.bind_eq_bind, Option.bind_eq_some_iff] at h
   obtain ⟨x1, h1, r1, ⟨y1, h2, r2, h3, h4⟩, h5⟩ := h
   cases h4; cases h5
theorem exec_builtin {c : Call} {b : Builtin} (hop : o.op = .call c) (hb : c.callee = .builtin b) :
  execOp a.eval o = builtin b c.argTypes o.type (c.args.map fun | .const _ => true | _ => false) (c.args.map a.eval) := by
 unfold execOp
 rw [hop]
 dsimp only
 unfold resolve
 rw [hb]
 rfl
theorem len_call {c : Call} {p : Operand} (hop : o.op = .call c) (hb : c.callee = .builtin .len) (hp : c.args = #[p]) : execOp a.eval o = (do pure (Next.value (← Builtin.len_ c.argTypes o.type #[a.eval p]))) := by
 rw [exec_builtin hop hb, hp]
 have : (#[p].map a.eval : Array Value) = #[a.eval p] := by simp
 rw [this]
 rfl
theorem len_run {ats : Array TypeId} {ty : TypeId} {d : TypeDesc} (h0 : ats[0]? = some ty) (hd : C.P.underlying ty = some d) (tt : TypeId) (v : Value) {u : Value} (w : World)
  (hor : (d = .string ∧ ∃ s, v = .string s ∧ u = goInt s.size) ∨ (∃ el b n k, d = .slice el ∧ v = .slice b n k ∧ u = goInt n) ∨ (∃ n el, d = .array n el ∧ u = goInt n) ∨ (∃ k el, d = .map k el ∧ v = .map none ∧ u = goInt 0) ∨
   (∃ k el i ms cl, d = .map k el ∧ v = .map (some i) ∧ w.heap[i]? = some (.map ms cl) ∧ u = goInt ms.size)) : (Builtin.len_ ats tt #[v]).run C.P w = .ok u w := by
 unfold Builtin.len_
 have e0 : (#[v] : Array Value)[0]? = some v := rfl
 rw [h0, e0]
 dsimp only
 rw [Xf (Xn hd w)]
 rcases hor with ⟨rfl, s, rfl, rfl⟩ | ⟨el, b, n, k, rfl, rfl, rfl⟩ | ⟨n, el, rfl, rfl⟩ | ⟨k, el, rfl, rfl, rfl⟩ | ⟨k, el, i, ms, cl, rfl, rfl, hh, rfl⟩
 ·rfl
 ·rfl
 ·cases v <;> rfl
 ·rfl
 ·dsimp only
  rw [Xf (run_getObj hh (fun _ _ _ => by simp))]
  rfl
theorem ok_call {c : Call} (A : At C e t a h w) (hop : o.op = .call c) (hc : cop C o = some ao) (hr : aop ao t h = some r) : OpOk C.P e h w (execOp a.eval o) r := by
 unfold cop at hc
 rw [hop] at hc
 dsimp only at hc
 unfold callOp at hc
 simp only [Option.bind_eq_bind, Option.bind_eq_some_iff] at hc
 obtain ⟨args, hargs, hc⟩ := hc
 split at hc
 ·
  rename_i f hcal
  simp only [Option.bind_eq_some_iff, Option.some.injEq] at hc
  obtain ⟨f', hf', rfl⟩ := hc
  have hf := A.ev hf'
  have hav := A.evs hargs
  simp only [aop] at hr
  split at hr
  ·rename_i g first cap hfe
   cases hr
   rw [hfe] at hf
   obtain ⟨p', q', hfv, hp, hq⟩ := hf.inv_fn
   refine ⟨rfl, p' ++ c.args.map a.eval ++ q', ?_, ?_⟩
   ·simp only [Array.toList_append, Array.toList_map]
    exact (hp.append hav).append hq
   ·unfold execOp
    rw [hop]
    dsimp only
    unfold resolve
    rw [hcal]
    dsimp only
    rw [hfv]
    rfl
  ·cases hr
 ·cases hc
 ·rename_i b hcal
  split at hc
  ·
   rename_i x
   obtain ⟨p, hp, hx'⟩ := args_one hargs
   have hx := A.ev hx'
   simp only [Option.bind_eq_some_iff] at hc
   obtain ⟨ty, h0, hc⟩ := hc
   rw [len_call hop hcal hp]
   split at hc
   ·rename_i hd
    cases hc
    simp only [aop] at hr
    split at hr
    ·rename_i s hs
     cases hr
     rw [hs] at hx
     obtain ⟨s', hse, hs'⟩ := hx.inv_str
     have hsz : s'.size = s.length := by have := congrArg List.length hs'; simpa using this
     exact OpOk.same (x := goInt s'.size) A.hp (len_run h0 hd _ _ w (.inl ⟨rfl, s', hse, rfl⟩)) (by rw [hsz]; exact .int _ _)
    ·cases hr
   ·rename_i el hd
    cases hc
    simp only [aop] at hr
    split at hr
    ·rename_i hs; cases hr; rw [hs] at hx
     exact OpOk.same (x := goInt (0 : Nat)) A.hp (len_run h0 hd _ _ w (.inr (.inl ⟨el, _, _, _, rfl, hx.inv_snil, rfl⟩))) (.int _ _)
    ·rename_i hs; cases hr; rw [hs] at hx
     obtain ⟨p, hp⟩ := hx.inv_sl0
     exact OpOk.same (x := goInt (0 : Nat)) A.hp (len_run h0 hd _ _ w (.inr (.inl ⟨el, _, _, _, rfl, hp, rfl⟩))) (.int _ _)
    ·rename_i b hs; cases hr; rw [hs] at hx
     obtain ⟨p, c, i, hp, _⟩ := hx.inv_slx
     exact OpOk.same (x := goInt (0 : Nat)) A.hp (len_run h0 hd _ _ w (.inr (.inl ⟨el, _, _, _, rfl, hp, rfl⟩))) (.int _ _)
    ·rename_i b off n cp hs; cases hr; rw [hs] at hx
     obtain ⟨i, c, _, hp⟩ := hx.inv_sl
     exact OpOk.same (x := goInt n) A.hp (len_run h0 hd _ _ w (.inr (.inl ⟨el, _, _, _, rfl, hp, rfl⟩))) (.int _ _)
    ·cases hr
   ·rename_i k el hd
    cases hc
    simp only [aop] at hr
    split at hr
    ·rename_i hs; cases hr; rw [hs] at hx
     exact OpOk.same (x := goInt 0) A.hp (len_run h0 hd _ _ w (.inr (.inr (.inr (.inl ⟨k, el, rfl, hx.inv_mnil, rfl⟩))))) (.int _ _)
    ·rename_i b hs
     rw [hs] at hx
     obtain ⟨i, hi, hp⟩ := hx.inv_map
     split at hr
     ·rename_i es clock hb
      cases hr
      obtain ⟨ob, hob, hrb⟩ := A.hp.blocks _ _ _ hb hi
      cases hrb with
      | map _ _ ms hres =>
       have hl : es.length = ms.size := by simpa using hres.length
       exact OpOk.same (x := goInt ms.size) A.hp (len_run h0 hd _ _ w (.inr (.inr (.inr (.inr ⟨k, el, _, ms, clock, rfl, hp, hob, rfl⟩))))) (by rw [hl]; exact .int _ _)
     ·cases hr
    ·cases hr
   ·rename_i n el hd
    cases hc
    simp only [aop, Option.some.injEq] at hr
    subst hr
    exact OpOk.same (x := goInt n) A.hp (len_run h0 hd _ _ w (.inr (.inr (.inl ⟨n, el, rfl, rfl⟩)))) (.int _ _)
   ·cases hc
  ·
   rename_i x
   obtain ⟨p, hp, hx'⟩ := args_one hargs
   have hx := A.ev hx'
   simp only [Option.bind_eq_some_iff] at hc
   obtain ⟨ty, h0, hc⟩ := hc
   have hcall : execOp a.eval o = (do pure (Next.value (← Builtin.cap_ c.argTypes o.type #[a.eval p]))) := by
    rw [exec_builtin hop hcal, hp]
    have : (#[p].map a.eval : Array Value) = #[a.eval p] := by simp
    rw [this]; rfl
   rw [hcall]
   split at hc
   ·rename_i el hd
    cases hc
    have cap_run : ∀ b n k, a.eval p = .slice b n k → (Builtin.cap_ c.argTypes o.type #[a.eval p]).run C.P w = .ok (goInt k) w := by
     intro b n k hv
     unfold Builtin.cap_
     have e0 : (#[a.eval p] : Array Value)[0]? = some (a.eval p) := rfl
     rw [h0, e0]
     dsimp only
     rw [Xf (Xn hd w), hv]
     rfl
    simp only [aop] at hr
    split at hr
    ·rename_i hs; cases hr; rw [hs] at hx
     exact OpOk.same (x := goInt (0 : Nat)) A.hp (cap_run _ _ _ hx.inv_snil) (.int _ _)
    ·rename_i hs; cases hr; rw [hs] at hx
     obtain ⟨q, hq⟩ := hx.inv_sl0
     exact OpOk.same (x := goInt (0 : Nat)) A.hp (cap_run _ _ _ hq) (.int _ _)
    ·rename_i b off n k hs; cases hr; rw [hs] at hx
     obtain ⟨i, _, hq⟩ := hx.inv_slE
     exact OpOk.same (x := goInt k) A.hp (cap_run _ _ _ hq) (.int _ _)
    ·cases hr
   ·cases hc
  ·
   rename_i s x
   obtain ⟨p, q, hpq, hs', hx'⟩ := args_two hargs
   have hcall : execOp a.eval o = (do pure (Next.value (← Builtin.append_ c.argTypes o.type #[a.eval p, a.eval q]))) := by
    rw [exec_builtin hop hcal, hpq]
    have : (#[p, q].map a.eval : Array Value) = #[a.eval p, a.eval q] := by simp
    rw [this]; rfl
   rw [hcall]
   split at hc
   ·rename_i st xt h0 h1
    exact ok_appendOp A h0 h1 hs' hx' hc hr
   ·cases hc
  ·
   rename_i x
   obtain ⟨p, hp, hx'⟩ := args_one hargs
   have hx := A.ev hx'
   simp only [Option.bind_eq_some_iff] at hc
   obtain ⟨ty, h0, hc⟩ := hc
   have hcall : execOp a.eval o = (do pure (Next.value (← Builtin.clear_ c.argTypes o.type #[a.eval p]))) := by
    rw [exec_builtin hop hcal, hp]
    have : (#[p].map a.eval : Array Value) = #[a.eval p] := by simp
    rw [this]; rfl
   rw [hcall]
   split at hc
   ·rename_i el hd
    simp only [Option.bind_eq_some_iff, Option.some.injEq] at hc
    obtain ⟨m, hm, z, hz, rfl⟩ := hc
    obtain ⟨zi, zv, hzi, hzv, hzr⟩ := zero_some hz e
    have tupOk : Rv e (.tup []) (.tuple #[]) := .tup _ _ .nil
    have base0 : ∀ b k, a.eval p = .slice b 0 k → (Builtin.clear_ c.argTypes o.type #[a.eval p]).run C.P w = .ok (.tuple #[]) w := by
     intro b k hv
     unfold Builtin.clear_
     have e0 : (#[a.eval p] : Array Value)[0]? = some (a.eval p) := rfl
     rw [h0, e0]
     dsimp only
     rw [Xf (Xn hd w), hv]
     cases b <;> rfl
    simp only [aop] at hr
    split at hr
    ·rename_i hs; cases hr; rw [hs] at hx
     exact OpOk.same A.hp (base0 _ _ hx.inv_snil) tupOk
    ·rename_i hs; cases hr; rw [hs] at hx
     obtain ⟨q, hq⟩ := hx.inv_sl0
     exact OpOk.same A.hp (base0 _ _ hq) tupOk
    ·rename_i b hs; cases hr; rw [hs] at hx
     obtain ⟨q, cc, i, hq, _⟩ := hx.inv_slx
     exact OpOk.same A.hp (base0 _ _ hq) tupOk
    ·rename_i b off n cp hs
     rw [hs] at hx
     obtain ⟨i, cc, hi, hq⟩ := hx.inv_sl
     cases hzl : Nat.beq z.cells.length m with
     | false => rw [hzl] at hr; cases hr
     | true =>
      rw [hzl] at hr
      simp only [cond_true] at hr
      split at hr
      ·rename_i h2 hst
       cases hr
       have hrow : Rl e (rep n z.cells) (Builtin.zeroCells zv.cells n).toList := by
        have h5 := range_rep (e := e) zv.cells n .nil
        unfold Builtin.zeroCells
        rw [Array.toList_map, Array.toList_range, h5]
        exact rep_flatten hzr.cells n
       obtain ⟨w', g1, g2⟩ := store_sound (P := C.P) A.hp hi hst hrow
       refine ⟨e, .tuple #[], w', ?_, tupOk, g2⟩
       rcases Nat.eq_zero_or_pos n with hn | hn
       ·subst hn
        have hnil : (Builtin.zeroCells zv.cells 0).toList = [] := by simp [Builtin.zeroCells]
        rw [hnil] at g1
        have : w' = w := by
         have : (Result.ok () w : Result Unit) = .ok () w' := g1
         cases this; rfl
        subst this
        rw [Xf (base0 _ _ hq)]; rfl
       ·have hrun : (Builtin.clear_ c.argTypes o.type #[a.eval p]).run C.P w = .ok (.tuple #[]) w' := by
         unfold Builtin.clear_
         have e0 : (#[a.eval p] : Array Value)[0]? = some (a.eval p) := rfl
         rw [h0, e0]
         dsimp only
         rw [Xf (Xn hd w), hq]
         obtain ⟨n1, rfl⟩ : ∃ n1, n = n1 + 1 := ⟨n - 1, by omega⟩
         show ((zeroValue el >>= _) : Sem Value).run C.P w = _
         rw [Xf (run_zero hzi hzv w), Xf g1]
         rfl
        rw [Xf hrun]; rfl
      ·cases hr
    ·cases hr
   ·cases hc
  ·
   cases hc
   have hav := A.evs hargs
   simp only [aop] at hr
   split at hr
   ·cases hr
   ·rename_i x0 rest
    obtain ⟨v, hv, rfl⟩ := valOf_some hr
    generalize hl : c.args.toList.map a.eval = l at hav
    cases hav with
    | cons _ x' _ xs hx0 hrest =>
     obtain ⟨u, hu, hvu⟩ := minMax_sound (C := C) hv hx0 hrest w
     rw [exec_builtin hop hcal]
     refine OpOk.same (s := Builtin.min_ c.argTypes o.type (c.args.map a.eval)) A.hp ?_ hvu
     unfold Builtin.min_
     rw [Array.toList_map, hl]
     exact hu
  ·
   cases hc
   have hav := A.evs hargs
   simp only [aop] at hr
   split at hr
   ·cases hr
   ·rename_i x0 rest
    obtain ⟨v, hv, rfl⟩ := valOf_some hr
    generalize hl : c.args.toList.map a.eval = l at hav
    cases hav with
    | cons _ x' _ xs hx0 hrest =>
     obtain ⟨u, hu, hvu⟩ := minMax_sound (C := C) hv hx0 hrest w
     rw [exec_builtin hop hcal]
     refine OpOk.same (s := Builtin.max_ c.argTypes o.type (c.args.map a.eval)) A.hp ?_ hvu
     unfold Builtin.max_
     rw [Array.toList_map, hl]
     exact hu
  ·cases hc
theorem cop_ok (A : At C e t a h w) (hc : cop C o = some ao) (hr : aop ao t h = some r) : OpOk C.P e h w (execOp a.eval o) r := by
 cases hop : o.op with
 | move x => exact ok_move A (.inl hop) hc hr
 | assign x => exact ok_move A (.inr hop) hc hr
 | pick c x y => exact ok_pick A hop hc hr
 | alloc ty => exact ok_alloc A hop hc hr
 | box ty x => exact ok_box A hop hc hr
 | build ty ps => exact ok_build A hop hc hr
 | buildSlice ty len ps => exact ok_buildSlice A hop hc hr
 | insert ty m k x => exact ok_mapUpdate A (.inr hop) hc hr
 | load ty x => exact ok_load A hop hc hr
 | store ty x y => exact ok_store A hop hc hr
 | nilCheck x => exact ok_nilCheck A hop hc hr
 | binOp op ty x y yt => exact ok_binOp A hop hc hr
 | unOp op ty x => exact ok_unOp A hop hc hr
 | convert s d x => exact ok_convert A hop hc hr
 | makeInterface ty x => exact ok_mkIface A hop hc hr
 | makeFunc f p q => exact ok_mkFn A hop hc hr
 | makeMap ty x => exact ok_mkMap A hop hc hr
 | makeSlice ty l c => exact ok_mkSlice A hop hc hr
 | slice ty x lo hi mx => exact ok_slice A hop hc hr
 | fieldAddr ty x f => exact ok_fieldAddr A hop hc hr
 | field ty x f => exact ok_field A hop hc hr
 | indexAddr ty x i => exact ok_indexArr A hop hc hr
 | index ty x i => exact ok_index A hop hc hr
 | lookup ty x i ok => exact ok_lookup A hop hc hr
 | mapUpdate ty m k x => exact ok_mapUpdate A (.inl hop) hc hr
 | range ty x => exact ok_range A hop hc hr
 | next x s => exact ok_next A hop hc hr
 | entry x => exact ok_entry A hop hc hr
 | typeAssert x xt ty ok => exact ok_assert A hop hc hr
 | extract x i => exact ok_extract A hop hc hr
 | call c => exact ok_call A hop hc hr
 | _ => unfold cop at hc; rw [hop] at hc; cases hc
end Go.AM
