/- What comes in: arguments that are plain data, as blocks of the abstract machine that cannot be written. -/
import Derived.Test.YtignppgiamochaaGreatDoorA6
import Derived.Deep.Slices
import GoSem.ClaimJoined
import Derived.ChangeArms
set_option linter.unusedVariables false
set_option linter.unusedSimpArgs false
namespace Go.AM
open Go Go.ChangeShapes Go.Deep
def PlainT (P : Program) : Nat → TypeId → Bool
 | 0, _ => false
 | n + 1, t => match P.underlying t with
  | some .bool => true
  | some (.int _) => true
  | some .string => true
  | some (.slice e) => PlainT P n e && Nat.blt 0 (P.cellsOf e) && Nat.blt 0 (P.bytesOf e)
  | some (.struct fs) => Nat.beq (P.cellsOf t) fs.size && fs.toList.zipIdx.all fun x => Nat.beq x.1.offset x.2 && Nat.beq (P.cellsOf x.1.type) 1 && PlainT P n x.1.type
  | _ => false
def Shp (P : Program) (h : Heap) : Nat → TypeId → List AV → Prop
 | 0, _, _ => False
 | n + 1, t, avs => match P.underlying t with
  | some .bool => ∃ b, avs = [.bool b]
  | some (.int k) => ∃ z, avs = [.int k z] ∧ (Lit.int k z).wf = true
  | some .string => ∃ l, avs = [.str l] ∧ (∀ c ∈ l, c < 256) ∧ l.length ≤ reachBytes
  | some (.slice e) => avs = [.snil] ∨ avs = [.sl0] ∨ ∃ (b len cap : Nat) (elems : List (List AV)), avs = [.sl b 0 len (.ex cap)] ∧ len ≤ cap ∧ cap ≤ reachBytes ∧ elems.length = len ∧
    (∃ el z, h.get b = some (.cells true false el z elems.flatten)) ∧ @LT.lt Nat _ b h.next ∧ ∀ x ∈ elems, x.length = P.cellsOf e ∧ Shp P h n e x
  | some (.struct fs) => avs.length = fs.size ∧ ∀ (i : Nat) (f : Field), fs[i]? = some f → ∃ a, avs[i]? = some a ∧ Shp P h n f.type [a]
  | _ => False
theorem Shp.mono {P : Program} {h h' : Heap} (x : Ext h h') : ∀ {n : Nat} {t : TypeId} {avs : List AV}, Shp P h n t avs → Shp P h' n t avs := by
 intro n
 induction n with
 | zero => intro t avs hs; exact hs.elim
 | succ n ih =>
  intro t avs hs
  unfold Shp at hs ⊢
  split at hs
  ·exact hs
  ·exact hs
  ·exact hs
  ·rcases hs with hs | hs | ⟨b, len, cap, elems, h1, h2, h3, h4, ⟨el, z, h5⟩, h6, h7⟩
   ·exact .inl hs
   ·exact .inr (.inl hs)
   ·exact .inr (.inr ⟨b, len, cap, elems, h1, h2, h3, h4, ⟨el, z, x.has _ _ h6 h5⟩, Nat.lt_of_lt_of_le h6 x.le, fun y hy => ⟨(h7 y hy).1, ih (h7 y hy).2⟩⟩)
  ·obtain ⟨h1, h2⟩ := hs
   refine ⟨h1, fun i f hf => ?_⟩
   obtain ⟨a, h3, h4⟩ := h2 i f hf
   exact ⟨a, h3, ih h4⟩
  ·exact hs.elim
def AllRo (h : Heap) : Prop := ∀ (b : Nat) x, h.get b = some x → x.rw = false
theorem rel_ro {e : Env} {h : Heap} {w : World} (r : RelH e h w) (ro : AllRo h) {i : Img} {el : TypeId} {z : Nat} {cs : List AV} {o : Obj} (ho : w.heap[i.blk]? = some o) (hb : Rb e i (.cells true false el z cs) o) :
  RelH (e.set h.next i) (h.new (.cells true false el z cs)) w ∧ AllRo (h.new (.cells true false el z cs)) := by
 have hro : AllRo (h.new (.cells true false el z cs)) := fun b x hx => by
  rw [get_new'] at hx
  split at hx
  ·cases hx; rfl
  ·exact ro b x hx
 refine ⟨⟨fun b x j hx hj => ?_, fun b b' x x' j j' hx _ _ _ _ hrw => ?_, fun b j hj => ?_, fun b x hx => ?_⟩, hro⟩
 ·rw [get_new'] at hx
  unfold Env.set at hj
  split at hx
  ·rename_i hn
   rw [if_pos hn] at hj
   cases hj; cases hx
   exact ⟨o, ho, hb.mono (r.set_le _)⟩
  ·rename_i hn
   rw [if_neg hn] at hj
   obtain ⟨o', h1, h2⟩ := r.blocks b x j hx hj
   exact ⟨o', h1, h2.mono (r.set_le _)⟩
 ·rw [hro b x hx] at hrw; cases hrw
 ·show @LT.lt Nat _ b (h.next + 1)
  unfold Env.set at hj
  split at hj
  ·rename_i hn; subst hn; exact Nat.lt_succ_self _
  ·exact Nat.lt_succ_of_lt (r.freshE b j hj)
 ·show @LT.lt Nat _ b (h.next + 1)
  rw [get_new'] at hx
  split at hx
  ·rename_i hn; rw [← hn]; exact Nat.lt_succ_self _
  ·exact Nat.lt_succ_of_lt (r.freshH b x hx)
theorem ext_new {h : Heap} (x : Blk) : Ext h (h.new x) := ⟨Nat.le_succ _, fun b y hb hy => by rw [get_new', if_neg (by omega)]; exact hy⟩
theorem Rl.flatten {e : Env} : ∀ {xs : List (List AV)} {css : List (List Value)}, xs.length = css.length → (∀ (i : Nat) x c, xs[i]? = some x → css[i]? = some c → Rl e x c) → Rl e xs.flatten css.flatten := by
 intro xs
 induction xs with
 | nil =>
  intro css hl _
  have : css = [] := List.eq_nil_of_length_eq_zero (by rw [← hl]; rfl)
  subst this
  exact .nil
 | cons x r ih =>
  intro css hl h
  cases css with
  | nil => simp at hl
  | cons c cr =>
   rw [List.flatten_cons, List.flatten_cons]
   exact (h 0 x c rfl rfl).append (ih (by simpa using hl) fun i y d hy hd => h (i + 1) y d (by simpa using hy) (by simpa using hd))
section
variable {H : Type} {enc : TypeId × Value → H} {P : Program} {W : World}
theorem weightsAll_mem {e : TypeId} {p : Nat → Bool} : ∀ {l : List (DataW H)}, (DataW.weightsAll P e l).all p = true → ∀ d ∈ l, (d.weights P e).all p = true := by
 intro l
 induction l with
 | nil => intro _ d hd; simp at hd
 | cons x r ih =>
  intro h d hd
  unfold DataW.weightsAll at h
  rw [List.all_append, Bool.and_eq_true] at h
  rcases List.mem_cons.1 hd with rfl | hd
  ·exact h.1
  ·exact ih h.2 d hd
theorem weightsEach_get {p : Nat → Bool} : ∀ {ts : List TypeId} {l : List (DataW H)}, (DataW.weightsEach P ts l).all p = true → ∀ (i : Nat) t d, ts[i]? = some t → l[i]? = some d → (d.weights P t).all p = true := by
 intro ts
 induction ts with
 | nil => intro l _ i t d ht; simp at ht
 | cons t0 ts ih =>
  intro l h i t d ht hd
  cases l with
  | nil => simp at hd
  | cons d0 l =>
   unfold DataW.weightsEach at h
   rw [List.all_append, Bool.and_eq_true] at h
   cases i with
   | zero => simp at ht hd; subst ht; subst hd; exact h.1
   | succ i => exact ih h.2 i t d (by simpa using ht) (by simpa using hd)
def Rd (enc : TypeId × Value → H) (P : Program) (W : World) (t : TypeId) (cs : List Value) : Prop := ∃ fuel d ps, DataW.trod enc P W 0 (fun _ => true) true fuel t cs = some (d, ps) ∧ (d.weights P t).all (· ≤ reachBytes) = true
def OpensAt (enc : TypeId × Value → H) (P : Program) (W : World) (n : Nat) : Prop := ∀ (t : TypeId) (cs : List Value) (e : Env) (h : Heap), PlainT P n t = true → Rd enc P W t cs → RelH e h W → AllRo h →
 ∃ (e' : Env) (h' : Heap) (avs : List AV), e.le e' ∧ Ext h h' ∧ RelH e' h' W ∧ AllRo h' ∧ Rl e' avs cs ∧ Shp P h' n t avs
theorem opens_many {n : Nat} (ih : OpensAt enc P W n) : ∀ (l : List (TypeId × List Value)) (e : Env) (h : Heap), (∀ p ∈ l, PlainT P n p.1 = true ∧ Rd enc P W p.1 p.2) → RelH e h W → AllRo h →
  ∃ (e' : Env) (h' : Heap) (xs : List (List AV)), e.le e' ∧ Ext h h' ∧ RelH e' h' W ∧ AllRo h' ∧ xs.length = l.length ∧ ∀ (i : Nat) p x, l[i]? = some p → xs[i]? = some x → Rl e' x p.2 ∧ Shp P h' n p.1 x := by
 intro l
 induction l with
 | nil => intro e h _ r ro; exact ⟨e, h, [], Env.le_refl e, .refl h, r, ro, rfl, fun i p x hp => by simp at hp⟩
 | cons p l ihl =>
  intro e h hp r ro
  obtain ⟨h1, h2⟩ := hp p (by simp)
  obtain ⟨e1, g1, a, k1, k2, k3, k4, k5, k6⟩ := ih p.1 p.2 e h h1 h2 r ro
  obtain ⟨e2, g2, xs, m1, m2, m3, m4, m5, m6⟩ := ihl e1 g1 (fun q hq => hp q (by simp [hq])) k3 k4
  refine ⟨e2, g2, a :: xs, Env.le_trans k1 m1, k2.trans m2, m3, m4, by simp [m5], fun i q x hq hx => ?_⟩
  cases i with
  | zero => simp at hq hx; subst hq; subst hx; exact ⟨k5.mono m1, k6.mono m2⟩
  | succ i => exact m6 i q x (by simpa using hq) (by simpa using hx)
theorem cells_block {a : Addr} {n : Nat} {cs : List Value} (h : W.cells? 0 a n = some cs) (hn : 0 < n) : a.spot = none ∧ ∃ arr el fr, W.heap[a.block]? = some (.cells arr el fr) ∧ cs.length = n ∧ ∀ i, i < n → arr[a.off + i]? = cs[i]? := by
 obtain ⟨_, h2, h3⟩ := World.cells?_some h
 have key : ∀ (b : Addr) v, W.cell? b = some v → b.spot = none ∧ ∃ arr el fr, W.heap[b.block]? = some (.cells arr el fr) ∧ arr[b.off]? = some v := by
  intro b v hv
  cases hsp : b.spot with
  | some s =>
   simp only [World.cell?, hsp] at hv
   split at hv
   ·simp at hv
   ·cases hv
  | none =>
   simp only [World.cell?, hsp] at hv
   split at hv
   ·rename_i arr el fr hh
    exact ⟨rfl, arr, el, fr, hh, hv⟩
   ·cases hv
 obtain ⟨v0, hv0⟩ : ∃ v, cs[0]? = some v := ⟨_, List.getElem?_eq_getElem (by omega)⟩
 have k0 := key _ v0 ((h3 0 hn).trans hv0)
 have ha0 : a.add 0 = a := rfl
 rw [ha0] at k0
 obtain ⟨hs, arr, el, fr, hh, _⟩ := k0
 refine ⟨hs, arr, el, fr, hh, h2, fun i hi => ?_⟩
 obtain ⟨v, hv⟩ : ∃ v, cs[i]? = some v := ⟨_, List.getElem?_eq_getElem (by omega)⟩
 obtain ⟨_, arr', el', fr', hh', hv'⟩ := key _ v ((h3 i hi).trans hv)
 have e : a.add i = ⟨a.block, a.off + i, none⟩ := by
  obtain ⟨blk, off, spot⟩ := a
  cases hs
  exact Addr.add_at _ _ _
 rw [e] at hh' hv'
 rw [hh] at hh'
 cases hh'
 rw [hv', hv]
theorem plain_opens : ∀ n, OpensAt enc P W n := by
 intro n
 induction n with
 | zero => intro t cs e h hp; cases hp
 | succ n ih =>
  intro t cs e h hp hr r ro
  obtain ⟨fuel, d, ps, ht, hw⟩ := hr
  unfold PlainT at hp
  cases hu : P.underlying t with
  | none => rw [hu] at hp; cases hp
  | some desc =>
   rw [hu] at hp
   cases desc with
   | bool =>
    obtain ⟨b, rfl, _⟩ := DataW.trod_bool hu ht
    refine ⟨e, h, [.bool b], Env.le_refl e, .refl h, r, ro, .cons _ _ _ _ (.bool b) .nil, ?_⟩
    unfold Shp; rw [hu]; exact ⟨b, rfl⟩
   | int k =>
    obtain ⟨z, rfl, _, hz⟩ := DataW.trod_int hu ht
    refine ⟨e, h, [.int k z], Env.le_refl e, .refl h, r, ro, .cons _ _ _ _ (.int k z) .nil, ?_⟩
    unfold Shp; rw [hu]; exact ⟨z, rfl, hz⟩
   | string =>
    obtain ⟨s, rfl, hx, _⟩ := DataW.trod_string hu ht
    cases hx
    refine ⟨e, h, [.str (s.data.toList.map UInt8.toNat)], Env.le_refl e, .refl h, r, ro, .cons _ _ _ _ (.str _ s ?_) .nil, ?_⟩
    ·rw [List.map_map]
     conv => lhs; rw [← List.map_id s.data.toList]
     exact List.map_congr_left fun c _ => by simp
    ·unfold Shp; rw [hu]
     refine ⟨_, rfl, fun c hc => ?_, ?_⟩
     ·obtain ⟨b, _, rfl⟩ := List.mem_map.1 hc
      exact b.toNat_lt
     ·unfold DataW.weights at hw
      rw [List.length_map]
      simpa using hw
   | slice el =>
    dsimp only at hp
    rw [Bool.and_eq_true, Bool.and_eq_true] at hp
    obtain ⟨⟨hp1, hp2⟩, hp3⟩ := hp
    have hz : 0 < P.cellsOf el := by simpa [Nat.blt_eq] using hp2
    have hbz : 0 < P.bytesOf el := by simpa [Nat.blt_eq] using hp3
    rcases open_slice hu ht with ⟨rfl, _⟩ | ⟨a, len, cap, m, n', D, Pl, rfl, _, hlc, hcm, hm, hx, hall⟩
    ·refine ⟨e, h, [.snil], Env.le_refl e, .refl h, r, ro, .cons _ _ _ _ .snil .nil, ?_⟩
     unfold Shp; rw [hu]; exact .inl rfl
    ·simp only [if_true] at hm
     subst hm
     cases hx
     unfold DataW.weights at hw
     rw [hu] at hw
     simp only [List.all_cons, List.all_append, Bool.and_eq_true, decide_eq_true_eq, List.length_map, List.length_range] at hw
     obtain ⟨hw1, hw2, _⟩ := hw
     have hcr : m ≤ reachBytes := by
      have : m * 1 ≤ m * P.bytesOf el := Nat.mul_le_mul_left m hbz
      have h3 : len + (m - len) = m := by omega
      rw [h3] at hw1
      omega
     by_cases hc0 : m = 0
     ·subst hc0
      have : len = 0 := by omega
      subst this
      refine ⟨e, h, [.sl0], Env.le_refl e, .refl h, r, ro, .cons _ _ _ _ (.sl0 a) .nil, ?_⟩
      unfold Shp; rw [hu]; exact .inr (.inl rfl)
     ·have hch : ∀ i, i < m → ∃ cs', W.cells? 0 (a.add (i * P.cellsOf el)) (P.cellsOf el) = some cs' ∧ DataW.trod enc P W 0 (fun _ => true) true n' el cs' = some (D i, Pl i) := hall
      obtain ⟨F, hF⟩ := choose_lt (p := fun i cs' => W.cells? 0 (a.add (i * P.cellsOf el)) (P.cellsOf el) = some cs' ∧ DataW.trod enc P W 0 (fun _ => true) true n' el cs' = some (D i, Pl i)) hch
      have ha0 : a.add (0 * P.cellsOf el) = a := by rw [Nat.zero_mul]; rfl
      have h00 := (hF 0 (by omega)).1
      rw [ha0] at h00
      obtain ⟨hsp, arr, el', fr, hblk, _, _⟩ := cells_block h00 hz
      have hadd : ∀ i, a.add i = ⟨a.block, a.off + i, none⟩ := fun i => by
       obtain ⟨blk, off, spot⟩ := a
       cases hsp
       exact Addr.add_at _ _ _
      have hFc : ∀ i, i < m → (F i).length = P.cellsOf el ∧ ∀ j, j < P.cellsOf el → arr[a.off + i * P.cellsOf el + j]? = (F i)[j]? := fun i hi => by
       obtain ⟨_, arr', el'', fr', hb', h5, h6⟩ := cells_block (hF i hi).1 hz
       rw [hadd] at hb' h6
       rw [hblk] at hb'
       cases hb'
       exact ⟨h5, h6⟩
      obtain ⟨e1, g1, xs, k1, k2, k3, k4, k5, k6⟩ := opens_many ih ((List.range len).map fun i => (el, F i)) e h (fun p hp => by
       obtain ⟨i, hi, rfl⟩ := List.mem_map.1 hp
       have hil := List.mem_range.1 hi
       exact ⟨hp1, n', D i, Pl i, (hF i (by omega)).2, weightsAll_mem hw2 (D i) (List.mem_map.2 ⟨i, hi, rfl⟩)⟩) r ro
      rw [List.length_map, List.length_range] at k5
      have kx : ∀ (i : Nat) x, xs[i]? = some x → Rl e1 x (F i) ∧ Shp P g1 n el x := fun i x hx => by
       have hil := (List.getElem?_eq_some_iff.1 hx).1
       exact k6 i (el, F i) x (by rw [List.getElem?_map, List.getElem?_range (by omega)]; rfl) hx
      have hxl : ∀ x ∈ xs, x.length = P.cellsOf el := fun x hx => by
       obtain ⟨i, hi⟩ := List.getElem?_of_mem hx
       have hil := (List.getElem?_eq_some_iff.1 hi).1
       rw [(kx i x hi).1.length]
       exact (hFc i (by omega)).1
      have hfl : ∀ k, k ≤ len → (arr.toList.drop a.off).take (k * P.cellsOf el) = ((List.range k).map F).flatten := by
       intro k
       induction k with
       | zero => intro _; simp
       | succ k ihk =>
        intro hk
        rw [List.range_succ, List.map_append, List.flatten_append, ← ihk (by omega), Nat.succ_mul, List.take_add]
        congr 1
        rw [List.map_cons, List.map_nil, List.flatten_cons, List.flatten_nil, List.append_nil]
        obtain ⟨f1, f2⟩ := hFc k (by omega)
        apply List.ext_getElem?
        intro j
        by_cases hj : j < P.cellsOf el
        ·rw [List.getElem?_take_of_lt hj, List.getElem?_drop, List.getElem?_drop, ← f2 j hj, Array.getElem?_toList, Nat.add_assoc]
        ·rw [List.getElem?_eq_none (by rw [List.length_take]; omega), List.getElem?_eq_none (by omega)]
      have hflat : Rl e1 xs.flatten ((arr.toList.drop a.off).take xs.flatten.length) := by
       have hlen : xs.flatten.length = len * P.cellsOf el := by
        rw [← k5]
        clear hfl kx k6 k5
        induction xs with
        | nil => simp
        | cons x r ihx => rw [List.flatten_cons, List.length_append, hxl x (by simp), ihx fun y hy => hxl y (by simp [hy]), List.length_cons, Nat.succ_mul]; omega
       rw [hlen, hfl len (Nat.le_refl _)]
       refine Rl.flatten (by simp [k5]) fun i x c hx hc => ?_
       have hil := (List.getElem?_eq_some_iff.1 hx).1
       rw [List.getElem?_map, List.getElem?_range (by omega)] at hc
       cases hc
       exact (kx i x hx).1
      obtain ⟨R2, ro2⟩ := rel_ro (i := ⟨a.block, a.off, P.cellsOf el, 0⟩) (el := el) (z := P.cellsOf el) (cs := xs.flatten) k3 k4 hblk (.cells _ _ _ _ _ _ _ _ rfl hflat (fun h => by cases h) (fun h => by cases h))
      refine ⟨_, _, [.sl g1.next 0 len (.ex m)], Env.le_trans k1 (k3.set_le _), k2.trans (ext_new _), R2, ro2, .cons _ _ _ _ ?_ .nil, ?_⟩
      ·have := Rv.slE (e := e1.set g1.next ⟨a.block, a.off, P.cellsOf el, 0⟩) g1.next 0 len m ⟨a.block, a.off, P.cellsOf el, 0⟩ (by unfold Env.set; rw [if_pos rfl])
       have ea : (some a : Option Addr) = some ⟨a.block, a.off + 0, none⟩ := by
        obtain ⟨blk, off, spot⟩ := a
        cases hsp
        rfl
       rw [ea]
       exact this
      ·unfold Shp; rw [hu]
       exact .inr (.inr ⟨g1.next, len, m, xs, rfl, hlc, hcr, k5, ⟨el, P.cellsOf el, by rw [get_new', if_pos rfl]⟩, Nat.lt_succ_self _, fun x hx => ⟨hxl x hx, by
        obtain ⟨i, hi⟩ := List.getElem?_of_mem hx
        exact (kx i x hi).2.mono (ext_new _)⟩⟩)
   | struct fs =>
    dsimp only at hp
    rw [Bool.and_eq_true] at hp
    obtain ⟨hp1, hp2⟩ := hp
    have hcs : P.cellsOf t = fs.size := Nat.eq_of_beq_eq_true hp1
    have hf : ∀ (i : Nat) (f : Field), fs[i]? = some f → f.offset = i ∧ P.cellsOf f.type = 1 ∧ PlainT P n f.type = true := fun i f hif => by
     have := List.all_eq_true.1 hp2 (f, i) (List.mem_zipIdx_iff_getElem?.2 (by simpa using hif))
     simp only [Bool.and_eq_true] at this
     exact ⟨Nat.eq_of_beq_eq_true this.1.1, Nat.eq_of_beq_eq_true this.1.2, this.2⟩
    obtain ⟨xs, n', _, hx, hlen, hxsl, hxs⟩ := DataW.trod_struct hu ht
    cases hx
    unfold DataW.weights at hw
    rw [hu] at hw
    dsimp only at hw
    rw [hcs] at hlen
    obtain ⟨e1, g1, ys, k1, k2, k3, k4, k5, k6⟩ := opens_many ih (cs.zipIdx.map fun p => ((fs[p.2]?.map (·.type)).getD 0, [p.1])) e h (fun p hp => by
     obtain ⟨⟨v, i⟩, hvi, rfl⟩ := List.mem_map.1 hp
     have hvi' := List.mem_zipIdx_iff_getElem?.1 hvi
     dsimp only at hvi' ⊢
     have hil := (List.getElem?_eq_some_iff.1 hvi').1
     obtain ⟨f, hff⟩ : ∃ f, fs[i]? = some f := ⟨_, Array.getElem?_eq_getElem (by omega)⟩
     obtain ⟨c1, c2, c3⟩ := hf i f hff
     rw [hff]
     refine ⟨c3, ?_⟩
     have h5 := hxs i f hff
     rw [c1, c2] at h5
     have h6 : (cs.drop i).take 1 = [v] := by
      rw [List.drop_eq_getElem_cons hil, List.take_succ_cons, List.take_zero]
      rw [List.getElem?_eq_getElem hil] at hvi'
      rw [Option.some.inj hvi']
     rw [h6] at h5
     obtain ⟨y, hy⟩ : ∃ y, xs[i]? = some y := ⟨_, List.getElem?_eq_getElem (by omega)⟩
     rw [hy] at h5
     exact ⟨n', y.1, y.2, h5, weightsEach_get hw i _ _ (by rw [List.getElem?_map, Array.getElem?_toList, hff]; rfl) (by rw [List.getElem?_map, hy]; rfl)⟩) r ro
    rw [List.length_map, List.length_zipIdx] at k5
    have kx : ∀ (i : Nat) v f y, cs[i]? = some v → fs[i]? = some f → ys[i]? = some y → Rl e1 y [v] ∧ Shp P g1 n f.type y := fun i v f y hv hff hy => by
     have := k6 i (f.type, [v]) y (by rw [List.getElem?_map, List.getElem?_zipIdx, hv]; simp [hff]) hy
     exact this
    have hone : ∀ (i : Nat) y, ys[i]? = some y → ∃ a, y = [a] := fun i y hy => by
     have hil := (List.getElem?_eq_some_iff.1 hy).1
     obtain ⟨v, hv⟩ : ∃ v, cs[i]? = some v := ⟨_, List.getElem?_eq_getElem (by omega)⟩
     obtain ⟨f, hff⟩ : ∃ f, fs[i]? = some f := ⟨_, Array.getElem?_eq_getElem (by omega)⟩
     have := (kx i v f y hv hff hy).1.length
     match y, this with
     | [a], _ => exact ⟨a, rfl⟩
    refine ⟨e1, g1, ys.flatten, k1, k2, k3, k4, ?_, ?_⟩
    ·have : cs = (cs.map fun v => [v]).flatten := by
      clear kx k6 k5 hxs hlen ht
      induction cs with
      | nil => rfl
      | cons v r ihc => rw [List.map_cons, List.flatten_cons, ← ihc]; rfl
     rw [this]
     refine Rl.flatten (by simp [k5]) fun i y c hy hc => ?_
     have hil := (List.getElem?_eq_some_iff.1 hy).1
     obtain ⟨v, hv⟩ : ∃ v, cs[i]? = some v := ⟨_, List.getElem?_eq_getElem (by omega)⟩
     obtain ⟨f, hff⟩ : ∃ f, fs[i]? = some f := ⟨_, Array.getElem?_eq_getElem (by omega)⟩
     rw [List.getElem?_map, hv] at hc
     cases hc
     exact (kx i v f y hv hff hy).1
    ·have hfl : ∀ (zs : List (List AV)), (∀ (i : Nat) y, zs[i]? = some y → ∃ a, y = [a]) → zs.flatten.length = zs.length ∧ ∀ (i : Nat) y, zs[i]? = some y → ∃ a, y = [a] ∧ zs.flatten[i]? = some a := by
      intro zs
      induction zs with
      | nil => intro _; exact ⟨rfl, fun i y h => by simp at h⟩
      | cons z r ihz =>
       intro hz
       obtain ⟨a, rfl⟩ := hz 0 z rfl
       obtain ⟨q1, q2⟩ := ihz fun i y hy => hz (i + 1) y (by simpa using hy)
       refine ⟨by rw [List.flatten_cons, List.length_append, q1]; simp; omega, fun i y hy => ?_⟩
       cases i with
       | zero => simp at hy; subst hy; exact ⟨a, rfl, rfl⟩
       | succ i =>
        obtain ⟨b, rfl, q3⟩ := q2 i y (by simpa using hy)
        exact ⟨b, rfl, by simpa using q3⟩
     obtain ⟨q1, q2⟩ := hfl ys hone
     unfold Shp; rw [hu]
     refine ⟨by rw [q1, k5, hlen], fun i f hff => ?_⟩
     have hil : i < fs.size := by
      obtain ⟨h1, _⟩ := Array.getElem?_eq_some_iff.1 hff
      exact h1
     obtain ⟨v, hv⟩ : ∃ v, cs[i]? = some v := ⟨_, List.getElem?_eq_getElem (by omega)⟩
     obtain ⟨y, hy⟩ : ∃ y, ys[i]? = some y := ⟨_, List.getElem?_eq_getElem (by omega)⟩
     obtain ⟨a, rfl, q3⟩ := q2 i y hy
     exact ⟨a, q3, (kx i v f [a] hv hff hy).2⟩
   | _ => cases hp
end
end Go.AM
