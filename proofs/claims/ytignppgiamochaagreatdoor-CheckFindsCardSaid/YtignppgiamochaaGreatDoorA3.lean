/- Code, loops and calls of the abstract machine are sound. -/
import Derived.Test.YtignppgiamochaaGreatDoorA2
import Derived.Test.YtignppgiamochaaGreatDoorA1
import Derived.LoopN
import Derived.Scope
import Derived.Orders
import Derived.Laws.Externs
set_option linter.unusedVariables false
set_option linter.unusedSimpArgs false
namespace Go.AM
open Go
variable {C : Ctx} {e : Env} {t : Tm} {a : Act} {h : Heap} {w : World} {o : Oper} {ao : AOp} {r : ARes}
def MakeOk (P : Program) (e : Env) (w : World) (s : Sem Next) (x : Blk) (mk : Id → AV) : Prop :=
 ∃ (u : Value) (o : Obj) (base z tot q : Nat), s.run P w = .ok (.value u) { w with drawn := q, heap := w.heap.push o } ∧ Rb e ⟨w.heap.size, base, z, tot⟩ x o ∧
  ∀ (e' : Env) (b : Id), e' b = some ⟨w.heap.size, base, z, tot⟩ → Rv e' (mk b) u
def Makes (ao : AOp) (t : Tm) (x : Blk) (mk : Id → AV) : Prop := ∀ H : Heap, aop ao t H = some (.val (mk H.next) (H.new x))
theorem MakeOk.val {P : Program} {s : Sem Value} {x : Blk} {mk : Id → AV} {u : Value} {ob : Obj} (base z tot q : Nat) (hs : s.run P w = .ok u { w with drawn := q, heap := w.heap.push ob }) (hb : Rb e ⟨w.heap.size, base, z, tot⟩ x ob)
  (hv : ∀ (e' : Env) (b : Id), e' b = some ⟨w.heap.size, base, z, tot⟩ → Rv e' (mk b) u) : MakeOk P e w (do pure (Next.value (← s))) x mk :=
 ⟨u, ob, base, z, tot, q, by rw [Xf hs]; rfl, hb, hv⟩
theorem rb_cells (elem z : Nat) {vs : List AV} {xs : Array Value} (hv : Rl e vs xs.toList) : Rb e ⟨w.heap.size, 0, z, 0⟩ (.cells false false elem z vs) (.cells xs elem) := by
 refine .cells _ _ _ _ _ _ _ _ rfl ?_ ?_ ?_
 ·have := hv.length
  have h2 : (xs.toList.drop 0).take vs.length = xs.toList := by rw [List.drop_zero, this, List.take_length]
  show Rl _ vs ((xs.toList.drop 0).take vs.length)
  rw [h2]
  exact hv
 ·intro _ k _ hk; simp at hk
 ·intro hh; cases hh
theorem mk_alloc {ty : TypeId} (hop : o.op = .alloc ty) (hc : cop C o = some ao) : ∃ x mk, Makes ao t x mk ∧ MakeOk C.P e w (execOp a.eval o) x mk := by
 unfold cop at hc
 rw [hop] at hc
 simp only [Option.map_eq_some_iff] at hc
 obtain ⟨z, hz, rfl⟩ := hc
 obtain ⟨i, x, h1, h2, h3⟩ := zero_some hz e
 refine ⟨_, fun b => .ptr b 0, fun H => rfl, ?_⟩
 unfold execOp
 rw [hop]
 refine MakeOk.val 0 z.cells.length 0 w.drawn ?_ (rb_cells ty z.cells.length h3.cells) (fun e' b hb => .ptr _ 0 _ hb)
 unfold Instr.alloc
 rw [Xf (run_zero h1 h2 w)]
 rfl
theorem mk_box {ty : TypeId} {x : Operand} (A : At C e t a h w) (hop : o.op = .box ty x) (hc : cop C o = some ao) : ∃ x mk, Makes ao t x mk ∧ MakeOk C.P e w (execOp a.eval o) x mk := by
 unfold cop at hc
 rw [hop] at hc
 simp only [Option.map_eq_some_iff] at hc
 obtain ⟨y, hy, rfl⟩ := hc
 have hx := A.ev hy
 refine ⟨_, fun b => .ptr b 0, fun H => rfl, ?_⟩
 unfold execOp
 rw [hop]
 exact MakeOk.val 0 (y.ev t).cells.length 0 w.drawn rfl (rb_cells ty (y.ev t).cells.length hx.cells) (fun e' b hb => .ptr _ 0 _ hb)
theorem mk_mkMap {ty : TypeId} {x : Option Operand} (hop : o.op = .makeMap ty x) (hc : cop C o = some ao) : ∃ x mk, Makes ao t x mk ∧ MakeOk C.P e w (execOp a.eval o) x mk := by
 unfold cop at hc
 rw [hop] at hc
 dsimp only at hc
 unfold execOp
 rw [hop]
 dsimp only
 have hb : Rb e ⟨w.heap.size, 0, 0, 0⟩ (.map [] 0) (.map #[] 0) := .map _ _ _ .nil
 split at hc
 ·cases hc
  exact ⟨_, fun b => .map b, fun H => rfl, MakeOk.val 0 0 0 w.drawn rfl hb fun e' b h => .map _ _ h⟩
 ·rename_i k n
  split at hc
  ·rename_i p q hd
   cases hc
   refine ⟨_, fun b => .map b, fun H => rfl, MakeOk.val 0 0 0 w.drawn ?_ hb fun e' b h => .map _ _ h⟩
   unfold Instr.makeMap
   simp only [Option.map_some]
   rw [Xf (Xn hd w)]
   rfl
  ·cases hc
 ·cases hc
theorem mk_buildSlice {ty : TypeId} {len : Nat} {ps : Array (Nat × Operand)} (A : At C e t a h w) (hop : o.op = .buildSlice ty len ps) (hc : cop C o = some ao) {h0 : Heap} (hr : aop ao t h0 = some r) : ∃ x mk, Makes ao t x mk ∧ MakeOk C.P e w (execOp a.eval o) x mk := by
 unfold cop at hc
 rw [hop] at hc
 dsimp only at hc
 split at hc
 ·rename_i el hd
  simp only [Option.bind_eq_bind, Option.bind_eq_some_iff, Option.map_eq_some_iff] at hc
  obtain ⟨z, hz, m, hm, qs, hqs, rfl⟩ := hc
  obtain ⟨zi, zv, hzi, hzv, hzr⟩ := zero_some hz e
  obtain ⟨ti, hti, rfl⟩ := sz_some hm
  unfold execOp
  rw [hop]
  dsimp only
  simp only [aop] at hr
  split at hr
  ·rename_i cs hcs
   cases hb : (Nat.ble (len * ti.size) 16777216 && Nat.beq z.cells.length ti.size) with
   | false => rw [hb] at hr; cases hr
   | true =>
    clear hr
    refine ⟨_, fun b => .sl b 0 len (.ex len), fun H => by simp only [aop, hcs, hb]; rfl, ?_⟩
    simp only [Bool.and_eq_true] at hb
    have h1 := Nat.le_of_ble_eq_true hb.1
    have h2 := Nat.eq_of_beq_eq_true hb.2
    obtain ⟨zs, hrow, hzs⟩ := zero_row (C := C) hzr len ti.size h2 hzi hzv w
    obtain ⟨g1, g2⟩ := parts_arr A hqs
    obtain ⟨xs2, f1, f2⟩ := fill_sound (place := fun i => some (i * ti.size, ti.size)) hcs hrow g1 g2
    refine MakeOk.val 0 ti.size 0 w.drawn ?_ (rb_cells el ti.size f2) (fun e' b hb => .slE b 0 len len _ hb)
    unfold Instr.buildSlice
    rw [Xf (Xn hd w)]
    dsimp only
    rw [Xf (run_size hti w)]
    have : ¬ (len * ti.size > 2 ^ 24) := by omega
    rw [if_neg this, hzs]
    have e1 : Instr.fill (fun i => some (i * ti.size, ti.size)) ((Array.range (len * ti.size)).map (zs[· % zs.size]!)) (ps.map fun (i, x) => (i, a.eval x)).toList = some xs2 := by
     rw [Array.toList_map]
     rw [Array.toArray_toList] at f1
     exact f1
    rw [e1]
    rfl
  ·cases hr
 ·cases hc
theorem mk_mkSlice {ty : TypeId} {l c : Operand} (A : At C e t a h w) (hop : o.op = .makeSlice ty l c) (hc : cop C o = some ao) {h0 : Heap} (hr : aop ao t h0 = some r) : ∃ x mk, Makes ao t x mk ∧ MakeOk C.P e w (execOp a.eval o) x mk := by
 unfold cop at hc
 rw [hop] at hc
 dsimp only at hc
 split at hc
 ·rename_i el hd
  simp only [Option.bind_eq_bind, Option.bind_eq_some_iff, Option.some.injEq] at hc
  obtain ⟨z, hz, m, hm, l', hl', c', hc', rfl⟩ := hc
  obtain ⟨zi, zv, hzi, hzv, hzr⟩ := zero_some hz e
  obtain ⟨ti, hti, rfl⟩ := sz_some hm
  rw [hzi] at hti; cases hti
  have hl := A.ev hl'
  have hcv := A.ev hc'
  unfold execOp
  rw [hop]
  dsimp only
  simp only [aop] at hr
  split at hr
  ·rename_i ln cn hln hcn
   cases hb : (Nat.ble ln cn && Nat.ble (cn * (C.P.bytesOf el + 1)) bigLim && Nat.ble (cn * zi.size) 16777216 && Nat.beq z.cells.length zi.size) with
   | false => rw [hb] at hr; cases hr
   | true =>
    clear hr
    refine ⟨_, fun b => .sl b 0 ln (.ex cn), fun H => by simp only [aop, hln, hcn, hb]; rfl, ?_⟩
    simp only [Bool.and_eq_true] at hb
    have h1 := Nat.le_of_ble_eq_true hb.1.1.1
    have h2 := Nat.le_of_ble_eq_true hb.1.1.2
    have h4 := Nat.eq_of_beq_eq_true hb.2
    have hbytes : C.P.bytesOf el = zi.bytes := by unfold Program.bytesOf; rw [hzi]; rfl
    rw [hbytes] at h2
    have h2a : cn * (zi.bytes + 1) = cn * zi.bytes + cn := by rw [Nat.mul_add, Nat.mul_one]
    obtain ⟨k1, e1⟩ := natOf_int hl hln
    obtain ⟨k2, e2⟩ := natOf_int hcv hcn
    obtain ⟨zs, hrow, hzs⟩ := zero_row (C := C) hzr cn zi.size h4 hzi hzv w
    refine MakeOk.val 0 zi.size 0 w.drawn ?_ (rb_cells el zi.size hrow) (fun e' b hb => .slE b 0 ln cn _ hb)
    unfold Instr.makeSlice
    rw [Xf (Xn hd w)]
    dsimp only
    have a1 : ∀ k n, (asInt (.int k n)).run C.P w = .ok n w := fun _ _ => rfl
    rw [e1, e2, Xf (a1 _ _), Xf (a1 _ _), Xf (run_info hzi w)]
    rw [wrap64 (n := cn) (by omega), wrap64 (n := ln) (by omega)]
    have hno : ¬ ((decide ((Int.ofNat cn) < 0) || decide ((zi.bytes : Int) * (Int.ofNat cn) > 2 ^ 48)) || decide ((Int.ofNat ln) < 0) || decide ((Int.ofNat ln) > Int.ofNat cn)) = true := by
     have : ((zi.bytes : Int) * (Int.ofNat cn)) = ((cn * zi.bytes : Nat) : Int) := by rw [Nat.mul_comm]; simp
     rw [this]
     unfold bigLim at h2
     simp only [Bool.or_eq_true, decide_eq_true_eq, Int.ofNat_eq_natCast]
     omega
    rw [if_neg hno, Xf (askRoom_run _ w), Xf (run_size hzi w)]
    simp only [Int.ofNat_eq_natCast, Int.toNat_natCast]
    rw [hzs]
    rfl
  ·cases hr
 ·cases hc
theorem mk_convert {s d : TypeId} {x : Operand} (A : At C e t a h w) (hop : o.op = .convert s d x) (hc : cop C o = some ao) (hm : ao.way = .make) {h0 : Heap} (hr : aop ao t h0 = some r) : ∃ x mk, Makes ao t x mk ∧ MakeOk C.P e w (execOp a.eval o) x mk := by
 unfold cop at hc
 rw [hop] at hc
 simp only [Option.bind_eq_bind, Option.bind_eq_some_iff] at hc
 obtain ⟨y, hy, hc⟩ := hc
 have hx := A.ev hy
 unfold execOp
 rw [hop]
 dsimp only
 split at hc
 ·cases hc; cases hm
 ·cases hc; cases hm
 ·rename_i el hs hd
  split at hc
  ·rename_i hel
   cases hc
   simp only [aop] at hr
   split at hr
   ·rename_i l hyv
    clear hr
    rw [hyv] at hx
    obtain ⟨s', hse, hs'⟩ := hx.inv_str
    refine ⟨_, fun b => .sl b 0 l.length (.op 0), fun H => by simp only [aop, hyv]; rfl, ?_⟩
    have hsz : s'.size = l.length := by have := congrArg List.length hs'; simpa using this
    let elems : Array Value := s'.data.map fun b => .int .u8 b.toNat
    obtain ⟨n, dr, hch, hforced, hcut⟩ := run_choose (P := C.P) (.appendCap s'.size 0 el) w
    have hn : s'.size ≤ n := by
     rw [hcut rfl]
     simp only [Question.cut]; omega
    let arr : Array Value := elems ++ Array.replicate (n - s'.size) (.int .u8 0)
    have hasz : arr.size = n := by
     have : elems.size = s'.size := by simp [elems]
     simp only [arr, Array.size_append, Array.size_replicate, this]; omega
    let w1 : World := { w with drawn := dr }
    let w2 : World := { w1 with heap := w1.heap.push (.cells arr el) }
    let w3 : World := { w1 with heap := w1.heap.push (.cells arr el (n, n + 1)) }
    have hrun : (convert s d (a.eval x)).run C.P w = .ok (.slice (some ⟨w.heap.size, 0, none⟩) s'.size n) w3 := by
     unfold convert
     rw [Xf (Xn hs w), Xf (Xn hd w), hse]
     dsimp only
     rw [Xf (Xn hel w)]
     dsimp only
     unfold Conv.stringToBytes
     rw [Xf hch]
     have hnew : (newRow el (elems ++ Array.replicate (n - s'.size) (.int .u8 0))).run C.P w1 = .ok ⟨w.heap.size, 0, none⟩ w2 := rfl
     rw [Xf hnew]
     have hmark : (markStringish ⟨w.heap.size, 0, none⟩).run C.P w2 = .ok () w3 := by
      unfold markStringish
      have hsh : (shape w.heap.size).run C.P w2 = .ok (some (el, n)) w2 := by
       unfold shape
       simp only [Sem.run]
       have : w2.shape? w.heap.size = some (el, n) := by
        simp only [World.shape?, w2, w1]
        simp [hasz]
       rw [this]
      rw [Xf hsh]
      dsimp only
      unfold freeze
      simp only [Sem.run]
      have : w2.freeze ⟨w.heap.size, n, none⟩ 1 = w3 := by
       unfold World.freeze
       rw [if_neg (by simp)]
       refine congrArg (fun H => ({ w2 with heap := H } : World)) (?_ : _ = w3.heap)
       apply Array.ext_getElem?
       intro k
       simp only [w2, w3, w1, Array.getElem?_modify, Array.getElem?_push]
       by_cases hk : w.heap.size = k
       ·subst hk; simp
       ·have : ¬ k = w.heap.size := fun h => hk h.symm
        simp [hk, this]
      rw [this]
     rw [Xf hmark]
     rfl
    refine MakeOk.val 0 1 n dr hrun (.cells _ _ _ _ _ _ _ _ rfl ?_ ?_ ?_) ?_
    ·have h1 : (arr.toList.drop 0).take (l.map fun c => AV.int .u8 (.ofNat (c % 256))).length = elems.toList := by
      have h2 : elems.size = l.length := by simp [elems]; exact hsz
      simp only [List.drop_zero, List.length_map, arr, Array.toList_append]
      rw [List.take_append_of_le_length (by simp [h2]), List.take_of_length_le (by simp [h2])]
     show Rl _ _ ((arr.toList.drop 0).take _)
     rw [h1]
     simp only [elems, Array.toList_map, hs', List.map_map]
     refine Rl.map (f := fun c => AV.int .u8 (.ofNat (c % 256))) (g := (fun b : UInt8 => Value.int .u8 b.toNat) ∘ UInt8.ofNat) ?_
     intro c _
     have : (UInt8.ofNat c).toNat = c % 256 := by simp
     simp only [Function.comp, this]
     exact .int _ _
    ·intro _ k hk
     rw [hasz] at hk
     simp; omega
    ·intro _
     simp [hasz]
    ·intro e' b hb
     rw [hsz]
     have := Rv.slO (e := e') b 0 l.length n 0 ⟨w.heap.size, 0, 1, n⟩ hb (by simp) (by simp) (by omega)
     simpa using this
   ·cases hr
  ·cases hc
 ·cases hc
theorem make_ok (A : At C e t a h w) (hc : cop C o = some ao) (hm : ao.way = .make) {h0 : Heap} (hr : aop ao t h0 = some r) : ∃ x mk, Makes ao t x mk ∧ MakeOk C.P e w (execOp a.eval o) x mk := by
 cases hop : o.op with
 | alloc ty => exact mk_alloc hop hc
 | box ty x => exact mk_box A hop hc
 | buildSlice ty len ps => exact mk_buildSlice A hop hc hr
 | makeMap ty x => exact mk_mkMap hop hc
 | makeSlice ty l c => exact mk_mkSlice A hop hc hr
 | convert s d x => exact mk_convert A hop hc hm hr
 | call c =>
  exfalso
  unfold cop at hc
  rw [hop] at hc
  dsimp only at hc
  unfold callOp at hc
  simp only [Option.bind_eq_bind, Option.bind_eq_some_iff] at hc
  obtain ⟨args, hargs, hc⟩ := hc
  unfold appendOp at hc
  simp only [Bool.cond_eq_ite] at hc
  repeat' (first
   | (cases hc; done)
   | (cases hc; cases hm; done)
   | (rw [← Option.some.inj hc] at hm; cases hm; done)
   | split at hc
   | (simp only [Option.map_eq_some_iff] at hc; obtain ⟨_, _, hc⟩ := hc; subst hc; cases hm; done)
   | (simp only [Option.bind_eq_bind, Option.bind_eq_some_iff] at hc; obtain ⟨_, _, hc⟩ := hc)
   | (obtain ⟨_, _, hc⟩ := hc))
 | _ =>
  exfalso
  unfold cop at hc
  rw [hop] at hc
  dsimp only at hc
  repeat' (first
   | (cases hc; done)
   | (cases hc; cases hm; done)
   | (rw [← Option.some.inj hc] at hm; cases hm; done)
   | split at hc
   | (simp only [Option.map_eq_some_iff] at hc; obtain ⟨_, _, hc⟩ := hc; subst hc; cases hm; done)
   | (simp only [Option.bind_eq_bind, Option.bind_eq_some_iff] at hc; obtain ⟨_, _, hc⟩ := hc)
   | (obtain ⟨_, _, hc⟩ := hc))
end Go.AM
namespace Go.AM
open Go
def Took (call : CallF) (x : DOper) (t : Tm) (h : Heap) (v : AV) (t' : Tm) (h' : Heap) : Prop :=
 t' = putD x.o.dst v t ∧ ((XM x.o t = true ∧ oneOp call x.o t h = some (v, h')) ∨ (XM x.o t = false ∧ v = undefA ∧ h' = h))
def consF {α : Type} (x : α) (f : Nat → α) : Nat → α
 | 0 => x
 | n + 1 => f n
theorem effFrom_map {α : Type} (f : Nat → α) : ∀ (d : List DOper) (k : Nat), (XG (k + 1) d).map f = (XG k d).map (fun n => f (n + 1)) := by
 intro d
 induction d with
 | nil => intro k; rfl
 | cons x d ih =>
  intro k
  simp only [XG]
  cases XA x with
  | true => simp only [List.map_cons, ih]
  | false => simp only [ih]
theorem run_trace {call : CallF} : ∀ (d : List DOper) (t : Tm) (h : Heap) (hs : List Heap) (as : List Again) (t' : Tm) (hs' : List Heap) (as' : List Again), runDrawn call d t h hs as = some (t', hs', as') →
  ∃ (Ts : Nat → Tm) (Hs : Nat → Heap) (Vs : Nat → AV), Ts 0 = t ∧ Hs 0 = h ∧ Ts d.length = t' ∧ (∀ p x, d[p]? = some x → Took call x (Ts p) (Hs p) (Vs p) (Ts (p + 1)) (Hs (p + 1))) ∧
   hs' = Hs d.length :: (((XG 0 d).map Hs).reverse ++ hs) ∧ (∀ p x, d[p]? = some x → x.way = .quiet → XM x.o (Ts p) = true → ⟨x.o.op, Ts p, Vs p, x.lo, x.hi⟩ ∈ as') ∧ (∀ r, r ∈ as → r ∈ as') := by
 intro d
 induction d with
 | nil =>
  intro t h hs as t' hs' as' hr
  simp only [runDrawn, Option.some.injEq, Prod.mk.injEq] at hr
  obtain ⟨rfl, rfl, rfl⟩ := hr
  exact ⟨fun _ => t, fun _ => h, fun _ => undefA, rfl, rfl, rfl, by simp, by simp [XG], by simp, fun r h => h⟩
 | cons x d ih =>
  intro t h hs as t' hs' as' hr
  have eff : ∀ (Hs : Nat → Heap), ((XG 0 (x :: d)).map (consF h Hs)).reverse ++ hs = ((XG 0 d).map Hs).reverse ++ (match x.way with | .effect => h :: hs | _ => hs) := by
   intro Hs
   have he : XA x = (match x.way with | .effect => true | _ => false) := rfl
   cases hw : x.way with
   | effect =>
    rw [hw] at he
    simp only [XG, he, List.map_cons]
    rw [effFrom_map]
    simp [consF]
   | _ =>
    rw [hw] at he
    simp only [XG, he]
    rw [effFrom_map]
    simp [consF]
  simp only [runDrawn] at hr
  cases hwa : XM x.o t with
  | true =>
   rw [hwa] at hr
   dsimp only at hr
   split at hr
   ·cases hr
   ·rename_i v h1 hone
    obtain ⟨Ts, Hs, Vs, g1, g2, g3, g4, g5, g6, g7⟩ := ih _ _ _ _ _ _ _ hr
    refine ⟨consF t Ts, consF h Hs, consF v Vs, rfl, rfl, g3, ?_, ?_, ?_, ?_⟩
    ·intro p y hy
     cases p with
     | zero =>
      simp only [List.getElem?_cons_zero, Option.some.injEq] at hy
      subst hy
      exact ⟨g1, .inl ⟨hwa, by show oneOp call x.o t h = some (v, Hs 0); rw [g2, hone]⟩⟩
     | succ p => exact g4 p y (by simpa using hy)
    ·rw [g5, eff]; rfl
    ·intro p y hy hw hwn
     cases p with
     | zero =>
      simp only [List.getElem?_cons_zero, Option.some.injEq] at hy
      subst hy
      apply g7
      rw [hw]
      exact List.mem_cons_self
     | succ p => exact g6 p y (by simpa using hy) hw hwn
    ·intro r hr'
     apply g7
     cases x.way <;> first | exact hr' | exact List.mem_cons_of_mem _ hr'
  | false =>
   rw [hwa] at hr
   dsimp only at hr
   obtain ⟨Ts, Hs, Vs, g1, g2, g3, g4, g5, g6, g7⟩ := ih _ _ _ _ _ _ _ hr
   refine ⟨consF t Ts, consF h Hs, consF undefA Vs, rfl, rfl, g3, ?_, ?_, ?_, ?_⟩
   ·intro p y hy
    cases p with
    | zero =>
     simp only [List.getElem?_cons_zero, Option.some.injEq] at hy
     subst hy
     exact ⟨g1, .inr ⟨hwa, rfl, g2⟩⟩
    | succ p => exact g4 p y (by simpa using hy)
   ·rw [g5, eff]; rfl
   ·intro p y hy hw hwn
    cases p with
    | zero =>
     simp only [List.getElem?_cons_zero, Option.some.injEq] at hy
     subst hy
     rw [show consF t Ts 0 = t from rfl, hwa] at hwn
     cases hwn
    | succ p => exact g6 p y (by simpa using hy) hw hwn
   ·intro r hr'
    exact g7 r hr'
theorem stays_at {hs : List Heap} : ∀ {as : List Again}, allStay hs as = true → ∀ {r : Again}, r ∈ as → ∀ {H : Heap}, H ∈ between r.lo r.hi hs → ∃ H', aop r.o r.t H = some (.val r.v H') := by
 intro as
 induction as with
 | nil => intro _ r hr; cases hr
 | cons x as ih =>
  intro h r hr H hH
  simp only [allStay, Bool.and_eq_true] at h
  rcases List.mem_cons.1 hr with rfl | hr
  ·have key : ∀ (l : List Heap), stays r.o r.t r.v l = true → H ∈ l → ∃ H', aop r.o r.t H = some (.val r.v H') := by
    intro l
    induction l with
    | nil => intro _ h; cases h
    | cons y l ih2 =>
     intro hl hm
     simp only [stays, Bool.and_eq_true] at hl
     rcases List.mem_cons.1 hm with rfl | hm
     ·have h1 := hl.1
      split at h1
      ·rename_i v H' ha
       exact ⟨H', by rw [ha, AV.beq_eq h1]⟩
      ·cases h1
     ·exact ih2 hl.2 hm
   exact key _ h.1 hH
  ·exact ih h.2 hr hH
theorem mem_between {EB : List Nat} {Hs : Nat → Heap} {lo hi c q : Nat} (hc : EB[c]? = some q) (hlo : lo ≤ c) (hhi : c ≤ hi) (hm : hi < EB.length) : Hs q ∈ between lo hi ((EB.map Hs).reverse) := by
 unfold between
 have hcl : c < EB.length := by omega
 have hl : ((EB.map Hs).reverse).length = EB.length := by simp
 apply List.mem_of_getElem? (i := hi - c)
 rw [List.getElem?_take, if_pos (by omega), List.getElem?_drop, hl, List.getElem?_reverse (by simp; omega)]
 rw [List.length_map, List.getElem?_map]
 rw [show EB.length - 1 - (EB.length - 1 - hi + (hi - c)) = c by omega, hc]
 rfl
variable {e e0 : Env} {h0 H : Heap} {w w0 : World}
theorem RelH.later (r : RelH e H w) (x : Blk) : RelH e (H.new x) w where
 blocks := fun b y i hy hi => by
  rw [Heap.get_new] at hy
  split at hy
  ·rename_i hn; subst hn; rw [r.no_next] at hi; cases hi
  ·exact r.blocks b y i hy hi
 apart := fun b b' y y' i i' hy hy' hi hi' hne hrw => by
  rw [Heap.get_new] at hy hy'
  split at hy
  ·rename_i hn; subst hn; rw [r.no_next] at hi; cases hi
  ·split at hy'
   ·rename_i hn; subst hn; rw [r.no_next] at hi'; cases hi'
   ·exact r.apart b b' y y' i i' hy hy' hi hi' hne hrw
 freshE := fun b i hi => by
  show num b < num (incr H.next)
  rw [num_incr]
  have := r.freshE b i hi; omega
 freshH := fun b y hy => by
  show num b < num (incr H.next)
  rw [num_incr]
  rw [Heap.get_new] at hy
  split at hy
  ·rename_i hn; subst hn; omega
  ·have := r.freshH b y hy; omega
theorem post_later (r : RelH e H w) (x : Blk) : Post e H w e (H.new x) w where
 ext := Env.le_refl e
 rel := r.later x
 next := by show num H.next ≤ num (incr H.next); rw [num_incr]; omega
 os := rfl
 tape := rfl
 output := rfl
 size := Nat.le_refl _
 frame := fun _ _ _ => rfl
 own := fun b y i hy hrw hi => by
  rw [Heap.get_new] at hy
  split at hy
  ·rename_i hn; subst hn; rw [r.no_next] at hi; cases hi
  ·exact .inl ⟨b, y, i, hy, hrw, hi, rfl⟩
 ghost := fun b y hy hi => by
  refine ⟨?_, hi⟩
  rw [Heap.get_new, if_neg, hy]
  intro hn; subst hn
  exact absurd (r.freshH _ _ hy) (Nat.lt_irrefl _)
 newE := fun b i h1 h2 => by rw [h1] at h2; cases h2
theorem post_ghost (r0 : RelH e0 h0 w0) (p : Post e0 h0 w0 e H w) {b : Id} {x : Blk} {o : Obj} {base z tot : Nat} (hb : H.get b = some x) (he : e b = none) (hlt : num h0.next ≤ num b)
  (hrb : Rb e ⟨w.heap.size, base, z, tot⟩ x o) (q : Nat) : Post e0 h0 w0 (e.set b ⟨w.heap.size, base, z, tot⟩) H { w with drawn := q, heap := w.heap.push o } := by
 have hle : e.le (e.set b ⟨w.heap.size, base, z, tot⟩) := by
  intro c j hc
  unfold Env.set
  split
  ·rename_i hn; subst hn; rw [he] at hc; cases hc
  ·exact hc
 have r := p.rel
 refine ⟨Env.le_trans p.ext hle, ⟨?_, ?_, ?_, r.freshH⟩, p.next, p.os, p.tape, p.output, ?_, ?_, ?_, ?_, ?_⟩
 ·intro c y i hy hi
  unfold Env.set at hi
  split at hi
  ·rename_i hn; subst hn
   cases hi
   rw [hb] at hy; cases hy
   exact ⟨o, by simp, hrb.mono hle⟩
  ·obtain ⟨o', ho', hb'⟩ := r.blocks c y i hy hi
   exact ⟨o', by simp only [Array.getElem?_push]; rw [if_neg (Nat.ne_of_lt (r.lt hy hi)), ho'], hb'.mono hle⟩
 ·intro c c' y y' i i' hy hy' hi hi' hne hrw
  unfold Env.set at hi hi'
  split at hi <;> split at hi'
  ·rename_i h1 h2; exact absurd (h1.symm.trans h2) hne
  ·cases hi; exact Nat.ne_of_gt (r.lt hy' hi')
  ·cases hi'; exact Nat.ne_of_lt (r.lt hy hi)
  ·exact r.apart c c' y y' i i' hy hy' hi hi' hne hrw
 ·intro c i hi
  unfold Env.set at hi
  split at hi
  ·rename_i hn; subst hn; exact r.freshH _ _ hb
  ·exact r.freshE c i hi
 ·have := p.size; simp; omega
 ·intro k hk hno
  have := p.size
  show (w.heap.push o)[k]? = _
  rw [Array.getElem?_push, if_neg (by omega)]
  exact p.frame k hk hno
 ·intro c y i hy hrw hi
  unfold Env.set at hi
  split at hi
  ·cases hi; exact .inr p.size
  ·exact p.own c y i hy hrw hi
 ·intro c y hy hc
  obtain ⟨g1, g2⟩ := p.ghost c y hy hc
  refine ⟨g1, ?_⟩
  unfold Env.set
  rw [if_neg, g2]
  intro hn; subst hn
  have := r0.freshH _ _ hy
  omega
 ·intro c i hi hc
  unfold Env.set at hi
  split at hi
  ·rename_i hn; subst hn; exact hlt
  ·exact p.newE c i hi hc
end Go.AM
namespace Go.AM
open Go
def CallOk (P : Program) (gs : List (Nat × Id)) (call : CallF) : Prop :=
 ∀ (f : FuncId) (args : List AV) (h : Heap) (v : AV) (h' : Heap), call f args h = some (v, h') → ∀ (e : Env) (w : World) (args' : Array Value), CtxOk ⟨P, gs, 0⟩ e → Rl e args args'.toList → RelH e h w →
  ((callFunc f args').run P w = .ok (.enter f args') w ∧ Calls P f args' w fun en w' => ∃ e' x, en = .returned x ∧ Rv e' v x ∧ Post e h w e' h' w') ∨
  (∃ e' x w', (callFunc f args').run P w = .ok (.value x) w' ∧ Rv e' v x ∧ Post e h w e' h' w')
variable {C : Ctx} {e : Env} {t : Tm} {a : Act} {h : Heap} {w : World}
theorem ctx_any {P : Program} {gs : List (Nat × Id)} {m n : Nat} {e : Env} (h : CtxOk ⟨P, gs, m⟩ e) : CtxOk ⟨P, gs, n⟩ e := ⟨h.glob⟩
theorem rv_undef (e : Env) : Rv e undefA undef := .tup _ _ .nil
theorem At.next {e' : Env} {h' : Heap} {w' : World} (A : At C e t a h w) (p : Post e h w e' h' w') {dst : Option Tmp} {dst' : Option Id} (hd : (dst = none ∧ dst' = none) ∨ ∃ d, d < C.ntmps ∧ dst = some d ∧ dst' = some (pathOf d)) {v : AV} {x : Value} (hv : Rv e' v x) :
  At C e' (putD dst' v t) (a.put dst x) h' w' := by
 refine ⟨A.ctx.mono p.ext, ?_, p.rel⟩
 have hT := A.tm.mono p.ext
 rcases hd with ⟨rfl, rfl⟩ | ⟨d, hd, rfl, rfl⟩
 ·exact hT
 ·exact hT.put hd hv
theorem coper_some {ops : Array Oper} {o : Oper} {ao : AOper} (hc : coper C ops o = some ao) :
  ao.op = (cop C o).getD .fail ∧ ((o.dst = none ∧ ao.dst = none) ∨ ∃ d, d < C.ntmps ∧ o.dst = some d ∧ ao.dst = some (pathOf d)) ∧
  ((o.guard = none ∧ ao.guard = none) ∨ ∃ j want d, o.guard = some (j, want) ∧ (ops[j]?).bind (·.dst) = some d ∧ d < C.ntmps ∧ ao.guard = some (pathOf d, want)) := by
 unfold coper at hc
 simp only [Option.bind_eq_bind, Option.bind_eq_some_iff, Option.some.injEq] at hc
 obtain ⟨dst, hdst, guard, hguard, rfl⟩ := hc
 refine ⟨rfl, ?_, ?_⟩
 ·unfold dstC at hdst
  split at hdst
  ·rename_i h0; cases hdst; exact .inl ⟨h0, rfl⟩
  ·rename_i d h0
   split at hdst
   ·rename_i hlt; cases hdst; exact .inr ⟨d, hlt, h0, rfl⟩
   ·cases hdst
 ·unfold guardC at hguard
  split at hguard
  ·rename_i h0; cases hguard; exact .inl ⟨h0, rfl⟩
  ·rename_i j want h0
   split at hguard
   ·rename_i d hd
    split at hguard
    ·rename_i hlt; cases hguard; exact .inr ⟨j, want, d, h0, hd, hlt, rfl⟩
    ·cases hguard
   ·cases hguard
theorem wanted_iff {ops : Array Oper} {o : Oper} {ao : AOper} (hc : coper C ops o = some ao) (hT : RelT e C.ntmps t a) : Region.wanted o (yielded ops a.tmps) = XM ao t := by
 obtain ⟨_, _, hg⟩ := coper_some hc
 unfold Region.wanted XM
 rcases hg with ⟨h1, h2⟩ | ⟨j, want, d, h1, h2, h3, h4⟩
 ·rw [h1, h2]
 ·rw [h1, h4]
  dsimp only
  have hy : yielded ops a.tmps j = match t.get (pathOf d) with | .bool b => some b | _ => none := by
   unfold yielded
   rw [h2]
   have hval := hT.val d h3
   have hlt : d < a.tmps.size := Nat.lt_of_lt_of_le h3 hT.size
   have hget : a.tmps[d]? = some (a.tmps.getD d undef) := by simp [Array.getD, hlt]
   simp only [Option.bind_some]
   rw [hget]
   generalize a.tmps.getD d undef = u at hval ⊢
   generalize t.get (pathOf d) = v at hval ⊢
   cases hval <;> rfl
  rw [hy]
  generalize t.get (pathOf d) = v
  cases v <;> first | rfl | (rename_i b; cases b <;> cases want <;> rfl)
theorem oneOp_ok {P : Program} {gs : List (Nat × Id)} {call : CallF} (hcall : CallOk P gs call) (hP : C.P = P) (hg : C.gs = gs) {ops : Array Oper} {o : Oper} {ao : AOper} (hc : coper C ops o = some ao) (A : At C e t a h w)
  {v : AV} {h' : Heap} (hr : oneOp call ao t h = some (v, h')) {next : Act → World → Prop} {Q : Exit → Act → World → Prop} (hn : ∀ e' x w', Rv e' v x → Post e h w e' h' w' → next (a.put o.dst x) w') : o.wp P a w next Q := by
 subst hP; subst hg
 unfold oneOp at hr
 obtain ⟨h1, h2, h3⟩ := coper_some hc
 cases hcop : cop C o with
 | none => rw [h1, hcop] at hr; simp [aop] at hr
 | some op =>
  rw [h1, hcop] at hr
  simp only [Option.getD_some] at hr
  split at hr
  ·cases hr
  ·rename_i r hra
   have hok := cop_ok A hcop hra
   unfold Oper.wp
   cases r with
   | val v1 h1 =>
    cases hr
    obtain ⟨e', x, w', g1, g2, g3⟩ := hok
    rw [g1]
    exact hn e' x w' g2 g3
   | skip h1 =>
    cases hr
    obtain ⟨e', w', g1, g2⟩ := hok
    rw [g1]
    exact hn e' undef w' (rv_undef e') g2
   | enter f args h1 =>
    obtain ⟨rfl, args', g1, g2⟩ := hok
    rw [g2]
    rcases hcall f args h1 v h' hr e w args' (ctx_any A.ctx) g1 A.hp with ⟨k1, k2⟩ | ⟨e', x, w', k1, k2, k3⟩
    ·rw [k1]
     exact k2.mono fun en w' ⟨e', x, hen, hx, hp⟩ => by subst hen; exact hn e' x w' hx hp
    ·rw [k1]
     exact hn e' x w' k2 k3
theorem runOps_ok {P : Program} {gs : List (Nat × Id)} {call : CallF} (hcall : CallOk P gs call) (hP : C.P = P) (hg : C.gs = gs) {ops : Array Oper} {Q : Exit → Act → World → Prop} : ∀ (l : List Oper) (k : Nat) (al : List AOper),
  (∀ j, l[j]? = ops[k + j]?) → l.mapM (coper C ops) = some al → ∀ (e : Env) (t : Tm) (a : Act) (h : Heap) (w : World) (t' : Tm) (h' : Heap), At C e t a h w → runOps call al t h = some (t', h') →
  (∀ e' a' w', At C e' t' a' h' w' → a'.defers = a.defers → Post e h w e' h' w' → Q .normal a' w') → wpOps P ops Q (List.range' k l.length) a w := by
 intro l
 induction l with
 | nil =>
  intro k al _ hal e t a h w t' h' A hr hQ
  simp at hal; subst hal
  simp only [runOps, Option.some.injEq, Prod.mk.injEq] at hr
  obtain ⟨rfl, rfl⟩ := hr
  exact hQ e a w A rfl (.refl A.hp)
 | cons o l ih =>
  intro k al hk hal e t a h w t' h' A hr hQ
  simp only [List.mapM_cons, Option.bind_eq_bind, Option.bind_eq_some_iff] at hal
  obtain ⟨ao, hao, al', hal', hal⟩ := hal
  cases hal
  have ho : ops[k]? = some o := by have := hk 0; simpa using this.symm
  have hk' : ∀ j, l[j]? = ops[k + 1 + j]? := by intro j; have := hk (j + 1); simpa [Nat.add_assoc, Nat.add_comm 1 j] using this
  have hw := wanted_iff hao A.tm
  obtain ⟨_, hdst, _⟩ := coper_some hao
  simp only [List.length_cons, List.range'_succ, wpOps, ho]
  simp only [runOps] at hr
  cases hwa : XM ao t with
  | true =>
   rw [hwa] at hr
   rw [hw, hwa, if_pos rfl]
   dsimp only at hr
   split at hr
   ·cases hr
   ·rename_i v h1 hone
    refine .inl (oneOp_ok hcall hP hg hao A hone ?_)
    intro e1 x w1 hx hp
    have A1 := A.next hp hdst hx
    refine ih (k + 1) al' hk' hal' e1 _ _ _ _ t' h' A1 hr ?_
    intro e2 a2 w2 A2 hd2 hp2
    refine hQ e2 a2 w2 A2 ?_ (hp.trans hp2)
    rw [hd2]; cases o.dst <;> rfl
  | false =>
   rw [hwa] at hr
   rw [hw, hwa, if_neg (by simp)]
   dsimp only at hr
   have A1 := A.next (.refl A.hp) hdst (rv_undef e)
   refine ih (k + 1) al' hk' hal' e _ _ _ _ t' h' A1 hr ?_
   intro e2 a2 w2 A2 hd2 hp2
   refine hQ e2 a2 w2 A2 ?_ hp2
   rw [hd2]; cases o.dst <;> rfl
end Go.AM
namespace Go.AM
open Go
def lastw (dst : Nat → Option Id) (Vs : Nat → AV) (t : Tm) (D : Nat → Bool) (m : Id) : Nat → AV
 | 0 => t.get m
 | p + 1 => if D p = true ∧ dst p = some m then Vs p else lastw dst Vs t D m p
theorem lastw_congr {dst : Nat → Option Id} {Vs : Nat → AV} {t : Tm} {D D' : Nat → Bool} {m : Id} : ∀ {n : Nat}, (∀ q, q < n → dst q = some m → D q = D' q) → lastw dst Vs t D m n = lastw dst Vs t D' m n := by
 intro n
 induction n with
 | zero => intro _; rfl
 | succ n ih =>
  intro h
  simp only [lastw]
  rw [ih fun q hq => h q (by omega)]
  by_cases hd : dst n = some m
  ·rw [h n (by omega) hd]
  ·simp [hd]
theorem lastw_skip {dst : Nat → Option Id} {Vs : Nat → AV} {t : Tm} {D : Nat → Bool} {m : Id} {p : Nat} : ∀ {n : Nat}, p ≤ n → (∀ q, p ≤ q → q < n → dst q = some m → D q = false) → lastw dst Vs t D m n = lastw dst Vs t D m p := by
 intro n
 induction n with
 | zero => intro hp _; rw [show p = 0 by omega]
 | succ n ih =>
  intro hp h
  rcases Nat.lt_or_ge n p with hlt | hge
  ·rw [show p = n + 1 by omega]
  ·simp only [lastw]
   rw [if_neg, ih hge fun q h1 h2 => h q h1 (by omega)]
   rintro ⟨h1, h2⟩
   rw [h n hge (by omega) h2] at h1; cases h1
theorem effFrom_get : ∀ {d : List DOper} {k c q : Nat}, (XG k d)[c]? = some q → k ≤ q ∧ ∃ x, d[q - k]? = some x ∧ XA x = true := by
 intro d
 induction d with
 | nil => intro k c q h; simp [XG] at h
 | cons x d ih =>
  intro k c q h
  simp only [XG] at h
  cases hx : XA x with
  | true =>
   rw [hx] at h
   cases c with
   | zero =>
    simp only [List.getElem?_cons_zero, Option.some.injEq] at h
    subst h
    exact ⟨Nat.le_refl _, x, by simp, hx⟩
   | succ c =>
    obtain ⟨h1, y, h2, h3⟩ := ih (by simpa using h)
    refine ⟨by omega, y, ?_, h3⟩
    rw [show q - k = (q - (k + 1)) + 1 by omega]; simpa using h2
  | false =>
   rw [hx] at h
   obtain ⟨h1, y, h2, h3⟩ := ih h
   refine ⟨by omega, y, ?_, h3⟩
   rw [show q - k = (q - (k + 1)) + 1 by omega]; simpa using h2
theorem effFrom_of : ∀ {d : List DOper} {k p : Nat} {x : DOper}, d[p]? = some x → XA x = true → (XG k d)[((d.take p).filter XA).length]? = some (k + p) := by
 intro d
 induction d with
 | nil => intro k p x h; simp at h
 | cons y d ih =>
  intro k p x h hx
  cases p with
  | zero =>
   simp only [List.getElem?_cons_zero, Option.some.injEq] at h
   subst h
   simp [XG, hx]
  | succ p =>
   have := ih (k := k + 1) (p := p) (by simpa using h) hx
   simp only [XG, List.take_succ_cons, List.filter_cons]
   cases hy : XA y with
   | true => simp only [if_true, List.length_cons, List.getElem?_cons_succ, this]; congr 1; omega
   | false => simp only [Bool.false_eq_true, if_false, this]; congr 1; omega
theorem effFrom_next : ∀ {d : List DOper} {k p q : Nat}, p ≤ d.length → ((XG k d) ++ [k + d.length])[((d.take p).filter XA).length]? = some q → k + p ≤ q := by
 intro d
 induction d with
 | nil => intro k p q hp h; simp [XG] at h; simp at hp; omega
 | cons y d ih =>
  intro k p q hp h
  cases p with
  | zero =>
   simp only [List.take_zero, List.filter_nil, List.length_nil] at h
   cases he : XG k (y :: d) with
   | nil => rw [he] at h; simp at h; omega
   | cons z r =>
    rw [he] at h
    simp only [List.cons_append, List.getElem?_cons_zero, Option.some.injEq] at h
    subst h
    have := (effFrom_get (c := 0) (q := z) (by rw [he]; rfl)).1
    omega
  | succ p =>
   have hl : k + (y :: d).length = (k + 1) + d.length := by simp; omega
   rw [hl] at h
   simp only [XG, List.take_succ_cons, List.filter_cons] at h
   have hp' : p ≤ d.length := by simpa using hp
   cases hy : XA y with
   | true =>
    rw [hy] at h
    simp only [if_true, List.length_cons, List.cons_append, List.getElem?_cons_succ] at h
    have := ih hp' h; omega
   | false =>
    rw [hy] at h
    simp only [Bool.false_eq_true, if_false] at h
    have := ih hp' h; omega
theorem effFrom_lt : ∀ {d : List DOper} {k c c' q q' : Nat}, c < c' → (XG k d)[c]? = some q → (XG k d)[c']? = some q' → q < q' := by
 intro d
 induction d with
 | nil => intro k c c' q q' _ h; simp [XG] at h
 | cons x d ih =>
  intro k c c' q q' hc h h'
  simp only [XG] at h h'
  cases hx : XA x with
  | true =>
   rw [hx] at h h'
   cases c' with
   | zero => omega
   | succ c' =>
    simp only [List.getElem?_cons_succ] at h'
    cases c with
    | zero =>
     simp only [List.getElem?_cons_zero, Option.some.injEq] at h
     subst h
     have := (effFrom_get h').1; omega
    | succ c => exact ih (c := c) (c' := c') (by omega) (by simpa using h) h'
  | false =>
   rw [hx] at h h'
   exact ih hc h h'
theorem effFrom_bound {d : List DOper} {k c q : Nat} (h : (XG k d)[c]? = some q) : q < k + d.length := by
 obtain ⟨h1, x, h2, _⟩ := effFrom_get h
 have := (List.getElem?_eq_some_iff.1 h2).1
 omega
def bounds (d : List DOper) : List Nat := XG 0 d ++ [d.length]
theorem bounds_lt {d : List DOper} {c c' q q' : Nat} (hc : c < c') (h : (bounds d)[c]? = some q) (h' : (bounds d)[c']? = some q') : q < q' := by
 unfold bounds at h h'
 have hl : c < (XG 0 d).length := by
  have := (List.getElem?_eq_some_iff.1 h').1
  simp at this; omega
 rw [List.getElem?_append_left hl] at h
 rcases Nat.lt_or_ge c' (XG 0 d).length with hlt | hge
 ·rw [List.getElem?_append_left hlt] at h'
  exact effFrom_lt hc h h'
 ·rw [List.getElem?_append_right hge] at h'
  have : c' - (XG 0 d).length = 0 := by
   have := (List.getElem?_eq_some_iff.1 h').1
   simp at this; omega
  rw [this] at h'
  simp at h'
  have := effFrom_bound h
  omega
theorem bounds_le {d : List DOper} {c c' q q' : Nat} (hc : c ≤ c') (h : (bounds d)[c]? = some q) (h' : (bounds d)[c']? = some q') : q ≤ q' := by
 rcases Nat.lt_or_ge c c' with hlt | hge
 ·exact Nat.le_of_lt (bounds_lt hlt h h')
 ·have : c = c' := by omega
  subst this
  rw [h] at h'; cases h'; exact Nat.le_refl _
theorem bounds_gap {d : List DOper} {c P P' : Nat} (h : (bounds d)[c]? = some P) (h' : (bounds d)[c + 1]? = some P') {p : Nat} (h1 : P < p) (h2 : p < P') {x : DOper} (hx : d[p]? = some x) : XA x = false := by
 cases he : XA x with
 | false => rfl
 | true =>
  exfalso
  have := effFrom_of (k := 0) hx he
  generalize ((d.take p).filter XA).length = j at this
  rw [Nat.zero_add] at this
  have hj : (bounds d)[j]? = some p := by
   unfold bounds
   rw [List.getElem?_append_left (List.getElem?_eq_some_iff.1 this).1, this]
  rcases Nat.lt_or_ge j (c + 1) with hlt | hge
  ·have := bounds_le (by omega : j ≤ c) hj h; omega
  ·have := bounds_le hge h' hj; omega
theorem bounds_gap0 {d : List DOper} {P : Nat} (h : (bounds d)[0]? = some P) {p : Nat} (h2 : p < P) {x : DOper} (hx : d[p]? = some x) : XA x = false := by
 cases he : XA x with
 | false => rfl
 | true =>
  exfalso
  have := effFrom_of (k := 0) hx he
  generalize ((d.take p).filter XA).length = j at this
  rw [Nat.zero_add] at this
  have hj : (bounds d)[j]? = some p := by
   unfold bounds
   rw [List.getElem?_append_left (List.getElem?_eq_some_iff.1 this).1, this]
  have := bounds_le (Nat.zero_le j) h hj; omega
end Go.AM
namespace Go.AM
open Go
structure Stat (C : Ctx) (call : CallF) (ops : Array Oper) (S : List (Nat × DOper)) (Ts : Nat → Tm) (Hs : Nat → Heap) (Vs : Nat → AV) : Prop where
 mem : ∀ (p : Nat) (x : Nat × DOper), S[p]? = some x → ∃ o, ops[x.1]? = some o ∧ coper C ops o = some x.2.o ∧ x.2.way = x.2.o.op.way
 edges : ∀ (i : Nat) (o : Oper), ops[i]? = some o → ∀ e ∈ o.after, Region.binds .any e = true → e.on < i
 all : ∀ i, i < ops.size → ∃ (p : Nat) (x : Nat × DOper), S[p]? = some x ∧ x.1 = i
 pair : ∀ (p q : Nat) (x y : Nat × DOper), p < q → S[p]? = some x → S[q]? = some y →
  x.1 ≠ y.1 ∧ ((touches x.2.o y.2.o = true ∨ touches y.2.o x.2.o = true ∨ (XA x.2 = true ∧ XA y.2 = true)) → ((Region.before ops).getD y.1 0).testBit x.1 = true)
 quiet : ∀ (p : Nat) (x : Nat × DOper), S[p]? = some x → x.2.way = .quiet → XM x.2.o (Ts p) = true → ∀ (c P : Nat), (bounds (S.map (·.2)))[c]? = some P → x.2.lo ≤ c → c ≤ x.2.hi → ∃ H', aop x.2.o.op (Ts p) (Hs P) = some (.val (Vs p) H')
 qlo : ∀ (p : Nat) (x : Nat × DOper), S[p]? = some x → x.2.way = .quiet → x.2.lo ≤ (XG 0 (S.map (·.2))).length ∧ (∀ (c q : Nat) (y : Nat × DOper), c < x.2.lo → (XG 0 (S.map (·.2)))[c]? = some q → S[q]? = some y → ((Region.before ops).getD x.1 0).testBit y.1 = true) ∧
  ∀ (c q : Nat) (y : Nat × DOper), x.2.hi ≤ c → (XG 0 (S.map (·.2)))[c]? = some q → S[q]? = some y → ((Region.before ops).getD y.1 0).testBit x.1 = true
 qhi : ∀ (p : Nat) (x : Nat × DOper), S[p]? = some x → x.2.way = .quiet → x.2.hi ≤ (XG 0 (S.map (·.2))).length
 made : ∀ (p : Nat) (x : Nat × DOper), S[p]? = some x → x.2.way = .make → (((S.map (·.2)).take p).filter XA).length ≤ x.2.lo ∧
  ∀ (c q : Nat) (y : Nat × DOper), c < x.2.lo → (XG 0 (S.map (·.2)))[c]? = some q → S[q]? = some y → ((Region.before ops).getD x.1 0).testBit y.1 = true
 took : ∀ (p : Nat) (x : Nat × DOper), S[p]? = some x → Took call x.2 (Ts p) (Hs p) (Vs p) (Ts (p + 1)) (Hs (p + 1))
def dstAt (S : List (Nat × DOper)) (p : Nat) : Option Id := (S[p]?).bind (·.2.o.dst)
def doneAt (S : List (Nat × DOper)) (listed : Array Bool) (p : Nat) : Bool := match S[p]? with
 | some x => listed.getD x.1 false
 | none => false
structure Inv (C : Ctx) (ops : Array Oper) (S : List (Nat × DOper)) (Ts : Nat → Tm) (Hs : Nat → Heap) (Vs : Nat → AV) (e0 : Env) (w0 : World) (a0 : Act) (listed : Array Bool) (c P : Nat) (e : Env) (t : Tm) (a : Act) (w : World) : Prop where
 size : listed.size = ops.size
 closed : ∀ i, listed.getD i false = true → ∀ x, ((Region.before ops).getD i 0).testBit x = true → listed.getD x false = true
 pos : (bounds (S.map (·.2)))[c]? = some P
 done : ∀ (k q : Nat) (x : Nat × DOper), (XG 0 (S.map (·.2)))[k]? = some q → S[q]? = some x → listed.getD x.1 false = decide (k < c)
 at_ : At C e t a (Hs P) w
 tm : ∀ m, t.get m = lastw (dstAt S) Vs (Ts 0) (doneAt S listed) m S.length
 post : Post e0 (Hs 0) w0 e (Hs P) w
 mono : ∀ p q, p ≤ q → q ≤ P → num (Hs p).next ≤ num (Hs q).next
 ghost : ∀ (p : Nat) (x : Nat × DOper), S[p]? = some x → x.2.way = .make → XM x.2.o (Ts p) = true → listed.getD x.1 false = false → p < P → e (Hs p).next = none ∧ (Hs P).get (Hs p).next = (Hs (p + 1)).get (Hs p).next
 defers : a.defers = a0.defers
variable {C : Ctx} {call : CallF} {ops : Array Oper} {S : List (Nat × DOper)} {Ts : Nat → Tm} {Hs : Nat → Heap} {Vs : Nat → AV}
theorem Stat.uniq (st : Stat C call ops S Ts Hs Vs) {p q : Nat} {x y : Nat × DOper} (hx : S[p]? = some x) (hy : S[q]? = some y) (h : x.1 = y.1) : p = q := by
 rcases Nat.lt_trichotomy p q with hlt | heq | hgt
 ·exact absurd h (st.pair p q x y hlt hx hy).1
 ·exact heq
 ·exact absurd h.symm (st.pair q p y x hgt hy hx).1
theorem Stat.step (st : Stat C call ops S Ts Hs Vs) {p : Nat} {x : Nat × DOper} (hx : S[p]? = some x) (hne : XA x.2 = false) :
  Hs (p + 1) = Hs p ∨ (x.2.way = .make ∧ XM x.2.o (Ts p) = true ∧ ∃ blk, Hs (p + 1) = (Hs p).new blk) := by
 obtain ⟨o, ho, hc, hw⟩ := st.mem p x hx
 rcases (st.took p x hx).2 with ⟨hwn, hone⟩ | ⟨_, _, h⟩
 ·unfold oneOp at hone
  split at hone
  ·cases hone
  ·rename_i r hr
   cases hway : x.2.way with
   | effect => unfold XA at hne; rw [hway] at hne; cases hne
   | pure =>
    obtain ⟨v, rfl⟩ := pure_val (by rw [← hw, hway]) hr
    simp only [Option.some.injEq, Prod.mk.injEq] at hone
    exact .inl hone.2.symm
   | quiet =>
    obtain ⟨v, rfl⟩ := quiet_on (by rw [← hw, hway]) hr
    simp only [Option.some.injEq, Prod.mk.injEq] at hone
    exact .inl hone.2.symm
   | make =>
    obtain ⟨v, blk, rfl⟩ := make_val (by rw [← hw, hway]) hr
    simp only [Option.some.injEq, Prod.mk.injEq] at hone
    exact .inr ⟨rfl, hwn, blk, hone.2.symm⟩
 ·exact .inl h
theorem Stat.advance (st : Stat C call ops S Ts Hs Vs) {e : Env} {t : Tm} {a : Act} {w : World} : ∀ (n q P : Nat), q + n = P → P ≤ S.length → At C e t a (Hs q) w → (∀ (p : Nat) (x : Nat × DOper), q ≤ p → p < P → S[p]? = some x → XA x.2 = false) →
  At C e t a (Hs P) w ∧ Post e (Hs q) w e (Hs P) w ∧ (∀ p p', q ≤ p → p ≤ p' → p' ≤ P → num (Hs p).next ≤ num (Hs p').next) ∧
  (∀ (p : Nat) (x : Nat × DOper), q ≤ p → p < P → S[p]? = some x → x.2.way = .make → XM x.2.o (Ts p) = true → e (Hs p).next = none ∧ (Hs P).get (Hs p).next = (Hs (p + 1)).get (Hs p).next) := by
 intro n
 induction n with
 | zero =>
  intro q P hq _ A _
  have : q = P := by omega
  subst this
  exact ⟨A, .refl A.hp, fun p p' h1 h2 h3 => by rw [show p = p' by omega]; exact Nat.le_refl _, fun p x h1 h2 => by omega⟩
 | succ n ih =>
  intro q P hq hP A hno
  have hqx : ∃ x, S[q]? = some x := ⟨S[q]'(by omega), List.getElem?_eq_getElem (by omega)⟩
  obtain ⟨x, hx⟩ := hqx
  have hne := hno q x (Nat.le_refl _) (by omega) hx
  have hstep : At C e t a (Hs (q + 1)) w ∧ Post e (Hs q) w e (Hs (q + 1)) w ∧ num (Hs q).next ≤ num (Hs (q + 1)).next ∧
    (x.2.way = .make → XM x.2.o (Ts q) = true → e (Hs q).next = none ∧ ∃ blk, (Hs (q + 1)).get (Hs q).next = some blk) := by
   obtain ⟨o, ho, hc, hw⟩ := st.mem q x hx
   have hnone : e (Hs q).next = none := A.hp.no_next
   rcases st.step hx hne with h | ⟨hm, hwn, blk, h⟩
   ·rw [h]
    refine ⟨A, .refl A.hp, Nat.le_refl _, fun hm hwn => ⟨hnone, ?_⟩⟩
    exfalso
    rcases (st.took q x hx).2 with ⟨_, hone⟩ | ⟨hf, _⟩
    ·unfold oneOp at hone
     split at hone
     ·cases hone
     ·rename_i r hr
      obtain ⟨v, blk, rfl⟩ := make_val (by rw [← hw, hm]) hr
      simp only [Option.some.injEq, Prod.mk.injEq] at hone
      have h2 := congrArg (fun h : Heap => num h.next) (hone.2.trans h)
      simp only [Heap.new, num_incr] at h2
      simp only [num] at h2
      omega
    ·rw [hf] at hwn; cases hwn
   ·rw [h]
    have hp := post_later A.hp blk
    exact ⟨⟨A.ctx, A.tm, hp.rel⟩, hp, hp.next, fun _ _ => ⟨hnone, blk, by rw [Heap.get_new, if_pos rfl]⟩⟩
  obtain ⟨A1, p1, m1, g1⟩ := hstep
  obtain ⟨A2, p2, m2, g2⟩ := ih (q + 1) P (by omega) hP A1 (fun p y h1 h2 => hno p y (by omega) h2)
  refine ⟨A2, p1.trans p2, fun p p' h1 h2 h3 => ?_, fun p y h1 h2 hy hm hwn => ?_⟩
  ·rcases Nat.lt_or_ge q p with hlt | hge
   ·exact m2 p p' (by omega) h2 h3
   ·have : p = q := by omega
    subst this
    rcases Nat.lt_or_ge p p' with hlt | hge2
    ·exact Nat.le_trans m1 (m2 (p + 1) p' (Nat.le_refl _) (by omega) h3)
    ·rw [show p' = p by omega]; exact Nat.le_refl _
  ·rcases Nat.lt_or_ge q p with hlt | hge
   ·exact g2 p y (by omega) h2 hy hm hwn
   ·have : p = q := by omega
    subst this
    rw [hx] at hy; cases hy
    obtain ⟨h3, blk, h4⟩ := g1 hm hwn
    refine ⟨h3, ?_⟩
    rw [h4]
    exact (p2.ghost _ _ h4 h3).1
theorem touches_opd {x y : AOper} {m : Id} (hy : y.dst = some m) {z : Opd} (hz : z ∈ x.op.opds) (hm : z = .tmp m) : touches y x = true := by
 unfold touches
 rw [hy]
 subst hm
 simp only [Bool.or_eq_true, List.any_eq_true]
 exact .inr ⟨_, hz, by simp⟩
theorem touches_guard {x y : AOper} {m : Id} (hy : y.dst = some m) {want : Bool} (hg : x.guard = some (m, want)) : touches y x = true := by
 unfold touches
 rw [hy, hg]
 simp
theorem touches_dst {x y : AOper} {m : Id} (hy : y.dst = some m) (hx : x.dst = some m) : touches y x = true := by
 unfold touches
 rw [hy, hx]
 simp
theorem Stat.tm_get (st : Stat C call ops S Ts Hs Vs) (m : Id) : ∀ p, p ≤ S.length → (Ts p).get m = lastw (dstAt S) Vs (Ts 0) (fun _ => true) m p := by
 intro p
 induction p with
 | zero => intro _; rfl
 | succ p ih =>
  intro hp
  have hpx : ∃ x, S[p]? = some x := ⟨S[p]'(by omega), List.getElem?_eq_getElem (by omega)⟩
  obtain ⟨x, hx⟩ := hpx
  rw [(st.took p x hx).1]
  simp only [lastw, dstAt, hx, Option.bind_some, true_and]
  cases hd : x.2.o.dst with
  | none => simp only [putD]; rw [if_neg (by simp), ih (by omega)]
  | some d =>
   simp only [putD, Tm.get_put, Option.some.injEq]
   rw [ih (by omega)]
theorem Stat.same (st : Stat C call ops S Ts Hs Vs) {listed : Array Bool} (hcl : ∀ i, listed.getD i false = true → ∀ x, ((Region.before ops).getD i 0).testBit x = true → listed.getD x false = true)
  {p : Nat} {x : Nat × DOper} (hx : S[p]? = some x) (hun : listed.getD x.1 false = false) (hpre : ∀ y, ((Region.before ops).getD x.1 0).testBit y = true → listed.getD y false = true) {t : Tm}
  (ht : ∀ m, t.get m = lastw (dstAt S) Vs (Ts 0) (doneAt S listed) m S.length) {m : Id} (hm : ∀ y : AOper, y.dst = some m → touches y x.2.o = true) : t.get m = (Ts p).get m := by
 have hp : p < S.length := (List.getElem?_eq_some_iff.1 hx).1
 rw [ht, st.tm_get m p (by omega), lastw_skip (p := p) (by omega), lastw_congr]
 ·intro q hq hd
  have hqx : ∃ y, S[q]? = some y := ⟨S[q]'(by omega), List.getElem?_eq_getElem (by omega)⟩
  obtain ⟨y, hy⟩ := hqx
  simp only [dstAt, hy, Option.bind_some] at hd
  simp only [doneAt, hy]
  exact hpre _ ((st.pair q p y x hq hy hx).2 (.inl (hm _ hd)))
 ·intro q hq1 hq2 hd
  have hqx : ∃ y, S[q]? = some y := ⟨S[q]'(by omega), List.getElem?_eq_getElem (by omega)⟩
  obtain ⟨y, hy⟩ := hqx
  simp only [dstAt, hy, Option.bind_some] at hd
  simp only [doneAt, hy]
  rcases Nat.lt_or_ge p q with hlt | hge
  ·cases hl : listed.getD y.1 false with
   | false => rfl
   | true =>
    have := hcl _ hl _ ((st.pair p q x y hlt hx hy).2 (.inr (.inl (hm _ hd))))
    rw [hun] at this; cases this
  ·have : q = p := by omega
   subst this
   rw [hx] at hy; cases hy
   exact hun
end Go.AM
namespace Go.AM
open Go
variable {C : Ctx} {call : CallF} {ops : Array Oper} {S : List (Nat × DOper)} {Ts : Nat → Tm} {Hs : Nat → Heap} {Vs : Nat → AV} {e0 e : Env} {w0 w : World} {a0 a : Act} {listed : Array Bool} {c P : Nat} {t : Tm}
theorem getD_list {i : Nat} (h : i < listed.size) (j : Nat) : (listed.setIfInBounds i true).getD j false = if i = j then true else listed.getD j false := by
 simp only [Array.getD_eq_getD_getElem?, Array.getElem?_setIfInBounds]
 by_cases hij : i = j
 ·subst hij; simp [h]
 ·simp [hij]
theorem Stat.lt (st : Stat C call ops S Ts Hs Vs) {p : Nat} {x : Nat × DOper} (hx : S[p]? = some x) : x.1 < ops.size := by
 obtain ⟨o, ho, _⟩ := st.mem p x hx
 exact (Array.getElem?_eq_some_iff.1 ho).1
theorem Inv.tm_next (st : Stat C call ops S Ts Hs Vs) (I : Inv C ops S Ts Hs Vs e0 w0 a0 listed c P e t a w) {p : Nat} {x : Nat × DOper} (hx : S[p]? = some x) (hun : listed.getD x.1 false = false) (m : Id) :
  (putD x.2.o.dst (Vs p) t).get m = lastw (dstAt S) Vs (Ts 0) (doneAt S (listed.setIfInBounds x.1 true)) m S.length := by
 have hlt : x.1 < listed.size := by rw [I.size]; exact st.lt hx
 have hp : p < S.length := (List.getElem?_eq_some_iff.1 hx).1
 have other : ∀ q, q ≠ p → doneAt S (listed.setIfInBounds x.1 true) q = doneAt S listed q := by
  intro q hq
  unfold doneAt
  cases hy : S[q]? with
  | none => rfl
  | some y =>
   dsimp only
   rw [getD_list hlt, if_neg]
   intro h
   exact hq (st.uniq hx hy h).symm
 by_cases hd : x.2.o.dst = some m
 ·rw [hd]
  simp only [putD, Tm.get_put, if_true]
  rw [lastw_skip (p := p + 1) (by omega)]
  ·simp only [lastw]
   rw [if_pos]
   refine ⟨?_, by simp only [dstAt, hx]; exact hd⟩
   simp only [doneAt, hx]
   rw [getD_list hlt, if_pos rfl]
  ·intro q h1 h2 hdq
   rw [other q (by omega)]
   cases hy : S[q]? with
   | none => simp only [doneAt, hy]
   | some y =>
    simp only [dstAt, hy, Option.bind_some] at hdq
    simp only [doneAt, hy]
    cases hl : listed.getD y.1 false with
    | false => rfl
    | true =>
     have := I.closed _ hl _ ((st.pair p q x y (by omega) hx hy).2 (.inl (touches_dst hd hdq)))
     rw [hun] at this; cases this
 ·have h1 : (putD x.2.o.dst (Vs p) t).get m = t.get m := by
   cases hdd : x.2.o.dst with
   | none => rfl
   | some d =>
    simp only [putD, Tm.get_put]
    rw [if_neg]
    intro h; subst h; exact hd hdd
  rw [h1, I.tm]
  apply lastw_congr
  intro q hq hdq
  rw [other]
  intro h; subst h
  simp only [dstAt, hx, Option.bind_some] at hdq
  exact hd hdq
theorem Inv.closed_next (st : Stat C call ops S Ts Hs Vs) (I : Inv C ops S Ts Hs Vs e0 w0 a0 listed c P e t a w) {p : Nat} {x : Nat × DOper} (hx : S[p]? = some x) (hpre : ∀ y, ((Region.before ops).getD x.1 0).testBit y = true → listed.getD y false = true) :
  ∀ i, (listed.setIfInBounds x.1 true).getD i false = true → ∀ y, ((Region.before ops).getD i 0).testBit y = true → (listed.setIfInBounds x.1 true).getD y false = true := by
 have hlt : x.1 < listed.size := by rw [I.size]; exact st.lt hx
 intro i hi y hy
 rw [getD_list hlt] at hi ⊢
 split
 ·rfl
 ·split at hi
  ·rename_i h; subst h; exact hpre y hy
  ·exact I.closed i hi y hy
theorem Inv.closeN (st : Stat C call ops S Ts Hs Vs) (I : Inv C ops S Ts Hs Vs e0 w0 a0 listed c P e t a w) {p : Nat} {x : Nat × DOper} (hx : S[p]? = some x) (hun : listed.getD x.1 false = false)
  (hpre : ∀ y, ((Region.before ops).getD x.1 0).testBit y = true → listed.getD y false = true) (hne : XA x.2 = false) {e1 : Env} {a1 : Act} {w1 : World} (A1 : At C e1 (putD x.2.o.dst (Vs p) t) a1 (Hs P) w1) (hp1 : Post e0 (Hs 0) w0 e1 (Hs P) w1)
  (hg : ∀ (p' : Nat) (x' : Nat × DOper), S[p']? = some x' → p' ≠ p → x'.2.way = .make → XM x'.2.o (Ts p') = true → listed.getD x'.1 false = false → p' < P → e1 (Hs p').next = none) (hd : a1.defers = a.defers) :
  Inv C ops S Ts Hs Vs e0 w0 a0 (listed.setIfInBounds x.1 true) c P e1 (putD x.2.o.dst (Vs p) t) a1 w1 := by
 have hlt : x.1 < listed.size := by rw [I.size]; exact st.lt hx
 refine ⟨by simp [I.size], I.closed_next st hx hpre, I.pos, ?_, A1, I.tm_next st hx hun, hp1, I.mono, ?_, hd.trans I.defers⟩
 ·intro k q y hk hy
  rw [getD_list hlt, if_neg, I.done k q y hk hy]
  intro h
  have := st.uniq hx hy h
  subst this
  rw [hx] at hy; cases hy
  obtain ⟨_, z, hz, hze⟩ := effFrom_get hk
  rw [Nat.sub_zero, List.getElem?_map, hx] at hz
  cases hz
  rw [hne] at hze; cases hze
 ·intro p' x' hx' hm hwn hl hp'
  rw [getD_list hlt] at hl
  split at hl
  ·cases hl
  ·rename_i hne'
   have hpp : p' ≠ p := by intro h; subst h; rw [hx] at hx'; cases hx'; exact hne' rfl
   exact ⟨hg p' x' hx' hpp hm hwn hl hp', (I.ghost p' x' hx' hm hwn hl hp').2⟩
theorem Inv.next_effect (st : Stat C call ops S Ts Hs Vs) (I : Inv C ops S Ts Hs Vs e0 w0 a0 listed c P e t a w) {p : Nat} {x : Nat × DOper} (hx : S[p]? = some x) (hun : listed.getD x.1 false = false)
  (hpre : ∀ y, ((Region.before ops).getD x.1 0).testBit y = true → listed.getD y false = true) (he : XA x.2 = true) : (XG 0 (S.map (·.2)))[c]? = some p ∧ P = p := by
 have hxm : (S.map (·.2))[p]? = some x.2 := by rw [List.getElem?_map, hx]; rfl
 have hk := effFrom_of (k := 0) hxm he
 generalize (((S.map (·.2)).take p).filter XA).length = k at hk
 rw [Nat.zero_add] at hk
 have hdk := I.done k p x hk hx
 rw [hun] at hdk
 have hkc : ¬ k < c := by intro h; simp [h] at hdk
 have hck : k = c := by
  rcases Nat.lt_or_ge c k with hlt | hge
  ·exfalso
   have hl : c < (XG 0 (S.map (·.2))).length := Nat.lt_trans hlt (List.getElem?_eq_some_iff.1 hk).1
   obtain ⟨q, hq⟩ : ∃ q, (XG 0 (S.map (·.2)))[c]? = some q := ⟨_, List.getElem?_eq_getElem hl⟩
   obtain ⟨_, z, hz, hze⟩ := effFrom_get hq
   rw [Nat.sub_zero, List.getElem?_map] at hz
   cases hy : S[q]? with
   | none => rw [hy] at hz; cases hz
   | some y =>
    rw [hy] at hz; cases hz
    have hqp := effFrom_lt hlt hq hk
    have := hpre _ ((st.pair q p y x hqp hy hx).2 (.inr (.inr ⟨hze, he⟩)))
    rw [I.done c q y hq hy] at this
    simp at this
  ·omega
 subst hck
 refine ⟨hk, ?_⟩
 have := I.pos
 unfold bounds at this
 rw [List.getElem?_append_left (List.getElem?_eq_some_iff.1 hk).1, hk] at this
 cases this; rfl
theorem Inv.closeE (st : Stat C call ops S Ts Hs Vs) (I : Inv C ops S Ts Hs Vs e0 w0 a0 listed c P e t a w) {x : Nat × DOper} (hx : S[P]? = some x) (hun : listed.getD x.1 false = false)
  (hpre : ∀ y, ((Region.before ops).getD x.1 0).testBit y = true → listed.getD y false = true) (he : XA x.2 = true) {e1 : Env} {a1 : Act} {w1 : World} (A1 : At C e1 (putD x.2.o.dst (Vs P) t) a1 (Hs (P + 1)) w1) (hp1 : Post e (Hs P) w e1 (Hs (P + 1)) w1)
  (hd : a1.defers = a.defers) : ∃ P', Inv C ops S Ts Hs Vs e0 w0 a0 (listed.setIfInBounds x.1 true) (c + 1) P' e1 (putD x.2.o.dst (Vs P) t) a1 w1 := by
 have hlt : x.1 < listed.size := by rw [I.size]; exact st.lt hx
 obtain ⟨hE, _⟩ := I.next_effect st hx hun hpre he
 have hcl := (List.getElem?_eq_some_iff.1 hE).1
 have hb : c + 1 < (bounds (S.map (·.2))).length := by unfold bounds; simp; omega
 obtain ⟨P', hP'⟩ : ∃ P', (bounds (S.map (·.2)))[c + 1]? = some P' := ⟨_, List.getElem?_eq_getElem hb⟩
 have hPP := bounds_lt (Nat.lt_succ_self c) I.pos hP'
 have hPN : P' ≤ S.length := by
  have h2 : (bounds (S.map (·.2)))[(XG 0 (S.map (·.2))).length]? = some S.length := by unfold bounds; simp
  exact bounds_le (by omega) hP' h2
 obtain ⟨A2, p2, m2, g2⟩ := st.advance (P' - (P + 1)) (P + 1) P' (by omega) hPN A1 (fun q y h1 h2 hy => bounds_gap I.pos hP' (by omega) h2 (by rw [List.getElem?_map, hy]; rfl))
 refine ⟨P', by simp [I.size], I.closed_next st hx hpre, hP', ?_, A2, I.tm_next st hx hun, I.post.trans (hp1.trans p2), ?_, ?_, hd.trans I.defers⟩
 ·intro k q y hk hy
  rw [getD_list hlt]
  split
  ·rename_i h
   have := st.uniq hx hy h
   subst this
   have hkc : k = c := by
    rcases Nat.lt_trichotomy k c with h1 | h1 | h1
    ·have := effFrom_lt h1 hk hE; omega
    ·exact h1
    ·have := effFrom_lt h1 hE hk; omega
   simp [hkc]
  ·rename_i h
   rw [I.done k q y hk hy]
   have hkc : k ≠ c := by
    intro hh; subst hh
    rw [hE] at hk; cases hk
    rw [hx] at hy; cases hy
    exact h rfl
   by_cases h1 : k < c
   ·simp [h1]; omega
   ·have : ¬ k < c + 1 := by omega
    simp [h1, this]
 ·intro p q h1 h2
  rcases Nat.lt_or_ge P p with hlt1 | hge1
  ·exact m2 p q (by omega) h1 h2
  ·rcases Nat.lt_or_ge P q with hlt2 | hge2
   ·exact Nat.le_trans (I.mono p P hge1 (Nat.le_refl _)) (Nat.le_trans hp1.next (m2 (P + 1) q (Nat.le_refl _) (by omega) h2))
   ·exact I.mono p q h1 hge2
 ·intro p' x' hx' hm hwn hl hp'
  rw [getD_list hlt] at hl
  split at hl
  ·cases hl
  ·rename_i hne'
   rcases Nat.lt_trichotomy p' P with h1 | h1 | h1
   ·obtain ⟨k1, k2⟩ := I.ghost p' x' hx' hm hwn hl h1
    have hsome : ∃ blk, (Hs P).get (Hs p').next = some blk := by
     rw [k2]
     obtain ⟨o, ho, hc, hw⟩ := st.mem p' x' hx'
     rcases (st.took p' x' hx').2 with ⟨_, hone⟩ | ⟨hf, _⟩
     ·unfold oneOp at hone
      split at hone
      ·cases hone
      ·rename_i r hr
       obtain ⟨v, blk, rfl⟩ := make_val (by rw [← hw, hm]) hr
       simp only [Option.some.injEq, Prod.mk.injEq] at hone
       exact ⟨blk, by rw [← hone.2, Heap.get_new, if_pos rfl]⟩
     ·rw [hf] at hwn; cases hwn
    obtain ⟨blk, hblk⟩ := hsome
    obtain ⟨k3, k4⟩ := (hp1.trans p2).ghost _ _ hblk k1
    exact ⟨k4, by rw [k3, ← k2, hblk]⟩
   ·subst h1; rw [hx] at hx'; cases hx'; exact absurd rfl hne'
   ·exact g2 p' x' (by omega) hp' hx' hm hwn
end Go.AM
namespace Go.AM
open Go
variable {C : Ctx} {call : CallF} {ops : Array Oper} {S : List (Nat × DOper)} {Ts : Nat → Tm} {Hs : Nat → Heap} {Vs : Nat → AV} {e0 e : Env} {w0 w : World} {a0 a : Act} {listed : Array Bool} {c P : Nat} {t : Tm}
theorem ready_spec (st : Stat C call ops S Ts Hs Vs) (I : Inv C ops S Ts Hs Vs e0 w0 a0 listed c P e t a w) {i : Nat} (hi : i ∈ Region.ready .any ops listed) :
  listed.getD i false = false ∧ i < ops.size ∧ ∀ y, ((Region.before ops).getD i 0).testBit y = true → listed.getD y false = true := by
 obtain ⟨h1, o, ho, h2⟩ := mem_ready.1 hi
 have hlt := (Array.getElem?_eq_some_iff.1 ho).1
 have hls : i < listed.size := by rw [I.size]; exact hlt
 refine ⟨?_, hlt, fun y hy => ?_⟩
 ·rw [Array.getD_eq_getD_getElem?, Array.getElem?_eq_getElem hls] at h1 ⊢
  exact h1
 ·obtain ⟨ed, he, hb, hx⟩ := before_spec ho hy
  have h3 := h2 ed he hb
  rcases hx with rfl | hx
  ·exact h3
  ·exact I.closed _ h3 y hx
theorem step_ok {gs : List (Nat × Id)} {Pr : Program} (hcall : CallOk Pr gs call) (hPr : C.P = Pr) (hgs : C.gs = gs) (st : Stat C call ops S Ts Hs Vs) (hr0 : RelH e0 (Hs 0) w0) (I : Inv C ops S Ts Hs Vs e0 w0 a0 listed c P e t a w) {i : Nat} (hi : i ∈ Region.ready .any ops listed)
  {K : Act → World → Prop} {Q : Exit → Act → World → Prop} (hK : ∀ c' P' e' t' a' w', Inv C ops S Ts Hs Vs e0 w0 a0 (listed.setIfInBounds i true) c' P' e' t' a' w' → K a' w') : wpOp Pr ops Q i K a w := by
 obtain ⟨hun, hlt, hpre⟩ := ready_spec st I hi
 obtain ⟨p, x, hx, rfl⟩ := st.all i hlt
 obtain ⟨o, ho, hco, hway⟩ := st.mem p x hx
 obtain ⟨hop, hdst, hgd⟩ := coper_some hco
 have htook := st.took p x hx
 have hp : p < S.length := (List.getElem?_eq_some_iff.1 hx).1
 have same := fun {m : Id} (hm : ∀ y : AOper, y.dst = some m → touches y x.2.o = true) => st.same I.closed hx hun hpre I.tm hm
 have hop_ev : ∀ z ∈ x.2.o.op.opds, z.ev t = z.ev (Ts p) := by
  intro z hz
  cases z with
  | const v => rfl
  | tmp m => simp only [Opd.ev]; rw [same fun y hy => touches_opd hy hz rfl]
 have hwant : XM x.2.o t = XM x.2.o (Ts p) := by
  unfold XM
  cases hg : x.2.o.guard with
  | none => rfl
  | some g =>
   obtain ⟨m, want⟩ := g
   dsimp only
   rw [same fun y hy => touches_guard hy hg]
 have hmak : x.2.way = .make → XA x.2 = false := fun h => by unfold XA; rw [h]
 have hdef : ∀ u, (a.put o.dst u).defers = a.defers := fun u => by cases o.dst <;> rfl
 unfold wpOp
 simp only [ho]
 rw [wanted_iff hco I.at_.tm, hwant]
 rcases htook.2 with ⟨hwn, hone⟩ | ⟨hwf, hvu, hhp⟩
 ·rw [hwn, if_pos rfl]
  refine .inl ?_
  have hcong : ∀ H, aop x.2.o.op t H = aop x.2.o.op (Ts p) H := fun H => aop_congr hop_ev H
  have calm : XA x.2 = false → x.2.way ≠ .make → oneOp call x.2.o t (Hs P) = some (Vs p, Hs P) → o.wp Pr a w K Q := by
   intro hne hnm hone'
   refine oneOp_ok hcall hPr hgs hco I.at_ hone' ?_
   intro e1 u w1 hu hpost
   have A1 := I.at_.next hpost hdst hu
   refine hK c P e1 _ _ w1 (I.closeN st hx hun hpre hne A1 (I.post.trans hpost) ?_ (hdef u))
   intro p' x' hx' hpp hm hwn' hl hp'
   obtain ⟨k1, k2⟩ := I.ghost p' x' hx' hm hwn' hl hp'
   have hsome : ∃ blk, (Hs P).get (Hs p').next = some blk := by
    rw [k2]
    obtain ⟨o', ho', hc', hw'⟩ := st.mem p' x' hx'
    rcases (st.took p' x' hx').2 with ⟨_, hone''⟩ | ⟨hf, _⟩
    ·unfold oneOp at hone''
     split at hone''
     ·cases hone''
     ·rename_i r hr
      obtain ⟨v, blk, rfl⟩ := make_val (by rw [← hw', hm]) hr
      simp only [Option.some.injEq, Prod.mk.injEq] at hone''
      exact ⟨blk, by rw [← hone''.2, Heap.get_new, if_pos rfl]⟩
    ·rw [hf] at hwn'; cases hwn'
   obtain ⟨blk, hblk⟩ := hsome
   exact (hpost.ghost _ _ hblk k1).2
  cases hw : x.2.way with
  | pure =>
   refine calm (by unfold XA; rw [hw]) (by rw [hw]; intro h; cases h) ?_
   have hone' := hone
   unfold oneOp at hone' ⊢
   split at hone'
   ·cases hone'
   ·rename_i r hr
    have hpw : x.2.o.op.way = .pure := by rw [← hway, hw]
    obtain ⟨v, rfl⟩ := pure_val hpw hr
    simp only [Option.some.injEq, Prod.mk.injEq] at hone'
    have := (pure_on hpw hr (Hs P)).1
    rw [hcong, this]
    simp only [ARes.on]
    rw [hone'.1]
  | quiet =>
   refine calm (by unfold XA; rw [hw]) (by rw [hw]; intro h; cases h) ?_
   obtain ⟨hlo, hl1, hl2⟩ := st.qlo p x hx hw
   have hc1 : x.2.lo ≤ c := by
    rcases Nat.lt_or_ge c x.2.lo with h | h
    ·exfalso
     have hcl : c < (XG 0 (S.map (·.2))).length := by omega
     obtain ⟨q, hq⟩ : ∃ q, (XG 0 (S.map (·.2)))[c]? = some q := ⟨_, List.getElem?_eq_getElem hcl⟩
     have hqb := effFrom_bound hq
     simp only [Nat.zero_add, List.length_map] at hqb
     obtain ⟨y, hy⟩ : ∃ y, S[q]? = some y := ⟨_, List.getElem?_eq_getElem hqb⟩
     have := hpre _ (hl1 c q y h hq hy)
     rw [I.done c q y hq hy] at this
     simp at this
    ·exact h
   have hc2 : c ≤ x.2.hi := by
    rcases Nat.lt_or_ge x.2.hi c with h | h
    ·exfalso
     have hcl : c < (bounds (S.map (·.2))).length := (List.getElem?_eq_some_iff.1 I.pos).1
     have hcl' : x.2.hi < (XG 0 (S.map (·.2))).length := by unfold bounds at hcl; simp at hcl; omega
     obtain ⟨q, hq⟩ : ∃ q, (XG 0 (S.map (·.2)))[x.2.hi]? = some q := ⟨_, List.getElem?_eq_getElem hcl'⟩
     have hqb := effFrom_bound hq
     simp only [Nat.zero_add, List.length_map] at hqb
     obtain ⟨y, hy⟩ : ∃ y, S[q]? = some y := ⟨_, List.getElem?_eq_getElem hqb⟩
     have h1 := I.done _ q y hq hy
     rw [decide_eq_true h] at h1
     have := I.closed _ h1 _ (hl2 _ q y (Nat.le_refl _) hq hy)
     rw [hun] at this; cases this
    ·exact h
   obtain ⟨H', hH⟩ := st.quiet p x hx hw hwn c P I.pos hc1 hc2
   obtain ⟨v, hv⟩ := quiet_on (by rw [← hway, hw]) hH
   unfold oneOp
   rw [hcong, hH, hv]
   cases hv
   rfl
  | make =>
   have hne := hmak hw
   obtain ⟨hcnt, hm1⟩ := st.made p x hx hw
   have hpP : p < P := by
    have hle : (((S.map (·.2)).take p).filter XA).length ≤ c := by
     rcases Nat.lt_or_ge c (((S.map (·.2)).take p).filter XA).length with h | h
     ·exfalso
      have hcl : c < (bounds (S.map (·.2))).length := (List.getElem?_eq_some_iff.1 I.pos).1
      have hpos := I.pos
      rcases Nat.lt_or_ge c (XG 0 (S.map (·.2))).length with hcl' | hcl'
      ·obtain ⟨q, hq⟩ : ∃ q, (XG 0 (S.map (·.2)))[c]? = some q := ⟨_, List.getElem?_eq_getElem hcl'⟩
       have hqb := effFrom_bound hq
       simp only [Nat.zero_add, List.length_map] at hqb
       obtain ⟨y, hy⟩ : ∃ y, S[q]? = some y := ⟨_, List.getElem?_eq_getElem hqb⟩
       have := hpre _ (hm1 c q y (by omega) hq hy)
       rw [I.done c q y hq hy] at this
       simp at this
      ·have hgen : ∀ (d : List DOper) (k : Nat), (d.filter XA).length = (XG k d).length := by
        intro d
        induction d with
        | nil => intro k; rfl
        | cons z d ih =>
         intro k
         simp only [List.filter_cons, XG]
         cases XA z with
         | true => simp [ih (k + 1)]
         | false => simp [ih (k + 1)]
       have h2 : (((S.map (·.2)).take p).filter XA).length ≤ ((S.map (·.2)).filter XA).length := (List.Sublist.filter _ (List.take_sublist p _)).length_le
       rw [hgen (S.map (·.2)) 0] at h2
       omega
     ·exact h
    have hcl : (((S.map (·.2)).take p).filter XA).length < (bounds (S.map (·.2))).length := Nat.lt_of_le_of_lt hle (List.getElem?_eq_some_iff.1 I.pos).1
    obtain ⟨q, hq⟩ : ∃ q, (bounds (S.map (·.2)))[(((S.map (·.2)).take p).filter XA).length]? = some q := ⟨_, List.getElem?_eq_getElem hcl⟩
    have h1 := effFrom_next (d := S.map (·.2)) (k := 0) (p := p) (q := q) (by simp; omega) (by simpa [bounds] using hq)
    have h2 := bounds_le hle hq I.pos
    rcases Nat.lt_or_ge p P with h | h
    ·exact h
    ·exfalso
     have hpP : P = p := by omega
     have hpos := I.pos
     unfold bounds at hpos
     rcases Nat.lt_or_ge c (XG 0 (S.map (·.2))).length with hcl' | hcl'
     ·rw [List.getElem?_append_left hcl'] at hpos
      obtain ⟨_, z, hz, hze⟩ := effFrom_get hpos
      rw [Nat.sub_zero, List.getElem?_map, hpP, hx] at hz
      cases hz
      rw [hne] at hze; cases hze
     ·rw [List.getElem?_append_right hcl'] at hpos
      have h0 : c - (XG 0 (S.map (·.2))).length = 0 := by
       have := (List.getElem?_eq_some_iff.1 hpos).1
       simp at this; omega
      rw [h0] at hpos
      simp at hpos
      omega
   obtain ⟨k1, k2⟩ := I.ghost p x hx hw hwn hun hpP
   unfold oneOp at hone
   split at hone
   ·cases hone
   ·rename_i r hr
    have hmw : x.2.o.op.way = .make := by rw [← hway, hw]
    cases hcop : cop C o with
    | none => rw [hop, hcop] at hr; simp [aop] at hr
    | some ao =>
     have hao : x.2.o.op = ao := by rw [hop, hcop]; rfl
     rw [← hcong] at hr
     obtain ⟨blk, mk, hmk, u, ob, base, z, tot, q, hrun, hrb, hval⟩ := make_ok I.at_ hcop (by rw [← hao]; exact hmw) (h0 := Hs p) (by rw [← hao]; exact hr)
     rw [hao, hmk (Hs p)] at hr
     cases hr
     simp only [Option.some.injEq, Prod.mk.injEq] at hone
     obtain ⟨hv, hh⟩ := hone
     have hget : (Hs P).get (Hs p).next = some blk := by rw [k2, ← hh, Heap.get_new, if_pos rfl]
     have hpost := post_ghost hr0 I.post hget k1 (I.mono 0 p (Nat.zero_le _) (Nat.le_of_lt hpP)) hrb q
     have hset : (e.set (Hs p).next ⟨w.heap.size, base, z, tot⟩) (Hs p).next = some ⟨w.heap.size, base, z, tot⟩ := by simp [Env.set]
     have hle : e.le (e.set (Hs p).next ⟨w.heap.size, base, z, tot⟩) := by
      intro b j hb
      unfold Env.set
      split
      ·rename_i hn; subst hn; rw [k1] at hb; cases hb
      ·exact hb
     unfold Oper.wp
     rw [← hPr, hrun]
     show K (a.put o.dst u) _
     refine hK c P _ _ _ _ (I.closeN st hx hun hpre hne (e1 := e.set (Hs p).next ⟨w.heap.size, base, z, tot⟩) ⟨I.at_.ctx.mono hle, ?_, hpost.rel⟩ hpost ?_ (hdef u))
     ·have hT := I.at_.tm.mono hle
      rw [← hv]
      rcases hdst with ⟨h1, h2⟩ | ⟨d, hd, h1, h2⟩
      ·rw [h1, h2]; exact hT
      ·rw [h1, h2]; exact hT.put hd (hval _ _ hset)
     ·intro p' x' hx' hpp hm hwn' hl hp'
      obtain ⟨g1, _⟩ := I.ghost p' x' hx' hm hwn' hl hp'
      unfold Env.set
      rw [if_neg, g1]
      intro heq
      have grow : ∀ (p : Nat) (x : Nat × DOper), S[p]? = some x → x.2.way = .make → XM x.2.o (Ts p) = true → num (Hs (p + 1)).next = num (Hs p).next + 1 := by
       intro p x hx hm hwn
       obtain ⟨o', ho', hc', hw'⟩ := st.mem p x hx
       rcases (st.took p x hx).2 with ⟨_, hone''⟩ | ⟨hf, _⟩
       ·unfold oneOp at hone''
        split at hone''
        ·cases hone''
        ·rename_i r hr
         obtain ⟨v, blk, rfl⟩ := make_val (by rw [← hw', hm]) hr
         simp only [Option.some.injEq, Prod.mk.injEq] at hone''
         rw [← hone''.2]
         exact num_incr _
       ·rw [hf] at hwn; cases hwn
      have hnum := congrArg num heq
      rcases Nat.lt_or_ge p p' with h | h
      ·have := I.mono (p + 1) p' (by omega) (by omega)
       rw [grow p x hx hw hwn] at this
       omega
      ·have := I.mono (p' + 1) p (by omega) (by omega)
       rw [grow p' x' hx' hm hwn'] at this
       omega
  | effect =>
   have he : XA x.2 = true := by unfold XA; rw [hw]
   obtain ⟨_, hPp⟩ := I.next_effect st hx hun hpre he
   subst hPp
   have hone' : oneOp call x.2.o t (Hs P) = some (Vs P, Hs (P + 1)) := by
    unfold oneOp at hone ⊢
    rw [hcong]; exact hone
   refine oneOp_ok hcall hPr hgs hco I.at_ hone' ?_
   intro e1 u w1 hu hpost
   have A1 := I.at_.next hpost hdst hu
   obtain ⟨P', hI⟩ := I.closeE st hx hun hpre he A1 hpost (hdef u)
   exact hK _ _ _ _ _ _ hI
 ·rw [hwf, if_neg (by simp)]
  have A1 := I.at_.next (.refl I.at_.hp) hdst (rv_undef e)
  cases he : XA x.2 with
  | false =>
   refine hK c P e _ _ w (I.closeN st hx hun hpre he (by rw [hvu]; exact A1) I.post ?_ (hdef undef))
   intro p' x' hx' hpp hm hwn' hl hp'
   exact (I.ghost p' x' hx' hm hwn' hl hp').1
  | true =>
   obtain ⟨_, hPp⟩ := I.next_effect st hx hun hpre he
   subst hPp
   obtain ⟨P', hI⟩ := I.closeE st hx hun hpre he (by rw [hvu, hhp]; exact A1) (by rw [hhp]; exact .refl I.at_.hp) (hdef undef)
   exact hK _ _ _ _ _ _ hI
end Go.AM
namespace Go.AM
open Go
variable {C : Ctx} {call : CallF} {ops : Array Oper} {S : List (Nat × DOper)} {Ts : Nat → Tm} {Hs : Nat → Heap} {Vs : Nat → AV} {e0 e : Env} {w0 w : World} {a0 a : Act} {listed : Array Bool} {c P : Nat} {t : Tm} {h : Heap}
theorem count_list {i : Nat} (h : i < listed.size) (hf : listed.getD i false = false) : (listed.setIfInBounds i true).toList.count false + 1 = listed.toList.count false := by
 have hi : i < listed.toList.length := by simpa using h
 have hget : listed.toList[i] = false := by
  rw [Array.getD_eq_getD_getElem?, Array.getElem?_eq_getElem h] at hf
  simpa using hf
 have hs : (listed.setIfInBounds i true).toList = listed.toList.set i true := by simp
 rw [hs, List.count_set hi, hget]
 have hpos : 0 < listed.toList.count false := List.count_pos_iff.2 (hget ▸ List.getElem_mem hi)
 simp only [beq_self_eq_true, if_true, Bool.true_eq_false, beq_iff_eq, if_false]
 omega
theorem wpAny_ok {gs : List (Nat × Id)} {Pr : Program} (hcall : CallOk Pr gs call) (hPr : C.P = Pr) (hgs : C.gs = gs) (st : Stat C call ops S Ts Hs Vs) (hr0 : RelH e0 (Hs 0) w0) {Q : Exit → Act → World → Prop}
  (hQ : ∀ e' a' w', At C e' (Ts S.length) a' (Hs S.length) w' → a'.defers = a0.defers → Post e0 (Hs 0) w0 e' (Hs S.length) w' → Q .normal a' w') :
  ∀ (fuel : Nat) (listed : Array Bool) (c P : Nat) (e : Env) (t : Tm) (a : Act) (w : World), Inv C ops S Ts Hs Vs e0 w0 a0 listed c P e t a w → listed.toList.count false = fuel → wpAny Pr .any ops Q fuel listed a w := by
 have least : ∀ (listed : Array Bool), listed.size = ops.size → Region.ready .any ops listed = [] → ∀ i, i < ops.size → listed.getD i false = true := by
  intro listed hsz hr i
  induction i using Nat.strongRecOn with
  | _ i ih =>
   intro hi
   cases hl : listed.getD i false with
   | true => rfl
   | false =>
    exfalso
    obtain ⟨o, ho⟩ : ∃ o, ops[i]? = some o := ⟨_, Array.getElem?_eq_getElem hi⟩
    have : i ∈ Region.ready .any ops listed := by
     rw [mem_ready]
     refine ⟨?_, o, ho, fun ed he hb => ih ed.on (st.edges i o ho ed he hb) (Nat.lt_trans (st.edges i o ho ed he hb) hi)⟩
     rw [Array.getD_eq_getD_getElem?, Array.getElem?_eq_getElem (by omega)] at hl ⊢
     exact hl
    rw [hr] at this; cases this
 have fin : ∀ (listed : Array Bool) (c P : Nat) (e : Env) (t : Tm) (a : Act) (w : World), Inv C ops S Ts Hs Vs e0 w0 a0 listed c P e t a w → (∀ i, i < ops.size → listed.getD i false = true) → Q .normal a w := by
  intro listed c P e t a w I hall
  have hcl := (List.getElem?_eq_some_iff.1 I.pos).1
  have hc : c = (XG 0 (S.map (·.2))).length := by
   rcases Nat.lt_or_ge c (XG 0 (S.map (·.2))).length with hlt | hge
   ·exfalso
    obtain ⟨q, hq⟩ : ∃ q, (XG 0 (S.map (·.2)))[c]? = some q := ⟨_, List.getElem?_eq_getElem hlt⟩
    have hqb := effFrom_bound hq
    simp only [Nat.zero_add, List.length_map] at hqb
    obtain ⟨y, hy⟩ : ∃ y, S[q]? = some y := ⟨_, List.getElem?_eq_getElem hqb⟩
    have h1 := I.done c q y hq hy
    rw [hall _ (st.lt hy)] at h1
    simp at h1
   ·unfold bounds at hcl; simp at hcl; omega
  have hP : P = S.length := by
   have := I.pos
   subst hc
   unfold bounds at this
   rw [List.getElem?_append_right (Nat.le_refl _)] at this
   simp at this
   exact this.symm
  subst hP
  refine hQ e a w ⟨I.at_.ctx, ⟨fun m hm => ?_, I.at_.tm.size, I.at_.tm.small⟩, I.at_.hp⟩ I.defers I.post
  have h1 := I.at_.tm.val m hm
  rw [I.tm, lastw_congr (D' := fun _ => true)] at h1
  ·rw [st.tm_get _ _ (Nat.le_refl _)]; exact h1
  ·intro q hq _
   obtain ⟨y, hy⟩ : ∃ y, S[q]? = some y := ⟨_, List.getElem?_eq_getElem hq⟩
   simp only [doneAt, hy]
   exact hall _ (st.lt hy)
 intro fuel
 induction fuel with
 | zero =>
  intro listed c P e t a w I hcnt
  have hall : ∀ i, i < ops.size → listed.getD i false = true := by
   intro i hi
   cases hl : listed.getD i false with
   | true => rfl
   | false =>
    have := count_list (listed := listed) (by rw [I.size]; exact hi) hl
    omega
  refine ⟨?_, fin listed c P e t a w I hall⟩
  cases hr : Region.ready .any ops listed with
  | nil => rfl
  | cons i r =>
   obtain ⟨h1, h2, _⟩ := ready_spec st I (i := i) (by rw [hr]; simp)
   rw [hall i h2] at h1; cases h1
 | succ fuel ih =>
  intro listed c P e t a w I hcnt
  refine ⟨fun hr => fin listed c P e t a w I (least listed I.size hr), fun i hi => ?_⟩
  obtain ⟨h1, h2, _⟩ := ready_spec st I hi
  refine step_ok hcall hPr hgs st hr0 I hi ?_
  intro c' P' e' t' a' w' I'
  refine ih _ c' P' e' t' a' w' I' ?_
  have := count_list (listed := listed) (by rw [I.size]; exact h2) h1
  omega
theorem eff_map : ∀ (S : List (Nat × DOper)) (k : Nat), ((S.filter fun x => XA x.2).map (·.1)) = (XG k (S.map (·.2))).map fun q => ((S[q - k]?).map (·.1)).getD 0 := by
 intro S
 induction S with
 | nil => intro k; rfl
 | cons x S ih =>
  intro k
  have shift : ((XG (k + 1) (S.map (·.2))).map fun q => ((S[q - (k + 1)]?).map (·.1)).getD 0) = (XG (k + 1) (S.map (·.2))).map fun q => (((x :: S)[q - k]?).map (·.1)).getD 0 := by
   apply List.map_congr_left
   intro q hq
   obtain ⟨c, hc⟩ := List.mem_iff_getElem?.1 hq
   have := (effFrom_get hc).1
   rw [show q - k = (q - (k + 1)) + 1 by omega]
   simp
  simp only [List.filter_cons, List.map_cons, XG]
  cases hx : XA x.2 with
  | true =>
   simp only [if_true, List.map_cons, Nat.sub_self, List.getElem?_cons_zero, Option.map_some, Option.getD_some]
   rw [ih (k + 1), shift]
  | false =>
   simp only [Bool.false_eq_true, if_false]
   rw [ih (k + 1), shift]
theorem mapM_get {α β : Type} {f : α → Option β} : ∀ {l : List α} {r : List β}, l.mapM f = some r → ∀ (i : Nat) (y : β), r[i]? = some y → ∃ x, l[i]? = some x ∧ f x = some y := by
 intro l
 induction l with
 | nil => intro r h i y hy; simp at h; subst h; simp at hy
 | cons x l ih =>
  intro r h i y hy
  simp only [List.mapM_cons, Option.bind_eq_bind, Option.bind_eq_some_iff] at h
  obtain ⟨z, hz, zs, hzs, h⟩ := h
  cases h
  cases i with
  | zero => simp at hy; subst hy; exact ⟨x, by simp, hz⟩
  | succ i => simpa using ih hzs i y (by simpa using hy)
end Go.AM
namespace Go.AM
open Go
variable {C : Ctx} {e : Env} {t : Tm} {a : Act} {h : Heap} {w : World}
theorem drawn_ok {P : Program} {gs : List (Nat × Id)} {call : CallF} (hm : P.follows .mixedOrders = true) (hcall : CallOk P gs call) (hP : C.P = P) (hg : C.gs = gs) {ops : Array Oper} {l : List AOper} {d : List DOper} (hl : ops.toList.mapM (coper C ops) = some l) (hd : drawn ops l = some d)
  (A : At C e t a h w) {t' : Tm} {h' : Heap} {rest : List Heap} {as : List Again} (hr : runDrawn call d t h [] [] = some (t', h' :: rest, as)) (hs : allStay (h' :: rest) as = true) {id : Nat} {Q : Exit → Act → World → Prop}
  (hQ : ∀ e' a' w', At C e' t' a' h' w' → a'.defers = a.defers → Post e h w e' h' w' → Q .normal a' w') : (Code.region id ops true).wp P Q a w := by
 unfold drawn at hd
 dsimp only at hd
 split at hd
 ·rename_i hplan
  cases hd
  generalize hS : plan ops l = S at *
  obtain ⟨Ts, Hs, Vs, g1, g2, g3, g4, g5, g6, _⟩ := run_trace _ _ _ _ _ _ _ _ hr
  simp only [planOk, Bool.and_eq_true, List.all_eq_true] at hplan
  obtain ⟨⟨⟨c1, c2⟩, c3⟩, c4⟩ := hplan
  have hlen : (S.map (·.2)).length = S.length := by simp
  rw [hlen] at g3
  simp only [List.append_nil] at g5
  have hbound : h' :: rest = ((bounds (S.map (·.2))).map Hs).reverse := by
   rw [g5]; unfold bounds; simp
  have hsx : ∀ (p : Nat) (x : Nat × DOper), S[p]? = some x → (S.map (·.2))[p]? = some x.2 := fun p x hx => by rw [List.getElem?_map, hx]; rfl
  have heff := eff_map S 0
  have htk : ∀ {n c q : Nat} {y : Nat × DOper}, c < n → (XG 0 (S.map (·.2)))[c]? = some q → S[q]? = some y → y.1 ∈ (((S.filter fun x => XA x.2).map (·.1))).take n := by
   intro n c q y hc hq hy
   apply List.mem_of_getElem? (i := c)
   rw [heff, List.getElem?_take, if_pos hc, List.getElem?_map, hq]
   simp [hy]
  have hdr : ∀ {n c q : Nat} {y : Nat × DOper}, n ≤ c → (XG 0 (S.map (·.2)))[c]? = some q → S[q]? = some y → y.1 ∈ (((S.filter fun x => XA x.2).map (·.1))).drop n := by
   intro n c q y hc hq hy
   apply List.mem_of_getElem? (i := c - n)
   rw [heff, List.getElem?_drop, List.getElem?_map, show n + (c - n) = c by omega, hq]
   simp [hy]
  have hel : ((S.filter fun x => XA x.2).map (·.1)).length = (XG 0 (S.map (·.2))).length := by rw [heff]; simp
  have hfl : ∀ p, ((S.take p).filter fun x => XA x.2).length = (((S.map (·.2)).take p).filter XA).length := by
   intro p
   rw [← List.map_take, List.filter_map, List.length_map]; rfl
  have st : Stat C call ops S Ts Hs Vs := {
   mem := fun p x hx => by
    obtain ⟨k1, k2⟩ := plan_mem (ops := ops) (l := l) (x := x) (by rw [hS]; exact List.mem_of_getElem? hx)
    obtain ⟨o, k3, k4⟩ := mapM_get hl _ _ k1
    exact ⟨o, by simpa using k3, k4, k2⟩
   edges := fun i o ho ed he hb => by
    have hmem : (o, i) ∈ ops.toList.zipIdx := List.mem_zipIdx_iff_getElem?.2 (by simpa using ho)
    have := c1 _ hmem
    simp only [Array.all_eq_true_iff_forall_mem, Bool.or_eq_true, Bool.not_eq_true'] at this
    rcases this ed he with h1 | h1
    ·rw [hb] at h1; cases h1
    ·exact Nat.le_of_ble_eq_true h1
   all := fun i hi => by
    have := c2 i (List.mem_range.2 hi)
    simp only [List.any_eq_true, beq_iff_eq] at this
    obtain ⟨x, hx, hxi⟩ := this
    obtain ⟨p, hp⟩ := List.mem_iff_getElem?.1 hx
    exact ⟨p, x, hp, hxi⟩
   pair := fun p q x y hpq hx hy => pairs_spec c3 hpq hx hy
   quiet := fun p x hx hw hwn c P hP h1 h2 => by
    have h3 := g6 p x.2 (hsx p x hx) hw hwn
    have h4 := (bounds_spec c4 hx).1 hw
    refine stays_at hs h3 (H := Hs P) ?_
    rw [hbound]
    refine mem_between hP h1 h2 ?_
    have := h4.2.1
    rw [hel] at this
    unfold bounds; simp; omega
   qlo := fun p x hx hw => by
    obtain ⟨k1, k2, k3, k4⟩ := (bounds_spec c4 hx).1 hw
    exact ⟨by rw [hel] at k3; exact k3, fun c q y hc hq hy => k1 _ (htk hc hq hy), fun c q y hc hq hy => k4 _ (hdr hc hq hy)⟩
   qhi := fun p x hx hw => by
    have := ((bounds_spec c4 hx).1 hw).2.1
    rw [hel] at this; exact this
   made := fun p x hx hw => by
    obtain ⟨k1, k2⟩ := (bounds_spec c4 hx).2 hw
    rw [hfl] at k1
    exact ⟨by omega, fun c q y hc hq hy => k2 _ (htk hc hq hy)⟩
   took := fun p x hx => g4 p x.2 (hsx p x hx) }
  subst g1
  subst g2
  have hh' : h' = Hs S.length := by
   rw [hlen] at g5
   exact (List.cons.inj g5).1
  have hpost0 : Post e (Hs 0) w e (Hs 0) { w with drawn := w.drawn + 1 } := (Post.refl A.hp).drawn _
  have A0 : At C e (Ts 0) a (Hs 0) { w with drawn := w.drawn + 1 } := ⟨A.ctx, A.tm, A.hp.drawn _⟩
  obtain ⟨P0, hP0⟩ : ∃ P0, (bounds (S.map (·.2)))[0]? = some P0 := ⟨_, List.getElem?_eq_getElem (by unfold bounds; simp)⟩
  have hPN : P0 ≤ S.length := by
   have h2 : (bounds (S.map (·.2)))[(XG 0 (S.map (·.2))).length]? = some S.length := by unfold bounds; simp
   exact bounds_le (Nat.zero_le _) hP0 h2
  obtain ⟨A2, p2, m2, k2⟩ := st.advance P0 0 P0 (by omega) hPN A0 (fun q y _ h2 hy => bounds_gap0 hP0 h2 (hsx q y hy))
  have hnone : ∀ i, (Array.replicate ops.size false).getD i false = false := by
   intro i
   simp only [Array.getD_eq_getD_getElem?, Array.getElem?_replicate]
   split <;> rfl
  refine wp_region_any hm ?_
  refine wpAny_ok (a0 := a) hcall hP hg st A.hp (w0 := w) ?_ ops.size _ 0 P0 e (Ts 0) a _ ?_ (by simp)
  ·intro e' a' w' A' hd' hp'
   rw [g3] at A'
   rw [← hh'] at A' hp'
   exact hQ e' a' w' A' hd' hp'
  ·refine ⟨by simp, fun i hi => (by rw [hnone] at hi; cases hi), hP0, ?_, A2, ?_, hpost0.trans p2, fun p q h1 h2 => m2 p q (Nat.zero_le _) h1 h2, fun p x hx hm' hwn _ hp => k2 p x (Nat.zero_le _) hp hx hm' hwn, rfl⟩
   ·intro k q x _ _; rw [hnone]; simp
   ·intro m
    rw [lastw_skip (p := 0) (Nat.zero_le _)]
    ·rfl
    ·intro q _ _ _
     unfold doneAt
     split
     ·exact hnone _
     ·rfl
 ·cases hd
end Go.AM
namespace Go.AM
open Go
def exOf : AExit → Exit
 | .normal => .normal
 | .exit id => .exit id
 | .ret => .ret
def CodeOk (P : Program) (gs : List (Nat × Id)) (self : ACode → Tm → Heap → Option (AExit × Tm × Heap)) : Prop :=
 ∀ (C : Ctx), C.P = P → C.gs = gs → ∀ (c : Code) (ac : ACode) (t : Tm) (h : Heap) (ex : AExit) (t' : Tm) (h' : Heap), ccode C c = some ac → self ac t h = some (ex, t', h') →
  ∀ (e : Env) (a : Act) (w : World) (Q : Exit → Act → World → Prop), At C e t a h w →
   (∀ e' a' w', At C e' t' a' h' w' → a'.defers = a.defers → Post e h w e' h' w' → Q (exOf ex) a' w') → c.wp P Q a w
def LoopOk (P : Program) (gs : List (Nat × Id)) (self : ACode → Tm → Heap → Option (AExit × Tm × Heap)) : Prop :=
 ∀ (C : Ctx), C.P = P → C.gs = gs → ∀ (c : Code) (ac : ACode) (t : Tm) (h : Heap) (ex : AExit) (t' : Tm) (h' : Heap), ccode C c = some ac → self (.loop ac) t h = some (ex, t', h') →
  ∃ n, ∀ (e : Env) (a : Act) (w : World) (Q : Exit → Act → World → Prop), At C e t a h w →
   (∀ e' a' w', At C e' t' a' h' w' → a'.defers = a.defers → Post e h w e' h' w' → Q (exOf ex) a' w') → Code.rounds P c Q n a w
theorem exec1_ok {P : Program} {gs : List (Nat × Id)} {call : CallF} {self : ACode → Tm → Heap → Option (AExit × Tm × Heap)} (hm : P.follows .mixedOrders = true) (hcall : CallOk P gs call) (hs : CodeOk P gs self) (hl : LoopOk P gs (exec1 call self)) : CodeOk P gs (exec1 call self) := by
 intro C hP hg c ac t h ex t' h' hc hr e a w Q A hQ
 cases c with
 | skip =>
  simp only [ccode, Option.some.injEq] at hc; subst hc
  simp only [exec1, Option.some.injEq, Prod.mk.injEq] at hr
  obtain ⟨rfl, rfl, rfl⟩ := hr
  exact wp_skip (hQ e a w A rfl (.refl A.hp))
 | label l =>
  simp only [ccode, Option.some.injEq] at hc; subst hc
  simp only [exec1, Option.some.injEq, Prod.mk.injEq] at hr
  obtain ⟨rfl, rfl, rfl⟩ := hr
  exact wp_label (hQ e a w A rfl (.refl A.hp))
 | exit id =>
  simp only [ccode, Option.some.injEq] at hc; subst hc
  simp only [exec1, Option.some.injEq, Prod.mk.injEq] at hr
  obtain ⟨rfl, rfl, rfl⟩ := hr
  exact wp_exit (hQ e a w A rfl (.refl A.hp))
 | ret =>
  simp only [ccode, Option.some.injEq] at hc; subst hc
  simp only [exec1, Option.some.injEq, Prod.mk.injEq] at hr
  obtain ⟨rfl, rfl, rfl⟩ := hr
  exact wp_ret (hQ e a w A rfl (.refl A.hp))
 | seq x y =>
  simp only [ccode, Option.bind_eq_bind, Option.bind_eq_some_iff, Option.some.injEq] at hc
  obtain ⟨ax, hx, ay, hy, rfl⟩ := hc
  simp only [exec1] at hr
  split at hr
  ·rename_i e1 t1 h1 hrx
   refine wp_seq ?_
   refine hs C hP hg x ax t h e1 t1 h1 hx hrx e a w _ A ?_
   intro e2 a2 w2 A2 hd2 hp2
   split at hr
   ·refine hs C hP hg y ay t1 h1 ex t' h' hy hr e2 a2 w2 Q A2 ?_
    intro e3 a3 w3 A3 hd3 hp3
    exact hQ e3 a3 w3 A3 (hd3.trans hd2) (hp2.trans hp3)
   ·rename_i hne
    cases hr
    cases ex with
    | normal => exact absurd rfl hne
    | exit id => exact hQ e2 a2 w2 A2 hd2 hp2
    | ret => exact hQ e2 a2 w2 A2 hd2 hp2
  ·cases hr
 | cond cnd x y =>
  simp only [ccode, Option.bind_eq_bind, Option.bind_eq_some_iff, Option.some.injEq] at hc
  obtain ⟨oc, hoc, ax, hx, ay, hy, rfl⟩ := hc
  have hcv := A.ev hoc
  simp only [exec1] at hr
  split at hr
  ·rename_i hb
   rw [hb] at hcv
   exact wp_cond_true hcv.inv_bool (hs C hP hg x ax t h ex t' h' hx hr e a w Q A hQ)
  ·rename_i hb
   rw [hb] at hcv
   exact wp_cond_false hcv.inv_bool (hs C hP hg y ay t h ex t' h' hy hr e a w Q A hQ)
  ·cases hr
 | block id x =>
  simp only [ccode, Option.map_eq_some_iff] at hc
  obtain ⟨ax, hx, rfl⟩ := hc
  simp only [exec1] at hr
  split at hr
  ·rename_i e1 t1 h1 hrx
   refine wp_block (hs C hP hg x ax t h e1 t1 h1 hx hrx e a w _ A ?_)
   intro e2 a2 w2 A2 hd2 hp2
   split at hr
   ·rename_i id'
    cases hb : Nat.beq id' id with
    | true =>
     rw [hb] at hr; cases hr
     have := Nat.eq_of_beq_eq_true hb
     subst this
     show (if id' = id' then Q .normal a2 w2 else Q (.exit id') a2 w2)
     rw [if_pos rfl]
     exact hQ e2 a2 w2 A2 hd2 hp2
    | false =>
     rw [hb] at hr; cases hr
     have := Nat.ne_of_beq_eq_false hb
     show (if id' = id then Q .normal a2 w2 else Q (.exit id') a2 w2)
     rw [if_neg this]
     exact hQ e2 a2 w2 A2 hd2 hp2
   ·rename_i hne
    cases hr
    cases ex with
    | normal => exact hQ e2 a2 w2 A2 hd2 hp2
    | exit id2 => exact absurd rfl (hne id2)
    | ret => exact hQ e2 a2 w2 A2 hd2 hp2
  ·cases hr
 | loop x =>
  simp only [ccode, Option.map_eq_some_iff] at hc
  obtain ⟨ax, hx, rfl⟩ := hc
  obtain ⟨n, hn⟩ := hl C hP hg x ax t h ex t' h' hx hr
  exact wp_loop_rounds n (hn e a w Q A hQ)
 | scope x =>
  simp only [ccode, Option.map_eq_some_iff] at hc
  obtain ⟨ax, hx, rfl⟩ := hc
  simp only [exec1] at hr
  refine wp_scope_straight (hs C hP hg x ax t h ex t' h' hx hr e a w _ A ?_)
  intro e2 a2 w2 A2 hd2 hp2
  cases ex <;> exact hQ e2 a2 w2 A2 hd2 hp2
 | region id ops draw =>
  simp only [ccode, Option.bind_eq_bind, Option.bind_eq_some_iff] at hc
  obtain ⟨l, hl', hc⟩ := hc
  cases draw with
  | false =>
   simp only [Bool.false_eq_true, if_false, Option.some.injEq] at hc
   subst hc
   simp only [exec1] at hr
   split at hr
   ·rename_i ta ha hrr
    cases hr
    refine wp_region ?_
    have := runOps_ok hcall hP hg (ops := ops) (Q := Q) ops.toList 0 l (by intro j; simp) hl' e t a h w _ _ A hrr hQ
    rw [List.range_eq_range']
    simpa using this
   ·cases hr
  | true =>
   simp only [if_true] at hc
   split at hc
   ·rename_i d hd
    cases hc
    simp only [exec1] at hr
    split at hr
    ·rename_i t1 hs1 as hrr
     split at hr
     ·rename_i hstay
      split at hr
      ·rename_i h1 rest
       cases hr
       exact drawn_ok hm hcall hP hg hl' hd A hrr hstay hQ
      ·cases hr
     ·cases hr
    ·cases hr
   ·cases hc
    simp [exec1, runOps, XM, oneOp, aop] at hr
 | rangeFunc f p x y =>
  simp only [ccode, Option.some.injEq] at hc; subst hc
  simp [exec1, runOps, XM, oneOp, aop] at hr
 | goto l =>
  simp only [ccode, Option.some.injEq] at hc; subst hc
  simp [exec1, runOps, XM, oneOp, aop] at hr
 | refuse s =>
  simp only [ccode, Option.some.injEq] at hc; subst hc
  simp [exec1, runOps, XM, oneOp, aop] at hr
theorem loop_ok {P : Program} {gs : List (Nat × Id)} {call : CallF} {self : ACode → Tm → Heap → Option (AExit × Tm × Heap)} (hs : CodeOk P gs self) (hl : LoopOk P gs self) : LoopOk P gs (exec1 call self) := by
 intro C hP hg c ac t h ex t' h' hc hr
 simp only [exec1] at hr
 split at hr
 ·rename_i e1 t1 h1 hrx
  split at hr
  ·obtain ⟨n, hn⟩ := hl C hP hg c ac t1 h1 ex t' h' hc hr
   refine ⟨n + 1, ?_⟩
   intro e a w Q A hQ
   rw [rounds_succ]
   refine hs C hP hg c ac t h _ t1 h1 hc hrx e a w _ A ?_
   intro e2 a2 w2 A2 hd2 hp2
   refine hn e2 a2 w2 Q A2 ?_
   intro e3 a3 w3 A3 hd3 hp3
   exact hQ e3 a3 w3 A3 (hd3.trans hd2) (hp2.trans hp3)
  ·rename_i hne
   cases hr
   refine ⟨1, ?_⟩
   intro e a w Q A hQ
   rw [rounds_succ]
   refine hs C hP hg c ac t h _ t' h' hc hrx e a w _ A ?_
   intro e2 a2 w2 A2 hd2 hp2
   cases ex with
   | normal => exact absurd rfl hne
   | exit id => exact hQ e2 a2 w2 A2 hd2 hp2
   | ret => exact hQ e2 a2 w2 A2 hd2 hp2
 ·cases hr
end Go.AM
namespace Go.AM
open Go
def FOk (P : Program) (gs : List (Nat × Id)) (F : FuncId → Option AFunc) : Prop :=
 ∀ (f : FuncId) (af : AFunc), F f = some af → ∃ fn, P.funcs[f]? = some fn ∧ cfunc P gs fn = some af ∧
  (af = .mapsClone → Extern.findNext fn = none ∧ Extern.find fn = some Extern.MapsClone.clone)
theorem initTm_get : ∀ (args : List AV) (i : Nat) (t : Tm) (m : Nat),
  (XS i args t).get m = if i ≤ m ∧ m < i + args.length then (args[m - i]?).getD undefA else t.get m := by
 intro args
 induction args with
 | nil => intro i t m; rw [if_neg (by simp)]; rfl
 | cons a as ih =>
  intro i t m
  simp only [XS]
  rw [ih (i + 1) _ m, Tm.get_put]
  by_cases him : i = m
  ·subst him
   rw [if_neg (by omega), if_pos rfl, if_pos (by simp)]
   simp
  ·rw [if_neg him]
   by_cases h : i + 1 ≤ m ∧ m < i + 1 + as.length
   ·rw [if_pos h, if_pos (by simp; omega)]
    rw [show m - i = (m - (i + 1)) + 1 by omega]
    simp
   ·rw [if_neg h, if_neg (by simp; omega)]
theorem relT_init {e : Env} {args : List AV} {args' : Array Value} {n : Nat} (hn : n ≤ 60000) (_ : args.length ≤ 1000) (ha : Rl e args args'.toList) (ds : List Deferred) :
  RelT e n (XS 0 args .nil) { tmps := args' ++ Array.replicate (n - args'.size) undef, defers := ds } where
 val m hm := by
  have hlen := ha.length
  simp at hlen
  show Rv e ((XS 0 args .nil).get m) _
  rw [initTm_get args 0 .nil m]
  simp only [Nat.zero_le, true_and, Nat.zero_add, Nat.sub_zero]
  by_cases h : m < args.length
  ·rw [if_pos h]
   obtain ⟨x, hx, hv⟩ := ha.get (n := m) (v := args[m]) (by simp [h])
   have : (args' ++ Array.replicate (n - args'.size) undef).getD m undef = x := by
    have h1 : m < args'.size := by omega
    have h2 : args'[m]? = some x := by simpa using hx
    simp only [Array.getD_eq_getD_getElem?]
    rw [Array.getElem?_append_left h1, h2]; rfl
   rw [this]
   simpa [h] using hv
  ·rw [if_neg h]
   have : (args' ++ Array.replicate (n - args'.size) undef).getD m undef = undef := by
    simp only [Array.getD_eq_getD_getElem?]
    rw [Array.getElem?_append_right (by omega)]
    simp [Array.getElem?_replicate]
    split <;> rfl
   rw [this]
   rw [Tm.get_nil]
   exact rv_undef e
 size := by simp; omega
 small := by omega
theorem run_map_array {P : Program} {α β : Type} {f : α → Sem β} {w : World} {l : Array α} {r : List β} (h : (l.toList.mapM f).run P w = .ok r w) : (l.mapM f).run P w = .ok r.toArray w := by
 rw [Array.mapM_eq_mapM_toList]
 show ((List.toArray <$> l.toList.mapM f : Sem (Array β))).run P w = _
 have : (List.toArray <$> l.toList.mapM f : Sem (Array β)) = (l.toList.mapM f >>= fun r => pure r.toArray) := rfl
 rw [this, Xf h]; rfl
theorem res_list {C : Ctx} {e : Env} {t : Tm} {a : Act} {h : Heap} {w : World} (A : At C e t a h w) : ∀ {l : List ResultVar} {rs : List AResult} {vs : List AV}, l.mapM (cresult C) = some rs → resA rs t h = some vs →
  ∃ xs : List Value, Rl e vs xs ∧ (l.mapM fun | .tmp t => pure (a.tmps.getD t undef) | .cell b t => do loadVar t (← asAddr (a.tmps.getD b undef)) : Sem (List Value)).run C.P w = .ok xs w := by
 intro l
 induction l with
 | nil =>
  intro rs vs h1 h2
  simp at h1; subst h1
  simp only [resA, Option.some.injEq] at h2; subst h2
  exact ⟨[], .nil, rfl⟩
 | cons x l ih =>
  intro rs vs h1 h2
  simp only [List.mapM_cons, Option.bind_eq_bind, Option.bind_eq_some_iff] at h1
  obtain ⟨r, hr, rs', hrs, h1⟩ := h1
  cases h1
  simp only [resA] at h2
  split at h2
  ·rename_i v hv
   simp only [Option.map_eq_some_iff] at h2
   obtain ⟨vs', hvs, rfl⟩ := h2
   obtain ⟨xs, k1, k2⟩ := ih hrs hvs
   cases x with
   | tmp n =>
    simp only [cresult] at hr
    split at hr
    ·rename_i hn
     cases hr
     simp only [Option.some.injEq] at hv
     refine ⟨a.tmps.getD n undef :: xs, .cons _ _ _ _ ?_ k1, ?_⟩
     ·rw [← hv]; exact A.tm.val n hn
     ·rw [List.mapM_cons, Xf (run_pure _ w), Xf k2]; rfl
    ·cases hr
   | cell n ty =>
    simp only [cresult] at hr
    split at hr
    ·rename_i hn
     simp only [Option.map_eq_some_iff] at hr
     obtain ⟨ly, hly, rfl⟩ := hr
     dsimp only at hv
     have hT := A.tm.val n hn
     split at hv
     ·rename_i b o hg
      split at hv
      ·rename_i ro sp el z cs hb
       rw [hg] at hT
       obtain ⟨i, hi, hx⟩ := hT.inv_ptr
       obtain ⟨ob, hob, hrb⟩ := A.hp.blocks _ _ _ hb hi
       cases hrb with
       | cells _ _ _ _ _ arr el' fr hz hcs hfr hsp =>
        obtain ⟨x, g1, g2⟩ := run_loadVar (w := w) hly hv hob hcs
        refine ⟨x :: xs, .cons _ _ _ _ g2 k1, ?_⟩
        rw [List.mapM_cons]
        have h6 : (do loadVar ty (← asAddr (a.tmps.getD n undef)) : Sem Value).run C.P w = .ok x w := by
         rw [hx]
         have : (asAddr (.pointer (some ⟨i.blk, i.base + o, none⟩))).run C.P w = .ok ⟨i.blk, i.base + o, none⟩ w := rfl
         rw [Xf this, g1]
        rw [Xf h6, Xf k2]; rfl
      ·cases hv
     ·cases hv
    ·cases hr
  ·cases h2
theorem tuple_rv {e : Env} {vs : List AV} {xs : List Value} (h : Rl e vs xs) : Rv e (tuple1 vs) (if h : xs.toArray.size = 1 then xs.toArray[0] else .tuple xs.toArray) := by
 cases h with
 | nil => exact .tup _ _ .nil
 | cons v x vs xs h hs =>
  cases hs with
  | nil => exact h
  | cons v2 x2 vs xs h2 hs =>
   rw [dif_neg (by simp)]
   exact .tup _ _ (.cons _ _ _ _ h (.cons _ _ _ _ h2 hs))
theorem cfunc_some {P : Program} {gs : List (Nat × Id)} {fn : Func} {af : AFunc} (h : cfunc P gs fn = some af) : (fn.name == "runtime.NumGoroutine") = false ∧ fn.ntmps ≤ 60000 ∧
  ((∃ c ac rs, fn.body = some c ∧ ccode ⟨P, gs, fn.ntmps⟩ c = some ac ∧ fn.results.toList.mapM (cresult ⟨P, gs, fn.ntmps⟩) = some rs ∧ af = .code ac rs) ∨ (fn.body = none ∧ af = .mapsClone)) := by
 unfold cfunc at h
 dsimp only at h
 split at h
 ·cases h
 ·rename_i hc
  have hc' : (fn.name == "runtime.NumGoroutine") = false ∧ fn.ntmps ≤ 60000 := by
   simp only [gt_iff_lt, Bool.or_eq_true, decide_eq_true_eq, not_or, Bool.not_eq_true] at hc
   exact ⟨hc.1, by omega⟩
  refine ⟨hc'.1, hc'.2, ?_⟩
  split at h
  ·rename_i c hb
   simp only [Option.bind_eq_bind, Option.bind_eq_some_iff, Option.some.injEq] at h
   obtain ⟨ac, h1, rs, h2, rfl⟩ := h
   exact .inl ⟨c, ac, rs, hb, h1, h2, rfl⟩
  ·rename_i hb
   split at h
   ·cases h; exact .inr ⟨hb, rfl⟩
   ·cases h
theorem callBy_ok {P : Program} {gs : List (Nat × Id)} {F : FuncId → Option AFunc} {self : ACode → Tm → Heap → Option (AExit × Tm × Heap)} (hF : FOk P gs F) (hs : CodeOk P gs self) : CallOk P gs (callBy F self) := by
 intro f args h v h' hr e w args' hctx hargs hrel
 unfold callBy at hr
 split at hr
 ·cases hr
 ·rename_i hf
  obtain ⟨fn, h1, h2, h3⟩ := hF f _ hf
  obtain ⟨hn, _, hor⟩ := cfunc_some h2
  rcases hor with ⟨c, ac, rs, _, _, _, h4⟩ | ⟨hb, _⟩
  ·cases h4
  obtain ⟨k1, k2⟩ := h3 rfl
  unfold cloneA at hr
  split at hr
  ·rename_i ty b
   split at hr
   ·rename_i es clock hg
    cases hr
    obtain ⟨x, hx, hxs⟩ : ∃ x, args'.toList = [x] ∧ Rv e (.ifc ty (.map b)) x := hargs.one
    obtain ⟨x', rfl, hx'⟩ := hxs.inv_ifc
    obtain ⟨i, hi, rfl⟩ := hx'.inv_map
    obtain ⟨ob, hob, hrb⟩ := hrel.blocks _ _ _ hg hi
    cases hrb with
    | map _ _ ms hms =>
     have hargs' : args' = #[.iface ty (.map (some i.blk))] := by rw [← Array.toArray_toList (xs := args'), hx]
     have hnew := post_new hrel (.map es clock) (.map ms clock) 0 0 0 (.map _ _ _ (hms.mono (hrel.set_le _)))
     right
     refine ⟨_, .iface ty (.map (some w.heap.size)), _, ?_, ?_, hnew⟩
     ·unfold callFunc
      rw [Xf (run_program w), h1]
      dsimp only
      rw [hn, hb]
      simp only [Bool.false_eq_true, if_false, Option.isNone_none, if_true]
      have hmark : (mark (.extern f)).run P w = .ok () w := rfl
      rw [Xf hmark, k1, k2]
      have hcl : (Extern.MapsClone.clone args').run P w = .ok (.iface ty (.map (some w.heap.size))) { w with heap := w.heap.push (.map ms clock) } := by
       rw [hargs']
       have e0 : Extern.MapsClone.clone #[.iface ty (.map (some i.blk))] = (getObj i.blk >>= fun o => match o with
         | .map entries clock => (newObj (.map entries clock) >>= fun n => pure (.iface ty (.map (some n))))
         | _ => stuck "maps.clone: a map expected") := rfl
       rw [e0, Xf (run_getObj hob (fun _ _ _ => by simp))]
       dsimp only
       rw [Xf (run_newObj _ w)]
       rfl
      rw [Xf hcl]
      rfl
     ·exact .ifc _ _ _ (.map _ ⟨w.heap.size, 0, 0, 0⟩ (set_next _ _ _))
   ·cases hr
  ·cases hr
 ·rename_i code results hf
  obtain ⟨fn, h1, h2, _⟩ := hF f _ hf
  obtain ⟨hn, hnt, hor⟩ := cfunc_some h2
  rcases hor with ⟨c, ac, rs, hb, hcc, hrs, h4⟩ | ⟨_, h4⟩
  ·cases h4
   cases hble : Nat.ble args.length 1000 with
   | false => rw [hble] at hr; cases hr
   | true =>
    rw [hble] at hr
    dsimp only [cond_true] at hr
    have hlen := Nat.le_of_ble_eq_true hble
    split at hr
    ·rename_i ex t1 h1' hself
     left
     refine ⟨?_, ?_⟩
     ·unfold callFunc
      rw [Xf (run_program w), h1]
      dsimp only
      rw [hn, hb]
      rfl
     ·refine calls_of_wp h1 hb ?_
      have A0 : At ⟨P, gs, fn.ntmps⟩ e (XS 0 args .nil) { tmps := args' ++ Array.replicate (fn.ntmps - args'.size) undef, defers := [] } h w := ⟨ctx_any hctx, relT_init hnt hlen hargs [], hrel⟩
      refine hs ⟨P, gs, fn.ntmps⟩ rfl rfl c _ _ h ex t1 h1' hcc hself e _ w _ A0 ?_
      intro e1 a1 w1 A1 hd1 hp1
      have fin : ((resA results t1 h1').map fun vs => (tuple1 vs, h1')) = some (v, h') → a1.defers = [] ∧ ∃ u, (Go.results fn a1.tmps).run P w1 = .ok u w1 ∧ (∃ e' x, Ending.returned u = .returned x ∧ Rv e' v x ∧ Post e h w e' h' w1) := by
       intro hr
       simp only [Option.map_eq_some_iff, Prod.mk.injEq] at hr
       obtain ⟨vs, hvs, rfl, rfl⟩ := hr
       obtain ⟨xs, g1, g2⟩ := res_list A1 hrs hvs
       refine ⟨hd1, _, ?_, e1, _, rfl, tuple_rv g1, hp1⟩
       have h7 := run_map_array g2
       exact (Xf (f := fun vs : Array Value => (pure (if h : vs.size = 1 then vs[0] else .tuple vs) : Sem Value)) h7).trans rfl
      cases ex with
      | normal => exact fin hr
      | ret => exact fin hr
      | exit id => cases hr
    ·cases hr
  ·cases h4
theorem aexec_ok {P : Program} {gs : List (Nat × Id)} {F : FuncId → Option AFunc} (hm : P.follows .mixedOrders = true) (hF : FOk P gs F) : ∀ n, CodeOk P gs (aexec F n) ∧ LoopOk P gs (aexec F n) := by
 intro n
 induction n with
 | zero => exact ⟨fun _ _ _ _ _ _ _ _ _ _ _ h => by simp [aexec] at h, fun _ _ _ _ _ _ _ _ _ _ _ h => by simp [aexec] at h⟩
 | succ n ih =>
  have hl := loop_ok (call := callBy F (aexec F n)) ih.1 ih.2
  exact ⟨exec1_ok hm (callBy_ok hF ih.1) ih.1 hl, hl⟩
theorem acall_ok {P : Program} {gs : List (Nat × Id)} {F : FuncId → Option AFunc} (hm : P.follows .mixedOrders = true) (hF : FOk P gs F) (n : Nat) : CallOk P gs (acall F n) := callBy_ok hF (aexec_ok hm hF n).1
end Go.AM
