/- The form for inputs that are not closed, and its rules. -/
import Derived.Test.YtignppgiamochaaGreatDoorA5
set_option linter.unusedVariables false
set_option linter.unusedSimpArgs false
namespace Go.AM
open Go
abbrev Orac := FuncId → List AV → Heap → Option (AV × Heap)
def callByO (O : Orac) (F : FuncId → Option AFunc) (self : ACode → Tm → Heap → Option (AExit × Tm × Heap)) : CallF := fun f args h => match O f args h with
 | some r => some r
 | none => callBy F self f args h
def aexecO (O : Orac) (F : FuncId → Option AFunc) : Nat → ACode → Tm → Heap → Option (AExit × Tm × Heap)
 | 0 => fun _ _ _ => none
 | n + 1 => exec1 (callByO O F (aexecO O F n)) (aexecO O F n)
def acallO (O : Orac) (F : FuncId → Option AFunc) (n : Nat) : CallF := callByO O F (aexecO O F n)
theorem aexecO_succ (O : Orac) (F : FuncId → Option AFunc) (m : Nat) (code : ACode) (t : Tm) (h : Heap) : aexecO O F (m + 1) code t h = exec1 (acallO O F m) (aexecO O F m) code t h := rfl
theorem callByO_ok {P : Program} {gs : List (Nat × Id)} {O : Orac} {F : FuncId → Option AFunc} {self : ACode → Tm → Heap → Option (AExit × Tm × Heap)} (hO : CallOk P gs O) (hF : FOk P gs F) (hs : CodeOk P gs self) : CallOk P gs (callByO O F self) := by
 intro f args h v h' hr
 unfold callByO at hr
 cases ho : O f args h with
 | some r => rw [ho] at hr; cases hr; exact hO f args h v h' ho
 | none => rw [ho] at hr; exact callBy_ok hF hs f args h v h' hr
theorem aexecO_ok {P : Program} {gs : List (Nat × Id)} {O : Orac} {F : FuncId → Option AFunc} (hO : CallOk P gs O) (hm : P.follows .mixedOrders = true) (hF : FOk P gs F) : ∀ n, CodeOk P gs (aexecO O F n) ∧ LoopOk P gs (aexecO O F n) := by
 intro n
 induction n with
 | zero => exact ⟨fun _ _ _ _ _ _ _ _ _ _ _ h => by simp [aexecO] at h, fun _ _ _ _ _ _ _ _ _ _ _ h => by simp [aexecO] at h⟩
 | succ n ih =>
  have hl := loop_ok (call := callByO O F (aexecO O F n)) ih.1 ih.2
  exact ⟨exec1_ok hm (callByO_ok hO hF ih.1) ih.1 hl, hl⟩
theorem acallO_ok {P : Program} {gs : List (Nat × Id)} {O : Orac} {F : FuncId → Option AFunc} (hO : CallOk P gs O) (hm : P.follows .mixedOrders = true) (hF : FOk P gs F) (n : Nat) : CallOk P gs (acallO O F n) := callByO_ok hO hF (aexecO_ok hO hm hF n).1
end Go.AM
namespace Go.AM
open Go
abbrev MK := AV → Heap → Prop
abbrev MKE := AExit → Tm → Heap → Prop
abbrev MCall := FuncId → List AV → Heap → MK → Prop
abbrev MCode := MCall → Tm → Heap → MKE → Prop
def mRes (c : MCall) (x : Option ARes) (k : MK) : Prop := match x with
 | none => False
 | some r => match r with
  | .val v h => k v h
  | .skip h => k undefA h
  | .enter f as h => c f as h k
def q (c : MCall) (o : AOp) (h : Heap) (k : MK) : Prop := mRes c (aop o .nil h) k
def mIf (b : AV) (want : Bool) (o : MK → Prop) (h : Heap) (k : MK) : Prop := match wantB b want with
 | true => o k
 | false => k undefA h
structure MA where
 o : AOp
 v : AV
 lo : Nat
 hi : Nat
def mIfA (b : AV) (want : Bool) (o : MK → Prop) (mk : AV → List MA) (as : List MA) (h : Heap) (k : AV → Heap → List MA → Prop) : Prop := match wantB b want with
 | true => o fun v h => k v h (mk v)
 | false => k undefA h as
def mThen (e : AExit) (a : Tm → Heap → Prop) (k : MKE) (t : Tm) (h : Heap) : Prop := match e with
 | .normal => a t h
 | e => k e t h
def mSkip : MCode := fun _ t h k => k .normal t h
def mSeq (a b : MCode) : MCode := fun c t h k => a c t h fun e t h => mThen e (fun t h => b c t h k) k t h
def Yc (g : AV) (a b : MCode) (c : MCall) (t : Tm) (h : Heap) (k : MKE) : Prop := match g with
 | .bool true => a c t h k
 | .bool false => b c t h k
 | _ => False
def XW (id : Nat) (a : MCode) : MCode := fun c t h k => a c t h fun e t h => k (outOf id e) t h
def mLoopN (a : MCode) (c : MCall) (k : MKE) : Nat → Tm → Heap → Prop
 | 0, _, _ => False
 | n + 1, t, h => a c t h fun e t h => mThen e (mLoopN a c k n) k t h
def mLoop (a : MCode) : MCode := fun c t h k => ∃ n, mLoopN a c k n t h
def mExit (id : Nat) : MCode := fun _ t h k => k (.exit id) t h
def mRet : MCode := fun _ t h k => k .ret t h
def mStay1 (a : MA) : List Heap → Prop
 | [] => True
 | h :: hs => (match aop a.o .nil h with
  | some (.val u _) => AV.beq u a.v = true
  | _ => False) ∧ mStay1 a hs
def mStay (hs : List Heap) : List MA → Prop → Prop
 | [], p => p
 | a :: as, p => mStay1 a (between a.lo a.hi hs) ∧ mStay hs as p
def wM (p : Nat) (v : AV) (t : Tm) (k : Tm → Prop) : Prop := k (t.put v p)
section
variable (P : List Nat)
abbrev okO (σ : Ov) (x : Opd) : Bool := match x with
 | .const _ => true
 | .tmp p => match kept P p with
  | true => true
  | false => (look σ p).isSome
abbrev valO (σ : Ov) (t : Tm) (x : Opd) : AV := match x with
 | .const v => v
 | .tmp p => match kept P p with
  | true => t.get p
  | false => match look σ p with
   | some v => v
   | none => undefA
abbrev mapO (f : Opd → Opd) (o : AOp) : AOp := match o with
 | .mv x => .mv (f x)
 | .pick a b c => .pick (f a) (f b) (f c)
 | .alloc e z => .alloc e z
 | .box e x => .box e (f x)
 | .build z ps => .build z (ps.map fun x => (x.1, x.2.1, f x.2.2))
 | .buildSlice e n z zs ps => .buildSlice e n z zs (ps.map fun x => (x.1, x.2.1, f x.2.2))
 | .load l a => .load l (f a)
 | .store l a x => .store l (f a) (f x)
 | .nilCheck x => .nilCheck (f x)
 | .bin op x y => .bin op (f x) (f y)
 | .eq n t x y => .eq n t (f x) (f y)
 | .un op x => .un op (f x)
 | .toInt k x => .toInt k (f x)
 | .toStr x => .toStr (f x)
 | .strToBytes e x => .strToBytes e (f x)
 | .mkIface t x => .mkIface t (f x)
 | .mkFn g x y => .mkFn g (x.map f) (y.map f)
 | .mkMap => .mkMap
 | .mkSlice e b z zs x y => .mkSlice e b z zs (f x) (f y)
 | .sliceStr x lo hi => .sliceStr (f x) (lo.map f) (hi.map f)
 | .sliceSl z x lo hi mx => .sliceSl z (f x) (lo.map f) (hi.map f) (mx.map f)
 | .sliceArr n z x lo hi mx => .sliceArr n z (f x) (lo.map f) (hi.map f) (mx.map f)
 | .fieldAddr o x => .fieldAddr o (f x)
 | .field l o x => .field l o (f x)
 | .indexArr n z x i => .indexArr n z (f x) (f i)
 | .indexSl z x i => .indexSl z (f x) (f i)
 | .indexAgg n l x i => .indexAgg n l (f x) (f i)
 | .indexStr x i => .indexStr (f x) (f i)
 | .lookup k z ok m x => .lookup k z ok (f m) (f x)
 | .mapUpdate k m x v => .mapUpdate k (f m) (f x) (f v)
 | .rangeMap x => .rangeMap (f x)
 | .rangeStr x => .rangeStr (f x)
 | .next s x => .next s (f x)
 | .entry x => .entry (f x)
 | .assertTo t z ok x => .assertTo t z ok (f x)
 | .extract i x => .extract i (f x)
 | .call g as => .call (f g) (as.map f)
 | .len x => .len (f x)
 | .lenStr x => .lenStr (f x)
 | .lenMap x => .lenMap (f x)
 | .cap x => .cap (f x)
 | .append e b z s x => .append e b z (f s) (f x)
 | .appendMake e b z zs s x => .appendMake e b z zs (f s) (f x)
 | .copy z d s => .copy z (f d) (f s)
 | .min2 l => .min2 (l.map f)
 | .max2 l => .max2 (l.map f)
 | .delete k m x => .delete k (f m) (f x)
 | .clear z zs x => .clear z zs (f x)
 | .fail => .fail
abbrev inst (σ : Ov) (t : Tm) (o : AOp) : AOp := mapO (fun x => .const (valO P σ t x)) o
theorem aop_inst (f : Opd → Opd) (t t' : Tm) (h : Heap) (hf : ∀ x, (f x).ev t' = x.ev t) (o : AOp) : aop (mapO f o) t' h = aop o t h := by
 have hl : ∀ l : List Opd, (l.map f).map (·.ev t') = l.map (·.ev t) := fun l => by rw [List.map_map]; exact List.map_congr_left fun x _ => hf x
 have hp : ∀ ps : List (Nat × Nat × Opd), evParts t' (ps.map fun x => (x.1, x.2.1, f x.2.2)) = evParts t ps := fun ps => by
  unfold evParts; rw [List.map_map]; exact List.map_congr_left fun x _ => by simp [hf]
 have ho : ∀ x : Option Opd, (x.map f).map (·.ev t') = x.map (·.ev t) := fun x => by cases x <;> simp [hf]
 cases o with
 | min2 l => cases l with
  | nil => rfl
  | cons x l => simp only [mapO, List.map_cons, aop, hf, hl]
 | max2 l => cases l with
  | nil => rfl
  | cons x l => simp only [mapO, List.map_cons, aop, hf, hl]
 | _ => simp only [mapO, aop, hf, hl, hp, ho]
end
end Go.AM
namespace Go.AM
open Go
theorem mapO_congr {f g : Opd → Opd} {o : AOp} (h : ∀ x ∈ o.opds, f x = g x) : mapO f o = mapO g o := by
 have hl : ∀ l : List Opd, (∀ x ∈ l, f x = g x) → l.map f = l.map g := fun l hl => List.map_congr_left hl
 have ho : ∀ x : Option Opd, (∀ y ∈ x.toList, f y = g y) → x.map f = x.map g := fun x hx => by
  cases x with
  | none => rfl
  | some y => simp only [Option.map_some]; rw [hx y (by simp)]
 have hp : ∀ ps : List (Nat × Nat × Opd), (∀ x ∈ ps.map (·.2.2), f x = g x) → (ps.map fun x => (x.1, x.2.1, f x.2.2)) = ps.map fun x => (x.1, x.2.1, g x.2.2) := fun ps hps =>
  List.map_congr_left fun x hx => by rw [hps x.2.2 (List.mem_map_of_mem hx)]
 cases o
 case build z ps => simp only [mapO]; rw [hp ps h]
 case buildSlice e n z zs ps => simp only [mapO]; rw [hp ps h]
 case mkFn fn x y => simp only [mapO]; rw [hl x fun a ha => h a (List.mem_append_left _ ha), hl y fun a ha => h a (List.mem_append_right _ ha)]
 case min2 l => simp only [mapO]; rw [hl l h]
 case max2 l => simp only [mapO]; rw [hl l h]
 case call x l => simp only [mapO]; rw [h x (List.mem_cons_self ..), hl l fun a ha => h a (List.mem_cons_of_mem _ ha)]
 case sliceStr x lo hi =>
  simp only [mapO]
  rw [h x (List.mem_cons_self ..), ho lo fun a ha => h a (List.mem_cons_of_mem _ (List.mem_append_left _ ha)), ho hi fun a ha => h a (List.mem_cons_of_mem _ (List.mem_append_right _ ha))]
 case sliceSl z x lo hi mx =>
  simp only [mapO]
  rw [h x (List.mem_cons_self ..), ho lo fun a ha => h a (List.mem_cons_of_mem _ (List.mem_append_left _ (List.mem_append_left _ ha))), ho hi fun a ha => h a (List.mem_cons_of_mem _ (List.mem_append_left _ (List.mem_append_right _ ha))), ho mx fun a ha => h a (List.mem_cons_of_mem _ (List.mem_append_right _ ha))]
 case sliceArr n z x lo hi mx =>
  simp only [mapO]
  rw [h x (List.mem_cons_self ..), ho lo fun a ha => h a (List.mem_cons_of_mem _ (List.mem_append_left _ (List.mem_append_left _ ha))), ho hi fun a ha => h a (List.mem_cons_of_mem _ (List.mem_append_left _ (List.mem_append_right _ ha))), ho mx fun a ha => h a (List.mem_cons_of_mem _ (List.mem_append_right _ ha))]
 all_goals
  simp only [AOp.opds, List.mem_cons, List.not_mem_nil, or_false, forall_eq_or_imp, forall_eq] at h
  simp only [mapO]
 all_goals simp only [h]
section
variable (P : List Nat)
def mOp (σ : Ov) (t : Tm) (c : MCall) (o : AOp) (h : Heap) (k : MK) : Prop := match o with
 | .mv x => match okO P σ x with
  | true => k (valO P σ t x) h
  | false => False
 | .mkIface ty x => match okO P σ x with
  | true => k (.ifc ty (valO P σ t x)) h
  | false => False
 | .mkFn g x y => match x.all (okO P σ) && y.all (okO P σ) with
  | true => k (.fn g (x.map (valO P σ t)) (y.map (valO P σ t))) h
  | false => False
 | .call (.const (.fn (.func n) [] [])) args => match args.all (okO P σ) with
  | true => c n (args.map (valO P σ t)) h k
  | false => False
 | o => match o.opds.all (okO P σ) with
  | true => q c (inst P σ t o) h k
  | false => False
abbrev mPut (d : Option Id) (v : AV) (σ : Ov) (t : Tm) (k : Ov → Tm → Prop) : Prop := match d with
 | none => k σ t
 | some p => match kept P p with
  | true => wM p v t fun t => k σ t
  | false => k ((p, v) :: σ) t
def mOper (σ : Ov) (t : Tm) (c : MCall) (o : AOper) (h : Heap) (k : MK) : Prop := match o.guard with
 | none => mOp P σ t c o.op h k
 | some (g, want) => match okO P σ (.tmp g) with
  | true => mIf (valO P σ t (.tmp g)) want (fun k => mOp P σ t c o.op h k) h k
  | false => False
def mOps (c : MCall) : List AOper → Ov → Tm → Heap → (Ov → Tm → Heap → Prop) → Prop
 | [], σ, t, h, k => k σ t h
 | o :: os, σ, t, h, k => mOper P σ t c o h fun v h => mPut P o.dst v σ t fun σ t => mOps c os σ t h k
def mDrawn (c : MCall) : List DOper → Ov → Tm → Heap → List Heap → List MA → (Ov → Tm → Heap → List Heap → List MA → Prop) → Prop
 | [], σ, t, h, hs, as, k => k σ t h (h :: hs) as
 | d :: os, σ, t, h, hs, as, k => match wayB d.way d.o.op.way with
  | false => False
  | true => match d.way with
   | .effect => mOper P σ t c d.o h fun v h' => mPut P d.o.dst v σ t fun σ t => mDrawn c os σ t h' (h :: hs) as k
   | .quiet => match Nat.beq d.lo d.hi && Nat.beq d.lo hs.length && calm os with
    | true => mOper P σ t c d.o h fun v h' => mPut P d.o.dst v σ t fun σ t => mDrawn c os σ t h' hs as k
    | false => match d.o.op.opds.all (okO P σ) with
     | false => False
     | true => match d.o.guard with
      | none => mOp P σ t c d.o.op h fun v h' => mPut P d.o.dst v σ t fun σ' t' => mDrawn c os σ' t' h' hs (⟨inst P σ t d.o.op, v, d.lo, d.hi⟩ :: as) k
      | some (g, want) => match okO P σ (.tmp g) with
       | false => False
       | true => mIfA (valO P σ t (.tmp g)) want (fun k => mOp P σ t c d.o.op h k) (fun v => ⟨inst P σ t d.o.op, v, d.lo, d.hi⟩ :: as) as h fun v h' as =>
        mPut P d.o.dst v σ t fun σ t => mDrawn c os σ t h' hs as k
   | _ => mOper P σ t c d.o h fun v h' => mPut P d.o.dst v σ t fun σ t => mDrawn c os σ t h' hs as k
def mC : ACode → Ov → MCode
 | .skip, _ => mSkip
 | .region ops, σ => fun c t h k => mOps P c ops σ t h fun _ t h => k .normal t h
 | .drawn ops, σ => fun c t h k => mDrawn P c ops σ t h [] [] fun _ t h hs as => mStay hs as (k .normal t h)
 | .seq a b, σ => match a with
  | .region ops => fun c t h k => mOps P c ops σ t h fun σ t h => mC b σ c t h k
  | .drawn ops => fun c t h k => mDrawn P c ops σ t h [] [] fun σ t h hs as => mStay hs as (mC b σ c t h k)
  | _ => mSeq (mC a σ) (mC b [])
 | .cond g a b, σ => fun c t h k => match okO P σ g with
  | true => Yc (valO P σ t g) (mC a σ) (mC b σ) c t h k
  | false => False
 | .block i a, σ => XW i (mC a σ)
 | .loop a, _ => mLoop (mC a [])
 | .scope a, σ => mC a σ
 | .exit i, _ => mExit i
 | .ret, _ => mRet
end
def CallsA (O : Orac) (F : FuncId → Option AFunc) : MCall := fun g args h Q => ∃ v h', Ev (fun m => acallO O F m g args h = some (v, h')) ∧ Q v h'
variable {P : List Nat} {σ : Ov} {t T : Tm} {h : Heap} {k : MK} {O : Orac} {F : FuncId → Option AFunc}
structure AgM (P : List Nat) (σ : Ov) (t T : Tm) : Prop where
 keep : ∀ p, kept P p = true → t.get p = T.get p
 loc : ∀ p v, kept P p = false → look σ p = some v → T.get p = v
theorem AgM.val (A : AgM P σ t T) {x : Opd} (hx : okO P σ x = true) : valO P σ t x = x.ev T := by
 cases x with
 | const v => rfl
 | tmp p =>
  simp only [okO, valO, Opd.ev] at hx ⊢
  cases hp : kept P p with
  | true => exact A.keep p hp
  | false =>
   rw [hp] at hx
   dsimp only at hx ⊢
   cases hl : look σ p with
   | none => rw [hl] at hx; cases hx
   | some v => exact (A.loc p v hp hl).symm
theorem AgM.vals (A : AgM P σ t T) {l : List Opd} (hl : l.all (okO P σ) = true) : l.map (valO P σ t) = l.map (·.ev T) :=
 List.map_congr_left fun x hx => A.val (List.all_eq_true.1 hl x hx)
theorem AgM.inst (A : AgM P σ t T) {o : AOp} (hl : o.opds.all (okO P σ) = true) (h : Heap) : aop (AM.inst P σ t o) .nil h = aop o T h := by
 have e : AM.inst P σ t o = mapO (fun x => .const (x.ev T)) o := mapO_congr fun x hx => by
  show Opd.const (valO P σ t x) = .const (x.ev T)
  rw [A.val (List.all_eq_true.1 hl x hx)]
 rw [e]
 exact aop_inst _ T .nil h (fun x => rfl) o
theorem q_some {o : AOp} (hk : mRes (CallsA O F) (aop o T h) k) : ∃ v h', Ev (fun m => opRes (acallO O F m) (aop o T h) = some (v, h')) ∧ k v h' := by
 unfold mRes at hk
 split at hk
 ·exact hk.elim
 ·rename_i r hr
  rw [hr]
  cases r with
  | val v h' => exact ⟨v, h', .of fun m => rfl, hk⟩
  | skip h' => exact ⟨undefA, h', .of fun m => rfl, hk⟩
  | enter f as h' => exact hk
theorem mOp_ok (A : AgM P σ t T) {o : AOp} (hk : mOp P σ t (CallsA O F) o h k) : ∃ v h', Ev (fun m => opRes (acallO O F m) (aop o T h) = some (v, h')) ∧ k v h' := by
 have gen : (match o.opds.all (okO P σ) with | true => q (CallsA O F) (inst P σ t o) h k | false => False) → ∃ v h', Ev (fun m => opRes (acallO O F m) (aop o T h) = some (v, h')) ∧ k v h' := by
  intro hk
  split at hk
  ·rename_i hall
   unfold q at hk
   rw [A.inst hall] at hk
   exact q_some hk
  ·exact hk.elim
 unfold mOp at hk
 split at hk
 ·split at hk
  ·rename_i hx; rw [A.val hx] at hk; exact ⟨_, h, .of fun m => rfl, hk⟩
  ·exact hk.elim
 ·split at hk
  ·rename_i hx; rw [A.val hx] at hk; exact ⟨_, h, .of fun m => rfl, hk⟩
  ·exact hk.elim
 ·split at hk
  ·rename_i hx
   simp only [Bool.and_eq_true] at hx
   rw [A.vals hx.1, A.vals hx.2] at hk
   exact ⟨_, h, .of fun m => rfl, hk⟩
  ·exact hk.elim
 ·split at hk
  ·rename_i hx
   rw [A.vals hx] at hk
   obtain ⟨v, h', h1, h2⟩ := hk
   refine ⟨v, h', h1.mono fun m hm => ?_, h2⟩
   simp only [aop, Opd.ev, opRes, List.nil_append, List.append_nil]
   exact hm
  ·exact hk.elim
 ·exact gen hk
end Go.AM
namespace Go.AM
open Go
variable {P : List Nat} {σ : Ov} {t T : Tm} {h : Heap} {k : MK} {O : Orac} {F : FuncId → Option AFunc}
theorem AgM.put (A : AgM P σ t T) {d : Option Id} {v : AV} {g : Ov → Tm → Prop} (hk : mPut P d v σ t g) : ∃ σ' t', AgM P σ' t' (putD d v T) ∧ g σ' t' := by
 cases d with
 | none => exact ⟨σ, t, A, hk⟩
 | some p =>
  cases hp : kept P p with
  | true =>
   simp only [mPut, hp, wM] at hk
   refine ⟨_, _, ⟨?_, ?_⟩, hk⟩
   ·intro m hm
    simp only [putD, Tm.get_put]
    by_cases h1 : p = m
    ·rw [if_pos h1, if_pos h1]
    ·rw [if_neg h1, if_neg h1]; exact A.keep m hm
   ·intro m u hm hu
    simp only [putD, Tm.get_put]
    have h1 : ¬ p = m := fun e => by rw [e, hm] at hp; cases hp
    rw [if_neg h1]
    exact A.loc m u hm hu
  | false =>
   simp only [mPut, hp] at hk
   refine ⟨_, _, ⟨?_, ?_⟩, hk⟩
   ·intro m hm
    simp only [putD, Tm.get_put]
    have h1 : ¬ p = m := fun e => by rw [e, hm] at hp; cases hp
    rw [if_neg h1]; exact A.keep m hm
   ·intro m u hm hu
    simp only [putD, Tm.get_put]
    simp only [look] at hu
    by_cases h1 : p = m
    ·have h2 : Nat.beq p m = true := by rw [h1]; exact beq_self m
     rw [h2] at hu
     rw [if_pos h1]
     simpa using hu
    ·rw [beq_ne h1] at hu
     rw [if_neg h1]
     exact A.loc m u hm hu
theorem mOper_ok (A : AgM P σ t T) {o : AOper} (hk : mOper P σ t (CallsA O F) o h k) : ∃ v h', Ev (fun m => stepA (acallO O F m) o T h = some (v, h')) ∧ k v h' := by
 unfold mOper at hk
 split at hk
 ·rename_i hg
  obtain ⟨v, h', h1, h2⟩ := mOp_ok A hk
  refine ⟨v, h', h1.mono fun m hm => ?_, h2⟩
  unfold stepA XM
  rw [hg, oneOp_eq]; exact hm
 ·rename_i g want hg
  have hw : XM o T = wantB (T.get g) want := by unfold XM; rw [hg]; rfl
  split at hk
  ·rename_i hx
   rw [A.val hx] at hk
   unfold mIf at hk
   split at hk
   ·rename_i h1
    obtain ⟨v, h', h2, h3⟩ := mOp_ok A hk
    refine ⟨v, h', h2.mono fun m hm => ?_, h3⟩
    unfold stepA
    rw [hw]
    have : wantB (T.get g) want = true := h1
    rw [this, oneOp_eq]; exact hm
   ·rename_i h1
    refine ⟨undefA, h, .of fun m => ?_, hk⟩
    unfold stepA
    rw [hw]
    have : wantB (T.get g) want = false := h1
    rw [this]
  ·exact hk.elim
theorem mOps_ok : ∀ {ops : List AOper} {σ : Ov} {t T : Tm} {h : Heap} {g : Ov → Tm → Heap → Prop}, AgM P σ t T → mOps P (CallsA O F) ops σ t h g →
  ∃ T' h' σ' t', Ev (fun m => runOps (acallO O F m) ops T h = some (T', h')) ∧ AgM P σ' t' T' ∧ g σ' t' h' := by
 intro ops
 induction ops with
 | nil => intro σ t T h g A hk; exact ⟨T, h, σ, t, .of fun m => rfl, A, hk⟩
 | cons o os ih =>
  intro σ t T h g A hk
  obtain ⟨v, h1, e1, hk1⟩ := mOper_ok A hk
  obtain ⟨σ1, t1, A1, hk2⟩ := A.put hk1
  obtain ⟨T2, h2, σ2, t2, e2, A2, hk3⟩ := ih A1 hk2
  refine ⟨T2, h2, σ2, t2, (e1.and e2).mono fun m hm => ?_, A2, hk3⟩
  rw [runOps_cons, hm.1]
  exact hm.2
def MaOk (x : MA) (y : Again) : Prop := x.v = y.v ∧ x.lo = y.lo ∧ x.hi = y.hi ∧ ∀ h, aop x.o .nil h = aop y.o y.t h
theorem mStay1_ok {x : MA} {y : Again} (X : MaOk x y) : ∀ {hs : List Heap}, mStay1 x hs → stays y.o y.t y.v hs = true := by
 intro hs
 induction hs with
 | nil => intro _; rfl
 | cons h hs ih =>
  intro hk
  obtain ⟨h1, h2⟩ := hk
  rw [X.2.2.2, X.1] at h1
  simp only [stays]
  split at h1
  ·rename_i u x' hx
   rw [hx]
   simp only [h1, ih h2, Bool.and_self]
  ·exact h1.elim
inductive AmOk (hs : List Heap) (h : Heap) (calmNow : Prop) : List MA → List Again → Prop
 | nil : AmOk hs h calmNow [] []
 | both (x : MA) (y : Again) (xs : List MA) (ys : List Again) (X : MaOk x y) (T : AmOk hs h calmNow xs ys) : AmOk hs h calmNow (x :: xs) (y :: ys)
 | past (y : Again) (xs : List MA) (ys : List Again) (H : Heap) (e : y.lo = y.hi) (l : y.lo < hs.length) (g : hs[hs.length - 1 - y.lo]? = some H) (s : stays y.o y.t y.v [H] = true) (T : AmOk hs h calmNow xs ys) : AmOk hs h calmNow xs (y :: ys)
 | now (y : Again) (xs : List MA) (ys : List Again) (cn : calmNow) (e : y.lo = y.hi) (l : y.lo = hs.length) (s : stays y.o y.t y.v [h] = true) (T : AmOk hs h calmNow xs ys) : AmOk hs h calmNow xs (y :: ys)
theorem AmOk.effect {hs : List Heap} {h h' : Heap} {cn cn' : Prop} {xs : List MA} {ys : List Again} (T : AmOk hs h cn xs ys) : AmOk (h :: hs) h' cn' xs ys := by
 induction T with
 | nil => exact .nil
 | both x y xs ys X T ih => exact .both x y xs ys X ih
 | past y xs ys H e l g s T ih =>
  refine .past y xs ys H e (by simp; omega) ?_ s ih
  have : (h :: hs).length - 1 - y.lo = (hs.length - 1 - y.lo) + 1 := by simp; omega
  rw [this]; simpa using g
 | now y xs ys c e l s T ih =>
  refine .past y xs ys h e (by simp; omega) ?_ s ih
  have : (h :: hs).length - 1 - y.lo = 0 := by simp; omega
  rw [this]; rfl
theorem AmOk.same {hs : List Heap} {h : Heap} {cn cn' : Prop} (hc : cn → cn') {xs : List MA} {ys : List Again} (T : AmOk hs h cn xs ys) : AmOk hs h cn' xs ys := by
 induction T with
 | nil => exact .nil
 | both x y xs ys X T ih => exact .both x y xs ys X ih
 | past y xs ys H e l g s T ih => exact .past y xs ys H e l g s ih
 | now y xs ys c e l s T ih => exact .now y xs ys (hc c) e l s ih
theorem AmOk.make {hs : List Heap} {h h' : Heap} {cn cn' : Prop} (hc : ¬ cn) {xs : List MA} {ys : List Again} (T : AmOk hs h cn xs ys) : AmOk hs h' cn' xs ys := by
 induction T with
 | nil => exact .nil
 | both x y xs ys X T ih => exact .both x y xs ys X ih
 | past y xs ys H e l g s T ih => exact .past y xs ys H e l g s ih
 | now y xs ys c e l s T ih => exact absurd c hc
theorem mStay_ok {hs : List Heap} {h0 : Heap} {cn p : Prop} : ∀ {xs : List MA} {ys : List Again}, AmOk hs h0 cn xs ys → ¬ cn → mStay hs xs p → allStay hs ys = true ∧ p := by
 intro xs ys T hn hk
 induction T with
 | nil => exact ⟨rfl, hk⟩
 | both x y xs ys X T ih =>
  obtain ⟨h1, h2⟩ := hk
  rw [X.2.1, X.2.2.1] at h1
  obtain ⟨h3, h4⟩ := ih h2
  exact ⟨by simp only [allStay, mStay1_ok X h1, h3, Bool.and_self], h4⟩
 | past y xs ys H e l g' s T ih =>
  obtain ⟨h2, hk2⟩ := ih hk
  refine ⟨?_, hk2⟩
  have : between y.lo y.hi hs = [H] := by
   unfold between
   rw [← e, show y.lo - y.lo + 1 = 1 by omega]
   obtain ⟨hlt, hH⟩ := List.getElem?_eq_some_iff.1 g'
   rw [List.drop_eq_getElem_cons hlt, hH]
   rfl
  simp only [allStay, this, s, h2, Bool.and_self]
 | now y xs ys c e l s T ih => exact absurd c hn
def DmPost (O : Orac) (F : FuncId → Option AFunc) (P : List Nat) (ds : List DOper) (T : Tm) (h : Heap) (hs : List Heap) (ys : List Again) (g : Ov → Tm → Heap → List Heap → List MA → Prop) : Prop :=
 ∃ T' h' hs' ys' σ' t' xs', Ev (fun m => runDrawn (acallO O F m) ds T h hs ys = some (T', h' :: hs', ys')) ∧ AgM P σ' t' T' ∧ AmOk (h' :: hs') h' False xs' ys' ∧ g σ' t' h' (h' :: hs') xs'
theorem DmPost.step {d : DOper} {os : List DOper} {T : Tm} {h : Heap} {hs : List Heap} {ys : List Again} {g : Ov → Tm → Heap → List Heap → List MA → Prop} {v : AV} {h' : Heap} {hs1 : List Heap} {ys1 : List Again}
  (e : Ev fun m => stepA (acallO O F m) d.o T h = some (v, h')) (h1 : (match d.way with | .effect => h :: hs | _ => hs) = hs1) (h2 : (match d.way with | .quiet => (match XM d.o T with | true => ⟨d.o.op, T, v, d.lo, d.hi⟩ :: ys | false => ys) | _ => ys) = ys1)
  (p : DmPost O F P os (putD d.o.dst v T) h' hs1 ys1 g) : DmPost O F P (d :: os) T h hs ys g := by
 obtain ⟨T', h'', hs', ys', σ', t', xs', e2, A, X, hk⟩ := p
 refine ⟨T', h'', hs', ys', σ', t', xs', (e.and e2).mono fun m hm => ?_, A, X, hk⟩
 subst h1
 subst h2
 rw [runDrawn_cons, hm.1]
 exact hm.2
theorem mDrawn_ok : ∀ {ds : List DOper} {σ : Ov} {t T : Tm} {h : Heap} {hs : List Heap} {xs : List MA} {ys : List Again} {g : Ov → Tm → Heap → List Heap → List MA → Prop},
  AgM P σ t T → AmOk hs h (calm ds = true) xs ys → mDrawn P (CallsA O F) ds σ t h hs xs g → DmPost O F P ds T h hs ys g := by
 intro ds
 induction ds with
 | nil =>
  intro σ t T h hs xs ys g A X hk
  exact ⟨T, h, hs, ys, σ, t, xs, .of fun m => rfl, A, X.effect, hk⟩
 | cons d os ih =>
  intro σ t T h hs xs ys g A X hk
  unfold mDrawn at hk
  cases hwb : wayB d.way d.o.op.way with
  | false => rw [hwb] at hk; exact hk.elim
  | true =>
   rw [hwb] at hk
   dsimp only at hk
   have hway := wayB_eq hwb
   cases hw : d.way with
   | effect =>
    rw [hw] at hk
    dsimp only at hk
    obtain ⟨v, h1, e1, hk1⟩ := mOper_ok A hk
    obtain ⟨σ1, t1, A1, hk2⟩ := A.put hk1
    exact DmPost.step e1 (by rw [hw]) (by rw [hw]) (ih A1 X.effect hk2)
   | make =>
    rw [hw] at hk
    dsimp only at hk
    obtain ⟨v, h1, e1, hk1⟩ := mOper_ok A hk
    obtain ⟨σ1, t1, A1, hk2⟩ := A.put hk1
    have hc : ¬ calm (d :: os) = true := by simp [calm, hw]
    exact DmPost.step e1 (by rw [hw]) (by rw [hw]) (ih A1 (X.make hc) hk2)
   | pure =>
    rw [hw] at hk
    dsimp only at hk
    obtain ⟨v, h1, e1, hk1⟩ := mOper_ok A hk
    obtain ⟨σ1, t1, A1, hk2⟩ := A.put hk1
    obtain ⟨n, hn⟩ := e1
    have hh : h1 = h := still_val (.inl (by rw [← hway, hw])) (hn n (Nat.le_refl _))
    subst hh
    exact DmPost.step ⟨n, hn⟩ (by rw [hw]) (by rw [hw]) (ih A1 (X.same fun hc => by rw [← calm_cons (.inl hw)]; exact hc) hk2)
   | quiet =>
    rw [hw] at hk
    dsimp only at hk
    have hq : d.o.op.way = .quiet := by rw [← hway, hw]
    have Tc : AmOk hs h (calm os = true) xs ys := X.same fun hc => by rw [← calm_cons (.inr hw)]; exact hc
    have fin : ∀ (v : AV) (h1 : Heap) (xs1 : List MA), (Ev fun m => stepA (acallO O F m) d.o T h = some (v, h1)) →
      (XM d.o T = true → AmOk hs h (calm os = true) xs1 (⟨d.o.op, T, v, d.lo, d.hi⟩ :: ys)) → (XM d.o T = false → AmOk hs h (calm os = true) xs1 ys) →
      (mPut P d.o.dst v σ t fun σ t => mDrawn P (CallsA O F) os σ t h1 hs xs1 g) → DmPost O F P (d :: os) T h hs ys g := by
     intro v h1 xs1 e1 T1 T2 hk1
     obtain ⟨σ1, t1, A1, hk2⟩ := A.put hk1
     obtain ⟨n, hn⟩ := e1
     have hh : h1 = h := still_val (.inr hq) (hn n (Nat.le_refl _))
     subst hh
     cases hwn : XM d.o T with
     | true => exact DmPost.step ⟨n, hn⟩ (by rw [hw]) (by rw [hw, hwn]) (ih A1 (T1 hwn) hk2)
     | false => exact DmPost.step ⟨n, hn⟩ (by rw [hw]) (by rw [hw, hwn]) (ih A1 (T2 hwn) hk2)
    cases hb : (Nat.beq d.lo d.hi && Nat.beq d.lo hs.length && calm os) with
    | true =>
     rw [hb] at hk
     dsimp only at hk
     simp only [Bool.and_eq_true] at hb
     obtain ⟨⟨b1, b2⟩, b3⟩ := hb
     obtain ⟨v, h1, e1, hk1⟩ := mOper_ok A hk
     refine fin v h1 xs e1 (fun hwn => ?_) (fun _ => Tc) hk1
     obtain ⟨n, hn⟩ := e1
     exact .now _ _ _ b3 (Nat.eq_of_beq_eq_true b1) (Nat.eq_of_beq_eq_true b2) (stays_one hq hwn (hn n (Nat.le_refl _))) Tc
    | false =>
     rw [hb] at hk
     dsimp only at hk
     cases hall : d.o.op.opds.all (okO P σ) with
     | false => rw [hall] at hk; exact hk.elim
     | true =>
      rw [hall] at hk
      dsimp only at hk
      have hfa : ∀ v, MaOk ⟨inst P σ t d.o.op, v, d.lo, d.hi⟩ ⟨d.o.op, T, v, d.lo, d.hi⟩ := fun v => ⟨rfl, rfl, rfl, fun h => A.inst hall h⟩
      cases hg : d.o.guard with
      | none =>
       rw [hg] at hk
       dsimp only at hk
       obtain ⟨v, h1, e1, hk1⟩ := mOp_ok A hk
       have hwn : XM d.o T = true := by unfold XM; rw [hg]
       refine fin v h1 _ (e1.mono fun m hm => ?_) (fun _ => .both _ _ _ _ (hfa v) Tc) (fun h => by rw [hwn] at h; cases h) hk1
       unfold stepA
       rw [hwn, oneOp_eq]; exact hm
      | some gw =>
       obtain ⟨gd, want⟩ := gw
       rw [hg] at hk
       dsimp only at hk
       have hwt : XM d.o T = wantB (T.get gd) want := by unfold XM; rw [hg]; rfl
       split at hk
       ·exact hk.elim
       ·rename_i hx
        rw [A.val hx] at hk
        unfold mIfA at hk
        split at hk
        ·rename_i g1
         obtain ⟨v, h1, e1, hk4⟩ := mOp_ok A hk
         have hwn : XM d.o T = true := by rw [hwt]; exact g1
         refine fin v h1 _ (e1.mono fun m hm => ?_) (fun _ => .both _ _ _ _ (hfa v) Tc) (fun h => by rw [hwn] at h; cases h) hk4
         unfold stepA
         rw [hwn, oneOp_eq]; exact hm
        ·rename_i g1
         have hwn : XM d.o T = false := by rw [hwt]; exact g1
         refine fin undefA h xs (.of fun m => ?_) (fun h => by rw [hwn] at h; cases h) (fun _ => Tc) hk
         unfold stepA
         rw [hwn]
end Go.AM
namespace Go.AM
open Go
variable {P : List Nat} {σ : Ov} {t T : Tm} {h : Heap} {O : Orac} {F : FuncId → Option AFunc}
theorem AgM.drop (A : AgM P σ t T) : AgM P [] t T := ⟨A.keep, fun p v _ hv => by cases hv⟩
def RunsM (O : Orac) (F : FuncId → Option AFunc) (P : List Nat) (code : ACode) (T : Tm) (h : Heap) (g : MKE) : Prop :=
 ∃ e T' h' t', Ev (fun m => aexecO O F m code T h = some (e, T', h')) ∧ AgM P [] t' T' ∧ g e t' h'
theorem mThen_some {e : AExit} {a : Tm → Heap → Prop} {g : MKE} (hk : mThen e a g t h) : (e = .normal ∧ a t h) ∨ (e ≠ .normal ∧ g e t h) := by
 cases e with
 | normal => exact .inl ⟨rfl, hk⟩
 | exit id => exact .inr ⟨by simp, hk⟩
 | ret => exact .inr ⟨by simp, hk⟩
theorem mLoop_run {a : ACode} {b : MCode} {g : MKE} (hb : ∀ {t T : Tm} {h : Heap} {g : MKE}, AgM P [] t T → b (CallsA O F) t h g → RunsM O F P a T h g) :
  ∀ (n : Nat) {t T : Tm} {h : Heap}, AgM P [] t T → mLoopN b (CallsA O F) g n t h → RunsM O F P (.loop a) T h g := by
 intro n
 induction n with
 | zero => intro t T h A hk; exact hk.elim
 | succ n ih =>
  intro t T h A hk
  obtain ⟨e1, T1, h1, t1, E1, A1, hk1⟩ := hb A hk
  rcases mThen_some hk1 with ⟨he, hk2⟩ | ⟨he, hk2⟩
  ·subst he
   obtain ⟨e2, T2, h2, t2, E2, A2, hk3⟩ := ih A1 hk2
   refine ⟨e2, T2, h2, t2, (E1.and E2).succ fun m hm => ?_, A2, hk3⟩
   rw [aexecO_succ]
   simp only [exec1, hm.1, hm.2]
  ·refine ⟨e1, T1, h1, t1, E1.succ fun m hm => ?_, A1, hk2⟩
   rw [aexecO_succ]
   simp only [exec1, hm]
theorem mRegion_run {ops : List AOper} {g : Ov → Tm → Heap → Prop} (A : AgM P σ t T) (hk : mOps P (CallsA O F) ops σ t h g) :
  ∃ T' h' σ' t', Ev (fun m => aexecO O F m (.region ops) T h = some (.normal, T', h')) ∧ AgM P σ' t' T' ∧ g σ' t' h' := by
 obtain ⟨T', h', σ', t', E, A', hk'⟩ := mOps_ok A hk
 refine ⟨T', h', σ', t', E.succ fun m hm => ?_, A', hk'⟩
 rw [aexecO_succ]
 simp only [exec1, hm]
theorem mDrawn_run {ops : List DOper} {g : Ov → Tm → Heap → Prop} (A : AgM P σ t T) (hk : mDrawn P (CallsA O F) ops σ t h [] [] fun σ t h hs as => mStay hs as (g σ t h)) :
  ∃ T' h' σ' t', Ev (fun m => aexecO O F m (.drawn ops) T h = some (.normal, T', h')) ∧ AgM P σ' t' T' ∧ g σ' t' h' := by
 obtain ⟨T', h', hs', ys', σ', t', xs', E, A', X, hk'⟩ := mDrawn_ok A .nil hk
 obtain ⟨h1, hk2⟩ := mStay_ok X (fun h => h) hk'
 refine ⟨T', h', σ', t', E.succ fun m hm => ?_, A', hk2⟩
 rw [aexecO_succ]
 simp only [exec1, hm, h1]
theorem mSeq_run {a b : ACode} {T1 : Tm} {h1 : Heap} {g : MKE} (E : Ev fun m => aexecO O F m a T h = some (.normal, T1, h1)) (Q : RunsM O F P b T1 h1 g) : RunsM O F P (.seq a b) T h g := by
 obtain ⟨e2, T2, h2, t2, E2, A2, hk3⟩ := Q
 refine ⟨e2, T2, h2, t2, (E.and E2).succ fun m hm => ?_, A2, hk3⟩
 rw [aexecO_succ]
 simp only [exec1, hm.1, hm.2]
theorem mC_ok : ∀ {code : ACode} {σ : Ov} {t T : Tm} {h : Heap} {g : MKE}, AgM P σ t T → mC P code σ (CallsA O F) t h g → RunsM O F P code T h g := by
 intro code
 induction code with
 | skip => intro σ t T h g A hk; exact ⟨.normal, T, h, t, (Ev.of (φ := fun _ => True) fun _ => trivial).succ fun m _ => rfl, A.drop, hk⟩
 | exit id => intro σ t T h g A hk; exact ⟨.exit id, T, h, t, (Ev.of (φ := fun _ => True) fun _ => trivial).succ fun m _ => rfl, A.drop, hk⟩
 | ret => intro σ t T h g A hk; exact ⟨.ret, T, h, t, (Ev.of (φ := fun _ => True) fun _ => trivial).succ fun m _ => rfl, A.drop, hk⟩
 | region ops =>
  intro σ t T h g A hk
  obtain ⟨T', h', σ', t', E, A', hk'⟩ := mRegion_run (g := fun _ t h => g .normal t h) A hk
  exact ⟨.normal, T', h', t', E, A'.drop, hk'⟩
 | drawn ops =>
  intro σ t T h g A hk
  obtain ⟨T', h', σ', t', E, A', hk'⟩ := mDrawn_run (g := fun _ t h => g .normal t h) A hk
  exact ⟨.normal, T', h', t', E, A'.drop, hk'⟩
 | scope a ih =>
  intro σ t T h g A hk
  obtain ⟨e1, T1, h1, t1, E1, A1, hk1⟩ := ih A hk
  exact ⟨e1, T1, h1, t1, E1.succ fun m hm => by rw [aexecO_succ]; exact hm, A1, hk1⟩
 | loop a ih =>
  intro σ t T h g A hk
  obtain ⟨n, hn⟩ := hk
  exact mLoop_run (fun A hk => ih A hk) n A.drop hn
 | block id a ih =>
  intro σ t T h g A hk
  obtain ⟨e1, T1, h1, t1, E1, A1, hk1⟩ := ih (g := fun e t h => g (outOf id e) t h) A hk
  refine ⟨_, T1, h1, t1, E1.succ fun m hm => ?_, A1, hk1⟩
  rw [aexecO_succ]
  simp only [exec1, hm]
  cases e1 with
  | normal => rfl
  | exit j => unfold outOf; dsimp only; cases Nat.beq j id <;> rfl
  | ret => rfl
 | cond x a b iha ihb =>
  intro σ t T h g A hk
  unfold mC at hk
  split at hk
  ·rename_i hx
   rw [A.val hx] at hk
   unfold Yc at hk
   split at hk
   ·rename_i hq
    obtain ⟨e1, T1, h1, t1, E1, A1, hk4⟩ := iha A hk
    exact ⟨e1, T1, h1, t1, E1.succ fun m hm => by rw [aexecO_succ]; simp only [exec1, hq, hm], A1, hk4⟩
   ·rename_i hq
    obtain ⟨e1, T1, h1, t1, E1, A1, hk4⟩ := ihb A hk
    exact ⟨e1, T1, h1, t1, E1.succ fun m hm => by rw [aexecO_succ]; simp only [exec1, hq, hm], A1, hk4⟩
   ·exact hk.elim
  ·exact hk.elim
 | seq a b iha ihb =>
  intro σ t T h g A hk
  have plain : mSeq (mC P a σ) (mC P b []) (CallsA O F) t h g → RunsM O F P (.seq a b) T h g := by
   intro hk
   obtain ⟨e1, T1, h1, t1, E1, A1, hk1⟩ := iha (g := fun e t h => mThen e (fun t h => mC P b [] (CallsA O F) t h g) g t h) A hk
   rcases mThen_some hk1 with ⟨he, hk2⟩ | ⟨he, hk2⟩
   ·subst he
    exact mSeq_run E1 (ihb A1 hk2)
   ·refine ⟨e1, T1, h1, t1, E1.succ fun m hm => ?_, A1, hk2⟩
    rw [aexecO_succ]
    simp only [exec1, hm]
  cases a with
  | region ops =>
   obtain ⟨T', h', σ', t', E, A', hk'⟩ := mRegion_run (g := fun σ t h => mC P b σ (CallsA O F) t h g) A hk
   exact mSeq_run E (ihb A' hk')
  | drawn ops =>
   obtain ⟨T', h', σ', t', E, A', hk'⟩ := mDrawn_run (g := fun σ t h => mC P b σ (CallsA O F) t h g) A hk
   exact mSeq_run E (ihb A' hk')
  | _ => exact plain hk
theorem resA_congr (A : AgM P [] t T) : ∀ {rs : List AResult}, resKept P rs = true → resA rs T h = resA rs t h := by
 intro rs
 induction rs with
 | nil => intro _; rfl
 | cons r rs ih =>
  intro hr
  cases r with
  | tmp p =>
   simp only [resKept, Bool.and_eq_true] at hr
   simp only [resA, ih hr.2, A.keep p hr.1]
  | cell p l =>
   simp only [resKept, Bool.and_eq_true] at hr
   rw [resA_cell, resA_cell, ih hr.2, A.keep p hr.1]
def mFin (rs : List AResult) (Q : MK) : MKE := fun e t h => (match e with | .exit _ => False | _ => True) ∧ ∃ vs, resA rs t h = some vs ∧ Q (tuple1 vs) h
theorem mCall {g : FuncId} {code : ACode} {rs : List AResult} {m : MCode} {args : List AV} {Q : MK} (hF : F g = some (.code code rs)) (hO : ∀ args h, O g args h = none) (hm : mC P code [] = m) (hr : resKept P rs = true) (hl : args.length ≤ 1000)
  (hk : m (CallsA O F) (XS 0 args .nil) h (mFin rs Q)) : CallsA O F g args h Q := by
 subst hm
 obtain ⟨e, T', h', t', E, A', h1, vs, h2, h3⟩ := mC_ok (P := P) (σ := []) (t := XS 0 args .nil) (T := XS 0 args .nil) ⟨fun _ _ => rfl, fun p v _ hv => by cases hv⟩ hk
 refine ⟨tuple1 vs, h', E.mono fun m hm => ?_, h3⟩
 have hl' : Nat.ble args.length 1000 = true := Nat.ble_eq_true_of_le hl
 have h4 : resA rs T' h' = some vs := by rw [resA_congr A' hr]; exact h2
 unfold acallO callByO callBy
 rw [hO]
 dsimp only
 rw [hF]
 dsimp only
 rw [hl']
 dsimp only [cond_true]
 rw [hm]
 cases e with
 | normal => simp only [h4, Option.map_some]
 | exit id => exact h1.elim
 | ret => simp only [h4, Option.map_some]
theorem XL {a : MCode} {c : MCall} {k : MKE} (I : Nat → Tm → Heap → Prop) (n : Nat) {t : Tm} {h : Heap} (hI : I n t h) (step : ∀ n t h, I n t h → ∀ R : Tm → Heap → Prop, (∀ m t' h', m < n → I m t' h' → R t' h') → a c t h fun e t' h' => mThen e R k t' h') : mLoop a c t h k := by
 have key : ∀ N n t h, I n t h → n < N → mLoopN a c k N t h := by
  intro N
  induction N with
  | zero => intro n t h _ hlt; omega
  | succ N ih =>
   intro n t h hI hlt
   exact step n t h hI (mLoopN a c k N) fun m t' h' hlt' hI' => ih m t' h' hI' (by omega)
 exact ⟨n + 1, key _ n t h hI (by omega)⟩
end Go.AM
namespace Go.AM
open Go
abbrev G := Nat → Option Blk
abbrev Ent := Nat × Option Blk
structure Ext (h h' : Heap) : Prop where
 le : @LE.le Nat _ h.next h'.next
 has : ∀ (b : Nat) x, @LT.lt Nat _ b h.next → h.get b = some x → h'.get b = some x
theorem Ext.refl (h : Heap) : Ext h h := ⟨Nat.le_refl _, fun _ _ _ h => h⟩
theorem Ext.trans {a b c : Heap} (x : Ext a b) (y : Ext b c) : Ext a c := ⟨Nat.le_trans x.le y.le, fun d z hd hz => y.has d z (Nat.lt_of_lt_of_le hd x.le) (x.has d z hd hz)⟩
def Fz (g : G) (h : Heap) : Prop := ∀ (b : Nat) x, g b = some x → @LT.lt Nat _ b h.next ∧ h.get b = some x
def Gle (g g' : G) : Prop := ∀ (b : Nat) x, g b = some x → g' b = some x
theorem Gle.refl (g : G) : Gle g g := fun _ _ h => h
theorem Gle.trans {a b c : G} (x : Gle a b) (y : Gle b c) : Gle a c := fun d z h => y d z (x d z h)
structure Step (g : G) (h : Heap) (g' : G) (h' : Heap) : Prop where
 ext : Ext h h'
 le : Gle g g'
 new : ∀ (b : Nat) x, g' b = some x → g b = some x ∨ @LE.le Nat _ h.next b
 fz : Fz g' h'
theorem Step.refl {g : G} {h : Heap} (f : Fz g h) : Step g h g h := ⟨.refl h, .refl g, fun _ _ h => .inl h, f⟩
theorem Step.trans {g g1 g2 : G} {h h1 h2 : Heap} (a : Step g h g1 h1) (b : Step g1 h1 g2 h2) : Step g h g2 h2 :=
 ⟨a.ext.trans b.ext, a.le.trans b.le, fun d x hd => (b.new d x hd).elim (a.new d x) fun k => .inr (Nat.le_trans a.ext.le k), b.fz⟩
structure W (g0 : G) (h0 : Heap) (g : G) (h : Heap) (L : List Ent) : Prop where
 step : Step g0 h0 g h
 own : ∀ (i : Nat) (b : Nat) x, L[i]? = some (b, some x) → @LE.le Nat _ h0.next b ∧ @LT.lt Nat _ b h.next ∧ h.get b = some x ∧ g b = none
 nd : ∀ (i j b : Nat) x y, L[i]? = some (b, some x) → L[j]? = some (b, some y) → i = j
variable {g0 g g' : G} {h0 h h' : Heap} {L : List Ent}
theorem get_put' (h : Heap) (b : Nat) (x : Blk) (d : Nat) : (h.put b x).get d = if @Eq Nat b d then some x else h.get d := by rw [Heap.get_put]
theorem get_new' (h : Heap) (x : Blk) (d : Nat) : (h.new x).get d = if @Eq Nat h.next d then some x else h.get d := by rw [Heap.get_new]
theorem get_kill' (h : Heap) (b : Nat) (d : Nat) : (h.kill b).get d = if @Eq Nat b d then none else h.get d := by rw [Heap.get_kill]
theorem next_new (h : Heap) (x : Blk) : @Eq Nat (h.new x).next (h.next + 1) := rfl
theorem next_kill (h : Heap) (b : Nat) : @Eq Nat (h.kill b).next h.next := rfl
theorem W.fz (O : W g0 h0 g h L) : Fz g h := O.step.fz
theorem W.done (O : W g0 h0 g h L) : Step g0 h0 g h := O.step
theorem W.start (f : Fz g h) : W g h g h [] := ⟨.refl f, fun i b x hi => by simp at hi, fun i j b x y hi => by simp at hi⟩
theorem W.new (O : W g0 h0 g h L) (x : Blk) : W g0 h0 g (h.new x) ((h.next, some x) :: L) where
 step := {
  ext := ⟨by have := O.step.ext.le; rw [next_new]; omega, fun d y hd hy => by
   rw [get_new', if_neg (by have := O.step.ext.le; omega)]; exact O.step.ext.has d y hd hy⟩
  le := O.step.le
  new := O.step.new
  fz := fun d y hd => by
   obtain ⟨h1, h2⟩ := O.step.fz d y hd
   refine ⟨by rw [next_new]; omega, ?_⟩
   rw [get_new', if_neg (by omega)]; exact h2 }
 own i b y hi := by
  cases i with
  | zero =>
   simp at hi
   obtain ⟨rfl, rfl⟩ := hi
   refine ⟨O.step.ext.le, by rw [next_new]; omega, by rw [get_new', if_pos rfl], ?_⟩
   cases hg : g h.next with
   | none => rfl
   | some z => exact absurd (O.step.fz _ z hg).1 (Nat.lt_irrefl _)
  | succ i =>
   obtain ⟨h1, h2, h3, h4⟩ := O.own i b y (by simpa using hi)
   refine ⟨h1, by rw [next_new]; omega, ?_, h4⟩
   rw [get_new', if_neg (by omega)]; exact h3
 nd i j b y z hi hj := by
  cases i with
  | zero =>
   simp at hi
   cases j with
   | zero => rfl
   | succ j =>
    have := (O.own j b z (by simpa using hj)).2.1
    exact absurd this (by rw [← hi.1]; exact Nat.lt_irrefl _)
  | succ i =>
   cases j with
   | zero =>
    simp at hj
    have := (O.own i b y (by simpa using hi)).2.1
    exact absurd this (by rw [← hj.1]; exact Nat.lt_irrefl _)
   | succ j => rw [O.nd i j b y z (by simpa using hi) (by simpa using hj)]
theorem set_cases {n i : Nat} {e p : Ent} {L : List Ent} (h : (L.set n e)[i]? = some p) : (i = n ∧ p = e) ∨ (i ≠ n ∧ L[i]? = some p) := by
 rw [List.getElem?_set] at h
 by_cases hn : n = i
 ·subst hn
  rw [if_pos rfl] at h
  split at h
  ·exact .inl ⟨rfl, by simpa using h.symm⟩
  ·cases h
 ·rw [if_neg hn] at h
  exact .inr ⟨fun e => hn e.symm, h⟩
theorem W.replace (O : W g0 h0 g h L) {n : Nat} {b : Nat} {x : Blk} (hn : L[n]? = some (b, some x)) {b' : Nat} {y : Option Blk} (hb : y ≠ none → b' = b ∨ @LE.le Nat _ h.next b')
  (hle : @LE.le Nat _ h.next h'.next) (hlt : y ≠ none → @LT.lt Nat _ b' h'.next) (hy : ∀ z, y = some z → h'.get b' = some z) (old : ∀ d : Nat, @LT.lt Nat _ d h.next → d ≠ b → h'.get d = h.get d) : W g0 h0 g h' (L.set n (b', y)) := by
 obtain ⟨p1, p2, p3, p4⟩ := O.own n b x hn
 refine ⟨⟨⟨Nat.le_trans O.step.ext.le hle, fun d z hd hz => ?_⟩, O.step.le, O.step.new, fun d z hd => ?_⟩, fun i d z hi => ?_, fun i j d u v hi hj => ?_⟩
 ·rw [old d (Nat.lt_of_lt_of_le hd O.step.ext.le) (by omega)]
  exact O.step.ext.has d z hd hz
 ·obtain ⟨k1, k2⟩ := O.step.fz d z hd
  refine ⟨Nat.lt_of_lt_of_le k1 hle, ?_⟩
  rw [old d k1 (fun e => by subst e; rw [p4] at hd; cases hd)]
  exact k2
 ·rcases set_cases hi with ⟨_, he⟩ | ⟨hne, hi'⟩
  ·cases he
   refine ⟨?_, hlt (by simp), hy z rfl, ?_⟩
   ·rcases hb (by simp) with rfl | hb
    ·exact p1
    ·exact Nat.le_trans O.step.ext.le hb
   ·rcases hb (by simp) with rfl | hb
    ·exact p4
    ·cases hg : g b' with
     | none => rfl
     | some w => have := (O.step.fz b' w hg).1; omega
  ·obtain ⟨k1, k2, k3, k4⟩ := O.own i d z hi'
   refine ⟨k1, Nat.lt_of_lt_of_le k2 hle, ?_, k4⟩
   rw [old d k2 (fun e => by subst e; exact hne (O.nd i n _ z x hi' hn))]
   exact k3
 ·rcases set_cases hi with ⟨a1, a2⟩ | ⟨a1, a2⟩ <;> rcases set_cases hj with ⟨c1, c2⟩ | ⟨c1, c2⟩
  ·omega
  ·cases a2
   obtain ⟨k1, k2, k3, k4⟩ := O.own j _ v c2
   rcases hb (by simp) with rfl | hb
   ·exact absurd (O.nd j n _ v x c2 hn) c1
   ·omega
  ·cases c2
   obtain ⟨k1, k2, k3, k4⟩ := O.own i _ u a2
   rcases hb (by simp) with rfl | hb
   ·exact absurd (O.nd i n _ u x a2 hn) a1
   ·omega
  ·exact O.nd i j d u v a2 c2
theorem W.put (O : W g0 h0 g h L) {n : Nat} {b : Nat} {x : Blk} (hn : L[n]? = some (b, some x)) (y : Blk) : W g0 h0 g (h.put b y) (L.set n (b, some y)) :=
 O.replace hn (fun _ => .inl rfl) (Nat.le_refl _) (fun _ => (O.own n b x hn).2.1) (fun z hz => by cases hz; rw [get_put', if_pos rfl]) fun d _ hne => by rw [get_put', if_neg (fun e => hne e.symm)]
theorem W.renew (O : W g0 h0 g h L) {n : Nat} {b : Nat} {x : Blk} (hn : L[n]? = some (b, some x)) (y : Blk) : W g0 h0 g ((h.kill b).new y) (L.set n (h.next, some y)) :=
 O.replace hn (fun _ => .inr (Nat.le_refl _)) (Nat.le_succ _) (fun _ => Nat.lt_succ_self _) (fun z hz => by cases hz; rw [get_new', if_pos]; rfl) fun d hd hne => by
  rw [get_new', if_neg (by rw [next_kill]; omega), get_kill', if_neg (fun e => hne e.symm)]
theorem W.fill (O : W g0 h0 g h L) {n : Nat} {b : Nat} (hn : L[n]? = some (b, none)) (y : Blk) : W g0 h0 g (h.new y) (L.set n (h.next, some y)) := by
 have N := O.new y
 refine ⟨N.step, fun i d z hi => ?_, fun i j d u v hi hj => ?_⟩
 ·rcases set_cases hi with ⟨_, he⟩ | ⟨hne, hi'⟩
  ·cases he; exact N.own 0 _ _ rfl
  ·exact N.own (i + 1) d z (by simpa using hi')
 ·rcases set_cases hi with ⟨a1, a2⟩ | ⟨a1, a2⟩ <;> rcases set_cases hj with ⟨c1, c2⟩ | ⟨c1, c2⟩
  ·omega
  ·cases a2; have := N.nd 0 (j + 1) _ _ v rfl (by simpa using c2); omega
  ·cases c2; have := N.nd (i + 1) 0 _ u _ (by simpa using a2) rfl; omega
  ·exact O.nd i j d u v a2 c2
theorem W.drop (O : W g0 h0 g h L) {e : Ent} {L' : List Ent} (hL : L = e :: L') : W g0 h0 g h L' := by
 subst hL
 exact ⟨O.step, fun i b x hi => O.own (i + 1) b x (by simpa using hi), fun i j b x y hi hj => by have := O.nd (i + 1) (j + 1) b x y (by simpa using hi) (by simpa using hj); omega⟩
theorem W.drop1 {e : Ent} (O : W g0 h0 g h (e :: L)) : W g0 h0 g h L := O.drop rfl
theorem sub_map {L' L : List Ent} (s : L'.Sublist L) : ∃ f : Nat → Nat, (∀ i j, f i = f j → i = j) ∧ ∀ (i : Nat) e, L'[i]? = some e → L[f i]? = some e := by
 induction s with
 | slnil => exact ⟨id, fun _ _ h => h, fun _ _ h => h⟩
 | cons a s ih =>
  obtain ⟨f, f1, f2⟩ := ih
  exact ⟨fun i => f i + 1, fun i j h => f1 i j (by simpa using h), fun i e h => by simpa using f2 i e h⟩
 | cons_cons a s ih =>
  obtain ⟨f, f1, f2⟩ := ih
  refine ⟨fun i => match i with | 0 => 0 | i + 1 => f i + 1, fun i j h => ?_, fun i e h => ?_⟩
  ·cases i with
   | zero => cases j with
    | zero => rfl
    | succ j => simp at h
   | succ i => cases j with
    | zero => simp at h
    | succ j => rw [f1 i j (by simpa using h)]
  ·cases i with
   | zero => simpa using h
   | succ i => simpa using f2 i e (by simpa using h)
theorem W.take (O : W g0 h0 g h L) {L' : List Ent} (s : L'.Sublist L) : W g0 h0 g h L' := by
 obtain ⟨f, f1, f2⟩ := sub_map s
 exact ⟨O.step, fun i b x hi => O.own (f i) b x (f2 i _ hi), fun i j b x y hi hj => f1 i j (O.nd (f i) (f j) b x y (f2 i _ hi) (f2 j _ hj))⟩
def G.add (g : G) (b : Nat) (x : Blk) : G := fun d => if d = b then some x else g d
theorem G.add_self (g : G) (b : Nat) (x : Blk) : g.add b x b = some x := by unfold G.add; rw [if_pos rfl]
theorem G.add_le {g : G} {b : Nat} (x : Blk) (h : g b = none) : Gle g (g.add b x) := fun d y hd => by
 unfold G.add
 rw [if_neg (fun e => by rw [e, h] at hd; cases hd)]
 exact hd
theorem W.freeze (O : W g0 h0 g h L) {n : Nat} {b : Nat} {x : Blk} (hn : L[n]? = some (b, some x)) : W g0 h0 (g.add b x) h (L.set n (0, none)) := by
 obtain ⟨p1, p2, p3, p4⟩ := O.own n b x hn
 refine ⟨⟨O.step.ext, O.step.le.trans (G.add_le x p4), fun d z hd => ?_, fun d z hd => ?_⟩, fun i d z hi => ?_, fun i j d u v hi hj => ?_⟩
 ·unfold G.add at hd
  split at hd
  ·rename_i e; rw [e]; exact .inr p1
  ·exact O.step.new d z hd
 ·unfold G.add at hd
  split at hd
  ·rename_i e; cases hd; rw [e]; exact ⟨p2, p3⟩
  ·exact O.step.fz d z hd
 ·rcases set_cases hi with ⟨_, he⟩ | ⟨hne, hi'⟩
  ·cases he
  ·obtain ⟨k1, k2, k3, k4⟩ := O.own i d z hi'
   refine ⟨k1, k2, k3, ?_⟩
   unfold G.add
   rw [if_neg (fun e => by rw [e] at hi'; exact hne (O.nd i n _ z x hi' hn))]
   exact k4
 ·rcases set_cases hi with ⟨a1, a2⟩ | ⟨a1, a2⟩
  ·cases a2
  ·rcases set_cases hj with ⟨c1, c2⟩ | ⟨c1, c2⟩
   ·cases c2
   ·exact O.nd i j d u v a2 c2
theorem W.call (O : W g0 h0 g h L) (S : Step g h g' h') : W g0 h0 g' h' L where
 step := O.step.trans S
 own i b x hi := by
  obtain ⟨k1, k2, k3, k4⟩ := O.own i b x hi
  refine ⟨k1, Nat.lt_of_lt_of_le k2 S.ext.le, S.ext.has b x k2 k3, ?_⟩
  cases hg : g' b with
  | none => rfl
  | some y =>
   rcases S.new b y hg with e | e
   ·rw [k4] at e; cases e
   ·omega
 nd := O.nd
theorem W.addN (O : W g0 h0 g h L) (b : Nat) : W g0 h0 g h ((b, none) :: L) := by
 refine ⟨O.step, fun i d y hi => ?_, fun i j d y w hi hj => ?_⟩
 ·cases i with
  | zero => simp at hi
  | succ i => exact O.own i d y (by simpa using hi)
 ·cases i with
  | zero => simp at hi
  | succ i => cases j with
   | zero => simp at hj
   | succ j => rw [O.nd i j d y w (by simpa using hi) (by simpa using hj)]
theorem pick_idx : ∀ (f : List Nat) (L : List Ent) (i : Nat) (e : Ent), (f.filterMap fun j => L[j]?)[i]? = some e → ∃ k j : Nat, f[k]? = some j ∧ L[j]? = some e ∧ i ≤ k ∧ (f.take k).filterMap (fun j => L[j]?) = (f.filterMap fun j => L[j]?).take i := by
 intro f L
 induction f with
 | nil => intro i e h; simp at h
 | cons a f ih =>
  intro i e h
  cases ha : L[a]? with
  | none =>
   simp only [List.filterMap_cons, ha] at h
   obtain ⟨k, j, h1, h2, h3, h4⟩ := ih i e h
   exact ⟨k + 1, j, by simpa using h1, h2, by omega, by simp only [List.take_succ_cons, List.filterMap_cons, ha]; exact h4⟩
  | some x =>
   simp only [List.filterMap_cons, ha] at h
   cases i with
   | zero => exact ⟨0, a, rfl, by rw [ha]; simpa using h, Nat.le_refl _, by simp⟩
   | succ i =>
    obtain ⟨k, j, h1, h2, h3, h4⟩ := ih i e (by simpa using h)
    exact ⟨k + 1, j, by simpa using h1, h2, by omega, by simp only [List.take_succ_cons, List.filterMap_cons, ha]; rw [h4]⟩
theorem W.pick (O : W g0 h0 g h L) (n : Nat) (f : List Nat) (hf : f.Nodup) (hn : ∀ j ∈ f, j < n) : W g0 h0 g h ((f.filterMap fun j => L[j]?) ++ L.drop n) := by
 have key : ∀ (i : Nat) e, ((f.filterMap fun j => L[j]?) ++ L.drop n)[i]? = some e → ∃ j : Nat, L[j]? = some e ∧ ((∃ k : Nat, f[k]? = some j ∧ i < (f.filterMap fun j => L[j]?).length ∧ i ≤ k ∧ (f.take k).filterMap (fun j => L[j]?) = (f.filterMap fun j => L[j]?).take i) ∨ (n ≤ j ∧ i = j - n + (f.filterMap fun j => L[j]?).length)) := by
  intro i e hi
  rcases Nat.lt_or_ge i (f.filterMap fun j => L[j]?).length with hl | hl
  ·rw [List.getElem?_append_left hl] at hi
   obtain ⟨k, j, h1, h2, h3, h4⟩ := pick_idx f L i _ hi
   exact ⟨j, h2, .inl ⟨k, h1, hl, h3, h4⟩⟩
  ·rw [List.getElem?_append_right hl, List.getElem?_drop] at hi
   exact ⟨_, hi, .inr ⟨by omega, by omega⟩⟩
 refine ⟨O.step, fun i b x hi => ?_, fun i i' b x y hi hi' => ?_⟩
 ·obtain ⟨j, h2, _⟩ := key i _ hi
  exact O.own j b x h2
 ·obtain ⟨j, h2, c1⟩ := key i _ hi
  obtain ⟨j', h2', c2⟩ := key i' _ hi'
  have e := O.nd j j' b x y h2 h2'
  subst e
  rcases c1 with ⟨k, h1, hl, h3, h4⟩ | ⟨c1, c3⟩ <;> rcases c2 with ⟨k', h1', hl', h3', h4'⟩ | ⟨c2, c4⟩
  ·have hk : k = k' := by
    obtain ⟨p1, q1⟩ := List.getElem?_eq_some_iff.1 h1
    obtain ⟨p2, q2⟩ := List.getElem?_eq_some_iff.1 h1'
    have hp := List.pairwise_iff_getElem.1 hf
    rcases Nat.lt_trichotomy k k' with h | h | h
    ·exact absurd (q1.trans q2.symm) (hp k k' p1 p2 h)
    ·exact h
    ·exact absurd (q2.trans q1.symm) (hp k' k p2 p1 h)
   subst hk
   have := congrArg List.length (h4.symm.trans h4')
   rw [List.length_take, List.length_take] at this
   omega
  ·have := hn j (List.mem_of_getElem? h1); omega
  ·have := hn j (List.mem_of_getElem? h1'); omega
  ·omega
end Go.AM
namespace Go.AM
open Go
abbrev C (v : AV) : Opd := .const v
abbrev iV (n : Nat) : AV := .int .i64 (.ofNat n)
abbrev uV (n : Nat) : AV := .int .u32 (.ofNat n)
theorem ev_c (t : Tm) (v : AV) : Opd.ev t (.const v) = v := rfl
section
variable {c : MCall} {t : Tm} {h : Heap} {k : MKE} {a b : MCode} {i j p : Nat} {v : AV} {A : Tm → Heap → Prop}
theorem Xt (x : a c t h fun e t h => mThen e (fun t h => b c t h k) k t h) : mSeq a b c t h k := x
theorem mSeq_mid (I : Tm → Heap → Prop) (h1 : ∀ k' : MKE, (∀ t h, I t h → k' .normal t h) → a c t h k') (h2 : ∀ t h, I t h → b c t h k) : mSeq a b c t h k := h1 _ h2
theorem Xp (x : A t h) : mThen .normal A k t h := x
theorem XF (x : k (.exit i) t h) : mThen (.exit i) A k t h := x
theorem mThen_r (x : k .ret t h) : mThen .ret A k t h := x
theorem mThen_on (x : A t h) : mThen (outOf i .normal) A k t h := x
theorem mThen_or (x : k .ret t h) : mThen (outOf i .ret) A k t h := x
theorem mThen_oe (x : A t h) : mThen (outOf i (.exit i)) A k t h := by
 have : outOf i (.exit i) = .normal := by unfold outOf; simp
 rw [this]; exact x
theorem wM_i {k : Tm → Prop} (x : k (t.put v p)) : wM p v t k := x
theorem XD (x : a c t h fun e t h => k (outOf i e) t h) : XW i a c t h k := x
theorem Xy (x : k .normal t h) : mSkip c t h k := x
theorem mExit_i (x : k (.exit i) t h) : mExit i c t h k := x
theorem XC (x : a c t h k) : Yc (.bool true) a b c t h k := x
theorem Xx (x : b c t h k) : Yc (.bool false) a b c t h k := x
theorem Yg {o : MK → Prop} {k : MK} (x : o k) : mIf (.bool true) true o h k := x
theorem Yb {o : MK → Prop} {k : MK} (x : k undefA h) : mIf (.bool false) true o h k := x
theorem XB {o : MK → Prop} {k : MK} (x : o k) : mIf (.bool false) false o h k := x
theorem XI {o : MK → Prop} {k : MK} (x : k undefA h) : mIf (.bool true) false o h k := x
theorem mIf_u {w : Bool} {o : MK → Prop} {k : MK} (x : k undefA h) : mIf undefA w o h k := x
theorem mStay_n {hs : List Heap} {P : Prop} (x : P) : mStay hs [] P := x
theorem mStay_c {hs : List Heap} {P : Prop} {a : MA} {as : List MA} (x : mStay1 a (between a.lo a.hi hs)) (y : mStay hs as P) : mStay hs (a :: as) P := ⟨x, y⟩
theorem mStay1_n {a : MA} : mStay1 a [] := trivial
theorem mFin_i {rs : List AResult} {Q : MK} {vs : List AV} (hr : resA rs t h = some vs) (hq : Q (tuple1 vs) h) : mFin rs Q .ret t h := ⟨trivial, vs, hr, hq⟩
end
section
variable {c : MCall} {h : Heap} {k : MK} {K : IntKind} {neg b : Bool} {x y : AV} {o z n m i off p : Nat} {d : Nat}
theorem q_of {op : AOp} {v : AV} {h' : Heap} (e : aop op .nil h = some (.val v h')) (hk : k v h') : q c op h k := by
 unfold q
 rw [e]
 exact hk
theorem q_skip {op : AOp} {h' : Heap} (e : aop op .nil h = some (.skip h')) (hk : k undefA h') : q c op h k := by
 unfold q
 rw [e]
 exact hk
theorem q_not (hk : k (.bool (!b)) h) : q c (.un .not (C (.bool b))) h k := q_of rfl hk
theorem q_nt (hk : k (.bool false) h) : q c (.un .not (C (.bool true))) h k := q_of rfl hk
theorem q_nf (hk : k (.bool true) h) : q c (.un .not (C (.bool false))) h k := q_of rfl hk
theorem XX (hk : k x h) : q c (.pick (C (.bool true)) (C x) (C y)) h k := q_of rfl hk
theorem Ya (hk : k y h) : q c (.pick (C (.bool false)) (C x) (C y)) h k := q_of rfl hk
theorem q_ext0 {l : List AV} (hk : k x h) : q c (.extract 0 (C (.tup (x :: l)))) h k := q_of rfl hk
theorem q_ext1 {l : List AV} (hk : k y h) : q c (.extract 1 (C (.tup (x :: y :: l)))) h k := q_of rfl hk
theorem q_nil (hk : k (.ptr p o) h) : q c (.nilCheck (C (.ptr p o))) h k := q_of rfl hk
theorem q_fa0 (hk : k (.ptr p off) h) : q c (.fieldAddr off (C (.ptr p 0))) h k := q_of (by simp only [aop, Opd.ev, Nat.zero_add]) hk
theorem q_fa (hk : k (.ptr p (o + off)) h) : q c (.fieldAddr off (C (.ptr p o))) h k := q_of rfl hk
theorem q_ixSl {cap : Cap} (hi : i < n) (hk : k (.ptr p (o + i * z)) h) : q c (.indexSl z (C (.sl p o n cap)) (C (.int K (.ofNat i)))) h k :=
 q_of (by simp only [aop, Opd.ev, natOf, show Nat.blt i n = true from by simp only [Nat.blt_eq]; exact hi, cond_true]) hk
theorem q_ixArr (hi : i < n) (hk : k (.ptr p (o + i * z)) h) : q c (.indexArr n z (C (.ptr p o)) (C (.int K (.ofNat i)))) h k :=
 q_of (by simp only [aop, Opd.ev, natOf, show Nat.blt i n = true from by simp only [Nat.blt_eq]; exact hi, cond_true]) hk
theorem q_lenSl {cap : Cap} (hk : k (iV n) h) : q c (.len (C (.sl p o n cap))) h k := q_of rfl hk
theorem q_lenNil (hk : k (iV 0) h) : q c (.len (C .snil)) h k := q_of rfl hk
theorem q_lenS0 (hk : k (iV 0) h) : q c (.len (C .sl0)) h k := q_of rfl hk
theorem q_lenSx (hk : k (iV 0) h) : q c (.len (C (.slx p))) h k := q_of rfl hk
theorem q_build {zero cs : List AV} {ps : List (Nat × Nat × Opd)} (hf : fillA zero (evParts .nil ps) = some cs) (hk : k (.agg cs) h) : q c (.build zero ps) h k :=
 q_of (by simp only [aop, hf, valOf, Option.map_some]) hk
theorem q_build2 {a b u w : AV} (ha : a.cells = [a]) (hb : b.cells = [b]) (hk : k (.agg [a, b]) h) : q c (.build [u, w] [(0, 1, C a), (1, 1, C b)]) h k := by
 refine q_build ?_ hk
 simp only [evParts, List.map_cons, List.map_nil, Opd.ev, fillA, ha, hb]
 rfl
theorem q_callFn {f : FuncId} {first cap : List AV} {as : List Opd} (hk : c f (first ++ as.map (·.ev .nil) ++ cap) h k) : q c (.call (C (.fn (.func f) first cap)) as) h k := hk
theorem leI_dec (a b : Int) : leI a b = decide (a ≤ b) := leI_eq a b
theorem eqI_dec (a b : Int) : eqI a b = decide (a = b) := eqI_eq a b
theorem not_leI (a b : Int) : (!leI a b) = decide (b < a) := by
 rw [leI_dec, Bool.eq_iff_iff]; simp
theorem nbeq (a b : Nat) : Nat.beq a b = decide (a = b) := by rw [Bool.eq_iff_iff, Nat.beq_eq, decide_eq_true_eq]
variable {a b' : Int} {u w : Nat}
theorem q_lss (hk : k (.bool (decide (a < b'))) h) : q c (.bin .lss (C (.int K a)) (C (.int K b'))) h k :=
 q_of (by simp only [aop, Opd.ev, bin, if_true, binI, boolV, not_leI, valOf, Option.map_some]) hk
theorem q_leq (hk : k (.bool (decide (a ≤ b'))) h) : q c (.bin .leq (C (.int K a)) (C (.int K b'))) h k :=
 q_of (by simp only [aop, Opd.ev, bin, if_true, binI, boolV, leI_dec, valOf, Option.map_some]) hk
theorem q_gtr (hk : k (.bool (decide (b' < a))) h) : q c (.bin .gtr (C (.int K a)) (C (.int K b'))) h k :=
 q_of (by simp only [aop, Opd.ev, bin, if_true, binI, boolV, not_leI, valOf, Option.map_some]) hk
theorem q_geq (hk : k (.bool (decide (b' ≤ a))) h) : q c (.bin .geq (C (.int K a)) (C (.int K b'))) h k :=
 q_of (by simp only [aop, Opd.ev, bin, if_true, binI, boolV, leI_dec, valOf, Option.map_some]) hk
theorem ofNat_lt' : (Int.ofNat u < Int.ofNat w) = (u < w) := propext Int.ofNat_lt
theorem ofNat_le' : (Int.ofNat u ≤ Int.ofNat w) = (u ≤ w) := propext Int.ofNat_le
theorem ofNat_inj' : (Int.ofNat u = Int.ofNat w) = (u = w) := propext Int.ofNat_inj
theorem q_lssN (hk : k (.bool (decide (u < w))) h) : q c (.bin .lss (C (.int K (.ofNat u))) (C (.int K (.ofNat w)))) h k := q_lss (by simp only [ofNat_lt']; exact hk)
theorem q_leqN (hk : k (.bool (decide (u ≤ w))) h) : q c (.bin .leq (C (.int K (.ofNat u))) (C (.int K (.ofNat w)))) h k := q_leq (by simp only [ofNat_le']; exact hk)
theorem q_gtrN (hk : k (.bool (decide (w < u))) h) : q c (.bin .gtr (C (.int K (.ofNat u))) (C (.int K (.ofNat w)))) h k := q_gtr (by simp only [ofNat_lt']; exact hk)
theorem q_geqN (hk : k (.bool (decide (w ≤ u))) h) : q c (.bin .geq (C (.int K (.ofNat u))) (C (.int K (.ofNat w)))) h k := q_geq (by simp only [ofNat_le']; exact hk)
theorem q_eqI' (hk : k (.bool (decide (a = b'))) h) : q c (.eq false (.scalar .i) (C (.int K a)) (C (.int K b'))) h k :=
 q_of (by simp only [aop, Opd.ev, eqV, XH, if_true, eqI_dec, valOf, Option.map_some, cond_false]) hk
theorem q_neI (hk : k (.bool (!decide (a = b'))) h) : q c (.eq true (.scalar .i) (C (.int K a)) (C (.int K b'))) h k :=
 q_of (by simp only [aop, Opd.ev, eqV, XH, if_true, eqI_dec, valOf, Option.map_some, cond_true]) hk
theorem q_eqN (hk : k (.bool (decide (u = w))) h) : q c (.eq false (.scalar .i) (C (.int K (.ofNat u))) (C (.int K (.ofNat w)))) h k := q_eqI' (by simp only [ofNat_inj']; exact hk)
theorem q_neN (hk : k (.bool (!decide (u = w))) h) : q c (.eq true (.scalar .i) (C (.int K (.ofNat u))) (C (.int K (.ofNat w)))) h k := q_neI (by simp only [ofNat_inj']; exact hk)
theorem q_neB {s t : Bool} (hk : k (.bool (!(s == t))) h) : q c (.eq true (.scalar .b) (C (.bool s)) (C (.bool t))) h k := q_of rfl hk
theorem norm_nat {m : Nat} (hm : m ≤ Xo K) : norm K (.ofNat m) = .ofNat m := by
 simp only [norm, show Nat.ble m (Xo K) = true from Nat.ble_eq_true_of_le hm, cond_true]
theorem Ye (hb : u + w ≤ Xo K) (hk : k (.int K (.ofNat (u + w))) h) : q c (.bin .add (C (.int K (.ofNat u))) (C (.int K (.ofNat w)))) h k :=
 q_of (by simp only [aop, Opd.ev, bin, if_true, binI, addI, norm_nat hb, valOf, Option.map_some]) hk
theorem q_subN (hb : w ≤ u) (hm : u ≤ Xo K) (hk : k (.int K (.ofNat (u - w))) h) : q c (.bin .sub (C (.int K (.ofNat u))) (C (.int K (.ofNat w)))) h k :=
 q_of (by simp only [aop, Opd.ev, bin, if_true, binI, subI, show Nat.ble w u = true from Nat.ble_eq_true_of_le hb, cond_true, norm_nat (show u - w ≤ Xo K by omega), valOf, Option.map_some]) hk
theorem q_sub1 (hk : k (.int .i64 (-1)) h) : q c (.bin .sub (C (iV 0)) (C (iV 1))) h k := q_of rfl hk
theorem q_andN (hu : u ≤ Xo K) (hw : w ≤ Xo K) (hk : k (.int K (.ofNat (u &&& w))) h) : q c (.bin .and (C (.int K (.ofNat u))) (C (.int K (.ofNat w)))) h k :=
 q_of (by simp only [aop, Opd.ev, bin, if_true, binI, show Nat.ble u (Xo K) = true from Nat.ble_eq_true_of_le hu, show Nat.ble w (Xo K) = true from Nat.ble_eq_true_of_le hw, Bool.and_self, cond_true, valOf, Option.map_some]; rfl) hk
theorem q_orN (hu : u ≤ Xo K) (hw : w ≤ Xo K) (hk : k (.int K (.ofNat (u ||| w))) h) : q c (.bin .or (C (.int K (.ofNat u))) (C (.int K (.ofNat w)))) h k :=
 q_of (by simp only [aop, Opd.ev, bin, if_true, binI, show Nat.ble u (Xo K) = true from Nat.ble_eq_true_of_le hu, show Nat.ble w (Xo K) = true from Nat.ble_eq_true_of_le hw, Bool.and_self, cond_true, valOf, Option.map_some]; rfl) hk
theorem q_andNotN (hu : u ≤ Xo K) (hw : w ≤ Xo K) (hk : k (.int K (.ofNat (u ^^^ (u &&& w)))) h) : q c (.bin .andNot (C (.int K (.ofNat u))) (C (.int K (.ofNat w)))) h k :=
 q_of (by simp only [aop, Opd.ev, bin, if_true, binI, show Nat.ble u (Xo K) = true from Nat.ble_eq_true_of_le hu, show Nat.ble w (Xo K) = true from Nat.ble_eq_true_of_le hw, Bool.and_self, cond_true, valOf, Option.map_some]; rfl) hk
theorem q_shrU (hu : u < 4294967296) {J : IntKind} (hk : k (uV (u >>> w)) h) : q c (.bin .shr (C (uV u)) (C (.int J (.ofNat w)))) h k := by
 refine q_of (v := uV (u >>> w)) ?_ hk
 have : u / 2 ^ (Nat.min w 32) = u >>> w := by
  rw [Nat.shiftRight_eq_div_pow]
  rcases Nat.lt_or_ge w 32 with h1 | h1
  ·rw [show Nat.min w 32 = w from Nat.min_eq_left (by omega)]
  ·rw [show Nat.min w 32 = 32 from Nat.min_eq_right h1, Nat.div_eq_of_lt (by omega), Nat.div_eq_of_lt]
   exact Nat.lt_of_lt_of_le hu (Nat.pow_le_pow_right (by decide : 0 < 2) h1 : 2 ^ 32 ≤ 2 ^ w)
 simp only [aop, Opd.ev, bin, shiftI, show IntKind.bits .u32 = 32 from rfl, this, valOf, Option.map_some]
theorem q_shlU {J : IntKind} (hw : w < 32) (hu : u * 2 ^ w < 4294967296) (hk : k (uV (u <<< w)) h) : q c (.bin .shl (C (uV u)) (C (.int J (.ofNat w)))) h k := by
 refine q_of (v := uV (u <<< w)) ?_ hk
 simp only [aop, Opd.ev, bin, shiftI, show IntKind.bits .u32 = 32 from rfl, show Nat.min w 32 = w from Nat.min_eq_left (by omega), norm_nat (K := .u32) (show u * 2 ^ w ≤ Xo .u32 from by simp only [Xo]; omega), valOf, Option.map_some, Nat.shiftLeft_eq]
theorem q_toInt {J : IntKind} (hm : u ≤ Xo K) (hk : k (.int K (.ofNat u)) h) : q c (.toInt K (C (.int J (.ofNat u)))) h k :=
 q_of (by simp only [aop, Opd.ev, norm_nat hm]) hk
theorem q_minN (hk : k (.int K (.ofNat (min u w))) h) : q c (.min2 [C (.int K (.ofNat u)), C (.int K (.ofNat w))]) h k := by
 refine q_of (v := .int K (.ofNat (min u w))) ?_ hk
 simp only [aop, Opd.ev, List.map_cons, List.map_nil, minMax, if_true, cond_false, leI_dec, ofNat_le', valOf, Option.map_some]
 by_cases e : u ≤ w
 ·simp [e, Nat.min_eq_left e]
 ·simp [e, Nat.min_eq_right (Nat.le_of_not_le e)]
end
theorem takeAt_go_eq : ∀ (cs : List AV) (n : Nat), n ≤ cs.length → takeAt.go cs n = some (cs.take n) := by
 intro cs
 induction cs with
 | nil =>
  intro n hn
  have : n = 0 := by simpa using hn
  subst this; rfl
 | cons c r ih =>
  intro n hn
  cases n with
  | zero => rfl
  | succ n => simp only [takeAt.go, ih n (by simpa using hn), Option.map_some, List.take_succ_cons]
theorem takeAt_eq : ∀ (o : Nat) (cs : List AV) (n : Nat), o + n ≤ cs.length → takeAt cs o n = some ((cs.drop o).take n) := by
 intro o
 induction o with
 | zero => intro cs n hn; rw [takeAt]; simpa using takeAt_go_eq cs n (by omega)
 | succ o ih =>
  intro cs n hn
  cases cs with
  | nil => simp at hn
  | cons c r => simp only [takeAt, List.drop_succ_cons]; exact ih r n (by simp at hn; omega)
theorem takeAt_all {cs : List AV} {n : Nat} (h : cs.length = n) : takeAt cs 0 n = some cs := by rw [takeAt_eq 0 cs n (by omega)]; simp [← h]
theorem Xd {cs : List AV} {n : Nat} (h : cs.length = n) : partA ⟨true, n⟩ cs 0 = some (.agg cs) := by simp only [partA, takeAt_all h, Option.map_some]
theorem over_eq : ∀ (vs cs : List AV), vs.length ≤ cs.length → setAt.over cs vs = some (vs ++ cs.drop vs.length) := by
 intro vs
 induction vs with
 | nil => intro cs _; cases cs <;> simp [setAt.over]
 | cons v vs ih =>
  intro cs h
  cases cs with
  | nil => simp at h
  | cons c r => simp only [setAt.over, ih r (by simpa using h), Option.map_some, List.length_cons, List.drop_succ_cons, List.cons_append]
theorem setAt_all {cs vs : List AV} (h : vs.length = cs.length) : setAt cs 0 vs = some vs := by
 have : setAt cs 0 vs = setAt.over cs vs := by cases cs <;> rfl
 rw [this, over_eq vs cs (by omega), h]; simp
def flat {α : Type} (enc : α → List AV) (l : List α) : List AV := l.flatMap enc
theorem flat_nil {α : Type} (enc : α → List AV) : flat enc [] = [] := rfl
theorem flat_cons {α : Type} (enc : α → List AV) (x : α) (l : List α) : flat enc (x :: l) = enc x ++ flat enc l := rfl
theorem flat_app {α : Type} (enc : α → List AV) (l m : List α) : flat enc (l ++ m) = flat enc l ++ flat enc m := List.flatMap_append ..
theorem flat_snoc {α : Type} (enc : α → List AV) (l : List α) (x : α) : flat enc (l ++ [x]) = flat enc l ++ enc x := by rw [flat_app, flat_cons, flat_nil, List.append_nil]
theorem flat_len {α : Type} {enc : α → List AV} {z : Nat} : ∀ {l : List α}, (∀ x ∈ l, (enc x).length = z) → (flat enc l).length = l.length * z := by
 intro l
 induction l with
 | nil => intro _; simp [flat_nil]
 | cons x r ih =>
  intro h
  rw [flat_cons, List.length_append, h x (by simp), ih fun y hy => h y (by simp [hy]), List.length_cons, Nat.succ_mul]; omega
theorem flat_take {α : Type} {enc : α → List AV} {z : Nat} : ∀ {l : List α} {i off n : Nat} {x : α} {v : List AV}, (∀ x ∈ l, (enc x).length = z) → l[i]? = some x → takeAt (enc x) off n = some v → off + n ≤ z → takeAt (flat enc l) (i * z + off) n = some v := by
 intro l
 induction l with
 | nil => intro i off n x v _ hi; simp at hi
 | cons y r ih =>
  intro i off n x v h hi hv hz
  have hy := h y (by simp)
  cases i with
  | zero =>
   simp at hi
   subst hi
   rw [takeAt_eq _ _ _ (by rw [hy]; exact hz)] at hv
   rw [Nat.zero_mul, Nat.zero_add, takeAt_eq _ _ _ (by rw [flat_cons, List.length_append, hy]; omega), flat_cons, ← hv]
   congr 1
   rw [List.drop_append_of_le_length (by omega), List.take_append_of_le_length (by rw [List.length_drop]; omega)]
  | succ i =>
   have := ih (fun w hw => h w (by simp [hw])) (by simpa using hi) hv hz
   obtain ⟨h1, h2⟩ := takeAt_some this
   have hlen : i * z + off + n ≤ (flat enc r).length := by
    have hir : i < r.length := by
     have := (List.getElem?_eq_some_iff.1 (by simpa using hi : r[i]? = some x)).1
     exact this
    rw [flat_len (z := z) fun w hw => h w (by simp [hw])]
    have : i * z + z ≤ r.length * z := by rw [← Nat.succ_mul]; exact Nat.mul_le_mul_right z hir
    omega
   rw [flat_cons, takeAt_eq _ _ _ (by rw [List.length_append, hy, Nat.succ_mul]; omega), h1]
   congr 2
   rw [Nat.succ_mul, show i * z + z + off = (enc y).length + (i * z + off) by omega, List.drop_append]
   simp
theorem part_flat {α : Type} {enc : α → List AV} {z : Nat} {l : List α} {i off : Nat} {x : α} {ly : Lay} {v : AV} (h : ∀ x ∈ l, (enc x).length = z) (hi : l[i]? = some x) (hv : partA ly (enc x) off = some v) (hz : off + (match ly.agg with | true => ly.size | false => 1) ≤ z) : partA ly (flat enc l) (i * z + off) = some v := by
 obtain ⟨ag, sz⟩ := ly
 cases ag with
 | true =>
  simp only [partA, Option.map_eq_some_iff] at hv ⊢
  obtain ⟨w, h1, h2⟩ := hv
  exact ⟨w, flat_take h hi h1 hz, h2⟩
 | false =>
  simp only [partA] at hv ⊢
  split at hv
  ·rename_i w hw
   cases hv
   rw [flat_take h hi hw hz]
  ·cases hv
section
variable {c : MCall} {g0 g g' : G} {h0 h h' : Heap} {L : List Ent} {k : MK} {b o e z e' : Nat} {ro sp : Bool} {cs : List AV} {v : AV}
theorem w_alloc {zs : List AV} (O : W g0 h0 g h L) (hk : ∀ b h', W g0 h0 g h' ((b, some (.cells false false e zs.length zs)) :: L) → k (.ptr b 0) h') : q c (.alloc e zs) h k :=
 q_of rfl (hk _ _ (O.new _))
theorem w_box {x : AV} (O : W g0 h0 g h L) (hk : ∀ b h', W g0 h0 g h' ((b, some (.cells false false e x.cells.length x.cells)) :: L) → k (.ptr b 0) h') : q c (.box e (C x)) h k :=
 q_of rfl (hk _ _ (O.new _))
theorem w_mkMap (O : W g0 h0 g h L) (hk : ∀ b h', W g0 h0 g h' ((b, some (.map [] 0)) :: L) → k (.map b) h') : q c .mkMap h k :=
 q_of rfl (hk _ _ (O.new _))
theorem Yd {n : Nat} {zs : List AV} {ps : List (Nat × Nat × Opd)} (O : W g0 h0 g h L) (hf : fillA (rep n zs) (evParts .nil ps) = some cs) (hl : (Nat.ble (n * z) 16777216 && Nat.beq zs.length z) = true)
  (hk : ∀ b h', W g0 h0 g h' ((b, some (.cells false false e z cs)) :: L) → k (.sl b 0 n (.ex n)) h') : q c (.buildSlice e n z zs ps) h k :=
 q_of (by simp only [aop, hf, hl, cond_true]) (hk _ _ (O.new _))
theorem q_load {l : Lay} (hb : h.get b = some (.cells ro sp e z cs)) (hv : partA l cs o = some v) (hk : k v h) : q c (.load l (C (.ptr b o))) h k :=
 q_of (by simp only [aop, Opd.ev, hb, hv, valOf, Option.map_some]) hk
theorem Xv (n : Nat) {l : Lay} (O : W g0 h0 g h L) (hn : L[n]? = some (b, some (.cells ro sp e z cs))) (hv : partA l cs o = some v) (hk : k v h) : q c (.load l (C (.ptr b o))) h k :=
 q_load (O.own n b _ hn).2.2.1 hv hk
theorem w_loadF {l : Lay} (O : W g0 h0 g h L) (hg : g b = some (.cells ro sp e z cs)) (hv : partA l cs o = some v) (hk : k v h) : q c (.load l (C (.ptr b o))) h k :=
 q_load (O.fz b _ hg).2 hv hk
theorem store_ok {vs cs' : List AV} (hb : h.get b = some (.cells false sp e z cs)) (ha : vs.all oneA = true) (hs : setAt cs o vs = some cs') : h.store b o vs = some (h.put b (.cells false sp e z cs')) := by
 unfold Heap.store
 simp only [hb, ha, hs]
theorem w_store (n : Nat) {l : Lay} {x : AV} {cs' : List AV} (O : W g0 h0 g h L) (hn : L[n]? = some (b, some (.cells false sp e z cs))) (hl : Nat.beq x.cells.length l.size = true) (ha : x.cells.all oneA = true) (hs : setAt cs o x.cells = some cs')
  (hk : ∀ h', W g0 h0 g h' (L.set n (b, some (.cells false sp e z cs'))) → k undefA h') : q c (.store l (C (.ptr b o)) (C x)) h k :=
 q_skip (h' := h.put b (.cells false sp e z cs')) (by simp only [aop, Opd.ev, hl, cond_true, store_ok (O.own n b _ hn).2.2.1 ha hs, skipH, Option.map_some]) (hk _ (O.put hn _))
theorem setAt_one : ∀ {o : Nat} {cs : List AV} {x : AV}, o < cs.length → setAt cs o [x] = some (cs.set o x) := by
 intro o
 induction o with
 | zero => intro cs x h; cases cs with
  | nil => simp at h
  | cons a r => cases r <;> rfl
 | succ o ih => intro cs x h; cases cs with
  | nil => simp at h
  | cons a r => simp only [setAt, ih (by simpa using h), Option.map_some, List.set_cons_succ]
theorem XO (n : Nat) {l : Lay} {x : AV} (O : W g0 h0 g h L) (hn : L[n]? = some (b, some (.cells false sp e z cs))) (hx : x.cells.length = cs.length) (hl : Nat.beq x.cells.length l.size = true) (ha : x.cells.all oneA = true)
  (hk : ∀ h', W g0 h0 g h' (L.set n (b, some (.cells false sp e z x.cells))) → k undefA h') : q c (.store l (C (.ptr b 0)) (C x)) h k :=
 w_store n O hn hl ha (setAt_all hx) hk
theorem w_store1 (n : Nat) {x : AV} (O : W g0 h0 g h L) (hn : L[n]? = some (b, some (.cells false sp e z cs))) (ho : o < cs.length) (hx : x.cells = [x]) (ha : oneA x = true)
  (hk : ∀ h', W g0 h0 g h' (L.set n (b, some (.cells false sp e z (cs.set o x)))) → k undefA h') : q c (.store ⟨false, 1⟩ (C (.ptr b o)) (C x)) h k :=
 w_store n O hn (by rw [hx]; rfl) (by rw [hx]; simp [ha]) (by rw [hx]; exact setAt_one ho) hk
theorem Xe (n : Nat) {l : Lay} {w : AV} {lo hi : Nat} {hs : List Heap} (O : W g0 h0 g h L) (hn : L[n]? = some (b, some (.cells ro sp e z cs))) (hv : partA l cs o = some v) (hw : AV.beq v w = true) (r : mStay1 ⟨.load l (C (.ptr b o)), w, lo, hi⟩ hs) : mStay1 ⟨.load l (C (.ptr b o)), w, lo, hi⟩ (h :: hs) := by
 refine ⟨?_, r⟩
 simp only [aop, Opd.ev, (O.own n b _ hn).2.2.1, hv, valOf, Option.map_some, hw]
theorem st_loadF {l : Lay} {w : AV} {lo hi : Nat} {hs : List Heap} (O : W g0 h0 g h L) (hg : g b = some (.cells ro sp e z cs)) (hv : partA l cs o = some v) (hw : AV.beq v w = true) (r : mStay1 ⟨.load l (C (.ptr b o)), w, lo, hi⟩ hs) : mStay1 ⟨.load l (C (.ptr b o)), w, lo, hi⟩ (h :: hs) := by
 refine ⟨?_, r⟩
 simp only [aop, Opd.ev, (O.fz b _ hg).2, hv, valOf, Option.map_some, hw]
abbrev grV (b n : Nat) : AV := if n = 0 then .snil else .sl b 0 n (.op 0)
abbrev grE (e z b : Nat) (cs : List AV) (n : Nat) : Ent := (b, if n = 0 then none else some (.cells false true e z cs))
theorem XT (b n : Nat) : oneA (grV b n) = true := by unfold grV; split <;> rfl
theorem grV_cells (b n : Nat) : (grV b n).cells = [grV b n] := by unfold grV; split <;> rfl
theorem q_lenGr {n : Nat} (hk : k (iV n) h) : q c (.len (C (grV b n))) h k := by
 unfold grV
 split
 ·rename_i hn; subst hn; exact q_lenNil hk
 ·exact q_lenSl hk
theorem q_ixGr {n i : Nat} {K : IntKind} (hi : i < n) (hk : k (.ptr b (i * z)) h) : q c (.indexSl z (C (grV b n)) (C (.int K (.ofNat i)))) h k := by
 unfold grV
 rw [if_neg (by omega)]
 exact q_ixSl hi (by rw [Nat.zero_add]; exact hk)
theorem w_loadGr (n : Nat) {m : Nat} {l : Lay} (O : W g0 h0 g h L) (hn : L[n]? = some (grE e z b cs m)) (hm : 0 < m) (hv : partA l cs o = some v) (hk : k v h) : q c (.load l (C (.ptr b o))) h k := by
 unfold grE at hn
 rw [if_neg (by omega)] at hn
 exact Xv n O hn hv hk
theorem w_append (n : Nat) {m j by' : Nat} {x : AV} {new : List AV} (O : W g0 h0 g h L) (hn : L[n]? = some (grE e z b cs m)) (hs : source z x h = some (j, new)) (hcs : cs.length = m * z) (hz : 0 < z) (ha : new.all oneA = true) (hbig : (m + j) * (by' + 1) ≤ 68719476736)
  (hk : ∀ b' h', W g0 h0 g h' (L.set n (grE e z b' (cs ++ new) (m + j))) → k (grV b' (m + j)) h') : q c (.append e by' z (C (grV b m)) (C x)) h k := by
 have hbl : Nat.ble ((m + j) * (by' + 1)) bigLim = true := Nat.ble_eq_true_of_le hbig
 have same : j = 0 → k (grV b m) h := fun hj => by
  have := hk b h
  rw [hj, Nat.add_zero] at this
  refine this ?_
  have e1 : L.set n (grE e z b (cs ++ new) m) = L := by
   by_cases hm : m = 0
   ·have : grE e z b (cs ++ new) m = grE e z b cs m := by unfold grE; rw [if_pos hm, if_pos hm]
    rw [this]
    obtain ⟨h1, h2⟩ := List.getElem?_eq_some_iff.1 hn
    rw [← h2]; exact List.set_getElem_self h1
   ·have h0' : new = [] := by
     unfold source at hs
     split at hs
     ·cases hs; rfl
     ·cases hs; rfl
     ·cases hs; rfl
     ·simp only [Option.map_eq_some_iff, Prod.mk.injEq] at hs
      obtain ⟨w, h1, h2, h3⟩ := hs
      subst h3
      unfold Heap.cells at h1
      split at h1
      ·have := (takeAt_some h1).2
       rw [h2, hj, Nat.zero_mul] at this
       exact List.eq_nil_of_length_eq_zero this
      ·cases h1
     ·rename_i s
      cases hb1 : Nat.beq z 1 with
      | true =>
       rw [hb1] at hs
       simp only [cond_true, Option.some.injEq, Prod.mk.injEq] at hs
       have : s = [] := List.eq_nil_of_length_eq_zero (by omega)
       rw [← hs.2, this]; rfl
      | false => rw [hb1] at hs; cases hs
     ·cases hs
    rw [h0', List.append_nil]
    obtain ⟨h1, h2⟩ := List.getElem?_eq_some_iff.1 hn
    rw [← h2]; exact List.set_getElem_self h1
  rw [e1]; exact O
 by_cases hm : m = 0
 ·subst hm
  have hcs' : cs = [] := List.eq_nil_of_length_eq_zero (by rw [hcs, Nat.zero_mul])
  subst hcs'
  have ev : grV b 0 = .snil := rfl
  rw [ev] at same ⊢
  cases j with
  | zero =>
   refine q_of ?_ (same rfl)
   simp only [aop, Opd.ev, hs, appendA, ha, valH, Option.map_some]
  | succ j =>
   have := hk h.next (h.new (.cells false true e z new))
   refine q_of (v := .sl h.next 0 (0 + (j + 1)) (.op 0)) (h' := h.new (.cells false true e z ([] ++ new))) ?_ ?_
   ·simp only [aop, Opd.ev, hs, appendA, ha, valH, Nat.zero_add] at hbl ⊢
    rw [hbl]; rfl
   ·have e2 : grV h.next (0 + (j + 1)) = .sl h.next 0 (0 + (j + 1)) (.op 0) := by unfold grV; rw [if_neg (by omega)]
    rw [← e2]
    refine this ?_
    unfold grE at hn ⊢
    rw [if_pos rfl] at hn
    rw [if_neg (by omega)]
    exact O.fill hn _
 ·have hn' := hn
  unfold grE at hn'
  rw [if_neg hm] at hn'
  have hb := (O.own n b _ hn').2.2.1
  have ev : grV b m = .sl b 0 m (.op 0) := by unfold grV; rw [if_neg hm]
  rw [ev] at same ⊢
  cases j with
  | zero =>
   refine q_of ?_ (same rfl)
   simp only [aop, Opd.ev, hs, appendA, ha, valH, Option.map_some]
  | succ j =>
   have hlt : Nat.ble (0 + (m + (j + 1)) * z) cs.length = false := by
    cases hbb : Nat.ble (0 + (m + (j + 1)) * z) cs.length with
    | false => rfl
    | true =>
     have := Nat.le_of_ble_eq_true hbb
     rw [hcs, Nat.zero_add] at this
     have := Nat.le_of_mul_le_mul_right this hz
     omega
   refine q_of (v := .sl (h.kill b).next 0 (m + (j + 1)) (.op 0)) (h' := (h.kill b).new (.cells false true e z (cs ++ new))) ?_ ?_
   ·simp only [aop, Opd.ev, hs, appendA, ha, hb, nbeq, decide_true, Bool.and_self, cond_true, hlt, cond_false, takeAt_all hcs, valH]
    rw [hbl]; rfl
   ·have := hk (h.kill b).next ((h.kill b).new (.cells false true e z (cs ++ new)))
    have e2 : grV (h.kill b).next (m + (j + 1)) = .sl (h.kill b).next 0 (m + (j + 1)) (.op 0) := by unfold grV; rw [if_neg (by omega)]
    rw [← e2]
    refine this ?_
    unfold grE
    rw [if_neg (by omega)]
    exact O.renew hn' _
theorem src_own (i : Nat) {j : Nat} (O : W g0 h0 g h L) (hi : L[i]? = some (b, some (.cells ro sp e z cs))) (hc : cs.length = j * z) {cap : Cap} : source z (.sl b 0 j cap) h = some (j, cs) := by
 unfold source Heap.cells
 simp only [(O.own i b _ hi).2.2.1, takeAt_all hc, Option.map_some]
def mEs {K V : Type} (ek : K → AV) (ev : V → AV) : List (K × V) → Nat → List (AV × AV × Nat)
 | [], _ => []
 | (x, y) :: r, n => (ek x, ev y, n) :: mEs ek ev r (n + 1)
def mLook {K V : Type} [DecidableEq K] (a : K) : List (K × V) → Option V
 | [] => none
 | (x, y) :: r => if a = x then some y else mLook a r
theorem mEs_app {K V : Type} (ek : K → AV) (ev : V → AV) (a b : List (K × V)) (n : Nat) : mEs ek ev (a ++ b) n = mEs ek ev a n ++ mEs ek ev b (n + a.length) := by
 induction a generalizing n with
 | nil => rfl
 | cons x r ih => simp only [List.cons_append, mEs, ih, List.length_cons, Nat.add_assoc, Nat.add_comm 1]
theorem find_mEs {K V : Type} [DecidableEq K] {ek : K → AV} {ev : V → AV} {t : EqT} (hk : ∀ a b, eqKey t (ek a) (ek b) = some (decide (a = b))) (a : K) : ∀ (l : List (K × V)) (n : Nat), findA t (ek a) (mEs ek ev l n) = some ((mLook a l).map ev) := by
 intro l
 induction l with
 | nil => intro n; rfl
 | cons x r ih =>
  intro n
  obtain ⟨x, y⟩ := x
  simp only [mEs, findA, hk, mLook]
  by_cases e : a = x
  ·simp [e]
  ·simp only [e, decide_false, if_false, ih]
theorem w_lookup {K V : Type} [DecidableEq K] {ek : K → AV} {ev : V → AV} {t : EqT} (n : Nat) {l : List (K × V)} {cl : Nat} {zero : AV} {a : K} (hek : ∀ a b, eqKey t (ek a) (ek b) = some (decide (a = b))) (O : W g0 h0 g h L) (hn : L[n]? = some (b, some (.map (mEs ek ev l 0) cl)))
  (h1 : ∀ y, mLook a l = some y → k (.tup [ev y, .bool true]) h) (h2 : mLook a l = none → k (.tup [zero, .bool false]) h) : q c (.lookup t zero true (C (.map b)) (C (ek a))) h k := by
 have hb := (O.own n b _ hn).2.2.1
 cases hm : mLook a l with
 | some y => exact q_of (by simp only [aop, Opd.ev, lookupA, hb, hek, find_mEs hek, hm, Option.map_some, cond_true, valOf]) (h1 y hm)
 | none => exact q_of (by simp only [aop, Opd.ev, lookupA, hb, hek, find_mEs hek, hm, Option.map_none, cond_true, valOf, Option.map_some]) (h2 hm)
theorem w_update {K V : Type} [DecidableEq K] {ek : K → AV} {ev : V → AV} {t : EqT} (n : Nat) {l : List (K × V)} {a : K} {y : V} (hek : ∀ a b, eqKey t (ek a) (ek b) = some (decide (a = b))) (O : W g0 h0 g h L) (hn : L[n]? = some (b, some (.map (mEs ek ev l 0) l.length))) (hx : mLook a l = none)
  (hk : ∀ h', W g0 h0 g h' (L.set n (b, some (.map (mEs ek ev (l ++ [(a, y)]) 0) (l ++ [(a, y)]).length))) → k undefA h') : q c (.mapUpdate t (C (.map b)) (C (ek a)) (C (ev y))) h k := by
 have hb := (O.own n b _ hn).2.2.1
 refine q_skip (h' := h.put b (.map (mEs ek ev (l ++ [(a, y)]) 0) (l ++ [(a, y)]).length)) ?_ (hk _ (O.put hn _))
 simp only [aop, Opd.ev, updateA, hb, hek, find_mEs hek, hx, Option.map_none, skipH, Option.map_some, mEs_app, mEs, Nat.zero_add, List.length_append, List.length_singleton]
theorem eqk_i (a b : Nat) : eqKey (.scalar .i) (iV a) (iV b) = some (decide (a = b)) := by
 simp only [eqKey, XH, if_true, eqI, nbeq]
theorem eqk_ii (a b : Nat × Nat) : eqKey (.array 2 .i) (.agg [iV a.1, iV a.2]) (.agg [iV b.1, iV b.2]) = some (decide (a = b)) := by
 obtain ⟨a1, a2⟩ := a
 obtain ⟨b1, b2⟩ := b
 simp only [eqKey, List.replicate, eqCells, XH, if_true, eqI, nbeq, Prod.mk.injEq]
 by_cases h1 : a1 = b1 <;> by_cases h2 : a2 = b2 <;> simp [h1, h2]
theorem is_call {f : Opd} {as : List Opd} (x : q c (.call f as) h k) : q c (.call f as) h k := x
end
end Go.AM
namespace Go.AM
open Go
theorem mIfA_t {o : MK → Prop} {mk : AV → List MA} {as : List MA} {h : Heap} {k : AV → Heap → List MA → Prop} (x : o fun v h => k v h (mk v)) : mIfA (.bool true) true o mk as h k := x
theorem mIfA_f {o : MK → Prop} {mk : AV → List MA} {as : List MA} {h : Heap} {k : AV → Heap → List MA → Prop} (x : k undefA h as) : mIfA (.bool false) true o mk as h k := x
theorem mIfA_u {w : Bool} {o : MK → Prop} {mk : AV → List MA} {as : List MA} {h : Heap} {k : AV → Heap → List MA → Prop} (x : k undefA h as) : mIfA undefA w o mk as h k := x
theorem outOf_x (i : Nat) : outOf i (.exit i) = .normal := by unfold outOf; simp
theorem outOf_n (i : Nat) : outOf i .normal = .normal := rfl
theorem outOf_r (i : Nat) : outOf i .ret = .ret := rfl
theorem sS : (∀ (t : Tm) (p q : Nat) (x : AV), (Tm.put x t p).get q = if p = q then x else t.get q) ∧ (∀ (t : Tm) (v : AV), Opd.ev t (.const v) = v) ∧ (∀ i : Nat, outOf i (.exit i) = .normal) ∧ (∀ i : Nat, outOf i .normal = .normal) ∧ (∀ i : Nat, outOf i .ret = .ret) ∧ (∀ (α : Type) (a b : α) (l : List α), (a :: l).set 0 b = b :: l) ∧ (∀ (α : Type) (a b : α) (l : List α) (n : Nat), (a :: l).set (n + 1) b = a :: l.set n b) ∧ (∀ (α : Type) (a : α) (l : List α), (a :: l).length = l.length + 1) ∧ (∀ (α : Type), ([] : List α).length = 0) ∧ (∀ (α β : Type) (f : α → β) (a : α) (l : List α), (a :: l).map f = f a :: l.map f) ∧ (∀ (α β : Type) (f : α → β), ([] : List α).map f = []) ∧ (∀ (α : Type) (l : List α), [] ++ l = l) ∧ (∀ (α : Type) (l : List α), l ++ [] = l) ∧ (∀ (α : Type) (a : α) (l m : List α), (a :: l) ++ m = a :: (l ++ m)) ∧ (∀ n : Nat, 0 + n = n) ∧ ((!true) = false) ∧ ((!false) = true) ∧ (∀ b : Bool, (true == b) = b) ∧ (∀ b : Bool, (false == b) = !b) ∧ (∀ (α : Type), (none : Option α).isSome = false) ∧ (∀ (α : Type) (a : α), (some a).isSome = true) :=
 ⟨Tm.get_put, ev_c, outOf_x, outOf_n, outOf_r, fun _ _ _ _ => rfl, fun _ _ _ _ _ => rfl, fun _ _ _ => rfl, fun _ => rfl, fun _ _ _ _ _ => rfl, fun _ _ _ => rfl, fun _ _ => rfl, fun _ l => List.append_nil l, fun _ _ _ _ => rfl, Nat.zero_add, rfl, rfl, Bool.true_beq, Bool.false_beq, fun _ => rfl, fun _ _ => rfl⟩
theorem sT : (∀ (t : Tm) (p q : Nat) (x : AV), (Tm.put x t p).get q = if p = q then x else t.get q) ∧ (∀ (t : Tm) (v : AV), Opd.ev t (.const v) = v) ∧ (∀ (α : Type) (a b : α) (l : List α), (a :: l).set 0 b = b :: l) ∧ (∀ (α : Type) (a b : α) (l : List α) (n : Nat), (a :: l).set (n + 1) b = a :: l.set n b) ∧ (∀ (α : Type) (a : α) (l : List α), (a :: l).length = l.length + 1) ∧ (∀ (α : Type), ([] : List α).length = 0) ∧ (∀ (α β : Type) (f : α → β) (a : α) (l : List α), (a :: l).map f = f a :: l.map f) ∧ (∀ (α β : Type) (f : α → β), ([] : List α).map f = []) ∧ (∀ (α : Type) (l : List α), [] ++ l = l) ∧ (∀ (α : Type) (l : List α), l ++ [] = l) ∧ (∀ (α : Type) (a : α) (l m : List α), (a :: l) ++ m = a :: (l ++ m)) ∧ (∀ n : Nat, 0 + n = n) :=
 ⟨Tm.get_put, ev_c, fun _ _ _ _ => rfl, fun _ _ _ _ _ => rfl, fun _ _ _ => rfl, fun _ => rfl, fun _ _ _ _ _ => rfl, fun _ _ _ => rfl, fun _ _ => rfl, fun _ l => List.append_nil l, fun _ _ _ _ => rfl, Nat.zero_add⟩
def IsEl (g : G) (b o : Nat) (ws : List AV) : Prop := ∃ ro sp e z cs, g b = some (.cells ro sp e z cs) ∧ takeAt cs o ws.length = some ws
def IsSl {α : Type} (g : G) (enc : α → List AV) (z : Nat) (v : AV) (xs : List α) : Prop :=
 (xs = [] ∧ (v = .snil ∨ v = .sl0 ∨ ∃ b, v = .slx b)) ∨ ∃ b o cap, v = .sl b o xs.length cap ∧ IsEl g b o (flat enc xs)
theorem IsEl.mono {g g' : G} (l : Gle g g') {b o : Nat} {ws : List AV} : IsEl g b o ws → IsEl g' b o ws := fun ⟨ro, sp, e, z, cs, h1, h2⟩ => ⟨ro, sp, e, z, cs, l _ _ h1, h2⟩
theorem IsSl.mono {α : Type} {g g' : G} (l : Gle g g') {enc : α → List AV} {z : Nat} {v : AV} {xs : List α} (h : IsSl g enc z v xs) : IsSl g' enc z v xs := by
 rcases h with h | ⟨b, o, cap, h1, h2⟩
 ·exact .inl h
 ·exact .inr ⟨b, o, cap, h1, h2.mono l⟩
theorem IsSl.one {α : Type} {g : G} {enc : α → List AV} {z : Nat} {v : AV} {xs : List α} (h : IsSl g enc z v xs) : v.cells = [v] ∧ oneA v = true := by
 rcases h with ⟨_, rfl | rfl | ⟨b, rfl⟩⟩ | ⟨b, o, cap, rfl, _⟩ <;> exact ⟨rfl, rfl⟩
theorem isSl_nil {α : Type} (g : G) (enc : α → List AV) (z : Nat) : IsSl g enc z .snil [] := .inl ⟨rfl, .inl rfl⟩
theorem take_sub {cs ws : List AV} {o i n : Nat} (h : takeAt cs o ws.length = some ws) (hi : i + n ≤ ws.length) : takeAt cs (o + i) n = takeAt ws i n := by
 by_cases h0 : ws.length = 0
 ·have hi0 : i = 0 := by omega
  have hn0 : n = 0 := by omega
  subst hi0; subst hn0
  have : ∀ (o : Nat) (cs : List AV), takeAt cs o 0 = some [] := by
   intro o
   induction o with
   | zero => intro cs; cases cs <;> rfl
   | succ o ih => intro cs; cases cs with
    | nil => rfl
    | cons c r => exact ih r
  rw [this, this]
 ·have hle := takeAt_le h (by omega)
  obtain ⟨h1, _⟩ := takeAt_some h
  rw [takeAt_eq _ _ _ (by omega), takeAt_eq _ _ _ hi]
  congr 1
  conv => rhs; rw [h1]
  rw [List.drop_take, List.drop_drop, List.take_take, Nat.min_eq_left (by omega)]
theorem part_sub {cs ws : List AV} {o i : Nat} {l : Lay} (h : takeAt cs o ws.length = some ws) (hi : i + (match l.agg with | true => l.size | false => 1) ≤ ws.length) : partA l cs (o + i) = partA l ws i := by
 obtain ⟨ag, sz⟩ := l
 cases ag with
 | true => simp only [partA, take_sub h hi]
 | false => simp only [partA, take_sub h hi]
theorem flat_el {α : Type} {enc : α → List AV} {z : Nat} {xs : List α} {i : Nat} {x : α} {cs : List AV} {o : Nat} (h : takeAt cs o (flat enc xs).length = some (flat enc xs)) (hz : ∀ x, (enc x).length = z) (hi : xs[i]? = some x) : takeAt cs (o + i * z) (enc x).length = some (enc x) := by
 have hlen : (flat enc xs).length = xs.length * z := flat_len fun x _ => hz x
 have hil := (List.getElem?_eq_some_iff.1 hi).1
 have : i * z + z ≤ xs.length * z := by rw [← Nat.succ_mul]; exact Nat.mul_le_mul_right z hil
 rw [take_sub h (by rw [hz]; omega)]
 have := flat_take (off := 0) (n := z) (v := enc x) (fun x _ => hz x) hi (by rw [← hz x]; exact takeAt_all rfl) (by omega)
 rw [hz, ← this]; rfl
section
variable {t : Tm} {h : Heap} {Q : MK} {p p' sz b o e z : Nat} {cs : List AV} {g0 g : G} {h0 : Heap} {L : List Ent} {ro sp : Bool}
theorem XZ (hq : Q (t.get p) h) : mFin [.tmp p] Q .ret t h := ⟨trivial, _, rfl, hq⟩
theorem mFin_tt (hq : Q (.tup [t.get p, t.get p']) h) : mFin [.tmp p, .tmp p'] Q .ret t h := ⟨trivial, _, rfl, hq⟩
def cellQ (v : AV) (sz : Nat) (h : Heap) (Q : MK) : Prop := match v with
 | .ptr b o => ∃ ro sp e z cs, o = 0 ∧ h.get b = some (.cells ro sp e z cs) ∧ cs.length = sz ∧ Q (.agg cs) h
 | _ => False
theorem mFin_c (hq : cellQ (t.get p) sz h Q) : mFin [.cell p ⟨true, sz⟩] Q .ret t h := by
 unfold cellQ at hq
 split at hq
 ·rename_i b o heq
  obtain ⟨ro, sp, e, z, cs, h1, h2, h3, h4⟩ := hq
  subst h1
  exact ⟨trivial, [.agg cs], by simp only [resA, heq, h2, Xd h3, Option.map_some], h4⟩
 ·exact hq.elim
theorem cellQ_i (n : Nat) (O : W g0 h0 g h L) (hn : L[n]? = some (b, some (.cells ro sp e z cs))) (hl : cs.length = sz) (hq : Q (.agg cs) h) : cellQ (.ptr b 0) sz h Q :=
 ⟨ro, sp, e, z, cs, rfl, (O.own n b _ hn).2.2.1, hl, hq⟩
end
section
variable {c : MCall} {g0 g g' : G} {h0 h h' : Heap} {L : List Ent} {k : MK} {b o e z e' : Nat} {ro sp : Bool} {cs : List AV} {v : AV} {α : Type} {enc : α → List AV} {xs : List α} {x : α} {K : IntKind}
theorem q_lenS (hs : IsSl g enc z v xs) (hk : k (iV xs.length) h) : q c (.len (C v)) h k := by
 rcases hs with ⟨rfl, rfl | rfl | ⟨b, rfl⟩⟩ | ⟨b, o, cap, rfl, _⟩
 ·exact q_lenNil hk
 ·exact q_lenS0 hk
 ·exact q_lenSx hk
 ·exact q_lenSl hk
theorem q_ixS {i : Nat} (hs : IsSl g enc z v xs) (hz : ∀ x, (enc x).length = z) (hi : xs[i]? = some x) (hk : ∀ b o, IsEl g b o (enc x) → k (.ptr b o) h) : q c (.indexSl z (C v) (C (.int K (.ofNat i)))) h k := by
 rcases hs with ⟨rfl, _⟩ | ⟨b, o, cap, rfl, ro, sp, e, z', cs, h1, h2⟩
 ·simp at hi
 ·exact q_ixSl (List.getElem?_eq_some_iff.1 hi).1 (hk b _ ⟨ro, sp, e, z', cs, h1, flat_el h2 hz hi⟩)
theorem w_loadEl0 {l : Lay} {ws : List AV} (O : W g0 h0 g h L) (he : IsEl g b o ws) (hv : partA l ws 0 = some v) (hs : (match l.agg with | true => l.size | false => 1) ≤ ws.length) (hk : k v h) : q c (.load l (C (.ptr b o))) h k := by
 obtain ⟨ro, sp, e, z, cs, h1, h2⟩ := he
 refine w_loadF O h1 ?_ hk
 have := part_sub (i := 0) (l := l) h2 (by simpa using hs)
 rw [Nat.add_zero] at this
 rw [this, hv]
theorem XK {l : Lay} {ws : List AV} {i : Nat} (O : W g0 h0 g h L) (he : IsEl g b o ws) (hv : partA l ws i = some v) (hs : i + (match l.agg with | true => l.size | false => 1) ≤ ws.length) (hk : k v h) : q c (.load l (C (.ptr b (o + i)))) h k := by
 obtain ⟨ro, sp, e, z, cs, h1, h2⟩ := he
 exact w_loadF O h1 (by rw [part_sub h2 hs, hv]) hk
theorem st_loadEl {l : Lay} {ws : List AV} {i : Nat} {w : AV} {lo hi : Nat} {hs' : List Heap} (O : W g0 h0 g h L) (he : IsEl g b o ws) (hv : partA l ws i = some v) (hs : i + (match l.agg with | true => l.size | false => 1) ≤ ws.length) (hw : AV.beq v w = true) (r : mStay1 ⟨.load l (C (.ptr b (o + i))), w, lo, hi⟩ hs') : mStay1 ⟨.load l (C (.ptr b (o + i))), w, lo, hi⟩ (h :: hs') := by
 obtain ⟨ro, sp, e, z, cs, h1, h2⟩ := he
 exact st_loadF O h1 (by rw [part_sub h2 hs, hv]) hw r
theorem w_loadGrEl0 {α : Type} {enc : α → List AV} (n : Nat) {xs : List α} {x : α} {i : Nat} {l : Lay} (O : W g0 h0 g h L) (hn : L[n]? = some (grE e z b (flat enc xs) xs.length)) (hz : ∀ x, (enc x).length = z) (hi : xs[i]? = some x) (hv : partA l (enc x) 0 = some v) (hs : (match l.agg with | true => l.size | false => 1) ≤ z) (hk : k v h) : q c (.load l (C (.ptr b (i * z)))) h k :=
 w_loadGr n O hn (by have := (List.getElem?_eq_some_iff.1 hi).1; omega) (part_flat (off := 0) (fun x _ => hz x) hi hv (by rw [Nat.zero_add]; exact hs)) hk
theorem src_S (O : W g0 h0 g h L) (hs : IsSl g enc z v xs) (hz : ∀ x, (enc x).length = z) : source z v h = some (xs.length, flat enc xs) := by
 rcases hs with ⟨rfl, rfl | rfl | ⟨b, rfl⟩⟩ | ⟨b, o, cap, rfl, ro, sp, e, z', cs, h1, h2⟩
 ·rfl
 ·rfl
 ·rfl
 ·have hlen : (flat enc xs).length = xs.length * z := flat_len fun x _ => hz x
  unfold source Heap.cells
  simp only [(O.fz b _ h1).2]
  rw [← hlen, h2]; rfl
theorem W.freezeGr (O : W g0 h0 g h L) (n : Nat) (hn : L[n]? = some (grE e z b (flat enc xs) xs.length)) : ∃ g', W g0 h0 g' h (L.set n (0, none)) ∧ Gle g g' ∧ IsSl g' enc z (grV b xs.length) xs := by
 by_cases hx : xs.length = 0
 ·have hx' : xs = [] := List.eq_nil_of_length_eq_zero hx
  subst hx'
  refine ⟨g, ?_, .refl g, isSl_nil g enc z⟩
  refine ⟨O.step, fun i d y hi => ?_, fun i j d y w hi hj => ?_⟩
  ·rcases set_cases hi with ⟨_, he⟩ | ⟨_, hi'⟩
   ·cases he
   ·exact O.own i d y hi'
  ·rcases set_cases hi with ⟨_, he⟩ | ⟨_, hi'⟩
   ·cases he
   ·rcases set_cases hj with ⟨_, he⟩ | ⟨_, hj'⟩
    ·cases he
    ·exact O.nd i j d y w hi' hj'
 ·unfold grE at hn
  rw [if_neg hx] at hn
  refine ⟨_, O.freeze hn, G.add_le _ (O.own n b _ hn).2.2.2, .inr ⟨b, 0, .op 0, by unfold grV; rw [if_neg hx], false, true, e, z, _, G.add_self g b _, takeAt_all rfl⟩⟩
abbrev exV (fl : Bool) (b n : Nat) : AV := match fl with
 | true => .sl b 0 n (.ex n)
 | false => grV b n
abbrev exE (fl : Bool) (e z b : Nat) (cs : List AV) (n : Nat) : Ent := match fl with
 | true => (b, some (.cells false false e z cs))
 | false => grE e z b cs n
variable {fl : Bool}
theorem q_lenX {n : Nat} (hk : k (iV n) h) : q c (.len (C (exV fl b n))) h k := by
 cases fl
 ·exact q_lenGr hk
 ·exact q_lenSl hk
theorem q_ixX {n i : Nat} {K : IntKind} (hi : i < n) (hk : k (.ptr b (i * z)) h) : q c (.indexSl z (C (exV fl b n)) (C (.int K (.ofNat i)))) h k := by
 cases fl
 ·exact q_ixGr hi hk
 ·exact q_ixSl hi (by rw [Nat.zero_add]; exact hk)
theorem w_loadX0 {α : Type} {enc : α → List AV} (n : Nat) {xs : List α} {x : α} {i : Nat} {l : Lay} (O : W g0 h0 g h L) (hn : L[n]? = some (exE fl e z b (flat enc xs) xs.length)) (hz : ∀ x, (enc x).length = z) (hi : xs[i]? = some x) (hv : partA l (enc x) 0 = some v) (hs : (match l.agg with | true => l.size | false => 1) ≤ z) (hk : k v h) : q c (.load l (C (.ptr b (i * z)))) h k := by
 cases fl
 ·exact w_loadGrEl0 n O hn hz hi hv hs hk
 ·exact Xv n O hn (part_flat (off := 0) (fun x _ => hz x) hi hv (by rw [Nat.zero_add]; exact hs)) hk
theorem w_appendX (n : Nat) {m j by' : Nat} {x : AV} {new : List AV} (O : W g0 h0 g h L) (hn : L[n]? = some (exE fl e z b cs m)) (hs : source z x h = some (j, new)) (hj : 0 < j) (hcs : cs.length = m * z) (hz : 0 < z) (ha : new.all oneA = true) (hbig : (m + j) * (by' + 1) ≤ 68719476736)
  (hk : ∀ b' h', W g0 h0 g h' (L.set n (grE e z b' (cs ++ new) (m + j))) → k (grV b' (m + j)) h') : q c (.append e by' z (C (exV fl b m)) (C x)) h k := by
 cases fl
 ·exact w_append n O hn hs hcs hz ha hbig hk
 ·have hn' : L[n]? = some (b, some (.cells false false e z cs)) := hn
  have hb := (O.own n b _ hn').2.2.1
  have hbl : Nat.ble ((m + j) * (by' + 1)) bigLim = true := Nat.ble_eq_true_of_le hbig
  have hnb : Nat.ble (m + j) m = false := by
   cases hh : Nat.ble (m + j) m with
   | false => rfl
   | true => have := Nat.le_of_ble_eq_true hh; omega
  refine q_of (v := .sl h.next 0 (m + j) (.op 0)) (h' := h.new (.cells false true e z (cs ++ new))) ?_ ?_
  ·simp only [aop, Opd.ev, hs, appendA, ha, hnb, cond_false, Heap.cells, hb, takeAt_all hcs, hbl, cond_true, valH, Option.map_some]
  ·have e2 : grV h.next (m + j) = .sl h.next 0 (m + j) (.op 0) := by unfold grV; rw [if_neg (by omega)]
   rw [← e2]
   refine hk _ _ ?_
   unfold grE
   rw [if_neg (by omega)]
   exact O.replace hn' (fun _ => .inr (Nat.le_refl _)) (Nat.le_succ _) (fun _ => Nat.lt_succ_self _) (fun z hz => by cases hz; rw [get_new', if_pos rfl]) fun d hd _ => by rw [get_new', if_neg (by omega)]
theorem st_loadX {α : Type} {enc : α → List AV} (n : Nat) {xs : List α} {x : α} {i lo hi' : Nat} {l : Lay} {w : AV} {hs' : List Heap} (O : W g0 h0 g h L) (hn : L[n]? = some (exE fl e z b (flat enc xs) xs.length)) (hz : ∀ x, (enc x).length = z) (hi : xs[i]? = some x) (hv : partA l (enc x) 0 = some v) (hs : (match l.agg with | true => l.size | false => 1) ≤ z) (hw : AV.beq v w = true) (r : mStay1 ⟨.load l (C (.ptr b (i * z))), w, lo, hi'⟩ hs') : mStay1 ⟨.load l (C (.ptr b (i * z))), w, lo, hi'⟩ (h :: hs') := by
 have hp := part_flat (off := 0) (ly := l) (fun x _ => hz x) hi hv (by rw [Nat.zero_add]; exact hs)
 cases fl
 ·have hn' : L[n]? = some (grE e z b (flat enc xs) xs.length) := hn
  unfold grE at hn'
  rw [if_neg (by have := (List.getElem?_eq_some_iff.1 hi).1; omega)] at hn'
  exact Xe n O hn' hp hw r
 ·exact Xe n O hn hp hw r
theorem W.freezeX (O : W g0 h0 g h L) (n : Nat) (hn : L[n]? = some (exE fl e z b (flat enc xs) xs.length)) : ∃ g', W g0 h0 g' h (L.set n (0, none)) ∧ Gle g g' ∧ IsSl g' enc z (exV fl b xs.length) xs := by
 cases fl
 ·exact O.freezeGr n hn
 ·have hn' : L[n]? = some (b, some (.cells false false e z (flat enc xs))) := hn
  exact ⟨_, O.freeze hn', G.add_le _ (O.own n b _ hn').2.2.2, .inr ⟨b, 0, _, rfl, false, false, e, z, _, G.add_self g b _, takeAt_all rfl⟩⟩
end
end Go.AM
