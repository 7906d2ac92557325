/- The form that the kernel runs. -/
import Derived.Test.YtignppgiamochaaGreatDoorA1
set_option linter.unusedVariables false
set_option linter.unusedSimpArgs false
namespace Go.AM
open Go
noncomputable section
abbrev OB := Option Blk
abbrev Q6 (α : Type) : Type := N4 (N4 (N4 (N4 (N4 (N4 α)))))
structure FH where
 n : Nat
 c : Nat
 a : List OB
 b : List OB
 q : Q6 (List OB)
abbrev FRes := Option (AV × FH)
abbrev Row := N16 AV
abbrev Fr := N16 Row
abbrev KV := AV → FH → FRes
abbrev KE := AExit → Fr → FH → FRes
abbrev SCall := FuncId → List AV → FH → KV → FRes
abbrev SCode := SCall → Nat → Fr → FH → KE → FRes
abbrev Get := Fr → AV
abbrev Put := AV → Fr → (Fr → FRes) → FRes
def iteB (c : Bool) (a b : FRes) : FRes := Bool.rec (motive := fun _ => FRes) b a c
def zz0 (b : Row → AV → (Row → FRes) → FRes) (q : N16 Row) (v : AV) (k : N16 Row → FRes) : FRes := N16.rec (motive := fun _ => (Row → AV → (Row → FRes) → FRes) → AV → (N16 Row → FRes) → FRes) (fun a0 a1 a2 a3 a4 a5 a6 a7 a8 a9 aA aB aC aD aE aF b v k => b a0 v fun x => k ⟨x, a1, a2, a3, a4, a5, a6, a7, a8, a9, aA, aB, aC, aD, aE, aF⟩) q b v k
def zl0 (q : Row) (v : AV) (k : Row → FRes) : FRes := N16.rec (motive := fun _ => AV → (Row → FRes) → FRes) (fun a0 a1 a2 a3 a4 a5 a6 a7 a8 a9 aA aB aC aD aE aF v k => k ⟨v, a1, a2, a3, a4, a5, a6, a7, a8, a9, aA, aB, aC, aD, aE, aF⟩) q v k
def zz1 (b : Row → AV → (Row → FRes) → FRes) (q : N16 Row) (v : AV) (k : N16 Row → FRes) : FRes := N16.rec (motive := fun _ => (Row → AV → (Row → FRes) → FRes) → AV → (N16 Row → FRes) → FRes) (fun a0 a1 a2 a3 a4 a5 a6 a7 a8 a9 aA aB aC aD aE aF b v k => b a1 v fun x => k ⟨a0, x, a2, a3, a4, a5, a6, a7, a8, a9, aA, aB, aC, aD, aE, aF⟩) q b v k
def zl1 (q : Row) (v : AV) (k : Row → FRes) : FRes := N16.rec (motive := fun _ => AV → (Row → FRes) → FRes) (fun a0 a1 a2 a3 a4 a5 a6 a7 a8 a9 aA aB aC aD aE aF v k => k ⟨a0, v, a2, a3, a4, a5, a6, a7, a8, a9, aA, aB, aC, aD, aE, aF⟩) q v k
def zz2 (b : Row → AV → (Row → FRes) → FRes) (q : N16 Row) (v : AV) (k : N16 Row → FRes) : FRes := N16.rec (motive := fun _ => (Row → AV → (Row → FRes) → FRes) → AV → (N16 Row → FRes) → FRes) (fun a0 a1 a2 a3 a4 a5 a6 a7 a8 a9 aA aB aC aD aE aF b v k => b a2 v fun x => k ⟨a0, a1, x, a3, a4, a5, a6, a7, a8, a9, aA, aB, aC, aD, aE, aF⟩) q b v k
def zl2 (q : Row) (v : AV) (k : Row → FRes) : FRes := N16.rec (motive := fun _ => AV → (Row → FRes) → FRes) (fun a0 a1 a2 a3 a4 a5 a6 a7 a8 a9 aA aB aC aD aE aF v k => k ⟨a0, a1, v, a3, a4, a5, a6, a7, a8, a9, aA, aB, aC, aD, aE, aF⟩) q v k
def zz3 (b : Row → AV → (Row → FRes) → FRes) (q : N16 Row) (v : AV) (k : N16 Row → FRes) : FRes := N16.rec (motive := fun _ => (Row → AV → (Row → FRes) → FRes) → AV → (N16 Row → FRes) → FRes) (fun a0 a1 a2 a3 a4 a5 a6 a7 a8 a9 aA aB aC aD aE aF b v k => b a3 v fun x => k ⟨a0, a1, a2, x, a4, a5, a6, a7, a8, a9, aA, aB, aC, aD, aE, aF⟩) q b v k
def zl3 (q : Row) (v : AV) (k : Row → FRes) : FRes := N16.rec (motive := fun _ => AV → (Row → FRes) → FRes) (fun a0 a1 a2 a3 a4 a5 a6 a7 a8 a9 aA aB aC aD aE aF v k => k ⟨a0, a1, a2, v, a4, a5, a6, a7, a8, a9, aA, aB, aC, aD, aE, aF⟩) q v k
def zz4 (b : Row → AV → (Row → FRes) → FRes) (q : N16 Row) (v : AV) (k : N16 Row → FRes) : FRes := N16.rec (motive := fun _ => (Row → AV → (Row → FRes) → FRes) → AV → (N16 Row → FRes) → FRes) (fun a0 a1 a2 a3 a4 a5 a6 a7 a8 a9 aA aB aC aD aE aF b v k => b a4 v fun x => k ⟨a0, a1, a2, a3, x, a5, a6, a7, a8, a9, aA, aB, aC, aD, aE, aF⟩) q b v k
def zl4 (q : Row) (v : AV) (k : Row → FRes) : FRes := N16.rec (motive := fun _ => AV → (Row → FRes) → FRes) (fun a0 a1 a2 a3 a4 a5 a6 a7 a8 a9 aA aB aC aD aE aF v k => k ⟨a0, a1, a2, a3, v, a5, a6, a7, a8, a9, aA, aB, aC, aD, aE, aF⟩) q v k
def zz5 (b : Row → AV → (Row → FRes) → FRes) (q : N16 Row) (v : AV) (k : N16 Row → FRes) : FRes := N16.rec (motive := fun _ => (Row → AV → (Row → FRes) → FRes) → AV → (N16 Row → FRes) → FRes) (fun a0 a1 a2 a3 a4 a5 a6 a7 a8 a9 aA aB aC aD aE aF b v k => b a5 v fun x => k ⟨a0, a1, a2, a3, a4, x, a6, a7, a8, a9, aA, aB, aC, aD, aE, aF⟩) q b v k
def zl5 (q : Row) (v : AV) (k : Row → FRes) : FRes := N16.rec (motive := fun _ => AV → (Row → FRes) → FRes) (fun a0 a1 a2 a3 a4 a5 a6 a7 a8 a9 aA aB aC aD aE aF v k => k ⟨a0, a1, a2, a3, a4, v, a6, a7, a8, a9, aA, aB, aC, aD, aE, aF⟩) q v k
def zz6 (b : Row → AV → (Row → FRes) → FRes) (q : N16 Row) (v : AV) (k : N16 Row → FRes) : FRes := N16.rec (motive := fun _ => (Row → AV → (Row → FRes) → FRes) → AV → (N16 Row → FRes) → FRes) (fun a0 a1 a2 a3 a4 a5 a6 a7 a8 a9 aA aB aC aD aE aF b v k => b a6 v fun x => k ⟨a0, a1, a2, a3, a4, a5, x, a7, a8, a9, aA, aB, aC, aD, aE, aF⟩) q b v k
def zl6 (q : Row) (v : AV) (k : Row → FRes) : FRes := N16.rec (motive := fun _ => AV → (Row → FRes) → FRes) (fun a0 a1 a2 a3 a4 a5 a6 a7 a8 a9 aA aB aC aD aE aF v k => k ⟨a0, a1, a2, a3, a4, a5, v, a7, a8, a9, aA, aB, aC, aD, aE, aF⟩) q v k
def zz7 (b : Row → AV → (Row → FRes) → FRes) (q : N16 Row) (v : AV) (k : N16 Row → FRes) : FRes := N16.rec (motive := fun _ => (Row → AV → (Row → FRes) → FRes) → AV → (N16 Row → FRes) → FRes) (fun a0 a1 a2 a3 a4 a5 a6 a7 a8 a9 aA aB aC aD aE aF b v k => b a7 v fun x => k ⟨a0, a1, a2, a3, a4, a5, a6, x, a8, a9, aA, aB, aC, aD, aE, aF⟩) q b v k
def zl7 (q : Row) (v : AV) (k : Row → FRes) : FRes := N16.rec (motive := fun _ => AV → (Row → FRes) → FRes) (fun a0 a1 a2 a3 a4 a5 a6 a7 a8 a9 aA aB aC aD aE aF v k => k ⟨a0, a1, a2, a3, a4, a5, a6, v, a8, a9, aA, aB, aC, aD, aE, aF⟩) q v k
def zz8 (b : Row → AV → (Row → FRes) → FRes) (q : N16 Row) (v : AV) (k : N16 Row → FRes) : FRes := N16.rec (motive := fun _ => (Row → AV → (Row → FRes) → FRes) → AV → (N16 Row → FRes) → FRes) (fun a0 a1 a2 a3 a4 a5 a6 a7 a8 a9 aA aB aC aD aE aF b v k => b a8 v fun x => k ⟨a0, a1, a2, a3, a4, a5, a6, a7, x, a9, aA, aB, aC, aD, aE, aF⟩) q b v k
def zl8 (q : Row) (v : AV) (k : Row → FRes) : FRes := N16.rec (motive := fun _ => AV → (Row → FRes) → FRes) (fun a0 a1 a2 a3 a4 a5 a6 a7 a8 a9 aA aB aC aD aE aF v k => k ⟨a0, a1, a2, a3, a4, a5, a6, a7, v, a9, aA, aB, aC, aD, aE, aF⟩) q v k
def zz9 (b : Row → AV → (Row → FRes) → FRes) (q : N16 Row) (v : AV) (k : N16 Row → FRes) : FRes := N16.rec (motive := fun _ => (Row → AV → (Row → FRes) → FRes) → AV → (N16 Row → FRes) → FRes) (fun a0 a1 a2 a3 a4 a5 a6 a7 a8 a9 aA aB aC aD aE aF b v k => b a9 v fun x => k ⟨a0, a1, a2, a3, a4, a5, a6, a7, a8, x, aA, aB, aC, aD, aE, aF⟩) q b v k
def zl9 (q : Row) (v : AV) (k : Row → FRes) : FRes := N16.rec (motive := fun _ => AV → (Row → FRes) → FRes) (fun a0 a1 a2 a3 a4 a5 a6 a7 a8 a9 aA aB aC aD aE aF v k => k ⟨a0, a1, a2, a3, a4, a5, a6, a7, a8, v, aA, aB, aC, aD, aE, aF⟩) q v k
def zzA (b : Row → AV → (Row → FRes) → FRes) (q : N16 Row) (v : AV) (k : N16 Row → FRes) : FRes := N16.rec (motive := fun _ => (Row → AV → (Row → FRes) → FRes) → AV → (N16 Row → FRes) → FRes) (fun a0 a1 a2 a3 a4 a5 a6 a7 a8 a9 aA aB aC aD aE aF b v k => b aA v fun x => k ⟨a0, a1, a2, a3, a4, a5, a6, a7, a8, a9, x, aB, aC, aD, aE, aF⟩) q b v k
def zlA (q : Row) (v : AV) (k : Row → FRes) : FRes := N16.rec (motive := fun _ => AV → (Row → FRes) → FRes) (fun a0 a1 a2 a3 a4 a5 a6 a7 a8 a9 aA aB aC aD aE aF v k => k ⟨a0, a1, a2, a3, a4, a5, a6, a7, a8, a9, v, aB, aC, aD, aE, aF⟩) q v k
def zzB (b : Row → AV → (Row → FRes) → FRes) (q : N16 Row) (v : AV) (k : N16 Row → FRes) : FRes := N16.rec (motive := fun _ => (Row → AV → (Row → FRes) → FRes) → AV → (N16 Row → FRes) → FRes) (fun a0 a1 a2 a3 a4 a5 a6 a7 a8 a9 aA aB aC aD aE aF b v k => b aB v fun x => k ⟨a0, a1, a2, a3, a4, a5, a6, a7, a8, a9, aA, x, aC, aD, aE, aF⟩) q b v k
def zlB (q : Row) (v : AV) (k : Row → FRes) : FRes := N16.rec (motive := fun _ => AV → (Row → FRes) → FRes) (fun a0 a1 a2 a3 a4 a5 a6 a7 a8 a9 aA aB aC aD aE aF v k => k ⟨a0, a1, a2, a3, a4, a5, a6, a7, a8, a9, aA, v, aC, aD, aE, aF⟩) q v k
def zzC (b : Row → AV → (Row → FRes) → FRes) (q : N16 Row) (v : AV) (k : N16 Row → FRes) : FRes := N16.rec (motive := fun _ => (Row → AV → (Row → FRes) → FRes) → AV → (N16 Row → FRes) → FRes) (fun a0 a1 a2 a3 a4 a5 a6 a7 a8 a9 aA aB aC aD aE aF b v k => b aC v fun x => k ⟨a0, a1, a2, a3, a4, a5, a6, a7, a8, a9, aA, aB, x, aD, aE, aF⟩) q b v k
def zlC (q : Row) (v : AV) (k : Row → FRes) : FRes := N16.rec (motive := fun _ => AV → (Row → FRes) → FRes) (fun a0 a1 a2 a3 a4 a5 a6 a7 a8 a9 aA aB aC aD aE aF v k => k ⟨a0, a1, a2, a3, a4, a5, a6, a7, a8, a9, aA, aB, v, aD, aE, aF⟩) q v k
def zzD (b : Row → AV → (Row → FRes) → FRes) (q : N16 Row) (v : AV) (k : N16 Row → FRes) : FRes := N16.rec (motive := fun _ => (Row → AV → (Row → FRes) → FRes) → AV → (N16 Row → FRes) → FRes) (fun a0 a1 a2 a3 a4 a5 a6 a7 a8 a9 aA aB aC aD aE aF b v k => b aD v fun x => k ⟨a0, a1, a2, a3, a4, a5, a6, a7, a8, a9, aA, aB, aC, x, aE, aF⟩) q b v k
def zlD (q : Row) (v : AV) (k : Row → FRes) : FRes := N16.rec (motive := fun _ => AV → (Row → FRes) → FRes) (fun a0 a1 a2 a3 a4 a5 a6 a7 a8 a9 aA aB aC aD aE aF v k => k ⟨a0, a1, a2, a3, a4, a5, a6, a7, a8, a9, aA, aB, aC, v, aE, aF⟩) q v k
def zzE (b : Row → AV → (Row → FRes) → FRes) (q : N16 Row) (v : AV) (k : N16 Row → FRes) : FRes := N16.rec (motive := fun _ => (Row → AV → (Row → FRes) → FRes) → AV → (N16 Row → FRes) → FRes) (fun a0 a1 a2 a3 a4 a5 a6 a7 a8 a9 aA aB aC aD aE aF b v k => b aE v fun x => k ⟨a0, a1, a2, a3, a4, a5, a6, a7, a8, a9, aA, aB, aC, aD, x, aF⟩) q b v k
def zlE (q : Row) (v : AV) (k : Row → FRes) : FRes := N16.rec (motive := fun _ => AV → (Row → FRes) → FRes) (fun a0 a1 a2 a3 a4 a5 a6 a7 a8 a9 aA aB aC aD aE aF v k => k ⟨a0, a1, a2, a3, a4, a5, a6, a7, a8, a9, aA, aB, aC, aD, v, aF⟩) q v k
def zzF (b : Row → AV → (Row → FRes) → FRes) (q : N16 Row) (v : AV) (k : N16 Row → FRes) : FRes := N16.rec (motive := fun _ => (Row → AV → (Row → FRes) → FRes) → AV → (N16 Row → FRes) → FRes) (fun a0 a1 a2 a3 a4 a5 a6 a7 a8 a9 aA aB aC aD aE aF b v k => b aF v fun x => k ⟨a0, a1, a2, a3, a4, a5, a6, a7, a8, a9, aA, aB, aC, aD, aE, x⟩) q b v k
def zlF (q : Row) (v : AV) (k : Row → FRes) : FRes := N16.rec (motive := fun _ => AV → (Row → FRes) → FRes) (fun a0 a1 a2 a3 a4 a5 a6 a7 a8 a9 aA aB aC aD aE aF v k => k ⟨a0, a1, a2, a3, a4, a5, a6, a7, a8, a9, aA, aB, aC, aD, aE, v⟩) q v k
def zzOf (d : Nat) : (Row → AV → (Row → FRes) → FRes) → N16 Row → AV → (N16 Row → FRes) → FRes :=
 match d with
 | 0 => zz0 | 1 => zz1 | 2 => zz2 | 3 => zz3 | 4 => zz4 | 5 => zz5 | 6 => zz6 | 7 => zz7 | 8 => zz8 | 9 => zz9 | 10 => zzA | 11 => zzB | 12 => zzC | 13 => zzD | 14 => zzE | _ => zzF
def zlOf (d : Nat) : Row → AV → (Row → FRes) → FRes :=
 match d with
 | 0 => zl0 | 1 => zl1 | 2 => zl2 | 3 => zl3 | 4 => zl4 | 5 => zl5 | 6 => zl6 | 7 => zl7 | 8 => zl8 | 9 => zl9 | 10 => zlA | 11 => zlB | 12 => zlC | 13 => zlD | 14 => zlE | _ => zlF
def putS (p : Nat) : Put := fun v t k => zzOf (p / 16) (zlOf (p % 16)) t v k
def getS (p : Nat) : Get := fun t => (t.sel (p / 16)).sel (p % 16)
abbrev Ch := List OB
def n4 {α : Type} (f : α → (α → FRes) → FRes) (d : Nat) (c : N4 α) (k : N4 α → FRes) : FRes :=
 N4.rec (motive := fun _ => (α → (α → FRes) → FRes) → Nat → (N4 α → FRes) → FRes) (fun a0 a1 a2 a3 f d k => Bool.rec (motive := fun _ => FRes)
  (Bool.rec (motive := fun _ => FRes) (f a0 fun x => k ⟨x, a1, a2, a3⟩) (f a1 fun x => k ⟨a0, x, a2, a3⟩) (Nat.ble (nat_lit 1) d))
  (Bool.rec (motive := fun _ => FRes) (f a2 fun x => k ⟨a0, a1, x, a3⟩) (f a3 fun x => k ⟨a0, a1, a2, x⟩) (Nat.ble (nat_lit 3) d)) (Nat.ble (nat_lit 2) d)) c f d k
def putQ (x : Ch) (n : Nat) (q : Q6 Ch) (k : Q6 Ch → FRes) : FRes :=
 n4 (n4 (n4 (n4 (n4 (n4 (fun _ k => k x) (Nat.mod n (nat_lit 4))) (Nat.mod (Nat.div n (nat_lit 4)) (nat_lit 4))) (Nat.mod (Nat.div n (nat_lit 16)) (nat_lit 4))) (Nat.mod (Nat.div n (nat_lit 64)) (nat_lit 4))) (Nat.mod (Nat.div n (nat_lit 256)) (nat_lit 4))) (Nat.mod (Nat.div n (nat_lit 1024)) (nat_lit 4)) q k
def l4 {α : Type} (f : α → (Ch → FRes) → FRes) (d : Nat) (c : N4 α) (k : Ch → FRes) : FRes :=
 N4.rec (motive := fun _ => (α → (Ch → FRes) → FRes) → Nat → (Ch → FRes) → FRes) (fun a0 a1 a2 a3 f d k => f (Bool.rec (motive := fun _ => α)
  (Bool.rec (motive := fun _ => α) a0 a1 (Nat.ble (nat_lit 1) d)) (Bool.rec (motive := fun _ => α) a2 a3 (Nat.ble (nat_lit 3) d)) (Nat.ble (nat_lit 2) d)) k) c f d k
def getQ (n : Nat) (q : Q6 Ch) (k : Ch → FRes) : FRes :=
 l4 (l4 (l4 (l4 (l4 (l4 (fun x k => k x) (Nat.mod n (nat_lit 4))) (Nat.mod (Nat.div n (nat_lit 4)) (nat_lit 4))) (Nat.mod (Nat.div n (nat_lit 16)) (nat_lit 4))) (Nat.mod (Nat.div n (nat_lit 64)) (nat_lit 4))) (Nat.mod (Nat.div n (nat_lit 256)) (nat_lit 4))) (Nat.mod (Nat.div n (nat_lit 1024)) (nat_lit 4)) q k
def forceN (n : Nat) (k : Nat → FRes) : FRes := Nat.rec (motive := fun _ => (Nat → FRes) → FRes) (fun k => k (nat_lit 0)) (fun m _ k => k (Nat.succ m)) n k
def nthC (n : Nat) (l : Ch) (k : OB → FRes) : FRes :=
 Nat.rec (motive := fun _ => Ch → (OB → FRes) → FRes) (fun l k => List.rec (motive := fun _ => (OB → FRes) → FRes) (fun _ => none) (fun c _ _ k => k c) l k)
  (fun _ ih l k => List.rec (motive := fun _ => (Ch → (OB → FRes) → FRes) → (OB → FRes) → FRes) (fun _ _ => none) (fun _ r _ ih k => ih r k) l ih k) n l k
def setC (n : Nat) (l : Ch) (x : OB) (k : Ch → FRes) : FRes :=
 Nat.rec (motive := fun _ => Ch → OB → (Ch → FRes) → FRes) (fun l x k => List.rec (motive := fun _ => OB → (Ch → FRes) → FRes) (fun _ _ => none) (fun _ r _ x k => k (x :: r)) l x k)
  (fun _ ih l x k => List.rec (motive := fun _ => (Ch → OB → (Ch → FRes) → FRes) → OB → (Ch → FRes) → FRes) (fun _ _ _ => none) (fun c r _ ih x k => ih r x fun l => k (c :: l)) l ih x k) n l x k
def getH (id : Id) (h : FH) (k : OB → FRes) : FRes :=
 FH.rec (motive := fun _ => Nat → (OB → FRes) → FRes) (fun n c a b q id k => iteB (Nat.ble (Nat.succ id) n)
  (iteB (Nat.ble (Nat.succ (Nat.sub (Nat.pred n) id)) c) (nthC (Nat.sub (Nat.pred n) id) a k)
   (iteB (Nat.ble (Nat.sub (Nat.sub (Nat.pred n) id) c) (nat_lit 15)) (nthC (Nat.sub (Nat.sub (Nat.pred n) id) c) b k)
    (getQ (Nat.div id (nat_lit 16)) q fun l => nthC (Nat.sub (nat_lit 15) (Nat.mod id (nat_lit 16))) l k))) none) h id k
def putH (x : OB) (id : Id) (h : FH) (k : FH → FRes) : FRes :=
 FH.rec (motive := fun _ => OB → Nat → (FH → FRes) → FRes) (fun n c a b q x id k => iteB (Nat.ble (Nat.succ id) n)
  (iteB (Nat.ble (Nat.succ (Nat.sub (Nat.pred n) id)) c) (setC (Nat.sub (Nat.pred n) id) a x fun a => k ⟨n, c, a, b, q⟩)
   (iteB (Nat.ble (Nat.sub (Nat.sub (Nat.pred n) id) c) (nat_lit 15)) (setC (Nat.sub (Nat.sub (Nat.pred n) id) c) b x fun b => k ⟨n, c, a, b, q⟩)
    (getQ (Nat.div id (nat_lit 16)) q fun l => setC (Nat.sub (nat_lit 15) (Nat.mod id (nat_lit 16))) l x fun l => putQ l (Nat.div id (nat_lit 16)) q fun q => k ⟨n, c, a, b, q⟩))) none) h x id k
def newH (x : Blk) (h : FH) (k : Id → FH → FRes) : FRes :=
 FH.rec (motive := fun _ => Blk → (Id → FH → FRes) → FRes) (fun n c a b q x k => forceN n fun n => iteB (Nat.ble c (nat_lit 14)) (forceN c fun c => k n ⟨Nat.succ n, Nat.succ c, some x :: a, b, q⟩)
  (iteB (Nat.ble (nat_lit 16) n) (iteB (Nat.ble n (nat_lit 65535)) (putQ b (Nat.sub (Nat.div n (nat_lit 16)) (nat_lit 1)) q fun q => k n ⟨Nat.succ n, (nat_lit 0), [], some x :: a, q⟩) none) (k n ⟨Nat.succ n, (nat_lit 0), [], some x :: a, q⟩))) h x k
def asPtr (v : AV) (k : Id → Nat → FRes) : FRes := AV.rec (motive_1 := fun _ => (Id → Nat → FRes) → FRes) (motive_2 := fun _ => PUnit) (fun _ _ => none) (fun _ _ _ => none) (fun _ _ => none) (fun b o k => k b o) (fun _ => none) (fun _ _ _ _ _ => none) (fun _ => none) (fun _ => none) (fun _ _ => none) (fun _ _ => none) (fun _ => none) (fun _ _ _ _ _ _ => none) (fun _ => none) (fun _ _ _ _ => none) (fun _ => none) (fun _ _ _ => none) (fun _ _ _ => none) PUnit.unit (fun _ _ _ _ => PUnit.unit) v k
def asBool (v : AV) (k : Bool → FRes) : FRes := AV.rec (motive_1 := fun _ => (Bool → FRes) → FRes) (motive_2 := fun _ => PUnit) (fun b k => k b) (fun _ _ _ => none) (fun _ _ => none) (fun _ _ _ => none) (fun _ => none) (fun _ _ _ _ _ => none) (fun _ => none) (fun _ => none) (fun _ _ => none) (fun _ _ => none) (fun _ => none) (fun _ _ _ _ _ _ => none) (fun _ => none) (fun _ _ _ _ => none) (fun _ => none) (fun _ _ _ => none) (fun _ _ _ => none) PUnit.unit (fun _ _ _ _ => PUnit.unit) v k
def asInt (v : AV) (k : IntKind → Int → FRes) : FRes := AV.rec (motive_1 := fun _ => (IntKind → Int → FRes) → FRes) (motive_2 := fun _ => PUnit) (fun _ _ => none) (fun b o k => k b o) (fun _ _ => none) (fun _ _ _ => none) (fun _ => none) (fun _ _ _ _ _ => none) (fun _ => none) (fun _ => none) (fun _ _ => none) (fun _ _ => none) (fun _ => none) (fun _ _ _ _ _ _ => none) (fun _ => none) (fun _ _ _ _ => none) (fun _ => none) (fun _ _ _ => none) (fun _ _ _ => none) PUnit.unit (fun _ _ _ _ => PUnit.unit) v k
def asAgg (v : AV) (k : List AV → FRes) : FRes := AV.rec (motive_1 := fun _ => (List AV → FRes) → FRes) (motive_2 := fun _ => PUnit) (fun _ _ => none) (fun _ _ _ => none) (fun _ _ => none) (fun _ _ _ => none) (fun _ => none) (fun _ _ _ _ _ => none) (fun _ => none) (fun _ => none) (fun _ _ => none) (fun _ _ => none) (fun _ => none) (fun _ _ _ _ _ _ => none) (fun _ => none) (fun _ _ _ _ => none) (fun _ => none) (fun b _ k => k b) (fun _ _ _ => none) PUnit.unit (fun _ _ _ _ => PUnit.unit) v k
def asTup (v : AV) (k : List AV → FRes) : FRes := AV.rec (motive_1 := fun _ => (List AV → FRes) → FRes) (motive_2 := fun _ => PUnit) (fun _ _ => none) (fun _ _ _ => none) (fun _ _ => none) (fun _ _ _ => none) (fun _ => none) (fun _ _ _ _ _ => none) (fun _ => none) (fun _ => none) (fun _ _ => none) (fun _ _ => none) (fun _ => none) (fun _ _ _ _ _ _ => none) (fun _ => none) (fun _ _ _ _ => none) (fun _ => none) (fun _ _ _ => none) (fun b _ k => k b) PUnit.unit (fun _ _ _ _ => PUnit.unit) v k
def asStr (v : AV) (k : List Nat → FRes) : FRes := AV.rec (motive_1 := fun _ => (List Nat → FRes) → FRes) (motive_2 := fun _ => PUnit) (fun _ _ => none) (fun _ _ _ => none) (fun b k => k b) (fun _ _ _ => none) (fun _ => none) (fun _ _ _ _ _ => none) (fun _ => none) (fun _ => none) (fun _ _ => none) (fun _ _ => none) (fun _ => none) (fun _ _ _ _ _ _ => none) (fun _ => none) (fun _ _ _ _ => none) (fun _ => none) (fun _ _ _ => none) (fun _ _ _ => none) PUnit.unit (fun _ _ _ _ => PUnit.unit) v k
def asMap (v : AV) (k : Id → FRes) : FRes := AV.rec (motive_1 := fun _ => (Id → FRes) → FRes) (motive_2 := fun _ => PUnit) (fun _ _ => none) (fun _ _ _ => none) (fun _ _ => none) (fun _ _ _ => none) (fun _ => none) (fun _ _ _ _ _ => none) (fun _ => none) (fun _ => none) (fun _ _ => none) (fun b k => k b) (fun _ => none) (fun _ _ _ _ _ _ => none) (fun _ => none) (fun _ _ _ _ => none) (fun _ => none) (fun _ _ _ => none) (fun _ _ _ => none) PUnit.unit (fun _ _ _ _ => PUnit.unit) v k
def asFn (v : AV) (k : Fn → List AV → List AV → FRes) : FRes := AV.rec (motive_1 := fun _ => (Fn → List AV → List AV → FRes) → FRes) (motive_2 := fun _ => PUnit) (fun _ _ => none) (fun _ _ _ => none) (fun _ _ => none) (fun _ _ _ => none) (fun _ => none) (fun _ _ _ _ _ => none) (fun _ => none) (fun _ => none) (fun _ _ => none) (fun _ _ => none) (fun _ => none) (fun f x y _ _ k => k f x y) (fun _ => none) (fun _ _ _ _ => none) (fun _ => none) (fun _ _ _ => none) (fun _ _ _ => none) PUnit.unit (fun _ _ _ _ => PUnit.unit) v k
def asSl (v : AV) (k : Id → Nat → Nat → Cap → FRes) : FRes := AV.rec (motive_1 := fun _ => (Id → Nat → Nat → Cap → FRes) → FRes) (motive_2 := fun _ => PUnit) (fun _ _ => none) (fun _ _ _ => none) (fun _ _ => none) (fun _ _ _ => none) (fun _ => none) (fun b o n c k => k b o n c) (fun _ => none) (fun _ => none) (fun _ _ => none) (fun _ _ => none) (fun _ => none) (fun _ _ _ _ _ _ => none) (fun _ => none) (fun _ _ _ _ => none) (fun _ => none) (fun _ _ _ => none) (fun _ _ _ => none) PUnit.unit (fun _ _ _ _ => PUnit.unit) v k
def asLen (v : AV) (k : Nat → FRes) : FRes := AV.rec (motive_1 := fun _ => (Nat → FRes) → FRes) (motive_2 := fun _ => PUnit) (fun _ _ => none) (fun _ _ _ => none) (fun _ _ => none) (fun _ _ _ => none) (fun _ => none) (fun _ _ n _ k => k n) (fun k => k 0) (fun k => k 0) (fun _ k => k 0) (fun _ _ => none) (fun _ => none) (fun _ _ _ _ _ _ => none) (fun _ => none) (fun _ _ _ _ => none) (fun _ => none) (fun _ _ _ => none) (fun _ _ _ => none) PUnit.unit (fun _ _ _ _ => PUnit.unit) v k
def intOr (v : AV) (k : IntKind → Int → FRes) (e : FRes) : FRes := AV.rec (motive_1 := fun _ => (IntKind → Int → FRes) → FRes → FRes) (motive_2 := fun _ => PUnit) (fun _ k e => e) (fun b o k e => k b o) (fun _ k e => e) (fun _ _ k e => e) (fun k e => e) (fun _ _ _ _ k e => e) (fun k e => e) (fun k e => e) (fun _ k e => e) (fun _ k e => e) (fun k e => e) (fun _ _ _ _ _ k e => e) (fun k e => e) (fun _ _ _ k e => e) (fun k e => e) (fun _ _ k e => e) (fun _ _ k e => e) PUnit.unit (fun _ _ _ _ => PUnit.unit) v k e
def aggOr (v : AV) (k : List AV → FRes) (e : FRes) : FRes := AV.rec (motive_1 := fun _ => (List AV → FRes) → FRes → FRes) (motive_2 := fun _ => PUnit) (fun _ k e => e) (fun _ _ k e => e) (fun _ k e => e) (fun _ _ k e => e) (fun k e => e) (fun _ _ _ _ k e => e) (fun k e => e) (fun k e => e) (fun _ k e => e) (fun _ k e => e) (fun k e => e) (fun _ _ _ _ _ k e => e) (fun k e => e) (fun _ _ _ k e => e) (fun k e => e) (fun b _ k e => k b) (fun _ _ k e => e) PUnit.unit (fun _ _ _ _ => PUnit.unit) v k e
def boolOr (v : AV) (k : Bool → FRes) (e : FRes) : FRes := AV.rec (motive_1 := fun _ => (Bool → FRes) → FRes → FRes) (motive_2 := fun _ => PUnit) (fun b k e => k b) (fun _ _ k e => e) (fun _ k e => e) (fun _ _ k e => e) (fun k e => e) (fun _ _ _ _ k e => e) (fun k e => e) (fun k e => e) (fun _ k e => e) (fun _ k e => e) (fun k e => e) (fun _ _ _ _ _ k e => e) (fun k e => e) (fun _ _ _ k e => e) (fun k e => e) (fun _ _ k e => e) (fun _ _ k e => e) PUnit.unit (fun _ _ _ _ => PUnit.unit) v k e
def isOne (v : AV) (k : FRes) : FRes := AV.rec (motive_1 := fun _ => FRes → FRes) (motive_2 := fun _ => PUnit) (fun _ k => k) (fun _ _ k => k) (fun _ k => k) (fun _ _ k => k) (fun k => k) (fun _ _ _ _ k => k) (fun k => k) (fun k => k) (fun _ k => k) (fun _ k => k) (fun k => k) (fun _ _ _ _ _ k => k) (fun k => k) (fun _ _ _ k => k) (fun k => k) (fun _ _ _ => none) (fun _ _ _ => none) PUnit.unit (fun _ _ _ _ => PUnit.unit) v k
def mapNil (v : AV) (e : FRes) (k : Id → FRes) : FRes := AV.rec (motive_1 := fun _ => FRes → (Id → FRes) → FRes) (motive_2 := fun _ => PUnit) (fun _ _ _ => none) (fun _ _ _ _ => none) (fun _ _ _ => none) (fun _ _ _ _ => none) (fun _ _ => none) (fun _ _ _ _ _ _ => none) (fun _ _ => none) (fun _ _ => none) (fun _ _ _ => none) (fun b e k => k b) (fun e k => e) (fun _ _ _ _ _ _ _ => none) (fun _ _ => none) (fun _ _ _ _ _ => none) (fun _ _ => none) (fun _ _ _ _ => none) (fun _ _ _ _ => none) PUnit.unit (fun _ _ _ _ => PUnit.unit) v e k
def asSome (x : OB) (k : Blk → FRes) : FRes := Option.rec (motive := fun _ => (Blk → FRes) → FRes) (fun _ => none) (fun b k => k b) x k
def asCells (b : Blk) (k : Bool → Bool → TypeId → Nat → List AV → FRes) : FRes :=
 Blk.rec (motive := fun _ => (Bool → Bool → TypeId → Nat → List AV → FRes) → FRes) (fun a b c d e k => k a b c d e) (fun _ _ _ => none) (fun _ _ _ _ _ => none) (fun _ _ _ => none) b k
def cellsF (v : AV) (k : List AV → FRes) : FRes := aggOr v k (k [v])
def dropF (n : Nat) (cs : List AV) (k : List AV → FRes) : FRes :=
 Nat.rec (motive := fun _ => List AV → (List AV → FRes) → FRes) (fun cs k => k cs) (fun _ ih cs k => List.rec (motive := fun _ => (List AV → (List AV → FRes) → FRes) → (List AV → FRes) → FRes) (fun _ _ => none) (fun _ r _ ih k => ih r k) cs ih k) n cs k
def headF (cs : List AV) (k : AV → FRes) : FRes := List.rec (motive := fun _ => (AV → FRes) → FRes) (fun _ => none) (fun c _ _ k => k c) cs k
def takeF (n : Nat) (cs : List AV) (k : List AV → FRes) : FRes :=
 Nat.rec (motive := fun _ => List AV → (List AV → FRes) → FRes) (fun _ k => k []) (fun _ ih cs k => List.rec (motive := fun _ => (List AV → (List AV → FRes) → FRes) → (List AV → FRes) → FRes) (fun _ _ => none) (fun c r _ ih k => ih r fun l => k (c :: l)) cs ih k) n cs k
def lenF (cs : List AV) (k : Nat → FRes) : FRes := forceN (List.rec (motive := fun _ => Nat) (nat_lit 0) (fun _ _ n => Nat.succ n) cs) k
def XR (c a b : AV) (h : FH) (k : KV) : FRes := asBool c fun x => iteB x (k a h) (k b h)
def Xq (e : TypeId) (n : Nat) (zs : List AV) (h : FH) (k : KV) : FRes := newH (.cells false false e n zs) h fun b h => k (.ptr b (nat_lit 0)) h
def oBox (e : TypeId) (a : AV) (h : FH) (k : KV) : FRes := cellsF a fun cs => lenF cs fun n => newH (.cells false false e n cs) h fun b h => k (.ptr b (nat_lit 0)) h
def Xc (a : AV) (h : FH) (k : KV) : FRes := asPtr a fun b o => getH b h fun x => asSome x fun y => asCells y fun _ _ _ _ cs => dropF o cs fun r => headF r fun v => k v h
def Xb (n : Nat) (a : AV) (h : FH) (k : KV) : FRes := asPtr a fun b o => getH b h fun x => asSome x fun y => asCells y fun _ _ _ _ cs => dropF o cs fun r => takeF n r fun l => k (.agg l) h
def Xa (off : Nat) (a : AV) (h : FH) (k : KV) : FRes := asPtr a fun b o => forceN (Nat.add o off) fun o => k (.ptr b o) h
def Xk (i : Nat) (a : AV) (h : FH) (k : KV) : FRes := asTup a fun vs => dropF i vs fun r => headF r fun v => k v h
def natI (z : Int) (k : Nat → FRes) : FRes := Int.rec (motive := fun _ => (Nat → FRes) → FRes) (fun n k => k n) (fun _ _ => none) z k
def Xg (z : Nat) (a b : AV) (h : FH) (k : KV) : FRes := asSl a fun b' o len _ => asInt b fun _ i => natI i fun i => iteB (Nat.ble (Nat.succ i) len) (forceN (Nat.add o (Nat.mul i z)) fun o => k (.ptr b' o) h) none
def kNum (k : IntKind) : Nat := IntKind.rec (motive := fun _ => Nat) (nat_lit 0) (nat_lit 1) (nat_lit 2) (nat_lit 3) (nat_lit 4) (nat_lit 5) (nat_lit 6) (nat_lit 7) k
def forceI (z : Int) (k : Int → FRes) : FRes := Int.rec (motive := fun _ => (Int → FRes) → FRes) (fun n k => forceN n fun n => k (.ofNat n)) (fun n k => forceN n fun n => k (.negSucc n)) z k
def maxF (k : IntKind) : Nat := IntKind.rec (motive := fun _ => Nat) (nat_lit 127) (nat_lit 32767) (nat_lit 2147483647) (nat_lit 9223372036854775807) (nat_lit 255) (nat_lit 65535) (nat_lit 4294967295) (nat_lit 18446744073709551615) k
def normF (i : IntKind) (z : Int) (k : Int → FRes) : FRes := Int.rec (motive := fun _ => IntKind → (Int → FRes) → FRes) (fun n i k => Bool.rec (motive := fun _ => FRes) (forceI (norm i (.ofNat n)) k) (forceN n fun n => k (.ofNat n)) (Nat.ble n (maxF i)))
 (fun n i k => forceI (norm i (.negSucc n)) k) z i k
def addF (x y : Int) : Int := Int.rec (motive := fun _ => Int → Int) (fun a y => Int.rec (motive := fun _ => Nat → Int) (fun b a => .ofNat (Nat.add a b)) (fun b a => addI (.ofNat a) (.negSucc b)) y a) (fun a y => addI (.negSucc a) y) x y
def subF (x y : Int) : Int := Int.rec (motive := fun _ => Int → Int) (fun a y => Int.rec (motive := fun _ => Nat → Int) (fun b a => Bool.rec (motive := fun _ => Int) (.negSucc (Nat.sub (Nat.sub b a) (nat_lit 1))) (.ofNat (Nat.sub a b)) (Nat.ble b a)) (fun b a => subI (.ofNat a) (.negSucc b)) y a) (fun a y => subI (.negSucc a) y) x y
def leF (x y : Int) : Bool := Int.rec (motive := fun _ => Int → Bool) (fun a y => Int.rec (motive := fun _ => Nat → Bool) (fun b a => Nat.ble a b) (fun _ _ => false) y a) (fun a y => Int.rec (motive := fun _ => Nat → Bool) (fun _ _ => true) (fun b a => Nat.ble b a) y a) x y
def eqF (x y : Int) : Bool := Int.rec (motive := fun _ => Int → Bool) (fun a y => Int.rec (motive := fun _ => Nat → Bool) (fun b a => Nat.beq a b) (fun _ _ => false) y a) (fun a y => Int.rec (motive := fun _ => Nat → Bool) (fun _ _ => false) (fun b a => Nat.beq a b) y a) x y
def notF (b : Bool) : Bool := Bool.rec (motive := fun _ => Bool) true false b
def binG (op : BinOp) (x y : AV) (h : FH) (k : KV) : FRes := match bin op x y with | some v => k v h | none => none
def ints2 (op : BinOp) (x y : AV) (h : FH) (k' : KV) (k : IntKind → Int → Int → FRes) : FRes :=
 intOr x (fun i a => asInt y fun j b => iteB (Nat.beq (kNum i) (kNum j)) (k i a b) none) (binG op x y h k')
def oAdd (a b : AV) (h : FH) (k : KV) : FRes := ints2 .add a b h k fun i x y => normF i (addF x y) fun z => k (.int i z) h
def oSub (a b : AV) (h : FH) (k : KV) : FRes := ints2 .sub a b h k fun i x y => normF i (subF x y) fun z => k (.int i z) h
def boolK (c : Bool) (h : FH) (k : KV) : FRes := iteB c (k (.bool true) h) (k (.bool false) h)
def oLss (a b : AV) (h : FH) (k : KV) : FRes := ints2 .lss a b h k fun _ x y => boolK (notF (leF y x)) h k
def oGtr (a b : AV) (h : FH) (k : KV) : FRes := ints2 .gtr a b h k fun _ x y => boolK (notF (leF x y)) h k
def oLeq (a b : AV) (h : FH) (k : KV) : FRes := ints2 .leq a b h k fun _ x y => boolK (leF x y) h k
def oGeq (a b : AV) (h : FH) (k : KV) : FRes := ints2 .geq a b h k fun _ x y => boolK (leF y x) h k
def oEqI (neg : Bool) (a b : AV) (h : FH) (k : KV) : FRes := asInt a fun i x => asInt b fun j y => iteB (Nat.beq (kNum i) (kNum j)) (iteB (eqF x y) (k (.bool (notF neg)) h) (k (.bool neg) h)) none
def overF (cs vs : List AV) (k : List AV → FRes) : FRes :=
 List.rec (motive := fun _ => List AV → (List AV → FRes) → FRes) (fun cs k => k cs) (fun v _ ih cs k => List.rec (motive := fun _ => AV → (List AV → (List AV → FRes) → FRes) → (List AV → FRes) → FRes) (fun _ _ _ => none) (fun _ r _ v ih k => ih r fun l => k (v :: l)) cs v ih k) vs cs k
def setNF (o : Nat) (cs vs : List AV) (k : List AV → FRes) : FRes :=
 Nat.rec (motive := fun _ => List AV → List AV → (List AV → FRes) → FRes) (fun cs vs k => overF cs vs k)
  (fun _ ih cs vs k => List.rec (motive := fun _ => (List AV → List AV → (List AV → FRes) → FRes) → List AV → (List AV → FRes) → FRes) (fun _ _ _ => none) (fun c r _ ih vs k => ih r vs fun l => k (c :: l)) cs ih vs k) o cs vs k
def allOne (vs : List AV) (k : FRes) : FRes := List.rec (motive := fun _ => FRes → FRes) (fun k => k) (fun v _ ih k => isOne v (ih k)) vs k
def Xh (n : Nat) (a x : AV) (h : FH) (k : KV) : FRes := asPtr a fun b o => getH b h fun y => asSome y fun y => asCells y fun ro sp e z cs => iteB ro none
 (cellsF x fun vs => lenF vs fun m => iteB (Nat.beq m n) (allOne vs (setNF o cs vs fun cs => putH (some (.cells false sp e z cs)) b h fun h => k undefA h)) none)
def oMkMap (h : FH) (k : KV) : FRes := newH (.map [] (nat_lit 0)) h fun b h => k (.map b) h
def oLen (a : AV) (h : FH) (k : KV) : FRes := asLen a fun n => k (.int .i64 (.ofNat n)) h
def lenL (l : List Nat) (k : Nat → FRes) : FRes := forceN (List.rec (motive := fun _ => Nat) (nat_lit 0) (fun _ _ n => Nat.succ n) l) k
def nthL (n : Nat) (l : List Nat) (k : Nat → FRes) : FRes :=
 Nat.rec (motive := fun _ => List Nat → (Nat → FRes) → FRes) (fun l k => List.rec (motive := fun _ => (Nat → FRes) → FRes) (fun _ => none) (fun c _ _ k => k c) l k)
  (fun _ ih l k => List.rec (motive := fun _ => (List Nat → (Nat → FRes) → FRes) → (Nat → FRes) → FRes) (fun _ _ => none) (fun _ r _ ih k => ih r k) l ih k) n l k
def oIndexStr (a b : AV) (h : FH) (k : KV) : FRes := asStr a fun s => asInt b fun _ i => natI i fun i => nthL i s fun c => iteB (Nat.ble c (nat_lit 255)) (k (.int .u8 (.ofNat c)) h) none
def dropL (n : Nat) (l : List Nat) (k : List Nat → FRes) : FRes :=
 Nat.rec (motive := fun _ => List Nat → (List Nat → FRes) → FRes) (fun l k => k l) (fun _ ih l k => List.rec (motive := fun _ => (List Nat → (List Nat → FRes) → FRes) → (List Nat → FRes) → FRes) (fun _ _ => none) (fun _ r _ ih k => ih r k) l ih k) n l k
def takeL (n : Nat) (l : List Nat) (k : List Nat → FRes) : FRes :=
 Nat.rec (motive := fun _ => List Nat → (List Nat → FRes) → FRes) (fun _ k => k []) (fun _ ih l k => List.rec (motive := fun _ => (List Nat → (List Nat → FRes) → FRes) → (List Nat → FRes) → FRes) (fun _ _ => none) (fun c r _ ih k => ih r fun l => k (c :: l)) l ih k) n l k
def optN (g : Option AV) (d : Nat) (k : Nat → FRes) : FRes := Option.rec (motive := fun _ => FRes) (k d) (fun g => asInt g fun _ z => natI z k) g
def oSliceStr (a : AV) (lo hi : Option AV) (h : FH) (k : KV) : FRes := asStr a fun s => optN lo (nat_lit 0) fun l => Option.rec (motive := fun _ => FRes) (dropL l s fun r => k (.str r) h)
 (fun g => asInt g fun _ z => natI z fun n => iteB (Nat.ble l n) (dropL l s fun r => takeL (Nat.sub n l) r fun r => k (.str r) h) none) hi
def eqL (x y : List Nat) (k : Bool → FRes) : FRes :=
 List.rec (motive := fun _ => List Nat → (Bool → FRes) → FRes) (fun y k => List.rec (motive := fun _ => (Bool → FRes) → FRes) (fun k => k true) (fun _ _ _ k => k false) y k)
  (fun a _ ih y k => List.rec (motive := fun _ => Nat → (List Nat → (Bool → FRes) → FRes) → (Bool → FRes) → FRes) (fun _ _ k => k false) (fun b r _ a ih k => Bool.rec (motive := fun _ => FRes) (iteB (Nat.ble a (nat_lit 255)) (iteB (Nat.ble b (nat_lit 255)) (k false) none) none) (ih r k) (Nat.beq a b)) y a ih k) x y k
def oEqS (neg : Bool) (a b : AV) (h : FH) (k : KV) : FRes := asStr a fun x => asStr b fun y => eqL x y fun c => iteB c (k (.bool (notF neg)) h) (k (.bool neg) h)
def fillF (ps : List (Nat × Nat × AV)) (cs : List AV) (k : List AV → FRes) : FRes :=
 List.rec (motive := fun _ => List AV → (List AV → FRes) → FRes) (fun cs k => k cs) (fun p _ ih cs k => Prod.rec (motive := fun _ => FRes) (fun off sg => Prod.rec (motive := fun _ => FRes) (fun n g => cellsF g fun vs => lenF vs fun m => iteB (Nat.beq m n) (iteB (Nat.ble (nat_lit 1) m) (setNF off cs vs fun cs => ih cs k) none) none) sg) p) ps cs k
def XE (zs : List AV) (ps : List (Nat × Nat × AV)) (h : FH) (k : KV) : FRes := fillF ps zs fun cs => k (.agg cs) h
def Xi (e len z : Nat) (zs : List AV) (ps : List (Nat × Nat × AV)) (h : FH) (k : KV) : FRes := fillF ps (rep len zs) fun cs => iteB (Nat.ble (Nat.mul len z) (nat_lit 16777216)) (iteB (Nat.beq zs.length z) (newH (.cells false false e z cs) h fun b h => k (.sl b (nat_lit 0) len (.ex len)) h) none) none
def oToInt (i : IntKind) (a : AV) (h : FH) (k : KV) : FRes := asInt a fun _ z => normF i z fun z => k (.int i z) h
def oIndexArr (n z : Nat) (a b : AV) (h : FH) (k : KV) : FRes := asPtr a fun b' o => asInt b fun _ x => natI x fun i => iteB (Nat.ble (Nat.succ i) n) (forceN (Nat.add o (Nat.mul i z)) fun o => k (.ptr b' o) h) none
def eqKs (n : Nat) (x y : List AV) (k : Bool → FRes) : FRes :=
 Nat.rec (motive := fun _ => List AV → List AV → (Bool → FRes) → FRes)
  (fun x y k => List.rec (motive := fun _ => List AV → (Bool → FRes) → FRes) (fun y k => List.rec (motive := fun _ => (Bool → FRes) → FRes) (fun k => k true) (fun _ _ _ _ => none) y k) (fun _ _ _ _ _ => none) x y k)
  (fun _ ih x y k => List.rec (motive := fun _ => List AV → (List AV → List AV → (Bool → FRes) → FRes) → (Bool → FRes) → FRes) (fun _ _ _ => none)
   (fun a x _ y ih k => List.rec (motive := fun _ => AV → List AV → (List AV → List AV → (Bool → FRes) → FRes) → (Bool → FRes) → FRes) (fun _ _ _ _ => none)
    (fun b y _ a x ih k => asInt a fun i m => asInt b fun j n => iteB (Nat.beq (kNum i) (kNum j)) (Bool.rec (motive := fun _ => FRes) (k false) (ih x y k) (eqF m n)) none) y a x ih k) x y ih k) n x y k
abbrev KeyEq := AV → AV → (Bool → FRes) → FRes
def kInt : KeyEq := fun x y k => asInt x fun i x => asInt y fun j y => iteB (Nat.beq (kNum i) (kNum j)) (iteB (eqF x y) (k true) (k false)) none
def kStr : KeyEq := fun x y k => asStr x fun x => asStr y fun y => eqL x y k
def kInts (n : Nat) : KeyEq := fun x y k => asAgg x fun x => asAgg y fun y => eqKs n x y k
def kGen (e : EqT) : KeyEq := fun x y k => Option.rec (motive := fun _ => FRes) none (fun b => k b) (eqKey e x y)
abbrev Ents := List (AV × AV × Nat)
def findF (q : KeyEq) (x : AV) (es : Ents) (yes : AV → FRes) (no : FRes) : FRes :=
 List.rec (motive := fun _ => FRes) no (fun e _ ih => Prod.rec (motive := fun _ => FRes) (fun y vn => Prod.rec (motive := fun _ => FRes) (fun v _ => q x y fun b => iteB b (yes v) ih) vn) e) es
def setEnt (q : KeyEq) (x v : AV) (es : Ents) (yes : Ents → FRes) (no : FRes) : FRes :=
 List.rec (motive := fun _ => (Ents → FRes) → FRes) (fun _ => no) (fun e r ih yes => Prod.rec (motive := fun _ => FRes) (fun y un => Prod.rec (motive := fun _ => FRes) (fun u n => q x y fun b => iteB b (yes ((x, v, n) :: r)) (ih fun l => yes ((y, u, n) :: l))) un) e) es yes
def mapOf (b : Id) (h : FH) (k : Ents → Nat → FRes) : FRes := getH b h fun x => asSome x fun y => Blk.rec (motive := fun _ => (Ents → Nat → FRes) → FRes) (fun _ _ _ _ _ _ => none) (fun es c k => k es c) (fun _ _ _ _ _ => none) (fun _ _ _ => none) y k
def outF (ok : Bool) (v : AV) (b : Bool) : AV := Bool.rec (motive := fun _ => AV) v (.tup [v, .bool b]) ok
def okKey (q : KeyEq) (x : AV) (k : FRes) : FRes := q x x fun _ => k
def oLookup (q : KeyEq) (z : AV) (ok : Bool) (m x : AV) (h : FH) (k : KV) : FRes := okKey q x (mapNil m (k (outF ok z false) h) fun b => mapOf b h fun es _ => findF q x es (fun v => k (outF ok v true) h) (k (outF ok z false) h))
def snoc (es : Ents) (e : AV × AV × Nat) (k : Ents → FRes) : FRes := List.rec (motive := fun _ => (Ents → FRes) → FRes) (fun k => k [e]) (fun a _ ih k => ih fun l => k (a :: l)) es k
def oUpdate (q : KeyEq) (m x v : AV) (h : FH) (k : KV) : FRes := asMap m fun b => okKey q x (mapOf b h fun es c => setEnt q x v es (fun es => putH (some (.map es c)) b h fun h => k undefA h)
 (snoc es (x, v, c) fun es => putH (some (.map es (Nat.succ c))) b h fun h => k undefA h))
def oLenStr (a : AV) (h : FH) (k : KV) : FRes := asStr a fun l => lenL l fun n => k (.int .i64 (.ofNat n)) h
def appF (x y : List AV) : List AV := List.rec (motive := fun _ => List AV → List AV) (fun y => y) (fun a _ ih y => a :: ih y) x y
def fnNum (f : Fn) (k : FuncId → FRes) : FRes := match f with | .func g => k g | _ => none
def oCall (c : SCall) (f : AV) (args : List AV) (h : FH) (k : KV) : FRes := asFn f fun g first cap => fnNum g fun g => c g (appF first (appF args cap)) h k
def oIf (c : AV) (want : Bool) (o : (KV) → FRes) (h : FH) (k : KV) : FRes := boolOr c (fun b => iteB b (iteB want (o k) (k undefA h)) (iteB want (k undefA h) (o k))) (k undefA h)
def vK (x : Option AV) (h : FH) (k : KV) : FRes := Option.rec (motive := fun _ => KV → FH → FRes) (fun _ _ => none) (fun v k h => k v h) x k h
def bK (x : Option Bool) (neg : Bool) (h : FH) (k : KV) : FRes := Option.rec (motive := fun _ => FRes) none (fun b => k (.bool (bif neg then !b else b)) h) x
def iB (op : BinOp) (a b : AV) (k : IntKind → Nat → Nat → FRes) (e : FRes) : FRes :=
 intOr a (fun i x => asInt b fun j y => iteB (Nat.beq (kNum i) (kNum j)) (natI x fun x => natI y fun y => iteB (Nat.ble x (maxF i)) (iteB (Nat.ble y (maxF i)) (k i x y) e) e) e) e
def oAnd (a b : AV) (h : FH) (k : KV) : FRes := iB .and a b (fun i x y => forceN (Nat.land x y) fun z => k (.int i (.ofNat z)) h) (binG .and a b h k)
def oOr (a b : AV) (h : FH) (k : KV) : FRes := iB .or a b (fun i x y => forceN (Nat.lor x y) fun z => k (.int i (.ofNat z)) h) (binG .or a b h k)
def oBin (op : BinOp) (a b : AV) (h : FH) (k : KV) : FRes := vK (bin op a b) h k
def oEq (neg : Bool) (t : EqT) (a b : AV) (h : FH) (k : KV) : FRes := bK (eqV t a b) neg h k
def oUn (op : UnOp) (a : AV) (h : FH) (k : KV) : FRes := vK (un op a) h k
def Xl (a : AV) (h : FH) (k : KV) : FRes := match a with
 | .pnil => none
 | .inil => none
 | .fnil => none
 | .fn (.method _) _ _ => none
 | v => k v h
def oToStr (a : AV) (h : FH) (k : KV) : FRes := asStr a fun s => k (.str s) h
def oStrToBytes (e : TypeId) (a : AV) (h : FH) (k : KV) : FRes := asStr a fun s => newH (.cells false true e (nat_lit 1) (s.map fun c => AV.int .u8 (.ofNat (c % 256)))) h fun b h => k (.sl b (nat_lit 0) s.length (.op (nat_lit 0))) h
def oMkSlice (elem : TypeId) (bytes z : Nat) (zero : List AV) (len cap : AV) (h : FH) (k : KV) : FRes := asInt len fun _ l => natI l fun l => asInt cap fun _ c => natI c fun c =>
 iteB (Nat.ble l c && Nat.ble (c * (bytes + 1)) bigLim && Nat.ble (c * z) 16777216 && Nat.beq zero.length z) (newH (.cells false false elem z (rep c zero)) h fun b h => k (.sl b (nat_lit 0) l (.ex c)) h) none
def slCut (b : Id) (o z l hh m : Nat) (h : FH) (k : KV) : FRes := iteB (Nat.beq m l) (k (.sl b o (Nat.sub hh l) (.ex (Nat.sub m l))) h) (forceN (Nat.add o (Nat.mul l z)) fun o => k (.sl b o (Nat.sub hh l) (.ex (Nat.sub m l))) h)
def slNil (v : AV) (l : Nat) (hi mx : Option AV) (h : FH) (k : KV) : FRes := optN hi (nat_lit 0) fun x => optN mx (nat_lit 0) fun y => iteB (Nat.beq x (nat_lit 0)) (iteB (Nat.beq y (nat_lit 0)) (iteB (Nat.beq l (nat_lit 0)) (k v h) none) none) none
def slOpen (z : Nat) (b : Id) (o len d l : Nat) (hi mx : Option AV) (h : FH) (k : KV) : FRes := getH b h fun x => asSome x fun y => asCells y fun _ sp _ z' cs => iteB sp (iteB (Nat.beq z z') (iteB (Nat.ble (nat_lit 1) z)
 (lenF cs fun n => forceN (Nat.div (Nat.sub n o) z) fun known => optN hi len fun hh => Option.rec (motive := fun _ => FRes)
  (iteB (Nat.ble l hh) (iteB (Nat.ble hh known) (iteB (Nat.beq l (nat_lit 0)) (k (.sl b o hh (.op d)) h) (iteB (Nat.ble (Nat.succ l) known) (forceN (Nat.add o (Nat.mul l z)) fun o => k (.sl b o (Nat.sub hh l) (.op (Nat.add d l))) h) (k (.slx b) h))) none) none)
  (fun m => asInt m fun _ m => natI m fun m => iteB (Nat.ble l hh) (iteB (Nat.ble hh m) (iteB (Nat.ble m known) (slCut b o z l hh m h k) none) none) none) mx) none) none) none
def XY (z : Nat) (x : AV) (lo hi mx : Option AV) (h : FH) (k : KV) : FRes := optN lo (nat_lit 0) fun l => match x with
 | .snil => slNil .snil l hi mx h k
 | .sl0 => slNil .sl0 l hi mx h k
 | .slx b => slNil (match mx with | none => .slx b | some _ => .sl0) l hi mx h k
 | .sl b o len (.ex c) => optN hi len fun hh => optN mx c fun m => iteB (Nat.ble l hh) (iteB (Nat.ble hh m) (iteB (Nat.ble m c) (slCut b o z l hh m h k) none) none) none
 | .sl b o len (.op d) => slOpen z b o len d l hi mx h k
 | _ => none
def oSliceArr (n z : Nat) (a : AV) (lo hi mx : Option AV) (h : FH) (k : KV) : FRes := asPtr a fun b o => XY z (.sl b o n (.ex n)) lo hi mx h k
def oField (l : Lay) (off : Nat) (a : AV) (h : FH) (k : KV) : FRes := asAgg a fun cs => vK (partA l cs off) h k
def oIndexAggN (n : Nat) (l : Lay) (a b : AV) (h : FH) (k : KV) : FRes := asAgg a fun cs => asInt b fun _ i => natI i fun i => iteB (Nat.blt i n) (vK (partA l cs (i * l.size)) h k) none
def oRangeMap (a : AV) (h : FH) (k : KV) : FRes := mapNil a (newH (.miter none (nat_lit 0) [] (nat_lit 0)) h fun b h => k (.ptr b (nat_lit 0)) h) fun m => mapOf m h fun _ clock => newH (.miter (some m) clock [] clock) h fun b h => k (.ptr b (nat_lit 0)) h
def oRangeStr (a : AV) (h : FH) (k : KV) : FRes := asStr a fun s => newH (.siter s (nat_lit 0)) h fun b h => k (.ptr b (nat_lit 0)) h
def memN (n : Nat) (l : List Nat) : Bool := List.rec (motive := fun _ => Bool) false (fun a _ ih => Bool.rec (motive := fun _ => Bool) ih true (Nat.beq a n)) l
def leftF (seen : List Nat) (es : Ents) : Ents := List.rec (motive := fun _ => Ents) [] (fun e _ ih => Bool.rec (motive := fun _ => Ents) (e :: ih) ih (memN e.2.2 seen)) es
def asIter (x : OB) (k : Option Id → Nat → List Nat → Nat → FRes) : FRes := asSome x fun y => Blk.rec (motive := fun _ => (Option Id → Nat → List Nat → Nat → FRes) → FRes) (fun _ _ _ _ _ _ => none) (fun _ _ _ => none) (fun m s l t k => k m s l t) (fun _ _ _ => none) y k
def nextF (b m : Id) (since : Nat) (seen : List Nat) (last : Nat) (h : FH) (k : KV) : FRes := mapOf m h fun es clock =>
 iteB (!seen.isEmpty && !es.isEmpty && es.all (fun e => Nat.ble last e.2.2)) none (match leftF seen es with
  | [] => k (.tup [.bool false]) h
  | [(x, v, n)] => iteB (Nat.ble (Nat.succ n) since) (putH (some (.miter (some m) since (seen ++ [n]) clock)) b h fun h => k (.tup [.bool true, x, v]) h) none
  | _ => none)
def oNext (s : Bool) (a : AV) (h : FH) (k : KV) : FRes := iteB s none (asPtr a fun b o => iteB (Nat.beq o (nat_lit 0)) (getH b h fun x => asIter x fun m since seen last => Option.rec (motive := fun _ => FRes) (k (.tup [.bool false]) h) (fun m => nextF b m since seen last h k) m) none)
def oEntry (a : AV) (h : FH) (k : KV) : FRes := asPtr a fun b o => iteB (Nat.beq o (nat_lit 0)) (getH b h fun x => asIter x fun m _ seen stepped => Option.rec (motive := fun _ => FRes) none (fun m => match lastOf seen with
 | none => none
 | some n => mapOf m h fun es clock => iteB (Nat.beq clock stepped) (vK (bornA n es) h k) none) m) none
def oAssertTo (ty : TypeId) (zero : AV) (ok : Bool) (a : AV) (h : FH) (k : KV) : FRes := match a with
 | .ifc u v => iteB (Nat.beq u ty) (k (outF ok v true) h) (iteB ok (k (outF ok zero false) h) none)
 | .inil => iteB ok (k (outF ok zero false) h) none
 | _ => none
def oLenMap (a : AV) (h : FH) (k : KV) : FRes := mapNil a (k (.int .i64 (.ofNat (nat_lit 0))) h) fun m => mapOf m h fun es _ => forceN es.length fun n => k (.int .i64 (.ofNat n)) h
def oCap (a : AV) (h : FH) (k : KV) : FRes := match a with
 | .snil => k (.int .i64 0) h
 | .sl0 => k (.int .i64 0) h
 | .sl _ _ _ (.ex c) => k (.int .i64 (.ofNat c)) h
 | _ => none
def cellsAt (b : Id) (o n : Nat) (h : FH) (k : List AV → FRes) : FRes := getH b h fun x => asSome x fun y => asCells y fun _ _ _ _ cs => dropF o cs fun r => takeF n r k
def storeAt (b : Id) (o : Nat) (vs : List AV) (h : FH) (k : FH → FRes) : FRes := getH b h fun y => asSome y fun y => asCells y fun ro sp e z cs => iteB ro none (allOne vs (setNF o cs vs fun cs => putH (some (.cells false sp e z cs)) b h k))
def appL (x y : List AV) (k : List AV → FRes) : FRes := List.rec (motive := fun _ => (List AV → FRes) → FRes) (fun k => k y) (fun a _ ih k => ih fun l => k (a :: l)) x k
def sourceF (z : Nat) (x : AV) (h : FH) (k : Nat → List AV → FRes) : FRes := match x with
 | .snil => k (nat_lit 0) []
 | .sl0 => k (nat_lit 0) []
 | .slx _ => k (nat_lit 0) []
 | .sl b o n _ => cellsAt b o (Nat.mul n z) h fun cs => k n cs
 | .str s => iteB (Nat.beq z (nat_lit 1)) (k s.length (s.map fun c => .int .u8 (.ofNat (c % 256)))) none
 | _ => none
def freshF (elem bytes z : Nat) (n : Nat) (new : List AV) (len : Nat) (old : List AV) (h : FH) (k : KV) : FRes := forceN (Nat.add len n) fun m => iteB (Nat.ble (Nat.mul m (Nat.succ bytes)) (nat_lit 68719476736)) (appL old new fun cs => newH (.cells false true elem z cs) h fun b h => k (.sl b (nat_lit 0) m (.op (nat_lit 0))) h) none
def isZ (n : Nat) (a b : FRes) : FRes := Nat.rec (motive := fun _ => FRes) a (fun _ _ => b) n
def appendF (elem bytes z : Nat) (s : AV) (n : Nat) (new : List AV) (h : FH) (k : KV) : FRes := allOne new (match s with
  | .snil => isZ n (k .snil h) (freshF elem bytes z n new (nat_lit 0) [] h k)
  | .sl0 => isZ n (k .sl0 h) (freshF elem bytes z n new (nat_lit 0) [] h k)
  | .slx b => isZ n (k (.slx b) h) (getH b h fun x => asSome x fun y => asCells y fun ro sp e' z' _ => iteB ro none (iteB sp (iteB (Nat.beq e' elem) (iteB (Nat.beq z' z) (putH none b h fun h => freshF elem bytes z n new (nat_lit 0) [] h k) none) none) none))
  | .sl b o len (.ex c) => iteB (Nat.ble (Nat.add len n) c) (storeAt b (Nat.add o (Nat.mul len z)) new h fun h => forceN (Nat.add len n) fun m => k (.sl b o m (.ex c)) h)
    (cellsAt b o (Nat.mul len z) h fun old => freshF elem bytes z n new len old h k)
  | .sl b o len (.op d) => isZ n (k (.sl b o len (.op d)) h) (getH b h fun x => asSome x fun y => asCells y fun ro sp e' z' cs => iteB ro none (iteB sp (iteB (Nat.beq e' elem) (iteB (Nat.beq z' z)
    (lenF cs fun have_ => iteB (Nat.ble (Nat.add o (Nat.mul (Nat.add len n) z)) have_) (storeAt b (Nat.add o (Nat.mul len z)) new h fun h => forceN (Nat.add len n) fun m => k (.sl b o m (.op d)) h)
     (dropF o cs fun r => takeF (Nat.mul len z) r fun old => putH none b h fun h => freshF elem bytes z n new len old h k)) none) none) none))
  | _ => none)
def XP (e b z : Nat) (s x : AV) (h : FH) (k : KV) : FRes := sourceF z x h fun n new => appendF e b z s n new h k
def oAppendMake (elem bytes z : Nat) (zero : List AV) (s n : AV) (h : FH) (k : KV) : FRes := asInt n fun _ n => natI n fun n => iteB (Nat.ble (n * (bytes + 1)) bigLim && Nat.ble (n * z) 16777216 && Nat.beq zero.length z) (appendF elem bytes z s n (rep n zero) h k) none
def oCopy (z : Nat) (d s : AV) (h : FH) (k : KV) : FRes := match d with
 | .snil => k (.int .i64 0) h
 | .sl0 => k (.int .i64 0) h
 | .sl b o n _ => match s with
  | .snil => k (.int .i64 0) h
  | .sl0 => k (.int .i64 0) h
  | .slx _ => k (.int .i64 0) h
  | .sl b' o' n' _ => forceN (Nat.min n' n) fun m => cellsAt b' o' (Nat.mul m z) h fun cs => storeAt b o cs h fun h => k (.int .i64 (.ofNat m)) h
  | _ => none
 | _ => none
def oClear (z : Nat) (zero : List AV) (x : AV) (h : FH) (k : KV) : FRes := match x with
 | .snil => k (.tup []) h
 | .sl0 => k (.tup []) h
 | .slx _ => k (.tup []) h
 | .sl b o n _ => iteB (Nat.beq zero.length z) (storeAt b o (rep n zero) h fun h => k (.tup []) h) none
 | _ => none
def oMinMax (mx : Bool) (l : List AV) (h : FH) (k : KV) : FRes := match l with
 | [] => none
 | x :: r => vK (minMax mx x r) h k
def delEnt (q : KeyEq) (x : AV) (es : Ents) (yes : Ents → FRes) : FRes :=
 List.rec (motive := fun _ => (Ents → FRes) → FRes) (fun yes => yes []) (fun e r ih yes => Prod.rec (motive := fun _ => FRes) (fun y un => Prod.rec (motive := fun _ => FRes) (fun u n => q x y fun b => iteB b (yes r) (ih fun l => yes ((y, u, n) :: l))) un) e) es yes
def oDelete (q : KeyEq) (m x : AV) (h : FH) (k : KV) : FRes := okKey q x (mapNil m (k (.tup []) h) fun b => mapOf b h fun es c => delEnt q x es fun es => putH (some (.map es c)) b h fun h => k (.tup []) h)
structure FA where
 o : FH → KV → FRes
 v : AV
 lo : Nat
 hi : Nat
def oIfA (c : AV) (want : Bool) (o : (KV) → FRes) (mk : AV → List FA) (as : List FA) (h : FH) (k : AV → FH → List FA → FRes) : FRes :=
 boolOr c (fun b => iteB b (iteB want (o fun v h => k v h (mk v)) (k undefA h as)) (iteB want (k undefA h as) (o fun v h => k v h (mk v)))) (k undefA h as)
def thenE (e : AExit) (a : Fr → FH → FRes) (k : KE) (t : Fr) (h : FH) : FRes :=
 AExit.rec (motive := fun _ => (Fr → FH → FRes) → KE → Fr → FH → FRes) (fun a _ t h => a t h) (fun id _ k t h => k (.exit id) t h) (fun _ k t h => k .ret t h) e a k t h
def Xm : SCode := fun _ _ t h k => k .normal t h
def sSeq (a b : SCode) : SCode := fun c n t h k => a c n t h fun e t h => thenE e (fun t h => b c n t h k) k t h
def sIf (g : AV) (a b : SCode) (c : SCall) (n : Nat) (t : Fr) (h : FH) (k : KE) : FRes := asBool g fun x => iteB x (a c n t h k) (b c n t h k)
def blockE (e : AExit) (id : Nat) (k : KE) (t : Fr) (h : FH) : FRes :=
 AExit.rec (motive := fun _ => Nat → KE → Fr → FH → FRes) (fun _ k t h => k .normal t h) (fun j id k t h => iteB (Nat.beq j id) (k .normal t h) (k (.exit j) t h)) (fun _ k t h => k .ret t h) e id k t h
def Xj (id : Nat) (a : SCode) : SCode := fun c n t h k => a c n t h fun e t h => blockE e id k t h
def XN (a : SCode) : SCode := fun c n t h k => Nat.rec (motive := fun _ => Fr → FH → FRes) (fun _ _ => none) (fun _ ih t h => a c n t h fun e t h => thenE e ih k t h) n t h
def XJ (id : Nat) : SCode := fun _ _ t h k => k (.exit id) t h
def sRet : SCode := fun _ _ t h k => k .ret t h
def stayH (o : FH → KV → FRes) (v : AV) (hs : List FH) (k : FRes) : FRes := List.rec (motive := fun _ => FRes) k (fun h _ ih => o h fun u _ => iteB (AV.beq u v) ih none) hs
def betw (lo hi : Nat) (hs : List FH) : List FH := (hs.drop (hs.length - 1 - hi)).take (hi - lo + 1)
def stayF (hs : List FH) (as : List FA) (k : FRes) : FRes := List.rec (motive := fun _ => FRes) k (fun a _ ih => FA.rec (motive := fun _ => FRes) (fun o v lo hi => stayH o v (betw lo hi hs) ih) a) as
inductive SRes where | tmp (g : Get) | cell1 (g : Get) | cellN (n : Nat) (g : Get)
def resS (l : List SRes) (t : Fr) (h : FH) (k : List AV → FRes) : FRes :=
 List.rec (motive := fun _ => (List AV → FRes) → FRes) (fun k => k []) (fun r _ ih k => SRes.rec (motive := fun _ => FRes) (fun g => ih fun l => k (g t :: l))
  (fun g => Xc (g t) h fun v _ => ih fun l => k (v :: l)) (fun n g => Xb n (g t) h fun v _ => ih fun l => k (v :: l)) r) l k
def tupF (l : List AV) (k : AV → FRes) : FRes := match l with
 | [v] => k v
 | l => k (.tup l)
inductive SFunc where | code (c : SCode) (r : List SRes) | clone
def fr0 : Fr := .rep (.rep undefA)
def initF (ps : List Put) (l : List AV) (k : Fr → FRes) : FRes :=
 List.rec (motive := fun _ => List Put → Fr → (Fr → FRes) → FRes) (fun _ t k => k t) (fun v _ ih ps t k => List.rec (motive := fun _ => AV → (List Put → Fr → (Fr → FRes) → FRes) → Fr → (Fr → FRes) → FRes) (fun _ _ _ _ => none) (fun p ps _ v ih t k => p v t fun t => ih ps t k) ps v ih t k) l ps fr0 k
def finE (r : List SRes) (k : KV) (e : AExit) (t : Fr) (h : FH) : FRes :=
 AExit.rec (motive := fun _ => List SRes → KV → Fr → FH → FRes) (fun r k t h => resS r t h fun l => tupF l fun v => k v h) (fun _ _ _ _ _ => none) (fun r k t h => resS r t h fun l => tupF l fun v => k v h) e r k t h
def asIfc (v : AV) (k : TypeId → AV → FRes) : FRes := match v with | .ifc t v => k t v | _ => none
def cloneF (args : List AV) (h : FH) (k : KV) : FRes := match args with
 | [v] => asIfc v fun t v => asMap v fun b => mapOf b h fun es clock => newH (.map es clock) h fun b h => k (.ifc t (.map b)) h
 | _ => none
def enterF (f : Option SFunc) (ps : List Put) (N : Nat) (c : SCall) (args : List AV) (h : FH) (k : KV) : FRes :=
 Option.rec (motive := fun _ => FRes) none (fun f => SFunc.rec (motive := fun _ => FRes) (fun b r => initF ps args fun t => b c N t h (finE r k)) (cloneF args h k) f) f
def sCall (F : Nat → Option SFunc) (ps : List Put) (N : Nat) : Nat → SCall :=
 Nat.rec (motive := fun _ => SCall) (fun _ _ _ _ => none) (fun _ ih f args h k => enterF (F f) ps N ih args h k)
end
end Go.AM
namespace Go.AM
open Go
noncomputable section
abbrev Ov := List (Nat × AV)
abbrev look : Ov → Nat → Option AV
 | [], _ => none
 | (q, v) :: r, p => match Nat.beq q p with
  | true => some v
  | false => look r p
abbrev kept : List Nat → Nat → Bool
 | [], _ => false
 | q :: r, p => match Nat.beq q p with
  | true => true
  | false => kept r p
section
variable (P : List Nat)
abbrev ev1 (σ : Ov) (t : Fr) (x : Opd) (f : AV → FRes) : FRes := match x with
 | .const v => f v
 | .tmp p => match kept P p with
  | true => f (getS p t)
  | false => match look σ p with
   | some v => f v
   | none => none
abbrev evO (σ : Ov) (t : Fr) (x : Option Opd) (f : Option AV → FRes) : FRes := match x with
 | none => f none
 | some x => ev1 P σ t x fun v => f (some v)
abbrev evL (σ : Ov) (t : Fr) : List Opd → (List AV → FRes) → FRes
 | [], f => f []
 | x :: r, f => ev1 P σ t x fun v => evL σ t r fun l => f (v :: l)
abbrev evPs (σ : Ov) (t : Fr) : List (Nat × Nat × Opd) → (List (Nat × Nat × AV) → FRes) → FRes
 | [], f => f []
 | (a, b, x) :: r, f => ev1 P σ t x fun v => evPs σ t r fun l => f ((a, b, v) :: l)
abbrev keyQ : EqT → KeyEq
 | .scalar .i => kInt
 | .scalar .s => kStr
 | .struct ks => match ks.all (fun k => match k with | .i => true | _ => false) with
  | true => kInts ks.length
  | false => kGen (.struct ks)
 | .array n .i => kInts n
 | e => kGen e
abbrev dBin (op : BinOp) (a b : AV) (h : FH) (k : KV) : FRes := match op with
 | .add => oAdd a b h k
 | .sub => oSub a b h k
 | .lss => oLss a b h k
 | .gtr => oGtr a b h k
 | .leq => oLeq a b h k
 | .geq => oGeq a b h k
 | .and => oAnd a b h k
 | .or => oOr a b h k
 | op => oBin op a b h k
abbrev dEq (neg : Bool) (et : EqT) (a b : AV) (h : FH) (k : KV) : FRes := match et with
 | .scalar .i => oEqI neg a b h k
 | .scalar .s => oEqS neg a b h k
 | et => oEq neg et a b h k
def dOp (σ : Ov) (t : Fr) (c : SCall) (o : AOp) (h : FH) (k : KV) : FRes := match o with
 | .mv x => ev1 P σ t x fun v => k v h
 | .pick a b d => ev1 P σ t a fun a => ev1 P σ t b fun b => ev1 P σ t d fun d => XR a b d h k
 | .alloc e zs => Xq e zs.length zs h k
 | .box e x => ev1 P σ t x fun v => oBox e v h k
 | .build zs ps => evPs P σ t ps fun l => XE zs l h k
 | .buildSlice e n z zs ps => evPs P σ t ps fun l => Xi e n z zs l h k
 | .load l a => match l with
  | ⟨false, _⟩ => ev1 P σ t a fun v => Xc v h k
  | ⟨true, n⟩ => ev1 P σ t a fun v => Xb n v h k
 | .store l a x => ev1 P σ t a fun a => ev1 P σ t x fun x => Xh l.size a x h k
 | .nilCheck x => ev1 P σ t x fun v => Xl v h k
 | .bin op x y => ev1 P σ t x fun x => ev1 P σ t y fun y => dBin op x y h k
 | .eq neg et x y => ev1 P σ t x fun x => ev1 P σ t y fun y => dEq neg et x y h k
 | .un op x => ev1 P σ t x fun v => oUn op v h k
 | .toInt i x => ev1 P σ t x fun v => oToInt i v h k
 | .toStr x => ev1 P σ t x fun v => oToStr v h k
 | .strToBytes e x => ev1 P σ t x fun v => oStrToBytes e v h k
 | .mkIface ty x => ev1 P σ t x fun v => k (.ifc ty v) h
 | .mkFn f x y => evL P σ t x fun x => evL P σ t y fun y => k (.fn f x y) h
 | .mkMap => oMkMap h k
 | .mkSlice e b z zs l m => ev1 P σ t l fun l => ev1 P σ t m fun m => oMkSlice e b z zs l m h k
 | .sliceStr x lo hi => ev1 P σ t x fun x => evO P σ t lo fun lo => evO P σ t hi fun hi => oSliceStr x lo hi h k
 | .sliceSl z x lo hi mx => ev1 P σ t x fun x => evO P σ t lo fun lo => evO P σ t hi fun hi => evO P σ t mx fun mx => XY z x lo hi mx h k
 | .sliceArr n z x lo hi mx => ev1 P σ t x fun x => evO P σ t lo fun lo => evO P σ t hi fun hi => evO P σ t mx fun mx => oSliceArr n z x lo hi mx h k
 | .fieldAddr off x => ev1 P σ t x fun v => Xa off v h k
 | .field l off x => ev1 P σ t x fun v => oField l off v h k
 | .indexArr n z x i => ev1 P σ t x fun x => ev1 P σ t i fun i => oIndexArr n z x i h k
 | .indexSl z x i => ev1 P σ t x fun x => ev1 P σ t i fun i => Xg z x i h k
 | .indexAgg n l x i => ev1 P σ t x fun x => ev1 P σ t i fun i => oIndexAggN n l x i h k
 | .indexStr x i => ev1 P σ t x fun x => ev1 P σ t i fun i => oIndexStr x i h k
 | .lookup e z ok m x => ev1 P σ t m fun m => ev1 P σ t x fun x => oLookup (keyQ e) z ok m x h k
 | .mapUpdate e m x v => ev1 P σ t m fun m => ev1 P σ t x fun x => ev1 P σ t v fun v => oUpdate (keyQ e) m x v h k
 | .rangeMap x => ev1 P σ t x fun v => oRangeMap v h k
 | .rangeStr x => ev1 P σ t x fun v => oRangeStr v h k
 | .next s x => ev1 P σ t x fun v => oNext s v h k
 | .entry x => ev1 P σ t x fun v => oEntry v h k
 | .assertTo ty z ok x => ev1 P σ t x fun v => oAssertTo ty z ok v h k
 | .extract i x => ev1 P σ t x fun v => Xk i v h k
 | .call f args => match f with
  | .const (.fn (.func g) [] []) => evL P σ t args fun l => c g l h k
  | f => ev1 P σ t f fun f => evL P σ t args fun l => oCall c f l h k
 | .len x => ev1 P σ t x fun v => oLen v h k
 | .lenStr x => ev1 P σ t x fun v => oLenStr v h k
 | .lenMap x => ev1 P σ t x fun v => oLenMap v h k
 | .cap x => ev1 P σ t x fun v => oCap v h k
 | .append e b z s x => ev1 P σ t s fun s => ev1 P σ t x fun x => XP e b z s x h k
 | .appendMake e b z zs s x => ev1 P σ t s fun s => ev1 P σ t x fun x => oAppendMake e b z zs s x h k
 | .copy z x y => ev1 P σ t x fun x => ev1 P σ t y fun y => oCopy z x y h k
 | .min2 l => evL P σ t l fun l => oMinMax false l h k
 | .max2 l => evL P σ t l fun l => oMinMax true l h k
 | .delete e m x => ev1 P σ t m fun m => ev1 P σ t x fun x => oDelete (keyQ e) m x h k
 | .clear z zs x => ev1 P σ t x fun x => oClear z zs x h k
 | .fail => none
abbrev dPut (d : Option Id) (v : AV) (σ : Ov) (t : Fr) (k : Ov → Fr → FRes) : FRes := match d with
 | none => k σ t
 | some p => match kept P p with
  | true => putS p v t fun t => k σ t
  | false => k ((p, v) :: σ) t
def dOper (σ : Ov) (t : Fr) (c : SCall) (o : AOper) (h : FH) (k : KV) : FRes := match o.guard with
 | none => dOp P σ t c o.op h k
 | some (g, want) => ev1 P σ t (.tmp g) fun v => oIf v want (fun k => dOp P σ t c o.op h k) h k
def dOps (c : SCall) : List AOper → Ov → Fr → FH → (Ov → Fr → FH → FRes) → FRes
 | [], σ, t, h, k => k σ t h
 | o :: os, σ, t, h, k => dOper P σ t c o h fun v h => dPut P o.dst v σ t fun σ t => dOps c os σ t h k
abbrev instA (σ : Ov) (t : Fr) (o : AOp) (k : (FH → KV → FRes) → FRes) : FRes := match o with
 | .load l a => match l with
  | ⟨false, _⟩ => ev1 P σ t a fun v => k (Xc v)
  | ⟨true, n⟩ => ev1 P σ t a fun v => k (Xb n v)
 | .sliceSl z x lo hi mx => ev1 P σ t x fun x => evO P σ t lo fun lo => evO P σ t hi fun hi => evO P σ t mx fun mx => k (XY z x lo hi mx)
 | .sliceArr n z x lo hi mx => ev1 P σ t x fun x => evO P σ t lo fun lo => evO P σ t hi fun hi => evO P σ t mx fun mx => k (oSliceArr n z x lo hi mx)
 | .lookup e z ok m x => ev1 P σ t m fun m => ev1 P σ t x fun x => k (oLookup (keyQ e) z ok m x)
 | .lenMap x => ev1 P σ t x fun x => k (oLenMap x)
 | .entry x => ev1 P σ t x fun x => k (oEntry x)
 | _ => none
def calm : List DOper → Bool
 | [] => true
 | d :: os => match d.way with
  | .effect => true
  | .make => false
  | _ => calm os
def wayB : AM.Way → AM.Way → Bool
 | .pure, .pure => true
 | .quiet, .quiet => true
 | .make, .make => true
 | .effect, .effect => true
 | _, _ => false
def dDrawn (c : SCall) : List DOper → Ov → Fr → FH → List FH → List FA → (Ov → Fr → FH → List FH → List FA → FRes) → FRes
 | [], σ, t, h, hs, as, k => k σ t h (h :: hs) as
 | d :: os, σ, t, h, hs, as, k => match wayB d.way d.o.op.way with
  | false => none
  | true => match d.way with
   | .effect => dOper P σ t c d.o h fun v h' => dPut P d.o.dst v σ t fun σ t => dDrawn c os σ t h' (h :: hs) as k
   | .quiet => match Nat.beq d.lo d.hi && Nat.beq d.lo hs.length && calm os with
    | true => dOper P σ t c d.o h fun v h' => dPut P d.o.dst v σ t fun σ t => dDrawn c os σ t h' hs as k
    | false => instA P σ t d.o.op fun op => match d.o.guard with
     | none => dOp P σ t c d.o.op h fun v h' => dPut P d.o.dst v σ t fun σ t => dDrawn c os σ t h' hs (⟨op, v, d.lo, d.hi⟩ :: as) k
     | some (g, want) => ev1 P σ t (.tmp g) fun b => oIfA b want (fun k => dOp P σ t c d.o.op h k) (fun v => ⟨op, v, d.lo, d.hi⟩ :: as) as h fun v h' as =>
      dPut P d.o.dst v σ t fun σ t => dDrawn c os σ t h' hs as k
   | _ => dOper P σ t c d.o h fun v h' => dPut P d.o.dst v σ t fun σ t => dDrawn c os σ t h' hs as k
def dC : ACode → Ov → SCode
 | .skip, _ => Xm
 | .region ops, σ => fun c _ t h k => dOps P c ops σ t h fun _ t h => k .normal t h
 | .drawn ops, σ => fun c _ t h k => dDrawn P c ops σ t h [] [] fun _ t h hs as => stayF hs as (k .normal t h)
 | .seq a b, σ => match a with
  | .region ops => fun c n t h k => dOps P c ops σ t h fun σ t h => dC b σ c n t h k
  | .drawn ops => fun c n t h k => dDrawn P c ops σ t h [] [] fun σ t h hs as => stayF hs as (dC b σ c n t h k)
  | _ => sSeq (dC a σ) (dC b [])
 | .cond g a b, σ => fun c n t h k => ev1 P σ t g fun v => sIf v (dC a σ) (dC b σ) c n t h k
 | .block i a, σ => Xj i (dC a σ)
 | .loop a, _ => XN (dC a [])
 | .scope a, σ => dC a σ
 | .exit i, _ => XJ i
 | .ret, _ => sRet
def dRes : AResult → SRes
 | .tmp p => .tmp (getS p)
 | .cell p ⟨false, _⟩ => .cell1 (getS p)
 | .cell p ⟨true, n⟩ => .cellN n (getS p)
end
def resKept (P : List Nat) : List AResult → Bool
 | [] => true
 | .tmp p :: r => kept P p && resKept P r
 | .cell p _ :: r => kept P p && resKept P r
def ltAll (n : Nat) : List Nat → Bool
 | [] => true
 | p :: r => Nat.blt p n && ltAll n r
def isDen (P : List Nat) (f : AFunc) (s : SFunc) : Prop := match f with
 | .code c r => ltAll 256 P = true ∧ resKept P r = true ∧ s = .code (dC P c []) (r.map dRes)
 | .mapsClone => s = .clone
end
end Go.AM
