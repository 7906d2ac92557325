/- The program's functions in the kernel's form: what the check of one is. -/
import Derived.Test.YtignppgiamochaaGreatDoorProg
import Derived.KernelRfl
import Derived.Test.YtignppgiamochaaGreatDoorA5
import Derived.Test.YtignppgiamochaaGreatDoorTab2
set_option linter.unusedVariables false
set_option linter.unusedSimpArgs false
namespace Go.AM
open Go Go.Proofs
set_option maxRecDepth 100000
noncomputable section
def gs0 : List (Nat × Id) := [(0, 0), (1, 1), (2, 2), (3, 3), (4, 4), (5, 5)]
def denF (P : List Nat) (o : Option AFunc) : Option SFunc := match o with
 | some (.code c r) => bif ltAll 256 P && resKept P r then some (.code (dC P c []) (r.map dRes)) else none
 | some .mapsClone => some .clone
 | none => none
def FP : FuncId → Option AFunc := fun g => (Tryz.prog.funcs[g]?).bind (cfunc Tryz.prog gs0)
def Xu (x : Nat × SFunc) : Prop := ∃ P, denF P (FP x.1) = some x.2
theorem Xw {g : Nat} {fn : Func} {s : SFunc} (P : List Nat) (h1 : Tryz.prog.funcs[g]? = some fn) (h2 : denF P (cfunc Tryz.prog gs0 fn) = some s) : Xu (g, s) := ⟨P, by unfold FP; rw [h1]; exact h2⟩
theorem isDen_of {P : List Nat} {o : Option AFunc} {s : SFunc} (h : denF P o = some s) : ∃ af, o = some af ∧ isDen P af s := by
 unfold denF at h
 split at h
 ·rename_i c r
  cases hb : (ltAll 256 P && resKept P r) with
  | false => rw [hb] at h; cases h
  | true =>
   rw [hb] at h
   simp only [Bool.and_eq_true] at hb
   cases h
   exact ⟨_, rfl, hb.1, hb.2, rfl⟩
 ·cases h; exact ⟨_, rfl, rfl⟩
 ·cases h
end
end Go.AM
