/- The closed call awake() of layer 8's laws answers true, in every world in which the listed variables lie as the program's text lays them: by a run of the abstract machine in the kernel. -/
import Derived.Test.YtignppgiamochaaGreatDoorTabJ
import Derived.KernelRfl
set_option linter.unusedVariables false
set_option linter.unusedSimpArgs false
namespace Go.AM
open Go Go.Proofs
set_option maxRecDepth 100000
noncomputable section
def u8s (l : List Nat) : List AV := l.map fun n => .int .u8 (.ofNat n)
def u64s (l : List Nat) : List AV := l.map fun n => .int .u64 (.ofNat n)
def strs (l : List (List Nat)) : List AV := l.map .str
def signsL : List (List Nat) := [[60, 61], [62, 61], [61, 61], [33, 61], [38, 38], [124, 124], [43], [45], [42], [47], [37], [60], [62], [61], [33], [40], [41], [123], [125], [44], [59], [58]]
def pow10L : List Nat := [1, 10, 100, 1000, 10000, 100000, 1000000, 10000000, 100000000, 1000000000, 10000000000, 100000000000, 1000000000000, 10000000000000, 100000000000000, 1000000000000000, 10000000000000000, 100000000000000000, 1000000000000000000, 10000000000000000000]
def tab32L : List Nat := [0, 1, 28, 2, 29, 14, 24, 3, 30, 22, 20, 15, 25, 17, 4, 8, 31, 27, 13, 23, 21, 19, 16, 7, 26, 12, 18, 6, 11, 5, 10, 9]
def tab64L : List Nat := [0, 1, 56, 2, 57, 49, 28, 3, 61, 58, 42, 50, 38, 29, 17, 4, 62, 47, 59, 36, 45, 43, 51, 22, 53, 39, 33, 30, 24, 18, 12, 5, 63, 55, 48, 27, 60, 41, 37, 16, 46, 35, 44, 21, 52, 32, 23, 11, 54, 26, 40, 15, 34, 20, 31, 10, 25, 14, 19, 9, 13, 8, 7, 6]
def synL : List Nat := [105, 110, 118, 97, 108, 105, 100, 32, 115, 121, 110, 116, 97, 120]
def rngL : List Nat := [118, 97, 108, 117, 101, 32, 111, 117, 116, 32, 111, 102, 32, 114, 97, 110, 103, 101]
def b0 : Blk := .cells true false 254 1 (strs signsL)
def b1 : Blk := .cells true false 329 1 [.ifc 419 (.ptr 6 0)]
def b2 : Blk := .cells true false 329 1 [.ifc 419 (.ptr 7 0)]
def b3 : Blk := .cells true false 422 1 (u64s pow10L)
def b4 : Blk := .cells true false 425 1 (u8s tab32L)
def b5 : Blk := .cells true false 426 1 (u8s tab64L)
def b6 : Blk := .cells true false 0 1 [.str synL]
def b7 : Blk := .cells true false 0 1 [.str rngL]
def h0 : Heap := ((((((((⟨.nil, 0⟩ : Heap).new b0).new b1).new b2).new b3).new b4).new b5).new b6).new b7
def f0 : FH := ⟨8, 8, [some b7, some b6, some b5, some b4, some b3, some b2, some b1, some b0], [], .rep (.rep (.rep (.rep (.rep (.rep [])))))⟩
theorem g_0 : f0.get 0 = some (h0.get 0) := by kernel_rfl
theorem g_1 : f0.get 1 = some (h0.get 1) := by kernel_rfl
theorem g_2 : f0.get 2 = some (h0.get 2) := by kernel_rfl
theorem g_3 : f0.get 3 = some (h0.get 3) := by kernel_rfl
theorem g_4 : f0.get 4 = some (h0.get 4) := by kernel_rfl
theorem g_5 : f0.get 5 = some (h0.get 5) := by kernel_rfl
theorem g_6 : f0.get 6 = some (h0.get 6) := by kernel_rfl
theorem g_7 : f0.get 7 = some (h0.get 7) := by kernel_rfl
theorem rep0 : RepH f0 h0 where
 next := by kernel_rfl
 grp := by kernel_rfl
 lim := by decide
 get id hid := by
  have hid' : id < 8 := hid
  have h8 : id = 0 ∨ id = 1 ∨ id = 2 ∨ id = 3 ∨ id = 4 ∨ id = 5 ∨ id = 6 ∨ id = 7 := by omega
  rcases h8 with rfl | rfl | rfl | rfl | rfl | rfl | rfl | rfl
  ·exact g_0
  ·exact g_1
  ·exact g_2
  ·exact g_3
  ·exact g_4
  ·exact g_5
  ·exact g_6
  ·exact g_7
def ansB : FRes → Bool
 | some (.bool b, _) => b
 | _ => false
theorem run_awake : ansB (sCall tabF putsF 100000 3000 7 [] f0 fun v h => some (v, h)) = true := by kernel_rfl
theorem awake_runs : ∃ n h', acall FP n 7 [] h0 = some (.bool true, h') := by
 have h := run_awake
 cases hr : sCall tabF putsF 100000 3000 7 [] f0 (fun v h => some (v, h)) with
 | none => rw [hr] at h; cases h
 | some r =>
  obtain ⟨v, h', f', ⟨n, hn⟩, _, h3⟩ := sCall_ok tab_ok puts_ok 3000 7 [] f0 _ r h0 rep0 hr
  cases h3
  rw [hr] at h
  unfold ansB at h
  split at h
  ·rename_i b x heq
   cases heq
   subst h
   exact ⟨n, h', hn n (Nat.le_refl _)⟩
  ·cases h
theorem clone_only : (Tryz.prog.funcs.toList.zipIdx.all fun x => !(x.1.name == "maps.clone") || x.2 == 314) = true := by kernel_rfl
theorem clone_next : Extern.findNext Tryz.f314 = none := by kernel_rfl
theorem clone_find : Extern.find Tryz.f314 = some Extern.MapsClone.clone := by kernel_rfl
theorem cfunc_clone {P : Program} {gs : List (Nat × Id)} {fn : Func} (h : cfunc P gs fn = some .mapsClone) : (fn.name == "maps.clone") = true := by
 unfold cfunc at h
 dsimp only at h
 split at h
 ·cases h
 ·split at h
  ·simp only [Option.bind_eq_bind, Option.bind_eq_some_iff, Option.some.injEq] at h
   obtain ⟨_, _, _, _, h⟩ := h
   cases h
  ·split at h
   ·rename_i h1; exact h1
   ·cases h
theorem fok : FOk Tryz.prog gs0 FP := by
 intro f af hf
 unfold FP at hf
 simp only [Option.bind_eq_some_iff] at hf
 obtain ⟨fn, h1, h2⟩ := hf
 refine ⟨fn, h1, h2, fun h3 => ?_⟩
 subst h3
 have h4 := cfunc_clone h2
 have h5 := List.all_eq_true.1 clone_only (fn, f) (List.mem_zipIdx_iff_getElem?.2 (by simpa using h1))
 simp only [h4, Bool.not_true, Bool.false_or, beq_iff_eq] at h5
 subst h5
 rw [Tryz.func314] at h1
 cases h1
 exact ⟨clone_next, clone_find⟩
theorem mixedB : Tryz.prog.follows .mixedOrders = true := by kernel_rfl
theorem body7 : Tryz.f7.body.isNone = false := by kernel_rfl
theorem name7 : (Tryz.f7.name == "runtime.NumGoroutine") = false := by kernel_rfl
theorem awake_calls {W : World} {e : Env} (hr : RelH e h0 W) (hc : CtxOk ⟨Tryz.prog, gs0, 0⟩ e) : Calls Tryz.prog 7 #[] W fun en W' => en = .returned (.bool true) ∧ ∃ e' h', Post e h0 W e' h' W' := by
 obtain ⟨n, h', hn⟩ := awake_runs
 rcases acall_ok mixedB fok n 7 [] h0 _ h' hn e W #[] hc .nil hr with ⟨_, h2⟩ | ⟨e', x, w', h2, _, _⟩
 ·exact h2.mono fun en W' ⟨e', x, h3, h4, h5⟩ => ⟨by rw [h3, h4.inv_bool], e', h', h5⟩
 ·exfalso
  have : (callFunc 7 #[]).run Tryz.prog W = .ok (.enter 7 #[]) W := by
   unfold callFunc
   rw [Xf (run_program W), Tryz.func7]
   dsimp only
   rw [name7, body7]
   rfl
  rw [this] at h2
  cases h2
end
end Go.AM
