/- The law CheckFinds, for every input. -/
import Derived.Test.YtignppgiamochaaGreatDoorIn
import Derived.Test.YtignppgiamochaaGreatDoorOr
import Derived.Test.YtignppgiamochaaGreatDoorWit
import Derived.Test.YtignppgiamochaaGreatDoorCards
import Derived.ProofKit
import Derived.OpenShut
import Derived.LaidMore
import Derived.Lay
import Derived.Carry
import Derived.SevenTiedAt
import Derived.Stop.Joined
set_option linter.unusedVariables false
set_option linter.unusedSimpArgs false
namespace Go.AM
open Go Go.Proofs Go.Proofs.YtignppgiamochaaGreatDoor Go.ChangeShapes Go.WideShapes Go.ChangeAt Go.RowKit
set_option maxRecDepth 100000
theorem own0 : ownKnob Tryz.prog.godebug = none := by kernel_rfl
theorem laidOut0 : laidOutB Tryz.prog = true := by kernel_rfl
theorem plainL (W : World) (h : laidMetH Tryz.prog Rows.checkFindsRow.laid W) : laidMet Tryz.prog laidL W := by
 rw [laidL_eq, MakeChecks.laidMetH_plain _ _ _ (by kernel_rfl)] at h
 exact h
theorem h0_allRo : AllRo h0 := fun b x hx => roB_rw (h0_ro b x hx)
theorem laidH_ext {h : Heap} (x : Ext h0 h) : LaidH h := fun b y hb => by
 have hlt : @LT.lt Nat _ b h0.next := by rw [h0_next]; exact h0_lt b y hb
 exact ⟨Nat.lt_of_lt_of_le hlt x.le, x.has b y hlt hb⟩
theorem below_of_post {e e' : Env} {h h' : Heap} {w w' : World} (ro : AllRo h) (p : Post e h w e' h' w') : Below w.heap.size w w' :=
 ⟨p.os, p.tape, p.output, p.size, fun k hk => p.frame k hk fun b x i hb hx _ => by rw [ro b x hb] at hx; cases hx⟩
theorem kept_of_below {w w' : World} (b : Below w.heap.size w w') (may : MemPlace → Prop) : w.keptBut w' may :=
 ⟨b.os, b.output, fun i hi => by
  have k := (World.keptBut_refl w may).2.2 i hi
  rw [b.block i hi]
  exact k⟩
theorem calls_of {f : FuncId} {fn : Func} (hfn : Tryz.prog.funcs[f]? = some fn) (hbody : fn.body.isNone = false) (hname : (fn.name == "runtime.NumGoroutine") = false) {args : List AV} {h : Heap} {e : Env} {W : World} {args' : Array Value}
  (hc : Cl f args h fun v _ => v = .bool true) (hC : CtxOk ⟨Tryz.prog, gs0, 0⟩ e) (ha : Rl e args args'.toList) (r : RelH e h W) (ro : AllRo h) :
  Calls Tryz.prog f args' W fun en W' => en = .returned (.bool true) ∧ Below W.heap.size W W' := by
 obtain ⟨v, h', ⟨n, hn⟩, rfl⟩ := hc
 rcases acallO_ok orA_ok mixedB fok n f args h _ h' (hn n (Nat.le_refl _)) e W args' hC ha r with ⟨_, h2⟩ | ⟨e', x, w', h2, _, _⟩
 ·exact h2.mono fun en W' ⟨e', x, h3, h4, h5⟩ => ⟨by rw [h3, h4.inv_bool], below_of_post ro h5⟩
 ·exfalso
  have : (callFunc f args').run Tryz.prog W = .ok (.enter f args') W := by
   unfold callFunc
   rw [Xf (run_program W), hfn]
   dsimp only
   rw [hname, hbody]
   rfl
  rw [this] at h2
  cases h2
theorem finds_lifted (os : Os) (started : os.Started) (H : Type) (enc : TypeId × Value → H) :
  ReturnsInHanded {} Tryz.checked os 4 .any (fun w args => (Rows.checkFindsSpec.pre enc Tryz.prog Tryz.f4 [] false w args ∧ laidMetH Tryz.prog Rows.checkFindsRow.laid w) ∧ sizedMet enc Tryz.prog Tryz.f4 (OpenSpec.ofChange Rows.checkFindsSpec) false w args)
   (Rows.checkFindsSpec.post enc Tryz.prog Tryz.f4 false true false false) := by
 refine returnsInHanded_of_change_and (C := Tryz.checked) (X := fun w _ => laidMetH Tryz.prog Rows.checkFindsRow.laid w) (fun _ _ _ hh h => h.of_heap hh) own0 started (by kernel_rfl) Tryz.func4
  (finds_witness os H enc) ?_
 intro W base args ds gs before hval0 hW _ hz hL _
 have hval : ∀ (j : Nat) t v, Tryz.f4.params[j]? = some t → args[j]? = some v → Value.okWide Tryz.prog W .any base t v := hval0
 have hW' := hW
 obtain ⟨p, q, hA0, hV, rfl, _, _⟩ := hW
 have hA : DataW.TrodAll enc Tryz.prog W 0 (fun _ => true) true Tryz.f4.params.toList args.toList ds p := hA0
 obtain ⟨rfl, rfl⟩ := trodVars_none hV
 have hz' : (DataW.weightsEach Tryz.prog Tryz.f4.params.toList ds).all (· ≤ reachBytes) = true := by
  have e : Tryz.f4.params.toList ++ Rows.checkFindsSpec.plain.varTypes Tryz.checked.prog = Tryz.f4.params.toList := by kernel_rfl
  rw [List.append_nil, e] at hz
  exact hz
 rw [Tryz.params4] at hA hval hz'
 obtain ⟨v0, v1, v2, v3, d0, d1, d2, d3, p0, p1, p2, p3, rfl, rfl, rfl, t0, t1, t2, t3⟩ := trodAll_four hA
 have hlt : ∀ x ∈ p0 ++ p1 ++ p2 ++ p3, x.block < W.heap.size := fun x hx => by simpa using hW'.lt x (by simpa using hx)
 obtain ⟨x1, rfl, rfl, rfl, w1⟩ := open_int Tryz.underlying5 (hval 1 5 v1 rfl rfl) t1
 obtain ⟨x2, rfl, rfl, rfl, w2⟩ := open_int Tryz.underlying3 (hval 2 3 v2 rfl rfl) t2
 obtain ⟨x3, rfl, rfl, rfl, w3⟩ := open_int Tryz.underlying3 (hval 3 3 v3 rfl rfl) t3
 obtain ⟨a, len, cap, rfl⟩ := okWide_slice Tryz.underlying36 (hval 0 36 v0 rfl rfl)
 have hw0 : (d0.weights Tryz.prog 36).all (· ≤ reachBytes) = true := weightsEach_get hz' 0 36 d0 rfl rfl
 obtain ⟨e, r, hC⟩ := globs (plainL W hL)
 obtain ⟨fuel, ht0⟩ := t0
 obtain ⟨e', h', avs, le, ex, r', ro', rl, shp⟩ := plain_opens 5 36 [.slice a len cap] e h0 plain_rows ⟨fuel, d0, p0, ht0, hw0⟩ r h0_allRo
 obtain ⟨v, l, rfl, hrows⟩ := shp_rows shp
 have hc := CheckFinds_call (kind := x1) (tok := x2) (oth := x3) (Q := fun v _ => v = .bool true) (gOf_fz h') hrows (laidH_ext ex) fun _ _ _ => rfl
 have hcalls := calls_of (args' := #[.slice a len cap, .int .u8 x1, .int .i64 x2, .int .i64 x3]) Tryz.func4 (by kernel_rfl) (by kernel_rfl) hc (hC.mono le)
  (by
   cases rl with
   | cons _ _ _ _ h1 h2 => exact .cons _ _ _ _ h1 (.cons _ _ _ _ (.int _ _) (.cons _ _ _ _ (.int _ _) (.cons _ _ _ _ (.int _ _) .nil)))) r' ro'
 refine hcalls.mono fun en W' ⟨he, hb⟩ => ?_
 subst he
 refine ⟨.bool true, rfl, ?_⟩
 have R1 : DataW.TrodAll enc Tryz.prog W' W.heap.size (fun _ => false) false [4] [.bool true] [.lit (.bool true)] [] := trodAll_mk1 (shut_bool Tryz.underlying4 true)
 have R2 : DataW.TrodAll enc Tryz.prog W' 0 (fun b => decide (b < W.heap.size)) true [36, 5, 3, 3] [.slice a len cap, .int .u8 x1, .int .i64 x2, .int .i64 x3] [d0, .lit (.int .u8 x1), .lit (.int .i64 x2), .lit (.int .i64 x3)] (p0 ++ ([] ++ ([] ++ []))) :=
  trodAll_mk4 (Below.trod laidOut0 (by kernel_rfl) (of_decide_eq_true (by kernel_rfl)) ⟨fuel, ht0⟩ hb fun x hx => hlt x (by simp [hx])) (shut_int Tryz.underlying5 w1) (shut_int Tryz.underlying3 w2) (shut_int Tryz.underlying3 w3)
 have er : Tryz.f4.resultTypes.toList = [4] := by kernel_rfl
 have ez : Tryz.f4.resultTypes.size = 1 := by kernel_rfl
 have ep : Tryz.f4.params.toList = [36, 5, 3, 3] := by rw [Tryz.params4]
 unfold ChangeSpec.post
 rw [er, ez]
 refine ⟨_, _, _, [], p0 ++ ([] ++ ([] ++ [])), [], hW', R1, ?_, rfl, kept_of_below hb _, fun h => by cases h⟩
 rw [ep]
 exact R2
end Go.AM
