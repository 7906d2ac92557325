/- awake as an oracle: in every world in which the abstract heap holds the listed variables. -/
import Derived.Test.YtignppgiamochaaGreatDoorM1
import Derived.Test.YtignppgiamochaaGreatDoorGlobs
set_option linter.unusedVariables false
set_option linter.unusedSimpArgs false
namespace Go.AM
open Go Go.Proofs Go.Proofs.YtignppgiamochaaGreatDoor
def smp : AV → Bool
 | .int _ _ => true
 | .str _ => true
 | .ifc _ (.ptr b _) => Nat.blt b 8
 | _ => false
def e8 (e : Env) : Env := fun b => if @LT.lt Nat _ b 8 then e b else none
theorem e8_some {e : Env} {b : Nat} {i : Img} (h : e8 e b = some i) : @LT.lt Nat _ b 8 ∧ e b = some i := by
 unfold e8 at h
 split at h
 ·rename_i hb; exact ⟨hb, h⟩
 ·cases h
theorem rv_smp {e : Env} {v : AV} {x : Value} (hs : smp v = true) (h : Rv e v x) : Rv (e8 e) v x := by
 cases h with
 | int k n => exact .int k n
 | str l s h => exact .str l s h
 | ifc t v v' h =>
  cases h with
  | ptr b o i h =>
   refine .ifc _ _ _ (.ptr _ _ _ ?_)
   have : @LT.lt Nat _ b 8 := by simpa [smp, Nat.blt_eq] using hs
   unfold e8
   rw [if_pos this]; exact h
  | _ => cases hs
 | _ => cases hs
theorem rl_smp {e : Env} : ∀ {l : List AV} {xs : List Value}, l.all smp = true → Rl e l xs → Rl (e8 e) l xs := by
 intro l
 induction l with
 | nil => intro xs _ h; cases h; exact .nil
 | cons v l ih =>
  intro xs hs h
  rw [List.all_cons, Bool.and_eq_true] at hs
  cases h with
  | cons _ _ _ _ h1 h2 => exact .cons _ _ _ _ (rv_smp hs.1 h1) (ih hs.2 h2)
def roB : Blk → Bool
 | .cells true false _ _ cs => cs.all smp
 | _ => false
theorem h0_ro (b : Nat) (x : Blk) (h : h0.get b = some x) : roB x = true := by
 rcases h0_get b x h with ⟨_, rfl⟩ | ⟨_, rfl⟩ | ⟨_, rfl⟩ | ⟨_, rfl⟩ | ⟨_, rfl⟩ | ⟨_, rfl⟩ | ⟨_, rfl⟩ | ⟨_, rfl⟩ <;> kernel_rfl
theorem h0_lt (b : Nat) (x : Blk) (h : h0.get b = some x) : @LT.lt Nat _ b 8 := by
 rcases h0_get b x h with ⟨rfl, _⟩ | ⟨rfl, _⟩ | ⟨rfl, _⟩ | ⟨rfl, _⟩ | ⟨rfl, _⟩ | ⟨rfl, _⟩ | ⟨rfl, _⟩ | ⟨rfl, _⟩ <;> decide
theorem roB_rw {x : Blk} (h : roB x = true) : x.rw = false := by
 unfold roB at h
 split at h
 ·rfl
 ·cases h
theorem rb_smp {e : Env} {i : Img} {x : Blk} {o : Obj} (hs : roB x = true) (h : Rb e i x o) : Rb (e8 e) i x o := by
 cases h with
 | cells ro sp el z cs arr el' fr hz hcs hfr hsp =>
  unfold roB at hs
  split at hs
  ·rename_i e1 z1 c1 heq
   cases heq
   exact .cells _ _ _ _ _ _ _ _ hz (rl_smp hs hcs) hfr hsp
  ·cases hs
 | _ => cases hs
theorem gs0_lt (g b : Nat) (h : globId gs0 g = some b) : @LT.lt Nat _ b 8 := by
 have k : (gs0.all fun p => Nat.blt p.2 8) = true := by kernel_rfl
 have : ∀ (l : List (Nat × Id)), (l.all fun p => Nat.blt p.2 8) = true → globId l g = some b → @LT.lt Nat _ b 8 := by
  intro l hl hg
  unfold globId at hg
  cases hf : l.find? (fun p => p.1 == g) with
  | none => rw [hf] at hg; cases hg
  | some p =>
   rw [hf] at hg
   cases hg
   have := List.all_eq_true.1 hl p (List.mem_of_find?_eq_some hf)
   simpa [Nat.blt_eq] using this
 exact this gs0 k h
theorem orA_ok : CallOk Tryz.prog gs0 orA := by
 intro f args h v h' hr e w args' hc ha r
 unfold orA at hr
 split at hr
 ·rename_i hx
  obtain ⟨rfl, rfl, hl⟩ := hx
  cases hr
  have ea : args' = #[] := by
   cases args' with
   | mk l => cases ha; rfl
  subst ea
  refine .inl ⟨?_, ?_⟩
  ·show (callFunc 7 #[]).run Tryz.prog w = .ok (.enter 7 #[]) w
   unfold callFunc
   rw [Xf (run_program w), Tryz.func7]
   dsimp only
   rw [name7, body7]
   rfl
  ·have r0 : RelH (e8 e) h0 w := by
    refine ⟨fun b x i hb hi => ?_, fun b b' x x' i i' hb hb' hi hi' hn hrw => ?_, fun b i hi => ?_, fun b x hb => ?_⟩
    ·obtain ⟨_, hi⟩ := e8_some hi
     obtain ⟨o, h1, h2⟩ := r.blocks b x i (hl b x hb).2 hi
     exact ⟨o, h1, rb_smp (h0_ro b x hb) h2⟩
    ·rw [roB_rw (h0_ro b x hb)] at hrw; cases hrw
    ·rw [h0_next]; exact (e8_some hi).1
    ·rw [h0_next]; exact h0_lt b x hb
   have c0 : CtxOk ⟨Tryz.prog, gs0, 0⟩ (e8 e) := ⟨fun g b hg => by
    obtain ⟨i, h1, h2, h3⟩ := hc.glob g b hg
    exact ⟨i, by unfold e8; rw [if_pos (gs0_lt g b hg)]; exact h1, h2, h3⟩⟩
   refine (awake_calls r0 c0).mono fun en w' ⟨hen, e', h', p⟩ => ⟨e, .bool true, hen, .bool true, ?_⟩
   have hrw : ∀ r, ∀ b x i, h0.get b = some x → x.rw = true → e8 e b = some i → i.blk ≠ r := fun r b x i hb hrw => by
    rw [roB_rw (h0_ro b x hb)] at hrw; cases hrw
   refine ⟨Env.le_refl e, ⟨fun b x i hb hi => ?_, r.apart, r.freshE, r.freshH⟩, Nat.le_refl _, p.os, p.tape, p.output, p.size, fun q hq _ => p.frame q hq (hrw q), fun b x i hb hx hi => .inl ⟨b, x, i, hb, hx, hi, rfl⟩, fun b x hb he => ⟨hb, he⟩, fun b i h1 h2 => by rw [h1] at h2; cases h2⟩
   obtain ⟨o, h1, h2⟩ := r.blocks b x i hb hi
   exact ⟨o, by rw [p.frame i.blk (by
    rcases Nat.lt_or_ge i.blk w.heap.size with h | h
    ·exact h
    ·rw [Array.getElem?_eq_none h] at h1; cases h1) (hrw i.blk)]; exact h1, h2⟩
 ·cases hr
end Go.AM
