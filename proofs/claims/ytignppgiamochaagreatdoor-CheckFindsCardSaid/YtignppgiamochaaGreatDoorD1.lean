/- One more node: the maker's contract. -/
import Derived.Test.YtignppgiamochaaGreatDoorM1
import Derived.Test.YtignppgiamochaaGreatDoorB1
set_option linter.unusedVariables false
set_option linter.unusedSimpArgs false
namespace Go.AM
open Go
abbrev tyDec : TypeId := 163
abbrev tyMk : TypeId := 183
abbrev ndV (x : Bdd.Nd) : AV := .agg [iV x.v, iV x.lo, iV x.hi]
def ndC (x : Bdd.Nd) : List AV := [iV x.v, iV x.lo, iV x.hi]
def kn : List Bdd.Nd → Nat → List (Bdd.Nd × Nat)
 | [], _ => []
 | x :: r, n => (x, n + 2) :: kn r (n + 1)
theorem kn_look (a : Bdd.Nd) : ∀ (ns : List Bdd.Nd) (n : Nat), mLook a (kn ns n) = Bdd.find a ns (n + 2) := by
 intro ns
 induction ns with
 | nil => intro n; rfl
 | cons x r ih =>
  intro n
  simp only [kn, mLook, Bdd.find, ih]
  by_cases e : a = x
  ·rw [if_pos e, if_pos e.symm]
  ·rw [if_neg e, if_neg fun h => e h.symm]
theorem kn_app (ns ms : List Bdd.Nd) (n : Nat) : kn (ns ++ ms) n = kn ns n ++ kn ms (n + ns.length) := by
 induction ns generalizing n with
 | nil => rfl
 | cons x r ih => simp only [List.cons_append, kn, ih, List.length_cons, Nat.add_assoc, Nat.add_comm 1]
theorem eqk_nd (x y : Bdd.Nd) : eqKey (.struct [.i, .i, .i]) (ndV x) (ndV y) = some (decide (x = y)) := by
 obtain ⟨a, b, c⟩ := x
 obtain ⟨a', b', c'⟩ := y
 simp only [eqKey, eqCells, XH, if_true, eqI, nbeq, Bdd.Nd.mk.injEq]
 by_cases h1 : a = a' <;> by_cases h2 : b = b' <;> by_cases h3 : c = c' <;> simp [h1, h2, h3]
theorem nd_len (ns : List Bdd.Nd) : (flat ndC ns).length = ns.length * 3 := flat_len fun _ _ => rfl
def mk1 (m lb mp : Nat) (ns : List Bdd.Nd) : Ent := (m, some (.cells false false tyMk 2 [grV lb ns.length, .map mp]))
def mk2 (mp : Nat) (ns : List Bdd.Nd) : Ent := (mp, some (.map (mEs ndV iV (kn ns 0) 0) (kn ns 0).length))
def mk3 (lb : Nat) (ns : List Bdd.Nd) : Ent := grE tyDec 3 lb (flat ndC ns) ns.length
variable {g0 g : G} {h0 h : Heap} {L : List Ent} {Q : MK}
end Go.AM
