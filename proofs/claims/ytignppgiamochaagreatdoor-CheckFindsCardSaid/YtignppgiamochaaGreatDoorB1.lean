/- Decision diagrams, with no program in sight. -/
set_option linter.unusedVariables false
set_option linter.unusedSimpArgs false
namespace Bdd
structure Nd where
 v : Nat
 lo : Nat
 hi : Nat
 deriving DecidableEq, Repr, Inhabited
abbrev Cfg := Nat → Bool
def ev (ns : List Nd) (c : Cfg) : Nat → Nat → Bool
 | 0, _ => false
 | n + 1, p => if p = 0 then false else if p = 1 then true else match ns[p - 2]? with
  | some x => ev ns c n (if c x.v then x.hi else x.lo)
  | none => false
def var (ns : List Nd) (p : Nat) : Nat := if p < 2 then 24 else match ns[p - 2]? with
 | some x => x.v
 | none => 24
structure Wf (ns : List Nd) : Prop where
 node : ∀ j x, ns[j]? = some x → x.lo < j + 2 ∧ x.hi < j + 2 ∧ x.lo ≠ x.hi ∧ x.v < var ns x.lo ∧ x.v < var ns x.hi ∧ x.v < 24
 once : ∀ (i j : Nat) (x : Nd), ns[i]? = some x → ns[j]? = some x → i = j
theorem ev_zero (ns : List Nd) (c : Cfg) (n : Nat) : ev ns c (n + 1) 0 = false := by simp [ev]
theorem ev_one (ns : List Nd) (c : Cfg) (n : Nat) : ev ns c (n + 1) 1 = true := by simp [ev]
theorem ev_node {ns : List Nd} {c : Cfg} {n p : Nat} {x : Nd} (hp : 2 ≤ p) (hx : ns[p - 2]? = some x) : ev ns c (n + 1) p = ev ns c n (if c x.v then x.hi else x.lo) := by
 have h0 : p ≠ 0 := by omega
 have h1 : p ≠ 1 := by omega
 simp [ev, h0, h1, hx]
theorem ev_fuel {ns : List Nd} (W : Wf ns) (c : Cfg) : ∀ (p n m : Nat), p < n → p < m → ev ns c n p = ev ns c m p := by
 intro p
 induction p using Nat.strongRecOn with
 | _ p ih =>
  intro n m hn hm
  obtain ⟨n, rfl⟩ : ∃ k, n = k + 1 := ⟨n - 1, by omega⟩
  obtain ⟨m, rfl⟩ : ∃ k, m = k + 1 := ⟨m - 1, by omega⟩
  by_cases h0 : p = 0
  ·subst h0; rw [ev_zero, ev_zero]
  by_cases h1 : p = 1
  ·subst h1; rw [ev_one, ev_one]
  cases hx : ns[p - 2]? with
  | none => simp [ev, h0, h1, hx]
  | some x =>
   rw [ev_node (by omega) hx, ev_node (by omega) hx]
   obtain ⟨l1, l2, _⟩ := W.node _ _ hx
   split
   ·exact ih _ (by omega) _ _ (by omega) (by omega)
   ·exact ih _ (by omega) _ _ (by omega) (by omega)
def sem (ns : List Nd) (p : Nat) (c : Cfg) : Bool := ev ns c (p + 1) p
theorem sem_zero (ns : List Nd) (c : Cfg) : sem ns 0 c = false := ev_zero ..
theorem sem_one (ns : List Nd) (c : Cfg) : sem ns 1 c = true := ev_one ..
theorem sem_node {ns : List Nd} (W : Wf ns) {p : Nat} {x : Nd} (hp : 2 ≤ p) (hx : ns[p - 2]? = some x) (c : Cfg) : sem ns p c = if c x.v then sem ns x.hi c else sem ns x.lo c := by
 unfold sem
 rw [ev_node hp hx]
 obtain ⟨l1, l2, _⟩ := W.node _ _ hx
 split
 ·exact ev_fuel W c _ _ _ (by omega) (by omega)
 ·exact ev_fuel W c _ _ _ (by omega) (by omega)
def Pl (ns : List Nd) (p : Nat) : Prop := p < ns.length + 2
theorem Pl.node {ns : List Nd} {p : Nat} (h : Pl ns p) (hp : 2 ≤ p) : ∃ x, ns[p - 2]? = some x := ⟨_, List.getElem?_eq_getElem (by unfold Pl at h; omega)⟩
theorem var_node {ns : List Nd} {p : Nat} {x : Nd} (hp : 2 ≤ p) (hx : ns[p - 2]? = some x) : var ns p = x.v := by
 unfold var
 rw [if_neg (by omega), hx]
theorem sem_congr {ns : List Nd} (W : Wf ns) {c d : Cfg} : ∀ (p : Nat), (∀ i, var ns p ≤ i → i < 24 → c i = d i) → sem ns p c = sem ns p d := by
 intro p
 induction p using Nat.strongRecOn with
 | _ p ih =>
  intro h
  by_cases h0 : p = 0
  ·subst h0; rw [sem_zero, sem_zero]
  by_cases h1 : p = 1
  ·subst h1; rw [sem_one, sem_one]
  cases hx : ns[p - 2]? with
  | none => unfold sem; simp [ev, h0, h1, hx]
  | some x =>
   obtain ⟨l1, l2, _, v1, v2, v3⟩ := W.node _ _ hx
   have hv := var_node (by omega) hx
   rw [sem_node W (by omega) hx, sem_node W (by omega) hx, h x.v (by omega) v3]
   split
   ·exact ih _ (by omega) fun i hi => h i (by omega)
   ·exact ih _ (by omega) fun i hi => h i (by omega)
def set (c : Cfg) (i : Nat) (b : Bool) : Cfg := fun j => if j = i then b else c j
theorem sem_set {ns : List Nd} (W : Wf ns) {p i : Nat} (h : i < var ns p) (c : Cfg) (b : Bool) : sem ns p (set c i b) = sem ns p c :=
 sem_congr W p fun j hj _ => by unfold set; rw [if_neg (by omega)]
theorem sem_inj {ns : List Nd} (W : Wf ns) : ∀ (n p q : Nat), p < n → q < n → Pl ns p → Pl ns q → (∀ c, sem ns p c = sem ns q c) → p = q := by
 intro n
 induction n with
 | zero => intro p q h; omega
 | succ n ih =>
  intro p q hpn hqn hp hq he
  have key : ∀ (p q : Nat) (x : Nd), p < n + 1 → 2 ≤ p → Pl ns p → ns[p - 2]? = some x → x.v < var ns q → (∀ c, sem ns p c = sem ns q c) → False := by
   intro p q x hpq h2 hp hx hv he
   obtain ⟨l1, l2, l3, v1, v2, v3⟩ := W.node _ _ hx
   apply l3
   refine ih _ _ (by omega) (by omega) (by unfold Pl at hp ⊢; omega) (by unfold Pl at hp ⊢; omega) fun c => ?_
   have e1 := he (set c x.v false)
   have e2 := he (set c x.v true)
   rw [sem_node W h2 hx, sem_set W hv] at e1 e2
   have s1 : set c x.v false x.v = false := by simp [set]
   have s2 : set c x.v true x.v = true := by simp [set]
   rw [s1, sem_set W v1] at e1
   rw [s2, sem_set W v2] at e2
   simp only [Bool.false_eq_true, if_false] at e1
   simp only [if_true] at e2
   rw [e1, e2]
  by_cases hp2 : p < 2
  ·by_cases hq2 : q < 2
   ·have := he fun _ => false
    have h01 : (p = 0 ∨ p = 1) ∧ (q = 0 ∨ q = 1) := by omega
    rcases h01 with ⟨rfl | rfl, rfl | rfl⟩
    ·rfl
    ·rw [sem_zero, sem_one] at this; cases this
    ·rw [sem_zero, sem_one] at this; cases this
    ·rfl
   ·exfalso
    obtain ⟨x, hx⟩ := hq.node (by omega)
    have v3 := (W.node _ _ hx).2.2.2.2.2
    exact key q p x (by omega) (by omega) hq hx (by unfold var; rw [if_pos hp2]; exact v3) fun c => (he c).symm
  ·obtain ⟨x, hx⟩ := hp.node (by omega)
   have vx := W.node _ _ hx
   by_cases hq2 : q < 2
   ·exfalso
    exact key p q x (by omega) (by omega) hp hx (by unfold var; rw [if_pos hq2]; exact vx.2.2.2.2.2) he
   ·obtain ⟨y, hy⟩ := hq.node (by omega)
    have vy := W.node _ _ hy
    rcases Nat.lt_trichotomy x.v y.v with hlt | heq | hgt
    ·exact (key p q x (by omega) (by omega) hp hx (by rw [var_node (by omega) hy]; exact hlt) he).elim
    ·have hlo : x.lo = y.lo := ih _ _ (by omega) (by omega) (by unfold Pl at hp ⊢; omega) (by unfold Pl at hq ⊢; omega) fun c => by
      have e1 := he (set c x.v false)
      rw [sem_node W (by omega) hx, sem_node W (by omega) hy] at e1
      have s1 : set c x.v false x.v = false := by simp [set]
      have s2 : set c x.v false y.v = false := by simp [set, heq]
      rw [s1, s2] at e1
      simp only [Bool.false_eq_true, if_false] at e1
      rwa [sem_set W vx.2.2.2.1, heq, sem_set W vy.2.2.2.1] at e1
     have hhi : x.hi = y.hi := ih _ _ (by omega) (by omega) (by unfold Pl at hp ⊢; omega) (by unfold Pl at hq ⊢; omega) fun c => by
      have e1 := he (set c x.v true)
      rw [sem_node W (by omega) hx, sem_node W (by omega) hy] at e1
      have s1 : set c x.v true x.v = true := by simp [set]
      have s2 : set c x.v true y.v = true := by simp [set, heq]
      rw [s1, s2] at e1
      simp only [if_true] at e1
      rwa [sem_set W vx.2.2.2.2.1, heq, sem_set W vy.2.2.2.2.1] at e1
     have hxy : x = y := by cases x; cases y; simp_all
     rw [← hxy] at hy
     have := W.once _ _ _ hx hy
     omega
    ·exact (key q p y (by omega) (by omega) hq hy (by rw [var_node (by omega) hx]; exact hgt) fun c => (he c).symm).elim
end Bdd
namespace Bdd
theorem get_append {ns ms : List Nd} {j : Nat} {x : Nd} (h : ns[j]? = some x) : (ns ++ ms)[j]? = some x := by
 rw [List.getElem?_append_left (List.getElem?_eq_some_iff.1 h).1, h]
theorem ev_append {ns ms : List Nd} (W : Wf ns) (c : Cfg) : ∀ (n p : Nat), Pl ns p → ev (ns ++ ms) c n p = ev ns c n p := by
 intro n
 induction n with
 | zero => intro p _; rfl
 | succ n ih =>
  intro p hp
  by_cases h0 : p = 0
  ·subst h0; rw [ev_zero, ev_zero]
  by_cases h1 : p = 1
  ·subst h1; rw [ev_one, ev_one]
  obtain ⟨x, hx⟩ := hp.node (by omega)
  obtain ⟨l1, l2, _⟩ := W.node _ _ hx
  rw [ev_node (by omega) hx, ev_node (by omega) (get_append hx)]
  unfold Pl at hp
  split
  ·exact ih _ (by unfold Pl; omega)
  ·exact ih _ (by unfold Pl; omega)
theorem sem_append {ns ms : List Nd} (W : Wf ns) {p : Nat} (hp : Pl ns p) (c : Cfg) : sem (ns ++ ms) p c = sem ns p c := ev_append W c _ p hp
theorem var_append {ns ms : List Nd} {p : Nat} (hp : Pl ns p) : var (ns ++ ms) p = var ns p := by
 unfold var
 by_cases h : p < 2
 ·rw [if_pos h, if_pos h]
 ·rw [if_neg h, if_neg h]
  obtain ⟨x, hx⟩ := hp.node (by omega)
  rw [hx, get_append hx]
theorem Pl.append {ns ms : List Nd} {p : Nat} (hp : Pl ns p) : Pl (ns ++ ms) p := by
 unfold Pl at *
 simp only [List.length_append]
 omega
def find (x : Nd) : List Nd → Nat → Option Nat
 | [], _ => none
 | y :: r, n => if y = x then some n else find x r (n + 1)
theorem find_some {x : Nd} : ∀ {l : List Nd} {n m : Nat}, find x l n = some m → n ≤ m ∧ l[m - n]? = some x := by
 intro l
 induction l with
 | nil => intro n m h; cases h
 | cons y r ih =>
  intro n m h
  simp only [find] at h
  split at h
  ·rename_i hy; cases h; exact ⟨Nat.le_refl _, by simp [hy]⟩
  ·obtain ⟨h1, h2⟩ := ih h
   refine ⟨by omega, ?_⟩
   rw [show m - n = (m - (n + 1)) + 1 by omega]
   simpa using h2
theorem find_none {x : Nd} : ∀ {l : List Nd} {n : Nat}, find x l n = none → ∀ j : Nat, l[j]? ≠ some x := by
 intro l
 induction l with
 | nil => intro n _ j; simp
 | cons y r ih =>
  intro n h j
  simp only [find] at h
  split at h
  ·cases h
  ·rename_i hy
   cases j with
   | zero => simpa using hy
   | succ j => simpa using ih h j
def node (ns : List Nd) (i lo hi : Nat) : List Nd × Nat :=
 if lo = hi then (ns, lo) else match find ⟨i, lo, hi⟩ ns 2 with
  | some p => (ns, p)
  | none => (ns ++ [⟨i, lo, hi⟩], ns.length + 2)
theorem node_spec {ns : List Nd} (W : Wf ns) {i lo hi : Nat} (hi24 : i < 24) (hlo : Pl ns lo) (hhi : Pl ns hi) (v1 : i < var ns lo) (v2 : i < var ns hi) :
  ∃ ms, (node ns i lo hi).1 = ns ++ ms ∧ Wf (node ns i lo hi).1 ∧ Pl (node ns i lo hi).1 (node ns i lo hi).2 ∧ i ≤ var (node ns i lo hi).1 (node ns i lo hi).2 ∧
   ∀ c, sem (node ns i lo hi).1 (node ns i lo hi).2 c = if c i then sem ns hi c else sem ns lo c := by
 unfold node
 by_cases h : lo = hi
 ·rw [if_pos h]
  exact ⟨[], by simp, W, hlo, by dsimp only; omega, fun c => by dsimp only; rw [h]; split <;> rfl⟩
 ·rw [if_neg h]
  cases hf : find ⟨i, lo, hi⟩ ns 2 with
  | some p =>
   obtain ⟨h1, h2⟩ := find_some hf
   have hp : Pl ns p := by
    have := (List.getElem?_eq_some_iff.1 h2).1
    unfold Pl; omega
   exact ⟨[], by simp, W, hp, by dsimp only; rw [var_node h1 h2]; exact Nat.le_refl _, fun c => sem_node W h1 h2 c⟩
  | none =>
   dsimp only
   have hnew : (ns ++ [⟨i, lo, hi⟩])[ns.length]? = some ⟨i, lo, hi⟩ := by simp
   have W' : Wf (ns ++ [⟨i, lo, hi⟩]) := by
    refine ⟨fun j x hx => ?_, fun a b x ha hb => ?_⟩
    ·by_cases hj : j < ns.length
     ·rw [List.getElem?_append_left hj] at hx
      obtain ⟨l1, l2, l3, l4, l5, l6⟩ := W.node _ _ hx
      exact ⟨l1, l2, l3, by rw [var_append (by unfold Pl; omega)]; exact l4, by rw [var_append (by unfold Pl; omega)]; exact l5, l6⟩
     ·have hjl : j = ns.length := by
       have := (List.getElem?_eq_some_iff.1 hx).1
       simp at this; omega
      subst hjl
      rw [hnew] at hx
      cases hx
      unfold Pl at hlo hhi
      exact ⟨hlo, hhi, h, by rw [var_append hlo]; exact v1, by rw [var_append hhi]; exact v2, hi24⟩
    ·have hlt : ∀ {a : Nat} {x : Nd}, (ns ++ [⟨i, lo, hi⟩])[a]? = some x → (a < ns.length ∧ ns[a]? = some x) ∨ (a = ns.length ∧ x = ⟨i, lo, hi⟩) := by
      intro a x ha
      by_cases hj : a < ns.length
      ·rw [List.getElem?_append_left hj] at ha; exact .inl ⟨hj, ha⟩
      ·have hjl : a = ns.length := by
        have := (List.getElem?_eq_some_iff.1 ha).1
        simp at this; omega
       subst hjl
       rw [hnew] at ha
       cases ha
       exact .inr ⟨rfl, rfl⟩
     rcases hlt ha with ⟨h1, h2⟩ | ⟨h1, h2⟩ <;> rcases hlt hb with ⟨h3, h4⟩ | ⟨h3, h4⟩
     ·exact W.once _ _ _ h2 h4
     ·exact absurd (h4 ▸ h2) (find_none hf a)
     ·exact absurd (h2 ▸ h4) (find_none hf b)
     ·omega
   have hnew2 : (ns ++ [⟨i, lo, hi⟩])[ns.length + 2 - 2]? = some ⟨i, lo, hi⟩ := hnew
   refine ⟨[⟨i, lo, hi⟩], rfl, W', by unfold Pl; simp, by rw [var_node (by omega) hnew2]; exact Nat.le_refl _, fun c => ?_⟩
   rw [sem_node W' (by omega) hnew2]
   dsimp only
   rw [sem_append W hlo, sem_append W hhi]
end Bdd
namespace Bdd
structure St where
 out : List Nd
 pl : Nat → Option Nat
def St.set (s : St) (p : Nat) (x : Nd) : St := ⟨s.out ++ [x], fun q => if q = p then some (s.out.length + 2) else s.pl q⟩
def visit (ns : List Nd) : Nat → Nat → St → Nat × St
 | 0, _, s => (0, s)
 | n + 1, p, s => match s.pl p with
  | some q => (q, s)
  | none => match ns[p - 2]? with
   | none => (0, s)
   | some x =>
    let a := visit ns n x.lo s
    let b := visit ns n x.hi a.2
    (b.2.out.length + 2, b.2.set p ⟨x.v, a.1, b.1⟩)
def st0 : St := ⟨[], fun p => if p = 0 then some 0 else if p = 1 then some 1 else none⟩
structure Inv (ns : List Nd) (s : St) : Prop where
 wf : Wf s.out
 zero : s.pl 0 = some 0
 one : s.pl 1 = some 1
 img : ∀ p q, s.pl p = some q → Pl ns p ∧ Pl s.out q ∧ (∀ c, sem s.out q c = sem ns p c) ∧ var s.out q = var ns p
 all : ∀ j, j < s.out.length → ∃ p, s.pl p = some (j + 2)
theorem inv0 (ns : List Nd) : Inv ns st0 where
 wf := ⟨fun j x h => by simp [st0] at h, fun i j x h => by simp [st0] at h⟩
 zero := rfl
 one := rfl
 img p q h := by
  unfold st0 at h
  dsimp only at h
  split at h
  ·rename_i hp; cases h; subst hp; exact ⟨by unfold Pl; omega, by unfold Pl; omega, fun c => by rw [sem_zero, sem_zero], rfl⟩
  ·split at h
   ·rename_i hp; cases h; subst hp; exact ⟨by unfold Pl; omega, by unfold Pl; omega, fun c => by rw [sem_one, sem_one], rfl⟩
   ·cases h
 all j h := by simp [st0] at h
def Le (s t : St) : Prop := (∃ ms, t.out = s.out ++ ms) ∧ ∀ p q, s.pl p = some q → t.pl p = some q
theorem Le.refl (s : St) : Le s s := ⟨⟨[], by simp⟩, fun _ _ h => h⟩
theorem Le.trans {s t u : St} (a : Le s t) (b : Le t u) : Le s u := by
 obtain ⟨⟨m, hm⟩, h1⟩ := a
 obtain ⟨⟨n, hn⟩, h2⟩ := b
 exact ⟨⟨m ++ n, by rw [hn, hm, List.append_assoc]⟩, fun p q h => h2 p q (h1 p q h)⟩
theorem wf_snoc {ns : List Nd} (W : Wf ns) {y : Nd} (hlo : Pl ns y.lo) (hhi : Pl ns y.hi) (hne : y.lo ≠ y.hi) (v1 : y.v < var ns y.lo) (v2 : y.v < var ns y.hi) (h24 : y.v < 24) (hf : ∀ j : Nat, ns[j]? ≠ some y) : Wf (ns ++ [y]) := by
 have hlt : ∀ {a : Nat} {x : Nd}, (ns ++ [y])[a]? = some x → (a < ns.length ∧ ns[a]? = some x) ∨ (a = ns.length ∧ x = y) := by
  intro a x ha
  by_cases hj : a < ns.length
  ·rw [List.getElem?_append_left hj] at ha; exact .inl ⟨hj, ha⟩
  ·have hjl : a = ns.length := by
    have := (List.getElem?_eq_some_iff.1 ha).1
    simp at this; omega
   subst hjl
   refine .inr ⟨rfl, ?_⟩
   simpa using ha.symm
 refine ⟨fun j x hx => ?_, fun a b x ha hb => ?_⟩
 ·rcases hlt hx with ⟨hj, hx⟩ | ⟨rfl, rfl⟩
  ·obtain ⟨l1, l2, l3, l4, l5, l6⟩ := W.node _ _ hx
   exact ⟨l1, l2, l3, by rw [var_append (by unfold Pl; omega)]; exact l4, by rw [var_append (by unfold Pl; omega)]; exact l5, l6⟩
  ·refine ⟨?_, ?_, hne, by rw [var_append hlo]; exact v1, by rw [var_append hhi]; exact v2, h24⟩
   ·unfold Pl at hlo; omega
   ·unfold Pl at hhi; omega
 ·rcases hlt ha with ⟨h1, h2⟩ | ⟨h1, h2⟩ <;> rcases hlt hb with ⟨h3, h4⟩ | ⟨h3, h4⟩
  ·exact W.once _ _ _ h2 h4
  ·exact absurd (h4 ▸ h2) (hf a)
  ·exact absurd (h2 ▸ h4) (hf b)
  ·omega
theorem visit_spec {ns : List Nd} (W : Wf ns) : ∀ (n p : Nat) (s : St), p < n → Pl ns p → Inv ns s →
  Inv ns (visit ns n p s).2 ∧ Le s (visit ns n p s).2 ∧ (visit ns n p s).2.pl p = some (visit ns n p s).1 ∧ ∀ r, p < r → (visit ns n p s).2.pl r = s.pl r := by
 intro n
 induction n with
 | zero => intro p s h; omega
 | succ n ih =>
  intro p s hpn hp I
  unfold visit
  cases hq : s.pl p with
  | some q => exact ⟨I, Le.refl s, hq, fun _ _ => rfl⟩
  | none =>
   have h2 : 2 ≤ p := by
    rcases Nat.lt_or_ge p 2 with h | h
    ·exfalso
     have : p = 0 ∨ p = 1 := by omega
     rcases this with rfl | rfl
     ·rw [I.zero] at hq; cases hq
     ·rw [I.one] at hq; cases hq
    ·exact h
   obtain ⟨x, hx⟩ := hp.node h2
   obtain ⟨l1, l2, l3, v1, v2, v3⟩ := W.node _ _ hx
   have hpl : Pl ns p := hp
   unfold Pl at hp
   rw [hx]
   dsimp only
   obtain ⟨I1, L1, P1, K1⟩ := ih x.lo s (by omega) (by unfold Pl; omega) I
   obtain ⟨I2, L2, P2, K2⟩ := ih x.hi (visit ns n x.lo s).2 (by omega) (by unfold Pl; omega) I1
   generalize visit ns n x.lo s = a at *
   generalize visit ns n x.hi a.2 = b at *
   have P1' := L2.2 _ _ P1
   obtain ⟨_, a1, a2, a3⟩ := I2.img _ _ P1'
   obtain ⟨_, b1, b2, b3⟩ := I2.img _ _ P2
   have hnone : b.2.pl p = none := by rw [K2 p (by omega), K1 p (by omega), hq]
   have hne : a.1 ≠ b.1 := fun e => by
    apply l3
    refine sem_inj W _ _ _ (Nat.lt_succ_of_lt l1) (Nat.lt_succ_of_lt l2) (by unfold Pl; omega) (by unfold Pl; omega) fun c => ?_
    rw [← a2, ← b2, e]
   have hsem : ∀ c, sem ns p c = if c x.v then sem b.2.out b.1 c else sem b.2.out a.1 c := fun c => by
    rw [sem_node W h2 hx, a2, b2]
   have hva : x.v < var b.2.out a.1 := by rw [a3]; exact v1
   have hvb : x.v < var b.2.out b.1 := by rw [b3]; exact v2
   have hnew : ∀ j : Nat, b.2.out[j]? ≠ some ⟨x.v, a.1, b.1⟩ := fun j hj => by
    have hjl := (List.getElem?_eq_some_iff.1 hj).1
    obtain ⟨p', hp'⟩ := I2.all j hjl
    obtain ⟨c0, c1, c2, c3⟩ := I2.img _ _ hp'
    have hpp : p = p' := by
     refine sem_inj W (p + p' + 1) _ _ (by omega) (by omega) hpl c0 fun c => ?_
     rw [← c2, hsem, sem_node I2.wf (p := j + 2) (by omega) (by simpa using hj)]
    rw [hpp, hp'] at hnone
    cases hnone
   have W' : Wf (b.2.out ++ [⟨x.v, a.1, b.1⟩]) := wf_snoc I2.wf a1 b1 hne hva hvb v3 hnew
   have hget : (b.2.out ++ [(⟨x.v, a.1, b.1⟩ : Nd)])[b.2.out.length + 2 - 2]? = some ⟨x.v, a.1, b.1⟩ := by simp
   have LS : Le b.2 (b.2.set p ⟨x.v, a.1, b.1⟩) := ⟨⟨[⟨x.v, a.1, b.1⟩], rfl⟩, fun r q hr => by
    unfold St.set
    dsimp only
    rw [if_neg (fun e => by rw [e, hnone] at hr; cases hr)]
    exact hr⟩
   refine ⟨⟨W', LS.2 _ _ I2.zero, LS.2 _ _ I2.one, fun r q hr => ?_, fun j hj => ?_⟩, (L1.trans L2).trans LS, by simp [St.set], fun r hr => ?_⟩
   ·unfold St.set at hr ⊢
    dsimp only at hr ⊢
    split at hr
    ·rename_i hrp
     subst hrp
     cases hr
     refine ⟨hpl, by unfold Pl; simp, fun c => ?_, ?_⟩
     ·rw [sem_node W' (by omega) hget]
      dsimp only
      rw [sem_append I2.wf a1, sem_append I2.wf b1, hsem]
     ·rw [var_node (by omega) hget, var_node h2 hx]
    ·obtain ⟨c0, c1, c2, c3⟩ := I2.img _ _ hr
     exact ⟨c0, c1.append, fun c => by rw [sem_append I2.wf c1, c2], by rw [var_append c1, c3]⟩
   ·unfold St.set at hj ⊢
    dsimp only at hj ⊢
    by_cases hjl : j < b.2.out.length
    ·obtain ⟨p', hp'⟩ := I2.all j hjl
     exact ⟨p', LS.2 _ _ hp'⟩
    ·simp at hj
     refine ⟨p, ?_⟩
     rw [if_pos rfl]
     congr 1
     omega
   ·unfold St.set
    dsimp only
    rw [if_neg (by omega), K2 r (by omega), K1 r (by omega)]
end Bdd
namespace Bdd
theorem var_le_of_sem {ns ms : List Nd} (W : Wf ns) (V : Wf ms) {p q : Nat} (hp : Pl ns p) (hq : Pl ms q) (he : ∀ c, sem ns p c = sem ms q c) : var ms q ≤ var ns p := by
 refine Nat.le_of_not_lt fun hlt => ?_
 by_cases hp2 : p < 2
 ·have h24 : var ns p = 24 := by unfold var; rw [if_pos hp2]
  have : var ms q ≤ 24 := by
   by_cases hq2 : q < 2
   ·unfold var; rw [if_pos hq2]; omega
   ·obtain ⟨y, hy⟩ := hq.node (by omega)
    rw [var_node (by omega) hy]
    have := (V.node _ _ hy).2.2.2.2.2
    omega
  omega
 ·obtain ⟨x, hx⟩ := hp.node (by omega)
  obtain ⟨l1, l2, l3, v1, v2, v3⟩ := W.node _ _ hx
  rw [var_node (by omega) hx] at hlt
  apply l3
  unfold Pl at hp
  refine sem_inj W p _ _ (by omega) (by omega) (by unfold Pl; omega) (by unfold Pl; omega) fun c => ?_
  have e1 := he (set c x.v false)
  have e2 := he (set c x.v true)
  rw [sem_node W (by omega) hx, sem_set V hlt] at e1 e2
  have s1 : set c x.v false x.v = false := by simp [set]
  have s2 : set c x.v true x.v = true := by simp [set]
  rw [s1, sem_set W v1] at e1
  rw [s2, sem_set W v2] at e2
  simp only [Bool.false_eq_true, if_false] at e1
  simp only [if_true] at e2
  rw [e1, e2]
theorem var_of_sem {ns ms : List Nd} (W : Wf ns) (V : Wf ms) {p q : Nat} (hp : Pl ns p) (hq : Pl ms q) (he : ∀ c, sem ns p c = sem ms q c) : var ns p = var ms q :=
 Nat.le_antisymm (var_le_of_sem V W hq hp fun c => (he c).symm) (var_le_of_sem W V hp hq he)
theorem kids_of_sem {ns ms : List Nd} (W : Wf ns) (V : Wf ms) {p q : Nat} {x y : Nd} (hp : 2 ≤ p) (hq : 2 ≤ q) (hx : ns[p - 2]? = some x) (hy : ms[q - 2]? = some y) (he : ∀ c, sem ns p c = sem ms q c) (hv : x.v = y.v) :
  (∀ c, sem ns x.lo c = sem ms y.lo c) ∧ ∀ c, sem ns x.hi c = sem ms y.hi c := by
 obtain ⟨l1, l2, l3, v1, v2, v3⟩ := W.node _ _ hx
 obtain ⟨k1, k2, k3, w1, w2, w3⟩ := V.node _ _ hy
 constructor
 ·intro c
  have e1 := he (set c x.v false)
  rw [sem_node W hp hx, sem_node V hq hy] at e1
  have s1 : set c x.v false x.v = false := by simp [set]
  have s2 : set c x.v false y.v = false := by simp [set, hv]
  rw [s1, s2] at e1
  simp only [Bool.false_eq_true, if_false] at e1
  rwa [sem_set W v1, hv, sem_set V w1] at e1
 ·intro c
  have e1 := he (set c x.v true)
  rw [sem_node W hp hx, sem_node V hq hy] at e1
  have s1 : set c x.v true x.v = true := by simp [set]
  have s2 : set c x.v true y.v = true := by simp [set, hv]
  rw [s1, s2] at e1
  simp only [if_true] at e1
  rwa [sem_set W v2, hv, sem_set V w2] at e1
structure Rl (ns ms : List Nd) (s t : St) : Prop where
 out : s.out = t.out
 pl : ∀ p q, Pl ns p → Pl ms q → (∀ c, sem ns p c = sem ms q c) → s.pl p = t.pl q
theorem visit_same {ns ms : List Nd} (W : Wf ns) (V : Wf ms) : ∀ (n m p q : Nat) (s t : St), p < n → q < m → Pl ns p → Pl ms q → (∀ c, sem ns p c = sem ms q c) → Inv ns s → Inv ms t → Rl ns ms s t →
  (visit ns n p s).1 = (visit ms m q t).1 ∧ Rl ns ms (visit ns n p s).2 (visit ms m q t).2 := by
 intro n
 induction n with
 | zero => intro m p q s t h; omega
 | succ n ih =>
  intro m p q s t hpn hqm hp hq he I J R
  obtain ⟨m, rfl⟩ : ∃ k, m = k + 1 := ⟨m - 1, by omega⟩
  have hpq := R.pl p q hp hq he
  unfold visit
  cases hs : s.pl p with
  | some r =>
   rw [← hpq, hs]
   exact ⟨rfl, R⟩
  | none =>
   rw [← hpq, hs]
   have two : ∀ {ns : List Nd} {s : St} {p : Nat}, Inv ns s → s.pl p = none → 2 ≤ p := fun {ns s p} I h => by
    rcases Nat.lt_or_ge p 2 with h' | h'
    ·exfalso
     have : p = 0 ∨ p = 1 := by omega
     rcases this with rfl | rfl
     ·rw [I.zero] at h; cases h
     ·rw [I.one] at h; cases h
    ·exact h'
   have hp2 := two I hs
   have hq2 := two J (hpq ▸ hs)
   obtain ⟨x, hx⟩ := hp.node hp2
   obtain ⟨y, hy⟩ := hq.node hq2
   obtain ⟨l1, l2, _⟩ := W.node _ _ hx
   obtain ⟨k1, k2, _⟩ := V.node _ _ hy
   have hv : x.v = y.v := by
    have := var_of_sem W V hp hq he
    rwa [var_node hp2 hx, var_node hq2 hy] at this
   obtain ⟨elo, ehi⟩ := kids_of_sem W V hp2 hq2 hx hy he hv
   rw [hx, hy]
   dsimp only
   have hp' := hp
   have hq' := hq
   unfold Pl at hp' hq'
   have pxl : Pl ns x.lo := by unfold Pl; omega
   have pxh : Pl ns x.hi := by unfold Pl; omega
   have pyl : Pl ms y.lo := by unfold Pl; omega
   have pyh : Pl ms y.hi := by unfold Pl; omega
   obtain ⟨e1, R1⟩ := ih m x.lo y.lo s t (by omega) (by omega) pxl pyl elo I J R
   obtain ⟨I1, -, -, -⟩ := visit_spec W n x.lo s (by omega) pxl I
   obtain ⟨J1, -, -, -⟩ := visit_spec V m y.lo t (by omega) pyl J
   obtain ⟨e2, R2⟩ := ih m x.hi y.hi _ _ (by omega) (by omega) pxh pyh ehi I1 J1 R1
   generalize visit ns n x.lo s = a at *
   generalize visit ns n x.hi a.2 = b at *
   generalize visit ms m y.lo t = a' at *
   generalize visit ms m y.hi a'.2 = b' at *
   refine ⟨by rw [R2.out], ?_, fun r u hr hu hru => ?_⟩
   ·unfold St.set
    dsimp only
    rw [R2.out, hv, e1, e2]
   ·unfold St.set
    dsimp only
    by_cases h1 : r = p
    ·have h2 : u = q := sem_inj V (u + q + 1) _ _ (by omega) (by omega) hu hq fun c => by rw [← hru, ← he, h1]
     rw [if_pos h1, if_pos h2, R2.out]
    ·have h2 : u ≠ q := fun e => h1 (sem_inj W (r + p + 1) _ _ (by omega) (by omega) hr hp fun c => by rw [hru, he, e])
     rw [if_neg h1, if_neg h2]
     exact R2.pl r u hr hu hru
theorem rl0 {ns ms : List Nd} (W : Wf ns) (V : Wf ms) : Rl ns ms st0 st0 := by
 refine ⟨rfl, fun p q hp hq he => ?_⟩
 have hx : ∀ k, k < 2 → (p = k ↔ q = k) := fun k hk => by
  have h0 : ∀ (ns : List Nd), Pl ns k := fun ns => by unfold Pl; omega
  have hk2 : ∀ c, sem ns k c = sem ms k c := fun c => by
   have : k = 0 ∨ k = 1 := by omega
   rcases this with rfl | rfl
   ·rw [sem_zero, sem_zero]
   ·rw [sem_one, sem_one]
  constructor
  ·intro e
   exact sem_inj V (q + k + 1) _ _ (by omega) (by omega) hq (h0 _) fun c => by rw [← he, e, hk2]
  ·intro e
   exact sem_inj W (p + k + 1) _ _ (by omega) (by omega) hp (h0 _) fun c => by rw [he, e, hk2]
 unfold st0
 dsimp only
 simp only [hx 0 (by omega), hx 1 (by omega)]
def canon (ns : List Nd) (p : Nat) : List Nd × Nat := ((visit ns (p + 1) p st0).2.out, (visit ns (p + 1) p st0).1)
theorem canon_same {ns ms : List Nd} (W : Wf ns) (V : Wf ms) {p q : Nat} (hp : Pl ns p) (hq : Pl ms q) (he : ∀ c, sem ns p c = sem ms q c) : canon ns p = canon ms q := by
 obtain ⟨h1, h2⟩ := visit_same W V (p + 1) (q + 1) p q st0 st0 (by omega) (by omega) hp hq he (inv0 ns) (inv0 ms) (rl0 W V)
 unfold canon
 rw [h1, h2.out]
theorem canon_sem {ns : List Nd} (W : Wf ns) {p : Nat} (hp : Pl ns p) : Wf (canon ns p).1 ∧ Pl (canon ns p).1 (canon ns p).2 ∧ ∀ c, sem (canon ns p).1 (canon ns p).2 c = sem ns p c := by
 obtain ⟨I, -, P, -⟩ := visit_spec W (p + 1) p st0 (by omega) hp (inv0 ns)
 obtain ⟨_, h1, h2, _⟩ := I.img _ _ P
 exact ⟨I.wf, h1, h2⟩
end Bdd
namespace Bdd
theorem sem_two {ns : List Nd} {r : Nat} (h : r < 2) (c : Cfg) : sem ns r c = decide (r = 1) := by
 have : r = 0 ∨ r = 1 := by omega
 rcases this with rfl | rfl
 ·rw [sem_zero]; rfl
 ·rw [sem_one]; rfl
theorem var_two {ns : List Nd} {r : Nat} (h : r < 2) : var ns r = 24 := by unfold var; rw [if_pos h]
theorem var_le {ns : List Nd} (W : Wf ns) (p : Nat) : var ns p ≤ 24 := by
 unfold var
 split
 ·exact Nat.le_refl _
 ·split
  ·rename_i x hx; exact Nat.le_of_lt (W.node _ _ hx).2.2.2.2.2
  ·exact Nat.le_refl _
theorem Pl.two {ns : List Nd} {r : Nat} (h : r < 2) : Pl ns r := by unfold Pl; omega
def at' (ns : List Nd) (p : Nat) : Nd := if p < 2 then ⟨24, p, p⟩ else (ns[p - 2]?).getD ⟨24, p, p⟩
theorem at_spec {ns : List Nd} (W : Wf ns) {p : Nat} (hp : Pl ns p) : (at' ns p).v = var ns p ∧ Pl ns (at' ns p).lo ∧ Pl ns (at' ns p).hi ∧
  (∀ c, sem ns p c = if c (at' ns p).v then sem ns (at' ns p).hi c else sem ns (at' ns p).lo c) ∧
  ((at' ns p).v < 24 → (at' ns p).lo < p ∧ (at' ns p).hi < p ∧ (at' ns p).v < var ns (at' ns p).lo ∧ (at' ns p).v < var ns (at' ns p).hi) := by
 by_cases h : p < 2
 ·have e : at' ns p = ⟨24, p, p⟩ := by unfold at'; rw [if_pos h]
  rw [e]
  exact ⟨(var_two h).symm, hp, hp, fun c => by split <;> rfl, fun h => absurd h (Nat.lt_irrefl 24)⟩
 ·obtain ⟨x, hx⟩ := hp.node (by omega)
  have e : at' ns p = x := by unfold at'; rw [if_neg h, hx]; rfl
  rw [e]
  obtain ⟨l1, l2, l3, v1, v2, v3⟩ := W.node _ _ hx
  unfold Pl at hp
  exact ⟨(var_node (by omega) hx).symm, by unfold Pl; omega, by unfold Pl; omega, fun c => sem_node W (by omega) hx c, fun _ => ⟨by omega, by omega, v1, v2⟩⟩
structure JSt where
 ns : List Nd
 seen : Nat → Nat → Option Nat
variable (A B : List Nd) (op : Nat → Nat → Option Nat)
def join : Nat → Nat → Nat → JSt → Nat × JSt
 | 0, _, _, s => (0, s)
 | n + 1, x, y, s => match op x y with
  | some r => (r, s)
  | none => match s.seen x y with
   | some r => (r, s)
   | none =>
    let i := min (at' A x).v (at' B y).v
    let a := join n (if (at' A x).v = i then (at' A x).lo else x) (if (at' B y).v = i then (at' B y).lo else y) s
    let b := join n (if (at' A x).v = i then (at' A x).hi else x) (if (at' B y).v = i then (at' B y).hi else y) a.2
    let k := node b.2.ns i a.1 b.1
    (k.2, ⟨k.1, fun u v => if u = x ∧ v = y then some k.2 else b.2.seen u v⟩)
structure OpOk (f : Bool → Bool → Bool) : Prop where
 some : ∀ x y r, Pl A x → Pl B y → op x y = .some r → r < 2 ∧ ∀ c, decide (r = 1) = f (sem A x c) (sem B y c)
 none : ∀ x y, op x y = .none → ¬ (x < 2 ∧ y < 2)
structure Is (f : Bool → Bool → Bool) (ns : List Nd) (x y r : Nat) : Prop where
 pl : Pl ns r
 var : min (var A x) (var B y) ≤ var ns r
 sem : ∀ c, sem ns r c = f (sem A x c) (sem B y c)
theorem Is.append {A B : List Nd} {f : Bool → Bool → Bool} {ns ms : List Nd} (W : Wf ns) {x y r : Nat} (h : Is A B f ns x y r) : Is A B f (ns ++ ms) x y r :=
 ⟨h.pl.append, by rw [var_append h.pl]; exact h.var, fun c => by rw [sem_append W h.pl]; exact h.sem c⟩
structure JInv (f : Bool → Bool → Bool) (s : JSt) : Prop where
 wf : Wf s.ns
 seen : ∀ x y r, s.seen x y = some r → Is A B f s.ns x y r
theorem join_spec {A B : List Nd} {op : Nat → Nat → Option Nat} {f : Bool → Bool → Bool} (WA : Wf A) (WB : Wf B) (O : OpOk A B op f) : ∀ (n x y : Nat) (s : JSt), x + y < n → Pl A x → Pl B y → JInv A B f s →
  JInv A B f (join A B op n x y s).2 ∧ (∃ ms, (join A B op n x y s).2.ns = s.ns ++ ms) ∧ Is A B f (join A B op n x y s).2.ns x y (join A B op n x y s).1 := by
 intro n
 induction n with
 | zero => intro x y s h; omega
 | succ n ih =>
  intro x y s hn hx hy I
  unfold join
  cases ho : op x y with
  | some r =>
   obtain ⟨h1, h2⟩ := O.some _ _ _ hx hy ho
   refine ⟨I, ⟨[], by simp⟩, .two h1, ?_, fun c => by rw [sem_two h1, h2]⟩
   have := var_le WA x
   dsimp only
   rw [var_two h1]
   omega
  | none =>
   cases hs : s.seen x y with
   | some r => exact ⟨I, ⟨[], by simp⟩, I.seen _ _ _ hs⟩
   | none =>
    have hne := O.none _ _ ho
    obtain ⟨a1, a2, a3, a4, a5⟩ := at_spec WA hx
    obtain ⟨b1, b2, b3, b4, b5⟩ := at_spec WB hy
    have va : var A x < 24 ∨ var B y < 24 := by
     rcases Nat.lt_or_ge x 2 with h | h
     ·have hy2 : 2 ≤ y := by omega
      obtain ⟨z, hz⟩ := hy.node hy2
      exact .inr (by rw [var_node hy2 hz]; exact (WB.node _ _ hz).2.2.2.2.2)
     ·obtain ⟨z, hz⟩ := hx.node h
      exact .inl (by rw [var_node h hz]; exact (WA.node _ _ hz).2.2.2.2.2)
    dsimp only
    have hi : min (at' A x).v (at' B y).v = min (var A x) (var B y) := by rw [a1, b1]
    generalize at' A x = S at *
    generalize at' B y = T at *
    generalize hI : min S.v T.v = i at *
    have hi24 : i < 24 := by omega
    have side : ∀ (o : Bool), ∃ x' y', x' = (if S.v = i then (if o then S.hi else S.lo) else x) ∧ y' = (if T.v = i then (if o then T.hi else T.lo) else y) ∧
      Pl A x' ∧ Pl B y' ∧ x' + y' < x + y ∧ i < var A x' ∧ i < var B y' ∧ ∀ c, c i = o → sem A x c = sem A x' c ∧ sem B y c = sem B y' c := by
     intro o
     refine ⟨_, _, rfl, rfl, ?_, ?_, ?_, ?_, ?_, fun c hc => ⟨?_, ?_⟩⟩
     ·cases o <;> by_cases h : S.v = i <;> simp [h] <;> assumption
     ·cases o <;> by_cases h : T.v = i <;> simp [h] <;> assumption
     ·cases o <;> by_cases h : S.v = i <;> by_cases h' : T.v = i <;> simp [h, h'] <;> omega
     ·cases o <;> by_cases h : S.v = i <;> simp [h] <;> omega
     ·cases o <;> by_cases h : T.v = i <;> simp [h] <;> omega
     ·by_cases h : S.v = i
      ·rw [if_pos h, a4, h, hc]
       cases o <;> simp
      ·rw [if_neg h]
     ·by_cases h : T.v = i
      ·rw [if_pos h, b4, h, hc]
       cases o <;> simp
      ·rw [if_neg h]
    obtain ⟨x0, y0, e1, e2, p1, p2, p3, p4, p5, p6⟩ := side false
    obtain ⟨x1, y1, g1, g2, q1, q2, q3, q4, q5, q6⟩ := side true
    simp only [Bool.false_eq_true, if_false] at e1 e2
    simp only [if_true] at g1 g2
    rw [← e1, ← e2, ← g1, ← g2]
    obtain ⟨I1, ⟨m1, M1⟩, R1⟩ := ih x0 y0 s (by omega) p1 p2 I
    obtain ⟨I2, ⟨m2, M2⟩, R2⟩ := ih x1 y1 (join A B op n x0 y0 s).2 (by omega) q1 q2 I1
    generalize join A B op n x0 y0 s = a at *
    generalize join A B op n x1 y1 a.2 = b at *
    have R1' : Is A B f b.2.ns x0 y0 a.1 := by rw [M2]; exact R1.append I1.wf
    obtain ⟨m3, M3, W3, P3, V3, S3⟩ := node_spec I2.wf (i := i) hi24 R1'.pl R2.pl (by have := R1'.var; omega) (by have := R2.var; omega)
    have R3 : Is A B f (node b.2.ns i a.1 b.1).1 x y (node b.2.ns i a.1 b.1).2 := by
     refine ⟨P3, by rw [← hi]; exact V3, fun c => ?_⟩
     rw [S3]
     cases hc : c i with
     | true =>
      obtain ⟨u1, u2⟩ := q6 c hc
      simp only [if_true]
      rw [R2.sem, u1, u2]
     | false =>
      obtain ⟨u1, u2⟩ := p6 c hc
      simp only [Bool.false_eq_true, if_false]
      rw [R1'.sem, u1, u2]
    refine ⟨⟨W3, fun u v r hr => ?_⟩, ⟨m1 ++ m2 ++ m3, by rw [M3, M2, M1]; simp⟩, R3⟩
    dsimp only at hr ⊢
    split at hr
    ·rename_i h
     cases hr
     rw [h.1, h.2]
     exact R3
    ·rw [M3]
     exact (I2.seen _ _ _ hr).append I2.wf
end Bdd
namespace Bdd
structure Dg (d : List Nd × Nat) (S : Cfg → Bool) : Prop where
 wf : Wf d.1
 pl : Pl d.1 d.2
 sem : ∀ c, sem d.1 d.2 c = S c
 can : canon d.1 d.2 = d
theorem Dg.uniq {d e : List Nd × Nat} {S T : Cfg → Bool} (a : Dg d S) (b : Dg e T) : d = e ↔ ∀ c, S c = T c := by
 constructor
 ·intro h c
  rw [← a.sem, ← b.sem, h]
 ·intro h
  rw [← a.can, ← b.can]
  exact canon_same a.wf b.wf a.pl b.pl fun c => by rw [a.sem, b.sem, h]
theorem dg_canon {ns : List Nd} (W : Wf ns) {p : Nat} (hp : Pl ns p) {S : Cfg → Bool} (h : ∀ c, sem ns p c = S c) : Dg (canon ns p) S := by
 obtain ⟨h1, h2, h3⟩ := canon_sem W hp
 exact ⟨h1, h2, fun c => by rw [h3, h], canon_same h1 W h2 hp h3⟩
def withD (d e : List Nd × Nat) (op : Nat → Nat → Option Nat) : List Nd × Nat :=
 let r := join d.1 e.1 op (d.2 + e.2 + 1) d.2 e.2 ⟨[], fun _ _ => none⟩
 canon r.2.ns r.1
theorem dg_with {d e : List Nd × Nat} {S T : Cfg → Bool} {op : Nat → Nat → Option Nat} {f : Bool → Bool → Bool} (a : Dg d S) (b : Dg e T) (O : OpOk d.1 e.1 op f) : Dg (withD d e op) fun c => f (S c) (T c) := by
 obtain ⟨h1, -, h3⟩ := join_spec a.wf b.wf O (d.2 + e.2 + 1) d.2 e.2 ⟨[], fun _ _ => none⟩ (by omega) a.pl b.pl
  ⟨⟨fun j x h => by simp at h, fun i j x h => by simp at h⟩, fun x y r h => by cases h⟩
 exact dg_canon h1.wf h3.pl fun c => by rw [h3.sem, a.sem, b.sem]
def eitherO (x y : Nat) : Option Nat := if x = 1 ∨ y = 1 then some 1 else if x = 0 ∧ y = 0 then some 0 else none
theorem either_ok (A B : List Nd) : OpOk A B eitherO (fun a b => a || b) where
 some x y r _ _ h := by
  unfold eitherO at h
  split at h
  ·rename_i hc
   cases h
   refine ⟨by omega, fun c => ?_⟩
   rcases hc with rfl | rfl
   ·simp [sem_one]
   ·simp [sem_one]
  ·split at h
   ·rename_i hc
    cases h
    obtain ⟨rfl, rfl⟩ := hc
    exact ⟨by omega, fun c => by simp [sem_zero]⟩
   ·cases h
 none x y h := by
  unfold eitherO at h
  split at h
  ·cases h
  ·split at h
   ·cases h
   ·omega
theorem dg_false : Dg ([], 0) fun _ => false :=
 ⟨⟨fun j x h => by simp at h, fun i j x h => by simp at h⟩, .two (by omega), fun c => sem_zero _ c, rfl⟩
theorem dg_or {d e : List Nd × Nat} {S T : Cfg → Bool} (a : Dg d S) (b : Dg e T) : Dg (withD d e eitherO) fun c => S c || T c := dg_with a b (either_ok _ _)
end Bdd
namespace Bdd
structure FInv (A : List Nd) (f : Bool → Bool) (k : Nat) (s : List Nd × List Nat) : Prop where
 wf : Wf s.1
 len : s.2.length = k + 2
 pl : ∀ (j r : Nat), s.2[j]? = some r → Pl s.1 r ∧ var A j ≤ var s.1 r ∧ ∀ c, sem s.1 r c = f (sem A j c)
end Bdd
namespace Bdd
def cubeS (on off : Nat → Bool) (s : List Nd × Nat) (i : Nat) : List Nd × Nat :=
 if on i then node s.1 i 0 s.2 else if off i then node s.1 i s.2 0 else s
structure CInv (on off : Nat → Bool) (k : Nat) (s : List Nd × Nat) : Prop where
 wf : Wf s.1
 pl : Pl s.1 s.2
 var : k ≤ var s.1 s.2
 sem : ∀ c, sem s.1 s.2 c = true ↔ ∀ i, k ≤ i → i < 24 → (on i = true → c i = true) ∧ (off i = true → c i = false)
theorem cubeS_ok {on off : Nat → Bool} (hd : ∀ i, on i = true → off i = false) {k : Nat} (hk : k < 24) {s : List Nd × Nat} (I : CInv on off (k + 1) s) : CInv on off k (cubeS on off s k) := by
 obtain ⟨W, hp, hv, hs⟩ := I
 have split1 : ∀ (P : Nat → Prop), (∀ i, k ≤ i → i < 24 → P i) ↔ P k ∧ ∀ i, k + 1 ≤ i → i < 24 → P i := fun P =>
  ⟨fun h => ⟨h k (Nat.le_refl _) hk, fun i h1 h2 => h i (by omega) h2⟩, fun h i h1 h2 => by
   by_cases e : i = k
   ·subst e; exact h.1
   ·exact h.2 i (by omega) h2⟩
 unfold cubeS
 cases hon : on k with
 | true =>
  simp only [if_true]
  obtain ⟨m, M, W', P', V', S'⟩ := node_spec W (i := k) hk (.two (r := 0) (by omega)) hp (by rw [var_two (by omega)]; exact hk) (by omega)
  refine ⟨W', P', V', fun c => ?_⟩
  rw [S', split1, ← hs, sem_zero, hon, hd k hon]
  cases c k <;> simp
 | false =>
  cases hoff : off k with
  | true =>
   simp only [Bool.false_eq_true, if_false, if_true]
   obtain ⟨m, M, W', P', V', S'⟩ := node_spec W (i := k) hk hp (.two (r := 0) (by omega)) (by omega) (by rw [var_two (by omega)]; exact hk)
   refine ⟨W', P', V', fun c => ?_⟩
   rw [S', split1, ← hs, sem_zero, hon, hoff]
   cases c k <;> simp
  | false =>
   simp only [Bool.false_eq_true, if_false]
   refine ⟨W, hp, by omega, fun c => ?_⟩
   rw [split1, ← hs, hon, hoff]
   simp
def cubeL (on off : Nat → Bool) : Nat → List Nd × Nat
 | 0 => ([], 1)
 | n + 1 => cubeS on off (cubeL on off n) (23 - n)
theorem cubeL_ok {on off : Nat → Bool} (hd : ∀ i, on i = true → off i = false) : ∀ n, n ≤ 24 → CInv on off (24 - n) (cubeL on off n) := by
 intro n
 induction n with
 | zero =>
  intro _
  exact ⟨⟨fun j x h => by simp [cubeL] at h, fun i j x h => by simp [cubeL] at h⟩, .two (by show 1 < 2; omega), by show 24 ≤ var [] 1; rw [var_two (by omega)]; exact Nat.le_refl _, fun c => by
   show sem [] 1 c = true ↔ _
   rw [sem_one]
   exact ⟨fun _ i h1 h2 => by omega, fun _ => rfl⟩⟩
 | succ n ih =>
  intro h
  have := ih (by omega)
  rw [show 24 - n = (23 - n) + 1 by omega] at this
  rw [show 24 - (n + 1) = 23 - n by omega]
  exact cubeS_ok hd (by omega) this
def cubeD (on off : Nat → Bool) : List Nd × Nat := canon (cubeL on off 24).1 (cubeL on off 24).2
theorem dg_cube {on off : Nat → Bool} (hd : ∀ i, on i = true → off i = false) {S : Cfg → Bool} (hS : ∀ c, S c = true ↔ ∀ i, i < 24 → (on i = true → c i = true) ∧ (off i = true → c i = false)) : Dg (cubeD on off) S := by
 have I := cubeL_ok hd 24 (Nat.le_refl _)
 refine dg_canon I.wf I.pl fun c => ?_
 have := I.sem c
 rw [Bool.eq_iff_iff, this, hS]
 exact ⟨fun h i hi => h i (by omega) hi, fun h i _ hi => h i hi⟩
end Bdd
namespace Bdd
def fixS (i : Nat) (on : Bool) (s : List Nd × List Nat) (x : Nd) : List Nd × List Nat :=
 if x.v = i then (s.1, s.2 ++ [if on then s.2.getD x.hi 0 else s.2.getD x.lo 0])
 else let k := node s.1 x.v (s.2.getD x.lo 0) (s.2.getD x.hi 0); (k.1, s.2 ++ [k.2])
structure GInv (A : List Nd) (i : Nat) (on : Bool) (k : Nat) (s : List Nd × List Nat) : Prop where
 wf : Wf s.1
 len : s.2.length = k + 2
 pl : ∀ (j r : Nat), s.2[j]? = some r → Pl s.1 r ∧ var A j ≤ var s.1 r ∧ ∀ c, sem s.1 r c = sem A j (set c i on)
theorem fixS_ok {A : List Nd} (W : Wf A) {i : Nat} {on : Bool} {k : Nat} {x : Nd} (hx : A[k]? = some x) {s : List Nd × List Nat} (I : GInv A i on k s) : GInv A i on (k + 1) (fixS i on s x) := by
 obtain ⟨l1, l2, l3, v1, v2, v3⟩ := W.node _ _ hx
 have hlen := I.len
 have g : ∀ p, p < k + 2 → s.2[p]? = some (s.2.getD p 0) := fun p hp => by
  rw [List.getD_eq_getElem?_getD, List.getElem?_eq_getElem (by omega)]; rfl
 obtain ⟨a1, a2, a3⟩ := I.pl _ _ (g _ l1)
 obtain ⟨b1, b2, b3⟩ := I.pl _ _ (g _ l2)
 have hxk : A[k + 2 - 2]? = some x := hx
 unfold fixS
 dsimp only
 clear g
 generalize s.2.getD x.lo 0 = lo at *
 generalize s.2.getD x.hi 0 = hi at *
 have fin : ∀ (ms : List Nd) (q : Nat), Wf (s.1 ++ ms) → Pl (s.1 ++ ms) q → x.v ≤ var (s.1 ++ ms) q → (∀ c, sem (s.1 ++ ms) q c = sem A (k + 2) (set c i on)) → GInv A i on (k + 1) (s.1 ++ ms, s.2 ++ [q]) := by
  intro ms q W' P' V' S'
  refine ⟨W', by simp [hlen], fun j r hj => ?_⟩
  by_cases hjl : j < s.2.length
  ·dsimp only at hj ⊢
   rw [List.getElem?_append_left hjl] at hj
   obtain ⟨c1, c2, c3⟩ := I.pl _ _ hj
   exact ⟨c1.append, by rw [var_append c1]; exact c2, fun c => by rw [sem_append I.wf c1, c3]⟩
  ·dsimp only at hj ⊢
   have hjk : j = k + 2 := by
    have := (List.getElem?_eq_some_iff.1 hj).1
    simp at this; omega
   subst hjk
   rw [List.getElem?_append_right (by omega), hlen] at hj
   simp at hj
   subst hj
   exact ⟨P', by rw [var_node (by omega) hxk]; exact V', S'⟩
 by_cases hxi : x.v = i
 ·rw [if_pos hxi]
  have := fin [] (if on then hi else lo) (by simpa using I.wf) (by cases on <;> simpa) (by cases on <;> simp <;> omega) (fun c => by
   rw [sem_node W (by omega) hxk]
   have : set c i on x.v = on := by simp [set, hxi]
   rw [this]
   cases on
   ·simpa using a3 c
   ·simpa using b3 c)
  simpa using this
 ·rw [if_neg hxi]
  obtain ⟨m, M, W', P', V', S'⟩ := node_spec I.wf (i := x.v) v3 a1 b1 (by omega) (by omega)
  rw [M] at W' P' V' S' ⊢
  refine fin m _ W' P' V' fun c => ?_
  rw [S', sem_node W (by omega) hxk, a3, b3]
  have : set c i on x.v = c x.v := by simp [set, hxi]
  rw [this]
theorem fixL_ok {A : List Nd} (W : Wf A) {i : Nat} {on : Bool} : ∀ (l : List Nd) (k : Nat) (s : List Nd × List Nat), (∀ j x, l[j]? = some x → A[k + j]? = some x) → GInv A i on k s → GInv A i on (k + l.length) (l.foldl (fixS i on) s) := by
 intro l
 induction l with
 | nil => intro k s _ I; exact I
 | cons x r ih =>
  intro k s h I
  have := ih (k + 1) (fixS i on s x) (fun j y hj => by have := h (j + 1) y (by simpa using hj); rwa [show k + 1 + j = k + (j + 1) by omega]) (fixS_ok W (h 0 x (by simp)) I)
  simpa [Nat.add_assoc, Nat.add_comm 1] using this
def fixD (d : List Nd × Nat) (i : Nat) (on : Bool) : List Nd × Nat :=
 let s := d.1.foldl (fixS i on) ([], [0, 1])
 canon s.1 (s.2.getD d.2 0)
theorem dg_fix {d : List Nd × Nat} {S : Cfg → Bool} (a : Dg d S) (i : Nat) (on : Bool) : Dg (fixD d i on) fun c => S (set c i on) := by
 have I := fixL_ok a.wf (i := i) (on := on) d.1 0 ([], [0, 1]) (fun j x h => by simpa using h) ⟨⟨fun j x h => by simp at h, fun i j x h => by simp at h⟩, rfl, fun j r h => by
  have hj : j = 0 ∨ j = 1 := by
   have := (List.getElem?_eq_some_iff.1 h).1
   simp at this; omega
  rcases hj with rfl | rfl
  ·simp at h; subst h
   exact ⟨.two (by omega), by rw [var_two (by omega), var_two (by omega)]; exact Nat.le_refl _, fun c => by rw [sem_zero, sem_zero]⟩
  ·simp at h; subst h
   exact ⟨.two (by omega), by rw [var_two (by omega), var_two (by omega)]; exact Nat.le_refl _, fun c => by rw [sem_one, sem_one]⟩⟩
 unfold fixD
 dsimp only
 generalize d.1.foldl (fixS i on) ([], [0, 1]) = s at *
 have hp := a.pl
 unfold Pl at hp
 have hl := I.len
 obtain ⟨h1, h2, h3⟩ := I.pl d.2 (s.2.getD d.2 0) (by rw [List.getD_eq_getElem?_getD, List.getElem?_eq_getElem (by omega)]; rfl)
 exact dg_canon I.wf h1 fun c => by rw [h3, a.sem]
end Bdd
namespace Bdd
theorem node_mem {ns : List Nd} {i lo hi : Nat} {y : Nd} (h : y ∈ (node ns i lo hi).1) : y ∈ ns ∨ y.v = i := by
 unfold node at h
 split at h
 ·exact .inl h
 ·split at h
  ·exact .inl h
  ·dsimp only at h
   rcases List.mem_append.1 h with h | h
   ·exact .inl h
   ·rw [List.mem_singleton] at h
    exact .inr (by rw [h])
theorem visit_mem {ns : List Nd} : ∀ (n p : Nat) (s : St) (y : Nd), y ∈ (visit ns n p s).2.out → y ∈ s.out ∨ ∃ x ∈ ns, x.v = y.v := by
 intro n
 induction n with
 | zero => intro p s y h; exact .inl h
 | succ n ih =>
  intro p s y h
  unfold visit at h
  split at h
  ·exact .inl h
  ·split at h
   ·exact .inl h
   ·rename_i x hx
    dsimp only [St.set] at h
    rcases List.mem_append.1 h with h | h
    ·rcases ih _ _ _ h with h | h
     ·exact ih _ _ _ h
     ·exact .inr h
    ·rw [List.mem_singleton] at h
     exact .inr ⟨x, List.mem_of_getElem? hx, by rw [h]⟩
theorem canon_mem {ns : List Nd} {p : Nat} {y : Nd} (h : y ∈ (canon ns p).1) : ∃ x ∈ ns, x.v = y.v := by
 rcases visit_mem _ _ _ _ h with h | h
 ·simp [st0] at h
 ·exact h
theorem fixL_mem {i : Nat} {on : Bool} : ∀ (l : List Nd) (s : List Nd × List Nat), (∀ y ∈ s.1, y.v ≠ i) → ∀ y ∈ (l.foldl (fixS i on) s).1, y.v ≠ i := by
 intro l
 induction l with
 | nil => intro s h; exact h
 | cons x r ih =>
  intro s h
  refine ih _ fun y hy => ?_
  unfold fixS at hy
  split at hy
  ·exact h y hy
  ·rename_i hx
   rcases node_mem hy with h' | h'
   ·exact h y h'
   ·rw [h']; exact hx
theorem dg_support {d : List Nd × Nat} {S : Cfg → Bool} (a : Dg d S) {i : Nat} (hi : ∀ c, S (set c i false) = S c) : ∀ y ∈ d.1, y.v ≠ i := by
 have e : fixD d i false = d := ((dg_fix a i false).uniq a).2 hi
 intro y hy
 rw [← e] at hy
 obtain ⟨x, hx, hv⟩ := canon_mem hy
 rw [← hv]
 exact fixL_mem d.1 ([], [0, 1]) (by simp) x hx
end Bdd
namespace Bdd
def better (x y : Option (Nat × Nat)) : Option (Nat × Nat) := match x, y with
 | none, y => y
 | x, none => x
 | some a, some b => if b.1 < a.1 ∨ (b.1 = a.1 ∧ b.2 < a.2) then some b else some a
theorem better_none (x : Option (Nat × Nat)) : better none x = x := by unfold better; rfl
theorem better_none' (x : Option (Nat × Nat)) : better x none = x := by cases x <;> rfl
def cfg (n : Nat) : Cfg := fun i => n.testBit i
def weight (n : Nat) : Nat := ((List.range 24).filter fun i => n.testBit i).length
structure Least (S : Cfg → Bool) (r : Option (Nat × Nat)) : Prop where
 none : r = .none → ∀ n, n < 2 ^ 24 → S (cfg n) = false
 some : ∀ a, r = .some a → a.2 < 2 ^ 24 ∧ a.1 = weight a.2 ∧ S (cfg a.2) = true ∧ ∀ n, n < 2 ^ 24 → S (cfg n) = true → a.1 < weight n ∨ (a.1 = weight n ∧ a.2 ≤ n)
end Bdd
namespace Bdd
theorem nodup_le : ∀ (n : Nat) (l : List Nat), l.Nodup → (∀ x ∈ l, x < n) → l.length ≤ n := by
 intro n
 induction n with
 | zero => intro l _ h; cases l with
  | nil => exact Nat.le_refl _
  | cons a r => exact absurd (h a (by simp)) (Nat.not_lt_zero _)
 | succ n ih =>
  intro l hd h
  by_cases hm : n ∈ l
  ·have := ih (l.erase n) (hd.erase n) fun x hx => by
    have h1 := h x (List.mem_of_mem_erase hx)
    have h2 : x ≠ n := fun e => by subst e; exact (List.Nodup.not_mem_erase hd) hx
    omega
   rw [List.length_erase_of_mem hm] at this
   omega
  ·exact Nat.le_succ_of_le (ih l hd fun x hx => by
    have h1 := h x hx
    have h2 : x ≠ n := fun e => by subst e; exact hm hx
    omega)
theorem pairs_le {a b : Nat} {l : List (Nat × Nat)} (hd : l.Nodup) (h : ∀ p ∈ l, p.1 < a ∧ p.2 < b) : l.length ≤ a * b := by
 have key := nodup_le (a * b) (l.map fun p => p.1 * b + p.2) ?_ ?_
 ·simpa using key
 ·rw [List.Nodup, List.pairwise_map]
  refine List.Pairwise.imp_of_mem ?_ hd
  intro p r hp hr hne e
  obtain ⟨h1, h2⟩ := h p hp
  obtain ⟨h3, h4⟩ := h r hr
  apply hne
  have e0 : p.1 * b + p.2 = r.1 * b + r.2 := e
  have q : ∀ u w : Nat, w < b → (u * b + w) / b = u := fun u w hw => by
   rw [Nat.mul_comm, Nat.mul_add_div (by omega), Nat.div_eq_of_lt hw, Nat.add_zero]
  have e1 : p.1 = r.1 := by rw [← q p.1 p.2 h2, e0, q r.1 r.2 h4]
  exact Prod.ext e1 (by rw [e1] at e0; omega)
 ·intro x hx
  obtain ⟨p, hp, rfl⟩ := List.mem_map.1 hx
  obtain ⟨h1, h2⟩ := h p hp
  have : p.1 * b + b ≤ a * b := by rw [← Nat.succ_mul]; exact Nat.mul_le_mul_right b h1
  omega
theorem join_less {A B : List Nd} {op : Nat → Nat → Option Nat} {f : Bool → Bool → Bool} (WA : Wf A) (WB : Wf B) (O : OpOk A B op f) {x y : Nat} (hx : Pl A x) (hy : Pl B y) (ho : op x y = none) (o : Bool) :
  let i := min (at' A x).v (at' B y).v
  let x' := if (at' A x).v = i then (if o then (at' A x).hi else (at' A x).lo) else x
  let y' := if (at' B y).v = i then (if o then (at' B y).hi else (at' B y).lo) else y
  Pl A x' ∧ Pl B y' ∧ x' + y' < x + y ∧ i < 24 := by
 have hne := O.none _ _ ho
 obtain ⟨a1, a2, a3, a4, a5⟩ := at_spec WA hx
 obtain ⟨b1, b2, b3, b4, b5⟩ := at_spec WB hy
 have va : var A x < 24 ∨ var B y < 24 := by
  rcases Nat.lt_or_ge x 2 with h | h
  ·have hy2 : 2 ≤ y := by omega
   obtain ⟨z, hz⟩ := hy.node hy2
   exact .inr (by rw [var_node hy2 hz]; exact (WB.node _ _ hz).2.2.2.2.2)
  ·obtain ⟨z, hz⟩ := hx.node h
   exact .inl (by rw [var_node h hz]; exact (WA.node _ _ hz).2.2.2.2.2)
 dsimp only
 generalize at' A x = S at *
 generalize at' B y = T at *
 generalize hI : min S.v T.v = i at *
 have hi24 : i < 24 := by omega
 refine ⟨?_, ?_, ?_, hi24⟩
 ·cases o <;> by_cases h : S.v = i <;> simp [h] <;> assumption
 ·cases o <;> by_cases h : T.v = i <;> simp [h] <;> assumption
 ·cases o <;> by_cases h : S.v = i <;> by_cases h' : T.v = i <;> simp [h, h'] <;> omega
theorem join_seen {A B : List Nd} {op : Nat → Nat → Option Nat} {f : Bool → Bool → Bool} (WA : Wf A) (WB : Wf B) (O : OpOk A B op f) : ∀ (n x y : Nat) (s : JSt), Pl A x → Pl B y → ∀ u v, x + y < u + v → (join A B op n x y s).2.seen u v = s.seen u v := by
 intro n
 induction n with
 | zero => intro x y s _ _ u v _; rfl
 | succ n ih =>
  intro x y s hx hy u v huv
  unfold join
  cases ho : op x y with
  | some r => rfl
  | none =>
   cases hs : s.seen x y with
   | some r => rfl
   | none =>
    obtain ⟨p1, p2, p3, _⟩ := join_less WA WB O hx hy ho false
    obtain ⟨q1, q2, q3, _⟩ := join_less WA WB O hx hy ho true
    simp only [Bool.false_eq_true, if_false] at p1 p2 p3
    simp only [if_true] at q1 q2 q3
    dsimp only
    rw [if_neg (by omega), ih _ _ _ q1 q2 u v (by omega), ih _ _ _ p1 p2 u v (by omega)]
end Bdd
namespace Bdd
def cfgs (u : Nat) : Nat → List Nat
 | 0 => [0]
 | k + 1 => if u.testBit k then cfgs u k ++ (cfgs u k).map (fun x => x ||| 1 <<< k) else cfgs u k
def XQ (u : Nat) : List Nat := cfgs u 32
def XV (u : Nat) : Nat → Nat
 | 0 => 0
 | k + 1 => XV u k + (if u.testBit k then 1 else 0)
theorem cfgs_len (u : Nat) : ∀ k, (cfgs u k).length = 2 ^ XV u k := by
 intro k
 induction k with
 | zero => rfl
 | succ k ih =>
  simp only [cfgs, XV]
  split
  ·rw [List.length_append, List.length_map, ih, Nat.pow_succ]; omega
  ·rw [ih, Nat.add_zero]
theorem cntTo_mono (u : Nat) {a b : Nat} (h : a ≤ b) : XV u a ≤ XV u b := by
 induction h with
 | refl => exact Nat.le_refl _
 | step _ ih => simp only [XV]; omega
theorem cntTo_le (u k : Nat) : XV u k ≤ k := by
 induction k with
 | zero => exact Nat.le_refl _
 | succ k ih => simp only [XV]; split <;> omega
theorem bit_or {x k j : Nat} : (x ||| 1 <<< k).testBit j = (x.testBit j || decide (j = k)) := by
 rw [Nat.testBit_or]
 congr 1
 rw [Nat.shiftLeft_eq, Nat.one_mul, Nat.testBit_two_pow, Bool.eq_iff_iff, decide_eq_true_eq, decide_eq_true_eq]
 exact eq_comm
theorem cfgs_lt (u : Nat) : ∀ k, ∀ x ∈ cfgs u k, x < 2 ^ k := by
 intro k
 induction k with
 | zero => intro x hx; simp [cfgs] at hx; subst hx; decide
 | succ k ih =>
  intro x hx
  have h1 : ∀ x ∈ cfgs u k, x < 2 ^ (k + 1) := fun x hx => Nat.lt_trans (ih x hx) (Nat.pow_lt_pow_right (by decide) (Nat.lt_succ_self k))
  simp only [cfgs] at hx
  split at hx
  ·rcases List.mem_append.1 hx with h | h
   ·exact h1 x h
   ·obtain ⟨y, hy, rfl⟩ := List.mem_map.1 h
    refine Nat.or_lt_two_pow (h1 y hy) ?_
    rw [Nat.shiftLeft_eq, Nat.one_mul]
    exact Nat.pow_lt_pow_right (by decide) (Nat.lt_succ_self k)
  ·exact h1 x hx
theorem or_add {y k : Nat} (h : y < 2 ^ k) : y ||| 1 <<< k = y + 2 ^ k := by
 rw [Nat.or_comm, Nat.shiftLeft_eq, Nat.one_mul]
 have := Nat.two_pow_add_eq_or_of_lt h 1
 rw [Nat.mul_one] at this
 omega
theorem cfgs_sorted (u : Nat) : ∀ k, (cfgs u k).Pairwise (· < ·) := by
 intro k
 induction k with
 | zero => simp [cfgs]
 | succ k ih =>
  simp only [cfgs]
  split
  ·rw [List.pairwise_append]
   refine ⟨ih, ?_, ?_⟩
   ·rw [List.pairwise_map]
    refine List.Pairwise.imp_of_mem (fun {a b} ha hb hab => ?_) ih
    rw [or_add (cfgs_lt u k a ha), or_add (cfgs_lt u k b hb)]
    omega
   ·intro a ha b hb
    obtain ⟨y, hy, rfl⟩ := List.mem_map.1 hb
    rw [or_add (cfgs_lt u k y hy)]
    have := cfgs_lt u k a ha
    omega
  ·exact ih
theorem cfgs_mem (u : Nat) : ∀ k x, x ∈ cfgs u k ↔ ∀ j, x.testBit j = true → u.testBit j = true ∧ j < k := by
 intro k
 induction k with
 | zero =>
  intro x
  simp only [cfgs, List.mem_singleton]
  constructor
  ·rintro rfl j hj; simp at hj
  ·intro h
   apply Nat.eq_of_testBit_eq
   intro j
   rw [Nat.zero_testBit]
   cases hx : x.testBit j with
   | false => rfl
   | true => exact absurd (h j hx).2 (Nat.not_lt_zero _)
 | succ k ih =>
  intro x
  simp only [cfgs]
  have low : x ∈ cfgs u k → ∀ j, x.testBit j = true → u.testBit j = true ∧ j < k + 1 := fun h j hj => by
   have := (ih x).1 h j hj
   exact ⟨this.1, by omega⟩
  split
  ·rename_i hu
   rw [List.mem_append, List.mem_map]
   constructor
   ·rintro (h | ⟨y, hy, rfl⟩)
    ·exact low h
    ·intro j hj
     rw [bit_or, Bool.or_eq_true, decide_eq_true_eq] at hj
     rcases hj with hj | rfl
     ·have := (ih y).1 hy j hj
      exact ⟨this.1, by omega⟩
     ·exact ⟨hu, Nat.lt_succ_self _⟩
   ·intro h
    cases hk : x.testBit k with
    | false =>
     refine .inl ((ih x).2 fun j hj => ?_)
     have := h j hj
     have : j ≠ k := fun e => by subst e; rw [hk] at hj; cases hj
     exact ⟨(h j hj).1, by omega⟩
    | true =>
     refine .inr ⟨x % 2 ^ k, (ih _).2 fun j hj => ?_, ?_⟩
     ·rw [Nat.testBit_mod_two_pow, Bool.and_eq_true, decide_eq_true_eq] at hj
      exact ⟨(h j hj.2).1, hj.1⟩
     ·apply Nat.eq_of_testBit_eq
      intro j
      rw [bit_or, Nat.testBit_mod_two_pow]
      by_cases e : j = k
      ·subst e; simp [hk]
      ·simp only [e, decide_false, Bool.or_false]
       cases hx : x.testBit j with
       | false => simp
       | true =>
        have := (h j hx).2
        simp; omega
  ·rename_i hu
   constructor
   ·exact low
   ·intro h
    refine (ih x).2 fun j hj => ?_
    have h1 := h j hj
    have : j ≠ k := fun e => by subst e; exact hu h1.1
    exact ⟨h1.1, by omega⟩
abbrev allF : Nat := 16777215
theorem all_bit (j : Nat) : allF.testBit j = decide (j < 24) := by
 have : allF = 2 ^ 24 - 1 := rfl
 rw [this, Nat.testBit_two_pow_sub_one]
abbrev Cu := Nat × Nat
def inCu (p : Cu) (c : Nat) : Bool := decide (c &&& p.1 &&& allF = p.1 &&& allF) && decide (c &&& p.2 &&& allF = 0)
def inB (l : List Cu) (c : Nat) : Bool := l.any fun p => inCu p c
def cuS (p : Cu) : Cfg → Bool := fun c => (List.range 24).all fun i => (!p.1.testBit i || c i) && (!p.2.testBit i || !c i)
theorem cuS_iff (p : Cu) (c : Cfg) : cuS p c = true ↔ ∀ i, i < 24 → (p.1.testBit i = true → c i = true) ∧ (p.2.testBit i = true → c i = false) := by
 unfold cuS
 rw [List.all_eq_true]
 constructor
 ·intro h i hi
  have := h i (List.mem_range.2 hi)
  simp only [Bool.and_eq_true, Bool.or_eq_true, Bool.not_eq_true'] at this
  exact ⟨fun hp => by rcases this.1 with h | h <;> simp_all, fun hp => by rcases this.2 with h | h <;> simp_all⟩
 ·intro h i hi
  obtain ⟨h1, h2⟩ := h i (List.mem_range.1 hi)
  simp only [Bool.and_eq_true, Bool.or_eq_true, Bool.not_eq_true']
  constructor
  ·cases hp : p.1.testBit i with
   | false => exact .inl rfl
   | true => exact .inr (h1 hp)
  ·cases hp : p.2.testBit i with
   | false => exact .inl rfl
   | true => exact .inr (h2 hp)
def setS (l : List Cu) : Cfg → Bool := fun c => l.any fun p => cuS p c
theorem cuS_in (p : Cu) (n : Nat) : cuS p (cfg n) = inCu p n := by
 unfold inCu cfg
 rw [Bool.eq_iff_iff, cuS_iff, Bool.and_eq_true, decide_eq_true_eq, decide_eq_true_eq]
 constructor
 ·intro h
  constructor
  ·apply Nat.eq_of_testBit_eq
   intro j
   simp only [Nat.testBit_and, all_bit]
   by_cases hj : j < 24
   ·have := (h j hj).1
    simp only [hj, decide_true, Bool.and_true]
    cases hp : p.1.testBit j with
    | false => simp
    | true => simp [this hp]
   ·simp [hj]
  ·apply Nat.eq_of_testBit_eq
   intro j
   simp only [Nat.testBit_and, all_bit, Nat.zero_testBit]
   by_cases hj : j < 24
   ·have := (h j hj).2
    simp only [hj, decide_true, Bool.and_true]
    cases hp : p.2.testBit j with
    | false => simp
    | true => simp [this hp]
   ·simp [hj]
 ·rintro ⟨h1, h2⟩ i hi
  constructor
  ·intro hp
   have := congrArg (fun m => m.testBit i) h1
   simp only [Nat.testBit_and, all_bit, hi, decide_true, Bool.and_true, hp] at this
   exact this
  ·intro hp
   have := congrArg (fun m => m.testBit i) h2
   simp only [Nat.testBit_and, all_bit, hi, decide_true, Bool.and_true, hp, Nat.zero_testBit] at this
   exact this
theorem setS_in (l : List Cu) (n : Nat) : setS l (cfg n) = inB l n := by
 unfold setS inB
 congr 1
 funext p
 exact cuS_in p n
def bitsF (l : List Cu) : Nat := (l.foldl (fun (u : Nat) (p : Cu) => u ||| p.1 ||| p.2) 0)
def bitsN (l : List Cu) : Nat := bitsF l &&& allF
theorem fold_bit (l : List Cu) (j : Nat) : ∀ u : Nat, (l.foldl (fun (u : Nat) (p : Cu) => u ||| p.1 ||| p.2) u).testBit j = (u.testBit j || l.any fun p => p.1.testBit j || p.2.testBit j) := by
 induction l with
 | nil => intro u; simp
 | cons p r ih => intro u; rw [List.foldl_cons, ih, Nat.testBit_or, Nat.testBit_or, List.any_cons, Bool.or_assoc, Bool.or_assoc, Bool.or_assoc]
theorem bitsN_bit (l : List Cu) (j : Nat) : (bitsN l).testBit j = (decide (j < 24) && l.any fun p => p.1.testBit j || p.2.testBit j) := by
 unfold bitsN bitsF
 rw [Nat.testBit_and, all_bit, fold_bit, Nat.zero_testBit, Bool.false_or, Bool.and_comm]
theorem setS_only {l : List Cu} {i : Nat} (h : (bitsN l).testBit i = false) (c : Cfg) (b : Bool) : setS l (set c i b) = setS l c := by
 have key : ∀ p ∈ l, cuS p (set c i b) = cuS p c := by
  intro p hp
  rw [Bool.eq_iff_iff, cuS_iff, cuS_iff]
  rw [bitsN_bit] at h
  refine forall_congr' fun j => ?_
  by_cases hj : j < 24
  ·by_cases e : j = i
   ·subst e
    simp only [hj, decide_true, Bool.true_and, List.any_eq_false] at h
    have := h p hp
    simp only [Bool.or_eq_true, not_or, Bool.not_eq_true] at this
    simp [this.1, this.2]
   ·unfold set
    simp [e]
  ·simp [hj]
 unfold setS
 rw [Bool.eq_iff_iff, List.any_eq_true, List.any_eq_true]
 constructor
 ·rintro ⟨p, hp, h⟩; exact ⟨p, hp, by rw [← key p hp]; exact h⟩
 ·rintro ⟨p, hp, h⟩; exact ⟨p, hp, by rw [key p hp]; exact h⟩
end Bdd
namespace Bdd
theorem visit_size {ns : List Nd} (W : Wf ns) {u : Nat} (hu : ∀ x ∈ ns, u.testBit x.v = true) : ∀ (n p : Nat) (s : St), p < n → Pl ns p → Inv ns s →
  (visit ns n p s).2.out.length + 1 ≤ s.out.length + 2 ^ (XV u 24 - XV u (var ns p)) := by
 intro n
 induction n with
 | zero => intro p s h; omega
 | succ n ih =>
  intro p s hpn hp I
  have h0 : 0 < 2 ^ (XV u 24 - XV u (var ns p)) := Nat.pow_pos (by decide)
  unfold visit
  cases hq : s.pl p with
  | some q => dsimp only; omega
  | none =>
   have h2 : 2 ≤ p := by
    rcases Nat.lt_or_ge p 2 with h | h
    ·exfalso
     have : p = 0 ∨ p = 1 := by omega
     rcases this with rfl | rfl
     ·rw [I.zero] at hq; cases hq
     ·rw [I.one] at hq; cases hq
    ·exact h
   obtain ⟨x, hx⟩ := hp.node h2
   obtain ⟨l1, l2, l3, v1, v2, v3⟩ := W.node _ _ hx
   unfold Pl at hp
   rw [hx]
   dsimp only
   obtain ⟨I1, _, _, _⟩ := visit_spec W n x.lo s (by omega) (by unfold Pl; omega) I
   have a1 := ih x.lo s (by omega) (by unfold Pl; omega) I
   have a2 := ih x.hi (visit ns n x.lo s).2 (by omega) (by unfold Pl; omega) I1
   generalize visit ns n x.lo s = a at *
   generalize visit ns n x.hi a.2 = b at *
   have hv : var ns p = x.v := var_node h2 hx
   rw [hv]
   have hb := hu x (List.mem_of_getElem? hx)
   have key : ∀ q, x.v < var ns q → 2 ^ (XV u 24 - XV u (var ns q)) + 2 ^ (XV u 24 - XV u (var ns q)) ≤ 2 ^ (XV u 24 - XV u x.v) := by
    intro q hq
    have h1 : XV u (x.v + 1) ≤ XV u (var ns q) := cntTo_mono u hq
    have h3 : XV u (x.v + 1) ≤ XV u 24 := cntTo_mono u v3
    have e1 : XV u (x.v + 1) = XV u x.v + 1 := by rw [XV, hb]; rfl
    rw [e1] at h1 h3
    have : XV u 24 - XV u (var ns q) + 1 ≤ XV u 24 - XV u x.v := by omega
    have := Nat.pow_le_pow_right (by decide : 0 < 2) this
    rw [Nat.pow_succ] at this
    omega
   have k1 := key x.lo v1
   have k2 := key x.hi v2
   have : (b.2.set p ⟨x.v, a.1, b.1⟩).out.length = b.2.out.length + 1 := by simp [St.set]
   rw [this]
   omega
theorem dg_size {d : List Nd × Nat} {S : Cfg → Bool} (a : Dg d S) {u : Nat} (hS : ∀ i, u.testBit i = false → ∀ c, S (set c i false) = S c) : d.1.length < 2 ^ XV u 24 := by
 have hu : ∀ x ∈ d.1, u.testBit x.v = true := by
  intro x hx
  cases hb : u.testBit x.v with
  | true => rfl
  | false => exact absurd rfl (dg_support a (hS x.v hb) x hx)
 have h := visit_size a.wf hu (d.2 + 1) d.2 st0 (Nat.lt_succ_self _) a.pl (inv0 d.1)
 have e : (visit d.1 (d.2 + 1) d.2 st0).2.out = d.1 := congrArg Prod.fst a.can
 rw [e] at h
 have h1 : st0.out.length = 0 := rfl
 have h2 : 2 ^ (XV u 24 - XV u (var d.1 d.2)) ≤ 2 ^ XV u 24 := Nat.pow_le_pow_right (by decide) (Nat.sub_le _ _)
 omega
theorem supp_bit (ns : List Nd) (j : Nat) : ∀ s : Nat, (ns.foldl (fun (s : Nat) (x : Nd) => s ||| 1 <<< x.v) s).testBit j = (s.testBit j || ns.any fun x => decide (j = x.v)) := by
 induction ns with
 | nil => intro s; simp
 | cons x r ih => intro s; rw [List.foldl_cons, ih, bit_or, List.any_cons, Bool.or_assoc]
theorem dg_supp {d : List Nd × Nat} {S : Cfg → Bool} (a : Dg d S) {u : Nat} (hS : ∀ i, u.testBit i = false → ∀ c, S (set c i false) = S c) :
  (d.1.foldl (fun (s : Nat) (x : Nd) => s ||| 1 <<< x.v) 0) ^^^ ((d.1.foldl (fun (s : Nat) (x : Nd) => s ||| 1 <<< x.v) 0) &&& u) = 0 := by
 apply Nat.eq_of_testBit_eq
 intro j
 rw [Nat.testBit_xor, Nat.testBit_and, supp_bit, Nat.zero_testBit, Bool.false_or]
 cases hb : u.testBit j with
 | true => simp
 | false =>
  have : (d.1.any fun x => decide (j = x.v)) = false := by
   rw [List.any_eq_false]
   intro x hx
   have := dg_support a (hS j hb) x hx
   simp only [decide_eq_true_eq]
   exact fun e => this e.symm
  rw [this]; rfl
end Bdd
namespace Bdd
theorem weight_cnt (n : Nat) : weight n = XV n 24 := by
 unfold weight
 have : ∀ k, ((List.range k).filter fun i => n.testBit i).length = XV n k := by
  intro k
  induction k with
  | zero => rfl
  | succ k ih =>
   rw [List.range_succ, List.filter_append, List.length_append, ih]
   simp only [XV]
   congr 1
   by_cases e : n.testBit k = true
   ·rw [List.filter_cons_of_pos e, if_pos e]; rfl
   ·rw [List.filter_cons_of_neg e, if_neg e]; rfl
 exact this 24
theorem cnt_congr {a b : Nat} : ∀ k, (∀ i, i < k → a.testBit i = b.testBit i) → XV a k = XV b k := by
 intro k
 induction k with
 | zero => intro _; rfl
 | succ k ih =>
  intro h
  simp only [XV]
  rw [ih fun i hi => h i (by omega), h k (Nat.lt_succ_self k)]
theorem cnt_or {b v : Nat} (hb : b.testBit v = false) : ∀ k, v < k → XV (b ||| 1 <<< v) k = XV b k + 1 := by
 intro k
 induction k with
 | zero => intro h; omega
 | succ k ih =>
  intro h
  simp only [XV, bit_or]
  by_cases e : k = v
  ·subst e
   rw [hb, cnt_congr (a := b ||| 1 <<< k) (b := b) k fun i hi => by rw [bit_or]; simp; omega]
   simp
  ·rw [ih (by omega)]
   simp only [e, decide_false, Bool.or_false]
   omega
theorem or_eq {b v : Nat} (hb : b.testBit v = false) : b ||| 1 <<< v = b + 2 ^ v := by
 rw [Nat.shiftLeft_eq, Nat.one_mul]
 have hr : b % 2 ^ (v + 1) < 2 ^ v := by
  apply Nat.lt_pow_two_of_testBit
  intro i hi
  rw [Nat.testBit_mod_two_pow]
  by_cases e : i = v
  ·subst e; simp [hb]
  ·have : ¬ i < v + 1 := by omega
   simp [this]
 have hd := Nat.div_add_mod b (2 ^ (v + 1))
 have hm : b % 2 ^ (v + 1) < 2 ^ (v + 1) := Nat.mod_lt _ (Nat.pow_pos (by decide))
 generalize b % 2 ^ (v + 1) = r at *
 generalize b / 2 ^ (v + 1) = q at *
 have e1 := Nat.two_pow_add_eq_or_of_lt hm q
 have e2 := Nat.two_pow_add_eq_or_of_lt hr 1
 rw [Nat.mul_one] at e2
 have h3 : 2 ^ v + r < 2 ^ (v + 1) := by rw [Nat.pow_succ, Nat.mul_two]; omega
 have e3 := Nat.two_pow_add_eq_or_of_lt h3 q
 have e4 : b ||| 2 ^ v = 2 ^ (v + 1) * q ||| (2 ^ v ||| r) := by
  rw [← hd, e1, Nat.or_assoc, Nat.or_comm r]
 rw [e4, ← e2, ← e3, ← hd, Nat.add_comm (2 ^ v) r, Nat.add_assoc]
def off (n v : Nat) : Nat := n ^^^ (n &&& 1 <<< v)
theorem off_bit (n v j : Nat) : (off n v).testBit j = (n.testBit j && !decide (j = v)) := by
 unfold off
 have h1 : (1 <<< v).testBit j = decide (j = v) := by
  rw [Nat.shiftLeft_eq, Nat.one_mul, Nat.testBit_two_pow, Bool.eq_iff_iff, decide_eq_true_eq, decide_eq_true_eq]
  exact eq_comm
 rw [Nat.testBit_xor, Nat.testBit_and, h1]
 cases n.testBit j <;> cases decide (j = v) <;> rfl
theorem off_or {n v : Nat} (h : n.testBit v = true) : off n v ||| 1 <<< v = n := by
 apply Nat.eq_of_testBit_eq
 intro j
 rw [bit_or, off_bit]
 by_cases e : j = v
 ·subst e; simp [h]
 ·simp [e]
theorem off_le (n v : Nat) : off n v ≤ n := by
 cases h : n.testBit v with
 | true =>
  have h1 := off_or h
  have h2 : (off n v).testBit v = false := by rw [off_bit]; simp
  rw [or_eq h2] at h1
  exact Nat.le_trans (Nat.le_add_right _ (2 ^ v)) (Nat.le_of_eq h1)
 | false =>
  have : off n v = n := by
   apply Nat.eq_of_testBit_eq
   intro j
   rw [off_bit]
   by_cases e : j = v
   ·subst e; simp [h]
   ·simp [e]
  rw [this]; exact Nat.le_refl _
def Blind (S : Cfg → Bool) (v : Nat) : Prop := ∀ c d : Cfg, (∀ i, i ≠ v → c i = d i) → S c = S d
theorem Blind.off {S : Cfg → Bool} {v : Nat} (h : Blind S v) (n : Nat) : S (cfg (off n v)) = S (cfg n) := h _ _ fun i hi => by unfold cfg; rw [off_bit]; simp [hi]
theorem Blind.or {S : Cfg → Bool} {v : Nat} (h : Blind S v) (n : Nat) : S (cfg (n ||| 1 <<< v)) = S (cfg n) := h _ _ fun i hi => by unfold cfg; rw [bit_or]; simp [hi]
theorem Least.bit {S : Cfg → Bool} {v : Nat} (hS : Blind S v) (hv : v < 24) {a : Nat × Nat} (h : Least S (Option.some a)) : a.2.testBit v = false := by
 obtain ⟨h1, h2, h3, h4⟩ := h.some a rfl
 cases hb : a.2.testBit v with
 | false => rfl
 | true =>
  exfalso
  have e1 : (off a.2 v).testBit v = false := by rw [off_bit]; simp
  have e2 := off_or hb
  have e3 := h4 (off a.2 v) (Nat.lt_of_le_of_lt (off_le _ _) h1) (by rw [hS.off]; exact h3)
  have e4 : weight a.2 = weight (off a.2 v) + 1 := by
   rw [weight_cnt, weight_cnt]
   conv => lhs; rw [← e2]
   exact cnt_or e1 24 hv
  omega
def plus (v : Nat) (o : Option (Nat × Nat)) : Option (Nat × Nat) := o.map fun a => (a.1 + 1, a.2 ||| 1 <<< v)
theorem least_node {S Lo Hi : Cfg → Bool} {v : Nat} (hv : v < 24) (bl : Blind Lo v) (bh : Blind Hi v) (hS : ∀ c, S c = if c v then Hi c else Lo c) {a b : Option (Nat × Nat)} (ha : Least Lo a) (hb : Least Hi b) : Least S (better a (plus v b)) := by
 have sLo : ∀ n : Nat, n.testBit v = false → S (cfg n) = Lo (cfg n) := fun n h => by rw [hS]; unfold cfg; rw [h]; rfl
 have sHi : ∀ n : Nat, n.testBit v = true → S (cfg n) = Hi (cfg n) := fun n h => by rw [hS]; unfold cfg; rw [h]; rfl
 have cb : ∀ y, plus v b = some y → y.2 < 2 ^ 24 ∧ y.1 = weight y.2 ∧ S (cfg y.2) = true ∧ ∀ n, n < 2 ^ 24 → n.testBit v = true → S (cfg n) = true → y.1 < weight n ∨ (y.1 = weight n ∧ y.2 ≤ n) := by
  intro y hy
  cases b with
  | none => cases hy
  | some b =>
   cases hy
   obtain ⟨h1, h2, h3, h4⟩ := hb.some b rfl
   have hbit := hb.bit bh hv
   have e1 : weight (b.2 ||| 1 <<< v) = b.1 + 1 := by rw [weight_cnt, cnt_or hbit 24 hv, h2, weight_cnt]
   refine ⟨Nat.or_lt_two_pow h1 (by rw [Nat.shiftLeft_eq, Nat.one_mul]; exact Nat.pow_lt_pow_right (by decide) hv), e1.symm, ?_, fun n hn hnv hs => ?_⟩
   ·rw [sHi _ (by rw [bit_or]; simp), bh.or]; exact h3
   ·have e2 := off_or hnv
    have e3 : (off n v).testBit v = false := by rw [off_bit]; simp
    have e4 := h4 (off n v) (Nat.lt_of_le_of_lt (off_le _ _) hn) (by rw [bh.off, ← sHi n hnv]; exact hs)
    have e5 : weight n = weight (off n v) + 1 := by
     rw [weight_cnt, weight_cnt]
     conv => lhs; rw [← e2]
     exact cnt_or e3 24 hv
    have e6 : n = off n v + 2 ^ v := by rw [← or_eq e3, e2]
    have e7 : b.2 ||| 1 <<< v = b.2 + 2 ^ v := or_eq hbit
    dsimp only
    rw [e7]
    omega
 have ca : ∀ x, a = some x → x.2 < 2 ^ 24 ∧ x.1 = weight x.2 ∧ S (cfg x.2) = true ∧ ∀ n, n < 2 ^ 24 → n.testBit v = false → S (cfg n) = true → x.1 < weight n ∨ (x.1 = weight n ∧ x.2 ≤ n) := by
  intro x hx
  subst hx
  obtain ⟨h1, h2, h3, h4⟩ := ha.some x rfl
  exact ⟨h1, h2, (sLo _ (ha.bit bl hv)).trans h3, fun n hn hnv hs => h4 n hn (by rw [← sLo n hnv]; exact hs)⟩
 have na : a = none → ∀ n, n < 2 ^ 24 → n.testBit v = false → S (cfg n) = false := fun h n hn hnv => by rw [sLo n hnv]; exact ha.none h n hn
 have nb : plus v b = none → ∀ n, n < 2 ^ 24 → n.testBit v = true → S (cfg n) = false := fun h n hn hnv => by
  cases b with
  | none =>
   rw [sHi n hnv, ← bh.off]
   exact hb.none rfl _ (Nat.lt_of_le_of_lt (off_le _ _) hn)
  | some b => cases h
 generalize plus v b = y at *
 constructor
 ·intro h n hn
  cases a with
  | none =>
   rw [better_none] at h
   cases hbit : n.testBit v with
   | true => exact nb h n hn hbit
   | false => exact na rfl n hn hbit
  | some a =>
   exfalso
   cases y with
   | none => cases h
   | some y => unfold better at h; dsimp only at h; split at h <;> cases h
 ·intro r h
  cases a with
  | none =>
   rw [better_none] at h
   obtain ⟨h1, h2, h3, h4⟩ := cb r h
   refine ⟨h1, h2, h3, fun n hn hs => ?_⟩
   cases hbit : n.testBit v with
   | true => exact h4 n hn hbit hs
   | false => rw [na rfl n hn hbit] at hs; cases hs
  | some a =>
   obtain ⟨a1, a2, a3, a4⟩ := ca a rfl
   cases y with
   | none =>
    rw [better_none'] at h
    cases h
    refine ⟨a1, a2, a3, fun n hn hs => ?_⟩
    cases hbit : n.testBit v with
    | true => rw [nb rfl n hn hbit] at hs; cases hs
    | false => exact a4 n hn hbit hs
   | some y =>
    obtain ⟨b1, b2, b3, b4⟩ := cb y rfl
    unfold better at h
    dsimp only at h
    split at h
    ·rename_i hc
     cases h
     refine ⟨b1, b2, b3, fun n hn hs => ?_⟩
     cases hbit : n.testBit v with
     | true => exact b4 n hn hbit hs
     | false => have := a4 n hn hbit hs; omega
    ·rename_i hc
     cases h
     refine ⟨a1, a2, a3, fun n hn hs => ?_⟩
     cases hbit : n.testBit v with
     | true => have := b4 n hn hbit hs; omega
     | false => exact a4 n hn hbit hs
theorem least_false : Least (fun _ => false) none := ⟨fun _ _ _ => rfl, fun a h => by cases h⟩
theorem least_true : Least (fun _ => true) (some (0, 0)) := by
 refine ⟨(fun h => by cases h), (fun a h => ?_)⟩
 cases h
 have : weight 0 = 0 := by rw [weight_cnt]; rfl
 exact ⟨by decide, this.symm, rfl, fun n _ _ => by dsimp only; omega⟩
theorem sem_blind {ns : List Nd} (W : Wf ns) {p v : Nat} (h : v < var ns p) : Blind (sem ns p) v := fun c d hcd => sem_congr W p fun i h1 _ => hcd i (by omega)
end Bdd
