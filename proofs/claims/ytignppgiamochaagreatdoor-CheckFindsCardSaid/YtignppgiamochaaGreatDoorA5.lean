/- A run of the kernel form is a run of the abstract machine. -/
import Derived.Test.YtignppgiamochaaGreatDoorA4
import Derived.Test.YtignppgiamochaaGreatDoorA3
set_option linter.unusedVariables false
set_option linter.unusedSimpArgs false
namespace Go.AM
open Go
theorem XU {c : Bool} {a b : FRes} {r : AV × FH} (h : iteB c a b = some r) : (c = true ∧ a = some r) ∨ (c = false ∧ b = some r) := by
 cases c
 ·exact .inr ⟨rfl, h⟩
 ·exact .inl ⟨rfl, h⟩
theorem Xz {c : Bool} {a : FRes} {r : AV × FH} (h : iteB c a none = some r) : c = true ∧ a = some r := by
 rcases XU h with h | ⟨_, h⟩
 ·exact h
 ·cases h
theorem iteB_right {c : Bool} {a : FRes} {r : AV × FH} (h : iteB c none a = some r) : c = false ∧ a = some r := by
 rcases XU h with ⟨_, h⟩ | h
 ·cases h
 ·exact h
theorem forceN_eq (n : Nat) (k : Nat → FRes) : forceN n k = k n := by cases n <;> rfl
theorem asPtr_some {v : AV} {k : Id → Nat → FRes} {r : AV × FH} (h : asPtr v k = some r) : ∃ b o, v = .ptr b o ∧ k b o = some r := by
 cases v <;> first | exact ⟨_, _, rfl, h⟩ | (simp [asPtr] at h)
theorem asBool_some {v : AV} {k : Bool → FRes} {r : AV × FH} (h : asBool v k = some r) : ∃ b, v = .bool b ∧ k b = some r := by
 cases v <;> first | exact ⟨_, rfl, h⟩ | (simp [asBool] at h)
theorem asInt_some {v : AV} {k : IntKind → Int → FRes} {r : AV × FH} (h : asInt v k = some r) : ∃ b o, v = .int b o ∧ k b o = some r := by
 cases v <;> first | exact ⟨_, _, rfl, h⟩ | (simp [asInt] at h)
theorem asAgg_some {v : AV} {k : List AV → FRes} {r : AV × FH} (h : asAgg v k = some r) : ∃ b, v = .agg b ∧ k b = some r := by
 cases v <;> first | exact ⟨_, rfl, h⟩ | (simp [asAgg] at h)
theorem asTup_some {v : AV} {k : List AV → FRes} {r : AV × FH} (h : asTup v k = some r) : ∃ b, v = .tup b ∧ k b = some r := by
 cases v <;> first | exact ⟨_, rfl, h⟩ | (simp [asTup] at h)
theorem asStr_some {v : AV} {k : List Nat → FRes} {r : AV × FH} (h : asStr v k = some r) : ∃ b, v = .str b ∧ k b = some r := by
 cases v <;> first | exact ⟨_, rfl, h⟩ | (simp [asStr] at h)
theorem asMap_some {v : AV} {k : Id → FRes} {r : AV × FH} (h : asMap v k = some r) : ∃ b, v = .map b ∧ k b = some r := by
 cases v <;> first | exact ⟨_, rfl, h⟩ | (simp [asMap] at h)
theorem asFn_some {v : AV} {k : Fn → List AV → List AV → FRes} {r : AV × FH} (h : asFn v k = some r) : ∃ f x y, v = .fn f x y ∧ k f x y = some r := by
 cases v <;> first | exact ⟨_, _, _, rfl, h⟩ | (simp [asFn] at h)
theorem asSl_some {v : AV} {k : Id → Nat → Nat → Cap → FRes} {r : AV × FH} (h : asSl v k = some r) : ∃ b o n c, v = .sl b o n c ∧ k b o n c = some r := by
 cases v <;> first | exact ⟨_, _, _, _, rfl, h⟩ | (simp [asSl] at h)
theorem mapNil_some {v : AV} {e : FRes} {k : Id → FRes} {r : AV × FH} (h : mapNil v e k = some r) : (v = .mnil ∧ e = some r) ∨ ∃ b, v = .map b ∧ k b = some r := by
 cases v <;> first | exact .inl ⟨rfl, h⟩ | exact .inr ⟨_, rfl, h⟩ | (simp [mapNil] at h)
theorem intOr_some {v : AV} {k : IntKind → Int → FRes} {e : FRes} {r : AV × FH} (h : intOr v k e = some r) : (∃ b o, v = .int b o ∧ k b o = some r) ∨ ((∀ b o, v ≠ .int b o) ∧ e = some r) := by
 cases v <;> first | exact .inl ⟨_, _, rfl, h⟩ | exact .inr ⟨fun _ _ h => (by cases h), h⟩
theorem aggOr_eq (v : AV) (k : List AV → FRes) : aggOr v k (k [v]) = k v.cells := by cases v <;> rfl
theorem boolOr_some {v : AV} {k : Bool → FRes} {e : FRes} {r : AV × FH} (h : boolOr v k e = some r) : (∃ b, v = .bool b ∧ k b = some r) ∨ ((∀ b, v ≠ .bool b) ∧ e = some r) := by
 cases v <;> first | exact .inl ⟨_, rfl, h⟩ | exact .inr ⟨fun _ h => (by cases h), h⟩
theorem cellsF_eq (v : AV) (k : List AV → FRes) : cellsF v k = k v.cells := aggOr_eq v k
theorem asSome_some {x : OB} {k : Blk → FRes} {r : AV × FH} (h : asSome x k = some r) : ∃ b, x = some b ∧ k b = some r := by
 cases x with
 | none => cases h
 | some b => exact ⟨b, rfl, h⟩
theorem asCells_some {b : Blk} {k : Bool → Bool → TypeId → Nat → List AV → FRes} {r : AV × FH} (h : asCells b k = some r) : ∃ a c d e f, b = .cells a c d e f ∧ k a c d e f = some r := by
 cases b <;> first | exact ⟨_, _, _, _, _, rfl, h⟩ | cases h
theorem natI_some {z : Int} {k : Nat → FRes} {r : AV × FH} (h : natI z k = some r) : ∃ n, z = .ofNat n ∧ k n = some r := by
 cases z with
 | ofNat n => exact ⟨n, rfl, h⟩
 | negSucc n => cases h
theorem forceI_eq (z : Int) (k : Int → FRes) : forceI z k = k z := by
 cases z with
 | ofNat n => exact forceN_eq n _
 | negSucc n => exact forceN_eq n _
theorem lenF_eq (cs : List AV) (k : Nat → FRes) : lenF cs k = k cs.length := by
 unfold lenF
 rw [forceN_eq]
 congr 1
 induction cs with
 | nil => rfl
 | cons c cs ih => simpa using ih
theorem lenL_eq (cs : List Nat) (k : Nat → FRes) : lenL cs k = k cs.length := by
 unfold lenL
 rw [forceN_eq]
 congr 1
 induction cs with
 | nil => rfl
 | cons c cs ih => simpa using ih
theorem dropF_some {n : Nat} : ∀ {cs : List AV} {k : List AV → FRes} {r : AV × FH}, dropF n cs k = some r → n ≤ cs.length ∧ k (cs.drop n) = some r := by
 induction n with
 | zero => intro cs k r h; exact ⟨Nat.zero_le _, h⟩
 | succ n ih =>
  intro cs k r h
  cases cs with
  | nil => cases h
  | cons c cs =>
   obtain ⟨h1, h2⟩ := ih (cs := cs) (k := k) h
   exact ⟨by simpa using h1, by simpa using h2⟩
theorem takeF_some {n : Nat} : ∀ {cs : List AV} {k : List AV → FRes} {r : AV × FH}, takeF n cs k = some r → n ≤ cs.length ∧ k (cs.take n) = some r := by
 induction n with
 | zero => intro cs k r h; exact ⟨Nat.zero_le _, h⟩
 | succ n ih =>
  intro cs k r h
  cases cs with
  | nil => cases h
  | cons c cs =>
   obtain ⟨h1, h2⟩ := ih (cs := cs) (k := fun l => k (c :: l)) h
   exact ⟨by simpa using h1, by simpa using h2⟩
theorem headF_some {cs : List AV} {k : AV → FRes} {r : AV × FH} (h : headF cs k = some r) : ∃ v l, cs = v :: l ∧ k v = some r := by
 cases cs with
 | nil => cases h
 | cons c cs => exact ⟨c, cs, rfl, h⟩
theorem dropL_some {n : Nat} : ∀ {cs : List Nat} {k : List Nat → FRes} {r : AV × FH}, dropL n cs k = some r → n ≤ cs.length ∧ k (cs.drop n) = some r := by
 induction n with
 | zero => intro cs k r h; exact ⟨Nat.zero_le _, h⟩
 | succ n ih =>
  intro cs k r h
  cases cs with
  | nil => cases h
  | cons c cs =>
   obtain ⟨h1, h2⟩ := ih (cs := cs) (k := k) h
   exact ⟨by simpa using h1, by simpa using h2⟩
theorem takeL_some {n : Nat} : ∀ {cs : List Nat} {k : List Nat → FRes} {r : AV × FH}, takeL n cs k = some r → n ≤ cs.length ∧ k (cs.take n) = some r := by
 induction n with
 | zero => intro cs k r h; exact ⟨Nat.zero_le _, h⟩
 | succ n ih =>
  intro cs k r h
  cases cs with
  | nil => cases h
  | cons c cs =>
   obtain ⟨h1, h2⟩ := ih (cs := cs) (k := fun l => k (c :: l)) h
   exact ⟨by simpa using h1, by simpa using h2⟩
theorem nthL_some {n : Nat} : ∀ {cs : List Nat} {k : Nat → FRes} {r : AV × FH}, nthL n cs k = some r → ∃ c, cs[n]? = some c ∧ k c = some r := by
 induction n with
 | zero =>
  intro cs k r h
  cases cs with
  | nil => cases h
  | cons c cs => exact ⟨c, rfl, h⟩
 | succ n ih =>
  intro cs k r h
  cases cs with
  | nil => cases h
  | cons c cs => simpa using ih (cs := cs) (k := k) h
theorem nthC_some {n : Nat} : ∀ {cs : Ch} {k : OB → FRes} {r : AV × FH}, nthC n cs k = some r → ∃ c, cs[n]? = some c ∧ k c = some r := by
 induction n with
 | zero =>
  intro cs k r h
  cases cs with
  | nil => cases h
  | cons c cs => exact ⟨c, rfl, h⟩
 | succ n ih =>
  intro cs k r h
  cases cs with
  | nil => cases h
  | cons c cs => simpa using ih (cs := cs) (k := k) h
theorem setC_some {n : Nat} : ∀ {cs : Ch} {x : OB} {k : Ch → FRes} {r : AV × FH}, setC n cs x k = some r → k (cs.set n x) = some r := by
 induction n with
 | zero =>
  intro cs x k r h
  cases cs with
  | nil => cases h
  | cons c cs => exact h
 | succ n ih =>
  intro cs x k r h
  cases cs with
  | nil => cases h
  | cons c cs => exact ih (cs := cs) (k := fun l => k (c :: l)) h
theorem overF_some {vs : List AV} : ∀ {cs : List AV} {k : List AV → FRes} {r : AV × FH}, overF cs vs k = some r → ∃ l, setAt.over cs vs = some l ∧ k l = some r := by
 induction vs with
 | nil => intro cs k r h; exact ⟨cs, by cases cs <;> rfl, h⟩
 | cons v vs ih =>
  intro cs k r h
  cases cs with
  | nil => cases h
  | cons c cs =>
   obtain ⟨l, h1, h2⟩ := ih (cs := cs) (k := fun l => k (v :: l)) h
   exact ⟨v :: l, by simp [setAt.over, h1], h2⟩
theorem setNF_some {n : Nat} : ∀ {cs vs : List AV} {k : List AV → FRes} {r : AV × FH}, setNF n cs vs k = some r → ∃ l, setAt cs n vs = some l ∧ k l = some r := by
 induction n with
 | zero =>
  intro cs vs k r h
  obtain ⟨l, h1, h2⟩ := overF_some h
  exact ⟨l, by cases cs <;> exact h1, h2⟩
 | succ n ih =>
  intro cs vs k r h
  cases cs with
  | nil => cases h
  | cons c cs =>
   obtain ⟨l, h1, h2⟩ := ih (cs := cs) (vs := vs) (k := fun l => k (c :: l)) h
   exact ⟨c :: l, by simp [setAt, h1], h2⟩
theorem takeAt_of {cs : List AV} {o n : Nat} (h : o ≤ cs.length) (hn : n ≤ (cs.drop o).length) : takeAt cs o n = some ((cs.drop o).take n) := by
 induction o generalizing cs with
 | zero =>
  have go : ∀ (n : Nat) (l : List AV), n ≤ l.length → takeAt.go l n = some (l.take n) := by
   intro n
   induction n with
   | zero => intro l _; cases l <;> rfl
   | succ n ih =>
    intro l hl
    cases l with
    | nil => simp at hl
    | cons a l => simp [takeAt.go, ih l (by simpa using hl)]
  cases cs with
  | nil => exact go n [] hn
  | cons c cs => exact go n (c :: cs) hn
 | succ o ih =>
  cases cs with
  | nil => simp at h
  | cons c cs =>
   simp only [takeAt, List.drop_succ_cons]
   exact ih (by simpa using h) (by simpa using hn)
section
variable {α : Type}
def Q6.get (q : Q6 α) (n : Nat) : α := (((((q.sel (n / 1024 % 4)).sel (n / 256 % 4)).sel (n / 64 % 4)).sel (n / 16 % 4)).sel (n / 4 % 4)).sel (n % 4)
def Q6.put (x : α) (q : Q6 α) (n : Nat) : Q6 α := upd (n / 1024 % 4) (upd (n / 256 % 4) (upd (n / 64 % 4) (upd (n / 16 % 4) (upd (n / 4 % 4) (upd (n % 4) fun _ => x))))) q
theorem Q6.get_put (q : Q6 α) (m n : Nat) (x : α) (hm : m < 4096) (hn : n < 4096) : (Q6.put x q m).get n = if m = n then x else q.get n := by
 unfold Q6.put Q6.get
 have l : ∀ a : Nat, a % 4 < 4 := fun a => Nat.mod_lt _ (by omega)
 rw [upd_sel _ _ _ _ (l _) (l _)]
 by_cases h3 : m / 1024 % 4 = n / 1024 % 4
 ·rw [if_pos h3, upd_sel _ _ _ _ (l _) (l _)]
  by_cases h4 : m / 256 % 4 = n / 256 % 4
  ·rw [if_pos h4, upd_sel _ _ _ _ (l _) (l _)]
   by_cases h5 : m / 64 % 4 = n / 64 % 4
   ·rw [if_pos h5, upd_sel _ _ _ _ (l _) (l _)]
    by_cases h6 : m / 16 % 4 = n / 16 % 4
    ·rw [if_pos h6, upd_sel _ _ _ _ (l _) (l _)]
     by_cases h7 : m / 4 % 4 = n / 4 % 4
     ·rw [if_pos h7, upd_sel _ _ _ _ (l _) (l _)]
      by_cases h8 : m % 4 = n % 4
      ·rw [if_pos h8, if_pos (by omega)]
      ·rw [if_neg h8, if_neg (by omega)]
     ·rw [if_neg h7, if_neg (by omega)]
    ·rw [if_neg h6, if_neg (by omega)]
   ·rw [if_neg h5, if_neg (by omega)]
  ·rw [if_neg h4, if_neg (by omega)]
 ·rw [if_neg h3, if_neg (by omega)]
theorem n4_eq (f : α → (α → FRes) → FRes) (g : α → α) (hf : ∀ a k, f a k = k (g a)) (d : Nat) (c : N4 α) (k : N4 α → FRes) : n4 f d c k = k (upd d g c) := by
 cases c with
 | mk a0 a1 a2 a3 =>
  unfold n4 upd N4.set N4.sel
  dsimp only
  cases h2 : Nat.ble 2 d <;> cases h1 : Nat.ble 1 d <;> cases h3 : Nat.ble 3 d <;> simp only [hf, cond_true, cond_false]
theorem l4_eq (f : α → (Ch → FRes) → FRes) (g : α → Ch) (hf : ∀ a k, f a k = k (g a)) (d : Nat) (c : N4 α) (k : Ch → FRes) : l4 f d c k = k (g (c.sel d)) := by
 cases c with
 | mk a0 a1 a2 a3 =>
  unfold l4 N4.sel
  dsimp only
  cases h2 : Nat.ble 2 d <;> cases h1 : Nat.ble 1 d <;> cases h3 : Nat.ble 3 d <;> simp only [hf, cond_true, cond_false]
end
theorem putQ_eq (x : Ch) (n : Nat) (q : Q6 Ch) (k : Q6 Ch → FRes) : putQ x n q k = k (Q6.put x q n) := by
 unfold putQ Q6.put
 exact n4_eq _ _ (fun a k => n4_eq _ _ (fun a k => n4_eq _ _ (fun a k => n4_eq _ _ (fun a k => n4_eq _ _ (fun a k => n4_eq _ _ (fun a k => rfl) _ a k) _ a k) _ a k) _ a k) _ a k) _ q k
theorem getQ_eq (n : Nat) (q : Q6 Ch) (k : Ch → FRes) : getQ n q k = k (Q6.get q n) := by
 unfold getQ Q6.get
 rw [l4_eq _ _ (fun a k => l4_eq _ _ (fun a k => l4_eq _ _ (fun a k => l4_eq _ _ (fun a k => l4_eq _ _ (fun a k => l4_eq _ (fun a => a) (fun a k => rfl) _ a k) _ a k) _ a k) _ a k) _ a k) _ q k]
 rfl
def FH.get (h : FH) (id : Nat) : Option OB :=
 if h.n - 1 - id < h.c then h.a[h.n - 1 - id]? else if h.n - 1 - id - h.c ≤ 15 then h.b[h.n - 1 - id - h.c]? else (h.q.get (id / 16))[15 - id % 16]?
structure RepH (f : FH) (h : Heap) : Prop where
 next : f.n = h.next
 grp : f.n % 16 = f.c
 lim : f.n < 65552
 get : ∀ id, id < f.n → f.get id = some (h.get id)
theorem ble_true {m n : Nat} (h : Nat.ble m n = true) : m ≤ n := Nat.le_of_ble_eq_true h
theorem ble_lt {m n : Nat} (h : Nat.ble m n = false) : n < m := by
 rcases Nat.lt_or_ge n m with h1 | h1
 ·exact h1
 ·rw [Nat.ble_eq_true_of_le h1] at h; cases h
theorem ble_succ {m n : Nat} (h : Nat.ble (Nat.succ m) n = true) : m < n := Nat.le_of_ble_eq_true h
theorem ble_succ' {m n : Nat} (h : Nat.ble (Nat.succ m) n = false) : n ≤ m := Nat.le_of_lt_succ (ble_lt h)
theorem getH_some {id : Nat} {f : FH} {h : Heap} (R : RepH f h) {k : OB → FRes} {r : AV × FH} (hk : getH id f k = some r) : id < f.n ∧ k (h.get id) = some r := by
 obtain ⟨n, c, a, b, q⟩ := f
 unfold getH at hk
 dsimp only at hk
 obtain ⟨h1, hk⟩ := Xz hk
 have h1' : id < n := ble_succ h1
 refine ⟨h1', ?_⟩
 have hg := R.get id h1'
 unfold FH.get at hg
 dsimp only at hg
 have hp : Nat.sub (Nat.pred n) id = n - 1 - id := rfl
 rw [hp] at hk
 rcases XU hk with ⟨h2, hk⟩ | ⟨h2, hk⟩
 ·have h2' := ble_succ h2
  rw [if_pos h2'] at hg
  obtain ⟨x, hx, hk⟩ := nthC_some hk
  rw [hg] at hx; cases hx
  exact hk
 ·have h2' := ble_succ' h2
  rw [if_neg (by omega)] at hg
  have hs : Nat.sub (n - 1 - id) c = n - 1 - id - c := rfl
  rw [hs] at hk
  rcases XU hk with ⟨h3, hk⟩ | ⟨h3, hk⟩
  ·have h3' := ble_true h3
   rw [if_pos h3'] at hg
   obtain ⟨x, hx, hk⟩ := nthC_some hk
   rw [hg] at hx; cases hx
   exact hk
  ·have h3' := ble_lt h3
   rw [if_neg (by omega)] at hg
   rw [getQ_eq] at hk
   obtain ⟨x, hx, hk⟩ := nthC_some hk
   have : (q.get (id / 16))[15 - id % 16]? = some x := hx
   rw [hg] at this; cases this
   exact hk
theorem newH_some {x : Blk} {f : FH} {h : Heap} (R : RepH f h) {k : Id → FH → FRes} {r : AV × FH} (hk : newH x f k = some r) : ∃ f', RepH f' (h.new x) ∧ k h.next f' = some r := by
 obtain ⟨n, c, a, b, q⟩ := f
 obtain ⟨hn, hg, hl, hget⟩ := R
 dsimp only at hn hg hl hget
 unfold newH at hk
 dsimp only at hk
 rw [forceN_eq] at hk
 rcases XU hk with ⟨h1, hk1⟩ | ⟨h1, hk1⟩
 ·have h1' := ble_true h1
  rw [forceN_eq] at hk1
  refine ⟨⟨n + 1, c + 1, some x :: a, b, q⟩, ?_, by rw [← hn]; exact hk1⟩
  refine ⟨by simp [Heap.new, incr, hn], by dsimp only; omega, by dsimp only; omega, ?_⟩
  intro id hid
  dsimp only at hid
  rw [Heap.get_new]
  unfold FH.get
  dsimp only
  by_cases he : h.next = id
  ·have he' : n = id := hn.trans he
   rw [if_pos he, if_pos (by omega)]
   have : n + 1 - 1 - id = 0 := by omega
   rw [this]; rfl
  ·have he' : n ≠ id := fun e => he (hn.symm.trans e)
   rw [if_neg he]
   have hid' : id < n := by omega
   have := hget id hid'
   unfold FH.get at this
   dsimp only at this
   rw [← this]
   have e1 : n + 1 - 1 - id = (n - 1 - id) + 1 := by omega
   rw [e1]
   by_cases h2 : n - 1 - id < c
   ·rw [if_pos h2, if_pos (by omega)]
    simp
   ·rw [if_neg h2, if_neg (by omega)]
    have e2 : n - 1 - id + 1 - (c + 1) = n - 1 - id - c := by omega
    rw [e2]
 ·have h1' := ble_lt h1
  have hc : c = 15 := by omega
  subst hc
  have main : ∀ q', (∀ i, i + 1 < n / 16 → Q6.get q' i = Q6.get q i) → (16 ≤ n → Q6.get q' (n / 16 - 1) = b) → n ≤ 65536 → RepH ⟨n + 1, 0, [], some x :: a, q'⟩ (h.new x) := by
   intro q' hq1 hq2 hlim
   refine ⟨by simp [Heap.new, incr, hn], by dsimp only; omega, by dsimp only; omega, ?_⟩
   intro id hid
   dsimp only at hid
   rw [Heap.get_new]
   unfold FH.get
   dsimp only
   rw [if_neg (by omega)]
   by_cases he : h.next = id
   ·have he' : n = id := hn.trans he
    rw [if_pos he, if_pos (by omega)]
    have : n + 1 - 1 - id - 0 = 0 := by omega
    rw [this]; rfl
   ·have he' : n ≠ id := fun e => he (hn.symm.trans e)
    rw [if_neg he]
    have hid' : id < n := by omega
    have := hget id hid'
    unfold FH.get at this
    dsimp only at this
    rw [← this]
    by_cases h2 : n - 1 - id < 15
    ·rw [if_pos h2, if_pos (by omega)]
     have e1 : n + 1 - 1 - id - 0 = (n - 1 - id) + 1 := by omega
     rw [e1]; simp
    ·rw [if_neg h2, if_neg (by omega)]
     by_cases h3 : n - 1 - id - 15 ≤ 15
     ·rw [if_pos h3, show id / 16 = n / 16 - 1 by omega, hq2 (by omega)]
      congr 1
      omega
     ·rw [if_neg h3, hq1 (id / 16) (by omega)]
  rcases XU hk1 with ⟨h2, hk2⟩ | ⟨h2, hk2⟩
  ·have h2' := ble_true h2
   obtain ⟨h3, hk3⟩ := Xz hk2
   have h3' := ble_true h3
   rw [putQ_eq] at hk3
   refine ⟨_, main _ ?_ ?_ (by omega), by rw [← hn]; exact hk3⟩
   ·intro i hi
    have e : Nat.sub (Nat.div n 16) 1 = n / 16 - 1 := rfl
    rw [e, Q6.get_put _ _ _ _ (by omega) (by omega), if_neg (by omega)]
   ·intro _
    have e : Nat.sub (Nat.div n 16) 1 = n / 16 - 1 := rfl
    rw [e, Q6.get_put _ _ _ _ (by omega) (by omega), if_pos rfl]
  ·have h2' := ble_lt h2
   exact ⟨_, main q (fun _ _ => rfl) (fun h => by omega) (by omega), by rw [← hn]; exact hk2⟩
def Heap.with (h : Heap) (x : OB) (id : Id) : Heap := ⟨h.t.put x id, h.next⟩
theorem Heap.get_with (h : Heap) (x : OB) (b c : Id) : (h.with x b).get c = if b = c then x else h.get c := by
 simp [Heap.with, Heap.get, Tr.get_put]
theorem putH_some {x : OB} {id : Nat} {f : FH} {h : Heap} (R : RepH f h) {k : FH → FRes} {r : AV × FH} (hk : putH x id f k = some r) : ∃ f', RepH f' (h.with x id) ∧ k f' = some r := by
 obtain ⟨n, c, a, b, q⟩ := f
 obtain ⟨hn, hg, hl, hget⟩ := R
 dsimp only at hn hg hl hget
 unfold putH at hk
 dsimp only at hk
 obtain ⟨h1, hk1⟩ := Xz hk
 have h1' : id < n := ble_succ h1
 have hold := hget id h1'
 unfold FH.get at hold
 dsimp only at hold
 have hp : Nat.sub (Nat.pred n) id = n - 1 - id := rfl
 rw [hp] at hk1
 rcases XU hk1 with ⟨h2, hk2⟩ | ⟨h2, hk2⟩
 ·have h2' := ble_succ h2
  rw [if_pos (by omega)] at hold
  have hk3 := setC_some hk2
  refine ⟨_, ⟨hn, hg, hl, ?_⟩, hk3⟩
  intro j hj
  dsimp only at hj
  have hj' := hget j hj
  unfold FH.get at hj' ⊢
  dsimp only at hj' ⊢
  rw [Heap.get_with]
  by_cases he : id = j
  ·subst he
   rw [if_pos rfl, if_pos (by omega)]
   have := (List.getElem?_eq_some_iff.1 hold).1
   simp [this]
  ·have he' : @Ne Nat id j := he
   rw [if_neg he, ← hj']
   by_cases h4 : n - 1 - j < c
   ·rw [if_pos h4, if_pos h4, List.getElem?_set_ne (by omega)]
   ·rw [if_neg h4, if_neg h4]
 ·have h2' := ble_succ' h2
  rw [if_neg (by omega)] at hold
  have hs : Nat.sub (n - 1 - id) c = n - 1 - id - c := rfl
  rw [hs] at hk2
  rcases XU hk2 with ⟨h3, hk3⟩ | ⟨h3, hk3⟩
  ·have h3' := ble_true h3
   rw [if_pos h3'] at hold
   have hk4 := setC_some hk3
   refine ⟨_, ⟨hn, hg, hl, ?_⟩, hk4⟩
   intro j hj
   dsimp only at hj
   have hj' := hget j hj
   unfold FH.get at hj' ⊢
   dsimp only at hj' ⊢
   rw [Heap.get_with]
   by_cases he : id = j
   ·subst he
    rw [if_pos rfl, if_neg (by omega), if_pos h3']
    have := (List.getElem?_eq_some_iff.1 hold).1
    simp [this]
   ·have he' : @Ne Nat id j := he
    rw [if_neg he, ← hj']
    by_cases h4 : n - 1 - j < c
    ·rw [if_pos h4, if_pos h4]
    ·rw [if_neg h4, if_neg h4]
     by_cases h5 : n - 1 - j - c ≤ 15
     ·rw [if_pos h5, if_pos h5, List.getElem?_set_ne (by omega)]
     ·rw [if_neg h5, if_neg h5]
  ·have h3' := ble_lt h3
   rw [if_neg (by omega)] at hold
   rw [getQ_eq] at hk3
   have hk4 := setC_some hk3
   rw [putQ_eq] at hk4
   refine ⟨_, ⟨hn, hg, hl, ?_⟩, hk4⟩
   intro j hj
   dsimp only at hj
   have hj' := hget j hj
   unfold FH.get at hj' ⊢
   dsimp only at hj' ⊢
   rw [Heap.get_with]
   have ed : Nat.div id 16 = id / 16 := rfl
   have em : Nat.sub 15 (Nat.mod id 16) = 15 - id % 16 := rfl
   rw [ed, em]
   by_cases he : id = j
   ·subst he
    rw [if_pos rfl, if_neg (by omega), if_neg (by omega), Q6.get_put _ _ _ _ (by omega) (by omega), if_pos rfl]
    have := (List.getElem?_eq_some_iff.1 hold).1
    simp [this]
   ·have he' : @Ne Nat id j := he
    rw [if_neg he, ← hj']
    by_cases h4 : n - 1 - j < c
    ·rw [if_pos h4, if_pos h4]
    ·rw [if_neg h4, if_neg h4]
     by_cases h5 : n - 1 - j - c ≤ 15
     ·rw [if_pos h5, if_pos h5]
     ·rw [if_neg h5, if_neg h5, Q6.get_put _ _ _ _ (by omega) (by omega)]
      by_cases h6 : id / 16 = j / 16
      ·rw [if_pos h6, h6, List.getElem?_set_ne (by omega)]
      ·rw [if_neg h6]
end Go.AM
namespace Go.AM
open Go
variable {P : List Nat} {σ : Ov} {fr : Fr} {t : Tm} {f : FH} {h : Heap} {k : KV} {r : AV × FH}
structure Ag (P : List Nat) (σ : Ov) (fr : Fr) (t : Tm) : Prop where
 keep : ∀ p, kept P p = true → getS p fr = t.get p
 loc : ∀ p v, kept P p = false → look σ p = some v → t.get p = v
theorem Xr (A : Ag P σ fr t) {x : Opd} {g : AV → FRes} (hk : ev1 P σ fr x g = some r) : g (x.ev t) = some r := by
 unfold ev1 at hk
 split at hk
 ·exact hk
 ·rename_i p
  cases hp : kept P p with
  | true =>
   rw [hp] at hk
   rw [A.keep p hp] at hk
   exact hk
  | false =>
   rw [hp] at hk
   dsimp only [cond_false] at hk
   split at hk
   ·rename_i v hv
    have := A.loc p v hp hv
    show g (t.get p) = some r
    rw [this]; exact hk
   ·cases hk
theorem evO_some (A : Ag P σ fr t) {x : Option Opd} {g : Option AV → FRes} (hk : evO P σ fr x g = some r) : g (x.map (·.ev t)) = some r := by
 cases x with
 | none => exact hk
 | some x => exact Xr A (g := fun v => g (some v)) hk
theorem evL_some (A : Ag P σ fr t) {x : List Opd} : ∀ {g : List AV → FRes}, evL P σ fr x g = some r → g (x.map (·.ev t)) = some r := by
 induction x with
 | nil => intro g hk; exact hk
 | cons x l ih =>
  intro g hk
  have h1 := Xr A (g := fun v => evL P σ fr l fun l => g (v :: l)) hk
  exact ih h1
theorem evPs_some (A : Ag P σ fr t) {x : List (Nat × Nat × Opd)} : ∀ {g : List (Nat × Nat × AV) → FRes}, evPs P σ fr x g = some r → g (evParts t x) = some r := by
 induction x with
 | nil => intro g hk; exact hk
 | cons x l ih =>
  obtain ⟨a, b, x⟩ := x
  intro g hk
  have h1 := Xr A (g := fun v => evPs P σ fr l fun l => g ((a, b, v) :: l)) hk
  exact ih h1
def Dv (x : Option ARes) (k : KV) (r : AV × FH) : Prop := ∃ v h' f', x = some (.val v h') ∧ RepH f' h' ∧ k v f' = some r
def Ds (x : Option ARes) (k : KV) (r : AV × FH) : Prop := ∃ h' f', x = some (.skip h') ∧ RepH f' h' ∧ k undefA f' = some r
theorem Dv.same (R : RepH f h) {v : AV} {x : Option ARes} (hx : x = some (.val v h)) (hk : k v f = some r) : Dv x k r := ⟨v, h, f, hx, R, hk⟩
theorem vK_some {x : Option AV} (hk : vK x f k = some r) : ∃ v, x = some v ∧ k v f = some r := by
 cases x with
 | none => cases hk
 | some v => exact ⟨v, rfl, hk⟩
theorem kNum_inj {i j : IntKind} (h : Nat.beq (kNum i) (kNum j) = true) : i = j := by
 cases i <;> cases j <;> first | rfl | (exact absurd h (by decide))
theorem maxF_eq (i : IntKind) : maxF i = Xo i := by cases i <;> rfl
theorem normF_eq (i : IntKind) (z : Int) (g : Int → FRes) : normF i z g = g (norm i z) := by
 cases z with
 | ofNat n =>
  unfold normF norm
  dsimp only
  rw [maxF_eq]
  cases hb : Nat.ble n (Xo i) with
  | true => exact forceN_eq n _
  | false =>
   dsimp only [cond_false]
   rw [forceI_eq]
 | negSucc n =>
  show forceI _ g = _
  rw [forceI_eq]
theorem addF_eq (x y : Int) : addF x y = addI x y := by cases x <;> cases y <;> rfl
theorem subF_eq (x y : Int) : subF x y = subI x y := by
 cases x with
 | ofNat a =>
  cases y with
  | ofNat b =>
   unfold subF subI
   dsimp only
   cases hb : Nat.ble b a <;> rfl
  | negSucc b => rfl
 | negSucc a => rfl
theorem leF_eq (x y : Int) : leF x y = leI x y := by cases x <;> cases y <;> rfl
theorem eqF_eq (x y : Int) : eqF x y = eqI x y := by cases x <;> cases y <;> rfl
theorem notF_eq (b : Bool) : notF b = !b := by cases b <;> rfl
theorem do_pick (R : RepH f h) {c a b : Opd} (hk : XR (c.ev t) (a.ev t) (b.ev t) f k = some r) : Dv (aop (.pick c a b) t h) k r := by
 obtain ⟨x, hx, hk⟩ := asBool_some hk
 rcases XU hk with ⟨h1, hk⟩ | ⟨h1, hk⟩ <;> subst h1 <;> exact .same R (by simp only [aop, hx]) hk
theorem do_alloc (R : RepH f h) {e : TypeId} {zs : List AV} (hk : Xq e zs.length zs f k = some r) : Dv (aop (.alloc e zs) t h) k r := by
 obtain ⟨f', R', hk⟩ := newH_some R hk
 exact ⟨_, _, f', rfl, R', hk⟩
theorem do_box (R : RepH f h) {e : TypeId} {x : Opd} (hk : oBox e (x.ev t) f k = some r) : Dv (aop (.box e x) t h) k r := by
 unfold oBox at hk
 rw [cellsF_eq, lenF_eq] at hk
 obtain ⟨f', R', hk⟩ := newH_some R hk
 exact ⟨_, _, f', rfl, R', hk⟩
theorem cells_at (R : RepH f h) {b : Id} {g : OB → FRes} (hk : getH b f g = some r) : g (h.get b) = some r := (getH_some R hk).2
theorem do_load1 (R : RepH f h) {x : Opd} {n : Nat} (hk : Xc (x.ev t) f k = some r) : Dv (aop (.load ⟨false, n⟩ x) t h) k r := by
 obtain ⟨b, o, hx, hk⟩ := asPtr_some hk
 have hk := cells_at R hk
 obtain ⟨y, hy, hk⟩ := asSome_some hk
 obtain ⟨_, _, _, _, cs, rfl, hk⟩ := asCells_some hk
 obtain ⟨h1, hk⟩ := dropF_some hk
 obtain ⟨v, l, hl, hk⟩ := headF_some hk
 refine .same R (v := v) ?_ hk
 have : takeAt cs o 1 = some [v] := by
  rw [takeAt_of h1 (by rw [hl]; simp), hl]; rfl
 simp only [aop, hx, hy, partA, this, valOf, Option.map_some]
theorem do_loadN (R : RepH f h) {x : Opd} {n : Nat} (hk : Xb n (x.ev t) f k = some r) : Dv (aop (.load ⟨true, n⟩ x) t h) k r := by
 obtain ⟨b, o, hx, hk⟩ := asPtr_some hk
 have hk := cells_at R hk
 obtain ⟨y, hy, hk⟩ := asSome_some hk
 obtain ⟨_, _, _, _, cs, rfl, hk⟩ := asCells_some hk
 obtain ⟨h1, hk⟩ := dropF_some hk
 obtain ⟨h2, hk⟩ := takeF_some hk
 refine .same R (v := .agg ((cs.drop o).take n)) ?_ hk
 simp only [aop, hx, hy, partA, takeAt_of h1 h2, valOf, Option.map_some]
theorem do_fieldAddr (R : RepH f h) {x : Opd} {off : Nat} (hk : Xa off (x.ev t) f k = some r) : Dv (aop (.fieldAddr off x) t h) k r := by
 obtain ⟨b, o, hx, hk⟩ := asPtr_some hk
 rw [forceN_eq] at hk
 exact .same R (by simp only [aop, hx]; rfl) hk
theorem do_extract (R : RepH f h) {x : Opd} {i : Nat} (hk : Xk i (x.ev t) f k = some r) : Dv (aop (.extract i x) t h) k r := by
 obtain ⟨l, hx, hk⟩ := asTup_some hk
 obtain ⟨h1, hk⟩ := dropF_some hk
 obtain ⟨v, l', hl, hk⟩ := headF_some hk
 exact .same R (by simp only [aop, hx, hl]) hk
theorem natOf_ofNat (i : IntKind) (n : Nat) : natOf (.int i (.ofNat n)) = some n := rfl
theorem do_indexSl (R : RepH f h) {x y : Opd} {z : Nat} (hk : Xg z (x.ev t) (y.ev t) f k = some r) : Dv (aop (.indexSl z x y) t h) k r := by
 obtain ⟨b, o, n, c, hx, hk⟩ := asSl_some hk
 obtain ⟨i, m, hy, hk⟩ := asInt_some hk
 obtain ⟨m, rfl, hk⟩ := natI_some hk
 obtain ⟨h1, hk⟩ := Xz hk
 rw [forceN_eq] at hk
 have h2 : Nat.blt m n = true := h1
 exact .same R (by simp only [aop, hx, hy, natOf_ofNat, h2, cond_true]; rfl) hk
theorem do_indexArr (R : RepH f h) {x y : Opd} {n z : Nat} (hk : oIndexArr n z (x.ev t) (y.ev t) f k = some r) : Dv (aop (.indexArr n z x y) t h) k r := by
 obtain ⟨b, o, hx, hk⟩ := asPtr_some hk
 obtain ⟨i, m, hy, hk⟩ := asInt_some hk
 obtain ⟨m, rfl, hk⟩ := natI_some hk
 obtain ⟨h1, hk⟩ := Xz hk
 rw [forceN_eq] at hk
 have h2 : Nat.blt m n = true := h1
 exact .same R (by simp only [aop, hx, hy, natOf_ofNat, h2, cond_true]; rfl) hk
theorem ints2_some {op : BinOp} {x y : AV} {k' : KV} {g : IntKind → Int → Int → FRes} (hk : ints2 op x y f k' g = some r) :
  (∃ i a b, x = .int i a ∧ y = .int i b ∧ g i a b = some r) ∨ (∃ v, bin op x y = some v ∧ k' v f = some r) := by
 unfold ints2 at hk
 rcases intOr_some hk with ⟨i, a, h1, hk1⟩ | ⟨_, hk1⟩
 ·obtain ⟨j, b, h2, hk2⟩ := asInt_some hk1
  obtain ⟨h3, hk3⟩ := Xz hk2
  have h4 := kNum_inj h3
  exact .inl ⟨i, a, b, h1, by rw [h2, h4], hk3⟩
 ·unfold binG at hk1
  split at hk1
  ·rename_i v hv; exact .inr ⟨v, hv, hk1⟩
  ·cases hk1
theorem boolK_eq (c : Bool) (f : FH) (k : KV) : boolK c f k = k (.bool c) f := by cases c <;> rfl
theorem do_bin (R : RepH f h) {op : BinOp} {x y : Opd} {v : AV} (hv : bin op (x.ev t) (y.ev t) = some v) (hk : k v f = some r) : Dv (aop (.bin op x y) t h) k r :=
 .same R (by simp only [aop, hv, valOf, Option.map_some]) hk
theorem iB_some {op : BinOp} {x y : AV} {g : IntKind → Nat → Nat → FRes} {e : FRes} (hk : iB op x y g e = some r) :
  (∃ i a b, x = .int i (.ofNat a) ∧ y = .int i (.ofNat b) ∧ Nat.ble a (Xo i) = true ∧ Nat.ble b (Xo i) = true ∧ g i a b = some r) ∨ e = some r := by
 unfold iB at hk
 rcases intOr_some hk with ⟨i, a, h1, hk1⟩ | ⟨_, hk1⟩
 ·obtain ⟨j, b, h2, hk2⟩ := asInt_some hk1
  rcases XU hk2 with ⟨h3, hk3⟩ | ⟨_, hk3⟩
  ·have h4 := kNum_inj h3
   obtain ⟨a', h5, hk4⟩ := natI_some hk3
   obtain ⟨b', h6, hk5⟩ := natI_some hk4
   rcases XU hk5 with ⟨h7, hk6⟩ | ⟨_, hk6⟩
   ·rcases XU hk6 with ⟨h8, hk7⟩ | ⟨_, hk7⟩
    ·rw [maxF_eq] at h7 h8
     exact .inl ⟨i, a', b', by rw [h1, h5], by rw [h2, h6, h4], h7, h8, hk7⟩
    ·exact .inr hk7
   ·exact .inr hk6
  ·exact .inr hk3
 ·exact .inr hk1
theorem binG_some {op : BinOp} {x y : AV} (hk : binG op x y f k = some r) : ∃ v, bin op x y = some v ∧ k v f = some r := by
 unfold binG at hk
 split at hk
 ·rename_i v hv; exact ⟨v, hv, hk⟩
 ·cases hk
theorem do_dBin (R : RepH f h) {op : BinOp} {x y : Opd} (hk : dBin op (x.ev t) (y.ev t) f k = some r) : Dv (aop (.bin op x y) t h) k r := by
 unfold dBin at hk
 split at hk
 ·rcases ints2_some hk with ⟨i, a, b, h1, h2, hk⟩ | ⟨v, hv, hk⟩
  ·rw [normF_eq, addF_eq] at hk
   exact do_bin R (by rw [h1, h2]; simp [bin, binI]) hk
  ·exact do_bin R hv hk
 ·rcases ints2_some hk with ⟨i, a, b, h1, h2, hk⟩ | ⟨v, hv, hk⟩
  ·rw [normF_eq, subF_eq] at hk
   exact do_bin R (by rw [h1, h2]; simp [bin, binI]) hk
  ·exact do_bin R hv hk
 ·rcases ints2_some hk with ⟨i, a, b, h1, h2, hk⟩ | ⟨v, hv, hk⟩
  ·rw [boolK_eq, notF_eq, leF_eq] at hk
   exact do_bin R (by rw [h1, h2]; simp [bin, binI, boolV]) hk
  ·exact do_bin R hv hk
 ·rcases ints2_some hk with ⟨i, a, b, h1, h2, hk⟩ | ⟨v, hv, hk⟩
  ·rw [boolK_eq, notF_eq, leF_eq] at hk
   exact do_bin R (by rw [h1, h2]; simp [bin, binI, boolV]) hk
  ·exact do_bin R hv hk
 ·rcases ints2_some hk with ⟨i, a, b, h1, h2, hk⟩ | ⟨v, hv, hk⟩
  ·rw [boolK_eq, leF_eq] at hk
   exact do_bin R (by rw [h1, h2]; simp [bin, binI, boolV]) hk
  ·exact do_bin R hv hk
 ·rcases ints2_some hk with ⟨i, a, b, h1, h2, hk⟩ | ⟨v, hv, hk⟩
  ·rw [boolK_eq, leF_eq] at hk
   exact do_bin R (by rw [h1, h2]; simp [bin, binI, boolV]) hk
  ·exact do_bin R hv hk
 ·rcases iB_some hk with ⟨i, a, b, h1, h2, h3, h4, hk⟩ | hk
  ·rw [forceN_eq] at hk
   exact do_bin R (by rw [h1, h2]; simp [bin, binI, h3, h4]) hk
  ·obtain ⟨v, hv, hk⟩ := binG_some hk
   exact do_bin R hv hk
 ·rcases iB_some hk with ⟨i, a, b, h1, h2, h3, h4, hk⟩ | hk
  ·rw [forceN_eq] at hk
   exact do_bin R (by rw [h1, h2]; simp [bin, binI, h3, h4]) hk
  ·obtain ⟨v, hv, hk⟩ := binG_some hk
   exact do_bin R hv hk
 ·obtain ⟨v, hv, hk⟩ := vK_some hk
  exact do_bin R hv hk
theorem eqL_some : ∀ {x y : List Nat} {g : Bool → FRes}, eqL x y g = some r → ∃ b, strEq x y = some b ∧ g b = some r := by
 intro x
 induction x with
 | nil =>
  intro y g hk
  cases y with
  | nil => exact ⟨true, rfl, hk⟩
  | cons b y => exact ⟨false, rfl, hk⟩
 | cons a x ih =>
  intro y g hk
  cases y with
  | nil => exact ⟨false, rfl, hk⟩
  | cons b y =>
   have hk' : Bool.rec (motive := fun _ => FRes) (iteB (Nat.ble a 255) (iteB (Nat.ble b 255) (g false) none) none) (eqL x y g) (Nat.beq a b) = some r := hk
   simp only [strEq]
   cases hb : Nat.beq a b with
   | true =>
    rw [hb] at hk'
    dsimp only [cond_true]
    exact ih hk'
   | false =>
    rw [hb] at hk'
    obtain ⟨h1, hk'⟩ := Xz hk'
    obtain ⟨h2, hk'⟩ := Xz hk'
    have h1' : Nat.blt a 256 = true := Nat.ble_eq_true_of_le (by have := ble_true h1; omega)
    have h2' : Nat.blt b 256 = true := Nat.ble_eq_true_of_le (by have := ble_true h2; omega)
    exact ⟨false, by simp [h1', h2'], hk'⟩
theorem do_eq (R : RepH f h) {neg : Bool} {et : EqT} {x y : Opd} {b : Bool} (hv : eqV et (x.ev t) (y.ev t) = some b) (hk : k (.bool (bif neg then !b else b)) f = some r) : Dv (aop (.eq neg et x y) t h) k r :=
 .same R (by simp only [aop, hv, valOf, Option.map_some]) hk
theorem do_dEq (R : RepH f h) {neg : Bool} {et : EqT} {x y : Opd} (hk : dEq neg et (x.ev t) (y.ev t) f k = some r) : Dv (aop (.eq neg et x y) t h) k r := by
 unfold dEq at hk
 split at hk
 ·obtain ⟨i, a, h1, hk1⟩ := asInt_some hk
  obtain ⟨j, b, h2, hk2⟩ := asInt_some hk1
  obtain ⟨h3, hk3⟩ := Xz hk2
  have h4 := kNum_inj h3
  rw [eqF_eq, notF_eq] at hk3
  refine do_eq R (b := eqI a b) (by rw [h1, h2, h4]; simp [eqV, XH]) ?_
  rcases XU hk3 with ⟨h5, hk4⟩ | ⟨h5, hk4⟩ <;> rw [h5] <;> cases neg <;> exact hk4
 ·obtain ⟨a, h1, hk1⟩ := asStr_some hk
  obtain ⟨b, h2, hk2⟩ := asStr_some hk1
  obtain ⟨c, h3, hk3⟩ := eqL_some hk2
  rw [notF_eq] at hk3
  refine do_eq R (b := c) (by rw [h1, h2]; simp [eqV, XH, h3]) ?_
  rcases XU hk3 with ⟨h5, hk4⟩ | ⟨h5, hk4⟩ <;> rw [h5] <;> cases neg <;> exact hk4
 ·unfold oEq bK at hk
  cases he : eqV et (x.ev t) (y.ev t) with
  | none => rw [he] at hk; cases hk
  | some b => rw [he] at hk; exact do_eq R he hk
theorem Heap.with_some (h : Heap) (x : Blk) (b : Id) : h.with (some x) b = h.put b x := rfl
theorem isOne_some {v : AV} {k : FRes} (hk : isOne v k = some r) : oneA v = true ∧ k = some r := by
 cases v <;> first | exact ⟨rfl, hk⟩ | (simp [isOne] at hk)
theorem allOne_some {vs : List AV} {k : FRes} (hk : allOne vs k = some r) : vs.all oneA = true ∧ k = some r := by
 induction vs with
 | nil => exact ⟨rfl, hk⟩
 | cons v vs ih =>
  have hk' : isOne v (allOne vs k) = some r := hk
  obtain ⟨h1, h2⟩ := isOne_some hk'
  obtain ⟨h3, h4⟩ := ih h2
  exact ⟨by simp only [List.all_cons, h1, h3, Bool.and_self], h4⟩
theorem do_store (R : RepH f h) {l : Lay} {x y : Opd} (hk : Xh l.size (x.ev t) (y.ev t) f k = some r) : Ds (aop (.store l x y) t h) k r := by
 obtain ⟨b, o, hx, hk1⟩ := asPtr_some hk
 have hk2 := cells_at R hk1
 obtain ⟨z, hz, hk3⟩ := asSome_some hk2
 obtain ⟨ro, sp, e, zz, cs, hc, hk4⟩ := asCells_some hk3
 obtain ⟨h1, hk5⟩ := iteB_right hk4
 rw [cellsF_eq, lenF_eq] at hk5
 obtain ⟨h2, hk6⟩ := Xz hk5
 obtain ⟨hone, hk7⟩ := allOne_some hk6
 obtain ⟨cs', h3, hk8⟩ := setNF_some hk7
 obtain ⟨f', R', hk9⟩ := putH_some R hk8
 refine ⟨_, f', ?_, R', hk9⟩
 rw [hc, h1] at hz
 simp only [aop, hx, Heap.store, hz, hone, h3, h2, cond_true, skipH, Option.map_some, Heap.with_some]
end Go.AM
namespace Go.AM
open Go
variable {P : List Nat} {σ : Ov} {fr : Fr} {t : Tm} {f : FH} {h : Heap} {k : KV} {r : AV × FH}
theorem do_un (R : RepH f h) {op : UnOp} {x : Opd} (hk : oUn op (x.ev t) f k = some r) : Dv (aop (.un op x) t h) k r := by
 obtain ⟨v, hv, hk1⟩ := vK_some hk
 exact .same R (by simp only [aop, hv, valOf, Option.map_some]) hk1
theorem do_nilCheck (R : RepH f h) {x : Opd} (hk : Xl (x.ev t) f k = some r) : Dv (aop (.nilCheck x) t h) k r := by
 unfold Xl at hk
 cases hx : x.ev t with
 | fn g a b =>
  rw [hx] at hk
  cases g <;> first | (exact .same R (by simp only [aop, hx]) hk) | (exact absurd hk (by simp))
 | _ => rw [hx] at hk; first | (exact .same R (by simp only [aop, hx]) hk) | (exact absurd hk (by simp))
theorem do_toInt (R : RepH f h) {i : IntKind} {x : Opd} (hk : oToInt i (x.ev t) f k = some r) : Dv (aop (.toInt i x) t h) k r := by
 obtain ⟨j, n, hx, hk1⟩ := asInt_some hk
 rw [normF_eq] at hk1
 exact .same R (by simp only [aop, hx]) hk1
theorem do_toStr (R : RepH f h) {x : Opd} (hk : oToStr (x.ev t) f k = some r) : Dv (aop (.toStr x) t h) k r := by
 obtain ⟨s, hx, hk1⟩ := asStr_some hk
 exact .same R (by simp only [aop, hx]) hk1
theorem do_strToBytes (R : RepH f h) {e : TypeId} {x : Opd} (hk : oStrToBytes e (x.ev t) f k = some r) : Dv (aop (.strToBytes e x) t h) k r := by
 obtain ⟨s, hx, hk1⟩ := asStr_some hk
 obtain ⟨f', R', hk2⟩ := newH_some R hk1
 exact ⟨_, _, f', by simp only [aop, hx], R', hk2⟩
theorem do_mkMap (R : RepH f h) (hk : oMkMap f k = some r) : Dv (aop .mkMap t h) k r := by
 obtain ⟨f', R', hk2⟩ := newH_some R hk
 exact ⟨_, _, f', rfl, R', hk2⟩
theorem do_mkSlice (R : RepH f h) {e b z : Nat} {zs : List AV} {x y : Opd} (hk : oMkSlice e b z zs (x.ev t) (y.ev t) f k = some r) : Dv (aop (.mkSlice e b z zs x y) t h) k r := by
 obtain ⟨i, l, hx, hk1⟩ := asInt_some hk
 obtain ⟨l', h1, hk2⟩ := natI_some hk1
 obtain ⟨j, c, hy, hk3⟩ := asInt_some hk2
 obtain ⟨c', h2, hk4⟩ := natI_some hk3
 obtain ⟨h3, hk5⟩ := Xz hk4
 obtain ⟨f', R', hk6⟩ := newH_some R hk5
 rw [h1] at hx; rw [h2] at hy
 exact ⟨_, _, f', by simp only [aop, hx, hy, natOf_ofNat, h3, cond_true], R', hk6⟩
theorem optN_some {x : Option AV} {d : Nat} {g : Nat → FRes} (hk : optN x d g = some r) : ∃ n, natOr x d = some n ∧ g n = some r := by
 cases x with
 | none => exact ⟨d, rfl, hk⟩
 | some v =>
  have hk' : (asInt v fun _ z => natI z g) = some r := hk
  obtain ⟨i, n, h1, hk1⟩ := asInt_some hk'
  obtain ⟨n', h2, hk2⟩ := natI_some hk1
  exact ⟨n', by rw [h1, h2]; rfl, hk2⟩
theorem drop_take {α : Type} (s : List α) (l n : Nat) : (s.take n).drop l = (s.drop l).take (n - l) := by
 rw [List.drop_take]
theorem do_sliceStr (R : RepH f h) {x : Opd} {lo hi : Option Opd} (hk : oSliceStr (x.ev t) (lo.map (·.ev t)) (hi.map (·.ev t)) f k = some r) : Dv (aop (.sliceStr x lo hi) t h) k r := by
 obtain ⟨s, hx, hk1⟩ := asStr_some hk
 obtain ⟨l, hl, hk2⟩ := optN_some hk1
 cases hh : hi with
 | none =>
  rw [hh] at hk2
  have hk3 : (dropL l s fun r => k (.str r) f) = some r := hk2
  obtain ⟨h1, hk4⟩ := dropL_some hk3
  refine .same R (v := .str (s.drop l)) ?_ hk4
  have h2 : Nat.ble l s.length = true := Nat.ble_eq_true_of_le h1
  have h3 : Nat.ble s.length s.length = true := Nat.ble_eq_true_of_le (Nat.le_refl _)
  have e : sliceStrA s (lo.map (·.ev t)) none = some (.str (s.drop l)) := by
   unfold sliceStrA
   rw [hl]
   simp only [natOr, h2, h3, Bool.and_self, cond_true, List.take_length]
  simp only [aop, hx, Option.map_none, e, valOf, Option.map_some]
 | some g =>
  rw [hh] at hk2
  have hk3 : (asInt (g.ev t) fun _ z => natI z fun n => iteB (Nat.ble l n) (dropL l s fun r => takeL (Nat.sub n l) r fun r => k (.str r) f) none) = some r := hk2
  obtain ⟨i, n, h1, hk4⟩ := asInt_some hk3
  obtain ⟨n', h2, hk5⟩ := natI_some hk4
  obtain ⟨h3, hk6⟩ := Xz hk5
  obtain ⟨h4, hk7⟩ := dropL_some hk6
  obtain ⟨h5, hk8⟩ := takeL_some hk7
  have h3' := ble_true h3
  have h5' : n' - l ≤ (s.drop l).length := h5
  rw [List.length_drop] at h5'
  have h6 : Nat.ble n' s.length = true := Nat.ble_eq_true_of_le (by omega)
  refine .same R (v := .str ((s.take n').drop l)) ?_ (by rw [drop_take]; exact hk8)
  rw [h2] at h1
  have e : sliceStrA s (lo.map (·.ev t)) (some (g.ev t)) = some (.str ((s.take n').drop l)) := by
   unfold sliceStrA
   rw [hl]
   simp only [natOr, h1, natOf_ofNat, h3, h6, Bool.and_self, cond_true]
  simp only [aop, hx, Option.map_some, e, valOf]
theorem do_indexStr (R : RepH f h) {x y : Opd} (hk : oIndexStr (x.ev t) (y.ev t) f k = some r) : Dv (aop (.indexStr x y) t h) k r := by
 obtain ⟨s, hx, hk1⟩ := asStr_some hk
 obtain ⟨i, n, hy, hk2⟩ := asInt_some hk1
 obtain ⟨n', h1, hk3⟩ := natI_some hk2
 obtain ⟨c, h2, hk4⟩ := nthL_some hk3
 obtain ⟨h3, hk5⟩ := Xz hk4
 rw [h1] at hy
 have h4 : Nat.blt c 256 = true := Nat.ble_eq_true_of_le (Nat.succ_le_succ (ble_true h3))
 obtain ⟨hlt, hc⟩ := List.getElem?_eq_some_iff.1 h2
 have h5 : s.drop n' = c :: s.drop (n' + 1) := by rw [List.drop_eq_getElem_cons hlt, hc]
 exact .same R (by simp only [aop, hx, hy, natOf_ofNat, h5, h4, cond_true]) hk5
theorem do_lenStr (R : RepH f h) {x : Opd} (hk : oLenStr (x.ev t) f k = some r) : Dv (aop (.lenStr x) t h) k r := by
 obtain ⟨s, hx, hk1⟩ := asStr_some hk
 rw [lenL_eq] at hk1
 exact .same R (by simp only [aop, hx]) hk1
theorem asLen_some {v : AV} {g : Nat → FRes} (hk : asLen v g = some r) : ((v = .snil ∨ v = .sl0 ∨ ∃ b, v = .slx b) ∧ g 0 = some r) ∨ ∃ b o n c, v = .sl b o n c ∧ g n = some r := by
 cases v <;> first | exact .inr ⟨_, _, _, _, rfl, hk⟩ | exact .inl ⟨.inl rfl, hk⟩ | exact .inl ⟨.inr (.inl rfl), hk⟩ | exact .inl ⟨.inr (.inr ⟨_, rfl⟩), hk⟩ | (simp [asLen] at hk)
theorem do_len (R : RepH f h) {x : Opd} (hk : oLen (x.ev t) f k = some r) : Dv (aop (.len x) t h) k r := by
 rcases asLen_some hk with ⟨hx | hx | ⟨b, hx⟩, hk1⟩ | ⟨b, o, n, c, hx, hk1⟩
 ·exact .same R (by simp only [aop, hx]; rfl) hk1
 ·exact .same R (by simp only [aop, hx]; rfl) hk1
 ·exact .same R (by simp only [aop, hx]; rfl) hk1
 ·exact .same R (by simp only [aop, hx]) hk1
theorem fillF_some : ∀ {ps : List (Nat × Nat × AV)} {cs : List AV} {g : List AV → FRes}, fillF ps cs g = some r → ∃ l, fillA cs ps = some l ∧ g l = some r := by
 intro ps
 induction ps with
 | nil => intro cs g hk; exact ⟨cs, rfl, hk⟩
 | cons p ps ih =>
  obtain ⟨off, n, v⟩ := p
  intro cs g hk
  have hk1 : (cellsF v fun vs => lenF vs fun m => iteB (Nat.beq m n) (iteB (Nat.ble 1 m) (setNF off cs vs fun cs => fillF ps cs g) none) none) = some r := hk
  rw [cellsF_eq, lenF_eq] at hk1
  obtain ⟨h1, hk2⟩ := Xz hk1
  obtain ⟨h2, hk3⟩ := Xz hk2
  obtain ⟨cs', h3, hk4⟩ := setNF_some hk3
  obtain ⟨l, h4, hk5⟩ := ih hk4
  have h5 := Nat.eq_of_beq_eq_true h1
  refine ⟨l, ?_, hk5⟩
  have h6 : Nat.blt 0 n = true := by rw [← h5]; exact h2
  simp only [fillA, h1, h6, Bool.and_self, cond_true, h3, h4]
theorem do_build (R : RepH f h) {zs : List AV} {ps : List (Nat × Nat × Opd)} (hk : XE zs (evParts t ps) f k = some r) : Dv (aop (.build zs ps) t h) k r := by
 obtain ⟨l, h1, hk1⟩ := fillF_some hk
 exact .same R (by simp only [aop, h1, valOf, Option.map_some]) hk1
theorem do_buildSlice (R : RepH f h) {e n z : Nat} {zs : List AV} {ps : List (Nat × Nat × Opd)} (hk : Xi e n z zs (evParts t ps) f k = some r) : Dv (aop (.buildSlice e n z zs ps) t h) k r := by
 obtain ⟨l, h1, hk1⟩ := fillF_some hk
 obtain ⟨h2, hk2⟩ := Xz hk1
 obtain ⟨h3, hk3⟩ := Xz hk2
 obtain ⟨f', R', hk4⟩ := newH_some R hk3
 have h2' : Nat.ble (n * z) 16777216 = true := h2
 exact ⟨_, _, f', by simp only [aop, h1, h2', h3, Bool.and_self, cond_true], R', hk4⟩
theorem do_field (R : RepH f h) {l : Lay} {off : Nat} {x : Opd} (hk : oField l off (x.ev t) f k = some r) : Dv (aop (.field l off x) t h) k r := by
 obtain ⟨cs, hx, hk1⟩ := asAgg_some hk
 obtain ⟨v, hv, hk2⟩ := vK_some hk1
 exact .same R (by simp only [aop, hx, hv, valOf, Option.map_some]) hk2
theorem do_indexAgg (R : RepH f h) {n : Nat} {l : Lay} {x y : Opd} (hk : oIndexAggN n l (x.ev t) (y.ev t) f k = some r) : Dv (aop (.indexAgg n l x y) t h) k r := by
 obtain ⟨cs, hx, hk1⟩ := asAgg_some hk
 obtain ⟨i, m, hy, hk2⟩ := asInt_some hk1
 obtain ⟨m', h1, hk3⟩ := natI_some hk2
 obtain ⟨h2, hk4⟩ := Xz hk3
 obtain ⟨v, hv, hk5⟩ := vK_some hk4
 rw [h1] at hy
 exact .same R (by simp only [aop, hx, hy, natOf_ofNat, h2, cond_true, hv, valOf, Option.map_some]) hk5
def KeyOk (q : KeyEq) (e : EqT) : Prop := ∀ (x y : AV) (g : Bool → FRes) (r : AV × FH), q x y g = some r → ∃ b, eqKey e x y = some b ∧ g b = some r
theorem kInt_ok : KeyOk kInt (.scalar .i) := by
 intro x y g r hk
 obtain ⟨i, a, h1, hk1⟩ := asInt_some hk
 obtain ⟨j, b, h2, hk2⟩ := asInt_some hk1
 obtain ⟨h3, hk3⟩ := Xz hk2
 have h4 := kNum_inj h3
 refine ⟨eqF a b, by rw [h1, h2, h4, eqF_eq]; simp [eqKey, XH], ?_⟩
 rcases XU hk3 with ⟨h5, hk4⟩ | ⟨h5, hk4⟩ <;> rw [h5] <;> exact hk4
theorem kStr_ok : KeyOk kStr (.scalar .s) := by
 intro x y g r hk
 obtain ⟨a, h1, hk1⟩ := asStr_some hk
 obtain ⟨b, h2, hk2⟩ := asStr_some hk1
 obtain ⟨c, h3, hk3⟩ := eqL_some hk2
 exact ⟨c, by rw [h1, h2]; simp [eqKey, XH, h3], hk3⟩
theorem kGen_ok (e : EqT) : KeyOk (kGen e) e := by
 intro x y g r hk
 unfold kGen at hk
 cases he : eqKey e x y with
 | none => rw [he] at hk; cases hk
 | some b => rw [he] at hk; exact ⟨b, rfl, hk⟩
theorem eqKs_some : ∀ {n : Nat} {x y : List AV} {g : Bool → FRes} {r : AV × FH}, eqKs n x y g = some r → ∃ b, eqCells (List.replicate n .i) x y = some b ∧ g b = some r := by
 intro n
 induction n with
 | zero =>
  intro x y g r hk
  cases x with
  | nil => cases y with
   | nil => exact ⟨true, rfl, hk⟩
   | cons b y => exact absurd hk (by simp [eqKs])
  | cons a x => exact absurd hk (by simp [eqKs])
 | succ n ih =>
  intro x y g r hk
  cases x with
  | nil => exact absurd hk (by simp [eqKs])
  | cons a x =>
   cases y with
   | nil => exact absurd hk (by simp [eqKs])
   | cons b y =>
    have hk0 : (asInt a fun i m => asInt b fun j n' => iteB (Nat.beq (kNum i) (kNum j)) (Bool.rec (motive := fun _ => FRes) (g false) (eqKs n x y g) (eqF m n')) none) = some r := hk
    obtain ⟨i, m, h1, hk1⟩ := asInt_some hk0
    obtain ⟨j, m', h2, hk2⟩ := asInt_some hk1
    obtain ⟨h3, hk3⟩ := Xz hk2
    have h4 := kNum_inj h3
    have hs : XH .i a b = some (eqI m m') := by rw [h1, h2, h4]; simp [XH]
    rw [eqF_eq] at hk3
    simp only [List.replicate_succ, eqCells, hs]
    cases hb : eqI m m' with
    | true =>
     rw [hb] at hk3
     exact ih hk3
    | false =>
     rw [hb] at hk3
     exact ⟨false, rfl, hk3⟩
theorem all_i {ks : List SK} (h : (ks.all fun k => match k with | .i => true | _ => false) = true) : ks = List.replicate ks.length .i := by
 induction ks with
 | nil => rfl
 | cons k ks ih =>
  simp only [List.all_cons, Bool.and_eq_true] at h
  cases k with
  | i => simp only [List.length_cons, List.replicate_succ]; rw [← ih h.2]
  | b => cases h.1
  | s => cases h.1
theorem keyQ_ok (e : EqT) : KeyOk (keyQ e) e := by
 unfold keyQ
 split
 ·exact kInt_ok
 ·exact kStr_ok
 ·rename_i ks
  cases hb : (ks.all fun k => match k with | .i => true | _ => false) with
  | false => exact kGen_ok _
  | true =>
   intro x y g r hk
   dsimp only at hk
   obtain ⟨a, h1, hk1⟩ := asAgg_some hk
   obtain ⟨b, h2, hk2⟩ := asAgg_some hk1
   obtain ⟨c, h3, hk3⟩ := eqKs_some hk2
   refine ⟨c, ?_, hk3⟩
   rw [h1, h2]
   show eqCells ks a b = some c
   rw [all_i hb]; exact h3
 ·rename_i n
  intro x y g r hk
  obtain ⟨a, h1, hk1⟩ := asAgg_some hk
  obtain ⟨b, h2, hk2⟩ := asAgg_some hk1
  obtain ⟨c, h3, hk3⟩ := eqKs_some hk2
  exact ⟨c, by rw [h1, h2]; exact h3, hk3⟩
 ·exact kGen_ok _
theorem findF_some {q : KeyEq} {e : EqT} (hq : KeyOk q e) {x : AV} : ∀ {es : Ents} {yes : AV → FRes} {no : FRes} {r : AV × FH}, findF q x es yes no = some r →
  (∃ v, findA e x es = some (some v) ∧ yes v = some r) ∨ (findA e x es = some none ∧ no = some r) := by
 intro es
 induction es with
 | nil => intro yes no r hk; exact .inr ⟨rfl, hk⟩
 | cons a es ih =>
  obtain ⟨y, v, n⟩ := a
  intro yes no r hk
  have hk1 : (q x y fun b => iteB b (yes v) (findF q x es yes no)) = some r := hk
  obtain ⟨b, h1, hk2⟩ := hq _ _ _ _ hk1
  simp only [findA, h1]
  rcases XU hk2 with ⟨h2, hk3⟩ | ⟨h2, hk3⟩
  ·rw [h2]; exact .inl ⟨v, rfl, hk3⟩
  ·rw [h2]; exact ih hk3
theorem setEnt_some {q : KeyEq} {e : EqT} (hq : KeyOk q e) {x w : AV} : ∀ {es : Ents} {yes : Ents → FRes} {no : FRes} {r : AV × FH}, setEnt q x w es yes no = some r →
  (∃ v es', findA e x es = some (some v) ∧ setA e x w es = some es' ∧ yes es' = some r) ∨ (findA e x es = some none ∧ no = some r) := by
 intro es
 induction es with
 | nil => intro yes no r hk; exact .inr ⟨rfl, hk⟩
 | cons a es ih =>
  obtain ⟨y, v, n⟩ := a
  intro yes no r hk
  have hk1 : (q x y fun b => iteB b (yes ((x, w, n) :: es)) (setEnt q x w es (fun l => yes ((y, v, n) :: l)) no)) = some r := hk
  obtain ⟨b, h1, hk2⟩ := hq _ _ _ _ hk1
  simp only [findA, setA, h1]
  rcases XU hk2 with ⟨h2, hk3⟩ | ⟨h2, hk3⟩
  ·rw [h2]; exact .inl ⟨v, _, rfl, rfl, hk3⟩
  ·rw [h2]
   rcases ih hk3 with ⟨v', es', h3, h4, hk4⟩ | ⟨h3, hk4⟩
   ·exact .inl ⟨v', _, h3, by simp only [h4, Option.map_some], hk4⟩
   ·exact .inr ⟨h3, hk4⟩
theorem delEnt_some {q : KeyEq} {e : EqT} (hq : KeyOk q e) {x : AV} : ∀ {es : Ents} {yes : Ents → FRes} {r : AV × FH}, delEnt q x es yes = some r → ∃ es', delA e x es = some es' ∧ yes es' = some r := by
 intro es
 induction es with
 | nil => intro yes r hk; exact ⟨[], rfl, hk⟩
 | cons a es ih =>
  obtain ⟨y, v, n⟩ := a
  intro yes r hk
  have hk1 : (q x y fun b => iteB b (yes es) (delEnt q x es fun l => yes ((y, v, n) :: l))) = some r := hk
  obtain ⟨b, h1, hk2⟩ := hq _ _ _ _ hk1
  simp only [delA, h1]
  rcases XU hk2 with ⟨h2, hk3⟩ | ⟨h2, hk3⟩
  ·rw [h2]; exact ⟨es, rfl, hk3⟩
  ·rw [h2]
   obtain ⟨es', h3, hk4⟩ := ih hk3
   exact ⟨_, by simp only [h3, Option.map_some], hk4⟩
theorem snoc_eq (es : Ents) (e : AV × AV × Nat) (g : Ents → FRes) : snoc es e g = g (es ++ [e]) := by
 induction es generalizing g with
 | nil => rfl
 | cons a es ih => exact ih (fun l => g (a :: l))
theorem okKey_some {q : KeyEq} {e : EqT} (hq : KeyOk q e) {x : AV} {g : FRes} {r : AV × FH} (hk : okKey q x g = some r) : (∃ b, eqKey e x x = some b) ∧ g = some r := by
 obtain ⟨b, h1, hk1⟩ := hq _ _ _ _ hk
 exact ⟨⟨b, h1⟩, hk1⟩
theorem mapOf_some (R : RepH f h) {b : Id} {g : Ents → Nat → FRes} (hk : mapOf b f g = some r) : ∃ es c, h.get b = some (.map es c) ∧ g es c = some r := by
 have hk1 := cells_at R hk
 obtain ⟨y, hy, hk2⟩ := asSome_some hk1
 cases y <;> first | exact ⟨_, _, hy, hk2⟩ | (exact absurd hk2 (by simp))
theorem outF_eq (ok : Bool) (v : AV) (b : Bool) : outF ok v b = bif ok then .tup [v, .bool b] else v := by cases ok <;> rfl
theorem do_lookup (R : RepH f h) {e : EqT} {z : AV} {ok : Bool} {m x : Opd} (hk : oLookup (keyQ e) z ok (m.ev t) (x.ev t) f k = some r) : Dv (aop (.lookup e z ok m x) t h) k r := by
 obtain ⟨⟨b0, h0⟩, hk1⟩ := okKey_some (keyQ_ok e) hk
 rcases mapNil_some hk1 with ⟨hm, hk2⟩ | ⟨b, hm, hk2⟩
 ·rw [outF_eq] at hk2
  exact .same R (by simp only [aop, lookupA, hm, h0, valOf, Option.map_some]) hk2
 ·obtain ⟨es, c, h1, hk3⟩ := mapOf_some R hk2
  rcases findF_some (keyQ_ok e) hk3 with ⟨v, h2, hk4⟩ | ⟨h2, hk4⟩
  ·rw [outF_eq] at hk4
   exact .same R (by simp only [aop, lookupA, hm, h1, h0, h2, valOf, Option.map_some]) hk4
  ·rw [outF_eq] at hk4
   exact .same R (by simp only [aop, lookupA, hm, h1, h0, h2, valOf, Option.map_some]) hk4
theorem do_update (R : RepH f h) {e : EqT} {m x v : Opd} (hk : oUpdate (keyQ e) (m.ev t) (x.ev t) (v.ev t) f k = some r) : Ds (aop (.mapUpdate e m x v) t h) k r := by
 obtain ⟨b, hm, hk1⟩ := asMap_some hk
 obtain ⟨⟨b0, h0⟩, hk2⟩ := okKey_some (keyQ_ok e) hk1
 obtain ⟨es, c, h1, hk3⟩ := mapOf_some R hk2
 rcases setEnt_some (keyQ_ok e) hk3 with ⟨u, es', h2, h3, hk4⟩ | ⟨h2, hk4⟩
 ·obtain ⟨f', R', hk5⟩ := putH_some R hk4
  exact ⟨_, f', by simp only [aop, updateA, hm, h1, h0, h2, h3, skipH, Option.map_some, Heap.with_some], R', hk5⟩
 ·rw [snoc_eq] at hk4
  obtain ⟨f', R', hk5⟩ := putH_some R hk4
  exact ⟨_, f', by simp only [aop, updateA, hm, h1, h0, h2, skipH, Option.map_some, Heap.with_some], R', hk5⟩
theorem do_delete (R : RepH f h) {e : EqT} {m x : Opd} (hk : oDelete (keyQ e) (m.ev t) (x.ev t) f k = some r) : Dv (aop (.delete e m x) t h) k r := by
 obtain ⟨⟨b0, h0⟩, hk1⟩ := okKey_some (keyQ_ok e) hk
 rcases mapNil_some hk1 with ⟨hm, hk2⟩ | ⟨b, hm, hk2⟩
 ·exact .same R (by simp only [aop, deleteA, hm, h0]) hk2
 ·obtain ⟨es, c, h1, hk3⟩ := mapOf_some R hk2
  obtain ⟨es', h2, hk4⟩ := delEnt_some (keyQ_ok e) hk3
  obtain ⟨f', R', hk5⟩ := putH_some R hk4
  exact ⟨_, _, f', by simp only [aop, deleteA, hm, h1, h0, h2, Heap.with_some], R', hk5⟩
theorem do_lenMap (R : RepH f h) {x : Opd} (hk : oLenMap (x.ev t) f k = some r) : Dv (aop (.lenMap x) t h) k r := by
 rcases mapNil_some hk with ⟨hm, hk1⟩ | ⟨b, hm, hk1⟩
 ·exact .same R (by simp only [aop, hm]; rfl) hk1
 ·obtain ⟨es, c, h1, hk2⟩ := mapOf_some R hk1
  rw [forceN_eq] at hk2
  exact .same R (by simp only [aop, hm, h1]) hk2
theorem do_rangeMap (R : RepH f h) {x : Opd} (hk : oRangeMap (x.ev t) f k = some r) : Dv (aop (.rangeMap x) t h) k r := by
 rcases mapNil_some hk with ⟨hm, hk1⟩ | ⟨b, hm, hk1⟩
 ·obtain ⟨f', R', hk2⟩ := newH_some R hk1
  exact ⟨_, _, f', by simp only [aop, hm], R', hk2⟩
 ·obtain ⟨es, c, h1, hk2⟩ := mapOf_some R hk1
  obtain ⟨f', R', hk3⟩ := newH_some R hk2
  exact ⟨_, _, f', by simp only [aop, hm, h1], R', hk3⟩
theorem do_rangeStr (R : RepH f h) {x : Opd} (hk : oRangeStr (x.ev t) f k = some r) : Dv (aop (.rangeStr x) t h) k r := by
 obtain ⟨s, hx, hk1⟩ := asStr_some hk
 obtain ⟨f', R', hk2⟩ := newH_some R hk1
 exact ⟨_, _, f', by simp only [aop, hx], R', hk2⟩
end Go.AM
namespace Go.AM
open Go
variable {P : List Nat} {σ : Ov} {fr : Fr} {t : Tm} {f : FH} {h : Heap} {k : KV} {r : AV × FH}
theorem slCut_eq {b : Id} {o z l hh m : Nat} : slCut b o z l hh m f k = k (.sl b (bif Nat.beq m l then o else o + l * z) (hh - l) (.ex (m - l))) f := by
 unfold slCut
 cases hb : Nat.beq m l with
 | true => rfl
 | false =>
  show forceN _ _ = _
  rw [forceN_eq]; rfl
theorem slNil_some {v : AV} {l : Nat} {hi mx : Option AV} (hk : slNil v l hi mx f k = some r) : natOr hi 0 = some 0 ∧ natOr mx 0 = some 0 ∧ l = 0 ∧ k v f = some r := by
 obtain ⟨x, h1, hk1⟩ := optN_some hk
 obtain ⟨y, h2, hk2⟩ := optN_some hk1
 obtain ⟨h3, hk3⟩ := Xz hk2
 obtain ⟨h4, hk4⟩ := Xz hk3
 obtain ⟨h5, hk5⟩ := Xz hk4
 have e1 := Nat.eq_of_beq_eq_true h3
 have e2 := Nat.eq_of_beq_eq_true h4
 have e3 := Nat.eq_of_beq_eq_true h5
 exact ⟨by rw [h1, e1], by rw [h2, e2], e3, hk5⟩
theorem slice_some (R : RepH f h) {z : Nat} {x : AV} {lo hi mx : Option AV} (hk : XY z x lo hi mx f k = some r) : ∃ v, sliceSlA z x lo hi mx h = some v ∧ k v f = some r := by
 obtain ⟨l, hl, hk1⟩ := optN_some hk
 unfold sliceSlA
 rw [hl]
 cases x with
 | snil =>
  obtain ⟨h1, h2, h3, hk2⟩ := slNil_some hk1
  exact ⟨_, by simp only [h1, h2, h3], hk2⟩
 | sl0 =>
  obtain ⟨h1, h2, h3, hk2⟩ := slNil_some hk1
  exact ⟨_, by simp only [h1, h2, h3], hk2⟩
 | slx b =>
  obtain ⟨h1, h2, h3, hk2⟩ := slNil_some hk1
  exact ⟨_, by simp only [h1, h2, h3]; cases mx <;> rfl, hk2⟩
 | sl b o len c =>
  cases c with
  | ex c =>
   obtain ⟨hh, h1, hk2⟩ := optN_some hk1
   obtain ⟨m, h2, hk3⟩ := optN_some hk2
   obtain ⟨h3, hk4⟩ := Xz hk3
   obtain ⟨h4, hk5⟩ := Xz hk4
   obtain ⟨h5, hk6⟩ := Xz hk5
   rw [slCut_eq] at hk6
   exact ⟨_, by simp only [h1, h2, h3, h4, h5, Bool.and_self, cond_true], hk6⟩
  | op d =>
   have hk2 : slOpen z b o len d l hi mx f k = some r := hk1
   unfold slOpen at hk2
   have hk3 := cells_at R hk2
   obtain ⟨y, hy, hk4⟩ := asSome_some hk3
   obtain ⟨ro, sp, e', z', cs, hc, hk5⟩ := asCells_some hk4
   obtain ⟨h1, hk6⟩ := Xz hk5
   obtain ⟨h2, hk7⟩ := Xz hk6
   obtain ⟨h3, hk8⟩ := Xz hk7
   rw [lenF_eq, forceN_eq] at hk8
   obtain ⟨hh, h4, hk9⟩ := optN_some hk8
   rw [hc, h1] at hy
   have h3' : Nat.blt 0 z = true := h3
   have hknown : Nat.div (Nat.sub cs.length o) z = (cs.length - o) / z := rfl
   rw [hknown] at hk9
   cases mx with
   | none =>
    have hk10 : iteB (Nat.ble l hh) (iteB (Nat.ble hh ((cs.length - o) / z)) (iteB (Nat.beq l 0) (k (.sl b o hh (.op d)) f) (iteB (Nat.ble (Nat.succ l) ((cs.length - o) / z)) (forceN (Nat.add o (Nat.mul l z)) fun o => k (.sl b o (Nat.sub hh l) (.op (Nat.add d l))) f) (k (.slx b) f))) none) none = some r := hk9
    obtain ⟨h5, hk11⟩ := Xz hk10
    obtain ⟨h6, hk12⟩ := Xz hk11
    rcases XU hk12 with ⟨h7, hk13⟩ | ⟨h7, hk13⟩
    ·exact ⟨_, by simp only [hy, h2, h3', h4, h5, h6, h7, Bool.and_self, cond_true], hk13⟩
    ·rcases XU hk13 with ⟨h8, hk14⟩ | ⟨h8, hk14⟩
     ·rw [forceN_eq] at hk14
      have h8' : Nat.blt l ((cs.length - o) / z) = true := h8
      exact ⟨_, by simp only [hy, h2, h3', h4, h5, h6, h7, h8', Bool.and_self, cond_true, cond_false]; rfl, hk14⟩
     ·have h8' : Nat.blt l ((cs.length - o) / z) = false := h8
      exact ⟨_, by simp only [hy, h2, h3', h4, h5, h6, h7, h8', Bool.and_self, cond_true, cond_false], hk14⟩
   | some m =>
    have hk10 : (asInt m fun _ m => natI m fun m => iteB (Nat.ble l hh) (iteB (Nat.ble hh m) (iteB (Nat.ble m ((cs.length - o) / z)) (slCut b o z l hh m f k) none) none) none) = some r := hk9
    obtain ⟨i, m1, h5, hk11⟩ := asInt_some hk10
    obtain ⟨m2, h6, hk12⟩ := natI_some hk11
    obtain ⟨h7, hk13⟩ := Xz hk12
    obtain ⟨h8, hk14⟩ := Xz hk13
    obtain ⟨h9, hk15⟩ := Xz hk14
    rw [slCut_eq] at hk15
    rw [h6] at h5
    exact ⟨_, by simp only [hy, h2, h3', h4, h5, natOf_ofNat, h7, h8, h9, Bool.and_self, cond_true], hk15⟩
 | _ => exact absurd hk1 (by simp)
theorem do_sliceSl (R : RepH f h) {z : Nat} {x : Opd} {lo hi mx : Option Opd} (hk : XY z (x.ev t) (lo.map (·.ev t)) (hi.map (·.ev t)) (mx.map (·.ev t)) f k = some r) : Dv (aop (.sliceSl z x lo hi mx) t h) k r := by
 obtain ⟨v, hv, hk1⟩ := slice_some R hk
 exact .same R (by simp only [aop, hv, valOf, Option.map_some]) hk1
theorem do_sliceArr (R : RepH f h) {n z : Nat} {x : Opd} {lo hi mx : Option Opd} (hk : oSliceArr n z (x.ev t) (lo.map (·.ev t)) (hi.map (·.ev t)) (mx.map (·.ev t)) f k = some r) : Dv (aop (.sliceArr n z x lo hi mx) t h) k r := by
 obtain ⟨b, o, hx, hk0⟩ := asPtr_some hk
 obtain ⟨v, hv, hk1⟩ := slice_some R hk0
 exact .same R (by simp only [aop, hx, hv, valOf, Option.map_some]) hk1
theorem asIter_some {x : OB} {g : Option Id → Nat → List Nat → Nat → FRes} (hk : asIter x g = some r) : ∃ m s l u, x = some (.miter m s l u) ∧ g m s l u = some r := by
 obtain ⟨y, hy, hk1⟩ := asSome_some hk
 cases y <;> first | exact ⟨_, _, _, _, hy, hk1⟩ | (exact absurd hk1 (by simp))
theorem memN_eq (n : Nat) (l : List Nat) : memN n l = l.contains n := by
 induction l with
 | nil => rfl
 | cons a l ih =>
  have h1 : memN n (a :: l) = Bool.rec (motive := fun _ => Bool) (memN n l) true (Nat.beq a n) := rfl
  rw [h1, List.contains_cons, ih]
  by_cases h : n = a
  ·subst h
   have : Nat.beq n n = true := Nat.beq_refl n
   rw [this]; simp
  ·have h2 : Nat.beq a n = false := by
    cases hb : Nat.beq a n with
    | false => rfl
    | true => exact absurd (Nat.eq_of_beq_eq_true hb).symm h
   rw [h2]
   have : (n == a) = false := by simpa using h
   rw [this]; simp
theorem leftF_eq (seen : List Nat) (es : Ents) : leftF seen es = es.filter fun e => !(seen.contains e.2.2) := by
 induction es with
 | nil => rfl
 | cons e es ih =>
  have h1 : leftF seen (e :: es) = Bool.rec (motive := fun _ => Ents) (e :: leftF seen es) (leftF seen es) (memN e.2.2 seen) := rfl
  rw [h1, memN_eq, ih, List.filter_cons]
  cases seen.contains e.2.2 <;> rfl
theorem do_next (R : RepH f h) {s : Bool} {x : Opd} (hk : oNext s (x.ev t) f k = some r) : Dv (aop (.next s x) t h) k r := by
 obtain ⟨h0, hk1⟩ := iteB_right hk
 obtain ⟨b, o, hx, hk2⟩ := asPtr_some hk1
 obtain ⟨h1, hk3⟩ := Xz hk2
 have e1 := Nat.eq_of_beq_eq_true h1
 have hk4 := cells_at R hk3
 obtain ⟨m, since, seen, last, hb, hk5⟩ := asIter_some hk4
 rw [e1] at hx
 have hx' : x.ev t = .ptr b 0 := hx
 cases m with
 | none =>
  have hk6 : k (.tup [.bool false]) f = some r := hk5
  exact .same R (by simp only [aop, hx', nextA, hb, h0, valH, Option.map_some]) hk6
 | some m =>
  have hk6 : nextF b m since seen last f k = some r := hk5
  obtain ⟨es, clock, hm, hk7⟩ := mapOf_some R hk6
  obtain ⟨h2, hk8⟩ := iteB_right hk7
  rw [leftF_eq] at hk8
  have e2 : nextA s (x.ev t) h = nextMap b m since seen last h := by
   rw [hx', h0]; unfold nextA; simp only [hb]
  unfold nextMap at e2
  rw [hm] at e2
  simp only [h2, Bool.false_eq_true, if_false] at e2
  generalize hfl : (es.filter fun e => !(seen.contains e.2.2)) = fl at e2 hk8
  match fl with
  | [] => exact .same R (by simp only [aop, e2, valH, Option.map_some]) hk8
  | [(u, v, n)] =>
   obtain ⟨h3, hk9⟩ := Xz hk8
   obtain ⟨f', R', hk10⟩ := putH_some R hk9
   have h3' : Nat.blt n since = true := h3
   simp only [h3', cond_true] at e2
   exact ⟨_, _, f', by simp only [aop, e2, valH, Option.map_some, Heap.with_some], R', hk10⟩
  | _ :: _ :: _ => exact absurd hk8 (by simp)
theorem do_entry (R : RepH f h) {x : Opd} (hk : oEntry (x.ev t) f k = some r) : Dv (aop (.entry x) t h) k r := by
 obtain ⟨b, o, hx, hk2⟩ := asPtr_some hk
 obtain ⟨h1, hk3⟩ := Xz hk2
 have e1 := Nat.eq_of_beq_eq_true h1
 have hk4 := cells_at R hk3
 obtain ⟨m, since, seen, stepped, hb, hk5⟩ := asIter_some hk4
 rw [e1] at hx
 have hx' : x.ev t = .ptr b 0 := hx
 cases m with
 | none => exact absurd hk5 (by simp)
 | some m =>
  have hk6 : (match lastOf seen with
   | none => none
   | some n => mapOf m f fun es clock => iteB (Nat.beq clock stepped) (vK (bornA n es) f k) none) = some r := hk5
  cases hl : lastOf seen with
  | none => rw [hl] at hk6; cases hk6
  | some n =>
   rw [hl] at hk6
   obtain ⟨es, clock, hm, hk7⟩ := mapOf_some R hk6
   obtain ⟨h2, hk8⟩ := Xz hk7
   obtain ⟨v, hv, hk9⟩ := vK_some hk8
   exact .same R (by simp only [aop, hx', entryA, hb, hl, hm, h2, cond_true, hv, valOf, Option.map_some]) hk9
theorem do_assertTo (R : RepH f h) {ty : TypeId} {z : AV} {ok : Bool} {x : Opd} (hk : oAssertTo ty z ok (x.ev t) f k = some r) : Dv (aop (.assertTo ty z ok x) t h) k r := by
 unfold oAssertTo at hk
 cases hx : x.ev t with
 | ifc u v =>
  rw [hx] at hk
  rcases XU hk with ⟨h1, hk1⟩ | ⟨h1, hk1⟩
  ·have e1 := Nat.eq_of_beq_eq_true h1
   rw [outF_eq] at hk1
   exact .same R (by simp only [aop, hx, e1, if_true]) hk1
  ·have e1 : ¬ u = ty := fun e => by rw [e, Nat.beq_refl] at h1; cases h1
   obtain ⟨h2, hk2⟩ := Xz hk1
   subst h2
   exact .same R (by simp only [aop, hx, if_neg e1, cond_true]; rfl) hk2
 | inil =>
  rw [hx] at hk
  obtain ⟨h2, hk2⟩ := Xz hk
  subst h2
  exact .same R (by simp only [aop, hx, cond_true]; rfl) hk2
 | _ => rw [hx] at hk; exact absurd hk (by simp)
theorem do_cap (R : RepH f h) {x : Opd} (hk : oCap (x.ev t) f k = some r) : Dv (aop (.cap x) t h) k r := by
 unfold oCap at hk
 split at hk
 ·rename_i hx; exact .same R (by simp only [aop, hx]) hk
 ·rename_i hx; exact .same R (by simp only [aop, hx]) hk
 ·rename_i hx; exact .same R (by simp only [aop, hx]) hk
 ·cases hk
theorem cellsAt_some (R : RepH f h) {b : Id} {o n : Nat} {g : List AV → FRes} (hk : cellsAt b o n f g = some r) : ∃ cs, h.cells b o n = some cs ∧ g cs = some r := by
 have hk1 := cells_at R hk
 obtain ⟨y, hy, hk2⟩ := asSome_some hk1
 obtain ⟨ro, sp, e', z', cs, hc, hk3⟩ := asCells_some hk2
 obtain ⟨h1, hk4⟩ := dropF_some hk3
 obtain ⟨h2, hk5⟩ := takeF_some hk4
 rw [hc] at hy
 exact ⟨_, by unfold Heap.cells; rw [hy]; exact takeAt_of h1 h2, hk5⟩
theorem storeAt_some (R : RepH f h) {b : Id} {o : Nat} {vs : List AV} {g : FH → FRes} (hk : storeAt b o vs f g = some r) : ∃ h' f', h.store b o vs = some h' ∧ RepH f' h' ∧ g f' = some r := by
 have hk1 := cells_at R hk
 obtain ⟨y, hy, hk2⟩ := asSome_some hk1
 obtain ⟨ro, sp, e', z', cs, hc, hk3⟩ := asCells_some hk2
 obtain ⟨h1, hk4⟩ := iteB_right hk3
 obtain ⟨hone, hk5⟩ := allOne_some hk4
 obtain ⟨cs', h2, hk6⟩ := setNF_some hk5
 obtain ⟨f', R', hk7⟩ := putH_some R hk6
 rw [hc, h1] at hy
 exact ⟨_, f', by unfold Heap.store; rw [hy]; simp only [hone, h2]; rfl, R', hk7⟩
theorem sourceF_some (R : RepH f h) {z : Nat} {x : AV} {g : Nat → List AV → FRes} (hk : sourceF z x f g = some r) : ∃ n new, source z x h = some (n, new) ∧ g n new = some r := by
 unfold sourceF at hk
 split at hk
 ·exact ⟨_, _, rfl, hk⟩
 ·exact ⟨_, _, rfl, hk⟩
 ·exact ⟨_, _, rfl, hk⟩
 ·obtain ⟨cs, h1, hk1⟩ := cellsAt_some R hk
  have h1' : h.cells _ _ (_ * z) = some cs := h1
  exact ⟨_, _, by simp only [source, h1', Option.map_some], hk1⟩
 ·obtain ⟨h1, hk1⟩ := Xz hk
  have h1' : Nat.beq z 1 = true := h1
  exact ⟨_, _, by simp only [source, h1', cond_true], hk1⟩
 ·cases hk
theorem appL_eq (x y : List AV) (g : List AV → FRes) : appL x y g = g (x ++ y) := by
 induction x generalizing g with
 | nil => rfl
 | cons a x ih => exact ih (fun l => g (a :: l))
def freshA (elem bytes z n : Nat) (new : List AV) (h : Heap) (len : Nat) (old : List AV) : Option (AV × Heap) :=
 bif Nat.ble ((len + n) * (bytes + 1)) bigLim then some (.sl h.next 0 (len + n) (.op 0), h.new (.cells false true elem z (old ++ new))) else none
theorem freshF_some (R : RepH f h) {e b z n len : Nat} {new old : List AV} (hk : freshF e b z n new len old f k = some r) : ∃ v h' f', freshA e b z n new h len old = some (v, h') ∧ RepH f' h' ∧ k v f' = some r := by
 unfold freshF at hk
 rw [forceN_eq] at hk
 obtain ⟨h1, hk1⟩ := Xz hk
 rw [appL_eq] at hk1
 obtain ⟨f', R', hk2⟩ := newH_some R hk1
 have h1' : Nat.ble ((len + n) * (b + 1)) bigLim = true := h1
 exact ⟨_, _, f', by unfold freshA; rw [h1']; rfl, R', hk2⟩
theorem isZ_some {n : Nat} {a b : FRes} (hk : isZ n a b = some r) : (n = 0 ∧ a = some r) ∨ (∃ m, n = m + 1 ∧ b = some r) := by
 cases n with
 | zero => exact .inl ⟨rfl, hk⟩
 | succ m => exact .inr ⟨m, rfl, hk⟩
theorem appendF_some (R : RepH f h) {e b z n : Nat} {s : AV} {new : List AV} (hk : appendF e b z s n new f k = some r) : ∃ v h' f', appendA e b z s (some (n, new)) h = some (v, h') ∧ RepH f' h' ∧ k v f' = some r := by
 obtain ⟨hone, hk0⟩ := allOne_some hk
 unfold appendA
 simp only [hone]
 split at hk0
 ·rcases isZ_some hk0 with ⟨h1, hk1⟩ | ⟨m, h1, hk1⟩
  ·subst h1; exact ⟨_, h, f, rfl, R, hk1⟩
  ·subst h1; exact freshF_some R hk1
 ·rcases isZ_some hk0 with ⟨h1, hk1⟩ | ⟨m, h1, hk1⟩
  ·subst h1; exact ⟨_, h, f, rfl, R, hk1⟩
  ·subst h1; exact freshF_some R hk1
 ·rename_i bb
  rcases isZ_some hk0 with ⟨h1, hk1⟩ | ⟨m, h1, hk1⟩
  ·subst h1; exact ⟨_, h, f, rfl, R, hk1⟩
  ·subst h1
   have hk2 := cells_at R hk1
   obtain ⟨y, hy, hk3⟩ := asSome_some hk2
   obtain ⟨ro, sp, e', z', cs, hc, hk4⟩ := asCells_some hk3
   obtain ⟨h2, hk5⟩ := iteB_right hk4
   obtain ⟨h2', hk5'⟩ := Xz hk5
   obtain ⟨h3, hk6⟩ := Xz hk5'
   obtain ⟨h4, hk7⟩ := Xz hk6
   obtain ⟨f1, R1, hk8⟩ := putH_some R hk7
   obtain ⟨v, h', f', h5, R', hk9⟩ := freshF_some R1 hk8
   rw [hc, h2, h2'] at hy
   refine ⟨v, h', f', ?_, R', hk9⟩
   simp only [hy, h3, h4, Bool.and_self, cond_true]
   exact h5
 ·rename_i bb o len c
  rcases XU hk0 with ⟨h1, hk1⟩ | ⟨h1, hk1⟩
  ·obtain ⟨h', f', h2, R', hk2⟩ := storeAt_some R hk1
   rw [forceN_eq] at hk2
   have h1' : Nat.ble (len + n) c = true := h1
   have h2' : h.store bb (o + len * z) new = some h' := h2
   exact ⟨_, h', f', by simp only [h1', cond_true, h2', Option.map_some]; rfl, R', hk2⟩
  ·obtain ⟨old, h2, hk2⟩ := cellsAt_some R hk1
   obtain ⟨v, h', f', h3, R', hk3⟩ := freshF_some R hk2
   have h1' : Nat.ble (len + n) c = false := h1
   have h2' : h.cells bb o (len * z) = some old := h2
   refine ⟨v, h', f', ?_, R', hk3⟩
   simp only [h1', cond_false, h2']
   exact h3
 ·rename_i bb o len d
  rcases isZ_some hk0 with ⟨h1, hk1⟩ | ⟨m, h1, hk1⟩
  ·subst h1; exact ⟨_, h, f, rfl, R, hk1⟩
  ·subst h1
   have hk2 := cells_at R hk1
   obtain ⟨y, hy, hk3⟩ := asSome_some hk2
   obtain ⟨ro, sp, e', z', cs, hc, hk4⟩ := asCells_some hk3
   obtain ⟨h2, hk5⟩ := iteB_right hk4
   obtain ⟨h3, hk6⟩ := Xz hk5
   obtain ⟨h4, hk7⟩ := Xz hk6
   obtain ⟨h5, hk8⟩ := Xz hk7
   rw [lenF_eq] at hk8
   rw [hc, h2, h3] at hy
   rcases XU hk8 with ⟨h6, hk9⟩ | ⟨h6, hk9⟩
   ·obtain ⟨h', f', h7, R', hk10⟩ := storeAt_some R hk9
    rw [forceN_eq] at hk10
    have h6' : Nat.ble (o + (len + (m + 1)) * z) cs.length = true := h6
    have h7' : h.store bb (o + len * z) new = some h' := h7
    exact ⟨_, h', f', by simp only [hy, h4, h5, Bool.and_self, cond_true, h6', h7', Option.map_some]; rfl, R', hk10⟩
   ·obtain ⟨h8, hk10⟩ := dropF_some hk9
    obtain ⟨h9, hk11⟩ := takeF_some hk10
    obtain ⟨f1, R1, hk12⟩ := putH_some R hk11
    obtain ⟨v, h', f', h10, R', hk13⟩ := freshF_some R1 hk12
    have h6' : Nat.ble (o + (len + (m + 1)) * z) cs.length = false := h6
    have h9' : len * z ≤ (cs.drop o).length := h9
    refine ⟨v, h', f', ?_, R', hk13⟩
    simp only [hy, h4, h5, Bool.and_self, cond_true, h6', cond_false, takeAt_of h8 h9']
    exact h10
 ·cases hk0
theorem do_append (R : RepH f h) {e b z : Nat} {x y : Opd} (hk : XP e b z (x.ev t) (y.ev t) f k = some r) : Dv (aop (.append e b z x y) t h) k r := by
 obtain ⟨n, new, h1, hk1⟩ := sourceF_some R hk
 obtain ⟨v, h', f', h2, R', hk2⟩ := appendF_some R hk1
 exact ⟨v, h', f', by simp only [aop, h1, h2, valH, Option.map_some], R', hk2⟩
theorem do_appendMake (R : RepH f h) {e b z : Nat} {zs : List AV} {x y : Opd} (hk : oAppendMake e b z zs (x.ev t) (y.ev t) f k = some r) : Dv (aop (.appendMake e b z zs x y) t h) k r := by
 obtain ⟨i, n, hy, hk1⟩ := asInt_some hk
 obtain ⟨n', h1, hk2⟩ := natI_some hk1
 obtain ⟨h2, hk3⟩ := Xz hk2
 obtain ⟨v, h', f', h3, R', hk4⟩ := appendF_some R hk3
 rw [h1] at hy
 exact ⟨v, h', f', by simp only [aop, hy, h2, cond_true, h3, valH, Option.map_some], R', hk4⟩
theorem do_copy (R : RepH f h) {z : Nat} {x y : Opd} (hk : oCopy z (x.ev t) (y.ev t) f k = some r) : Dv (aop (.copy z x y) t h) k r := by
 unfold oCopy at hk
 split at hk
 ·rename_i hx; exact .same R (by simp only [aop, hx]) hk
 ·rename_i hx; exact .same R (by simp only [aop, hx]) hk
 ·rename_i b o n c hx
  split at hk
  ·rename_i hy; exact .same R (by simp only [aop, hx, hy]) hk
  ·rename_i hy; exact .same R (by simp only [aop, hx, hy]) hk
  ·rename_i hy; exact .same R (by simp only [aop, hx, hy]) hk
  ·rename_i b' o' n' c' hy
   rw [forceN_eq] at hk
   obtain ⟨cs, h1, hk1⟩ := cellsAt_some R hk
   obtain ⟨h', f', h2, R', hk2⟩ := storeAt_some R hk1
   have h1' : h.cells b' o' (Nat.min n' n * z) = some cs := h1
   exact ⟨_, h', f', by simp only [aop, hx, hy, h1', h2], R', hk2⟩
  ·cases hk
 ·cases hk
theorem do_clear (R : RepH f h) {z : Nat} {zs : List AV} {x : Opd} (hk : oClear z zs (x.ev t) f k = some r) : Dv (aop (.clear z zs x) t h) k r := by
 unfold oClear at hk
 split at hk
 ·rename_i hx; exact .same R (by simp only [aop, hx]) hk
 ·rename_i hx; exact .same R (by simp only [aop, hx]) hk
 ·rename_i hx; exact .same R (by simp only [aop, hx]) hk
 ·rename_i b o n c hx
  obtain ⟨h1, hk1⟩ := Xz hk
  obtain ⟨h', f', h2, R', hk2⟩ := storeAt_some R hk1
  exact ⟨_, h', f', by simp only [aop, hx, h1, cond_true, h2], R', hk2⟩
 ·cases hk
theorem do_min (R : RepH f h) {l : List Opd} (hk : oMinMax false (l.map (·.ev t)) f k = some r) : Dv (aop (.min2 l) t h) k r := by
 cases l with
 | nil => exact absurd hk (by simp [oMinMax])
 | cons x l =>
  obtain ⟨v, hv, hk1⟩ := vK_some hk
  exact .same R (by simp only [aop, hv, valOf, Option.map_some]) hk1
theorem do_max (R : RepH f h) {l : List Opd} (hk : oMinMax true (l.map (·.ev t)) f k = some r) : Dv (aop (.max2 l) t h) k r := by
 cases l with
 | nil => exact absurd hk (by simp [oMinMax])
 | cons x l =>
  obtain ⟨v, hv, hk1⟩ := vK_some hk
  exact .same R (by simp only [aop, hv, valOf, Option.map_some]) hk1
end Go.AM
namespace Go.AM
open Go
def Ev (φ : Nat → Prop) : Prop := ∃ n, ∀ m, n ≤ m → φ m
theorem Ev.of {φ : Nat → Prop} (h : ∀ m, φ m) : Ev φ := ⟨0, fun m _ => h m⟩
theorem Ev.and {φ ψ : Nat → Prop} (h1 : Ev φ) (h2 : Ev ψ) : Ev fun m => φ m ∧ ψ m := by
 obtain ⟨a, ha⟩ := h1
 obtain ⟨b, hb⟩ := h2
 exact ⟨max a b, fun m hm => ⟨ha m (by omega), hb m (by omega)⟩⟩
theorem Ev.mono {φ ψ : Nat → Prop} (h1 : Ev φ) (h : ∀ m, φ m → ψ m) : Ev ψ := by
 obtain ⟨a, ha⟩ := h1
 exact ⟨a, fun m hm => h m (ha m hm)⟩
theorem Ev.succ {φ ψ : Nat → Prop} (h1 : Ev φ) (h : ∀ m, φ m → ψ (m + 1)) : Ev ψ := by
 obtain ⟨a, ha⟩ := h1
 refine ⟨a + 1, fun m hm => ?_⟩
 obtain ⟨m', rfl⟩ : ∃ m', m = m' + 1 := ⟨m - 1, by omega⟩
 exact h m' (ha m' (by omega))
variable {P : List Nat} {σ : Ov} {fr : Fr} {t : Tm} {f : FH} {h : Heap} {k : KV} {r : AV × FH} {F : FuncId → Option AFunc} {c : SCall}
def SC (F : FuncId → Option AFunc) (c : SCall) : Prop := ∀ (g : FuncId) (args : List AV) (f : FH) (k : KV) (r : AV × FH) (h : Heap), RepH f h → c g args f k = some r →
 ∃ v h' f', Ev (fun m => acall F m g args h = some (v, h')) ∧ RepH f' h' ∧ k v f' = some r
def opRes (call : CallF) (x : Option ARes) : Option (AV × Heap) := match x with
 | none => none
 | some r => match r with
  | .val v h => some (v, h)
  | .skip h => some (undefA, h)
  | .enter f args h => call f args h
theorem oneOp_eq (call : CallF) (o : AOper) (t : Tm) (h : Heap) : oneOp call o t h = opRes call (aop o.op t h) := by
 unfold oneOp opRes; rfl
def Do (F : FuncId → Option AFunc) (x : Option ARes) (k : KV) (r : AV × FH) : Prop := ∃ v h' f', Ev (fun m => opRes (acall F m) x = some (v, h')) ∧ RepH f' h' ∧ k v f' = some r
theorem Dv.do {x : Option ARes} (d : Dv x k r) : Do F x k r := by
 obtain ⟨v, h', f', h1, h2, h3⟩ := d
 exact ⟨v, h', f', .of fun m => by rw [h1]; rfl, h2, h3⟩
theorem Ds.do {x : Option ARes} (d : Ds x k r) : Do F x k r := by
 obtain ⟨h', f', h1, h2, h3⟩ := d
 exact ⟨undefA, h', f', .of fun m => by rw [h1]; rfl, h2, h3⟩
theorem appF_eq (x y : List AV) : appF x y = x ++ y := by
 induction x with
 | nil => rfl
 | cons a x ih => show a :: appF x y = _; rw [ih]; rfl
theorem dOp_ok (A : Ag P σ fr t) (R : RepH f h) (S : SC F c) {op : AOp} (hk : dOp P σ fr c op f k = some r) : Do F (aop op t h) k r := by
 cases op with
 | mv x => exact (Dv.same R rfl (Xr A hk)).do
 | pick a b d => exact (do_pick R (Xr A (Xr A (Xr A hk)))).do
 | alloc e zs => exact (do_alloc R hk).do
 | box e x => exact (do_box R (Xr A (g := fun v => oBox e v f k) hk)).do
 | build zs ps => exact (do_build R (evPs_some A (g := fun l => XE zs l f k) hk)).do
 | buildSlice e n z zs ps => exact (do_buildSlice R (evPs_some A (g := fun l => Xi e n z zs l f k) hk)).do
 | load l a =>
  obtain ⟨ag, n⟩ := l
  cases ag with
  | false => exact (do_load1 R (Xr A (g := fun v => Xc v f k) hk)).do
  | true => exact (do_loadN R (Xr A (g := fun v => Xb n v f k) hk)).do
 | store l a x => exact (do_store R (Xr A (g := fun x => Xh l.size (a.ev t) x f k) (Xr A (g := fun a => ev1 P σ fr x fun x => Xh l.size a x f k) hk))).do
 | nilCheck x => exact (do_nilCheck R (Xr A (g := fun v => Xl v f k) hk)).do
 | bin op x y => exact (do_dBin R (Xr A (g := fun y => dBin op (x.ev t) y f k) (Xr A (g := fun x => ev1 P σ fr y fun y => dBin op x y f k) hk))).do
 | eq neg et x y => exact (do_dEq R (Xr A (g := fun y => dEq neg et (x.ev t) y f k) (Xr A (g := fun x => ev1 P σ fr y fun y => dEq neg et x y f k) hk))).do
 | un op x => exact (do_un R (Xr A (g := fun v => oUn op v f k) hk)).do
 | toInt i x => exact (do_toInt R (Xr A (g := fun v => oToInt i v f k) hk)).do
 | toStr x => exact (do_toStr R (Xr A (g := fun v => oToStr v f k) hk)).do
 | strToBytes e x => exact (do_strToBytes R (Xr A (g := fun v => oStrToBytes e v f k) hk)).do
 | mkIface ty x => exact (Dv.same R (v := .ifc ty (x.ev t)) rfl (Xr A (g := fun v => k (.ifc ty v) f) hk)).do
 | mkFn g x y =>
  exact (Dv.same R (v := .fn g (x.map (·.ev t)) (y.map (·.ev t))) rfl (evL_some A (g := fun y => k (.fn g (x.map (·.ev t)) y) f) (evL_some A (g := fun x => evL P σ fr y fun y => k (.fn g x y) f) hk))).do
 | mkMap => exact (do_mkMap R hk).do
 | mkSlice e b z zs l m => exact (do_mkSlice R (Xr A (g := fun m => oMkSlice e b z zs (l.ev t) m f k) (Xr A (g := fun l => ev1 P σ fr m fun m => oMkSlice e b z zs l m f k) hk))).do
 | sliceStr x lo hi =>
  have h1 := Xr A (g := fun x => evO P σ fr lo fun lo => evO P σ fr hi fun hi => oSliceStr x lo hi f k) hk
  have h2 := evO_some A (g := fun lo => evO P σ fr hi fun hi => oSliceStr (x.ev t) lo hi f k) h1
  exact (do_sliceStr R (evO_some A (g := fun hi => oSliceStr (x.ev t) _ hi f k) h2)).do
 | sliceSl z x lo hi mx =>
  have h1 := Xr A (g := fun x => evO P σ fr lo fun lo => evO P σ fr hi fun hi => evO P σ fr mx fun mx => XY z x lo hi mx f k) hk
  have h2 := evO_some A (g := fun lo => evO P σ fr hi fun hi => evO P σ fr mx fun mx => XY z (x.ev t) lo hi mx f k) h1
  have h3 := evO_some A (g := fun hi => evO P σ fr mx fun mx => XY z (x.ev t) _ hi mx f k) h2
  exact (do_sliceSl R (evO_some A (g := fun mx => XY z (x.ev t) _ _ mx f k) h3)).do
 | sliceArr n z x lo hi mx =>
  have h1 := Xr A (g := fun x => evO P σ fr lo fun lo => evO P σ fr hi fun hi => evO P σ fr mx fun mx => oSliceArr n z x lo hi mx f k) hk
  have h2 := evO_some A (g := fun lo => evO P σ fr hi fun hi => evO P σ fr mx fun mx => oSliceArr n z (x.ev t) lo hi mx f k) h1
  have h3 := evO_some A (g := fun hi => evO P σ fr mx fun mx => oSliceArr n z (x.ev t) _ hi mx f k) h2
  exact (do_sliceArr R (evO_some A (g := fun mx => oSliceArr n z (x.ev t) _ _ mx f k) h3)).do
 | fieldAddr off x => exact (do_fieldAddr R (Xr A (g := fun v => Xa off v f k) hk)).do
 | field l off x => exact (do_field R (Xr A (g := fun v => oField l off v f k) hk)).do
 | indexArr n z x i => exact (do_indexArr R (Xr A (g := fun i => oIndexArr n z (x.ev t) i f k) (Xr A (g := fun x => ev1 P σ fr i fun i => oIndexArr n z x i f k) hk))).do
 | indexSl z x i => exact (do_indexSl R (Xr A (g := fun i => Xg z (x.ev t) i f k) (Xr A (g := fun x => ev1 P σ fr i fun i => Xg z x i f k) hk))).do
 | indexAgg n l x i => exact (do_indexAgg R (Xr A (g := fun i => oIndexAggN n l (x.ev t) i f k) (Xr A (g := fun x => ev1 P σ fr i fun i => oIndexAggN n l x i f k) hk))).do
 | indexStr x i => exact (do_indexStr R (Xr A (g := fun i => oIndexStr (x.ev t) i f k) (Xr A (g := fun x => ev1 P σ fr i fun i => oIndexStr x i f k) hk))).do
 | lookup e z ok m x => exact (do_lookup R (Xr A (g := fun x => oLookup (keyQ e) z ok (m.ev t) x f k) (Xr A (g := fun m => ev1 P σ fr x fun x => oLookup (keyQ e) z ok m x f k) hk))).do
 | mapUpdate e m x v =>
  have h1 := Xr A (g := fun m => ev1 P σ fr x fun x => ev1 P σ fr v fun v => oUpdate (keyQ e) m x v f k) hk
  have h2 := Xr A (g := fun x => ev1 P σ fr v fun v => oUpdate (keyQ e) (m.ev t) x v f k) h1
  exact (do_update R (Xr A (g := fun v => oUpdate (keyQ e) (m.ev t) (x.ev t) v f k) h2)).do
 | rangeMap x => exact (do_rangeMap R (Xr A (g := fun v => oRangeMap v f k) hk)).do
 | rangeStr x => exact (do_rangeStr R (Xr A (g := fun v => oRangeStr v f k) hk)).do
 | next s x => exact (do_next R (Xr A (g := fun v => oNext s v f k) hk)).do
 | entry x => exact (do_entry R (Xr A (g := fun v => oEntry v f k) hk)).do
 | assertTo ty z ok x => exact (do_assertTo R (Xr A (g := fun v => oAssertTo ty z ok v f k) hk)).do
 | extract i x => exact (do_extract R (Xr A (g := fun v => Xk i v f k) hk)).do
 | call g args =>
  have gen : ∀ (gv : AV), g.ev t = gv → (evL P σ fr args fun l => oCall c gv l f k) = some r → Do F (aop (.call g args) t h) k r := by
   intro gv hgv hk
   have hk1 := evL_some A (g := fun l => oCall c gv l f k) hk
   obtain ⟨fn, first, cap, h1, hk2⟩ := asFn_some hk1
   rw [h1] at hgv
   cases fn with
   | func n =>
    have hk3 : c n (appF first (appF (args.map (·.ev t)) cap)) f k = some r := hk2
    rw [appF_eq, appF_eq] at hk3
    obtain ⟨v, h', f', h2, h3, h4⟩ := S _ _ _ _ _ _ R hk3
    refine ⟨v, h', f', h2.mono fun m hm => ?_, h3, h4⟩
    simp only [aop, hgv, opRes, List.append_assoc]
    exact hm
   | _ => exact absurd hk2 (by simp [fnNum])
  cases g with
  | tmp p => exact gen _ rfl (Xr A (x := .tmp p) (g := fun gv => evL P σ fr args fun l => oCall c gv l f k) hk)
  | const gv =>
   have direct : ∀ n, gv = .fn (.func n) [] [] → dOp P σ fr c (.call (.const gv) args) f k = some r → Do F (aop (.call (.const gv) args) t h) k r := by
    intro n hgv hk
    subst hgv
    have hk1 := evL_some A (g := fun l => c n l f k) hk
    obtain ⟨v, h', f', h2, h3, h4⟩ := S _ _ _ _ _ _ R hk1
    refine ⟨v, h', f', h2.mono fun m hm => ?_, h3, h4⟩
    simp only [aop, Opd.ev, opRes, List.nil_append, List.append_nil]
    exact hm
   cases gv with
   | fn fn first cap =>
    cases fn with
    | func n =>
     cases first with
     | nil => cases cap with
      | nil => exact direct n rfl hk
      | cons a b => exact gen _ rfl hk
     | cons a b => exact gen _ rfl hk
    | _ => exact gen _ rfl hk
   | _ => exact gen _ rfl hk
 | len x => exact (do_len R (Xr A (g := fun v => oLen v f k) hk)).do
 | lenStr x => exact (do_lenStr R (Xr A (g := fun v => oLenStr v f k) hk)).do
 | lenMap x => exact (do_lenMap R (Xr A (g := fun v => oLenMap v f k) hk)).do
 | cap x => exact (do_cap R (Xr A (g := fun v => oCap v f k) hk)).do
 | append e b z s x => exact (do_append R (Xr A (g := fun x => XP e b z (s.ev t) x f k) (Xr A (g := fun s => ev1 P σ fr x fun x => XP e b z s x f k) hk))).do
 | appendMake e b z zs s x => exact (do_appendMake R (Xr A (g := fun x => oAppendMake e b z zs (s.ev t) x f k) (Xr A (g := fun s => ev1 P σ fr x fun x => oAppendMake e b z zs s x f k) hk))).do
 | copy z x y => exact (do_copy R (Xr A (g := fun y => oCopy z (x.ev t) y f k) (Xr A (g := fun x => ev1 P σ fr y fun y => oCopy z x y f k) hk))).do
 | min2 l => exact (do_min R (evL_some A (g := fun l => oMinMax false l f k) hk)).do
 | max2 l => exact (do_max R (evL_some A (g := fun l => oMinMax true l f k) hk)).do
 | delete e m x => exact (do_delete R (Xr A (g := fun x => oDelete (keyQ e) (m.ev t) x f k) (Xr A (g := fun m => ev1 P σ fr x fun x => oDelete (keyQ e) m x f k) hk))).do
 | clear z zs x => exact (do_clear R (Xr A (g := fun x => oClear z zs x f k) hk)).do
 | fail => cases hk
end Go.AM
namespace Go.AM
open Go
variable {P : List Nat} {σ : Ov} {fr : Fr} {t : Tm} {f : FH} {h : Heap} {k : KV} {r : AV × FH} {F : FuncId → Option AFunc} {c : SCall}
theorem zl_eq (d : Nat) (q : Row) (v : AV) (g : Row → FRes) (hd : d < 16) : zlOf d q v g = g (q.set d v) := by
 have h1 : d = 0 ∨ d = 1 ∨ d = 2 ∨ d = 3 ∨ d = 4 ∨ d = 5 ∨ d = 6 ∨ d = 7 ∨ d = 8 ∨ d = 9 ∨ d = 10 ∨ d = 11 ∨ d = 12 ∨ d = 13 ∨ d = 14 ∨ d = 15 := by omega
 cases q
 rcases h1 with rfl | rfl | rfl | rfl | rfl | rfl | rfl | rfl | rfl | rfl | rfl | rfl | rfl | rfl | rfl | rfl <;> rfl
theorem zz_eq (d : Nat) (b : Row → AV → (Row → FRes) → FRes) (s : Row → AV → Row) (hb : ∀ q v g, b q v g = g (s q v)) (q : N16 Row) (v : AV) (g : N16 Row → FRes) (hd : d < 16) : zzOf d b q v g = g (q.set d (s (q.sel d) v)) := by
 have h1 : d = 0 ∨ d = 1 ∨ d = 2 ∨ d = 3 ∨ d = 4 ∨ d = 5 ∨ d = 6 ∨ d = 7 ∨ d = 8 ∨ d = 9 ∨ d = 10 ∨ d = 11 ∨ d = 12 ∨ d = 13 ∨ d = 14 ∨ d = 15 := by omega
 cases q
 rcases h1 with rfl | rfl | rfl | rfl | rfl | rfl | rfl | rfl | rfl | rfl | rfl | rfl | rfl | rfl | rfl | rfl <;> exact hb _ _ _
theorem putS_eq (p : Nat) (hp : p < 256) (v : AV) (q : Fr) (g : Fr → FRes) : putS p v q g = g (q.set (p / 16) ((q.sel (p / 16)).set (p % 16) v)) := by
 unfold putS
 exact zz_eq (p / 16) (zlOf (p % 16)) (fun q v => q.set (p % 16) v) (fun q v g => zl_eq _ q v g (Nat.mod_lt _ (by omega))) q v g (by omega)
theorem getS_set (p m : Nat) (hp : p < 256) (hm : m < 256) (v : AV) (q : Fr) : getS m (q.set (p / 16) ((q.sel (p / 16)).set (p % 16) v)) = if p = m then v else getS m q := by
 unfold getS
 rw [N16.sel_set _ _ _ _ (by omega) (by omega)]
 by_cases h1 : p / 16 = m / 16
 ·rw [if_pos h1, N16.sel_set _ _ _ _ (by omega) (by omega), h1]
  by_cases h2 : p % 16 = m % 16
  ·rw [if_pos h2, if_pos (by omega)]
  ·rw [if_neg h2, if_neg (by omega)]
 ·rw [if_neg h1, if_neg (by omega)]
theorem kept_lt {n : Nat} : ∀ {P : List Nat} {p : Nat}, ltAll n P = true → kept P p = true → p < n := by
 intro P
 induction P with
 | nil => intro p _ h; cases h
 | cons q P ih =>
  intro p h1 h2
  simp only [ltAll, Bool.and_eq_true] at h1
  simp only [kept] at h2
  cases hb : Nat.beq q p with
  | true =>
   have := Nat.eq_of_beq_eq_true hb
   rw [← this]; exact Nat.le_of_ble_eq_true h1.1
  | false => rw [hb] at h2; exact ih h1.2 h2
theorem beq_self (n : Nat) : Nat.beq n n = true := Nat.beq_refl n
theorem beq_ne {m n : Nat} (h : m ≠ n) : Nat.beq m n = false := by
 cases hb : Nat.beq m n with
 | false => rfl
 | true => exact absurd (Nat.eq_of_beq_eq_true hb) h
theorem Ag.put (hP : ltAll 256 P = true) (A : Ag P σ fr t) {d : Option Id} {v : AV} {g : Ov → Fr → FRes} (hk : dPut P d v σ fr g = some r) : ∃ σ' fr', Ag P σ' fr' (putD d v t) ∧ g σ' fr' = some r := by
 cases d with
 | none => exact ⟨σ, fr, A, hk⟩
 | some p =>
  unfold dPut at hk
  dsimp only at hk
  cases hp : kept P p with
  | true =>
   rw [hp] at hk
   dsimp only at hk
   have hlt := kept_lt hP hp
   rw [putS_eq p hlt] at hk
   refine ⟨_, _, ⟨?_, ?_⟩, hk⟩
   ·intro m hm
    rw [getS_set p m hlt (kept_lt hP hm)]
    simp only [putD, Tm.get_put]
    by_cases h1 : p = m
    ·rw [if_pos h1, if_pos h1]
    ·rw [if_neg h1, if_neg h1]; exact A.keep m hm
   ·intro m u hm hu
    simp only [putD, Tm.get_put]
    have h1 : ¬ p = m := fun e => by rw [e, hm] at hp; cases hp
    rw [if_neg h1]
    exact A.loc m u hm hu
  | false =>
   rw [hp] at hk
   refine ⟨_, _, ⟨?_, ?_⟩, hk⟩
   ·intro m hm
    simp only [putD, Tm.get_put]
    have h1 : ¬ p = m := fun e => by rw [e, hm] at hp; cases hp
    rw [if_neg h1]; exact A.keep m hm
   ·intro m u hm hu
    simp only [putD, Tm.get_put]
    simp only [look] at hu
    by_cases h1 : p = m
    ·have h2 : Nat.beq p m = true := by rw [h1]; exact beq_self m
     rw [h2] at hu
     rw [if_pos h1]
     simpa using hu
    ·rw [beq_ne h1] at hu
     rw [if_neg h1]
     exact A.loc m u hm hu
def wantB (b : AV) (want : Bool) : Bool := match b with | .bool b => b == want | _ => false
theorem wantB_no {b : AV} (want : Bool) (h : ∀ x, b ≠ .bool x) : wantB b want = false := by
 cases b <;> first | rfl | exact absurd rfl (h _)
def stepA (call : CallF) (o : AOper) (t : Tm) (h : Heap) : Option (AV × Heap) := match XM o t with
 | true => oneOp call o t h
 | false => some (undefA, h)
theorem runOps_cons (call : CallF) (o : AOper) (os : List AOper) (t : Tm) (h : Heap) : runOps call (o :: os) t h = match stepA call o t h with
  | none => none
  | some (v, h) => runOps call os (putD o.dst v t) h := by
 simp only [runOps, stepA]
 cases XM o t <;> rfl
theorem oIf_some {b : AV} {want : Bool} {o : KV → FRes} (hk : oIf b want o f k = some r) :
  ((wantB b want) = true ∧ o k = some r) ∨ ((wantB b want) = false ∧ k undefA f = some r) := by
 unfold oIf at hk
 rcases boolOr_some hk with ⟨x, h1, hk1⟩ | ⟨h1, hk1⟩
 ·rw [h1]
  rcases XU hk1 with ⟨h2, hk2⟩ | ⟨h2, hk2⟩ <;> rcases XU hk2 with ⟨h3, hk3⟩ | ⟨h3, hk3⟩ <;> rw [h2, h3]
  ·exact .inl ⟨rfl, hk3⟩
  ·exact .inr ⟨rfl, hk3⟩
  ·exact .inr ⟨rfl, hk3⟩
  ·exact .inl ⟨rfl, hk3⟩
 ·exact .inr ⟨wantB_no want h1, hk1⟩
theorem dOper_ok (A : Ag P σ fr t) (R : RepH f h) (S : SC F c) {o : AOper} (hk : dOper P σ fr c o f k = some r) :
  ∃ v h' f', Ev (fun m => stepA (acall F m) o t h = some (v, h')) ∧ RepH f' h' ∧ k v f' = some r := by
 unfold dOper at hk
 split at hk
 ·rename_i hg
  obtain ⟨v, h', f', h1, h2, h3⟩ := dOp_ok A R S hk
  refine ⟨v, h', f', h1.mono fun m hm => ?_, h2, h3⟩
  unfold stepA XM
  rw [hg, oneOp_eq]; exact hm
 ·rename_i g want hg
  have hk1 := Xr A (x := .tmp g) (g := fun v => oIf v want (fun k => dOp P σ fr c o.op f k) f k) hk
  have hw : XM o t = wantB (t.get g) want := by unfold XM; rw [hg]; rfl
  rcases oIf_some hk1 with ⟨h1, hk2⟩ | ⟨h1, hk2⟩
  ·obtain ⟨v, h', f', h2, h3, h4⟩ := dOp_ok A R S hk2
   refine ⟨v, h', f', h2.mono fun m hm => ?_, h3, h4⟩
   unfold stepA
   rw [hw]
   have : wantB (t.get g) want = true := h1
   rw [this, oneOp_eq]; exact hm
  ·refine ⟨undefA, h, f, .of fun m => ?_, R, hk2⟩
   unfold stepA
   rw [hw]
   have : wantB (t.get g) want = false := h1
   rw [this]
theorem dOps_ok (hP : ltAll 256 P = true) (S : SC F c) : ∀ {ops : List AOper} {σ : Ov} {fr : Fr} {t : Tm} {f : FH} {h : Heap} {g : Ov → Fr → FH → FRes} {r : AV × FH}, Ag P σ fr t → RepH f h → dOps P c ops σ fr f g = some r →
  ∃ t' h' σ' fr' f', Ev (fun m => runOps (acall F m) ops t h = some (t', h')) ∧ Ag P σ' fr' t' ∧ RepH f' h' ∧ g σ' fr' f' = some r := by
 intro ops
 induction ops with
 | nil => intro σ fr t f h g r A R hk; exact ⟨t, h, σ, fr, f, .of fun m => rfl, A, R, hk⟩
 | cons o os ih =>
  intro σ fr t f h g r A R hk
  obtain ⟨v, h1, f1, e1, R1, hk1⟩ := dOper_ok A R S (k := fun v h => dPut P o.dst v σ fr fun σ t => dOps P c os σ t h g) hk
  obtain ⟨σ1, fr1, A1, hk2⟩ := A.put hP hk1
  obtain ⟨t2, h2, σ2, fr2, f2, e2, A2, R2, hk3⟩ := ih A1 R1 hk2
  refine ⟨t2, h2, σ2, fr2, f2, (e1.and e2).mono fun m hm => ?_, A2, R2, hk3⟩
  rw [runOps_cons, hm.1]
  exact hm.2
inductive RepL : List FH → List Heap → Prop
 | nil : RepL [] []
 | cons (f : FH) (h : Heap) (fs : List FH) (hs : List Heap) (R : RepH f h) (Rs : RepL fs hs) : RepL (f :: fs) (h :: hs)
theorem RepL.length {fs : List FH} {hs : List Heap} (R : RepL fs hs) : fs.length = hs.length := by
 induction R with
 | nil => rfl
 | cons _ _ _ _ _ _ ih => simp [ih]
theorem RepL.drop {fs : List FH} {hs : List Heap} (R : RepL fs hs) : ∀ n, RepL (fs.drop n) (hs.drop n) := by
 induction R with
 | nil => intro n; simp; exact .nil
 | cons f h fs hs R Rs ih =>
  intro n
  cases n with
  | zero => exact .cons _ _ _ _ R Rs
  | succ n => exact ih n
theorem RepL.take {fs : List FH} {hs : List Heap} (R : RepL fs hs) : ∀ n, RepL (fs.take n) (hs.take n) := by
 induction R with
 | nil => intro n; simp; exact .nil
 | cons f h fs hs R Rs ih =>
  intro n
  cases n with
  | zero => exact .nil
  | succ n => exact .cons _ _ _ _ R (ih n)
def FaOk (x : FA) (y : Again) : Prop := x.v = y.v ∧ x.lo = y.lo ∧ x.hi = y.hi ∧
 ∀ (f : FH) (h : Heap) (k : KV) (r : AV × FH), RepH f h → x.o f k = some r → ∃ u h' f', aop y.o y.t h = some (.val u h') ∧ RepH f' h' ∧ k u f' = some r
theorem stayH_some {x : FA} {y : Again} (X : FaOk x y) : ∀ {fs : List FH} {hs : List Heap} {g : FRes} {r : AV × FH}, RepL fs hs → stayH x.o x.v fs g = some r → stays y.o y.t y.v hs = true ∧ g = some r := by
 intro fs
 induction fs with
 | nil => intro hs g r R hk; cases R; exact ⟨rfl, hk⟩
 | cons f fs ih =>
  intro hs g r R hk
  cases R with
  | cons _ h _ hs R Rs =>
   have hk0 : (x.o f fun u _ => iteB (AV.beq u x.v) (stayH x.o x.v fs g) none) = some r := hk
   obtain ⟨u, h', f', h1, h2, hk1⟩ := X.2.2.2 f h _ r R hk0
   obtain ⟨h3, hk2⟩ := Xz hk1
   obtain ⟨h4, hk3⟩ := ih Rs hk2
   refine ⟨?_, hk3⟩
   rw [X.1] at h3
   simp only [stays, h1, h3, h4, Bool.and_self]
inductive AsOk (hs : List Heap) (h : Heap) (calmNow : Prop) : List FA → List Again → Prop
 | nil : AsOk hs h calmNow [] []
 | both (x : FA) (y : Again) (xs : List FA) (ys : List Again) (X : FaOk x y) (T : AsOk hs h calmNow xs ys) : AsOk hs h calmNow (x :: xs) (y :: ys)
 | past (y : Again) (xs : List FA) (ys : List Again) (H : Heap) (e : y.lo = y.hi) (l : y.lo < hs.length) (g : hs[hs.length - 1 - y.lo]? = some H) (s : stays y.o y.t y.v [H] = true) (T : AsOk hs h calmNow xs ys) : AsOk hs h calmNow xs (y :: ys)
 | now (y : Again) (xs : List FA) (ys : List Again) (cn : calmNow) (e : y.lo = y.hi) (l : y.lo = hs.length) (s : stays y.o y.t y.v [h] = true) (T : AsOk hs h calmNow xs ys) : AsOk hs h calmNow xs (y :: ys)
theorem AsOk.effect {hs : List Heap} {h h' : Heap} {cn cn' : Prop} {xs : List FA} {ys : List Again} (T : AsOk hs h cn xs ys) : AsOk (h :: hs) h' cn' xs ys := by
 induction T with
 | nil => exact .nil
 | both x y xs ys X T ih => exact .both x y xs ys X ih
 | past y xs ys H e l g s T ih =>
  refine .past y xs ys H e (by simp; omega) ?_ s ih
  have : (h :: hs).length - 1 - y.lo = (hs.length - 1 - y.lo) + 1 := by simp; omega
  rw [this]; simpa using g
 | now y xs ys c e l s T ih =>
  refine .past y xs ys h e (by simp; omega) ?_ s ih
  have : (h :: hs).length - 1 - y.lo = 0 := by simp; omega
  rw [this]; rfl
theorem AsOk.same {hs : List Heap} {h : Heap} {cn cn' : Prop} (hc : cn → cn') {xs : List FA} {ys : List Again} (T : AsOk hs h cn xs ys) : AsOk hs h cn' xs ys := by
 induction T with
 | nil => exact .nil
 | both x y xs ys X T ih => exact .both x y xs ys X ih
 | past y xs ys H e l g s T ih => exact .past y xs ys H e l g s ih
 | now y xs ys c e l s T ih => exact .now y xs ys (hc c) e l s ih
theorem AsOk.make {hs : List Heap} {h h' : Heap} {cn cn' : Prop} (hc : ¬ cn) {xs : List FA} {ys : List Again} (T : AsOk hs h cn xs ys) : AsOk hs h' cn' xs ys := by
 induction T with
 | nil => exact .nil
 | both x y xs ys X T ih => exact .both x y xs ys X ih
 | past y xs ys H e l g s T ih => exact .past y xs ys H e l g s ih
 | now y xs ys c e l s T ih => exact absurd c hc
theorem stayF_some {fs : List FH} {hs : List Heap} {h0 : Heap} {cn : Prop} {g : FRes} : ∀ {xs : List FA} {ys : List Again} {r : AV × FH}, RepL fs hs → AsOk hs h0 cn xs ys → ¬ cn → stayF fs xs g = some r → allStay hs ys = true ∧ g = some r := by
 intro xs ys r R T hn hk
 induction T generalizing r with
 | nil => exact ⟨rfl, hk⟩
 | both x y xs ys X T ih =>
  have hk0 : stayH x.o x.v (betw x.lo x.hi fs) (stayF fs xs g) = some r := hk
  have RR : RepL (betw x.lo x.hi fs) (between y.lo y.hi hs) := by
   unfold betw between
   rw [X.2.1, X.2.2.1, R.length]
   exact (R.drop _).take _
  obtain ⟨h1, hk1⟩ := stayH_some X RR hk0
  obtain ⟨h2, hk2⟩ := ih hk1
  exact ⟨by simp only [allStay, h1, h2, Bool.and_self], hk2⟩
 | past y xs ys H e l g' s T ih =>
  obtain ⟨h2, hk2⟩ := ih hk
  refine ⟨?_, hk2⟩
  have : between y.lo y.hi hs = [H] := by
   unfold between
   rw [← e, show y.lo - y.lo + 1 = 1 by omega]
   obtain ⟨hlt, hH⟩ := List.getElem?_eq_some_iff.1 g'
   rw [List.drop_eq_getElem_cons hlt, hH]
   rfl
  simp only [allStay, this, s, h2, Bool.and_self]
 | now y xs ys c e l s T ih => exact absurd c hn
theorem instA_ok (A : Ag P σ fr t) {o : AOp} {g : (FH → KV → FRes) → FRes} (hk : instA P σ fr o g = some r) :
  ∃ q : FH → KV → FRes, (∀ (f : FH) (h : Heap) (k : KV) (r : AV × FH), RepH f h → q f k = some r → Dv (aop o t h) k r) ∧ g q = some r := by
 cases o with
 | load l a =>
  obtain ⟨ag, n⟩ := l
  cases ag with
  | false => exact ⟨_, fun f h k r R hk => do_load1 R hk, Xr A (g := fun v => g (Xc v)) hk⟩
  | true => exact ⟨_, fun f h k r R hk => do_loadN R hk, Xr A (g := fun v => g (Xb n v)) hk⟩
 | sliceSl z x lo hi mx =>
  have h1 := Xr A (g := fun x => evO P σ fr lo fun lo => evO P σ fr hi fun hi => evO P σ fr mx fun mx => g (XY z x lo hi mx)) hk
  have h2 := evO_some A (g := fun lo => evO P σ fr hi fun hi => evO P σ fr mx fun mx => g (XY z (x.ev t) lo hi mx)) h1
  have h3 := evO_some A (g := fun hi => evO P σ fr mx fun mx => g (XY z (x.ev t) _ hi mx)) h2
  exact ⟨_, fun f h k r R hk => do_sliceSl R hk, evO_some A (g := fun mx => g (XY z (x.ev t) _ _ mx)) h3⟩
 | sliceArr n z x lo hi mx =>
  have h1 := Xr A (g := fun x => evO P σ fr lo fun lo => evO P σ fr hi fun hi => evO P σ fr mx fun mx => g (oSliceArr n z x lo hi mx)) hk
  have h2 := evO_some A (g := fun lo => evO P σ fr hi fun hi => evO P σ fr mx fun mx => g (oSliceArr n z (x.ev t) lo hi mx)) h1
  have h3 := evO_some A (g := fun hi => evO P σ fr mx fun mx => g (oSliceArr n z (x.ev t) _ hi mx)) h2
  exact ⟨_, fun f h k r R hk => do_sliceArr R hk, evO_some A (g := fun mx => g (oSliceArr n z (x.ev t) _ _ mx)) h3⟩
 | lookup e z ok m x =>
  have h1 := Xr A (g := fun m => ev1 P σ fr x fun x => g (oLookup (keyQ e) z ok m x)) hk
  exact ⟨_, fun f h k r R hk => do_lookup R hk, Xr A (g := fun x => g (oLookup (keyQ e) z ok (m.ev t) x)) h1⟩
 | lenMap x => exact ⟨_, fun f h k r R hk => do_lenMap R hk, Xr A (g := fun x => g (oLenMap x)) hk⟩
 | entry x => exact ⟨_, fun f h k r R hk => do_entry R hk, Xr A (g := fun x => g (oEntry x)) hk⟩
 | _ => cases hk
theorem oIfA_some {b : AV} {want : Bool} {o : KV → FRes} {mk : AV → List FA} {as : List FA} {g : AV → FH → List FA → FRes} (hk : oIfA b want o mk as f g = some r) :
  ((wantB b want) = true ∧ (o fun v h => g v h (mk v)) = some r) ∨ ((wantB b want) = false ∧ g undefA f as = some r) := by
 unfold oIfA at hk
 rcases boolOr_some hk with ⟨x, h1, hk1⟩ | ⟨h1, hk1⟩
 ·rw [h1]
  rcases XU hk1 with ⟨h2, hk2⟩ | ⟨h2, hk2⟩ <;> rcases XU hk2 with ⟨h3, hk3⟩ | ⟨h3, hk3⟩ <;> rw [h2, h3]
  ·exact .inl ⟨rfl, hk3⟩
  ·exact .inr ⟨rfl, hk3⟩
  ·exact .inr ⟨rfl, hk3⟩
  ·exact .inl ⟨rfl, hk3⟩
 ·exact .inr ⟨wantB_no want h1, hk1⟩
end Go.AM
namespace Go.AM
open Go
variable {P : List Nat} {σ : Ov} {fr : Fr} {t : Tm} {f : FH} {h : Heap} {k : KV} {r : AV × FH} {F : FuncId → Option AFunc} {c : SCall}
theorem wayB_eq {a b : AM.Way} (h : wayB a b = true) : a = b := by cases a <;> cases b <;> first | rfl | cases h
theorem still_val {o : AOper} (hw : o.op.way = .pure ∨ o.op.way = .quiet) {call : CallF} {v : AV} {h' : Heap} (hs : stepA call o t h = some (v, h')) : h' = h := by
 unfold stepA at hs
 split at hs
 ·rw [oneOp_eq] at hs
  cases ha : aop o.op t h with
  | none => rw [ha] at hs; cases hs
  | some x =>
   rw [ha] at hs
   rcases hw with hw | hw
   ·obtain ⟨u, rfl⟩ := pure_val hw ha
    cases hs; rfl
   ·obtain ⟨u, rfl⟩ := quiet_on hw ha
    cases hs; rfl
 ·cases hs; rfl
theorem runDrawn_cons (call : CallF) (d : DOper) (os : List DOper) (t : Tm) (h : Heap) (hs : List Heap) (as : List Again) : runDrawn call (d :: os) t h hs as = match stepA call d.o t h with
  | none => none
  | some (v, h') => runDrawn call os (putD d.o.dst v t) h' (match d.way with | .effect => h :: hs | _ => hs) (match d.way with | .quiet => (match XM d.o t with | true => ⟨d.o.op, t, v, d.lo, d.hi⟩ :: as | false => as) | _ => as) := by
 simp only [runDrawn, stepA]
 cases XM d.o t with
 | true => cases oneOp call d.o t h with
  | none => rfl
  | some p => obtain ⟨v, h'⟩ := p; cases d.way <;> rfl
 | false => cases d.way <;> rfl
theorem eqI_refl (n : Int) : eqI n n = true := by cases n <;> exact beq_self _
mutual
theorem AV.beq_refl : ∀ (x : AV), AV.beq x x = true
 | .bool a => by simp [AV.beq]
 | .int k a => by cases k <;> simp [AV.beq, eqI_refl]
 | .str a => by simp [AV.beq]
 | .ptr a o => by simp [AV.beq, beq_self]
 | .pnil => rfl
 | .sl b o l (.ex c) => by simp [AV.beq, beq_self]
 | .sl b o l (.op c) => by simp [AV.beq, beq_self]
 | .snil => rfl
 | .sl0 => rfl
 | .slx a => by simp [AV.beq]
 | .map a => by simp [AV.beq]
 | .mnil => rfl
 | .fn f x y => by simp [AV.beq, AV.beqL_refl x, AV.beqL_refl y]
 | .fnil => rfl
 | .ifc t v => by simp [AV.beq, beq_self, AV.beq_refl v]
 | .inil => rfl
 | .agg x => by simp [AV.beq, AV.beqL_refl x]
 | .tup x => by simp [AV.beq, AV.beqL_refl x]
theorem AV.beqL_refl : ∀ (x : List AV), AV.beqL x x = true
 | [] => rfl
 | x :: xs => by simp [AV.beqL, AV.beq_refl x, AV.beqL_refl xs]
end
theorem stays_one {o : AOper} (hw : o.op.way = .quiet) (hwn : XM o t = true) {call : CallF} {v : AV} {h' : Heap} (hs : stepA call o t h = some (v, h')) : stays o.op t v [h] = true := by
 unfold stepA at hs
 rw [hwn, oneOp_eq] at hs
 cases ha : aop o.op t h with
 | none => rw [ha] at hs; cases hs
 | some x =>
  rw [ha] at hs
  obtain ⟨u, rfl⟩ := quiet_on hw ha
  cases hs
  simp only [stays, ha, AV.beq_refl, Bool.and_self]
theorem calm_cons {d : DOper} {os : List DOper} (hw : d.way = .pure ∨ d.way = .quiet) : calm (d :: os) = calm os := by
 rcases hw with hw | hw <;> simp only [calm, hw]
def DrPost (F : FuncId → Option AFunc) (P : List Nat) (ds : List DOper) (t : Tm) (h : Heap) (hs : List Heap) (ys : List Again) (g : Ov → Fr → FH → List FH → List FA → FRes) (r : AV × FH) : Prop :=
 ∃ t' h' hs' ys' σ' fr' f' fs' xs', Ev (fun m => runDrawn (acall F m) ds t h hs ys = some (t', h' :: hs', ys')) ∧ Ag P σ' fr' t' ∧ RepH f' h' ∧ RepL fs' (h' :: hs') ∧ AsOk (h' :: hs') h' False xs' ys' ∧ g σ' fr' f' fs' xs' = some r
theorem DrPost.step {d : DOper} {os : List DOper} {t : Tm} {h : Heap} {hs : List Heap} {ys : List Again} {g : Ov → Fr → FH → List FH → List FA → FRes} {r : AV × FH} {v : AV} {h' : Heap} {hs1 : List Heap} {ys1 : List Again}
  (e : Ev fun m => stepA (acall F m) d.o t h = some (v, h')) (h1 : (match d.way with | .effect => h :: hs | _ => hs) = hs1) (h2 : (match d.way with | .quiet => (match XM d.o t with | true => ⟨d.o.op, t, v, d.lo, d.hi⟩ :: ys | false => ys) | _ => ys) = ys1)
  (p : DrPost F P os (putD d.o.dst v t) h' hs1 ys1 g r) : DrPost F P (d :: os) t h hs ys g r := by
 obtain ⟨t', h'', hs', ys', σ', fr', f', fs', xs', e2, A, R, Rs, T, hk⟩ := p
 refine ⟨t', h'', hs', ys', σ', fr', f', fs', xs', (e.and e2).mono fun m hm => ?_, A, R, Rs, T, hk⟩
 rw [runDrawn_cons, hm.1]
 dsimp only
 rw [h1, h2]
 exact hm.2
theorem dDrawn_ok (hP : ltAll 256 P = true) (S : SC F c) : ∀ {ds : List DOper} {σ : Ov} {fr : Fr} {t : Tm} {f : FH} {h : Heap} {fs : List FH} {hs : List Heap} {xs : List FA} {ys : List Again} {g : Ov → Fr → FH → List FH → List FA → FRes} {r : AV × FH},
  Ag P σ fr t → RepH f h → RepL fs hs → AsOk hs h (calm ds = true) xs ys → dDrawn P c ds σ fr f fs xs g = some r → DrPost F P ds t h hs ys g r := by
 intro ds
 induction ds with
 | nil =>
  intro σ fr t f h fs hs xs ys g r A R Rs T hk
  exact ⟨t, h, hs, ys, σ, fr, f, f :: fs, xs, .of fun m => rfl, A, R, .cons _ _ _ _ R Rs, T.effect, hk⟩
 | cons d os ih =>
  intro σ fr t f h fs hs xs ys g r A R Rs T hk
  unfold dDrawn at hk
  cases hwb : wayB d.way d.o.op.way with
  | false => rw [hwb] at hk; cases hk
  | true =>
   rw [hwb] at hk
   dsimp only at hk
   have hway := wayB_eq hwb
   cases hw : d.way with
   | effect =>
    rw [hw] at hk
    dsimp only at hk
    obtain ⟨v, h1, f1, e1, R1, hk1⟩ := dOper_ok A R S (k := fun v h' => dPut P d.o.dst v σ fr fun σ t => dDrawn P c os σ t h' (f :: fs) xs g) hk
    obtain ⟨σ1, fr1, A1, hk2⟩ := A.put hP hk1
    exact DrPost.step e1 (by rw [hw]) (by rw [hw]) (ih A1 R1 (.cons _ _ _ _ R Rs) T.effect hk2)
   | make =>
    rw [hw] at hk
    dsimp only at hk
    obtain ⟨v, h1, f1, e1, R1, hk1⟩ := dOper_ok A R S (k := fun v h' => dPut P d.o.dst v σ fr fun σ t => dDrawn P c os σ t h' fs xs g) hk
    obtain ⟨σ1, fr1, A1, hk2⟩ := A.put hP hk1
    have hc : ¬ calm (d :: os) = true := by simp [calm, hw]
    exact DrPost.step e1 (by rw [hw]) (by rw [hw]) (ih A1 R1 Rs (T.make hc) hk2)
   | pure =>
    rw [hw] at hk
    dsimp only at hk
    obtain ⟨v, h1, f1, e1, R1, hk1⟩ := dOper_ok A R S (k := fun v h' => dPut P d.o.dst v σ fr fun σ t => dDrawn P c os σ t h' fs xs g) hk
    obtain ⟨σ1, fr1, A1, hk2⟩ := A.put hP hk1
    obtain ⟨n, hn⟩ := e1
    have hh : h1 = h := still_val (.inl (by rw [← hway, hw])) (hn n (Nat.le_refl _))
    subst hh
    exact DrPost.step ⟨n, hn⟩ (by rw [hw]) (by rw [hw]) (ih A1 R1 Rs (T.same fun hc => by rw [← calm_cons (.inl hw)]; exact hc) hk2)
   | quiet =>
    rw [hw] at hk
    dsimp only at hk
    have hq : d.o.op.way = .quiet := by rw [← hway, hw]
    have Tc : AsOk hs h (calm os = true) xs ys := T.same fun hc => by rw [← calm_cons (.inr hw)]; exact hc
    have fin : ∀ (v : AV) (h1 : Heap) (f1 : FH) (xs1 : List FA), (Ev fun m => stepA (acall F m) d.o t h = some (v, h1)) → RepH f1 h1 →
      (XM d.o t = true → AsOk hs h (calm os = true) xs1 (⟨d.o.op, t, v, d.lo, d.hi⟩ :: ys)) → (XM d.o t = false → AsOk hs h (calm os = true) xs1 ys) →
      (dPut P d.o.dst v σ fr fun σ t => dDrawn P c os σ t f1 fs xs1 g) = some r → DrPost F P (d :: os) t h hs ys g r := by
     intro v h1 f1 xs1 e1 R1 T1 T2 hk1
     obtain ⟨σ1, fr1, A1, hk2⟩ := A.put hP hk1
     obtain ⟨n, hn⟩ := e1
     have hh : h1 = h := still_val (.inr hq) (hn n (Nat.le_refl _))
     subst hh
     cases hwn : XM d.o t with
     | true => exact DrPost.step ⟨n, hn⟩ (by rw [hw]) (by rw [hw, hwn]) (ih A1 R1 Rs (T1 hwn) hk2)
     | false => exact DrPost.step ⟨n, hn⟩ (by rw [hw]) (by rw [hw, hwn]) (ih A1 R1 Rs (T2 hwn) hk2)
    cases hb : (Nat.beq d.lo d.hi && Nat.beq d.lo fs.length && calm os) with
    | true =>
     rw [hb] at hk
     dsimp only at hk
     simp only [Bool.and_eq_true] at hb
     obtain ⟨⟨b1, b2⟩, b3⟩ := hb
     obtain ⟨v, h1, f1, e1, R1, hk1⟩ := dOper_ok A R S (k := fun v h' => dPut P d.o.dst v σ fr fun σ t => dDrawn P c os σ t h' fs xs g) hk
     refine fin v h1 f1 xs e1 R1 (fun hwn => ?_) (fun _ => Tc) hk1
     obtain ⟨n, hn⟩ := e1
     exact .now _ _ _ b3 (Nat.eq_of_beq_eq_true b1) (by rw [← Rs.length]; exact Nat.eq_of_beq_eq_true b2) (stays_one hq hwn (hn n (Nat.le_refl _))) Tc
    | false =>
     rw [hb] at hk
     dsimp only at hk
     obtain ⟨q, hq1, hk0⟩ := instA_ok A hk
     have hfa : ∀ v, FaOk ⟨q, v, d.lo, d.hi⟩ ⟨d.o.op, t, v, d.lo, d.hi⟩ := fun v => ⟨rfl, rfl, rfl, fun f h k r R hk => hq1 f h k r R hk⟩
     cases hg : d.o.guard with
     | none =>
      rw [hg] at hk0
      dsimp only at hk0
      obtain ⟨v, h1, f1, e1, R1, hk1⟩ := dOp_ok A R S (k := fun v h' => dPut P d.o.dst v σ fr fun σ t => dDrawn P c os σ t h' fs (⟨q, v, d.lo, d.hi⟩ :: xs) g) hk0
      have hwn : XM d.o t = true := by unfold XM; rw [hg]
      refine fin v h1 f1 _ (e1.mono fun m hm => ?_) R1 (fun _ => .both _ _ _ _ (hfa v) Tc) (fun h => by rw [hwn] at h; cases h) hk1
      unfold stepA
      rw [hwn, oneOp_eq]; exact hm
     | some gw =>
      obtain ⟨gd, want⟩ := gw
      rw [hg] at hk0
      dsimp only at hk0
      have hk2 := Xr A (x := .tmp gd) (g := fun b => oIfA b want (fun k => dOp P σ fr c d.o.op f k) (fun v => ⟨q, v, d.lo, d.hi⟩ :: xs) xs f fun v h' as => dPut P d.o.dst v σ fr fun σ t => dDrawn P c os σ t h' fs as g) hk0
      have hwt : XM d.o t = wantB (t.get gd) want := by unfold XM; rw [hg]; rfl
      rcases oIfA_some hk2 with ⟨g1, hk3⟩ | ⟨g1, hk3⟩
      ·obtain ⟨v, h1, f1, e1, R1, hk4⟩ := dOp_ok A R S (k := fun v h' => dPut P d.o.dst v σ fr fun σ t => dDrawn P c os σ t h' fs (⟨q, v, d.lo, d.hi⟩ :: xs) g) hk3
       have hwn : XM d.o t = true := by rw [hwt]; exact g1
       refine fin v h1 f1 _ (e1.mono fun m hm => ?_) R1 (fun _ => .both _ _ _ _ (hfa v) Tc) (fun h => by rw [hwn] at h; cases h) hk4
       unfold stepA
       rw [hwn, oneOp_eq]; exact hm
      ·have hwn : XM d.o t = false := by rw [hwt]; exact g1
       refine fin undefA h f xs (.of fun m => ?_) R (fun h => by rw [hwn] at h; cases h) (fun _ => Tc) hk3
       unfold stepA
       rw [hwn]
end Go.AM
namespace Go.AM
open Go
variable {P : List Nat} {σ : Ov} {fr : Fr} {t : Tm} {f : FH} {h : Heap} {k : KV} {r : AV × FH} {F : FuncId → Option AFunc} {c : SCall}
theorem Ag.drop (A : Ag P σ fr t) : Ag P [] fr t := ⟨A.keep, fun p v _ hv => by cases hv⟩
def Runs (F : FuncId → Option AFunc) (P : List Nat) (code : ACode) (t : Tm) (h : Heap) (g : KE) (r : AV × FH) : Prop :=
 ∃ e t' h' fr' f', Ev (fun m => aexec F m code t h = some (e, t', h')) ∧ Ag P [] fr' t' ∧ RepH f' h' ∧ g e fr' f' = some r
theorem thenE_some {e : AExit} {a : Fr → FH → FRes} {g : KE} (hk : thenE e a g fr f = some r) : (e = .normal ∧ a fr f = some r) ∨ (e ≠ .normal ∧ g e fr f = some r) := by
 cases e with
 | normal => exact .inl ⟨rfl, hk⟩
 | exit id => exact .inr ⟨by simp, hk⟩
 | ret => exact .inr ⟨by simp, hk⟩
def outOf (id : Nat) (e : AExit) : AExit := match e with | .exit j => (bif Nat.beq j id then .normal else .exit j) | e => e
theorem blockE_some {e : AExit} {id : Nat} {g : KE} (hk : blockE e id g fr f = some r) : g (outOf id e) fr f = some r := by
 cases e with
 | normal => exact hk
 | exit j =>
  have hk0 : iteB (Nat.beq j id) (g .normal fr f) (g (.exit j) fr f) = some r := hk
  unfold outOf
  dsimp only
  rcases XU hk0 with ⟨h1, hk1⟩ | ⟨h1, hk1⟩ <;> rw [h1] <;> exact hk1
 | ret => exact hk
theorem aexec_succ (F : FuncId → Option AFunc) (m : Nat) (code : ACode) (t : Tm) (h : Heap) : aexec F (m + 1) code t h = exec1 (acall F m) (aexec F m) code t h := rfl
theorem loop_run {a : ACode} {b : SCode} {N : Nat} {g : KE} (hb : ∀ {fr : Fr} {t : Tm} {f : FH} {h : Heap} {g : KE} {r : AV × FH}, Ag P [] fr t → RepH f h → b c N fr f g = some r → Runs F P a t h g r) :
  ∀ (n : Nat) {fr : Fr} {t : Tm} {f : FH} {h : Heap} {r : AV × FH}, Ag P [] fr t → RepH f h →
   Nat.rec (motive := fun _ => Fr → FH → FRes) (fun _ _ => none) (fun _ ih t h => b c N t h fun e t h => thenE e ih g t h) n fr f = some r → Runs F P (.loop a) t h g r := by
 intro n
 induction n with
 | zero => intro fr t f h r A R hk; cases hk
 | succ n ih =>
  intro fr t f h r A R hk
  obtain ⟨e1, t1, h1, fr1, f1, E1, A1, R1, hk1⟩ := hb A R hk
  rcases thenE_some hk1 with ⟨he, hk2⟩ | ⟨he, hk2⟩
  ·subst he
   obtain ⟨e2, t2, h2, fr2, f2, E2, A2, R2, hk3⟩ := ih A1 R1 hk2
   refine ⟨e2, t2, h2, fr2, f2, (E1.and E2).succ fun m hm => ?_, A2, R2, hk3⟩
   rw [aexec_succ]
   simp only [exec1, hm.1, hm.2]
  ·refine ⟨e1, t1, h1, fr1, f1, E1.succ fun m hm => ?_, A1, R1, hk2⟩
   rw [aexec_succ]
   simp only [exec1, hm]
theorem region_run (hP : ltAll 256 P = true) (S : SC F c) {ops : List AOper} {g : Ov → Fr → FH → FRes} (A : Ag P σ fr t) (R : RepH f h) (hk : dOps P c ops σ fr f g = some r) :
  ∃ t' h' σ' fr' f', Ev (fun m => aexec F m (.region ops) t h = some (.normal, t', h')) ∧ Ag P σ' fr' t' ∧ RepH f' h' ∧ g σ' fr' f' = some r := by
 obtain ⟨t', h', σ', fr', f', E, A', R', hk'⟩ := dOps_ok hP S A R hk
 refine ⟨t', h', σ', fr', f', E.succ fun m hm => ?_, A', R', hk'⟩
 rw [aexec_succ]
 simp only [exec1, hm]
theorem drawn_run (hP : ltAll 256 P = true) (S : SC F c) {ops : List DOper} {g : Ov → Fr → FH → FRes} (A : Ag P σ fr t) (R : RepH f h) (hk : (dDrawn P c ops σ fr f [] [] fun σ t h hs as => stayF hs as (g σ t h)) = some r) :
  ∃ t' h' σ' fr' f', Ev (fun m => aexec F m (.drawn ops) t h = some (.normal, t', h')) ∧ Ag P σ' fr' t' ∧ RepH f' h' ∧ g σ' fr' f' = some r := by
 obtain ⟨t', h', hs', ys', σ', fr', f', fs', xs', E, A', R', Rs, T, hk'⟩ := dDrawn_ok hP S A R .nil .nil hk
 obtain ⟨h1, hk2⟩ := stayF_some Rs T (fun h => h) hk'
 refine ⟨t', h', σ', fr', f', E.succ fun m hm => ?_, A', R', hk2⟩
 rw [aexec_succ]
 simp only [exec1, hm, h1]
theorem seq_run {a b : ACode} {t1 : Tm} {h1 : Heap} {g : KE} (E : Ev fun m => aexec F m a t h = some (.normal, t1, h1)) (Q : Runs F P b t1 h1 g r) : Runs F P (.seq a b) t h g r := by
 obtain ⟨e2, t2, h2, fr2, f2, E2, A2, R2, hk3⟩ := Q
 refine ⟨e2, t2, h2, fr2, f2, (E.and E2).succ fun m hm => ?_, A2, R2, hk3⟩
 rw [aexec_succ]
 simp only [exec1, hm.1, hm.2]
theorem dC_ok (hP : ltAll 256 P = true) (S : SC F c) : ∀ {code : ACode} {σ : Ov} {N : Nat} {fr : Fr} {t : Tm} {f : FH} {h : Heap} {g : KE} {r : AV × FH},
  Ag P σ fr t → RepH f h → dC P code σ c N fr f g = some r → Runs F P code t h g r := by
 intro code
 induction code with
 | skip =>
  intro σ N fr t f h g r A R hk
  exact ⟨.normal, t, h, fr, f, (Ev.of (φ := fun _ => True) fun _ => trivial).succ fun m _ => rfl, A.drop, R, hk⟩
 | exit id =>
  intro σ N fr t f h g r A R hk
  exact ⟨.exit id, t, h, fr, f, (Ev.of (φ := fun _ => True) fun _ => trivial).succ fun m _ => rfl, A.drop, R, hk⟩
 | ret =>
  intro σ N fr t f h g r A R hk
  exact ⟨.ret, t, h, fr, f, (Ev.of (φ := fun _ => True) fun _ => trivial).succ fun m _ => rfl, A.drop, R, hk⟩
 | region ops =>
  intro σ N fr t f h g r A R hk
  obtain ⟨t', h', σ', fr', f', E, A', R', hk'⟩ := region_run hP S (g := fun _ t h => g .normal t h) A R hk
  exact ⟨.normal, t', h', fr', f', E, A'.drop, R', hk'⟩
 | drawn ops =>
  intro σ N fr t f h g r A R hk
  obtain ⟨t', h', σ', fr', f', E, A', R', hk'⟩ := drawn_run hP S (g := fun _ t h => g .normal t h) A R hk
  exact ⟨.normal, t', h', fr', f', E, A'.drop, R', hk'⟩
 | scope a ih =>
  intro σ N fr t f h g r A R hk
  obtain ⟨e1, t1, h1, fr1, f1, E1, A1, R1, hk1⟩ := ih A R hk
  exact ⟨e1, t1, h1, fr1, f1, E1.succ fun m hm => by rw [aexec_succ]; exact hm, A1, R1, hk1⟩
 | loop a ih =>
  intro σ N fr t f h g r A R hk
  exact loop_run (fun A R hk => ih A R hk) N A.drop R hk
 | block id a ih =>
  intro σ N fr t f h g r A R hk
  obtain ⟨e1, t1, h1, fr1, f1, E1, A1, R1, hk1⟩ := ih (g := fun e t h => blockE e id g t h) A R hk
  refine ⟨_, t1, h1, fr1, f1, E1.succ fun m hm => ?_, A1, R1, blockE_some hk1⟩
  rw [aexec_succ]
  simp only [exec1, hm]
  cases e1 with
  | normal => rfl
  | exit j => unfold outOf; dsimp only; cases Nat.beq j id <;> rfl
  | ret => rfl
 | cond x a b iha ihb =>
  intro σ N fr t f h g r A R hk
  have hk1 := Xr A (g := fun v => sIf v (dC P a σ) (dC P b σ) c N fr f g) hk
  obtain ⟨q, hq, hk2⟩ := asBool_some hk1
  rcases XU hk2 with ⟨h1, hk3⟩ | ⟨h1, hk3⟩
  ·obtain ⟨e1, t1, h1', fr1, f1, E1, A1, R1, hk4⟩ := iha A R hk3
   exact ⟨e1, t1, h1', fr1, f1, E1.succ fun m hm => by rw [aexec_succ]; simp only [exec1, hq, h1, hm], A1, R1, hk4⟩
  ·obtain ⟨e1, t1, h1', fr1, f1, E1, A1, R1, hk4⟩ := ihb A R hk3
   exact ⟨e1, t1, h1', fr1, f1, E1.succ fun m hm => by rw [aexec_succ]; simp only [exec1, hq, h1, hm], A1, R1, hk4⟩
 | seq a b iha ihb =>
  intro σ N fr t f h g r A R hk
  have plain : sSeq (dC P a σ) (dC P b []) c N fr f g = some r → Runs F P (.seq a b) t h g r := by
   intro hk
   obtain ⟨e1, t1, h1, fr1, f1, E1, A1, R1, hk1⟩ := iha (g := fun e t h => thenE e (fun t h => dC P b [] c N t h g) g t h) A R hk
   rcases thenE_some hk1 with ⟨he, hk2⟩ | ⟨he, hk2⟩
   ·subst he
    exact seq_run E1 (ihb A1 R1 hk2)
   ·refine ⟨e1, t1, h1, fr1, f1, E1.succ fun m hm => ?_, A1, R1, hk2⟩
    rw [aexec_succ]
    simp only [exec1, hm]
  cases a with
  | region ops =>
   obtain ⟨t', h', σ', fr', f', E, A', R', hk'⟩ := region_run hP S (g := fun σ t h => dC P b σ c N t h g) A R hk
   exact seq_run E (ihb A' R' hk')
  | drawn ops =>
   obtain ⟨t', h', σ', fr', f', E, A', R', hk'⟩ := drawn_run hP S (g := fun σ t h => dC P b σ c N t h g) A R hk
   exact seq_run E (ihb A' R' hk')
  | _ => exact plain hk
theorem tupF_eq (l : List AV) (g : AV → FRes) : tupF l g = g (tuple1 l) := by
 cases l with
 | nil => rfl
 | cons v l => cases l <;> rfl
def cellV (l : Lay) (a : AV) (h : Heap) : Option AV := match a with
 | .ptr b o => match h.get b with
  | some (.cells _ _ _ _ cs) => partA l cs o
  | _ => none
 | _ => none
theorem resA_cell (p : Id) (l : Lay) (rs : List AResult) (t : Tm) (h : Heap) : resA (.cell p l :: rs) t h = match cellV l (t.get p) h with
  | some v => (resA rs t h).map (v :: ·)
  | none => none := by
 simp only [resA, cellV]
 cases t.get p <;> rfl
theorem res_cell {l : Lay} {a v : AV} {x : Heap} {t : Tm} (h1 : aop (.load l (.const a)) t h = some (.val v x)) : cellV l a h = some v := by
 simp only [aop, Opd.ev] at h1
 unfold cellV
 cases a with
 | ptr b o =>
  dsimp only at h1 ⊢
  split at h1
  ·rename_i cs hg
   cases hp : partA l cs o with
   | none => rw [hp] at h1; cases h1
   | some u => rw [hp] at h1; cases h1; rw [hg]; exact hp
  ·cases h1
 | _ => cases h1
theorem resS_some (A : Ag P [] fr t) (R : RepH f h) : ∀ {rs : List AResult} {g : List AV → FRes} {r : AV × FH}, resKept P rs = true → resS (rs.map dRes) fr f g = some r → ∃ vs, resA rs t h = some vs ∧ g vs = some r := by
 intro rs
 induction rs with
 | nil => intro g r _ hk; exact ⟨[], rfl, hk⟩
 | cons x rs ih =>
  intro g r hr hk
  cases x with
  | tmp p =>
   simp only [resKept, Bool.and_eq_true] at hr
   have hk0 : resS (rs.map dRes) fr f (fun l => g (getS p fr :: l)) = some r := hk
   obtain ⟨vs, h1, hk1⟩ := ih hr.2 hk0
   rw [A.keep p hr.1] at hk1
   exact ⟨t.get p :: vs, by simp only [resA, h1, Option.map_some], hk1⟩
  | cell p l =>
   simp only [resKept, Bool.and_eq_true] at hr
   have hkeep := A.keep p hr.1
   have fin : ∀ (v : AV) (x : Heap), aop (.load l (.const (t.get p))) t h = some (.val v x) → resS (rs.map dRes) fr f (fun l => g (v :: l)) = some r → ∃ vs, resA (.cell p l :: rs) t h = some vs ∧ g vs = some r := by
    intro v x h1 hk1
    obtain ⟨vs, h2, hk2⟩ := ih hr.2 hk1
    have h3 := res_cell h1
    refine ⟨v :: vs, ?_, hk2⟩
    rw [resA_cell, h3]
    simp only [h2, Option.map_some]
   obtain ⟨ag, n⟩ := l
   cases ag with
   | false =>
    have hk0 : (Xc (getS p fr) f fun v _ => resS (rs.map dRes) fr f (fun l => g (v :: l))) = some r := hk
    rw [hkeep] at hk0
    obtain ⟨v, x, f', h1, _, hk1⟩ := do_load1 (t := t) (x := .const (t.get p)) (n := n) R hk0
    exact fin v x h1 hk1
   | true =>
    have hk0 : (Xb n (getS p fr) f fun v _ => resS (rs.map dRes) fr f (fun l => g (v :: l))) = some r := hk
    rw [hkeep] at hk0
    obtain ⟨v, x, f', h1, _, hk1⟩ := do_loadN (t := t) (x := .const (t.get p)) (n := n) R hk0
    exact fin v x h1 hk1
def PsOk (i : Nat) : List Put → Prop
 | [] => True
 | p :: ps => i < 256 ∧ p = putS i ∧ PsOk (i + 1) ps
noncomputable def initG (ps : List Put) (l : List AV) (q : Fr) (g : Fr → FRes) : FRes :=
 List.rec (motive := fun _ => List Put → Fr → (Fr → FRes) → FRes) (fun _ t k => k t) (fun v _ ih ps t k => List.rec (motive := fun _ => AV → (List Put → Fr → (Fr → FRes) → FRes) → Fr → (Fr → FRes) → FRes) (fun _ _ _ _ => none) (fun p ps _ v ih t k => p v t fun t => ih ps t k) ps v ih t k) l ps q g
theorem initG_some : ∀ {l : List AV} {ps : List Put} {i : Nat} {q : Fr} {t : Tm} {g : Fr → FRes} {r : AV × FH}, PsOk i ps → (∀ m, m < 256 → getS m q = t.get m) → initG ps l q g = some r →
  l.length ≤ ps.length ∧ ∃ q', (∀ m, m < 256 → getS m q' = (XS i l t).get m) ∧ g q' = some r := by
 intro l
 induction l with
 | nil => intro ps i q t g r _ hq hk; exact ⟨Nat.zero_le _, q, hq, hk⟩
 | cons v l ih =>
  intro ps i q t g r hps hq hk
  cases ps with
  | nil => cases hk
  | cons p ps =>
   obtain ⟨hi, hp, hps'⟩ := hps
   have hk0 : p v q (fun q => initG ps l q g) = some r := hk
   rw [hp, putS_eq i hi] at hk0
   obtain ⟨h1, q', h2, h3⟩ := ih (t := t.put v i) hps' (fun m hm => by
    rw [getS_set i m hi hm, Tm.get_put]
    by_cases h1 : i = m
    ·rw [if_pos h1, if_pos h1]
    ·rw [if_neg h1, if_neg h1]; exact hq m hm) hk0
   exact ⟨by simpa using h1, q', h2, h3⟩
theorem fr0_get (m : Nat) (_ : m < 256) : getS m fr0 = Tm.nil.get m := by
 rw [Tm.get_nil]
 have : ∀ {α : Type} (x : α) (d : Nat), (N16.rep x).sel d = x := by
  intro α x d; unfold N16.rep N16.sel; split <;> rfl
 unfold getS fr0
 rw [this, this]
theorem cloneF_some {args : List AV} (R : RepH f h) (hk : cloneF args f k = some r) : ∃ v h' f', cloneA args h = some (v, h') ∧ RepH f' h' ∧ k v f' = some r := by
 unfold cloneF at hk
 split at hk
 ·rename_i v
  unfold asIfc at hk
  split at hk
  ·rename_i ty u
   obtain ⟨b, hb, hk1⟩ := asMap_some hk
   obtain ⟨es, clock, hg, hk2⟩ := mapOf_some R hk1
   obtain ⟨f', R', hk3⟩ := newH_some R hk2
   subst hb
   exact ⟨_, _, f', by simp only [cloneA, hg], R', hk3⟩
  ·cases hk
 ·cases hk
def TabOk (T : Nat → Option SFunc) (F : FuncId → Option AFunc) : Prop := ∀ g s, T g = some s → ∃ af P, F g = some af ∧ isDen P af s
theorem ps_len : ∀ {ps : List Put} {i : Nat}, PsOk i ps → i + ps.length ≤ 256 ∨ ps = [] := by
 intro ps
 induction ps with
 | nil => intro i _; exact .inr rfl
 | cons p ps ih =>
  intro i h
  rcases ih h.2.2 with h1 | h1
  ·left; simp; omega
  ·left; subst h1; have := h.1; simp; omega
theorem sCall_ok {T : Nat → Option SFunc} {ps : List Put} {N : Nat} (hT : TabOk T F) (hps : PsOk 0 ps) : ∀ n, SC F (sCall T ps N n) := by
 intro n
 induction n with
 | zero => intro g args f k r h R hk; cases hk
 | succ n ih =>
  intro g args f k r h R hk
  have hk0 : enterF (T g) ps N (sCall T ps N n) args f k = some r := hk
  cases hs : T g with
  | none => rw [hs] at hk0; cases hk0
  | some s =>
   rw [hs] at hk0
   obtain ⟨af, P, hF, hd⟩ := hT g s hs
   cases af with
   | mapsClone =>
    have hd' : s = .clone := hd
    subst hd'
    obtain ⟨v, h', f', h1, h2, h3⟩ := cloneF_some R hk0
    exact ⟨v, h', f', .of fun m => by unfold acall callBy; rw [hF]; exact h1, h2, h3⟩
   | code code results =>
    obtain ⟨hP, hr, hd'⟩ : ltAll 256 P = true ∧ resKept P results = true ∧ s = .code (dC P code []) (results.map dRes) := hd
    subst hd'
    have hk1 : initG ps args fr0 (fun t => dC P code [] (sCall T ps N n) N t f (finE (results.map dRes) k)) = some r := hk0
    obtain ⟨hlen, q', hq, hk2⟩ := initG_some (t := .nil) hps fr0_get hk1
    have A0 : Ag P [] q' (XS 0 args .nil) := ⟨fun p hp => hq p (kept_lt hP hp), fun p v _ hv => by cases hv⟩
    obtain ⟨e, t', h', fr', f', E, A', R', hk3⟩ := dC_ok hP ih A0 R hk2
    have hl' : args.length ≤ 1000 := by
     rcases ps_len hps with h1 | h1
     ·omega
     ·rw [h1] at hlen; simp only [List.length_nil] at hlen; omega
    have hl : Nat.ble args.length 1000 = true := Nat.ble_eq_true_of_le hl'
    have fin : (resS (results.map dRes) fr' f' fun l => tupF l fun v => k v f') = some r → e ≠ .exit 0 → (∀ id, e ≠ .exit id) → ∃ v h1 f1, Ev (fun m => acall F m g args h = some (v, h1)) ∧ RepH f1 h1 ∧ k v f1 = some r := by
     intro hk4 _ hne
     obtain ⟨vs, h1, hk5⟩ := resS_some A' R' hr hk4
     rw [tupF_eq] at hk5
     refine ⟨tuple1 vs, h', f', E.mono fun m hm => ?_, R', hk5⟩
     unfold acall callBy
     rw [hF]
     dsimp only
     rw [hl]
     dsimp only [cond_true]
     rw [hm]
     cases e with
     | normal => simp only [h1, Option.map_some]
     | exit id => exact absurd rfl (hne id)
     | ret => simp only [h1, Option.map_some]
    cases e with
    | normal => exact fin hk3 (by simp) (by simp)
    | exit id => cases hk3
    | ret => exact fin hk3 (by simp) (by simp)
end Go.AM
