/-
  A VERIFIED ABSTRACT INTERPRETER FOR THE MODEL'S PROGRAMS, part A: tries, abstract memory, the values of pure operations.
  Blocks bear numbers of the interpreter's own; where they lie in a world's heap says a map (Loc). What a slice's array may have grown to is not known.
-/
import Derived.Calls
import Derived.Laws.Sem
import Derived.Laws.World
namespace Go.Proofs.YtjbanjpklgpenaaGreatDoor.Vm

/-! ### tries by a number's digits -/
inductive Tr (α : Type) where
  | nil
  | node (v : Option α) (l r : Tr α)

noncomputable def Tr.get {α : Type} (t : Tr α) : Nat → Option α :=
  Tr.rec (motive := fun _ => Nat → Option α) (fun _ => none)
    (fun v _ _ gl gr i => Bool.rec (Bool.rec (gr (Nat.sub (Nat.div i 2) 1)) (gl (Nat.div i 2)) (Nat.beq (Nat.mod i 2) 1)) v (Nat.beq i 0)) t

noncomputable def Tr.setF {α : Type} (f : Nat) : Tr α → Nat → Option α → Tr α :=
  Nat.rec (motive := fun _ => Tr α → Nat → Option α → Tr α) (fun t _ _ => t)
    (fun _ ih t i x => Tr.rec (motive := fun _ => Tr α)
      (Bool.rec (Bool.rec (.node none .nil (ih .nil (Nat.sub (Nat.div i 2) 1) x)) (.node none (ih .nil (Nat.div i 2) x) .nil) (Nat.beq (Nat.mod i 2) 1)) (.node x .nil .nil) (Nat.beq i 0))
      (fun v l r _ _ => Bool.rec (Bool.rec (.node v l (ih r (Nat.sub (Nat.div i 2) 1) x)) (.node v (ih l (Nat.div i 2) x) r) (Nat.beq (Nat.mod i 2) 1)) (.node x l r) (Nat.beq i 0)) t) f

noncomputable def Tr.set {α : Type} (t : Tr α) (i : Nat) (x : α) : Tr α := Tr.setF (Nat.succ i) t i (some x)
noncomputable def Tr.del {α : Type} (t : Tr α) (i : Nat) : Tr α := Tr.setF (Nat.succ i) t i none

section
variable {α : Type}
theorem Tr.get_nil (i : Nat) : (Tr.nil : Tr α).get i = none := rfl
theorem Tr.get_node (v : Option α) (l r : Tr α) (i : Nat) : (Tr.node v l r).get i = if i = 0 then v else if i % 2 = 1 then l.get (i / 2) else r.get (i / 2 - 1) := by
  show (Bool.rec (motive := fun _ => Option α) (Bool.rec (motive := fun _ => Option α) (r.get (i / 2 - 1)) (l.get (i / 2)) (Nat.beq (i % 2) 1)) v (Nat.beq i 0) : Option α) = _
  by_cases h : i = 0
  · subst h; rfl
  · have e : Nat.beq i 0 = false := by rw [← Bool.not_eq_true, Nat.beq_eq]; exact h
    rw [e, if_neg h]
    by_cases h2 : i % 2 = 1
    · have e2 : Nat.beq (i % 2) 1 = true := by rw [Nat.beq_eq]; exact h2
      rw [e2, if_pos h2]
    · have e2 : Nat.beq (i % 2) 1 = false := by rw [← Bool.not_eq_true, Nat.beq_eq]; exact h2
      rw [e2, if_neg h2]
def Tr.vl : Tr α → Option α
  | .nil => none
  | .node v _ _ => v
def Tr.lf : Tr α → Tr α
  | .nil => .nil
  | .node _ l _ => l
def Tr.rt : Tr α → Tr α
  | .nil => .nil
  | .node _ _ r => r
theorem Tr.get_parts (t : Tr α) (i : Nat) : t.get i = if i = 0 then t.vl else if i % 2 = 1 then t.lf.get (i / 2) else t.rt.get (i / 2 - 1) := by
  cases t with
  | nil => simp [Tr.get_nil, Tr.vl, Tr.lf, Tr.rt]
  | node v l r => exact Tr.get_node v l r i
theorem Tr.setF_succ (f : Nat) (t : Tr α) (i : Nat) (x : Option α) : Tr.setF (f + 1) t i x =
    if i = 0 then .node x t.lf t.rt else if i % 2 = 1 then .node t.vl (Tr.setF f t.lf (i / 2) x) t.rt else .node t.vl t.lf (Tr.setF f t.rt (i / 2 - 1) x) := by
  have key : ∀ (a b c : Tr α), (Bool.rec (Bool.rec a b (Nat.beq (i % 2) 1)) c (Nat.beq i 0) : Tr α) = if i = 0 then c else if i % 2 = 1 then b else a := by
    intro a b c
    by_cases h : i = 0
    · subst h; rfl
    · have e : Nat.beq i 0 = false := by rw [← Bool.not_eq_true, Nat.beq_eq]; exact h
      rw [e, if_neg h]
      by_cases h2 : i % 2 = 1
      · have e2 : Nat.beq (i % 2) 1 = true := by rw [Nat.beq_eq]; exact h2
        rw [e2, if_pos h2]
      · have e2 : Nat.beq (i % 2) 1 = false := by rw [← Bool.not_eq_true, Nat.beq_eq]; exact h2
        rw [e2, if_neg h2]
  cases t with
  | nil => exact key _ _ _
  | node v l r => exact key _ _ _
theorem Tr.get_setF : ∀ (f i j : Nat) (t : Tr α) (x : Option α), i < f → (Tr.setF f t i x).get j = if j = i then x else t.get j := by
  intro f
  induction f with
  | zero => intro i j t x h; omega
  | succ f ih =>
    intro i j t x h
    rw [Tr.setF_succ, Tr.get_parts t j]
    by_cases h0 : i = 0
    · rw [if_pos h0, Tr.get_node]
      by_cases hj : j = 0
      · rw [if_pos hj, if_pos (by omega)]
      · rw [if_neg hj, if_neg hj, if_neg (by omega : ¬ j = i)]
    · rw [if_neg h0]
      by_cases h1 : i % 2 = 1
      · rw [if_pos h1, Tr.get_node]
        by_cases hj : j = 0
        · rw [if_pos hj, if_pos hj, if_neg (by omega)]
        · rw [if_neg hj, if_neg hj]
          by_cases hj1 : j % 2 = 1
          · rw [if_pos hj1, if_pos hj1, ih (i / 2) (j / 2) _ x (by omega)]
            by_cases e : j = i
            · rw [if_pos (by omega), if_pos e]
            · rw [if_neg (by omega), if_neg e]
          · rw [if_neg hj1, if_neg hj1, if_neg (by omega)]
      · rw [if_neg h1, Tr.get_node]
        by_cases hj : j = 0
        · rw [if_pos hj, if_pos hj, if_neg (by omega)]
        · rw [if_neg hj, if_neg hj]
          by_cases hj1 : j % 2 = 1
          · rw [if_pos hj1, if_pos hj1, if_neg (by omega)]
          · rw [if_neg hj1, if_neg hj1, ih (i / 2 - 1) (j / 2 - 1) _ x (by omega)]
            by_cases e : j = i
            · rw [if_pos (by omega), if_pos e]
            · rw [if_neg (by omega), if_neg e]
theorem Tr.get_set (t : Tr α) (i j : Nat) (x : α) : (t.set i x).get j = if j = i then some x else t.get j := Tr.get_setF (i + 1) i j t (some x) (by omega)
theorem Tr.get_del (t : Tr α) (i j : Nat) : (t.del i).get j = if j = i then none else t.get j := Tr.get_setF (i + 1) i j t none (by omega)
theorem Tr.get_set_same (t : Tr α) (i : Nat) (x : α) : (t.set i x).get i = some x := by rw [Tr.get_set, if_pos rfl]
theorem Tr.get_set_ne (t : Tr α) {i j : Nat} (x : α) (h : j ≠ i) : (t.set i x).get j = t.get j := by rw [Tr.get_set, if_neg h]
end

/-! ### numbers -/
def wrapI (k : IntKind) (n : Int) : Int :=
  match k, n with
  | .i64, .ofNat m => bif Nat.blt m 9223372036854775808 then .ofNat m else IntKind.wrap .i64 (.ofNat m)
  | .i64, .negSucc m => bif Nat.blt m 9223372036854775808 then .negSucc m else IntKind.wrap .i64 (.negSucc m)
  | .u64, .ofNat m => .ofNat (Nat.mod m 18446744073709551616)
  | k, n => k.wrap n

theorem two64 : (2 : Int) ^ 64 = 18446744073709551616 := by decide
theorem two63 : (2 : Int) ^ (64 - 1) = 9223372036854775808 := by decide
theorem wrap_i64 (n : Int) : IntKind.i64.wrap n = if n % 18446744073709551616 ≥ 9223372036854775808 then n % 18446744073709551616 - 18446744073709551616 else n % 18446744073709551616 := by
  simp only [IntKind.wrap, IntKind.bits, IntKind.signed, two64, two63, Bool.true_and, decide_eq_true_eq]
theorem wrap_u64 (n : Int) : IntKind.u64.wrap n = n % 18446744073709551616 := by
  simp only [IntKind.wrap, IntKind.bits, IntKind.signed, two64, Bool.false_and, Bool.false_eq_true, if_false]
theorem wrapI_eq (k : IntKind) (n : Int) : wrapI k n = k.wrap n := by
  unfold wrapI
  split
  · rename_i m
    cases h : Nat.blt m 9223372036854775808 with
    | false => rw [cond_false]
    | true =>
      have h' : m < 9223372036854775808 := by simpa [Nat.blt_eq] using h
      rw [cond_true, wrap_i64, Int.ofNat_eq_natCast]
      split <;> omega
  · rename_i m
    cases h : Nat.blt m 9223372036854775808 with
    | false => rw [cond_false]
    | true =>
      have h' : m < 9223372036854775808 := by simpa [Nat.blt_eq] using h
      have e : Int.negSucc m = -((m : Int) + 1) := Int.negSucc_eq m
      generalize Int.negSucc m = z at e ⊢
      rw [cond_true, wrap_i64]
      split <;> omega
  · rename_i m
    rw [wrap_u64]
    show ((m % 18446744073709551616 : Nat) : Int) = (m : Int) % 18446744073709551616
    omega
  · rfl

end Go.Proofs.YtjbanjpklgpenaaGreatDoor.Vm
