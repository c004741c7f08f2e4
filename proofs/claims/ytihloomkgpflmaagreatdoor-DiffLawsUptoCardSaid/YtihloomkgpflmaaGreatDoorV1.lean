/-
  A VERIFIED ABSTRACT INTERPRETER FOR THE MODEL'S PROGRAMS, part A: tries, abstract memory, the values of pure operations.
  Blocks bear numbers of the interpreter's own; where they lie in a world's heap says a map (Loc). What a slice's array may have grown to is not known.
  THE ABSTRACT INTERPRETER, part B: the relation between abstract and true values, blocks, worlds.
  THE ABSTRACT INTERPRETER, part C: operations on numbers, texts and nil.
  THE ABSTRACT INTERPRETER, part D: operations that look at no memory.
-/
import Derived.Calls
import Derived.Laws.Sem
import Derived.Laws.World
import Derived.Laws.Tables
import Derived.Laws.Strings
set_option linter.unusedSimpArgs false
set_option linter.unusedVariables false
namespace Go.Proofs.YtihloomkgpflmaaGreatDoor.Vm

/-! ### tries by a number's digits -/
inductive Tr (α : Type) where
  | nil
  | node (v : Option α) (l r : Tr α)

noncomputable def Tr.get {α : Type} (t : Tr α) : Nat → Option α :=
  Tr.rec (motive := fun _ => Nat → Option α) (fun _ => none)
    (fun v _ _ gl gr i => Bool.rec (Bool.rec (gr (Nat.sub (Nat.div i 2) 1)) (gl (Nat.div i 2)) (Nat.beq (Nat.mod i 2) 1)) v (Nat.beq i 0)) t

noncomputable def Tr.setF {α : Type} (f : Nat) : Tr α → Nat → Option α → Tr α :=
  Nat.rec (motive := fun _ => Tr α → Nat → Option α → Tr α) (fun t _ _ => t)
    (fun _ ih t i x => Tr.rec (motive := fun _ => Tr α)
      (Bool.rec (Bool.rec (.node none .nil (ih .nil (Nat.sub (Nat.div i 2) 1) x)) (.node none (ih .nil (Nat.div i 2) x) .nil) (Nat.beq (Nat.mod i 2) 1)) (.node x .nil .nil) (Nat.beq i 0))
      (fun v l r _ _ => Bool.rec (Bool.rec (.node v l (ih r (Nat.sub (Nat.div i 2) 1) x)) (.node v (ih l (Nat.div i 2) x) r) (Nat.beq (Nat.mod i 2) 1)) (.node x l r) (Nat.beq i 0)) t) f

noncomputable def Tr.set {α : Type} (t : Tr α) (i : Nat) (x : α) : Tr α := Tr.setF (Nat.succ i) t i (some x)
noncomputable def Tr.del {α : Type} (t : Tr α) (i : Nat) : Tr α := Tr.setF (Nat.succ i) t i none

section
variable {α : Type}
theorem Tr.get_nil (i : Nat) : (Tr.nil : Tr α).get i = none := rfl
theorem Tr.get_node (v : Option α) (l r : Tr α) (i : Nat) : (Tr.node v l r).get i = if i = 0 then v else if i % 2 = 1 then l.get (i / 2) else r.get (i / 2 - 1) := by
  show (Bool.rec (motive := fun _ => Option α) (Bool.rec (motive := fun _ => Option α) (r.get (i / 2 - 1)) (l.get (i / 2)) (Nat.beq (i % 2) 1)) v (Nat.beq i 0) : Option α) = _
  by_cases h : i = 0
  · subst h; rfl
  · have e : Nat.beq i 0 = false := by rw [← Bool.not_eq_true, Nat.beq_eq]; exact h
    rw [e, if_neg h]
    by_cases h2 : i % 2 = 1
    · have e2 : Nat.beq (i % 2) 1 = true := by rw [Nat.beq_eq]; exact h2
      rw [e2, if_pos h2]
    · have e2 : Nat.beq (i % 2) 1 = false := by rw [← Bool.not_eq_true, Nat.beq_eq]; exact h2
      rw [e2, if_neg h2]
def Tr.vl : Tr α → Option α
  | .nil => none
  | .node v _ _ => v
def Tr.lf : Tr α → Tr α
  | .nil => .nil
  | .node _ l _ => l
def Tr.rt : Tr α → Tr α
  | .nil => .nil
  | .node _ _ r => r
theorem Tr.get_parts (t : Tr α) (i : Nat) : t.get i = if i = 0 then t.vl else if i % 2 = 1 then t.lf.get (i / 2) else t.rt.get (i / 2 - 1) := by
  cases t with
  | nil => simp [Tr.get_nil, Tr.vl, Tr.lf, Tr.rt]
  | node v l r => exact Tr.get_node v l r i
theorem Tr.setF_succ (f : Nat) (t : Tr α) (i : Nat) (x : Option α) : Tr.setF (f + 1) t i x =
    if i = 0 then .node x t.lf t.rt else if i % 2 = 1 then .node t.vl (Tr.setF f t.lf (i / 2) x) t.rt else .node t.vl t.lf (Tr.setF f t.rt (i / 2 - 1) x) := by
  have key : ∀ (a b c : Tr α), (Bool.rec (Bool.rec a b (Nat.beq (i % 2) 1)) c (Nat.beq i 0) : Tr α) = if i = 0 then c else if i % 2 = 1 then b else a := by
    intro a b c
    by_cases h : i = 0
    · subst h; rfl
    · have e : Nat.beq i 0 = false := by rw [← Bool.not_eq_true, Nat.beq_eq]; exact h
      rw [e, if_neg h]
      by_cases h2 : i % 2 = 1
      · have e2 : Nat.beq (i % 2) 1 = true := by rw [Nat.beq_eq]; exact h2
        rw [e2, if_pos h2]
      · have e2 : Nat.beq (i % 2) 1 = false := by rw [← Bool.not_eq_true, Nat.beq_eq]; exact h2
        rw [e2, if_neg h2]
  cases t with
  | nil => exact key _ _ _
  | node v l r => exact key _ _ _
theorem Tr.get_setF : ∀ (f i j : Nat) (t : Tr α) (x : Option α), i < f → (Tr.setF f t i x).get j = if j = i then x else t.get j := by
  intro f
  induction f with
  | zero => intro i j t x h; omega
  | succ f ih =>
    intro i j t x h
    rw [Tr.setF_succ, Tr.get_parts t j]
    by_cases h0 : i = 0
    · rw [if_pos h0, Tr.get_node]
      by_cases hj : j = 0
      · rw [if_pos hj, if_pos (by omega)]
      · rw [if_neg hj, if_neg hj, if_neg (by omega : ¬ j = i)]
    · rw [if_neg h0]
      by_cases h1 : i % 2 = 1
      · rw [if_pos h1, Tr.get_node]
        by_cases hj : j = 0
        · rw [if_pos hj, if_pos hj, if_neg (by omega)]
        · rw [if_neg hj, if_neg hj]
          by_cases hj1 : j % 2 = 1
          · rw [if_pos hj1, if_pos hj1, ih (i / 2) (j / 2) _ x (by omega)]
            by_cases e : j = i
            · rw [if_pos (by omega), if_pos e]
            · rw [if_neg (by omega), if_neg e]
          · rw [if_neg hj1, if_neg hj1, if_neg (by omega)]
      · rw [if_neg h1, Tr.get_node]
        by_cases hj : j = 0
        · rw [if_pos hj, if_pos hj, if_neg (by omega)]
        · rw [if_neg hj, if_neg hj]
          by_cases hj1 : j % 2 = 1
          · rw [if_pos hj1, if_pos hj1, if_neg (by omega)]
          · rw [if_neg hj1, if_neg hj1, ih (i / 2 - 1) (j / 2 - 1) _ x (by omega)]
            by_cases e : j = i
            · rw [if_pos (by omega), if_pos e]
            · rw [if_neg (by omega), if_neg e]
theorem Tr.get_set (t : Tr α) (i j : Nat) (x : α) : (t.set i x).get j = if j = i then some x else t.get j := Tr.get_setF (i + 1) i j t (some x) (by omega)
theorem Tr.get_del (t : Tr α) (i j : Nat) : (t.del i).get j = if j = i then none else t.get j := Tr.get_setF (i + 1) i j t none (by omega)
theorem Tr.get_set_same (t : Tr α) (i : Nat) (x : α) : (t.set i x).get i = some x := by rw [Tr.get_set, if_pos rfl]
theorem Tr.get_set_ne (t : Tr α) {i j : Nat} (x : α) (h : j ≠ i) : (t.set i x).get j = t.get j := by rw [Tr.get_set, if_neg h]
end

/-! ### numbers -/
def wrapI (k : IntKind) (n : Int) : Int :=
  match k, n with
  | .i64, .ofNat m => bif Nat.blt m 9223372036854775808 then .ofNat m else IntKind.wrap .i64 (.ofNat m)
  | .i64, .negSucc m => bif Nat.blt m 9223372036854775808 then .negSucc m else IntKind.wrap .i64 (.negSucc m)
  | .u64, .ofNat m => .ofNat (Nat.mod m 18446744073709551616)
  | k, n => k.wrap n

theorem two64 : (2 : Int) ^ 64 = 18446744073709551616 := by decide
theorem two63 : (2 : Int) ^ (64 - 1) = 9223372036854775808 := by decide
theorem wrap_i64 (n : Int) : IntKind.i64.wrap n = if n % 18446744073709551616 ≥ 9223372036854775808 then n % 18446744073709551616 - 18446744073709551616 else n % 18446744073709551616 := by
  simp only [IntKind.wrap, IntKind.bits, IntKind.signed, two64, two63, Bool.true_and, decide_eq_true_eq]
theorem wrap_u64 (n : Int) : IntKind.u64.wrap n = n % 18446744073709551616 := by
  simp only [IntKind.wrap, IntKind.bits, IntKind.signed, two64, Bool.false_and, Bool.false_eq_true, if_false]
theorem wrapI_eq (k : IntKind) (n : Int) : wrapI k n = k.wrap n := by
  unfold wrapI
  split
  · rename_i m
    cases h : Nat.blt m 9223372036854775808 with
    | false => rw [cond_false]
    | true =>
      have h' : m < 9223372036854775808 := by simpa [Nat.blt_eq] using h
      rw [cond_true, wrap_i64, Int.ofNat_eq_natCast]
      split <;> omega
  · rename_i m
    cases h : Nat.blt m 9223372036854775808 with
    | false => rw [cond_false]
    | true =>
      have h' : m < 9223372036854775808 := by simpa [Nat.blt_eq] using h
      have e : Int.negSucc m = -((m : Int) + 1) := Int.negSucc_eq m
      generalize Int.negSucc m = z at e ⊢
      rw [cond_true, wrap_i64]
      split <;> omega
  · rename_i m
    rw [wrap_u64]
    show ((m % 18446744073709551616 : Nat) : Int) = (m : Int) % 18446744073709551616
    omega
  · rfl

end Go.Proofs.YtihloomkgpflmaaGreatDoor.Vm

namespace Go.Proofs.YtihloomkgpflmaaGreatDoor.Vm

/-- Where an abstract block lies: a block of the heap; of a row that may have grown: its first cell, and how many elements there is room for.
An abstract block's number is 256 n + s: s is 0, or, of a row that may have grown, how many cells an element has. -/
structure Loc where
  blk : Nat
  gr : Option (Nat × Nat)

/-- Where the blocks lie; and what is frozen: a cell that holds a value for good. -/
structure Iota where
  loc : Nat → Option Loc
  fz : Addr → Value → Prop
instance : CoeFun Iota (fun _ => Nat → Option Loc) := ⟨Iota.loc⟩

def Loc.off (l : Loc) (o : Nat) : Nat := match l.gr with | none => o | some g => g.1 + o

def plainFn : Fn → Bool
  | .yield _ => false
  | _ => true

mutual
inductive VR (ι : Iota) : Value → Value → Prop
  | bool (b : Bool) : VR ι (.bool b) (.bool b)
  | int (k : IntKind) (n : Int) : VR ι (.int k n) (.int k n)
  | float (k : FloatKind) (n : Nat) : VR ι (.float k n) (.float k n)
  | complex (k : FloatKind) (n m : Nat) : VR ι (.complex k n m) (.complex k n m)
  | str (s : ByteArray) : VR ι (.string s) (.string s)
  | ptr0 : VR ι (.pointer none) (.pointer none)
  | ptr {b o : Nat} {l : Loc} (h : ι b = some l) : VR ι (.pointer (some ⟨b, o, none⟩)) (.pointer (some ⟨l.blk, l.off o, none⟩))
  | sl0 (n c : Nat) : VR ι (.slice none n c) (.slice none n c)
  | sl {b o : Nat} {l : Loc} (n c : Nat) (h : ι b = some l) (hg : l.gr = none) (hb : b % 256 = 0) : VR ι (.slice (some ⟨b, o, none⟩) n c) (.slice (some ⟨l.blk, o, none⟩) n c)
  | slg {b o : Nat} {l : Loc} {base cap e : Nat} (n c C : Nat) (h : ι b = some l) (hg : l.gr = some (base, cap)) (hb : b % 256 ≠ 0) (h0 : 0 < c) (hn : n ≤ c) (ho : o = e * (b % 256)) (hc : c ≤ C) (hC : C + e ≤ cap) :
      VR ι (.slice (some ⟨b, o, none⟩) n c) (.slice (some ⟨l.blk, base + o, none⟩) n C)
  | sle {b o : Nat} {l : Loc} {g : Nat × Nat} (a : Addr) (c : Nat) (h : ι b = some l) (hg : l.gr = some g) (hb : b % 256 ≠ 0) : VR ι (.slice (some ⟨b, o, none⟩) 0 0) (.slice (some a) 0 c)
  | map0 : VR ι (.map none) (.map none)
  | map {b : Nat} {l : Loc} (h : ι b = some l) (hg : l.gr = none) : VR ι (.map (some b)) (.map (some l.blk))
  | chan0 : VR ι (.chan none) (.chan none)
  | func {fn : Fn} {xs ys cs ds : Array Value} (hf : plainFn fn = true) (h1 : VRL ι xs.toList ys.toList) (h2 : VRL ι cs.toList ds.toList) : VR ι (.func fn xs cs) (.func fn ys ds)
  | yield {b : Nat} {l : Loc} (h : ι b = some l) (hg : l.gr = none) : VR ι (.func (.yield b) #[] #[]) (.func (.yield l.blk) #[] #[])
  | nilFunc : VR ι .nilFunc .nilFunc
  | nilIface : VR ι .nilIface .nilIface
  | iface {v u : Value} (t : TypeId) (h : VR ι v u) : VR ι (.iface t v) (.iface t u)
  | agg {xs ys : Array Value} (h : VRL ι xs.toList ys.toList) : VR ι (.agg xs) (.agg ys)
  /-- a slice whose cells are frozen: how many elements; the cells (from the first on) -/
  | dat {cs zs : List Value} {b o : Nat} (n c : Nat) (hc : n ≤ c) (hz : ∀ i z, zs[i]? = some z → ι.fz ⟨b, o + i, none⟩ z) (h : VRL ι cs zs) : VR ι (.func (.yield n) #[.agg ⟨cs⟩] #[]) (.slice (some ⟨b, o, none⟩) n c)
  | dat0 (cs : List Value) : VR ι (.func (.yield 0) #[.agg ⟨cs⟩] #[]) (.slice none 0 0)
  | datE (cs : List Value) (a : Addr) (c : Nat) : VR ι (.func (.yield 0) #[.agg ⟨cs⟩] #[]) (.slice (some a) 0 c)
  /-- a pointer into frozen cells -/
  | fptr {cs zs : List Value} {b o : Nat} (hz : ∀ i z, zs[i]? = some z → ι.fz ⟨b, o + i, none⟩ z) (h : VRL ι cs zs) : VR ι (.func (.yield 0) #[] #[.agg ⟨cs⟩]) (.pointer (some ⟨b, o, none⟩))
  | tuple {xs ys : Array Value} (h : VRL ι xs.toList ys.toList) : VR ι (.tuple xs) (.tuple ys)
inductive VRL (ι : Iota) : List Value → List Value → Prop
  | nil : VRL ι [] []
  | cons {v u : Value} {xs ys : List Value} (h : VR ι v u) (t : VRL ι xs ys) : VRL ι (v :: xs) (u :: ys)
end

structure Ext (ι κ : Iota) : Prop where
  loc : ∀ b l, ι b = some l → κ b = some l
  fz : ∀ a v, ι.fz a v → κ.fz a v
instance (ι κ : Iota) : CoeFun (Ext ι κ) (fun _ => ∀ b l, ι b = some l → κ b = some l) := ⟨Ext.loc⟩
theorem Ext.refl (ι : Iota) : Ext ι ι := ⟨fun _ _ h => h, fun _ _ h => h⟩
theorem Ext.trans {ι κ μ : Iota} (h : Ext ι κ) (g : Ext κ μ) : Ext ι μ := ⟨fun b l e => g b l (h b l e), fun a v e => g.fz a v (h.fz a v e)⟩

mutual
theorem VR.mono {ι κ : Iota} (e : Ext ι κ) : ∀ {v u : Value}, VR ι v u → VR κ v u
  | _, _, .bool b => .bool b
  | _, _, .int k n => .int k n
  | _, _, .float k n => .float k n
  | _, _, .complex k n m => .complex k n m
  | _, _, .str s => .str s
  | _, _, .ptr0 => .ptr0
  | _, _, .ptr h => .ptr (e _ _ h)
  | _, _, .sl0 n c => .sl0 n c
  | _, _, .sl n c h hg hb => .sl n c (e _ _ h) hg hb
  | _, _, .slg n c C h hg hb h0 hn ho hc hC => .slg n c C (e _ _ h) hg hb h0 hn ho hc hC
  | _, _, .sle a c h hg hb => .sle a c (e _ _ h) hg hb
  | _, _, .map0 => .map0
  | _, _, .map h hg => .map (e _ _ h) hg
  | _, _, .chan0 => .chan0
  | _, _, .func hf h1 h2 => .func hf (VRL.mono e h1) (VRL.mono e h2)
  | _, _, .yield h hg => .yield (e _ _ h) hg
  | _, _, .nilFunc => .nilFunc
  | _, _, .nilIface => .nilIface
  | _, _, .iface t h => .iface t (VR.mono e h)
  | _, _, .agg h => .agg (VRL.mono e h)
  | _, _, .dat n c hc hz h => .dat n c hc (fun i z hi => e.fz _ _ (hz i z hi)) (VRL.mono e h)
  | _, _, .dat0 cs => .dat0 cs
  | _, _, .datE cs a c => .datE cs a c
  | _, _, .fptr hz h => .fptr (fun i z hi => e.fz _ _ (hz i z hi)) (VRL.mono e h)
  | _, _, .tuple h => .tuple (VRL.mono e h)
theorem VRL.mono {ι κ : Iota} (e : Ext ι κ) : ∀ {xs ys : List Value}, VRL ι xs ys → VRL κ xs ys
  | _, _, .nil => .nil
  | _, _, .cons h t => .cons (VR.mono e h) (VRL.mono e t)
end

/-! ### lists -/
section
variable {ι : Iota}
theorem VRL.length : ∀ {xs ys : List Value}, VRL ι xs ys → xs.length = ys.length
  | _, _, .nil => rfl
  | _, _, .cons _ t => by simp [VRL.length t]
theorem VRL.get : ∀ {xs ys : List Value}, VRL ι xs ys → ∀ {i : Nat} {v : Value}, xs[i]? = some v → ∃ u, ys[i]? = some u ∧ VR ι v u
  | _, _, .nil, i, v, h => by simp at h
  | _, _, .cons h t, 0, v, e => by
    simp at e; subst e; exact ⟨_, rfl, h⟩
  | _, _, .cons h t, i + 1, v, e => by
    simp at e
    obtain ⟨u, hu, hv⟩ := VRL.get t e
    exact ⟨u, by simpa using hu, hv⟩
theorem VRL.append : ∀ {xs ys : List Value}, VRL ι xs ys → ∀ {as bs : List Value}, VRL ι as bs → VRL ι (xs ++ as) (ys ++ bs)
  | _, _, .nil, _, _, h => h
  | _, _, .cons h t, _, _, g => .cons h (VRL.append t g)
theorem VRL.take : ∀ {xs ys : List Value}, VRL ι xs ys → ∀ (n : Nat), VRL ι (xs.take n) (ys.take n)
  | _, _, .nil, n => by simp; exact .nil
  | _, _, .cons h t, 0 => .nil
  | _, _, .cons h t, n + 1 => .cons h (VRL.take t n)
theorem VRL.drop : ∀ {xs ys : List Value}, VRL ι xs ys → ∀ (n : Nat), VRL ι (xs.drop n) (ys.drop n)
  | _, _, .nil, n => by simp; exact .nil
  | _, _, .cons h t, 0 => .cons h t
  | _, _, .cons h t, n + 1 => VRL.drop t n
theorem VRL.set : ∀ {xs ys : List Value}, VRL ι xs ys → ∀ (i : Nat) {v u : Value}, VR ι v u → VRL ι (xs.set i v) (ys.set i u)
  | _, _, .nil, _, _, _, _ => .nil
  | _, _, .cons _ t, 0, _, _, g => .cons g t
  | _, _, .cons h t, i + 1, _, _, g => .cons h (VRL.set t i g)
theorem VRL.replicate {v u : Value} (h : VR ι v u) : ∀ (n : Nat), VRL ι (List.replicate n v) (List.replicate n u)
  | 0 => .nil
  | n + 1 => .cons h (VRL.replicate h n)
theorem VRL.self {p : Value → Bool} (hp : ∀ v, p v = true → VR ι v v) : ∀ (xs : List Value), xs.all p = true → VRL ι xs xs
  | [], _ => .nil
  | v :: xs, h => by
    simp only [List.all_cons, Bool.and_eq_true] at h
    exact .cons (hp v h.1) (VRL.self hp xs h.2)
end

/-! ### frozen slices, frozen pointers -/
abbrev mkDat (n : Nat) (cs : List Value) : Value := .func (.yield n) #[.agg ⟨cs⟩] #[]
abbrev mkPtr (cs : List Value) : Value := .func (.yield 0) #[] #[.agg ⟨cs⟩]
def datOf (v : Value) : Option (Nat × List Value) := match v with
  | .func (.yield n) f c => (match f.toList, c.toList with
    | [.agg cs], [] => some (n, cs.toList)
    | _, _ => none)
  | _ => none
def fptrOf (v : Value) : Option (List Value) := match v with
  | .func (.yield _) f c => (match f.toList, c.toList with
    | [], [.agg cs] => some cs.toList
    | _, _ => none)
  | _ => none
theorem datOf_spec {ι : Iota} {v u : Value} {n : Nat} {cs : List Value} (h : datOf v = some (n, cs)) (hv : VR ι v u) :
    (∃ b o zs c, u = .slice (some ⟨b, o, none⟩) n c ∧ n ≤ c ∧ (∀ i z, zs[i]? = some z → ι.fz ⟨b, o + i, none⟩ z) ∧ VRL ι cs zs) ∨ (n = 0 ∧ (u = .slice none 0 0 ∨ ∃ a c, u = .slice (some a) 0 c)) := by
  cases hv <;> simp only [datOf, reduceCtorEq] at h
  case func fn xs ys as bs hf h1 h2 => cases fn <;> first | (simp [plainFn] at hf; done) | (simp at h; done)
  case dat cs' zs b o c hc hz hl =>
    simp at h; obtain ⟨rfl, rfl⟩ := h
    exact .inl ⟨_, _, _, _, rfl, hc, hz, hl⟩
  case dat0 => simp at h; obtain ⟨rfl, rfl⟩ := h; exact .inr ⟨rfl, .inl rfl⟩
  case datE => simp at h; obtain ⟨rfl, rfl⟩ := h; exact .inr ⟨rfl, .inr ⟨_, _, rfl⟩⟩
theorem fptrOf_spec {ι : Iota} {v u : Value} {cs : List Value} (h : fptrOf v = some cs) (hv : VR ι v u) :
    ∃ b o zs, u = .pointer (some ⟨b, o, none⟩) ∧ (∀ i z, zs[i]? = some z → ι.fz ⟨b, o + i, none⟩ z) ∧ VRL ι cs zs := by
  cases hv <;> simp only [fptrOf, reduceCtorEq] at h
  case func fn xs ys as bs hf h1 h2 => cases fn <;> first | (simp [plainFn] at hf; done) | (simp at h; done)
  case fptr cs' zs b o hz hl =>
    simp at h; subst h
    exact ⟨_, _, _, rfl, hz, hl⟩

/-- A value without an address. -/
def simple : Value → Bool
  | .bool _ | .int _ _ | .float _ _ | .complex _ _ _ | .string _ | .pointer none | .slice none _ _ | .map none | .chan none | .nilFunc | .nilIface => true
  | _ => false
def okc : Value → Bool
  | .agg cs => cs.toList.all simple
  | v => simple v
theorem simple_self {ι : Iota} (v : Value) (h : simple v = true) : VR ι v v := by
  cases v with
  | bool b => exact .bool b
  | int k n => exact .int k n
  | float k n => exact .float k n
  | complex k n m => exact .complex k n m
  | string s => exact .str s
  | pointer a => cases a with | none => exact .ptr0 | some a => simp [simple] at h
  | slice a n c => cases a with | none => exact .sl0 n c | some a => simp [simple] at h
  | map a => cases a with | none => exact .map0 | some a => simp [simple] at h
  | chan a => cases a with | none => exact .chan0 | some a => simp [simple] at h
  | nilFunc => exact .nilFunc
  | nilIface => exact .nilIface
  | _ => simp [simple] at h
theorem okc_self {ι : Iota} (v : Value) (h : okc v = true) : VR ι v v := by
  cases v with
  | agg cs => exact .agg (VRL.self simple_self _ h)
  | _ => exact simple_self _ h

theorem VR.oneCell {ι : Iota} {v u : Value} (h : VR ι v u) : v.oneCell' = u.oneCell' := by cases h <;> rfl
theorem VR.cells {ι : Iota} {v u : Value} (h : VR ι v u) : VRL ι v.cells.toList u.cells.toList := by
  cases h with
  | agg h => exact h
  | _ => exact .cons (by first | assumption | constructor <;> assumption) .nil
end Go.Proofs.YtihloomkgpflmaaGreatDoor.Vm

namespace Go.Proofs.YtihloomkgpflmaaGreatDoor.Vm

noncomputable def getv (G : Nat) (T : Tr Value) : Operand → Option Value
  | .tmp t => T.get t
  | .const v => bif okc v then some v else none
  | .global g => bif Nat.blt g G then some (.pointer (some ⟨256 * g, 0, none⟩)) else none
  | .func f => some (.func (.func f) #[] #[])

/-- The operands of a true frame are what the abstract one's are. -/
def TR (ι : Iota) (G : Nat) (T : Tr Value) (ρ : Operand → Value) : Prop := ∀ x v, getv G T x = some v → VR ι v (ρ x)

def GOk (G : Nat) (ι : Iota) : Prop := ∀ g, g < G → ι (256 * g) = some ⟨g, none⟩

theorem TR.of {ι : Iota} {G : Nat} {T : Tr Value} {a : Act} (hG : GOk G ι) (h : ∀ t v, T.get t = some v → ∃ u, a.tmps[t]? = some u ∧ VR ι v u) : TR ι G T a.eval := by
  intro x v e
  cases x with
  | tmp t =>
    obtain ⟨u, hu, hv⟩ := h t v e
    show VR ι v (a.tmps.getD t undef)
    rw [Array.getD_eq_getD_getElem?, hu]; exact hv
  | const c =>
    have e' : (bif okc c then some c else none) = some v := e
    cases hc : okc c with
    | false => rw [hc] at e'; simp at e'
    | true => rw [hc] at e'; simp at e'; subst e'; exact okc_self c hc
  | global g =>
    have e' : (bif Nat.blt g G then some (Value.pointer (some ⟨256 * g, 0, none⟩)) else none) = some v := e
    cases hc : Nat.blt g G with
    | false => rw [hc] at e'; simp at e'
    | true =>
      rw [hc] at e'; simp at e'; subst e'
      have hl := hG g (by simpa [Nat.blt_eq] using hc)
      exact VR.ptr (o := 0) hl
  | func f =>
    have e' : some (Value.func (.func f) #[] #[]) = some v := e
    simp at e'; subst e'
    exact .func rfl .nil .nil

/-! ### numbers -/
def ltI : Int → Int → Bool
  | .ofNat m, .ofNat n => Nat.blt m n
  | .negSucc m, .negSucc n => Nat.blt n m
  | .negSucc _, .ofNat _ => true
  | .ofNat _, .negSucc _ => false
def eqI : Int → Int → Bool
  | .ofNat m, .ofNat n => Nat.beq m n
  | .negSucc m, .negSucc n => Nat.beq m n
  | _, _ => false
theorem ltI_eq (x y : Int) : ltI x y = decide (x < y) := by
  rw [Bool.eq_iff_iff, decide_eq_true_eq]
  cases x with
  | ofNat m =>
    cases y with
    | ofNat n => simp only [ltI, Nat.blt_eq, Int.ofNat_eq_natCast]; omega
    | negSucc n => simp only [ltI, Int.ofNat_eq_natCast]; have := Int.negSucc_lt_zero n; constructor <;> intro h <;> first | cases h | omega
  | negSucc m =>
    cases y with
    | ofNat n => simp only [ltI, Int.ofNat_eq_natCast, true_iff]; have := Int.negSucc_lt_zero m; omega
    | negSucc n => simp only [ltI, Nat.blt_eq, Int.negSucc_eq]; omega
theorem eqI_eq (x y : Int) : eqI x y = (x == y) := by
  rw [Bool.eq_iff_iff, beq_iff_eq]
  cases x with
  | ofNat m =>
    cases y with
    | ofNat n => simp only [eqI, Nat.beq_eq, Int.ofNat_eq_natCast]; omega
    | negSucc n => simp [eqI]
  | negSucc m =>
    cases y with
    | ofNat n => simp [eqI]
    | negSucc n => simp [eqI]

def pow2 (n : Nat) : Int := .ofNat (Nat.pow 2 n)
theorem pow2_eq (n : Nat) : pow2 n = (2 : Int) ^ n := by
  show ((2 ^ n : Nat) : Int) = 2 ^ n
  simp

def bitsI (op : BinOp) (k : IntKind) (x y : Int) : Option Int :=
  match op, k, x, y with
  | .and, .u64, .ofNat m, .ofNat n => some (.ofNat (Nat.land (Nat.mod m 18446744073709551616) (Nat.mod n 18446744073709551616)))
  | .or, .u64, .ofNat m, .ofNat n => some (.ofNat (Nat.lor (Nat.mod m 18446744073709551616) (Nat.mod n 18446744073709551616)))
  | .and, k, x, y => some (k.wrap (BitVec.ofInt k.bits x &&& BitVec.ofInt k.bits y).toNat)
  | .or, k, x, y => some (k.wrap (BitVec.ofInt k.bits x ||| BitVec.ofInt k.bits y).toNat)
  | .xor, k, x, y => some (k.wrap (BitVec.ofInt k.bits x ^^^ BitVec.ofInt k.bits y).toNat)
  | .andNot, k, x, y => some (k.wrap (BitVec.ofInt k.bits x &&& ~~~BitVec.ofInt k.bits y).toNat)
  | _, _, _, _ => none

theorem toNat_ofInt64 (m : Nat) : (BitVec.ofInt IntKind.u64.bits (Int.ofNat m)).toNat = m % 18446744073709551616 := by
  show (BitVec.ofInt 64 (m : Int)).toNat = _
  rw [BitVec.toNat_ofInt]
  have e : (2 : Nat) ^ 64 = 18446744073709551616 := by decide
  rw [e]; omega

theorem wrap_small {n : Nat} (h : n < 18446744073709551616) : IntKind.u64.wrap (n : Int) = (n : Int) := by rw [wrap_u64]; omega

theorem run_bitsI (op : BinOp) (k : IntKind) (x y z : Int) (h : bitsI op k x y = some z) (P : Program) (w : World) : (Op.intBits op k x y).run P w = .ok (.int k z) w := by
  unfold bitsI at h
  split at h
  · rename_i m n
    simp only [Option.some.injEq] at h
    subst h
    show Result.ok (Value.int .u64 (IntKind.u64.wrap ((BitVec.ofInt IntKind.u64.bits (Int.ofNat m) &&& BitVec.ofInt IntKind.u64.bits (Int.ofNat n)).toNat : Int))) w = _
    rw [BitVec.toNat_and, toNat_ofInt64, toNat_ofInt64, wrap_small]
    · rfl
    · exact Nat.lt_of_le_of_lt Nat.and_le_left (Nat.mod_lt _ (by decide))
  · rename_i m n
    simp only [Option.some.injEq] at h
    subst h
    show Result.ok (Value.int .u64 (IntKind.u64.wrap ((BitVec.ofInt IntKind.u64.bits (Int.ofNat m) ||| BitVec.ofInt IntKind.u64.bits (Int.ofNat n)).toNat : Int))) w = _
    rw [BitVec.toNat_or, toNat_ofInt64, toNat_ofInt64, wrap_small]
    · rfl
    · have e : (18446744073709551616 : Nat) = 2 ^ 64 := by decide
      rw [e]
      exact Nat.or_lt_two_pow (Nat.mod_lt _ (by decide)) (Nat.mod_lt _ (by decide))
  · simp only [Option.some.injEq] at h; subst h; rfl
  · simp only [Option.some.injEq] at h; subst h; rfl
  · simp only [Option.some.injEq] at h; subst h; rfl
  · simp only [Option.some.injEq] at h; subst h; rfl
  · cases h

def aInt (op : BinOp) (k : IntKind) (x y : Int) : Option Value :=
  match op with
  | .add => some (.int k (wrapI k (Int.add x y)))
  | .sub => some (.int k (wrapI k (Int.sub x y)))
  | .mul => some (.int k (wrapI k (Int.mul x y)))
  | .quo => bif eqI y 0 then none else some (.int k (wrapI k (x.tdiv y)))
  | .rem => bif eqI y 0 then none else some (.int k (x.tmod y))
  | .eql => some (.bool (eqI x y))
  | .neq => some (.bool (!eqI x y))
  | .lss => some (.bool (ltI x y))
  | .leq => some (.bool (!ltI y x))
  | .gtr => some (.bool (ltI y x))
  | .geq => some (.bool (!ltI x y))
  | .shl | .shr => none
  | op => match bitsI op k x y with
    | some z => some (.int k z)
    | none => none

theorem run_aInt (op : BinOp) (t : TypeId) (k : IntKind) (x y : Int) (v : Value) (h : aInt op k x y = some v) (P : Program) (w : World) : (binOp op t (.int k x) (.int k y)).run P w = .ok v w := by
  cases op with
  | add => simp only [aInt, Option.some.injEq] at h; subst h; rw [wrapI_eq]; simp only [binOp, ne_eq, not_true, if_false, Op.intArith]; rfl
  | sub => simp only [aInt, Option.some.injEq] at h; subst h; rw [wrapI_eq]; simp only [binOp, ne_eq, not_true, if_false, Op.intArith]; rfl
  | mul => simp only [aInt, Option.some.injEq] at h; subst h; rw [wrapI_eq]; simp only [binOp, ne_eq, not_true, if_false, Op.intArith]; rfl
  | quo =>
    simp only [aInt, eqI_eq] at h
    by_cases hy : y = 0
    · subst hy; simp at h
    · have : (y == 0) = false := by simpa using hy
      rw [this] at h; simp at h; subst h; rw [wrapI_eq]; simp [binOp, Op.intDiv, hy]
  | rem =>
    simp only [aInt, eqI_eq] at h
    by_cases hy : y = 0
    · subst hy; simp at h
    · have : (y == 0) = false := by simpa using hy
      rw [this] at h; simp at h; subst h; simp [binOp, Op.intDiv, hy]
  | eql => simp only [aInt, eqI_eq, Option.some.injEq] at h; subst h; simp [binOp, Op.intCmp]
  | neq => simp only [aInt, eqI_eq, Option.some.injEq] at h; subst h; simp [binOp, Op.intCmp, bne]
  | lss => simp only [aInt, ltI_eq, Option.some.injEq] at h; subst h; simp [binOp, Op.intCmp]
  | leq => simp only [aInt, ltI_eq, Option.some.injEq] at h; subst h; simp [binOp, Op.intCmp, ← decide_not]
  | gtr => simp only [aInt, ltI_eq, Option.some.injEq] at h; subst h; simp [binOp, Op.intCmp]
  | geq => simp only [aInt, ltI_eq, Option.some.injEq] at h; subst h; simp [binOp, Op.intCmp, ← decide_not]
  | shl => simp [aInt] at h
  | shr => simp [aInt] at h
  | and =>
    simp only [aInt] at h
    cases hb : bitsI .and k x y with
    | none => rw [hb] at h; simp at h
    | some z => rw [hb] at h; simp at h; subst h; simp only [binOp, ne_eq, not_true, if_false]; exact run_bitsI _ _ _ _ _ hb P w
  | or =>
    simp only [aInt] at h
    cases hb : bitsI .or k x y with
    | none => rw [hb] at h; simp at h
    | some z => rw [hb] at h; simp at h; subst h; simp only [binOp, ne_eq, not_true, if_false]; exact run_bitsI _ _ _ _ _ hb P w
  | xor =>
    simp only [aInt] at h
    cases hb : bitsI .xor k x y with
    | none => rw [hb] at h; simp at h
    | some z => rw [hb] at h; simp at h; subst h; simp only [binOp, ne_eq, not_true, if_false]; exact run_bitsI _ _ _ _ _ hb P w
  | andNot =>
    simp only [aInt] at h
    cases hb : bitsI .andNot k x y with
    | none => rw [hb] at h; simp at h
    | some z => rw [hb] at h; simp at h; subst h; simp only [binOp, ne_eq, not_true, if_false]; exact run_bitsI _ _ _ _ _ hb P w

def aShift (op : BinOp) (k : IntKind) (x : Int) : Int → Option Value
  | .negSucc _ => none
  | .ofNat m =>
    let n := bif Nat.ble m k.bits then m else k.bits
    match op with
    | .shl => some (.int k (wrapI k (Int.mul x (pow2 n))))
    | .shr => some (.int k (x.fdiv (pow2 n)))
    | _ => none

theorem run_aShift (op : BinOp) (t : TypeId) (k k' : IntKind) (x y : Int) (v : Value) (h : aShift op k x y = some v) (P : Program) (w : World) : (binOp op t (.int k x) (.int k' y)).run P w = .ok v w := by
  cases y with
  | negSucc m => simp [aShift] at h
  | ofNat m =>
    have hn : (bif Nat.ble m k.bits then m else k.bits) = min (Int.ofNat m).toNat k.bits := by
      show _ = min m k.bits
      by_cases hm : m ≤ k.bits
      · have : Nat.ble m k.bits = true := by rw [Nat.ble_eq]; exact hm
        rw [this, cond_true]; omega
      · have : Nat.ble m k.bits = false := by rw [← Bool.not_eq_true, Nat.ble_eq]; exact hm
        rw [this, cond_false]; omega
    simp only [aShift, hn] at h
    have h0 : ¬ (Int.ofNat m < 0) := by simp
    cases op <;> simp only [Option.some.injEq, reduceCtorEq] at h
    case shl => subst h; rw [wrapI_eq, pow2_eq]; simp only [binOp, Op.shift, h0, if_false]; rfl
    case shr => subst h; rw [pow2_eq]; simp only [binOp, Op.shift, h0, if_false]; rfl

def aUn (op : UnOp) : Value → Option Value
  | .int k n => match op with
    | .neg => some (.int k (wrapI k (Int.sub 0 n)))
    | .xor => match bitsI .xor k (if k.signed then -1 else k.max) n with
      | some z => some (.int k z)
      | none => none
    | _ => none
  | .bool b => match op with
    | .not => some (.bool !b)
    | _ => none
  | _ => none

theorem run_aUn {ι : Iota} (op : UnOp) {x u v : Value} (hx : VR ι x u) (h : aUn op x = some v) (P : Program) (w : World) : VR ι v v ∧ (Op.unary op u).run P w = .ok v w := by
  cases hx <;> simp only [aUn, reduceCtorEq] at h
  case int k n =>
    cases op <;> simp only [Option.some.injEq, reduceCtorEq] at h
    case neg => subst h; rw [wrapI_eq]; exact ⟨.int _ _, rfl⟩
    case xor =>
      cases hb : bitsI .xor k (if k.signed then -1 else k.max) n with
      | none => rw [hb] at h; simp at h
      | some z => rw [hb] at h; simp at h; subst h; exact ⟨.int _ _, run_bitsI _ _ _ _ _ hb P w⟩
  case bool b =>
    cases op <;> simp only [Option.some.injEq, reduceCtorEq] at h
    case not => subst h; exact ⟨.bool _, rfl⟩

/-! ### texts -/
def aStr (op : BinOp) (x y : ByteArray) : Option Value :=
  match op with
  | .eql => some (.bool (x.data.toList == y.data.toList))
  | .neq => some (.bool !(x.data.toList == y.data.toList))
  | .add => bif Nat.ble (x.size + y.size) 1000000000 then some (.string ⟨(x.data.toList ++ y.data.toList).toArray⟩) else none
  | .lss => some (.bool (Op.bytesLess x.data.toList y.data.toList))
  | .leq => some (.bool (Op.bytesLess x.data.toList y.data.toList || (x.data.toList == y.data.toList)))
  | .gtr => some (.bool !(Op.bytesLess x.data.toList y.data.toList || (x.data.toList == y.data.toList)))
  | .geq => some (.bool !(Op.bytesLess x.data.toList y.data.toList))
  | _ => none

theorem run_aStr (op : BinOp) (x y : ByteArray) (v : Value) (h : aStr op x y = some v) (P : Program) (w : World) : simple v = true ∧ (Op.stringOp op x y).run P w = .ok v w := by
  cases op <;> simp only [aStr, Option.some.injEq, reduceCtorEq] at h
  case add =>
    cases hs : Nat.ble (x.size + y.size) 1000000000 with
    | false => rw [hs] at h; simp at h
    | true =>
      rw [hs] at h; simp at h; subst h
      rw [Nat.ble_eq] at hs
      refine ⟨rfl, ?_⟩
      have hb : ¬ ((x.size + y.size : Nat) : Int) > IntKind.i64.max := by
        have : IntKind.i64.max = 9223372036854775807 := by decide
        rw [this]; omega
      have hxy : x ++ y = ⟨(x.data.toList ++ y.data.toList).toArray⟩ := by
        apply ByteArray.ext
        simp
      simp only [Op.stringOp, hb, if_false]
      rw [hxy]; simp
  all_goals (subst h; refine ⟨rfl, ?_⟩; simp only [Op.stringOp, ByteArray.toList_eq]; rfl)
end Go.Proofs.YtihloomkgpflmaaGreatDoor.Vm

namespace Go.Proofs.YtihloomkgpflmaaGreatDoor.Vm

/-- 'v' is what the operation comes to, whatever the heap. -/
def Comes1 (P : Program) (ι : Iota) (s : Sem Value) (v : Value) : Prop := ∃ u, VR ι v u ∧ ∀ w, s.run P w = .ok u w

def aSize (P : Program) (t : TypeId) : Option Nat := match P.info? t with
  | some i => some i.size
  | none => none
theorem run_aSize {P : Program} {t : TypeId} {n : Nat} (h : aSize P t = some n) (w : World) : (sizeOf t).run P w = .ok n w := by
  unfold aSize at h
  split at h
  · rename_i i hi; simp at h; subst h; simp [sizeOf, typeInfo, hi]
  · cases h
def aAgg (P : Program) (t : TypeId) : Option Bool := match P.underlying t with
  | some (.struct _) | some (.array _ _) => some true
  | some _ => some false
  | none => none
theorem run_aAgg {P : Program} {t : TypeId} {b : Bool} (h : aAgg P t = some b) (w : World) : (isAgg t).run P w = .ok b w := by
  unfold aAgg at h
  unfold isAgg
  split at h
  · rename_i hu; simp at h; subst h; rw [Sem.run_bind, run_underlying hu]; rfl
  · rename_i hu; simp at h; subst h; rw [Sem.run_bind, run_underlying hu]; rfl
  · rename_i d h1 h2 hu; simp at h; subst h; rw [Sem.run_bind, run_underlying hu]
    cases d <;> first | rfl | exact (h1 _ rfl).elim | exact (h2 _ _ rfl).elim
  · cases h
def aZero (P : Program) (t : TypeId) : Option Value := match P.info? t with
  | some i => (match i.zero with
    | some z => bif okc z then some z else none
    | none => none)
  | none => none
theorem run_aZero {P : Program} {t : TypeId} {v : Value} (h : aZero P t = some v) (w : World) : okc v = true ∧ (zeroValue t).run P w = .ok v w := by
  unfold aZero at h
  split at h
  · rename_i i hi
    split at h
    · rename_i z hz
      cases hc : okc z with
      | false => rw [hc] at h; simp at h
      | true => rw [hc] at h; simp at h; subst h; exact ⟨hc, by simp [zeroValue, typeInfo, hi, hz]⟩
    · cases h
  · cases h

theorem add_none (b o n : Nat) : (⟨b, o, none⟩ : Addr).add n = ⟨b, o + n, none⟩ := by
  unfold Addr.add
  split
  · subst_vars; rfl
  · rfl
theorem Loc.off_add (l : Loc) (o n : Nat) : l.off o + n = l.off (o + n) := by
  unfold Loc.off; split <;> omega

/-! ### parts of values -/
def aExtract (v : Value) (i : Nat) : Option Value := match v with
  | .tuple vs => vs.toList[i]?
  | _ => none
theorem run_aExtract {ι : Iota} {x u v : Value} {i : Nat} {P : Program} (hx : VR ι x u) (h : aExtract x i = some v) : Comes1 P ι (Instr.extract u i) v := by
  cases hx <;> simp only [aExtract, reduceCtorEq] at h
  case tuple xs ys hl =>
    obtain ⟨z, hz, hv⟩ := hl.get h
    refine ⟨z, hv, fun w => ?_⟩
    rw [Array.getElem?_toList] at hz
    simp [Instr.extract, hz]

def aPart (P : Program) (t : TypeId) (cs : List Value) (off : Nat) : Option Value := match aAgg P t with
  | some true => (match aSize P t with
    | some n => some (.agg ((cs.drop off).take n).toArray)
    | none => none)
  | some false => cs[off]?
  | none => none
theorem run_aPart {ι : Iota} {P : Program} {t : TypeId} {xs : List Value} {ys : Array Value} {off : Nat} {v : Value} (hl : VRL ι xs ys.toList) (h : aPart P t xs off = some v) : Comes1 P ι (part t ys off) v := by
  unfold aPart at h
  split at h
  · rename_i ha
    split at h
    · rename_i n hn
      simp at h; subst h
      refine ⟨.agg (ys.extract off (off + n)), ?_, fun w => ?_⟩
      · refine .agg ?_
        rw [Array.toList_extract, List.extract_eq_take_drop]
        rw [show off + n - off = n by omega]
        exact (hl.drop off).take n
      · simp [part, run_aAgg ha, run_aSize hn]
    · cases h
  · rename_i ha
    obtain ⟨z, hz, hv⟩ := hl.get h
    refine ⟨z, hv, fun w => ?_⟩
    rw [Array.getElem?_toList] at hz
    simp [part, run_aAgg ha, hz]
  · cases h

def aField (P : Program) (t : TypeId) (v : Value) (f : Nat) : Option Value := match P.underlying t with
  | some (.struct fields) => (match fields.toList[f]?, v with
    | some fl, .agg cs => aPart P fl.type cs.toList fl.offset
    | _, _ => none)
  | _ => none
theorem run_aField {ι : Iota} {P : Program} {t : TypeId} {x u v : Value} {f : Nat} (hx : VR ι x u) (h : aField P t x f = some v) : Comes1 P ι (Instr.field t u f) v := by
  unfold aField at h
  split at h
  · rename_i fields hu
    split at h
    · rename_i fl cs hf
      rw [Array.getElem?_toList] at hf
      cases hx with
      | agg hl =>
        obtain ⟨z, hz, hr⟩ := run_aPart hl h
        exact ⟨z, hz, fun w => by simp [Instr.field, run_underlying hu, hf, asAgg, hr w]⟩
    · cases h
  · cases h

def aFieldAddr (P : Program) (s : TypeId) (v : Value) (f : Nat) : Option Value := match P.underlying s with
  | some (.struct fields) => (match fields.toList[f]? with
    | some fl => (match aSize P fl.type, v with
      | some (_ + 1), .pointer (some ⟨b, o, none⟩) => some (.pointer (some ⟨b, o + fl.offset, none⟩))
      | some (_ + 1), v => (match fptrOf v with
        | some cs => some (mkPtr (cs.drop fl.offset))
        | none => none)
      | _, _ => none)
    | none => none)
  | _ => none
theorem run_aFieldAddr {ι : Iota} {P : Program} {s : TypeId} {x u v : Value} {f : Nat} (hx : VR ι x u) (h : aFieldAddr P s x f = some v) : Comes1 P ι (Instr.fieldAt s u f) v := by
  unfold aFieldAddr at h
  split at h
  · rename_i fields hu
    split at h
    · rename_i fl hf
      rw [Array.getElem?_toList] at hf
      split at h
      · rename_i m b o hs
        simp at h; subst h
        cases hx with
        | ptr hl =>
          rename_i l
          refine ⟨.pointer (some ⟨l.blk, l.off (o + fl.offset), none⟩), .ptr hl, fun w => ?_⟩
          simp [Instr.fieldAt, run_underlying hu, hf, Instr.sureAddr, fieldPlace, run_aSize hs, add_none, Loc.off_add]
      · rename_i m hs _
        split at h
        · rename_i cs hc
          simp at h; subst h
          obtain ⟨b, o, zs, rfl, hz, hl⟩ := fptrOf_spec hc hx
          refine ⟨.pointer (some ⟨b, o + fl.offset, none⟩), .fptr (fun i z hi => ?_) (hl.drop fl.offset), fun w => ?_⟩
          · rw [List.getElem?_drop] at hi
            have := hz _ _ hi
            rwa [Nat.add_assoc]
          · simp [Instr.fieldAt, run_underlying hu, hf, Instr.sureAddr, fieldPlace, run_aSize hs, add_none]
        · cases h
      · cases h
    · cases h
  · cases h

/-- Is a number an index below n? -/
def idx (x : Int) (n : Nat) : Option Nat := match x with
  | .ofNat m => bif Nat.blt m n then some m else none
  | .negSucc _ => none
theorem idx_spec {x : Int} {n m : Nat} (h : idx x n = some m) : x = (m : Int) ∧ m < n := by
  cases x with
  | ofNat k =>
    simp only [idx] at h
    cases hb : Nat.blt k n with
    | false => rw [hb] at h; simp at h
    | true => rw [hb] at h; simp at h; subst h; exact ⟨rfl, by simpa [Nat.blt_eq] using hb⟩
  | negSucc k => simp [idx] at h

def aIndexAddr (P : Program) (t : TypeId) (x i : Value) : Option Value := match i with
  | .int _ n => (match P.underlying t, x with
    | some (.array len elem), .pointer (some ⟨b, o, none⟩) => (match idx n len, aSize P elem with
      | some m, some sz => some (.pointer (some ⟨b, o + m * sz, none⟩))
      | _, _ => none)
    | some (.slice elem), .slice (some ⟨b, o, none⟩) len _ => (match idx n len, aSize P elem with
      | some m, some sz => some (.pointer (some ⟨b, o + m * sz, none⟩))
      | _, _ => none)
    | some (.slice elem), x => (match datOf x with
      | some (len, cs) => (match idx n len, aSize P elem with
        | some m, some sz => some (mkPtr (cs.drop (m * sz)))
        | _, _ => none)
      | none => none)
    | _, _ => none)
  | _ => none
theorem run_aIndexAddr {ι : Iota} {P : Program} {t : TypeId} {x u i j v : Value} (hx : VR ι x u) (hi : VR ι i j) (h : aIndexAddr P t x i = some v) : Comes1 P ι (Instr.indexAt t u j) v := by
  unfold aIndexAddr at h
  split at h
  · rename_i k n
    cases hi
    split at h
    · rename_i len elem b o hu
      split at h
      · rename_i m sz hm hs
        simp at h; subst h
        obtain ⟨rfl, hlt⟩ := idx_spec hm
        cases hx with
        | ptr hl =>
          rename_i l
          refine ⟨.pointer (some ⟨l.blk, l.off (o + m * sz), none⟩), .ptr hl, fun w => ?_⟩
          have h1 : (0 : Int) ≤ (m : Int) ∧ (m : Int) < (len : Int) := by omega
          simp only [Instr.indexAt, asIntOf, Sem.run_bind, Sem.run_pure, Result.andThen_ok, run_underlying hu, Instr.sureAddr, h1, and_self, if_true, run_aSize hs, add_none, Loc.off_add]
          simp
      · cases h
    · rename_i elem b o len c hu
      split at h
      · rename_i m sz hm hs
        simp at h; subst h
        obtain ⟨rfl, hlt⟩ := idx_spec hm
        have h1 : (0 : Int) ≤ (m : Int) ∧ (m : Int) < (len : Int) := by omega
        cases hx with
        | sl n c hl hg hb =>
          rename_i l
          refine ⟨.pointer (some ⟨l.blk, l.off (o + m * sz), none⟩), .ptr hl, fun w => ?_⟩
          have ho : l.off (o + m * sz) = o + m * sz := by unfold Loc.off; rw [hg]
          simp only [Instr.indexAt, asIntOf, Sem.run_bind, Sem.run_pure, Result.andThen_ok, run_underlying hu, h1, and_self, if_true, run_aSize hs, add_none, ho]
          simp
        | slg n c C hl hg hb h0 hn ho' hc hC =>
          rename_i l base cap e
          refine ⟨.pointer (some ⟨l.blk, l.off (o + m * sz), none⟩), .ptr hl, fun w => ?_⟩
          have ho : l.off (o + m * sz) = base + o + m * sz := by unfold Loc.off; rw [hg]; simp; omega
          simp only [Instr.indexAt, asIntOf, Sem.run_bind, Sem.run_pure, Result.andThen_ok, run_underlying hu, h1, and_self, if_true, run_aSize hs, add_none, ho]
          simp
        | sle a c hl hg hb => exact absurd hlt (by omega)
      · cases h
    · rename_i elem hu _
      split at h
      · rename_i len cs hd
        split at h
        · rename_i m sz hm hs
          simp at h; subst h
          obtain ⟨rfl, hlt⟩ := idx_spec hm
          rcases datOf_spec hd hx with ⟨b, o, zs, c, rfl, hc, hz, hl⟩ | ⟨rfl, _⟩
          · refine ⟨.pointer (some ⟨b, o + m * sz, none⟩), .fptr (fun i z hi => ?_) (hl.drop (m * sz)), fun w => ?_⟩
            · rw [List.getElem?_drop] at hi
              have := hz _ _ hi
              rwa [Nat.add_assoc]
            · have h1 : (0 : Int) ≤ (m : Int) ∧ (m : Int) < (len : Int) := by omega
              simp only [Instr.indexAt, asIntOf, Sem.run_bind, Sem.run_pure, Result.andThen_ok, run_underlying hu, h1, and_self, if_true, run_aSize hs, add_none]
              simp
          · omega
        · cases h
      · cases h
    · cases h
  · cases h

def aIndex (P : Program) (t : TypeId) (x i : Value) : Option Value := match i with
  | .int _ n => (match P.underlying t, x with
    | some (.array len elem), .agg cs => (match idx n len, aSize P elem with
      | some m, some sz => aPart P elem cs.toList (m * sz)
      | _, _ => none)
    | some .string, .string s => (match idx n s.size with
      | some m => (match s.data.toList[m]? with
        | some b => some (.int .u8 (.ofNat b.toNat))
        | none => none)
      | none => none)
    | _, _ => none)
  | _ => none
theorem run_aIndex {ι : Iota} {P : Program} {t : TypeId} {x u i j v : Value} (hx : VR ι x u) (hi : VR ι i j) (h : aIndex P t x i = some v) : Comes1 P ι (Instr.index t u j) v := by
  unfold aIndex at h
  split at h
  · rename_i k n
    cases hi
    split at h
    · rename_i len elem cs hu
      split at h
      · rename_i m sz hm hs
        obtain ⟨rfl, hlt⟩ := idx_spec hm
        cases hx with
        | agg hl =>
          obtain ⟨z, hz, hr⟩ := run_aPart hl h
          have h1 : (0 : Int) ≤ (m : Int) ∧ (m : Int) < (len : Int) := by omega
          refine ⟨z, hz, fun w => ?_⟩
          simp only [Instr.index, asIntOf, Sem.run_bind, Sem.run_pure, Result.andThen_ok, run_underlying hu, h1, and_self, if_true, run_aSize hs, Int.toNat_natCast, hr w]
      · cases h
    · rename_i s hu
      split at h
      · rename_i m hm
        obtain ⟨rfl, hlt⟩ := idx_spec hm
        split at h
        · rename_i b hb
          simp at h; subst h
          cases hx
          refine ⟨_, .int _ _, fun w => ?_⟩
          have h1 : (0 : Int) ≤ (m : Int) := by omega
          have h2 : s[m]? = some b := by
            rw [ByteArray.getElem?_lt' s m hlt]
            rw [Array.getElem?_toList] at hb
            have : s.data[m]? = some s[m] := by
              rw [Array.getElem?_eq_getElem (by exact hlt)]; rfl
            rw [this] at hb; exact hb
          simp only [Instr.index, asIntOf, Sem.run_bind, Sem.run_pure, Result.andThen_ok, run_underlying hu, h1, if_true, Int.toNat_natCast, h2]
        · cases h
      · cases h
    · cases h
  · cases h
end Go.Proofs.YtihloomkgpflmaaGreatDoor.Vm
