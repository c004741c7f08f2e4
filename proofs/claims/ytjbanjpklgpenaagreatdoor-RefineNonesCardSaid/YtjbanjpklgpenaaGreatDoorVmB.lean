/-
  THE ABSTRACT INTERPRETER, part B: the relation between abstract and true values, blocks, worlds.
-/
import Derived.Test.YtjbanjpklgpenaaGreatDoorVmA
namespace Go.Proofs.YtjbanjpklgpenaaGreatDoor.Vm

/-- Where an abstract block lies: a block of the heap; of a row that may have grown: its first cell, and how many elements there is room for.
An abstract block's number is 256 n + s: s is 0, or, of a row that may have grown, how many cells an element has. -/
structure Loc where
  blk : Nat
  gr : Option (Nat × Nat)

abbrev Iota := Nat → Option Loc

def Loc.off (l : Loc) (o : Nat) : Nat := match l.gr with | none => o | some g => g.1 + o

def plainFn : Fn → Bool
  | .yield _ => false
  | _ => true

mutual
inductive VR (ι : Iota) : Value → Value → Prop
  | bool (b : Bool) : VR ι (.bool b) (.bool b)
  | int (k : IntKind) (n : Int) : VR ι (.int k n) (.int k n)
  | float (k : FloatKind) (n : Nat) : VR ι (.float k n) (.float k n)
  | complex (k : FloatKind) (n m : Nat) : VR ι (.complex k n m) (.complex k n m)
  | str (s : ByteArray) : VR ι (.string s) (.string s)
  | ptr0 : VR ι (.pointer none) (.pointer none)
  | ptr {b o : Nat} {l : Loc} (h : ι b = some l) : VR ι (.pointer (some ⟨b, o, none⟩)) (.pointer (some ⟨l.blk, l.off o, none⟩))
  | sl0 (n c : Nat) : VR ι (.slice none n c) (.slice none n c)
  | sl {b o : Nat} {l : Loc} (n c : Nat) (h : ι b = some l) (hg : l.gr = none) (hb : b % 256 = 0) : VR ι (.slice (some ⟨b, o, none⟩) n c) (.slice (some ⟨l.blk, o, none⟩) n c)
  | slg {b o : Nat} {l : Loc} {base cap e : Nat} (n c C : Nat) (h : ι b = some l) (hg : l.gr = some (base, cap)) (hb : b % 256 ≠ 0) (h0 : 0 < c) (hn : n ≤ c) (ho : o = e * (b % 256)) (hc : c ≤ C) (hC : C + e ≤ cap) :
      VR ι (.slice (some ⟨b, o, none⟩) n c) (.slice (some ⟨l.blk, base + o, none⟩) n C)
  | sle {b o : Nat} {l : Loc} {g : Nat × Nat} (a : Addr) (c : Nat) (h : ι b = some l) (hg : l.gr = some g) (hb : b % 256 ≠ 0) : VR ι (.slice (some ⟨b, o, none⟩) 0 0) (.slice (some a) 0 c)
  | map0 : VR ι (.map none) (.map none)
  | map {b : Nat} {l : Loc} (h : ι b = some l) (hg : l.gr = none) : VR ι (.map (some b)) (.map (some l.blk))
  | chan0 : VR ι (.chan none) (.chan none)
  | func {fn : Fn} {xs ys cs ds : Array Value} (hf : plainFn fn = true) (h1 : VRL ι xs.toList ys.toList) (h2 : VRL ι cs.toList ds.toList) : VR ι (.func fn xs cs) (.func fn ys ds)
  | yield {b : Nat} {l : Loc} (h : ι b = some l) (hg : l.gr = none) : VR ι (.func (.yield b) #[] #[]) (.func (.yield l.blk) #[] #[])
  | nilFunc : VR ι .nilFunc .nilFunc
  | nilIface : VR ι .nilIface .nilIface
  | iface {v u : Value} (t : TypeId) (h : VR ι v u) : VR ι (.iface t v) (.iface t u)
  | agg {xs ys : Array Value} (h : VRL ι xs.toList ys.toList) : VR ι (.agg xs) (.agg ys)
  | tuple {xs ys : Array Value} (h : VRL ι xs.toList ys.toList) : VR ι (.tuple xs) (.tuple ys)
inductive VRL (ι : Iota) : List Value → List Value → Prop
  | nil : VRL ι [] []
  | cons {v u : Value} {xs ys : List Value} (h : VR ι v u) (t : VRL ι xs ys) : VRL ι (v :: xs) (u :: ys)
end

def Ext (ι κ : Iota) : Prop := ∀ b l, ι b = some l → κ b = some l
theorem Ext.refl (ι : Iota) : Ext ι ι := fun _ _ h => h
theorem Ext.trans {ι κ μ : Iota} (h : Ext ι κ) (g : Ext κ μ) : Ext ι μ := fun b l e => g b l (h b l e)

mutual
theorem VR.mono {ι κ : Iota} (e : Ext ι κ) : ∀ {v u : Value}, VR ι v u → VR κ v u
  | _, _, .bool b => .bool b
  | _, _, .int k n => .int k n
  | _, _, .float k n => .float k n
  | _, _, .complex k n m => .complex k n m
  | _, _, .str s => .str s
  | _, _, .ptr0 => .ptr0
  | _, _, .ptr h => .ptr (e _ _ h)
  | _, _, .sl0 n c => .sl0 n c
  | _, _, .sl n c h hg hb => .sl n c (e _ _ h) hg hb
  | _, _, .slg n c C h hg hb h0 hn ho hc hC => .slg n c C (e _ _ h) hg hb h0 hn ho hc hC
  | _, _, .sle a c h hg hb => .sle a c (e _ _ h) hg hb
  | _, _, .map0 => .map0
  | _, _, .map h hg => .map (e _ _ h) hg
  | _, _, .chan0 => .chan0
  | _, _, .func hf h1 h2 => .func hf (VRL.mono e h1) (VRL.mono e h2)
  | _, _, .yield h hg => .yield (e _ _ h) hg
  | _, _, .nilFunc => .nilFunc
  | _, _, .nilIface => .nilIface
  | _, _, .iface t h => .iface t (VR.mono e h)
  | _, _, .agg h => .agg (VRL.mono e h)
  | _, _, .tuple h => .tuple (VRL.mono e h)
theorem VRL.mono {ι κ : Iota} (e : Ext ι κ) : ∀ {xs ys : List Value}, VRL ι xs ys → VRL κ xs ys
  | _, _, .nil => .nil
  | _, _, .cons h t => .cons (VR.mono e h) (VRL.mono e t)
end

/-! ### lists -/
section
variable {ι : Iota}
theorem VRL.length : ∀ {xs ys : List Value}, VRL ι xs ys → xs.length = ys.length
  | _, _, .nil => rfl
  | _, _, .cons _ t => by simp [VRL.length t]
theorem VRL.get : ∀ {xs ys : List Value}, VRL ι xs ys → ∀ {i : Nat} {v : Value}, xs[i]? = some v → ∃ u, ys[i]? = some u ∧ VR ι v u
  | _, _, .nil, i, v, h => by simp at h
  | _, _, .cons h t, 0, v, e => by
    simp at e; subst e; exact ⟨_, rfl, h⟩
  | _, _, .cons h t, i + 1, v, e => by
    simp at e
    obtain ⟨u, hu, hv⟩ := VRL.get t e
    exact ⟨u, by simpa using hu, hv⟩
theorem VRL.append : ∀ {xs ys : List Value}, VRL ι xs ys → ∀ {as bs : List Value}, VRL ι as bs → VRL ι (xs ++ as) (ys ++ bs)
  | _, _, .nil, _, _, h => h
  | _, _, .cons h t, _, _, g => .cons h (VRL.append t g)
theorem VRL.take : ∀ {xs ys : List Value}, VRL ι xs ys → ∀ (n : Nat), VRL ι (xs.take n) (ys.take n)
  | _, _, .nil, n => by simp; exact .nil
  | _, _, .cons h t, 0 => .nil
  | _, _, .cons h t, n + 1 => .cons h (VRL.take t n)
theorem VRL.drop : ∀ {xs ys : List Value}, VRL ι xs ys → ∀ (n : Nat), VRL ι (xs.drop n) (ys.drop n)
  | _, _, .nil, n => by simp; exact .nil
  | _, _, .cons h t, 0 => .cons h t
  | _, _, .cons h t, n + 1 => VRL.drop t n
theorem VRL.set : ∀ {xs ys : List Value}, VRL ι xs ys → ∀ (i : Nat) {v u : Value}, VR ι v u → VRL ι (xs.set i v) (ys.set i u)
  | _, _, .nil, _, _, _, _ => .nil
  | _, _, .cons _ t, 0, _, _, g => .cons g t
  | _, _, .cons h t, i + 1, _, _, g => .cons h (VRL.set t i g)
theorem VRL.replicate {v u : Value} (h : VR ι v u) : ∀ (n : Nat), VRL ι (List.replicate n v) (List.replicate n u)
  | 0 => .nil
  | n + 1 => .cons h (VRL.replicate h n)
theorem VRL.self {p : Value → Bool} (hp : ∀ v, p v = true → VR ι v v) : ∀ (xs : List Value), xs.all p = true → VRL ι xs xs
  | [], _ => .nil
  | v :: xs, h => by
    simp only [List.all_cons, Bool.and_eq_true] at h
    exact .cons (hp v h.1) (VRL.self hp xs h.2)
end

/-- A value without an address. -/
def simple : Value → Bool
  | .bool _ | .int _ _ | .float _ _ | .complex _ _ _ | .string _ | .pointer none | .slice none _ _ | .map none | .chan none | .nilFunc | .nilIface => true
  | _ => false
def okc : Value → Bool
  | .agg cs => cs.toList.all simple
  | v => simple v
theorem simple_self {ι : Iota} (v : Value) (h : simple v = true) : VR ι v v := by
  cases v with
  | bool b => exact .bool b
  | int k n => exact .int k n
  | float k n => exact .float k n
  | complex k n m => exact .complex k n m
  | string s => exact .str s
  | pointer a => cases a with | none => exact .ptr0 | some a => simp [simple] at h
  | slice a n c => cases a with | none => exact .sl0 n c | some a => simp [simple] at h
  | map a => cases a with | none => exact .map0 | some a => simp [simple] at h
  | chan a => cases a with | none => exact .chan0 | some a => simp [simple] at h
  | nilFunc => exact .nilFunc
  | nilIface => exact .nilIface
  | _ => simp [simple] at h
theorem okc_self {ι : Iota} (v : Value) (h : okc v = true) : VR ι v v := by
  cases v with
  | agg cs => exact .agg (VRL.self simple_self _ h)
  | _ => exact simple_self _ h

theorem VR.oneCell {ι : Iota} {v u : Value} (h : VR ι v u) : v.oneCell' = u.oneCell' := by cases h <;> rfl
theorem VR.cells {ι : Iota} {v u : Value} (h : VR ι v u) : VRL ι v.cells.toList u.cells.toList := by
  cases h with
  | agg h => exact h
  | _ => exact .cons (by first | assumption | constructor <;> assumption) .nil
end Go.Proofs.YtjbanjpklgpenaaGreatDoor.Vm
