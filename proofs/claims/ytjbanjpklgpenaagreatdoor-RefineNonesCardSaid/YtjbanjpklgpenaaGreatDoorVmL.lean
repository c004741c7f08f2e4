/-
  THE ABSTRACT INTERPRETER, part L: quiet operations; what else an operation may come to; frames.
-/
import Derived.Test.YtjbanjpklgpenaaGreatDoorVmK
import Derived.Defers
import Derived.AtR
namespace Go.Proofs.YtjbanjpklgpenaaGreatDoor.Vm

/-! ### operations that change nothing that was there -/
noncomputable def aquiet (P : Program) (G : Nat) (T : Tr Value) (M : Tr Blk) (nx : Nat) (op : Op) : Option (Value × Tr Blk × Nat) := match op with
  | .load t a => (match getv G T a with
    | some v => (match aLoad P M t v with
      | some r => some (r, M, nx)
      | none => none)
    | none => none)
  | .lookup t m k ok => (match getv G T m, getv G T k with
    | some a, some b => (match aLookup P M t a b ok with
      | some r => some (r, M, nx)
      | none => none)
    | _, _ => none)
  | .alloc elem => aAlloc P M nx elem
  | .box _ x => (match getv G T x with
    | some v => some (aBox M nx v)
    | none => some (aBoxU M nx))
  | .buildSlice t len parts => (match getps G T parts.toList with
    | some ps => aBuildSlice P M nx t len ps
    | none => none)
  | .makeSlice t l c => (match getv G T l, getv G T c with
    | some a, some b => aMakeSlice P M nx t a b
    | _, _ => none)
  | .makeMap _ none => some (aMakeMap M nx)
  | op => (match apure P G T op with
    | some v => some (v, M, nx)
    | none => none)

theorem run_aquiet {P : Program} {w0 : World} {ι : Iota} {G : Nat} {T : Tr Value} {M M' : Tr Blk} {nx nx' : Nat} {w : World} {ρ : Operand → Value} (h : R w0 ι M w) (hT : TR ι G T ρ) (o : Oper) {v : Value} (hf : Fresh ι nx nx')
    (he : aquiet P G T M nx o.op = some (v, M', nx')) : ∃ κ u w', (execOp ρ o).run P w = .ok (.value u) w' ∧ Post w0 ι M nx w κ M' nx' w' ∧ VR κ v u := by
  obtain ⟨dst, op, type, pos, after, guard⟩ := o
  have lift : ∀ {s : Sem Value}, (∃ κ y w', s.run P w = .ok y w' ∧ Post w0 ι M nx w κ M' nx' w' ∧ VR κ v y) → ∃ κ u w', (s >>= fun x => pure (Next.value x) : Sem Next).run P w = .ok (.value u) w' ∧ Post w0 ι M nx w κ M' nx' w' ∧ VR κ v u := by
    rintro s ⟨κ, y, w', h1, h2, h3⟩
    exact ⟨κ, y, w', by rw [Sem.run_bind, h1]; rfl, h2, h3⟩
  unfold aquiet at he
  simp only at he
  split at he
  case h_1 =>
    split at he
    · rename_i t a x hx
      split at he
      · rename_i r hr
        simp at he; obtain ⟨rfl, rfl, rfl⟩ := he
        obtain ⟨z, h1, h2⟩ := run_aLoad h (hT _ _ hx) hr
        exact lift ⟨ι, z, w, h2, Post.refl h, h1⟩
      · cases he
    · cases he
  case h_2 =>
    split at he
    · rename_i t m k ok a b ha hb
      split at he
      · rename_i r hr
        simp at he; obtain ⟨rfl, rfl, rfl⟩ := he
        obtain ⟨z, h1, h2⟩ := run_aLookup h (hT _ _ ha) (hT _ _ hb) hr
        exact lift ⟨ι, z, w, h2, Post.refl h, h1⟩
      · cases he
    · cases he
  case h_3 => exact lift (run_aAlloc h hf he)
  case h_4 =>
    split at he
    · rename_i elem x a ha
      simp [aBox] at he; obtain ⟨rfl, rfl, rfl⟩ := he
      exact lift (run_aBox h hf (hT _ _ ha))
    · simp [aBoxU] at he; obtain ⟨rfl, rfl, rfl⟩ := he
      exact lift (run_aBoxU h hf)
  case h_5 =>
    split at he
    · rename_i t len parts ps hp
      refine lift (run_aBuildSlice h hf ?_ he)
      rw [Array.toList_map]
      exact getps_rel hT _ hp
    · cases he
  case h_6 =>
    split at he
    · rename_i t l c a b ha hb
      exact lift (run_aMakeSlice h hf (hT _ _ ha) (hT _ _ hb) he)
    · cases he
  case h_7 =>
    simp [aMakeMap] at he; obtain ⟨rfl, rfl, rfl⟩ := he
    exact lift (run_aMakeMap h hf)
  case h_8 =>
    split at he
    · rename_i x hx
      simp at he; obtain ⟨rfl, rfl, rfl⟩ := he
      obtain ⟨u, h1, h2⟩ := run_apure (P := P) h.kinds hT ⟨dst, op, type, pos, after, guard⟩ hx
      exact ⟨ι, u, w, h2 w, Post.refl h, h1⟩
    · cases he

/-! ### modes, deferred calls -/
inductive DR (ι : Iota) : Deferred → Deferred → Prop
  | fn {f : Fn} {cap cap' args args' : Array Value} (hf : plainFn f = true) (hc : VRL ι cap.toList cap'.toList) (ha : VRL ι args.toList args'.toList) : DR ι { target := .fn f cap, args } { target := .fn f cap', args := args' }
  | collected {r : Nat} {l : Loc} (h : ι r = some l) (hg : l.gr = none) : DR ι { target := .collected r, args := #[] } { target := .collected l.blk, args := #[] }
inductive DRL (ι : Iota) : List Deferred → List Deferred → Prop
  | nil : DRL ι [] []
  | cons {d d' : Deferred} {xs ys : List Deferred} (h : DR ι d d') (t : DRL ι xs ys) : DRL ι (d :: xs) (d' :: ys)
inductive PRL (ι : Iota) : List PanicEntry → List PanicEntry → Prop
  | nil : PRL ι [] []
  | cons {v u : Value} {r : Bool} {xs ys : List PanicEntry} (h : VR ι v u) (t : PRL ι xs ys) : PRL ι ({ v := v, recovered := r } :: xs) ({ v := u, recovered := r } :: ys)
inductive MR (ι : Iota) : FrameMode → FrameMode → Prop
  | run : MR ι .run .run
  | returning : MR ι .returning .returning
  | panicking {xs ys : List PanicEntry} (h : PRL ι xs ys) : MR ι (.panicking xs) (.panicking ys)
theorem DR.mono {ι κ : Iota} (e : Ext ι κ) {d d' : Deferred} (h : DR ι d d') : DR κ d d' := by
  cases h with
  | fn hf hc ha => exact .fn hf (hc.mono e) (ha.mono e)
  | collected h hg => exact .collected (e _ _ h) hg
theorem DRL.mono {ι κ : Iota} (e : Ext ι κ) : ∀ {xs ys : List Deferred}, DRL ι xs ys → DRL κ xs ys
  | _, _, .nil => .nil
  | _, _, .cons h t => .cons (h.mono e) (DRL.mono e t)
theorem PRL.mono {ι κ : Iota} (e : Ext ι κ) : ∀ {xs ys : List PanicEntry}, PRL ι xs ys → PRL κ xs ys
  | _, _, .nil => .nil
  | _, _, .cons h t => .cons (h.mono e) (PRL.mono e t)
theorem PRL.append {ι : Iota} : ∀ {xs ys as bs : List PanicEntry}, PRL ι xs ys → PRL ι as bs → PRL ι (xs ++ as) (ys ++ bs)
  | _, _, _, _, .nil, h => h
  | _, _, _, _, .cons h t, g => .cons h (PRL.append t g)
theorem MR.mono {ι κ : Iota} (e : Ext ι κ) {m m' : FrameMode} (h : MR ι m m') : MR κ m m' := by
  cases h with
  | run => exact .run
  | returning => exact .returning
  | panicking h => exact .panicking (h.mono e)
theorem MR.settle {ι : Iota} {m m' : FrameMode} (h : MR ι m m') : MR ι (Go.settle m) (Go.settle m') := by
  cases h with
  | run => exact .run
  | returning => exact .returning
  | panicking h =>
    cases h with
    | nil => exact .panicking .nil
    | cons hv t =>
      rename_i v u r xs ys
      cases r with
      | false => exact .panicking (.cons hv t)
      | true =>
        have key : ∀ {xs ys : List PanicEntry}, PRL ι xs ys → xs.dropWhile (!·.goexit) = [] ∧ ys.dropWhile (!·.goexit) = [] := by
          intro xs
          induction xs with
          | nil => intro ys h; cases h; exact ⟨rfl, rfl⟩
          | cons x xs ih => intro ys h; cases h with | cons hv t => exact ⟨by simpa using (ih t).1, by simpa using (ih t).2⟩
        have := key t
        simp only [Go.settle, this.1, this.2]
        exact .returning
theorem MR.raised {ι : Iota} {m m' : FrameMode} {xs ys : List PanicEntry} (h : MR ι m m') (hp : PRL ι xs ys) : MR ι (raised m xs) (raised m' ys) := by
  cases h with
  | run => exact .panicking hp
  | returning => exact .panicking hp
  | panicking h => exact .panicking (hp.append h)

/-! ### frames -/
structure Fr where
  fn : FuncId
  nt : Nat
  T : Tr Value
  todo : List Item
  ds : List Deferred
  mode : FrameMode
  dk : Bool
  rnd : Option Nat
  up : FrameMode
  M : Tr Blk
  nx : Nat

inductive Res where
  | ret (v : Value) (up : FrameMode) (M : Tr Blk) (nx : Nat)
  | pan (chain : List PanicEntry) (up : FrameMode) (M : Tr Blk) (nx : Nat)

def Res.M : Res → Tr Blk
  | .ret _ _ M _ | .pan _ _ M _ => M
def Res.nx : Res → Nat
  | .ret _ _ _ n | .pan _ _ _ n => n
def Res.up : Res → FrameMode
  | .ret _ u _ _ | .pan _ u _ _ => u

def RndR (ι : Iota) : Option Nat → Option Nat → Prop
  | none, none => True
  | some l, some l' => ∃ d, ι l = some d ∧ d.gr = none ∧ d.blk = l'
  | _, _ => False
theorem RndR.mono {ι κ : Iota} (e : Ext ι κ) : ∀ {a b : Option Nat}, RndR ι a b → RndR κ a b
  | none, none, _ => trivial
  | some _, some _, ⟨d, h1, h2, h3⟩ => ⟨d, e _ _ h1, h2, h3⟩
  | none, some _, h => h.elim
  | some _, none, h => h.elim

/-- The frames that wait: what the mode of the first one is, where it is looked at. -/
def UpR (ι : Iota) (dk : Bool) (up : FrameMode) (cs : List Frame) : Prop := dk = true → ∃ c rest, cs = c :: rest ∧ MR ι up c.mode
/-- .. and nothing else of them has turned. -/
def UpTo (ι : Iota) (dk : Bool) (up : FrameMode) (cs cs' : List Frame) : Prop := match dk with
  | false => cs' = cs
  | true => ∃ c rest m, cs = c :: rest ∧ cs' = { c with mode := m } :: rest ∧ MR ι up m

structure FrR (P : Program) (ι : Iota) (fr : Fr) (b : Frame) (a : Act) (mode : FrameMode) (cs : List Frame) : Prop where
  fn : b.fn = fr.fn
  tm : TmR ι fr.nt fr.T a.tmps
  ds : DRL ι fr.ds a.defers
  mode : MR ι fr.mode mode
  kind : b.kind = if fr.dk then .deferred else .normal
  rnd : RndR ι fr.rnd b.roundOf
  up : UpR ι fr.dk fr.up cs

def atM (b : Frame) (a : Act) (todo : List Item) (m : FrameMode) : Frame := { b.atR a todo with mode := m }

theorem atM_run (b : Frame) (a : Act) (todo : List Item) : atM b a todo .run = b.atR a todo := rfl

/-- A frame that has come to its end. -/
inductive Fin (P : Program) (κ : Iota) (b : Frame) (dk : Bool) (rnd : Option Nat) (m : Machine) (cs : List Frame) (w' : World) : Res → Prop
  | ret {v u : Value} {up : FrameMode} {M : Tr Blk} {nx : Nat} {a : Act} {todo : List Item} {fn : Func} {cs' : List Frame} (hr : rnd = none) (hs : Steps P m (lone (atM b a todo .returning) cs' w')) (ha : a.defers = []) (hfn : P.funcs[b.fn]? = some fn)
      (hres : (results fn a.tmps).run P w' = .ok u w') (hv : VR κ v u) (hcs : UpTo κ dk up cs cs') : Fin P κ b dk rnd m cs w' (.ret v up M nx)
  | round {v u : Value} {up : FrameMode} {M : Tr Blk} {nx : Nat} (hr : rnd ≠ none) (hs : ∀ c rest, cs = c :: rest → Steps P m (lone (c.finish u) rest w')) (hv : VR κ v u) : Fin P κ b dk rnd m cs w' (.ret v up M nx)
  | pan {xs ys : List PanicEntry} {up : FrameMode} {M : Tr Blk} {nx : Nat} {a : Act} {todo : List Item} {cs' : List Frame} (hs : Steps P m (lone (atM b a todo (.panicking ys)) cs' w')) (ha : a.defers = []) (hfn : (P.funcs[b.fn]?).isSome = true) (hv : PRL κ xs ys)
      (hcs : UpTo κ dk up cs cs') : Fin P κ b dk rnd m cs w' (.pan xs up M nx)

/-- What is shown of a frame that the interpreter runs to its end. -/
def Sound (P : Program) (G : Nat) (w0 : World) (fr : Fr) (r : Res) : Prop :=
  ∀ (ι : Iota) (b : Frame) (a : Act) (mode : FrameMode) (cs : List Frame) (w : World), R w0 ι fr.M w → GOk G ι → FrR P ι fr b a mode cs → FreshU ι fr.nx →
    (fr.rnd ≠ none → fr.dk = false ∧ cs ≠ []) →
    ∃ κ w', Post w0 ι fr.M fr.nx w κ r.M r.nx w' ∧ Fin P κ b fr.dk fr.rnd (lone (atM b a fr.todo mode) cs w) cs w' r

/-- A call as the interpreter enters it. -/
noncomputable def putArgs : List Value → Nat → Tr Value → Tr Value
  | [], _, T => T
  | v :: vs, i, T => putArgs vs (i + 1) (T.set i v)
noncomputable def enterFr (P : Program) (f : FuncId) (args : List Value) (dk : Bool) (up : FrameMode) (M : Tr Blk) (nx : Nat) : Option Fr := match P.funcs[f]? with
  | some fn => (match fn.body with
    | some c => some { fn := f, nt := args.length + (fn.ntmps - args.length), T := putArgs args 0 .nil, todo := [.code c], ds := [], mode := .run, dk, rnd := none, up, M, nx }
    | none => none)
  | none => none

theorem putArgs_get : ∀ (vs : List Value) (i : Nat) (T : Tr Value) (t : Nat), (putArgs vs i T).get t = if t < i then T.get t else match vs[t - i]? with | some v => some v | none => T.get t
  | [], i, T, t => by simp [putArgs]
  | v :: vs, i, T, t => by
    rw [putArgs, putArgs_get vs (i + 1) (T.set i v) t]
    by_cases h1 : t < i
    · rw [if_pos (by omega), if_pos h1, Tr.get_set_ne _ _ (by omega)]
    · by_cases h2 : t = i
      · subst h2
        rw [if_pos (by omega), if_neg (by omega), Tr.get_set_same]
        simp
      · rw [if_neg (by omega), if_neg h1, Tr.get_set_ne _ _ h2]
        have : t - i = (t - (i + 1)) + 1 := by omega
        rw [this, List.getElem?_cons_succ]

theorem enterFr_rel {P : Program} {ι : Iota} {f : FuncId} {args : List Value} {args' : Array Value} {dk : Bool} {up : FrameMode} {M : Tr Blk} {nx : Nat} {fr : Fr} {cs : List Frame} (he : enterFr P f args dk up M nx = some fr) (ha : VRL ι args args'.toList) (hu : UpR ι dk up cs) :
    ∃ b a, Frame.enter P f args' (if dk then .deferred else .normal) = atM b a fr.todo .run ∧ FrR P ι fr b a .run cs ∧ fr.M = M ∧ fr.nx = nx ∧ fr.dk = dk ∧ fr.rnd = none ∧ b.fn = f := by
  unfold enterFr at he
  split at he
  · rename_i fn hfn
    split at he
    · rename_i c hc
      simp at he; subst he
      have hlen := ha.length
      simp at hlen
      refine ⟨{ (default : Frame) with fn := f, kind := if dk then .deferred else .normal }, { tmps := args' ++ Array.replicate (fn.ntmps - args'.size) undef, defers := [] }, ?_, ?_, rfl, rfl, rfl, rfl, rfl⟩
      · simp only [Frame.enter, hfn, Option.map_some, Option.getD_some, Option.bind_some, hc, atM, Frame.atR]
        rfl
      · refine ⟨rfl, ⟨by simp [hlen], ?_⟩, .nil, .run, rfl, trivial, hu⟩
        intro t v hv
        rw [putArgs_get] at hv
        simp only [Nat.not_lt_zero, if_false, Nat.sub_zero] at hv
        split at hv
        · rename_i x hx
          simp at hv; subst hv
          obtain ⟨u, h1, h2⟩ := ha.get hx
          rw [Array.getElem?_toList] at h1
          have hlt := (Array.getElem?_eq_some_iff.1 h1).1
          exact ⟨u, by rw [Array.getElem?_append_left hlt]; exact h1, h2⟩
        · simp [Tr.get_nil] at hv
    · cases he
  · cases he
end Go.Proofs.YtjbanjpklgpenaaGreatDoor.Vm
