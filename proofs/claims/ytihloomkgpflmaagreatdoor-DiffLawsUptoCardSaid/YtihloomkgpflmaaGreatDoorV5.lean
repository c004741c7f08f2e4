/-
  THE ABSTRACT INTERPRETER, part L: quiet operations; what else an operation may come to; frames.
  THE ABSTRACT INTERPRETER, part M: operations that write, call, defer, recover, panic.
  THE ABSTRACT INTERPRETER, part N: one operation of a region is carried out as the interpreter says.
-/
import Derived.Test.YtihloomkgpflmaaGreatDoorV4
import Derived.Defers
import Derived.AtR
import Derived.Recover
set_option linter.unusedSimpArgs false
set_option linter.unusedVariables false
namespace Go.Proofs.YtihloomkgpflmaaGreatDoor.Vm

/-! ### operations that change nothing that was there -/
noncomputable def aquiet (P : Program) (G : Nat) (T : Tr Value) (M : Tr Blk) (nx : Nat) (op : Op) : Option (Value × Tr Blk × Nat) := match op with
  | .load t a => (match getv G T a with
    | some v => (match aLoad P M t v with
      | some r => some (r, M, nx)
      | none => none)
    | none => none)
  | .lookup t m k ok => (match getv G T m, getv G T k with
    | some a, some b => (match aLookup P M t a b ok with
      | some r => some (r, M, nx)
      | none => none)
    | _, _ => none)
  | .alloc elem => aAlloc P M nx elem
  | .box _ x => (match getv G T x with
    | some v => some (aBox M nx v)
    | none => some (aBoxU M nx))
  | .buildSlice t len parts => (match getps G T parts.toList with
    | some ps => aBuildSlice P M nx t len ps
    | none => none)
  | .makeSlice t l c => (match getv G T l, getv G T c with
    | some a, some b => aMakeSlice P M nx t a b
    | _, _ => none)
  | .makeMap _ none => some (aMakeMap M nx)
  | op => (match apure P G T op with
    | some v => some (v, M, nx)
    | none => none)

theorem run_aquiet {P : Program} {w0 : World} {ι : Iota} {G : Nat} {T : Tr Value} {M M' : Tr Blk} {nx nx' : Nat} {w : World} {ρ : Operand → Value} (h : R w0 ι M w) (hT : TR ι G T ρ) (o : Oper) {v : Value} (hf : Fresh ι nx nx')
    (he : aquiet P G T M nx o.op = some (v, M', nx')) : ∃ κ u w', (execOp ρ o).run P w = .ok (.value u) w' ∧ Post w0 ι M nx w κ M' nx' w' ∧ VR κ v u := by
  obtain ⟨dst, op, type, pos, after, guard⟩ := o
  have lift : ∀ {s : Sem Value}, (∃ κ y w', s.run P w = .ok y w' ∧ Post w0 ι M nx w κ M' nx' w' ∧ VR κ v y) → ∃ κ u w', (s >>= fun x => pure (Next.value x) : Sem Next).run P w = .ok (.value u) w' ∧ Post w0 ι M nx w κ M' nx' w' ∧ VR κ v u := by
    rintro s ⟨κ, y, w', h1, h2, h3⟩
    exact ⟨κ, y, w', by rw [Sem.run_bind, h1]; rfl, h2, h3⟩
  unfold aquiet at he
  simp only at he
  split at he
  case h_1 =>
    split at he
    · rename_i t a x hx
      split at he
      · rename_i r hr
        simp at he; obtain ⟨rfl, rfl, rfl⟩ := he
        obtain ⟨z, h1, h2⟩ := run_aLoad h (hT _ _ hx) hr
        exact lift ⟨ι, z, w, h2, Post.refl h, h1⟩
      · cases he
    · cases he
  case h_2 =>
    split at he
    · rename_i t m k ok a b ha hb
      split at he
      · rename_i r hr
        simp at he; obtain ⟨rfl, rfl, rfl⟩ := he
        obtain ⟨z, h1, h2⟩ := run_aLookup h (hT _ _ ha) (hT _ _ hb) hr
        exact lift ⟨ι, z, w, h2, Post.refl h, h1⟩
      · cases he
    · cases he
  case h_3 => exact lift (run_aAlloc h hf he)
  case h_4 =>
    split at he
    · rename_i elem x a ha
      simp [aBox] at he; obtain ⟨rfl, rfl, rfl⟩ := he
      exact lift (run_aBox h hf (hT _ _ ha))
    · simp [aBoxU] at he; obtain ⟨rfl, rfl, rfl⟩ := he
      exact lift (run_aBoxU h hf)
  case h_5 =>
    split at he
    · rename_i t len parts ps hp
      refine lift (run_aBuildSlice h hf ?_ he)
      rw [Array.toList_map]
      exact getps_rel hT _ hp
    · cases he
  case h_6 =>
    split at he
    · rename_i t l c a b ha hb
      exact lift (run_aMakeSlice h hf (hT _ _ ha) (hT _ _ hb) he)
    · cases he
  case h_7 =>
    simp [aMakeMap] at he; obtain ⟨rfl, rfl, rfl⟩ := he
    exact lift (run_aMakeMap h hf)
  case h_8 =>
    split at he
    · rename_i x hx
      simp at he; obtain ⟨rfl, rfl, rfl⟩ := he
      obtain ⟨u, h1, h2⟩ := run_apure (P := P) h.kinds hT ⟨dst, op, type, pos, after, guard⟩ hx
      exact ⟨ι, u, w, h2 w, Post.refl h, h1⟩
    · cases he

/-! ### modes, deferred calls -/
inductive DR (ι : Iota) : Deferred → Deferred → Prop
  | fn {f : Fn} {cap cap' args args' : Array Value} (hf : plainFn f = true) (hc : VRL ι cap.toList cap'.toList) (ha : VRL ι args.toList args'.toList) : DR ι { target := .fn f cap, args } { target := .fn f cap', args := args' }
  | collected {r : Nat} {l : Loc} (h : ι r = some l) (hg : l.gr = none) : DR ι { target := .collected r, args := #[] } { target := .collected l.blk, args := #[] }
inductive DRL (ι : Iota) : List Deferred → List Deferred → Prop
  | nil : DRL ι [] []
  | cons {d d' : Deferred} {xs ys : List Deferred} (h : DR ι d d') (t : DRL ι xs ys) : DRL ι (d :: xs) (d' :: ys)
inductive PRL (ι : Iota) : List PanicEntry → List PanicEntry → Prop
  | nil : PRL ι [] []
  | cons {v u : Value} {r : Bool} {xs ys : List PanicEntry} (h : VR ι v u) (t : PRL ι xs ys) : PRL ι ({ v := v, recovered := r } :: xs) ({ v := u, recovered := r } :: ys)
inductive MR (ι : Iota) : FrameMode → FrameMode → Prop
  | run : MR ι .run .run
  | returning : MR ι .returning .returning
  | panicking {xs ys : List PanicEntry} (h : PRL ι xs ys) : MR ι (.panicking xs) (.panicking ys)
theorem DR.mono {ι κ : Iota} (e : Ext ι κ) {d d' : Deferred} (h : DR ι d d') : DR κ d d' := by
  cases h with
  | fn hf hc ha => exact .fn hf (hc.mono e) (ha.mono e)
  | collected h hg => exact .collected (e _ _ h) hg
theorem DRL.mono {ι κ : Iota} (e : Ext ι κ) : ∀ {xs ys : List Deferred}, DRL ι xs ys → DRL κ xs ys
  | _, _, .nil => .nil
  | _, _, .cons h t => .cons (h.mono e) (DRL.mono e t)
theorem PRL.mono {ι κ : Iota} (e : Ext ι κ) : ∀ {xs ys : List PanicEntry}, PRL ι xs ys → PRL κ xs ys
  | _, _, .nil => .nil
  | _, _, .cons h t => .cons (h.mono e) (PRL.mono e t)
theorem PRL.append {ι : Iota} : ∀ {xs ys as bs : List PanicEntry}, PRL ι xs ys → PRL ι as bs → PRL ι (xs ++ as) (ys ++ bs)
  | _, _, _, _, .nil, h => h
  | _, _, _, _, .cons h t, g => .cons h (PRL.append t g)
theorem MR.mono {ι κ : Iota} (e : Ext ι κ) {m m' : FrameMode} (h : MR ι m m') : MR κ m m' := by
  cases h with
  | run => exact .run
  | returning => exact .returning
  | panicking h => exact .panicking (h.mono e)
theorem MR.settle {ι : Iota} {m m' : FrameMode} (h : MR ι m m') : MR ι (Go.settle m) (Go.settle m') := by
  cases h with
  | run => exact .run
  | returning => exact .returning
  | panicking h =>
    cases h with
    | nil => exact .panicking .nil
    | cons hv t =>
      rename_i v u r xs ys
      cases r with
      | false => exact .panicking (.cons hv t)
      | true =>
        have key : ∀ {xs ys : List PanicEntry}, PRL ι xs ys → xs.dropWhile (!·.goexit) = [] ∧ ys.dropWhile (!·.goexit) = [] := by
          intro xs
          induction xs with
          | nil => intro ys h; cases h; exact ⟨rfl, rfl⟩
          | cons x xs ih => intro ys h; cases h with | cons hv t => exact ⟨by simpa using (ih t).1, by simpa using (ih t).2⟩
        have := key t
        simp only [Go.settle, this.1, this.2]
        exact .returning
theorem MR.raised {ι : Iota} {m m' : FrameMode} {xs ys : List PanicEntry} (h : MR ι m m') (hp : PRL ι xs ys) : MR ι (raised m xs) (raised m' ys) := by
  cases h with
  | run => exact .panicking hp
  | returning => exact .panicking hp
  | panicking h => exact .panicking (hp.append h)

/-! ### frames -/
structure Fr where
  fn : FuncId
  nt : Nat
  T : Tr Value
  todo : List Item
  ds : List Deferred
  mode : FrameMode
  dk : Bool
  rnd : Option Nat
  up : FrameMode
  M : Tr Blk
  nx : Nat

inductive Res where
  | ret (v : Value) (up : FrameMode) (M : Tr Blk) (nx : Nat)
  | pan (chain : List PanicEntry) (up : FrameMode) (M : Tr Blk) (nx : Nat)

def Res.M : Res → Tr Blk
  | .ret _ _ M _ | .pan _ _ M _ => M
def Res.nx : Res → Nat
  | .ret _ _ _ n | .pan _ _ _ n => n
def Res.up : Res → FrameMode
  | .ret _ u _ _ | .pan _ u _ _ => u

def RndR (ι : Iota) : Option Nat → Option Nat → Prop
  | none, none => True
  | some l, some l' => ∃ d, ι l = some d ∧ d.gr = none ∧ d.blk = l'
  | _, _ => False
theorem RndR.mono {ι κ : Iota} (e : Ext ι κ) : ∀ {a b : Option Nat}, RndR ι a b → RndR κ a b
  | none, none, _ => trivial
  | some _, some _, ⟨d, h1, h2, h3⟩ => ⟨d, e _ _ h1, h2, h3⟩
  | none, some _, h => h.elim
  | some _, none, h => h.elim

/-- The frames that wait: what the mode of the first one is, where it is looked at. -/
def UpR (ι : Iota) (dk : Bool) (up : FrameMode) (cs : List Frame) : Prop := dk = true → ∃ c rest, cs = c :: rest ∧ MR ι up c.mode
/-- .. and nothing else of them has turned. -/
def UpTo (ι : Iota) (dk : Bool) (up : FrameMode) (cs cs' : List Frame) : Prop := match dk with
  | false => cs' = cs
  | true => ∃ c rest m, cs = c :: rest ∧ cs' = { c with mode := m } :: rest ∧ MR ι up m

structure FrR (P : Program) (ι : Iota) (fr : Fr) (b : Frame) (a : Act) (mode : FrameMode) (cs : List Frame) : Prop where
  fn : b.fn = fr.fn
  tm : TmR ι fr.nt fr.T a.tmps
  ds : DRL ι fr.ds a.defers
  mode : MR ι fr.mode mode
  kind : b.kind = if fr.dk then .deferred else .normal
  rnd : RndR ι fr.rnd b.roundOf
  up : UpR ι fr.dk fr.up cs

def atM (b : Frame) (a : Act) (todo : List Item) (m : FrameMode) : Frame := { b.atR a todo with mode := m }

theorem atM_run (b : Frame) (a : Act) (todo : List Item) : atM b a todo .run = b.atR a todo := rfl

/-- A frame that has come to its end. -/
inductive Fin (P : Program) (κ : Iota) (b : Frame) (dk : Bool) (rnd : Option Nat) (m : Machine) (cs : List Frame) (w' : World) : Res → Prop
  | ret {v u : Value} {up : FrameMode} {M : Tr Blk} {nx : Nat} {a : Act} {todo : List Item} {fn : Func} {cs' : List Frame} (hr : rnd = none) (hs : Steps P m (lone (atM b a todo .returning) cs' w')) (ha : a.defers = []) (hfn : P.funcs[b.fn]? = some fn)
      (hres : (results fn a.tmps).run P w' = .ok u w') (hv : VR κ v u) (hcs : UpTo κ dk up cs cs') : Fin P κ b dk rnd m cs w' (.ret v up M nx)
  | round {v u : Value} {up : FrameMode} {M : Tr Blk} {nx : Nat} (hr : rnd ≠ none) (hs : ∀ c rest, cs = c :: rest → Steps P m (lone (c.finish u) rest w')) (hv : VR κ v u) : Fin P κ b dk rnd m cs w' (.ret v up M nx)
  | pan {xs ys : List PanicEntry} {up : FrameMode} {M : Tr Blk} {nx : Nat} {a : Act} {todo : List Item} {cs' : List Frame} (hs : Steps P m (lone (atM b a todo (.panicking ys)) cs' w')) (ha : a.defers = []) (hfn : (P.funcs[b.fn]?).isSome = true) (hv : PRL κ xs ys)
      (hcs : UpTo κ dk up cs cs') : Fin P κ b dk rnd m cs w' (.pan xs up M nx)

/-- What is shown of a frame that the interpreter runs to its end. -/
def Sound (P : Program) (G : Nat) (w0 : World) (fr : Fr) (r : Res) : Prop :=
  ∀ (ι : Iota) (b : Frame) (a : Act) (mode : FrameMode) (cs : List Frame) (w : World), R w0 ι fr.M w → GOk G ι → FrR P ι fr b a mode cs → FreshU ι fr.nx →
    (fr.rnd ≠ none → fr.dk = false ∧ cs ≠ []) →
    ∃ κ w', Post w0 ι fr.M fr.nx w κ r.M r.nx w' ∧ Fin P κ b fr.dk fr.rnd (lone (atM b a fr.todo mode) cs w) cs w' r

/-- A call as the interpreter enters it. -/
noncomputable def putArgs : List Value → Nat → Tr Value → Tr Value
  | [], _, T => T
  | v :: vs, i, T => putArgs vs (i + 1) (T.set i v)
noncomputable def enterFr (P : Program) (f : FuncId) (args : List Value) (dk : Bool) (up : FrameMode) (M : Tr Blk) (nx : Nat) : Option Fr := match P.funcs[f]? with
  | some fn => (match fn.body with
    | some c => some { fn := f, nt := args.length + (fn.ntmps - args.length), T := putArgs args 0 .nil, todo := [.code c], ds := [], mode := .run, dk, rnd := none, up, M, nx }
    | none => none)
  | none => none

theorem putArgs_get : ∀ (vs : List Value) (i : Nat) (T : Tr Value) (t : Nat), (putArgs vs i T).get t = if t < i then T.get t else match vs[t - i]? with | some v => some v | none => T.get t
  | [], i, T, t => by simp [putArgs]
  | v :: vs, i, T, t => by
    rw [putArgs, putArgs_get vs (i + 1) (T.set i v) t]
    by_cases h1 : t < i
    · rw [if_pos (by omega), if_pos h1, Tr.get_set_ne _ _ (by omega)]
    · by_cases h2 : t = i
      · subst h2
        rw [if_pos (by omega), if_neg (by omega), Tr.get_set_same]
        simp
      · rw [if_neg (by omega), if_neg h1, Tr.get_set_ne _ _ h2]
        have : t - i = (t - (i + 1)) + 1 := by omega
        rw [this, List.getElem?_cons_succ]

theorem enterFr_rel {P : Program} {ι : Iota} {f : FuncId} {args : List Value} {args' : Array Value} {dk : Bool} {up : FrameMode} {M : Tr Blk} {nx : Nat} {fr : Fr} {cs : List Frame} (he : enterFr P f args dk up M nx = some fr) (ha : VRL ι args args'.toList) (hu : UpR ι dk up cs) :
    ∃ b a, Frame.enter P f args' (if dk then .deferred else .normal) = atM b a fr.todo .run ∧ FrR P ι fr b a .run cs ∧ fr.M = M ∧ fr.nx = nx ∧ fr.dk = dk ∧ fr.rnd = none ∧ b.fn = f := by
  unfold enterFr at he
  split at he
  · rename_i fn hfn
    split at he
    · rename_i c hc
      simp at he; subst he
      have hlen := ha.length
      simp at hlen
      refine ⟨{ (default : Frame) with fn := f, kind := if dk then .deferred else .normal }, { tmps := args' ++ Array.replicate (fn.ntmps - args'.size) undef, defers := [] }, ?_, ?_, rfl, rfl, rfl, rfl, rfl⟩
      · simp only [Frame.enter, hfn, Option.map_some, Option.getD_some, Option.bind_some, hc, atM, Frame.atR]
        rfl
      · refine ⟨rfl, ⟨by simp [hlen], ?_⟩, .nil, .run, rfl, trivial, hu⟩
        intro t v hv
        rw [putArgs_get] at hv
        simp only [Nat.not_lt_zero, if_false, Nat.sub_zero] at hv
        split at hv
        · rename_i x hx
          simp at hv; subst hv
          obtain ⟨u, h1, h2⟩ := ha.get hx
          rw [Array.getElem?_toList] at h1
          have hlt := (Array.getElem?_eq_some_iff.1 h1).1
          exact ⟨u, by rw [Array.getElem?_append_left hlt]; exact h1, h2⟩
        · simp [Tr.get_nil] at hv
    · cases he
  · cases he
end Go.Proofs.YtihloomkgpflmaaGreatDoor.Vm

namespace Go.Proofs.YtihloomkgpflmaaGreatDoor.Vm

/-- What the interpreter knows beside the text: functions without a body; calls whose end is known. -/
structure Exts where
  fn : FuncId → Option (List Value → Option Value)
  sm : FuncId → List Value → Tr Blk → Nat → Option (Value × Tr Blk × Nat)
  /-- functions that turn nothing that was there, by what they answer -/
  pf : FuncId → Option (List Value → Option Value)
def XOk (P : Program) (G : Nat) (w0 : World) (X : Exts) : Prop :=
  (∀ f e as v, X.fn f = some e → e as = some v → (∀ ι : Iota, VR ι v v) ∧ ∀ (ι : Iota) (bs : Array Value) (w : World), VRL ι as bs.toList → (callFunc f bs).run P w = .ok (.value v) w) ∧
  (∀ f as M nx v M' nx', X.sm f as M nx = some (v, M', nx') → ∃ fr, enterFr P f as false .run M nx = some fr ∧ Sound P G w0 fr (.ret v .run M' nx')) ∧
  (∀ f e as v, X.pf f = some e → e as = some v → ∀ M nx, ∃ fr, enterFr P f as false .run M nx = some fr ∧ Sound P G w0 fr (.ret v .run M nx))
def FOk (P : Program) : Prop := ∀ (f : FuncId) (fn : Func), P.funcs[f]? = some fn → fn.body.isSome = true → (fn.name == "runtime.NumGoroutine") = false

theorem run_callFunc {P : Program} (hF : FOk P) {f : FuncId} {fn : Func} (hfn : P.funcs[f]? = some fn) (hb : fn.body.isSome = true) (args : Array Value) (w : World) : (callFunc f args).run P w = .ok (.enter f args) w := by
  have h1 := hF f fn hfn hb
  obtain ⟨cd, h2⟩ := Option.isSome_iff_exists.1 hb
  simp only [beq_eq_false_iff_ne, ne_eq] at h1
  simp [callFunc, hfn, h1, h2]

inductive Eff where
  | val (v : Value) (M : Tr Blk) (nx : Nat)
  | enter (f : FuncId) (args : List Value)
  | round (l : Nat) (args : List Value)
  | recover
  | defer (d : Deferred)
  | panic (v : Value)

noncomputable def acall (X : Exts) (f : Value) (args : List Value) (M : Tr Blk) (nx : Nat) : Option Eff := match f with
  | .func (.func g) first cap => (match X.fn g with
    | some e => (match e (first.toList ++ args ++ cap.toList) with
      | some v => some (.val v M nx)
      | none => none)
    | none => some (.enter g (first.toList ++ args ++ cap.toList)))
  | .func (.yield l) xs ys => (match xs.toList, ys.toList with
    | [], [] => some (.round l args)
    | _, _ => none)
  | _ => none

/-- The function behind a method of a type, where the receiver is handed on as it is. -/
def aMethod (P : Program) (t : TypeId) (name : String) : Option FuncId := match P.info? t, P.underlying t with
  | some i, some d => (match i.methods.find? (·.name == name) with
    | some m => (match m.path.toList, m.func, d with
      | [], some (f, true), .pointer _ => some f
      | [], some (_, false), .pointer _ => none
      | [], some (f, false), _ => some f
      | _, _, _ => none)
    | none => none)
  | _, _ => none
theorem run_callMethod {P : Program} {t : TypeId} {name : String} {f : FuncId} (h : aMethod P t name = some f) (v : Value) (args : Array Value) (w : World) : (callMethod (.iface t v) name args).run P w = (callFunc f (#[v] ++ args)).run P w := by
  have h0 : 0 < Made.depth := by decide
  obtain ⟨k, hk⟩ : ∃ k, P.types.size + Made.depth = k + 1 := ⟨P.types.size + Made.depth - 1, by omega⟩
  unfold aMethod at h
  split at h
  · rename_i i d hi hd
    split at h
    · rename_i m hm
      split at h
      · rename_i f' e hp hf
        simp only [Option.some.injEq] at h; subst h
        simp only [callMethod, program, Sem.run_bind, Sem.run, Result.andThen_ok, hk, method, typeInfo, hi, hm, hp, hf, follow, receiverAt, run_underlying hd, Place.get, Sem.run_pure]
      · cases h
      · rename_i f' hp hf hne
        simp only [Option.some.injEq] at h; subst h
        simp only [callMethod, program, Sem.run_bind, Sem.run, Result.andThen_ok, hk, method, typeInfo, hi, hm, hp, hf, follow, receiverAt, run_underlying hd, Place.get, Sem.run_pure]
      · cases h
    · cases h
  · cases h

noncomputable def aeff (P : Program) (X : Exts) (G : Nat) (T : Tr Value) (M : Tr Blk) (nx : Nat) (op : Op) : Option Eff := match op with
  | .store t a x => (match getv G T a, getv G T x with
    | some b, some v => (match aStore P M t b v with
      | some M' => some (.val undef M' nx)
      | none => none)
    | _, _ => none)
  | .insert t m k x => (match getv G T m, getv G T k, getv G T x with
    | some a, some b, some c => (match aMapNew P M t a b c with
      | some M' => some (.val undef M' nx)
      | none => none)
    | _, _, _ => none)
  | .call c => (match c.callee, getvs G T c.args.toList with
    | .builtin .append, some [d, s] => (match c.argTypes.toList with
      | [t, t'] => bif Nat.beq t t' then (match aAppend P M nx t d s with
        | some (v, M', nx') => some (.val v M' nx')
        | none => none) else (match aAppendS P M nx t t' d s with
        | some (v, M', nx') => some (.val v M' nx')
        | none => none)
      | _ => none)
    | .builtin .recover, _ => some .recover
    | .value f, some as => (match getv G T f with
      | some fv => acall X fv as M nx
      | none => none)
    | .invoke r name, some as => (match getv G T r with
      | some (.iface t v) => (match aMethod P t name with
        | some f => (match X.fn f with
          | some _ => none
          | none => some (.enter f (v :: as)))
        | none => none)
      | _ => none)
    | _, _ => none)
  | .defer c => (match c.callee, getvs G T c.args.toList with
    | .value f, some as => (match getv G T f with
      | some (.func fn first cap) => bif plainFn fn then some (.defer { target := .fn fn cap, args := (first.toList ++ as).toArray }) else none
      | _ => none)
    | _, _ => none)
  | .panic x => (match getv G T x with
    | some (.iface t v) => some (.panic (.iface t v))
    | _ => none)
  | .convert s d x => (match getv G T x with
    | some a => (match aConvM P M nx s d a with
      | some (v, M', nx') => some (.val v M' nx')
      | none => none)
    | none => none)
  | _ => none

/-- What an effect says of the true operation's run. -/
def EffR (P : Program) (w0 : World) (ι : Iota) (M : Tr Blk) (nx : Nat) (w : World) (r : Result Next) : Eff → Prop
  | .val v M' nx' => Fresh ι nx nx' → ∃ κ w', Post w0 ι M nx w κ M' nx' w' ∧ ∃ u, VR κ v u ∧ (r = .ok (.value u) w' ∨ (r = .ok .skip w' ∧ u = undef))
  | .enter f as => ∃ bs : Array Value, VRL ι as bs.toList ∧ ((∃ fn, P.funcs[f]? = some fn ∧ fn.body.isSome = true) → r = .ok (.enter f bs) w)
  | .round l as => ∃ (d : Loc) (bs : Array Value), ι l = some d ∧ d.gr = none ∧ VRL ι as bs.toList ∧ r = (Instr.yield d.blk bs).run P w
  | .recover => r = .ok .recover w
  | .defer d => ∃ d', DR ι d d' ∧ r = .ok (.defer d') w
  | .panic v => ∃ u, VR ι v u ∧ r = .halt (.panic u) w

theorem undef_self {ι : Iota} : VR ι undef undef := .tuple .nil

theorem run_aeff {P : Program} {X : Exts} {w0 : World} {G : Nat} (hX : XOk P G w0 X) (hF : FOk P) {ι : Iota} {T : Tr Value} {M : Tr Blk} {nx : Nat} {w : World} {ρ : Operand → Value} (h : R w0 ι M w) (hT : TR ι G T ρ) (o : Oper) {e : Eff} (he : aeff P X G T M nx o.op = some e) :
    EffR P w0 ι M nx w ((execOp ρ o).run P w) e := by
  obtain ⟨dst, op, type, pos, after, guard⟩ := o
  unfold aeff at he
  simp only at he
  split at he
  case h_1 =>
    split at he
    · rename_i t a x b v hb hv
      split at he
      · rename_i M' hs
        simp at he; subst he
        intro hf
        obtain ⟨w', h1, h2⟩ := run_aStore (nx := nx) h (hT _ _ hb) (hT _ _ hv) hs
        exact ⟨ι, w', h2, undef, undef_self, .inr ⟨by simp only [execOp, Sem.run_bind, h1, Result.andThen_ok]; rfl, rfl⟩⟩
      · cases he
    · cases he
  case h_2 =>
    split at he
    · rename_i t m k x a b c ha hb hc
      split at he
      · rename_i M' hs
        simp at he; subst he
        intro hf
        obtain ⟨w', h1, h2⟩ := run_aMapNew (nx := nx) h (hT _ _ ha) (hT _ _ hb) (hT _ _ hc) hs
        exact ⟨ι, w', h2, undef, undef_self, .inr ⟨by simp only [execOp, Sem.run_bind, h1, Result.andThen_ok]; rfl, rfl⟩⟩
      · cases he
    · cases he
  case h_3 =>
    rename_i c
    split at he
    · rename_i d s hc ha
      split at he
      · rename_i t t' ht
        have e2 : ∃ u z, c.args.map ρ = #[u, z] ∧ VR ι d u ∧ VR ι s z := by
          have hl := getvs_rel hT _ ha
          rw [← Array.toList_map] at hl
          generalize hz : (c.args.map ρ).toList = l at hl
          cases hl with
          | cons h1 t1 => cases t1 with
            | cons h2 t2 => cases t2; exact ⟨_, _, by rw [← hz], h1, h2⟩
        obtain ⟨u, z, e2, e3, e4⟩ := e2
        cases hb : Nat.beq t t' with
        | false =>
          rw [hb] at he; simp only [cond_false] at he
          have e1 : c.argTypes = #[t, t'] := by rw [← ht]
          split at he
          · rename_i v M' nx' hap
            simp at he; subst he
            intro hf
            obtain ⟨κ, y, w', k1, k2, k3⟩ := run_aAppendS (ty := type) h hf e3 e4 hap
            refine ⟨κ, w', k2, y, k3, .inl ?_⟩
            simp only [execOp, resolve, hc, e1, e2, Sem.run_bind, Sem.run_pure, Result.andThen_ok, invoke, builtin, k1]
          · cases he
        | true =>
          have e0 := Nat.eq_of_beq_eq_true hb
          subst e0
          rw [hb] at he; simp only [cond_true] at he
          split at he
          · rename_i v M' nx' hap
            simp at he; subst he
            intro hf
            have e1 : c.argTypes = #[t, t] := by rw [← ht]
            obtain ⟨κ, y, w', k1, k2, k3⟩ := run_aAppend (ty := type) h hf e3 e4 hap
            refine ⟨κ, w', k2, y, k3, .inl ?_⟩
            simp only [execOp, resolve, hc, e1, e2, Sem.run_bind, Sem.run_pure, Result.andThen_ok, invoke, builtin, k1]
          · cases he
      · cases he
    · rename_i hc
      simp at he; subst he
      simp only [EffR, execOp, resolve, hc, Sem.run_bind, Sem.run_pure, Result.andThen_ok, invoke, builtin]
    · rename_i f as hc ha
      split at he
      · rename_i fv hfv
        have hl := getvs_rel hT _ ha
        rw [← Array.toList_map] at hl
        have hv := hT _ _ hfv
        unfold acall at he
        split at he
        · rename_i g first cap
          generalize hρ : ρ f = z at hv
          cases hv with
          | func hpf h1 h2 =>
            rename_i first' cap'
            have hargs : VRL ι (first.toList ++ as ++ cap.toList) ((first' ++ c.args.map ρ) ++ cap').toList := by
              rw [Array.toList_append, Array.toList_append]
              exact (h1.append hl).append h2
            have hrun : (execOp ρ { dst, op := .call c, type, pos, after, guard }).run P w = (callFunc g ((first' ++ c.args.map ρ) ++ cap')).run P w := by
              simp only [execOp, resolve, hc, hρ, Deferred.ofValue, Sem.run_bind, Sem.run_pure, Result.andThen_ok, invoke]
            split at he
            · rename_i e hXe
              split at he
              · rename_i v hev
                simp at he; subst he
                obtain ⟨q1, q2⟩ := hX.1 g e _ v hXe hev
                intro hf
                refine ⟨ι, w, Post.refl h, v, q1 ι, .inl ?_⟩
                rw [hrun]
                exact q2 ι _ w hargs
              · cases he
            · simp only [Option.some.injEq] at he; subst he
              refine ⟨_, hargs, fun ⟨fn, hfn, hb⟩ => ?_⟩
              rw [hrun]
              exact run_callFunc hF hfn hb _ w
        · rename_i l xs ys
          split at he
          · rename_i hxs hys
            simp at he; subst he
            generalize hρ : ρ f = z at hv
            cases hv with
            | func hpf h1 h2 => simp [plainFn] at hpf
            | yield hι hg =>
              rename_i d
              refine ⟨d, c.args.map ρ, hι, hg, hl, ?_⟩
              simp only [execOp, resolve, hc, hρ, Deferred.ofValue, Sem.run_bind, Sem.run_pure, Result.andThen_ok, invoke, Array.empty_append]
            | dat => simp at hxs
            | dat0 => simp at hxs
            | datE => simp at hxs
            | fptr => simp at hys
          · cases he
        · cases he
      · cases he
    · rename_i r name as hc ha
      split at he
      · rename_i t v hr
        split at he
        · rename_i f hf
          split at he
          · cases he
          · simp only [Option.some.injEq] at he; subst he
            have hl := getvs_rel hT _ ha
            rw [← Array.toList_map] at hl
            have hv := hT _ _ hr
            generalize hρ : ρ r = z at hv
            cases hv with
            | iface _ hvv =>
              rename_i u
              refine ⟨#[u] ++ c.args.map ρ, ?_, fun ⟨fn, hfn, hb⟩ => ?_⟩
              · rw [Array.toList_append]
                exact .cons hvv hl
              · have hex : (#[Value.iface t u] ++ c.args.map ρ).extract 1 (#[Value.iface t u] ++ c.args.map ρ).size = c.args.map ρ := by
                  apply Array.ext'
                  rw [Array.toList_extract, List.extract_eq_take_drop]
                  simp [List.take_of_length_le]
                have hz : (#[Value.iface t u] ++ c.args.map ρ)[0]? = some (Value.iface t u) := by rw [Array.getElem?_append_left (by simp)]; rfl
                simp only [execOp, resolve, hc, hρ, Sem.run_bind, Sem.run_pure, Result.andThen_ok, invoke, hz]
                rw [hex, run_callMethod hf]
                exact run_callFunc hF hfn hb _ w
        · cases he
      · cases he
    · cases he
  case h_4 =>
    rename_i c
    split at he
    · rename_i f as hc ha
      split at he
      · rename_i fn first cap hfv
        cases hp : plainFn fn with
        | false => rw [hp] at he; simp at he
        | true =>
          rw [hp] at he; simp at he; subst he
          have hl := getvs_rel hT _ ha
          rw [← Array.toList_map] at hl
          have hv := hT _ _ hfv
          generalize hρ : ρ f = z at hv
          cases hv with
          | func hpf h1 h2 =>
            rename_i first' cap'
            refine ⟨{ target := .fn fn cap', args := first' ++ c.args.map ρ }, .fn hp h2 ?_, ?_⟩
            · rw [Array.toList_append]
              exact h1.append hl
            · simp only [execOp, resolve, hc, hρ, Deferred.ofValue, Sem.run_bind, Sem.run_pure, Result.andThen_ok]
          | _ => simp [plainFn] at hp
      · cases he
    · cases he
  case h_5 =>
    rename_i x
    split at he
    · rename_i t v hx
      simp at he; subst he
      have hv := hT _ _ hx
      generalize hρ : ρ x = z at hv
      cases hv with
      | iface _ hvv =>
        rename_i u
        exact ⟨.iface t u, .iface t hvv, by simp [execOp, hρ, Instr.panic]⟩
    · cases he
  case h_6 =>
    rename_i s d x
    split at he
    · rename_i a ha
      split at he
      · rename_i v M' nx' hc
        simp at he; subst he
        intro hf
        obtain ⟨κ, y, w', h1, h2, h3⟩ := run_aConvM h hf (hT _ _ ha) hc
        exact ⟨κ, w', h2, y, h3, .inl (by simp only [execOp, Sem.run_bind, h1, Result.andThen_ok]; rfl)⟩
      · cases he
    · cases he
  case h_7 => cases he

/-! ### one operation -/
inductive OpR where
  | ok (v : Value) (ds : List Deferred) (up : FrameMode) (M : Tr Blk) (nx : Nat)
  | pan (chain : List PanicEntry) (up : FrameMode) (M : Tr Blk) (nx : Nat)

noncomputable def putPs : List Tmp → List Value → Nat → Tr Value → Option (Tr Value)
  | [], [], _, T => some T
  | p :: ps, v :: vs, nt, T => bif Nat.blt p nt then putPs ps vs nt (T.set p v) else none
  | _, _, _, _ => none
noncomputable def roundFr (al : ALoop) (l : Nat) (args : List Value) (M : Tr Blk) (nx : Nat) : Option Fr := match putPs al.params args al.nt al.T with
  | some T => some { fn := al.fn, nt := al.nt, T, todo := [.code al.assign, .beginRound, .code al.body], ds := [], mode := .run, dk := false, rnd := some l, up := .run, M, nx }
  | none => none

noncomputable def vop (call : Fr → Option Res) (P : Program) (X : Exts) (G : Nat) (dk : Bool) (rnd : Option Nat) (T : Tr Value) (ds : List Deferred) (up : FrameMode) (M : Tr Blk) (nx : Nat) (op : Op) : Option OpR := match aquiet P G T M nx op with
  | some (v, M', nx') => some (.ok v ds up M' nx')
  | none => (match aeff P X G T M nx op with
    | some (.val v M' nx') => some (.ok v ds up M' nx')
    | some (.enter f as) => (match X.pf f with
      | some e => (match e as with
        | some v => some (.ok v ds up M nx)
        | none => none)
      | none => (match X.sm f as M nx with
      | some (v, M', nx') => some (.ok v ds up M' nx')
      | none => (match enterFr P f as false .run M nx with
        | some fr => (match call fr with
          | some (.ret v _ M' nx') => some (.ok v ds up M' nx')
          | some (.pan ch _ M' nx') => some (.pan ch up M' nx')
          | none => none)
        | none => none)))
    | some (.round l as) => (match M.get (l / 256) with
      | some (.loop al) => (match roundFr al l as M nx with
        | some fr => (match call fr with
          | some (.ret v _ M' nx') => some (.ok v ds up M' nx')
          | some (.pan ch _ M' nx') => some (.pan ch up M' nx')
          | none => none)
        | none => none)
      | _ => none)
    | some .recover => (match rnd, dk, up with
      | none, true, .panicking ({ v, recovered := false, goexit := false } :: older) => some (.ok v ds (.panicking ({ v, recovered := true } :: older)) M nx)
      | none, true, _ => some (.ok .nilIface ds up M nx)
      | none, false, _ => some (.ok .nilIface ds up M nx)
      | _, _, _ => none)
    | some (.defer d) => (match rnd with
      | none => some (.ok undef (d :: ds) up M nx)
      | some _ => none)
    | some (.panic v) => some (.pan [{ v, recovered := false }] up M nx)
    | none => none)
end Go.Proofs.YtihloomkgpflmaaGreatDoor.Vm

namespace Go.Proofs.YtihloomkgpflmaaGreatDoor.Vm

section steps
variable {P : Program} {b : Frame} {a : Act} {k : List Item} {cs : List Frame} {w w' : World} {ops : Array Oper} {i : Nat} {rest : List Nat} {o : Oper}

theorem fin_atR (ho : ops[i]? = some o) (v : Value) : (b.atR a (.inRegion ops (i :: rest) :: k)).finish v = b.atR (a.put o.dst v) (.inRegion ops rest :: k) := by
  rw [Frame.finish_atR, ho]; rfl

theorem st_value (ho : ops[i]? = some o) (hw : Region.wanted o (yielded ops a.tmps) = true) {v : Value} (hr : (o.semAt b.roundOf a.eval).run P w = .ok (.value v) w') :
    step P (lone (b.atR a (.inRegion ops (i :: rest) :: k)) cs w) = .next (lone (b.atR (a.put o.dst v) (.inRegion ops rest :: k)) cs w') := by
  refine step_lone_go ?_
  rw [stepGR_op ho hw, ← fin_atR ho]; simp [stepG.apply, hr]
theorem st_skip (ho : ops[i]? = some o) (hw : Region.wanted o (yielded ops a.tmps) = true) (hr : (o.semAt b.roundOf a.eval).run P w = .ok .skip w') :
    step P (lone (b.atR a (.inRegion ops (i :: rest) :: k)) cs w) = .next (lone (b.atR (a.put o.dst undef) (.inRegion ops rest :: k)) cs w') := by
  refine step_lone_go ?_
  rw [stepGR_op ho hw, ← fin_atR ho]; simp [stepG.apply, hr]
theorem st_defer (ho : ops[i]? = some o) (hw : Region.wanted o (yielded ops a.tmps) = true) {d : Deferred} (hr : (o.semAt b.roundOf a.eval).run P w = .ok (.defer d) w') :
    step P (lone (b.atR a (.inRegion ops (i :: rest) :: k)) cs w) = .next (lone (b.atR (({ a with defers := d :: a.defers } : Act).put o.dst undef) (.inRegion ops rest :: k)) cs w') := by
  refine step_lone_go ?_
  have := fin_atR (b := b) (a := { a with defers := d :: a.defers }) (rest := rest) (k := k) ho undef
  rw [stepGR_op ho hw]
  simp only [stepG.apply, Sem.runT_eq, hr, GStep.bare_after]
  exact congrArg (fun fr => GStep.go { frame := fr, callers := cs, status := .running, dying := none } w') this
theorem st_enter (ho : ops[i]? = some o) (hw : Region.wanted o (yielded ops a.tmps) = true) {f : FuncId} {args : Array Value} (hr : (o.semAt b.roundOf a.eval).run P w = .ok (.enter f args) w') :
    step P (lone (b.atR a (.inRegion ops (i :: rest) :: k)) cs w) = .next (lone (Frame.enter P f args .normal) (b.atR a (.inRegion ops (i :: rest) :: k) :: cs) w') := by
  refine step_lone_go ?_
  rw [stepGR_op ho hw]; simp [stepG.apply, hr, Frame.atR]
theorem st_round (ho : ops[i]? = some o) (hw : Region.wanted o (yielded ops a.tmps) = true) {l : Nat} {f : FuncId} {tmps : Array Value} {x y : Code} (hr : (o.semAt b.roundOf a.eval).run P w = .ok (.round l f tmps x y) w') :
    step P (lone (b.atR a (.inRegion ops (i :: rest) :: k)) cs w) = .next (lone (Frame.round l f tmps x y .normal) (b.atR a (.inRegion ops (i :: rest) :: k) :: cs) w') := by
  refine step_lone_go ?_
  rw [stepGR_op ho hw]; simp [stepG.apply, hr]
theorem st_panic (ho : ops[i]? = some o) (hw : Region.wanted o (yielded ops a.tmps) = true) {v : Value} (hr : (o.semAt b.roundOf a.eval).run P w = .halt (.panic v) w') :
    step P (lone (b.atR a (.inRegion ops (i :: rest) :: k)) cs w) = .next (lone (atM b a (.inRegion ops (i :: rest) :: k) (.panicking [{ v, recovered := false }])) cs w') := by
  refine step_lone_go ?_
  rw [stepGR_op ho hw]; simp [stepG.apply, hr, Frame.raise, Frame.atR, atM]
theorem st_recover (hb : b.roundOf = none) (ho : ops[i]? = some o) (hw : Region.wanted o (yielded ops a.tmps) = true) (hr : (o.semAt b.roundOf a.eval).run P w = .ok .recover w') :
    step P (lone (b.atR a (.inRegion ops (i :: rest) :: k)) cs w) = .next (match tryRecover (b.atR a (.inRegion ops (i :: rest) :: k)) cs with
      | some (v, cs') => lone (b.atR (a.put o.dst v) (.inRegion ops rest :: k)) cs' w'
      | none => lone (b.atR (a.put o.dst .nilIface) (.inRegion ops rest :: k)) cs w') := by
  have hg := stepGR_op (P := P) (b := b) (k := k) (cs := cs) (w := w) (rest := rest) ho hw
  rw [hb] at hr hg
  cases ht : tryRecover (b.atR a (.inRegion ops (i :: rest) :: k)) cs with
  | none =>
    refine step_lone_go ?_
    rw [hg, ← fin_atR ho]
    simp only [Frame.atR, hb] at ht ⊢
    simp [stepG.apply, hr, ht]
  | some p =>
    obtain ⟨v, cs'⟩ := p
    refine step_lone_go ?_
    rw [hg, ← fin_atR ho]
    simp only [Frame.atR, hb] at ht ⊢
    simp [stepG.apply, hr, ht]

/-- A call has come back. -/
theorem st_back {fr' : Frame} {c : Frame} {fn : Func} {v : Value} (hm : fr'.mode = .returning) (hd : fr'.defers = []) (hk : fr'.kind = .normal) (hf : P.funcs[fr'.fn]? = some fn) (hr : (results fn fr'.tmps).run P w = .ok v w) :
    step P (lone fr' (c :: cs) w) = .next (lone (c.finish v) cs w) :=
  step_lone_go (by simp [stepG, unwind, doReturn, hm, hd, hk, hf, hr])
theorem st_raise {fr' : Frame} {c : Frame} {ch : List PanicEntry} (hm : fr'.mode = .panicking ch) (hd : fr'.defers = []) (hf : (P.funcs[fr'.fn]?).isSome = true) :
    step P (lone fr' (c :: cs) w) = .next (lone (c.raise ch) cs w) := by
  obtain ⟨fn, hf⟩ := Option.isSome_iff_exists.1 hf
  exact step_lone_go (by simp [stepG, unwind, Frame.catches, hm, hd, hf])
end steps

theorem TmR.put {ι : Iota} {nt : Nat} {T : Tr Value} {tmps : Array Value} (h : TmR ι nt T tmps) {d : Tmp} (hd : d < nt) {v u : Value} (hv : VR ι v u) : TmR ι nt (T.set d v) (tmps.setIfInBounds d u) := by
  refine ⟨by simp [h.1], fun t x hx => ?_⟩
  by_cases e : t = d
  · subst e
    rw [Tr.get_set_same] at hx
    simp at hx; subst hx
    exact ⟨u, by rw [Array.getElem?_setIfInBounds_self_of_lt (by rw [h.1]; exact hd)], hv⟩
  · rw [Tr.get_set_ne _ _ e] at hx
    obtain ⟨y, h1, h2⟩ := h.2 t x hx
    exact ⟨y, by rw [Array.getElem?_setIfInBounds_ne (Ne.symm e)]; exact h1, h2⟩

theorem UpTo.refl {ι : Iota} {dk : Bool} {up : FrameMode} {cs : List Frame} (h : UpR ι dk up cs) : UpTo ι dk up cs cs := by
  cases dk with
  | false => rfl
  | true =>
    obtain ⟨c, rest, rfl, hm⟩ := h rfl
    exact ⟨c, rest, c.mode, rfl, rfl, hm⟩
theorem UpR.mono {ι κ : Iota} {dk : Bool} {up : FrameMode} {cs : List Frame} (h : UpR ι dk up cs) (e : Ext ι κ) : UpR κ dk up cs := fun hd =>
  let ⟨c, rest, h1, h2⟩ := h hd; ⟨c, rest, h1, h2.mono e⟩
theorem UpTo.mono {ι κ : Iota} {dk : Bool} {up : FrameMode} {cs cs' : List Frame} (h : UpTo ι dk up cs cs') (e : Ext ι κ) : UpTo κ dk up cs cs' := by
  cases dk with
  | false => exact h
  | true => obtain ⟨c, rest, m, h1, h2, h3⟩ := h; exact ⟨c, rest, m, h1, h2, h3.mono e⟩
theorem UpTo.upR {ι : Iota} {dk : Bool} {up : FrameMode} {cs cs' : List Frame} (h : UpTo ι dk up cs cs') : UpR ι dk up cs' := by
  intro hd
  subst hd
  obtain ⟨c, rest, m, h1, h2, h3⟩ := h
  exact ⟨{ c with mode := m }, rest, h2, h3⟩
theorem UpTo.trans {ι κ : Iota} {dk : Bool} {up up' : FrameMode} {cs cs' cs2 : List Frame} (h : UpTo ι dk up cs cs') (g : UpTo κ dk up' cs' cs2) : UpTo κ dk up' cs cs2 := by
  cases dk with
  | false => simp only [UpTo] at h g ⊢; rw [g, h]
  | true =>
    obtain ⟨c, rest, m, h1, h2, h3⟩ := h
    obtain ⟨c', rest', m', g1, g2, g3⟩ := g
    rw [h2] at g1
    simp only [List.cons.injEq] at g1
    obtain ⟨rfl, rfl⟩ := g1
    exact ⟨c, rest, m', h1, g2, g3⟩

/-- What an operation's end says of the machine. -/
def OpEnd (P : Program) (w0 : World) (ι : Iota) (dk : Bool) (M : Tr Blk) (nx : Nat) (b : Frame) (a : Act) (ops : Array Oper) (i : Nat) (rest : List Nat) (k : List Item) (cs : List Frame) (w : World) (dst : Option Tmp) : OpR → Prop
  | .ok v ds' up' M' nx' => FreshU ι nx → ∃ κ u w' defs' cs', Post w0 ι M nx w κ M' nx' w' ∧ VR κ v u ∧ DRL κ ds' defs' ∧ UpTo κ dk up' cs cs' ∧
      Steps P (lone (b.atR a (.inRegion ops (i :: rest) :: k)) cs w) (lone (b.atR (({ a with defers := defs' } : Act).put dst u) (.inRegion ops rest :: k)) cs' w')
  | .pan ch up' M' nx' => FreshU ι nx → ∃ κ w' ch', Post w0 ι M nx w κ M' nx' w' ∧ PRL κ ch ch' ∧ UpTo κ dk up' cs cs ∧
      Steps P (lone (b.atR a (.inRegion ops (i :: rest) :: k)) cs w) (lone (atM b a (.inRegion ops (i :: rest) :: k) (.panicking ch')) cs w')

theorem putPs_rel {ι : Iota} {nt : Nat} : ∀ {ps : List Tmp} {vs us : List Value} {T T' : Tr Value} {tmps : Array Value}, putPs ps vs nt T = some T' → VRL ι vs us → TmR ι nt T tmps →
    ps.length = us.length ∧ TmR ι nt T' ((ps.zip us).foldl (fun tmps (t, a) => tmps.setIfInBounds t a) tmps)
  | [], _, _, T, T', tmps, h, .nil, ht => by simp [putPs] at h; subst h; exact ⟨rfl, ht⟩
  | p :: ps, _, _, T, T', tmps, h, .cons hv t, ht => by
    simp only [putPs] at h
    cases hb : Nat.blt p nt with
    | false => rw [hb] at h; simp at h
    | true =>
      rw [hb] at h; simp only [cond_true] at h
      rw [Nat.blt_eq] at hb
      obtain ⟨h1, h2⟩ := putPs_rel h t (ht.put hb hv)
      exact ⟨by simp [h1], h2⟩
  | [], _, _, T, T', tmps, h, .cons hv t, ht => by simp [putPs] at h
  | p :: ps, _, _, T, T', tmps, h, .nil, ht => by simp [putPs] at h

theorem vop_sound {call : Fr → Option Res} {P : Program} {X : Exts} {w0 : World} {G : Nat} (hX : XOk P G w0 X) (hF : FOk P) (hcall : ∀ fr r, call fr = some r → Sound P G w0 fr r) {ι : Iota} (hG : GOk G ι) {dk : Bool} {rnd : Option Nat} {nt : Nat} {T : Tr Value}
    {ds : List Deferred} {up : FrameMode} {M : Tr Blk} {nx : Nat} {o : Oper} {r : OpR} (he : vop call P X G dk rnd T ds up M nx o.op = some r) {b : Frame} {a : Act} {ops : Array Oper} {i : Nat} {rest : List Nat} {k : List Item} {cs : List Frame} {w : World}
    (h : R w0 ι M w) (ht : TmR ι nt T a.tmps) (hd : DRL ι ds a.defers) (hk : b.kind = if dk then .deferred else .normal) (hr : RndR ι rnd b.roundOf) (hu : UpR ι dk up cs) (ho : ops[i]? = some o) (hw : Region.wanted o (yielded ops a.tmps) = true) :
    OpEnd P w0 ι dk M nx b a ops i rest k cs w o.dst r := by
  have hT : TR ι G T a.eval := TR.of hG ht.2
  have hsem : (∀ c, o.op ≠ .defer c) ∨ b.roundOf = none → o.semAt b.roundOf a.eval = execOp a.eval o := by
    rintro (hx | hx)
    · exact Oper.semAt_eq _ _ _ hx
    · rw [hx]; rfl
  unfold vop at he
  split at he
  · rename_i v M' nx' hq
    simp at he; subst he
    intro hf
    obtain ⟨κ, u, w', h1, h2, h3⟩ := run_aquiet h hT o (hf.to _) hq
    have hnd : ∀ c, o.op ≠ .defer c := by intro c hc; rw [hc] at hq; simp [aquiet, apure] at hq
    refine ⟨κ, u, w', a.defers, cs, h2, h3, hd.mono h2.ext, (UpTo.refl hu).mono h2.ext, .one ?_⟩
    have := st_value (k := k) (cs := cs) (rest := rest) ho hw (by rw [hsem (.inl hnd)]; exact h1)
    exact this
  · split at he
    · rename_i v M' nx' hq
      simp at he; subst he
      intro hf
      have hnd : ∀ c, o.op ≠ .defer c := by
        intro c hc; rw [hc] at hq; simp only [aeff] at hq
        repeat' (split at hq)
        all_goals (first | (simp at hq; done) | (cases hp : plainFn _ <;> rw [hp] at hq <;> simp at hq))
      obtain ⟨κ, w', h2, u, h3, h4⟩ := run_aeff hX hF h hT o hq (hf.to _)
      refine ⟨κ, u, w', a.defers, cs, h2, h3, hd.mono h2.ext, (UpTo.refl hu).mono h2.ext, .one ?_⟩
      rcases h4 with h4 | ⟨h4, rfl⟩
      · exact st_value ho hw (by rw [hsem (.inl hnd)]; exact h4)
      · exact st_skip ho hw (by rw [hsem (.inl hnd)]; exact h4)
    · -- a call
      rename_i f as hq
      obtain ⟨bs, hbs, hrun⟩ := run_aeff hX hF h hT o hq
      have hnd : ∀ c, o.op ≠ .defer c := by
        intro c hc; rw [hc] at hq; simp only [aeff] at hq
        repeat' (split at hq)
        all_goals (first | (simp at hq; done) | (cases hp : plainFn _ <;> rw [hp] at hq <;> simp at hq))
      have ret : ∀ fr v up' M' nx', enterFr P f as false .run M nx = some fr → Sound P G w0 fr (.ret v up' M' nx') → OpEnd P w0 ι dk M nx b a ops i rest k cs w o.dst (.ok v ds up M' nx') := by
        intro fr v up' M' nx' hfr hsound
        have hex : ∃ fn, P.funcs[f]? = some fn ∧ fn.body.isSome = true := by
          unfold enterFr at hfr
          split at hfr
          · rename_i fn hfn
            split at hfr
            · rename_i c hc; exact ⟨fn, hfn, by rw [hc]; rfl⟩
            · cases hfr
          · cases hfr
        have hrun := hrun hex
        obtain ⟨b', a', e1, e2, e3, e4, e5, e6, e7⟩ := enterFr_rel (ι := ι) (cs := b.atR a (.inRegion ops (i :: rest) :: k) :: cs) hfr hbs (fun x => by cases x)
        simp only [Bool.false_eq_true, if_false] at e1
        have henter := st_enter (k := k) (cs := cs) (rest := rest) ho hw (by rw [hsem (.inl hnd)]; exact hrun)
        rw [e1] at henter
        have hbk : b'.kind = .normal := by have := e2.kind; rw [e5] at this; simpa using this
        intro hf
        obtain ⟨κ, w', p1, p2⟩ := hsound ι b' a' .run _ w (by rw [e3]; exact h) hG e2 (by rw [e4]; exact hf) (fun x => absurd e6 x)
        rw [e3, e4] at p1
        cases p2 with
        | ret hr0 hs ha hfn hres hv hcs =>
          rename_i u a2 todo2 fn cs'
          rw [e5] at hcs
          simp only [UpTo] at hcs
          subst hcs
          refine ⟨κ, u, w', a.defers, cs, p1, hv, hd.mono p1.ext, (UpTo.refl hu).mono p1.ext, .head henter (hs.trans (.one ?_))⟩
          have := st_back (c := b.atR a (.inRegion ops (i :: rest) :: k)) (cs := cs) (w := w') (fr' := atM b' a2 todo2 .returning) rfl ha hbk hfn hres
          rw [fin_atR ho] at this
          exact this
        | round hr0 => exact absurd e6 hr0
      split at he
      · rename_i e hpf
        split at he
        · rename_i v hev
          simp at he; subst he
          obtain ⟨fr, hfr, hsd⟩ := hX.2.2 f e as v hpf hev M nx
          exact ret fr v _ M nx hfr hsd
        · cases he
      split at he
      · rename_i v M' nx' hsm
        simp at he; subst he
        obtain ⟨fr, hfr, hsd⟩ := hX.2.1 _ _ _ _ _ _ _ hsm
        exact ret fr v _ M' nx' hfr hsd
      · split at he
        · rename_i fr hfr
          split at he
          · rename_i v up' M' nx' hc
            simp at he; subst he
            exact ret fr v up' M' nx' hfr (hcall fr _ hc)
          · rename_i ch up' M' nx' hc
            simp at he; subst he
            have hex : ∃ fn, P.funcs[f]? = some fn ∧ fn.body.isSome = true := by
              unfold enterFr at hfr
              split at hfr
              · rename_i fn hfn
                split at hfr
                · rename_i c hc; exact ⟨fn, hfn, by rw [hc]; rfl⟩
                · cases hfr
              · cases hfr
            have hrun := hrun hex
            obtain ⟨b', a', e1, e2, e3, e4, e5, e6, e7⟩ := enterFr_rel (ι := ι) (cs := b.atR a (.inRegion ops (i :: rest) :: k) :: cs) hfr hbs (fun x => by cases x)
            simp only [Bool.false_eq_true, if_false] at e1
            have henter := st_enter (k := k) (cs := cs) (rest := rest) ho hw (by rw [hsem (.inl hnd)]; exact hrun)
            rw [e1] at henter
            intro hf
            obtain ⟨κ, w', p1, p2⟩ := hcall fr _ hc ι b' a' .run _ w (by rw [e3]; exact h) hG e2 (by rw [e4]; exact hf) (fun x => absurd e6 x)
            rw [e3, e4] at p1
            cases p2 with
            | pan hs ha hfn hv hcs =>
              rename_i ys a2 todo2 cs'
              rw [e5] at hcs
              simp only [UpTo] at hcs
              subst hcs
              refine ⟨κ, w', ys, p1, hv, (UpTo.refl hu).mono p1.ext, .head henter (hs.trans (.one ?_))⟩
              exact st_raise (c := b.atR a (.inRegion ops (i :: rest) :: k)) (fr' := atM b' a2 todo2 (.panicking ys)) rfl ha hfn
          · cases he
        · cases he
    · -- a round of a loop over a function
      rename_i l as hq
      split at he
      · rename_i al hm
        split at he
        · rename_i fr hfr
          obtain ⟨d, bs, hι, hdg, hbs, hrun⟩ := run_aeff hX hF h hT o hq
          have hnd : ∀ c, o.op ≠ .defer c := by
            intro c hc; rw [hc] at hq; simp only [aeff] at hq
            repeat' (split at hq)
            all_goals (first | (simp at hq; done) | (cases hp : plainFn _ <;> rw [hp] at hq <;> simp at hq))
          obtain ⟨ob, q1, q2⟩ := h.live l _ d hm hι
          cases q2 with
          | loop hg' hdd hddg hpp htt =>
            rename_i dd tmps0 params0
            unfold roundFr at hfr
            split at hfr
            · rename_i T2 hT2
              simp at hfr
              obtain ⟨hlen, htm⟩ := putPs_rel hT2 hbs htt
              have hyield : (Instr.yield d.blk bs).run P w = .ok (.round d.blk al.fn ((params0.zip bs).foldl (fun tmps (t, a) => tmps.setIfInBounds t a) tmps0) al.assign al.body) w := by
                have hsz : bs.size = params0.size := by
                  have := hlen; rw [← hpp] at this; simpa using this.symm
                simp [Instr.yield, Instr.getLoop, getObj, Sem.run, q1, hsz]
              rw [hyield] at hrun
              have henter := st_round (k := k) (cs := cs) (rest := rest) ho hw (by rw [hsem (.inl hnd)]; exact hrun)
              let b' : Frame := { (default : Frame) with fn := al.fn, kind := .normal, roundOf := some d.blk }
              let a' : Act := { tmps := (params0.zip bs).foldl (fun tmps (t, a) => tmps.setIfInBounds t a) tmps0, defers := [] }
              have e1 : Frame.round d.blk al.fn ((params0.zip bs).foldl (fun tmps (t, a) => tmps.setIfInBounds t a) tmps0) al.assign al.body .normal = atM b' a' fr.todo .run := by
                rw [← hfr]; rfl
              rw [e1] at henter
              have e2 : FrR P ι fr b' a' .run (b.atR a (.inRegion ops (i :: rest) :: k) :: cs) := by
                rw [← hfr]
                refine ⟨rfl, ?_, .nil, .run, rfl, ⟨d, hι, hdg, rfl⟩, fun x => by cases x⟩
                show TmR ι al.nt T2 ((params0.zip bs).foldl (fun tmps (t, a) => tmps.setIfInBounds t a) tmps0)
                rw [← Array.foldl_toList, Array.toList_zip, hpp]
                exact htm
              have e3 : fr.M = M := by rw [← hfr]
              have e4 : fr.nx = nx := by rw [← hfr]
              have e5 : fr.dk = false := by rw [← hfr]
              have e6 : fr.rnd ≠ none := by rw [← hfr]; simp
              split at he
              · rename_i v up' M' nx' hc
                simp at he; subst he
                intro hf
                obtain ⟨κ, w', p1, p2⟩ := hcall fr _ hc ι b' a' .run _ w (by rw [e3]; exact h) hG e2 (by rw [e4]; exact hf) (fun _ => ⟨e5, by simp⟩)
                rw [e3, e4] at p1
                cases p2 with
                | ret hr0 => exact absurd hr0 e6
                | round hr0 hs hv =>
                  rename_i u
                  have hs := hs _ _ rfl
                  rw [fin_atR ho] at hs
                  exact ⟨κ, u, w', a.defers, cs, p1, hv, hd.mono p1.ext, (UpTo.refl hu).mono p1.ext, .head henter hs⟩
              · rename_i ch up' M' nx' hc
                simp at he; subst he
                intro hf
                obtain ⟨κ, w', p1, p2⟩ := hcall fr _ hc ι b' a' .run _ w (by rw [e3]; exact h) hG e2 (by rw [e4]; exact hf) (fun _ => ⟨e5, by simp⟩)
                rw [e3, e4] at p1
                cases p2 with
                | pan hs ha hfn hv hcs =>
                  rename_i ys a2 todo2 cs'
                  rw [e5] at hcs
                  simp only [UpTo] at hcs
                  subst hcs
                  refine ⟨κ, w', ys, p1, hv, (UpTo.refl hu).mono p1.ext, .head henter (hs.trans (.one ?_))⟩
                  exact st_raise (c := b.atR a (.inRegion ops (i :: rest) :: k)) (fr' := atM b' a2 todo2 (.panicking ys)) rfl ha hfn
              · cases he
            · cases hfr
        · cases he
      · cases he
    · -- recover
      rename_i hq
      have hrun := run_aeff hX hF h hT o hq
      have hnd : ∀ c, o.op ≠ .defer c := by
        intro c hc; rw [hc] at hq; simp only [aeff] at hq
        repeat' (split at hq)
        all_goals (first | (simp at hq; done) | (cases hp : plainFn _ <;> rw [hp] at hq <;> simp at hq))
      have key : rnd = none → ∀ (r' : Option (Value × List Frame)), tryRecover (b.atR a (.inRegion ops (i :: rest) :: k)) cs = r' → Steps P (lone (b.atR a (.inRegion ops (i :: rest) :: k)) cs w) (match r' with
          | some (v, cs') => lone (b.atR (a.put o.dst v) (.inRegion ops rest :: k)) cs' w
          | none => lone (b.atR (a.put o.dst .nilIface) (.inRegion ops rest :: k)) cs w) := by
        intro hrn r' hr'
        have hb : b.roundOf = none := by
          rw [hrn] at hr
          cases hbr : b.roundOf with
          | none => rfl
          | some x => rw [hbr] at hr; exact hr.elim
        have := st_recover (k := k) (cs := cs) (rest := rest) hb ho hw (by rw [hsem (.inl hnd)]; exact hrun)
        rw [hr'] at this
        exact .one this
      have hkind : (b.atR a (.inRegion ops (i :: rest) :: k)).kind = b.kind := rfl
      split at he
      · rename_i v older
        simp at he; subst he
        intro hf
        obtain ⟨c0, rest0, rfl, hm⟩ := hu rfl
        have hm0 := hm
        generalize hcm : c0.mode = m at hm
        cases hm with
        | panicking hp =>
          cases hp with
          | cons hv t =>
            rename_i u ys
            have hk' : b.kind = .deferred := by simpa using hk
            have ht' : tryRecover (b.atR a (.inRegion ops (i :: rest) :: k)) (c0 :: rest0) = some (u, { c0 with mode := .panicking ({ v := u, recovered := true } :: ys) } :: rest0) := by
              simp [tryRecover, hkind, hk', hcm]
            refine ⟨ι, u, w, a.defers, _, Post.refl h, hv, hd, ⟨c0, rest0, _, rfl, rfl, .panicking (.cons hv t)⟩, ?_⟩
            exact key rfl _ ht'
      · rename_i hno
        simp at he; subst he
        intro hf
        obtain ⟨c0, rest0, rfl, hm⟩ := hu rfl
        have hk' : b.kind = .deferred := by simpa using hk
        have ht' : tryRecover (b.atR a (.inRegion ops (i :: rest) :: k)) (c0 :: rest0) = none := by
          have hm0 := hm
          generalize hcm : c0.mode = m at hm
          cases hm with
          | run => simp [tryRecover, hkind, hk', hcm]
          | returning => simp [tryRecover, hkind, hk', hcm]
          | panicking hp =>
            cases hp with
            | nil => simp [tryRecover, hkind, hk', hcm]
            | cons hv t =>
              rename_i v u rr xs ys
              cases rr with
              | true => simp [tryRecover, hkind, hk', hcm]
              | false => exact (hno v xs rfl).elim
        refine ⟨ι, .nilIface, w, a.defers, _, Post.refl h, .nilIface, hd, UpTo.refl hu, ?_⟩
        exact key rfl _ ht'
      · simp at he; subst he
        intro hf
        have hk' : b.kind = .normal := by simpa using hk
        have ht' : tryRecover (b.atR a (.inRegion ops (i :: rest) :: k)) cs = none := by
          unfold tryRecover
          rw [hkind, hk']
        refine ⟨ι, .nilIface, w, a.defers, _, Post.refl h, .nilIface, hd, UpTo.refl hu, ?_⟩
        exact key rfl _ ht'
      · cases he
    · -- defer
      rename_i d hq
      obtain ⟨d', h1, h2⟩ := run_aeff hX hF h hT o hq
      split at he
      · simp at he; subst he
        intro hf
        have hb : b.roundOf = none := by
          cases hbr : b.roundOf with
          | none => rfl
          | some x => rw [hbr] at hr; exact hr.elim
        refine ⟨ι, undef, w, d' :: a.defers, cs, Post.refl h, undef_self, .cons h1 hd, UpTo.refl hu, .one ?_⟩
        exact st_defer ho hw (by rw [hsem (.inr hb)]; exact h2)
      · cases he
    · -- panic
      rename_i v hq
      obtain ⟨u, h1, h2⟩ := run_aeff hX hF h hT o hq
      simp at he; subst he
      intro hf
      have hnd : ∀ c, o.op ≠ .defer c := by
        intro c hc; rw [hc] at hq; simp only [aeff] at hq
        repeat' (split at hq)
        all_goals (first | (simp at hq; done) | (cases hp : plainFn _ <;> rw [hp] at hq <;> simp at hq))
      refine ⟨ι, w, [{ v := u, recovered := false }], Post.refl h, .cons h1 .nil, UpTo.refl hu, .one ?_⟩
      exact st_panic ho hw (by rw [hsem (.inl hnd)]; exact h2)
    · cases he
end Go.Proofs.YtihloomkgpflmaaGreatDoor.Vm
