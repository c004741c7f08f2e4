/-
  THE ABSTRACT INTERPRETER, part O: regions, frames, runs: the definitions.
  THE ABSTRACT INTERPRETER, part P: a region in the order of the text; the ways of a frame on.
  THE ABSTRACT INTERPRETER, part Q: frames that unwind, leave, range over functions.
  THE ABSTRACT INTERPRETER, part R: leaving, ranges over functions, one turn of a frame.
-/
import Derived.Test.YtihloomkgpflmaaGreatDoorV5
import Derived.Orders
import Derived.RangeFuncLeaves
import Derived.Defers
import Derived.RangeFuncRecord
set_option linter.unusedSimpArgs false
set_option linter.unusedVariables false
namespace Go.Proofs.YtihloomkgpflmaaGreatDoor.Vm

/-- Numbers are reckoned out before they are put away. -/
def forced {β : Type} (v : Value) (k : β) : β := match v with
  | .int _ (.ofNat m) => bif Nat.beq m 0 then k else k
  | _ => k
theorem forced_eq {β : Type} (v : Value) (k : β) : forced v k = k := by
  unfold forced
  split
  · cases Nat.beq _ 0 <;> rfl
  · rfl

noncomputable def putT (nt : Nat) (T : Tr Value) (dst : Option Tmp) (v : Value) : Option (Tr Value) := match dst with
  | none => some T
  | some d => bif Nat.blt d nt then forced v (some (T.set d v)) else none

/-- Is an operation carried out, by its guard? -/
noncomputable def wantedA (ops : Array Oper) (o : Oper) (T : Tr Value) : Option Bool := match o.guard with
  | none => some true
  | some (j, want) => (match (ops[j]?).bind (·.dst) with
    | some d => (match T.get d with
      | some (.bool b) => some (b == want)
      | some _ => some false
      | none => none)
    | none => none)

inductive RR where
  | ok (T : Tr Value) (ds : List Deferred) (up : FrameMode) (M : Tr Blk) (nx : Nat)
  | pan (chain : List PanicEntry) (T : Tr Value) (ds : List Deferred) (up : FrameMode) (M : Tr Blk) (nx : Nat)

/-- A region in the order of the text. -/
noncomputable def vops (call : Fr → Option Res) (P : Program) (X : Exts) (G : Nat) (dk : Bool) (rnd : Option Nat) (nt : Nat) (ops : Array Oper) (l : List Oper) : Tr Value → List Deferred → FrameMode → Tr Blk → Nat → Option RR :=
  List.rec (motive := fun _ => Tr Value → List Deferred → FrameMode → Tr Blk → Nat → Option RR) (fun T ds up M nx => some (.ok T ds up M nx))
    (fun o _ ih T ds up M nx => match wantedA ops o T with
      | some true => (match vop call P X G dk rnd T ds up M nx o.op with
        | some (.ok v ds' up' M' nx') => (match putT nt T o.dst v with
          | some T' => ih T' ds' up' M' nx'
          | none => none)
        | some (.pan ch up' M' nx') => some (.pan ch T ds up' M' nx')
        | none => none)
      | some false => (match putT nt T o.dst undef with
        | some T' => ih T' ds up M nx
        | none => none)
      | none => none) l

/-! ### a region that draws its order -/
/-- 0: no memory; 1: reads; 2: makes a block; 3: else. -/
def opKind : Op → Nat
  | .load _ _ | .lookup _ _ _ _ => 1
  | .alloc _ | .box _ _ | .buildSlice _ _ _ | .makeSlice _ _ _ => 2
  | .move _ | .assign _ | .pick _ _ _ | .binOp _ _ _ _ _ | .unOp _ _ _ | .convert _ _ _ | .makeInterface _ _ | .makeFunc _ _ _ | .fieldAddr _ _ _ | .field _ _ _ | .indexAddr _ _ _ | .index _ _ _ | .extract _ _ | .build _ _
  | .slice _ _ _ _ none | .nilCheck _ | .typeAssert _ _ _ _ => 0
  | .call c => (match c.callee with
    | .builtin .len | .builtin .max | .builtin .min => 0
    | _ => 3)
  | _ => 3

structure PStep where
  i : Nat
  kind : Nat
  mask : Nat

/-- The operations that an operation waits for. -/
def directs (o : Oper) : List Nat := o.after.toList.filterMap fun e => bif Region.binds .any e then some e.on else none
def lst (acc : List PStep) (j : Nat) : Bool := acc.any fun p => Nat.beq p.i j
def maskAt : List PStep → Nat → Nat
  | [], _ => 0
  | p :: ps, e => bif Nat.beq p.i e then p.mask else maskAt ps e
def maskOf (acc : List PStep) : List Nat → Nat
  | [] => 0
  | e :: es => Nat.lor (Nat.lor (Nat.pow 2 e) (maskAt acc e)) (maskOf acc es)
def readyA (ops : Array Oper) (acc : List PStep) : List Nat := (List.range ops.size).filter fun j => !lst acc j && match ops[j]? with
  | some o => (directs o).all (lst acc)
  | none => false
def kindAt (ops : Array Oper) (j : Nat) : Nat := match ops[j]? with
  | some o => opKind o.op
  | none => 3
def mkStep (ops : Array Oper) (acc : List PStep) (j : Nat) : PStep := { i := j, kind := kindAt ops j, mask := match ops[j]? with
  | some o => maskOf acc (directs o)
  | none => 0 }
def planGo (ops : Array Oper) : Nat → List PStep → Option (List PStep)
  | 0, acc => some acc
  | f + 1, acc => match (readyA ops acc).find? (fun j => !Nat.beq (kindAt ops j) 3) with
    | some j => planGo ops f (mkStep ops acc j :: acc)
    | none => (match readyA ops acc with
      | j :: _ => planGo ops f (mkStep ops acc j :: acc)
      | [] => none)
/-- Is a listing (the newest first) one that the interpreter may go by? -/
def wfb (ops : Array Oper) : List PStep → Bool
  | [] => true
  | s :: acc => wfb ops acc && match ops[s.i]? with
    | none => false
    | some o => Nat.beq s.kind (opKind o.op) && !lst acc s.i && (directs o).all (lst acc) && Nat.beq s.mask (maskOf acc (directs o)) &&
      acc.all (fun p => Nat.testBit s.mask p.i || match ops[p.i]? with | some q => Oper.apart ops q o | none => false) &&
      (!Nat.beq s.kind 3 || (List.range ops.size).all (fun j => lst acc j || Nat.beq j s.i || match ops[j]? with
        | some q => (directs q).any (fun e => !lst acc e)
        | none => true))
def whole (ops : Array Oper) (acc : List PStep) : Bool := (List.range ops.size).all (lst acc)
/-- The order in which the interpreter goes through such a region: what changes nothing first. -/
def plan (ops : Array Oper) : Option (List PStep) := match planGo ops ops.size [] with
  | some acc => bif wfb ops acc && whole ops acc then some acc.reverse else none
  | none => none

/-- No two operations write one temporary. -/
def dstsApart : List Oper → Bool
  | [] => true
  | o :: rest => (match o.dst with
    | none => true
    | some d => rest.all (fun p => match p.dst with | none => true | some e => !Nat.beq d e)) && dstsApart rest

def veqAddr : Option Addr → Option Addr → Bool
  | none, none => true
  | some ⟨b, o, none⟩, some ⟨c, p, none⟩ => Nat.beq b c && Nat.beq o p
  | _, _ => false
def veqA (f : Value → Value → Bool) : List Value → List Value → Bool
  | [], [] => true
  | a :: as, b :: bs => f a b && veqA f as bs
  | _, _ => false
def veq : Nat → Value → Value → Bool
  | 0, _, _ => false
  | n + 1, v, u => match v, u with
    | .bool a, .bool b => a == b
    | .int k a, .int j b => decide (k = j) && eqI a b
    | .string a, .string b => a.data.toList == b.data.toList
    | .pointer a, .pointer b => veqAddr a b
    | .slice a i j, .slice b k l => veqAddr a b && Nat.beq i k && Nat.beq j l
    | .map none, .map none => true
    | .map (some a), .map (some b) => Nat.beq a b
    | .nilFunc, .nilFunc => true
    | .nilIface, .nilIface => true
    | .func f a b, .func g c d => decide (f = g) && veqA (veq n) a.toList c.toList && veqA (veq n) b.toList d.toList
    | .iface t a, .iface s b => Nat.beq t s && veq n a b
    | .agg a, .agg b => veqA (veq n) a.toList b.toList
    | .tuple a, .tuple b => veqA (veq n) a.toList b.toList
    | _, _ => false
def veqL (n : Nat) : List Value → List Value → Bool := veqA (veq n)

inductive Watch where
  | rd (i : Nat) (op : Op) (T : Tr Value) (v : Value)
  | new (i : Nat) (n : Nat) (vs : List Value)

/-- Is what was read, or made, still so? -/
noncomputable def watchOk (P : Program) (G : Nat) (mask : Nat) (M : Tr Blk) : Watch → Bool
  | .rd i op T v => Nat.testBit mask i || (match aquiet P G T M 0 op with
    | some (u, _, _) => veq 1000000 v u
    | none => false)
  | .new i n vs => Nat.testBit mask i || (match M.get n with
    | some (.cells false us) => veqL 1000000 vs us
    | _ => false)

noncomputable def restr (ts : List Tmp) (T : Tr Value) : Tr Value := match ts with
  | [] => .nil
  | t :: ts => match T.get t with
    | some v => (restr ts T).set t v
    | none => restr ts T

noncomputable def addWatch (kind i : Nat) (op : Op) (T : Tr Value) (v : Value) (M : Tr Blk) (nx : Nat) (ws : List Watch) : Option (List Watch) := match kind with
  | 0 => some ws
  | 1 => some (.rd i op T v :: ws)
  | _ => match M.get nx with
    | some (.cells false vs) => some (.new i nx vs :: ws)
    | _ => none

noncomputable def delDsts (T : Tr Value) : List Oper → Tr Value
  | [] => T
  | o :: rest => match o.dst with
    | none => delDsts T rest
    | some d => (delDsts T rest).del d

noncomputable def vdraw (call : Fr → Option Res) (P : Program) (X : Exts) (G : Nat) (dk : Bool) (rnd : Option Nat) (nt : Nat) (ops : Array Oper) (T0 : Tr Value) : List PStep → Tr Value → List Deferred → FrameMode → Tr Blk → Nat → List Watch → Nat → Option RR
  | [], T, ds, up, M, nx, ws, lm => bif ws.all (watchOk P G lm M) then some (.ok T ds up M nx) else none
  | s :: rest, T, ds, up, M, nx, ws, lm =>
    match ops[s.i]? with
    | none => none
    | some o => (match wantedA ops o T with
      | some false => (match putT nt T o.dst undef with
        | some T' => vdraw call P X G dk rnd nt ops T0 rest T' ds up M nx ws lm
        | none => none)
      | some true => (match Nat.beq s.kind 3 with
        | false => (match aquiet P G (restr (o.looksAt ops) T) M nx o.op with
          | some (v, M', nx') => (match putT nt T o.dst v, addWatch s.kind s.i o.op (restr (o.looksAt ops) T) v M' nx ws with
            | some T', some ws' => vdraw call P X G dk rnd nt ops T0 rest T' ds up M' nx' ws' lm
            | _, _ => none)
          | none => none)
        | true => (match ws.all (watchOk P G lm M) with
          | true => (match vop call P X G dk rnd (restr (o.looksAt ops) T) ds up M nx o.op with
            | some (.ok v ds' up' M' nx') => (match putT nt T o.dst v with
              | some T' => vdraw call P X G dk rnd nt ops T0 rest T' ds' up' M' nx' ws s.mask
              | none => none)
            | some (.pan ch up' M' nx') => some (.pan ch (delDsts T0 ops.toList) ds up' M' nx')
            | none => none)
          | false => none))
      | none => none)

/-! ### frames -/
inductive Stp where
  | cont (fr : Fr)
  | done (r : Res)
  | fail

noncomputable def leave (fr : Fr) (jump : Option Code) : Stp := match fr.rnd with
  | none => (match jump with
    | none => .cont { fr with mode := .returning }
    | some .ret => .cont { fr with mode := .returning }
    | _ => .fail)
  | some l => (match fr.M.get (l / 256) with
    | some (.loop al) => .done (.ret (.bool jump.isNone) fr.up (fr.M.set (l / 256) (.loop { al with st := if jump.isNone then .ready else .done, pending := jump })) fr.nx)
    | _ => .fail)

noncomputable def aResults (P : Program) (T : Tr Value) (M : Tr Blk) : List ResultVar → Option (List Value)
  | [] => some []
  | .tmp t :: rest => (match T.get t with
    | some v => (match aResults P T M rest with
      | some vs => some (v :: vs)
      | none => none)
    | none => none)
  | .cell a t :: rest => (match T.get a with
    | some p => (match aLoad P M t p with
      | some v => (match aResults P T M rest with
        | some vs => some (v :: vs)
        | none => none)
      | none => none)
    | none => none)

noncomputable def unwindA (call : Fr → Option Res) (P : Program) (fr : Fr) : Stp := match fr.ds with
  | { target := .collected r, args := _ } :: ds => (match fr.M.get (r / 256) with
    | some (.defs false) => .cont { fr with ds := ds, M := fr.M.set (r / 256) (.defs true) }
    | _ => .fail)
  | { target := .fn (.func f) cap, args } :: ds => (match enterFr P f (args.toList ++ cap.toList) true fr.mode fr.M fr.nx with
    | some g => (match call g with
      | some (.ret _ up' M' nx') => (match settle up' with
        | .run => .fail
        | m => .cont { fr with mode := m, ds := ds, M := M', nx := nx' })
      | some (.pan ch up' M' nx') => (match raised up' ch with
        | .run => .fail
        | m => .cont { fr with mode := m, ds := ds, M := M', nx := nx' })
      | none => .fail)
    | none => .fail)
  | _ :: _ => .fail
  | [] => (match fr.mode with
    | .returning => (match fr.rnd, P.funcs[fr.fn]? with
      | none, some fn => (match aResults P fr.T fr.M fn.results.toList with
        | some [v] => .done (.ret v fr.up fr.M fr.nx)
        | some vs => .done (.ret (.tuple vs.toArray) fr.up fr.M fr.nx)
        | none => .fail)
      | _, _ => .fail)
    | .panicking ch => (match P.funcs[fr.fn]? with
      | some _ => .done (.pan ch fr.up fr.M fr.nx)
      | none => .fail)
    | .run => .fail)

noncomputable def contRR (fr : Fr) (k : List Item) : Option RR → Stp
  | some (.ok T ds up M nx) => .cont { fr with T, ds, up, M, nx, todo := k }
  | some (.pan ch T ds up M nx) => .cont { fr with T, ds, up, M, nx, todo := [], mode := .panicking ch }
  | none => .fail

noncomputable def fstep (call : Fr → Option Res) (P : Program) (X : Exts) (G : Nat) (fr : Fr) : Stp := match fr.mode with
  | .run => (match fr.todo with
    | [] => leave fr none
    | .code c :: k => (match c with
      | .skip => .cont { fr with todo := k }
      | .label _ => .cont { fr with todo := k }
      | .seq a b => .cont { fr with todo := .code a :: .code b :: k }
      | .cond c x y => (match getv G fr.T c with
        | some (.bool true) => .cont { fr with todo := .code x :: k }
        | some (.bool false) => .cont { fr with todo := .code y :: k }
        | _ => .fail)
      | .block id body => .cont { fr with todo := .code body :: .inBlock id :: k }
      | .loop body => .cont { fr with todo := .code body :: .inLoop body :: k }
      | .scope body => .cont { fr with todo := .code body :: .inScope body :: k }
      | .exit id => (match exitTo id k with
        | some k' => .cont { fr with todo := k' }
        | none => leave fr (some (.exit id)))
      | .ret => leave fr (some .ret)
      | .region _ ops false => contRR fr k (vops call P X G fr.dk fr.rnd fr.nt ops ops.toList fr.T fr.ds fr.up fr.M fr.nx)
      | .region _ ops true => (match plan ops, dstsApart ops.toList with
        | some pl, true => contRR fr k (vdraw call P X G fr.dk fr.rnd fr.nt ops fr.T pl fr.T fr.ds fr.up fr.M fr.nx [] 0)
        | _, _ => .fail)
      | .rangeFunc f params assign body => (match fr.rnd, getv G fr.T f with
        | none, some (.func (.func g) first cap) =>
          (match enterFr P g (first.toList ++ [.func (.yield (256 * (fr.nx + 1))) #[] #[]] ++ cap.toList) false .run
            ((fr.M.set fr.nx (.defs false)).set (fr.nx + 1) (.loop { st := .ready, pending := none, fn := fr.fn, nt := fr.nt, T := fr.T, params := params.toList, assign, body, defers := 256 * fr.nx })) (fr.nx + 2) with
          | some g => (match call g with
            | some (.ret _ _ M' nx') => (match M'.get (fr.nx + 1) with
              | some (.loop al) => (match al.st with
                | .busy => .fail
                | _ => .cont { fr with todo := (al.pending.map Item.code).toList ++ k, ds := { target := .collected (256 * fr.nx), args := #[] } :: fr.ds, M := M'.set (fr.nx + 1) (.loop { al with st := .exhausted }), nx := nx' })
              | _ => .fail)
            | some (.pan ch _ M' nx') => .cont { fr with todo := [], mode := .panicking ch, ds := { target := .collected (256 * fr.nx), args := #[] } :: fr.ds, M := M', nx := nx' }
            | none => .fail)
          | none => .fail)
        | _, _ => .fail)
      | _ => .fail)
    | .inBlock _ :: k => .cont { fr with todo := k }
    | .inScope _ :: k => .cont { fr with todo := k }
    | .inLoop body :: k => .cont { fr with todo := .code body :: .inLoop body :: k }
    | .beginRound :: k => (match fr.rnd with
      | some l => (match fr.M.get (l / 256) with
        | some (.loop al) => (match al.st with
          | .ready => .cont { fr with todo := k, M := fr.M.set (l / 256) (.loop { al with st := .busy }) }
          | _ => .fail)
        | _ => .fail)
      | none => .fail)
    | _ => .fail)
  | _ => unwindA call P fr

noncomputable def vrun (P : Program) (X : Exts) (G : Nat) (n : Nat) : Fr → Option Res :=
  Nat.rec (motive := fun _ => Fr → Option Res) (fun _ => none) (fun _ ih fr => match fstep ih P X G fr with
    | .cont fr' => ih fr'
    | .done r => some r
    | .fail => none) n
end Go.Proofs.YtihloomkgpflmaaGreatDoor.Vm

namespace Go.Proofs.YtihloomkgpflmaaGreatDoor.Vm

theorem wanted_rel {ι : Iota} {nt : Nat} {T : Tr Value} {tmps : Array Value} (ht : TmR ι nt T tmps) {ops : Array Oper} {o : Oper} {x : Bool} (h : wantedA ops o T = some x) : Region.wanted o (yielded ops tmps) = x := by
  unfold wantedA at h
  unfold Region.wanted
  split at h
  · rename_i hg
    simp at h; subst h
    rw [hg]
  · rename_i j want hg
    rw [hg]
    simp only
    split at h
    · rename_i d hd
      split at h
      · rename_i y hy
        simp at h; subst h
        obtain ⟨u, h1, h2⟩ := ht.2 d _ hy
        cases h2
        simp only [yielded, hd, Option.bind_some, h1]
        rw [Bool.eq_iff_iff]; simp
      · rename_i v hno hy
        simp at h; subst h
        obtain ⟨u, h1, h2⟩ := ht.2 d _ hy
        have : yielded ops tmps j = none := by
          simp only [yielded, hd, Option.bind_some, h1]
          cases h2 <;> first | rfl | exact (hno _ rfl).elim
        rw [this]; rfl
      · cases h
    · cases h

theorem putT_rel {ι : Iota} {nt : Nat} {T T' : Tr Value} {a : Act} {dst : Option Tmp} {v u : Value} (h : putT nt T dst v = some T') (ht : TmR ι nt T a.tmps) (hv : VR ι v u) : TmR ι nt T' (a.put dst u).tmps := by
  unfold putT at h
  cases dst with
  | none => simp at h; subst h; exact ht
  | some d =>
    simp only at h
    cases hb : Nat.blt d nt with
    | false => rw [hb] at h; simp at h
    | true =>
      rw [hb] at h
      simp only [cond_true, forced_eq, Option.some.injEq] at h
      subst h
      rw [Nat.blt_eq] at hb
      exact ht.put hb hv
theorem put_defers (a : Act) (dst : Option Tmp) (u : Value) : (a.put dst u).defers = a.defers := by cases dst <;> rfl

/-- What a region's end says of the machine. -/
def RREnd (P : Program) (w0 : World) (ι : Iota) (dk : Bool) (nt : Nat) (M : Tr Blk) (nx : Nat) (b : Frame) (m : Machine) (k : List Item) (cs : List Frame) (w : World) : RR → Prop
  | .ok T' ds' up' M' nx' => ∃ κ a' cs' w', Post w0 ι M nx w κ M' nx' w' ∧ TmR κ nt T' a'.tmps ∧ DRL κ ds' a'.defers ∧ UpTo κ dk up' cs cs' ∧ Steps P m (lone (b.atR a' k) cs' w')
  | .pan ch T' ds' up' M' nx' => ∃ κ a' cs' w' ch' todo', Post w0 ι M nx w κ M' nx' w' ∧ TmR κ nt T' a'.tmps ∧ DRL κ ds' a'.defers ∧ UpTo κ dk up' cs cs' ∧ PRL κ ch ch' ∧ Steps P m (lone (atM b a' todo' (.panicking ch')) cs' w')

theorem RREnd.trans {P : Program} {w0 : World} {ι κ : Iota} {dk : Bool} {nt : Nat} {M M1 : Tr Blk} {nx nx1 : Nat} {b : Frame} {m m1 : Machine} {k : List Item} {cs cs1 : List Frame} {w w1 : World} {up1 : FrameMode} {r : RR}
    (hf : FreshU ι nx) (h : Post w0 ι M nx w κ M1 nx1 w1) (hc : UpTo κ dk up1 cs cs1) (hs : Steps P m m1) (g : RREnd P w0 κ dk nt M1 nx1 b m1 k cs1 w1 r) : RREnd P w0 ι dk nt M nx b m k cs w r := by
  cases r with
  | ok T' ds' up' M' nx' =>
    obtain ⟨μ, a', cs', w', h1, h2, h3, h4, h5⟩ := g
    exact ⟨μ, a', cs', w', h.trans (hf.to _) h1, h2, h3, UpTo.trans hc h4, hs.trans h5⟩
  | pan ch T' ds' up' M' nx' =>
    obtain ⟨μ, a', cs', w', ch', todo', h1, h2, h3, h4, h5, h6⟩ := g
    exact ⟨μ, a', cs', w', ch', todo', h.trans (hf.to _) h1, h2, h3, UpTo.trans hc h4, h5, hs.trans h6⟩

section
variable {call : Fr → Option Res} {P : Program} {X : Exts} {w0 : World} {G : Nat} {dk : Bool} {rnd : Option Nat} {nt : Nat} {ops : Array Oper}

theorem vops_cons (o : Oper) (l : List Oper) (T : Tr Value) (ds : List Deferred) (up : FrameMode) (M : Tr Blk) (nx : Nat) : vops call P X G dk rnd nt ops (o :: l) T ds up M nx = match wantedA ops o T with
      | some true => (match vop call P X G dk rnd T ds up M nx o.op with
        | some (.ok v ds' up' M' nx') => (match putT nt T o.dst v with
          | some T' => vops call P X G dk rnd nt ops l T' ds' up' M' nx'
          | none => none)
        | some (.pan ch up' M' nx') => some (.pan ch T ds up' M' nx')
        | none => none)
      | some false => (match putT nt T o.dst undef with
        | some T' => vops call P X G dk rnd nt ops l T' ds up M nx
        | none => none)
      | none => none := rfl

theorem vops_sound (hX : XOk P G w0 X) (hF : FOk P) (hcall : ∀ fr r, call fr = some r → Sound P G w0 fr r) {b : Frame} (hk : b.kind = if dk then .deferred else .normal) {k : List Item} :
    ∀ (l : List Oper) (s : Nat), ops.toList.drop s = l → ∀ {T : Tr Value} {ds : List Deferred} {up : FrameMode} {M : Tr Blk} {nx : Nat} {rr : RR}, vops call P X G dk rnd nt ops l T ds up M nx = some rr →
      ∀ {ι : Iota} {a : Act} {cs : List Frame} {w : World}, R w0 ι M w → GOk G ι → TmR ι nt T a.tmps → DRL ι ds a.defers → RndR ι rnd b.roundOf → UpR ι dk up cs → FreshU ι nx →
      RREnd P w0 ι dk nt M nx b (lone (b.atR a (.inRegion ops (List.range' s l.length) :: k)) cs w) k cs w rr
  | [], s, _, T, ds, up, M, nx, rr, he, ι, a, cs, w, h, hG, ht, hd, hr, hu, hf => by
    have : rr = .ok T ds up M nx := by
      have : some (RR.ok T ds up M nx) = some rr := he
      simpa using this.symm
    subst this
    exact ⟨ι, a, cs, w, Post.refl h, ht, hd, UpTo.refl hu, .one stepR_region_end⟩
  | o :: l, s, hl, T, ds, up, M, nx, rr, he, ι, a, cs, w, h, hG, ht, hd, hr, hu, hf => by
    have hdrop : ops.toList.drop (s + 1) = l := by
      have := congrArg List.tail hl
      simpa [List.tail_drop] using this
    have ho : ops[s]? = some o := by
      have := congrArg List.head? hl
      simpa [List.head?_drop] using this
    have hrange : List.range' s (o :: l).length = s :: List.range' (s + 1) l.length := by simp [List.range'_succ]
    rw [hrange]
    rw [vops_cons] at he
    split at he
    · rename_i hwa
      have hw := wanted_rel ht hwa
      split at he
      · rename_i v ds' up' M' nx' hop
        split at he
        · rename_i T' hT'
          obtain ⟨κ, u, w', defs', cs', p1, p2, p3, p4, p5⟩ := vop_sound hX hF hcall hG hop h ht hd hk hr hu ho hw (k := k) (rest := List.range' (s + 1) l.length) hf
          refine RREnd.trans hf p1 p4 p5 ?_
          have ih := vops_sound hX hF hcall hk (k := k) l (s + 1) hdrop he (ι := κ) (a := ({ a with defers := defs' } : Act).put o.dst u) (cs := cs') p1.rel (fun g hg => p1.ext _ _ (hG g hg))
            (putT_rel (a := { a with defers := defs' }) hT' (ht.mono p1.ext) p2) (by rw [put_defers]; exact p3) (hr.mono p1.ext) p4.upR (p1.freshU hf)
          exact ih
        · cases he
      · rename_i ch up' M' nx' hop
        simp at he; subst he
        obtain ⟨κ, w', ch', p1, p2, p3, p4⟩ := vop_sound hX hF hcall hG hop h ht hd hk hr hu ho hw (k := k) (rest := List.range' (s + 1) l.length) hf
        exact ⟨κ, a, cs, w', ch', _, p1, ht.mono p1.ext, hd.mono p1.ext, p3, p2, p4⟩
      · cases he
    · rename_i hwa
      have hw := wanted_rel ht hwa
      split at he
      · rename_i T' hT'
        have hstep := stepR_op_skip (P := P) (b := b) (a := a) (k := k) (cs := cs) (w := w) (ops := ops) (i := s) (rest := List.range' (s + 1) l.length) (by simp [ho, hw])
        have e : (ops[s]?).bind (·.dst) = o.dst := by rw [ho]; rfl
        rw [e] at hstep
        refine RREnd.trans hf (Post.refl h) (UpTo.refl hu) (.one hstep) ?_
        exact vops_sound hX hF hcall hk l (s + 1) hdrop he h hG (putT_rel hT' ht undef_self) (by rw [put_defers]; exact hd) hr hu hf
      · cases he
    · cases he
end

/-! ### a frame goes on -/
structure St (P : Program) (G : Nat) (w0 : World) (fr : Fr) (ι : Iota) (b : Frame) (a : Act) (mode : FrameMode) (cs : List Frame) (w : World) (todo : List Item) : Prop where
  rel : R w0 ι fr.M w
  gok : GOk G ι
  fm : FrR P ι fr b a mode cs
  fresh : FreshU ι fr.nx
  rc : fr.rnd ≠ none → fr.dk = false ∧ cs ≠ []
  td : fr.mode = .run → todo = fr.todo

def SoundT (P : Program) (G : Nat) (w0 : World) (fr : Fr) (r : Res) : Prop :=
  ∀ (ι : Iota) (b : Frame) (a : Act) (mode : FrameMode) (cs : List Frame) (w : World) (todo : List Item), St P G w0 fr ι b a mode cs w todo →
    ∃ κ w', Post w0 ι fr.M fr.nx w κ r.M r.nx w' ∧ Fin P κ b fr.dk fr.rnd (lone (atM b a todo mode) cs w) cs w' r

theorem SoundT.sound {P : Program} {G : Nat} {w0 : World} {fr : Fr} {r : Res} (h : SoundT P G w0 fr r) : Sound P G w0 fr r :=
  fun ι b a mode cs w h1 h2 h3 h4 h5 => h ι b a mode cs w fr.todo ⟨h1, h2, h3, h4, h5, fun _ => rfl⟩

def Prog (P : Program) (G : Nat) (w0 : World) (fr fr' : Fr) : Prop := fr'.dk = fr.dk ∧ fr'.rnd = fr.rnd ∧
  ∀ (ι : Iota) (b : Frame) (a : Act) (mode : FrameMode) (cs : List Frame) (w : World) (todo : List Item), St P G w0 fr ι b a mode cs w todo →
    ∃ κ a' mode' cs' w' todo', Post w0 ι fr.M fr.nx w κ fr'.M fr'.nx w' ∧ FrR P κ fr' b a' mode' cs' ∧ UpTo κ fr.dk fr'.up cs cs' ∧ (fr'.mode = .run → todo' = fr'.todo) ∧
      Steps P (lone (atM b a todo mode) cs w) (lone (atM b a' todo' mode') cs' w')

theorem Prog.sound {P : Program} {G : Nat} {w0 : World} {fr fr' : Fr} {r : Res} (h : Prog P G w0 fr fr') (g : SoundT P G w0 fr' r) : SoundT P G w0 fr r := by
  obtain ⟨hd, hr, h⟩ := h
  intro ι b a mode cs w todo st
  obtain ⟨κ, a', mode', cs', w', todo', p1, p2, p3, p4, p5⟩ := h ι b a mode cs w todo st
  have hcs : cs ≠ [] → cs' ≠ [] := by
    intro hc
    cases hdk : fr.dk with
    | false => rw [hdk] at p3; simp only [UpTo] at p3; rw [p3]; exact hc
    | true =>
      rw [hdk] at p3
      obtain ⟨c, rest, m, h1, h2, h3⟩ := p3
      rw [h2]; simp
  obtain ⟨μ, w2, q1, q2⟩ := g κ b a' mode' cs' w' todo' ⟨p1.rel, fun g hg => p1.ext _ _ (st.gok g hg), p2, p1.freshU st.fresh, fun hx => by rw [hr] at hx; rw [hd]; exact ⟨(st.rc hx).1, hcs (st.rc hx).2⟩, p4⟩
  refine ⟨μ, w2, p1.trans (st.fresh.to _) q1, ?_⟩
  rw [hd, hr] at q2
  cases q2 with
  | ret hr0 hs ha hfn hres hv hcs2 => exact .ret hr0 (p5.trans hs) ha hfn hres hv (UpTo.trans p3 hcs2)
  | round hr0 hs hv =>
    refine .round hr0 (fun c rest hc => p5.trans (hs c rest ?_)) hv
    have := (st.rc hr0).1
    rw [this] at p3
    simp only [UpTo] at p3
    rw [p3, hc]
  | pan hs ha hfn hv hcs2 => exact .pan (p5.trans hs) ha hfn hv (UpTo.trans p3 hcs2)

/-- A step that turns nothing but what is to be done. -/
theorem Prog.ctl {P : Program} {G : Nat} {w0 : World} {fr : Fr} {k : List Item} (hm : fr.mode = .run)
    (h : ∀ (ι : Iota) (b : Frame) (a : Act) (cs : List Frame) (w : World), TR ι G fr.T a.eval → Steps P (lone (b.atR a fr.todo) cs w) (lone (b.atR a k) cs w)) : Prog P G w0 fr { fr with todo := k } := by
  refine ⟨rfl, rfl, fun ι b a mode cs w todo st => ?_⟩
  have hmode := st.fm.mode
  rw [hm] at hmode
  cases hmode
  have htd := st.td hm
  subst htd
  refine ⟨ι, a, .run, cs, w, k, Post.refl st.rel, ⟨st.fm.fn, st.fm.tm, st.fm.ds, st.fm.mode, st.fm.kind, st.fm.rnd, st.fm.up⟩, UpTo.refl st.fm.up, fun _ => rfl, ?_⟩
  exact h ι b a cs w (TR.of st.gok st.fm.tm.2)

/-- .. by a region. -/
theorem Prog.region {P : Program} {G : Nat} {w0 : World} {fr fr' : Fr} {k : List Item} {rr : Option RR} (hm : fr.mode = .run) (hk : contRR fr k rr = .cont fr')
    (h : ∀ (r : RR), rr = some r → ∀ (ι : Iota) (b : Frame) (a : Act) (cs : List Frame) (w : World), St P G w0 fr ι b a .run cs w fr.todo → RREnd P w0 ι fr.dk fr.nt fr.M fr.nx b (lone (b.atR a fr.todo) cs w) k cs w r) : Prog P G w0 fr fr' := by
  unfold contRR at hk
  split at hk
  · rename_i T ds up M nx
    simp at hk; subst hk
    refine ⟨rfl, rfl, fun ι b a mode cs w todo st => ?_⟩
    have hmode := st.fm.mode
    rw [hm] at hmode
    cases hmode
    have htd := st.td hm
    subst htd
    obtain ⟨κ, a', cs', w', p1, p2, p3, p4, p5⟩ := h _ rfl ι b a cs w st
    exact ⟨κ, a', .run, cs', w', k, p1, ⟨st.fm.fn, p2, p3, by show MR κ fr.mode .run; rw [hm]; exact .run, st.fm.kind, st.fm.rnd.mono p1.ext, p4.upR⟩, p4, fun _ => rfl, p5⟩
  · rename_i ch T ds up M nx
    simp at hk; subst hk
    refine ⟨rfl, rfl, fun ι b a mode cs w todo st => ?_⟩
    have hmode := st.fm.mode
    rw [hm] at hmode
    cases hmode
    have htd := st.td hm
    subst htd
    obtain ⟨κ, a', cs', w', ch', todo', p1, p2, p3, p4, p5, p6⟩ := h _ rfl ι b a cs w st
    exact ⟨κ, a', .panicking ch', cs', w', todo', p1, ⟨st.fm.fn, p2, p3, .panicking p5, st.fm.kind, st.fm.rnd.mono p1.ext, p4.upR⟩, p4, (fun hx => by cases hx), p6⟩
  · cases hk
end Go.Proofs.YtihloomkgpflmaaGreatDoor.Vm

namespace Go.Proofs.YtihloomkgpflmaaGreatDoor.Vm

theorem aResults_rel {P : Program} {w0 : World} {ι : Iota} {nt : Nat} {T : Tr Value} {tmps : Array Value} {M : Tr Blk} {w : World} (h : R w0 ι M w) (ht : TmR ι nt T tmps) : ∀ (l : List ResultVar) {vs : List Value}, aResults P T M l = some vs →
    ∃ us, (l.mapM (m := Sem) (fun | .tmp t => pure (tmps.getD t undef) | .cell a t => do loadVar t (← asAddr (tmps.getD a undef)))).run P w = .ok us w ∧ VRL ι vs us
  | [], vs, e => by
    simp [aResults] at e; subst e
    exact ⟨[], by simp, .nil⟩
  | .tmp t :: rest, vs, e => by
    simp only [aResults] at e
    split at e
    · rename_i v hv
      split at e
      · rename_i vs' hvs
        simp at e; subst e
        obtain ⟨us, h1, h2⟩ := aResults_rel h ht rest hvs
        obtain ⟨u, h3, h4⟩ := ht.2 t v hv
        refine ⟨u :: us, ?_, .cons h4 h2⟩
        have : tmps.getD t undef = u := by rw [Array.getD_eq_getD_getElem?, h3]; rfl
        simp only [List.mapM_cons, Sem.run_bind, Sem.run_pure, Result.andThen_ok, this, h1]
      · cases e
    · cases e
  | .cell a t :: rest, vs, e => by
    simp only [aResults] at e
    split at e
    · rename_i p hp
      split at e
      · rename_i v hv
        split at e
        · rename_i vs' hvs
          simp at e; subst e
          obtain ⟨us, h1, h2⟩ := aResults_rel h ht rest hvs
          obtain ⟨u, h3, h4⟩ := ht.2 a p hp
          have : tmps.getD a undef = u := by rw [Array.getD_eq_getD_getElem?, h3]; rfl
          cases h4 with
          | ptr hι =>
            obtain ⟨z, h5, h6⟩ := run_loadVar h hι hv
            refine ⟨z :: us, ?_, .cons h5 h2⟩
            rename_i b0 o0 l0
            have hasA : asAddr (tmps.getD a undef) = pure { block := l0.blk, off := l0.off o0 } := by rw [this]; rfl
            simp only [List.mapM_cons, Sem.run_bind, hasA, Sem.run_pure, Result.andThen_ok, h6]
            rw [h1]
            rfl
          | fptr hz hl =>
            obtain ⟨z, h5, h6⟩ := run_aLoad h (.fptr hz hl) hv
            refine ⟨z :: us, ?_, .cons h5 h2⟩
            rename_i cs zs b0 o0
            have hasA : asAddr (tmps.getD a undef) = pure { block := b0, off := o0 } := by rw [this]; rfl
            have h6' : (loadVar t { block := b0, off := o0 }).run P w = .ok z w := by simpa [Instr.loadAt, Instr.sureAddr] using h6
            simp only [List.mapM_cons, Sem.run_bind, hasA, Sem.run_pure, Result.andThen_ok, h6']
            rw [h1]
            rfl
          | func hf =>
            rename_i fn xs ys as bs g1 g2
            cases fn <;> first | (simp [plainFn] at hf; done) | simp [aLoad, fptrOf] at hv
          | _ => simp [aLoad, fptrOf] at hv
        · cases e
      · cases e
    · cases e

theorem results_rel {P : Program} {w0 : World} {ι : Iota} {nt : Nat} {T : Tr Value} {tmps : Array Value} {M : Tr Blk} {w : World} (h : R w0 ι M w) (ht : TmR ι nt T tmps) {fn : Func} {vs : List Value} (e : aResults P T M fn.results.toList = some vs) :
    ∃ u, (results fn tmps).run P w = .ok u w ∧ VR ι (match vs with | [v] => v | vs => .tuple vs.toArray) u := by
  obtain ⟨us, h1, h2⟩ := aResults_rel h ht _ e
  refine ⟨if h : us.toArray.size = 1 then us.toArray[0] else .tuple us.toArray, ?_, ?_⟩
  · unfold results
    rw [Array.mapM_eq_mapM_toList]
    simp only [Sem.run_bind, Sem.run_map]
    erw [h1]
    rfl
  · cases h2 with
    | nil => exact .tuple .nil
    | cons hv t =>
      cases t with
      | nil => exact hv
      | cons hv2 t2 =>
        simp only [List.size_toArray, List.length_cons]
        rw [dif_neg (by omega)]
        exact .tuple (by simpa using VRL.cons hv (.cons hv2 t2))

section
variable {call : Fr → Option Res} {P : Program} {X : Exts} {w0 : World} {G : Nat}

/-- A loop's block, or a block of deferred calls, is turned. -/
theorem post_obj {ι : Iota} {M : Tr Blk} {nx : Nat} {w : World} {r : Nat} {x x' : Blk} {l : Loc} {o : Obj} (h : R w0 ι M w) (hm : M.get (r / 256) = some x) (hw : x.wr = true) (hι : ι r = some l) (hlt : l.blk < w.heap.size) (hb : BR ι r x' l o) :
    Post w0 ι M nx w ι (M.set (r / 256) x') nx (w.putObj l.blk o) :=
  Post.write h hm hw hι ⟨o, World.putObj_heap_same hlt, hb⟩ (fun _ hk => World.putObj_heap_other hk) World.putObj_size rfl rfl rfl

theorem R.at {ι : Iota} {M : Tr Blk} {w : World} {r : Nat} {x : Blk} {l : Loc} (h : R w0 ι M w) (hm : M.get (r / 256) = some x) (hι : ι r = some l) : ∃ o, w.heap[l.blk]? = some o ∧ BR ι r x l o ∧ l.blk < w.heap.size := by
  obtain ⟨o, h1, h2⟩ := h.live r x l hm hι
  exact ⟨o, h1, h2, (Array.getElem?_eq_some_iff.1 h1).1⟩

theorem unwind_cont (hF : FOk P) (hcall : ∀ fr r, call fr = some r → Sound P G w0 fr r) {fr fr' : Fr} (hm : fr.mode ≠ .run) (he : unwindA call P fr = .cont fr') : Prog P G w0 fr fr' := by
  unfold unwindA at he
  split at he
  · -- a mark
    rename_i r as ds hds
    split at he
    · rename_i hM
      simp at he; subst he
      refine ⟨rfl, rfl, fun ι b a mode cs w todo st => ?_⟩
      have hd := st.fm.ds
      rw [hds] at hd
      generalize hads : a.defers = ads at hd
      cases hd with
      | cons hd1 hd2 =>
        rename_i d' ds'
        cases hd1 with
        | collected hl hg =>
          rename_i l
          obtain ⟨o, q1, q2, q3⟩ := st.rel.at hM hl
          cases q2 with
          | defs hg' =>
            have hmode := st.fm.mode
            have hmr : mode ≠ .run := by intro e; rw [e] at hmode; generalize hz : fr.mode = z at hmode; cases hmode; exact hm hz
            have hk := run_takeDeferred (P := P) (w := w) (b := l.blk) (ds := []) (by simpa using q1)
            have hs := step_collected (P := P) (fr := atM b a todo mode) (cs := cs) hmr hads rfl hk
            refine ⟨ι, { a with defers := ds' }, mode, cs, w.putObj l.blk (.deferred none), todo, ?_, ⟨st.fm.fn, st.fm.tm, hd2, hmode, st.fm.kind, st.fm.rnd, st.fm.up⟩, UpTo.refl st.fm.up, (fun hx => absurd hx hm), .one hs⟩
            exact post_obj st.rel hM rfl hl q3 (.defs (taken := true) hg)
    · cases he
  · -- a deferred call
    rename_i f cap as ds hds
    split at he
    · rename_i g hg
      have key : ∀ (ι : Iota) (b : Frame) (a : Act) (mode : FrameMode) (cs : List Frame) (w : World) (todo : List Item), St P G w0 fr ι b a mode cs w todo →
          ∃ (ds' : List Deferred) (b' : Frame) (a' : Act) (ca : Array Value), DRL ι ds ds' ∧ FrR P ι g b' a' .run (atM b { a with defers := ds' } todo mode :: cs) ∧ g.M = fr.M ∧ g.nx = fr.nx ∧ g.dk = true ∧ g.rnd = none ∧ b'.kind = .deferred ∧
            Steps P (lone (atM b a todo mode) cs w) (lone (atM b' a' g.todo .run) (atM b { a with defers := ds' } todo mode :: cs) w) := by
        intro ι b a mode cs w todo st
        have hd := st.fm.ds
        rw [hds] at hd
        generalize hads : a.defers = ads at hd
        cases hd with
        | cons hd1 hd2 =>
          rename_i d' ds'
          cases hd1 with
          | fn hpf hc ha =>
            rename_i cap' as'
            have hmode := st.fm.mode
            have hmr : mode ≠ .run := by intro e; rw [e] at hmode; generalize hz : fr.mode = z at hmode; cases hmode; exact hm hz
            have hargs : VRL ι (as.toList ++ cap.toList) (as' ++ cap').toList := by rw [Array.toList_append]; exact ha.append hc
            obtain ⟨b', a', e1, e2, e3, e4, e5, e6, e7⟩ := enterFr_rel (ι := ι) (cs := atM b { a with defers := ds' } todo mode :: cs) hg hargs (fun _ => ⟨_, _, rfl, hmode⟩)
            simp only [if_true] at e1
            have hex : ∃ fn, P.funcs[f]? = some fn ∧ fn.body.isSome = true := by
              unfold enterFr at hg
              split at hg
              · rename_i fn hfn
                split at hg
                · rename_i c hc; exact ⟨fn, hfn, by rw [hc]; rfl⟩
                · cases hg
              · cases hg
            obtain ⟨fn, hfn, hb⟩ := hex
            have hi : (invoke (.fn (.func f) cap') as').run P w = .ok (.enter f (as' ++ cap')) w := by
              simp only [invoke]
              exact run_callFunc hF hfn hb _ w
            have hs := step_defer (P := P) (fr := atM b a todo mode) (cs := cs) hmr hads rfl hi
            rw [e1] at hs
            have hk : b'.kind = .deferred := by have := e2.kind; rw [e5] at this; simpa using this
            exact ⟨ds', b', a', cap', hd2, e2, e3, e4, e5, e6, hk, .one hs⟩
      split at he
      · rename_i v up' M' nx' hc
        split at he
        · cases he
        · rename_i m hset
          simp at he; subst he
          refine ⟨rfl, rfl, fun ι b a mode cs w todo st => ?_⟩
          obtain ⟨ds', b', a', ca, k1, k2, k3, k4, k5, k6, k7, k8⟩ := key ι b a mode cs w todo st
          obtain ⟨κ, w', p1, p2⟩ := hcall g _ hc ι b' a' .run _ w (by rw [k3]; exact st.rel) st.gok k2 (by rw [k4]; exact st.fresh) (fun x => absurd k6 x)
          rw [k3, k4] at p1
          cases p2 with
          | ret hr0 hs ha hfn hres hv hcs =>
            rename_i u a2 todo2 fn cs'
            rw [k5] at hcs
            obtain ⟨c, rest, m', h1, h2, h3⟩ := hcs
            simp only [List.cons.injEq] at h1
            obtain ⟨rfl, rfl⟩ := h1
            subst h2
            have hgo : (atM b' a2 todo2 .returning).going P w' (.returned u) := ⟨rfl, ha, fn, hfn, hres⟩
            have hlast := step_going_returned (P := P) (fr := atM b' a2 todo2 .returning) (c := { (atM b { a with defers := ds' } todo mode) with mode := m' }) (cs := cs) (w := w') k7 hgo
            refine ⟨κ, { a with defers := ds' }, settle m', cs, w', todo, p1, ⟨st.fm.fn, st.fm.tm.mono p1.ext, k1.mono p1.ext, MR.settle h3, st.fm.kind, st.fm.rnd.mono p1.ext, st.fm.up.mono p1.ext⟩, (UpTo.refl st.fm.up).mono p1.ext, ?_, k8.trans (hs.trans (.one hlast))⟩
            intro hx
            exact absurd hx hset
          | round hr0 => exact absurd k6 hr0
      · rename_i ch up' M' nx' hc
        split at he
        · cases he
        · rename_i m hset
          simp at he; subst he
          refine ⟨rfl, rfl, fun ι b a mode cs w todo st => ?_⟩
          obtain ⟨ds', b', a', ca, k1, k2, k3, k4, k5, k6, k7, k8⟩ := key ι b a mode cs w todo st
          obtain ⟨κ, w', p1, p2⟩ := hcall g _ hc ι b' a' .run _ w (by rw [k3]; exact st.rel) st.gok k2 (by rw [k4]; exact st.fresh) (fun x => absurd k6 x)
          rw [k3, k4] at p1
          cases p2 with
          | pan hs ha hfn hv hcs =>
            rename_i ys a2 todo2 cs'
            rw [k5] at hcs
            obtain ⟨c, rest, m', h1, h2, h3⟩ := hcs
            simp only [List.cons.injEq] at h1
            obtain ⟨rfl, rfl⟩ := h1
            subst h2
            obtain ⟨fn, hfn⟩ := Option.isSome_iff_exists.1 hfn
            have hgo : (atM b' a2 todo2 (.panicking ys)).going P w' (.panicked ys) := ⟨rfl, ha, fn, hfn⟩
            have hlast := step_going_panicked (P := P) (fr := atM b' a2 todo2 (.panicking ys)) (c := { (atM b { a with defers := ds' } todo mode) with mode := m' }) (cs := cs) (w := w') hgo
            refine ⟨κ, { a with defers := ds' }, raised m' ys, cs, w', todo, p1, ⟨st.fm.fn, st.fm.tm.mono p1.ext, k1.mono p1.ext, MR.raised h3 hv, st.fm.kind, st.fm.rnd.mono p1.ext, st.fm.up.mono p1.ext⟩, (UpTo.refl st.fm.up).mono p1.ext, ?_, k8.trans (hs.trans (.one hlast))⟩
            intro hx
            exact absurd hx hset
      · cases he
    · cases he
  · cases he
  · split at he
    · split at he
      · split at he
        · cases he
        · cases he
        · cases he
      · cases he
    · split at he
      · cases he
      · cases he
    · cases he

theorem unwind_done {fr : Fr} {r : Res} (hm : fr.mode ≠ .run) (he : unwindA call P fr = .done r) : SoundT P G w0 fr r := by
  unfold unwindA at he
  split at he
  · split at he <;> cases he
  · split at he
    · split at he
      · split at he <;> cases he
      · split at he <;> cases he
      · cases he
    · cases he
  · cases he
  · rename_i hds
    intro ι b a mode cs w todo st
    have hd := st.fm.ds
    rw [hds] at hd
    generalize hads : a.defers = ads at hd
    cases hd
    have hmode := st.fm.mode
    have hup := UpTo.refl st.fm.up
    split at he
    · rename_i hmd
      rw [hmd] at hmode
      cases hmode
      split at he
      · rename_i fn hrn hfn
        have hfn' : P.funcs[b.fn]? = some fn := by rw [st.fm.fn]; exact hfn
        split at he
        · rename_i v hv
          simp at he; subst he
          obtain ⟨u, h1, h2⟩ := results_rel st.rel st.fm.tm hv
          exact ⟨ι, w, Post.refl st.rel, .ret hrn (.refl _ _) hads hfn' h1 h2 hup⟩
        · rename_i vs hne hv
          simp at he; subst he
          obtain ⟨u, h1, h2⟩ := results_rel st.rel st.fm.tm hv
          refine ⟨ι, w, Post.refl st.rel, .ret hrn (.refl _ _) hads hfn' h1 ?_ hup⟩
          split at h2
          · first | exact (hne _ rfl).elim | exact (hne _ hv).elim
          · exact h2
        · cases he
      · cases he
    · rename_i ch hmd
      rw [hmd] at hmode
      cases hmode with
      | panicking hp =>
        split at he
        · rename_i fn hfn
          simp at he; subst he
          exact ⟨ι, w, Post.refl st.rel, .pan (.refl _ _) hads (by rw [st.fm.fn, hfn]; rfl) hp hup⟩
        · cases he
    · cases he
end
end Go.Proofs.YtihloomkgpflmaaGreatDoor.Vm

namespace Go.Proofs.YtihloomkgpflmaaGreatDoor.Vm

section
variable {call : Fr → Option Res} {P : Program} {X : Exts} {w0 : World} {G : Nat}

theorem leave_cont {fr fr' : Fr} {jump : Option Code} (hm : fr.mode = .run) (hj : (jump = none ∧ fr.todo = []) ∨ (∃ k, jump = some .ret ∧ fr.todo = .code .ret :: k) ∨ (∃ id k, jump = some (.exit id) ∧ fr.todo = .code (.exit id) :: k ∧ exitTo id k = none))
    (he : leave fr jump = .cont fr') : Prog P G w0 fr fr' := by
  have key : fr.rnd = none → (∀ (b : Frame) (a : Act) (cs : List Frame) (w : World), b.roundOf = none → Steps P (lone (b.atR a fr.todo) cs w) (lone (atM b a fr.todo .returning) cs w)) → Prog P G w0 fr { fr with mode := .returning } := by
    intro hr hs
    refine ⟨rfl, rfl, fun ι b a mode cs w todo st => ?_⟩
    have hmode := st.fm.mode
    rw [hm] at hmode
    cases hmode
    have htd := st.td hm
    subst htd
    have hb : b.roundOf = none := by
      have := st.fm.rnd
      rw [hr] at this
      cases hbr : b.roundOf with
      | none => rfl
      | some x => rw [hbr] at this; exact this.elim
    exact ⟨ι, a, .returning, cs, w, fr.todo, Post.refl st.rel, ⟨st.fm.fn, st.fm.tm, st.fm.ds, .returning, st.fm.kind, st.fm.rnd, st.fm.up⟩, UpTo.refl st.fm.up, (fun hx => by cases hx), hs b a cs w hb⟩
  unfold leave at he
  split at he
  · rename_i hr
    split at he
    · simp at he; subst he
      rcases hj with ⟨_, ht⟩ | ⟨k, hj, ht⟩ | ⟨id, k, hj, ht, hx⟩
      · exact key hr (fun b a cs w hb => by rw [ht]; exact .one (stepR_end hb))
      · cases hj
      · cases hj
    · simp at he; subst he
      rcases hj with ⟨hj, ht⟩ | ⟨k, _, ht⟩ | ⟨id, k, hj, ht, hx⟩
      · cases hj
      · exact key hr (fun b a cs w hb => by rw [ht]; exact .one (stepR_ret hb))
      · cases hj
    · cases he
  · split at he <;> cases he

theorem leave_done {fr : Fr} {r : Res} {jump : Option Code} (hm : fr.mode = .run) (hj : (jump = none ∧ fr.todo = []) ∨ (∃ k, jump = some .ret ∧ fr.todo = .code .ret :: k) ∨ (∃ id k, jump = some (.exit id) ∧ fr.todo = .code (.exit id) :: k ∧ exitTo id k = none))
    (he : leave fr jump = .done r) : SoundT P G w0 fr r := by
  unfold leave at he
  split at he
  · split at he <;> cases he
  · rename_i l hr
    split at he
    · rename_i al hM
      simp only [Stp.done.injEq] at he; subst he
      intro ι b a mode cs w todo st
      have hmode := st.fm.mode
      rw [hm] at hmode
      cases hmode
      have htd := st.td hm
      subst htd
      have hrd := st.fm.rnd
      rw [hr] at hrd
      cases hb : b.roundOf with
      | none => rw [hb] at hrd; exact hrd.elim
      | some l' =>
        rw [hb] at hrd
        obtain ⟨d, h1, h2, h3⟩ := hrd
        obtain ⟨o, q1, q2, q3⟩ := st.rel.at hM h1
        cases q2 with
        | loop hg hd hdg hp ht =>
          rename_i dd tmps params
          have hend := run_endRound (P := P) jump q1
          have hne : fr.rnd ≠ none := by rw [hr]; simp
          have hkn : b.kind = .normal := by have := st.fm.kind; rw [(st.rc hne).1] at this; simpa using this
          rw [h3] at hend
          refine ⟨ι, w.putObj d.blk (.loop { state := if jump.isNone then .ready else .done, pending := jump, fn := al.fn, tmps, params, assign := al.assign, body := al.body, defers := dd.blk }), ?_, .round hne ?_ (.bool _)⟩
          · exact post_obj (x' := .loop { al with st := if jump.isNone then .ready else .done, pending := jump }) st.rel hM rfl h1 q3 (.loop hg hd hdg hp ht)
          · intro c rest hc
            subst hc
            subst h3
            rcases hj with ⟨hj, ht⟩ | ⟨k, hj, ht⟩ | ⟨id, k, hj, ht, hx⟩
            · subst hj; rw [ht]
              exact .one (stepR_round_end hb hkn hend)
            · subst hj; rw [ht]
              exact .one (stepR_round_ret hb hkn hend)
            · subst hj; rw [ht]
              exact .one (stepR_round_exit hb hkn hx hend)
    · cases he

theorem begin_cont {fr : Fr} {l : Nat} {al : ALoop} {k : List Item} (hm : fr.mode = .run) (ht : fr.todo = .beginRound :: k) (hr : fr.rnd = some l) (hM : fr.M.get (l / 256) = some (.loop al)) (hst : al.st = .ready) :
    Prog P G w0 fr { fr with todo := k, M := fr.M.set (l / 256) (.loop { al with st := .busy }) } := by
  refine ⟨rfl, rfl, fun ι b a mode cs w todo st => ?_⟩
  have hmode := st.fm.mode
  rw [hm] at hmode
  cases hmode
  have htd := st.td hm
  subst htd
  have hrd := st.fm.rnd
  rw [hr] at hrd
  cases hb : b.roundOf with
  | none => rw [hb] at hrd; exact hrd.elim
  | some l' =>
    rw [hb] at hrd
    obtain ⟨d, h1, h2, h3⟩ := hrd
    subst h3
    obtain ⟨o, q1, q2, q3⟩ := st.rel.at hM h1
    cases q2 with
    | loop hg hd hdg hp htm =>
      rename_i dd tmps params
      have hbeg := run_beginRound (P := P) q1 hst
      refine ⟨ι, a, .run, cs, w.putObj d.blk (.loop { state := .busy, pending := al.pending, fn := al.fn, tmps, params, assign := al.assign, body := al.body, defers := dd.blk }), k, ?_, ⟨st.fm.fn, st.fm.tm, st.fm.ds, st.fm.mode, st.fm.kind, st.fm.rnd, st.fm.up⟩, UpTo.refl st.fm.up, fun _ => rfl, ?_⟩
      · exact post_obj (x' := .loop { al with st := .busy }) st.rel hM rfl h1 q3 (.loop hg hd hdg hp htm)
      · rw [ht]
        exact .one (stepR_beginRound hb hbeg)

theorem range_cont (hF : FOk P) (hcall : ∀ fr r, call fr = some r → Sound P G w0 fr r) {fr fr' : Fr} {f : Operand} {params : Array Tmp} {assign body : Code} {k : List Item} (hm : fr.mode = .run) (ht : fr.todo = .code (.rangeFunc f params assign body) :: k)
    {gf : FuncId} {first cap : Array Value} {g : Fr} {r : Res} (hr : fr.rnd = none) (hf : getv G fr.T f = some (.func (.func gf) first cap))
    (hg : enterFr P gf (first.toList ++ [.func (.yield (256 * (fr.nx + 1))) #[] #[]] ++ cap.toList) false .run
            ((fr.M.set fr.nx (.defs false)).set (fr.nx + 1) (.loop { st := .ready, pending := none, fn := fr.fn, nt := fr.nt, T := fr.T, params := params.toList, assign, body, defers := 256 * fr.nx })) (fr.nx + 2) = some g)
    (hc : call g = some r)
    (hfr : (∃ v up M' nx' al, r = .ret v up M' nx' ∧ M'.get (fr.nx + 1) = some (.loop al) ∧ al.st ≠ .busy ∧
        fr' = { fr with todo := (al.pending.map Item.code).toList ++ k, ds := { target := .collected (256 * fr.nx), args := #[] } :: fr.ds, M := M'.set (fr.nx + 1) (.loop { al with st := .exhausted }), nx := nx' }) ∨
      (∃ ch up M' nx', r = .pan ch up M' nx' ∧ fr' = { fr with todo := [], mode := .panicking ch, ds := { target := .collected (256 * fr.nx), args := #[] } :: fr.ds, M := M', nx := nx' })) : Prog P G w0 fr fr' := by
  have key : ∀ (ι : Iota) (b : Frame) (a : Act) (cs : List Frame) (w : World), St P G w0 fr ι b a .run cs w fr.todo →
      ∃ (κ : Iota) (w2 : World) (b' : Frame) (a' : Act), Post w0 ι fr.M fr.nx w κ g.M g.nx w2 ∧ FrR P κ g b' a' .run (b.atR { a with defers := { target := .collected w.heap.size, args := #[] } :: a.defers } (.inRangeFunc (w.heap.size + 1) :: k) :: cs) ∧
        g.nx = fr.nx + 2 ∧ g.dk = false ∧ g.rnd = none ∧ b'.kind = .normal ∧ κ (256 * fr.nx) = some ⟨w.heap.size, none⟩ ∧ κ (256 * (fr.nx + 1)) = some ⟨w.heap.size + 1, none⟩ ∧
        Steps P (lone (b.atR a fr.todo) cs w) (lone (atM b' a' g.todo .run) (b.atR { a with defers := { target := .collected w.heap.size, args := #[] } :: a.defers } (.inRangeFunc (w.heap.size + 1) :: k) :: cs) w2) := by
    intro ι b a cs w st
    have hb : b.roundOf = none := by
      have := st.fm.rnd
      rw [hr] at this
      cases hbr : b.roundOf with
      | none => rfl
      | some x => rw [hbr] at this; exact this.elim
    let al : ALoop := { st := .ready, pending := none, fn := fr.fn, nt := fr.nt, T := fr.T, params := params.toList, assign, body, defers := 256 * fr.nx }
    have hT : TR ι G fr.T a.eval := TR.of st.gok st.fm.tm.2
    -- two blocks
    have p1 : Post w0 ι fr.M fr.nx w (ι.upd (256 * fr.nx + 0) ⟨w.heap.size, none⟩) (fr.M.set fr.nx (.defs false)) (fr.nx + 1) (w.alloc (.deferred (some []))) :=
      Post.alloc (s := 0) st.rel (st.fresh.to _) (by omega) rfl (by simp) (.defs (taken := false) rfl)
    have hsz : (w.alloc (.deferred (some []))).heap.size = w.heap.size + 1 := World.size_alloc _ _
    have hd1 : (ι.upd (256 * fr.nx + 0) ⟨w.heap.size, none⟩) (256 * fr.nx) = some ⟨w.heap.size, none⟩ := Iota.upd_same _ _ _
    have hf1 := p1.freshU st.fresh
    have p2 : Post w0 (ι.upd (256 * fr.nx + 0) ⟨w.heap.size, none⟩) (fr.M.set fr.nx (.defs false)) (fr.nx + 1) (w.alloc (.deferred (some [])))
        ((ι.upd (256 * fr.nx + 0) ⟨w.heap.size, none⟩).upd (256 * (fr.nx + 1) + 0) ⟨w.heap.size + 1, none⟩) ((fr.M.set fr.nx (.defs false)).set (fr.nx + 1) (.loop al)) (fr.nx + 2)
        ((w.alloc (.deferred (some []))).alloc (.loop { state := .ready, pending := none, fn := fr.fn, tmps := a.tmps, params, assign, body, defers := w.heap.size })) := by
      have hx : Ext (ι.upd (256 * fr.nx + 0) ⟨w.heap.size, none⟩) ((ι.upd (256 * fr.nx + 0) ⟨w.heap.size, none⟩).upd (256 * (fr.nx + 1) + 0) ⟨w.heap.size + 1, none⟩) := Iota.upd_ext _ (hf1 _ (by omega))
      exact Post.alloc (s := 0) p1.rel (hf1.to _) (by omega) hsz.symm (by simp)
        (.loop (al := al) (d := ⟨w.heap.size, none⟩) rfl (hx _ _ hd1) rfl rfl ((st.fm.tm.mono p1.ext).mono hx))
    have p12 := p1.trans (st.fresh.to _) p2
    generalize hκ : (ι.upd (256 * fr.nx + 0) ⟨w.heap.size, none⟩).upd (256 * (fr.nx + 1) + 0) ⟨w.heap.size + 1, none⟩ = κ at p2 p12
    have hk1 : κ (256 * fr.nx) = some ⟨w.heap.size, none⟩ := p2.ext _ _ hd1
    have hk2 : κ (256 * (fr.nx + 1)) = some ⟨w.heap.size + 1, none⟩ := by rw [← hκ]; exact Iota.upd_same _ _ _
    have hv := hT _ _ hf
    generalize hρ : a.eval f = z at hv
    cases hv with
    | func hpf h1 h2 =>
      rename_i first' cap'
      have hargs : VRL κ (first.toList ++ [.func (.yield (256 * (fr.nx + 1))) #[] #[]] ++ cap.toList) ((first' ++ #[Value.func (.yield (w.heap.size + 1)) #[] #[]]) ++ cap').toList := by
        rw [Array.toList_append, Array.toList_append]
        exact ((h1.mono p12.ext).append (.cons (.yield hk2 rfl) .nil)).append (h2.mono p12.ext)
      obtain ⟨b', a', e1, e2, e3, e4, e5, e6, e7⟩ := enterFr_rel (ι := κ) (cs := b.atR { a with defers := { target := .collected w.heap.size, args := #[] } :: a.defers } (.inRangeFunc (w.heap.size + 1) :: k) :: cs) hg hargs (fun x => by cases x)
      simp only [Bool.false_eq_true, if_false] at e1
      have hex : ∃ fn, P.funcs[gf]? = some fn ∧ fn.body.isSome = true := by
        unfold enterFr at hg
        split at hg
        · rename_i fn hfn
          split at hg
          · rename_i c hc; exact ⟨fn, hfn, by rw [hc]; rfl⟩
          · cases hg
        · cases hg
      obtain ⟨fn, hfn, hbd⟩ := hex
      have hen := run_enterLoop_outer (P := P) (w := w) b.fn a.tmps params assign body
      rw [← hb, st.fm.fn] at hen
      rw [← st.fm.fn] at hen
      have hres : (resolve a.eval (rangeCall f (w.heap.size + 1)) 0).run P ((w.alloc (.deferred (some []))).alloc (.loop { state := .ready, pending := none, fn := b.fn, tmps := a.tmps, params, assign, body, defers := w.heap.size })) =
          .ok { target := .fn (.func gf) cap', args := first' ++ #[.func (.yield (w.heap.size + 1)) #[] #[]] } ((w.alloc (.deferred (some []))).alloc (.loop { state := .ready, pending := none, fn := b.fn, tmps := a.tmps, params, assign, body, defers := w.heap.size })) := by
        simp only [resolve, rangeCall, hρ, Deferred.ofValue, Sem.run_pure, List.map_toArray, List.map_cons, List.map_nil]
        rfl
      have hinv : (invoke (.fn (.func gf) cap') (first' ++ #[.func (.yield (w.heap.size + 1)) #[] #[]])).run P ((w.alloc (.deferred (some []))).alloc (.loop { state := .ready, pending := none, fn := b.fn, tmps := a.tmps, params, assign, body, defers := w.heap.size })) =
          .ok (.enter gf ((first' ++ #[.func (.yield (w.heap.size + 1)) #[] #[]]) ++ cap')) ((w.alloc (.deferred (some []))).alloc (.loop { state := .ready, pending := none, fn := b.fn, tmps := a.tmps, params, assign, body, defers := w.heap.size })) := by
        simp only [invoke]
        exact run_callFunc hF hfn hbd _ _
      have hstep := stepR_rangeFunc (P := P) (k := k) (cs := cs) (g := f) hen hres hinv
      rw [e1] at hstep
      have hbk : b'.kind = .normal := by have := e2.kind; rw [e5] at this; simpa using this
      rw [st.fm.fn] at hstep
      refine ⟨κ, _, b', a', ?_, e2, e4, e5, e6, hbk, hk1, hk2, .one (by rw [ht]; exact hstep)⟩
      rw [e3, e4]
      exact p12
  refine ⟨?_, ?_, fun ι b a mode cs w todo st => ?_⟩
  · rcases hfr with ⟨v, up, M', nx', al, _, _, _, e⟩ | ⟨ch, up, M', nx', _, e⟩ <;> rw [e]
  · rcases hfr with ⟨v, up, M', nx', al, _, _, _, e⟩ | ⟨ch, up, M', nx', _, e⟩ <;> rw [e]
  have hmode := st.fm.mode
  rw [hm] at hmode
  cases hmode
  have htd := st.td hm
  subst htd
  obtain ⟨κ, w2, b', a', p1, k2, k3, k4, k5, k6, k7, k8, k9⟩ := key ι b a cs w st
  obtain ⟨μ, w', q1, q2⟩ := hcall g r hc κ b' a' .run _ w2 p1.rel (fun x hx => p1.ext _ _ (st.gok x hx)) k2 (p1.freshU st.fresh) (fun x => absurd k5 x)
  have hpost := p1.trans (st.fresh.to _) q1
  rcases hfr with ⟨v, up, M', nx', al, rfl, hal, hbusy, rfl⟩ | ⟨ch, up, M', nx', rfl, rfl⟩
  · cases q2 with
    | ret hr0 hs ha hfn hres hv hcs =>
      rename_i u a2 todo2 fn cs'
      rw [k4] at hcs
      simp only [UpTo] at hcs
      subst hcs
      have hback := st_back (P := P) (c := b.atR { a with defers := { target := .collected w.heap.size, args := #[] } :: a.defers } (.inRangeFunc (w.heap.size + 1) :: k)) (cs := cs) (w := w') (fr' := atM b' a2 todo2 .returning) rfl ha k6 hfn hres
      rw [finish_atR_inRangeFunc] at hback
      have hm2 := q1.ext _ _ k8
      have hdiv : (256 * (fr.nx + 1)) / 256 = fr.nx + 1 := by omega
      obtain ⟨o, z1, z2, z3⟩ := q1.rel.at (r := 256 * (fr.nx + 1)) (x := .loop al) (by rw [hdiv]; exact hal) hm2
      cases z2 with
      | loop hg' hd' hdg' hp' htm' =>
        rename_i dd tmps0 params0
        have hend := run_endLoop (P := P) z1 hbusy
        have hstep := stepR_endRangeFunc (P := P) (b := b) (a := { a with defers := { target := .collected w.heap.size, args := #[] } :: a.defers }) (k := k) (cs := cs) hend
        have hlast : Post w0 μ M' nx' w' μ (M'.set (fr.nx + 1) (.loop { al with st := .exhausted })) nx' (w'.putObj (w.heap.size + 1) (.loop { state := .exhausted, pending := al.pending, fn := al.fn, tmps := tmps0, params := params0, assign := al.assign, body := al.body, defers := dd.blk })) := by
          have := post_obj (nx := nx') (x' := .loop { al with st := .exhausted }) q1.rel (by rw [hdiv]; exact hal) rfl hm2 z3 (.loop hg' hd' hdg' hp' htm')
          rw [hdiv] at this
          exact this
        refine ⟨μ, { a with defers := { target := .collected w.heap.size, args := #[] } :: a.defers }, .run, cs, _, _, hpost.trans (st.fresh.to _) hlast,
          ⟨st.fm.fn, st.fm.tm.mono hpost.ext, .cons (.collected (q1.ext _ _ k7) rfl) (st.fm.ds.mono hpost.ext), by show MR μ fr.mode .run; rw [hm]; exact .run, st.fm.kind, st.fm.rnd.mono hpost.ext, st.fm.up.mono hpost.ext⟩, (UpTo.refl st.fm.up).mono hpost.ext, fun _ => rfl, ?_⟩
        exact k9.trans (hs.trans (.head hback (.one hstep)))
    | round hr0 => exact absurd k5 hr0
  · cases q2 with
    | pan hs ha hfn hv hcs =>
      rename_i ys a2 todo2 cs'
      rw [k4] at hcs
      simp only [UpTo] at hcs
      subst hcs
      have hback := st_raise (P := P) (c := b.atR { a with defers := { target := .collected w.heap.size, args := #[] } :: a.defers } (.inRangeFunc (w.heap.size + 1) :: k)) (cs := cs) (w := w') (fr' := atM b' a2 todo2 (.panicking ys)) rfl ha hfn
      exact ⟨μ, { a with defers := { target := .collected w.heap.size, args := #[] } :: a.defers }, .panicking ys, cs, w', .inRangeFunc (w.heap.size + 1) :: k, hpost,
          ⟨st.fm.fn, st.fm.tm.mono hpost.ext, .cons (.collected (q1.ext _ _ k7) rfl) (st.fm.ds.mono hpost.ext), .panicking hv, st.fm.kind, st.fm.rnd.mono hpost.ext, st.fm.up.mono hpost.ext⟩, (UpTo.refl st.fm.up).mono hpost.ext, (fun hx => by cases hx),
          k9.trans (hs.trans (.one hback))⟩
end
end Go.Proofs.YtihloomkgpflmaaGreatDoor.Vm
