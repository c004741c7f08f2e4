/-
  THE ABSTRACT INTERPRETER, part O: regions, frames, runs: the definitions.
-/
import Derived.Test.YtjbanjpklgpenaaGreatDoorVmN
import Derived.Orders
namespace Go.Proofs.YtjbanjpklgpenaaGreatDoor.Vm

/-- Numbers are reckoned out before they are put away. -/
def forced {β : Type} (v : Value) (k : β) : β := match v with
  | .int _ (.ofNat m) => bif Nat.beq m 0 then k else k
  | _ => k
theorem forced_eq {β : Type} (v : Value) (k : β) : forced v k = k := by
  unfold forced
  split
  · cases Nat.beq _ 0 <;> rfl
  · rfl

noncomputable def putT (nt : Nat) (T : Tr Value) (dst : Option Tmp) (v : Value) : Option (Tr Value) := match dst with
  | none => some T
  | some d => bif Nat.blt d nt then forced v (some (T.set d v)) else none

/-- Is an operation carried out, by its guard? -/
noncomputable def wantedA (ops : Array Oper) (o : Oper) (T : Tr Value) : Option Bool := match o.guard with
  | none => some true
  | some (j, want) => (match (ops[j]?).bind (·.dst) with
    | some d => (match T.get d with
      | some (.bool b) => some (b == want)
      | some _ => some false
      | none => none)
    | none => none)

inductive RR where
  | ok (T : Tr Value) (ds : List Deferred) (up : FrameMode) (M : Tr Blk) (nx : Nat)
  | pan (chain : List PanicEntry) (T : Tr Value) (ds : List Deferred) (up : FrameMode) (M : Tr Blk) (nx : Nat)

/-- A region in the order of the text. -/
noncomputable def vops (call : Fr → Option Res) (P : Program) (X : Exts) (G : Nat) (dk : Bool) (rnd : Option Nat) (nt : Nat) (ops : Array Oper) (l : List Oper) : Tr Value → List Deferred → FrameMode → Tr Blk → Nat → Option RR :=
  List.rec (motive := fun _ => Tr Value → List Deferred → FrameMode → Tr Blk → Nat → Option RR) (fun T ds up M nx => some (.ok T ds up M nx))
    (fun o _ ih T ds up M nx => match wantedA ops o T with
      | some true => (match vop call P X G dk rnd T ds up M nx o.op with
        | some (.ok v ds' up' M' nx') => (match putT nt T o.dst v with
          | some T' => ih T' ds' up' M' nx'
          | none => none)
        | some (.pan ch up' M' nx') => some (.pan ch T ds up' M' nx')
        | none => none)
      | some false => (match putT nt T o.dst undef with
        | some T' => ih T' ds up M nx
        | none => none)
      | none => none) l

/-! ### a region that draws its order -/
/-- 0: no memory; 1: reads; 2: makes a block; 3: else. -/
def opKind : Op → Nat
  | .load _ _ | .lookup _ _ _ _ => 1
  | .alloc _ | .box _ _ | .buildSlice _ _ _ | .makeSlice _ _ _ => 2
  | .move _ | .assign _ | .pick _ _ _ | .binOp _ _ _ _ _ | .unOp _ _ _ | .convert _ _ _ | .makeInterface _ _ | .makeFunc _ _ _ | .fieldAddr _ _ _ | .field _ _ _ | .indexAddr _ _ _ | .index _ _ _ | .extract _ _ | .build _ _
  | .slice _ _ _ _ none | .nilCheck _ | .typeAssert _ _ _ _ => 0
  | .call c => (match c.callee with
    | .builtin .len | .builtin .max | .builtin .min => 0
    | _ => 3)
  | _ => 3

structure PStep where
  i : Nat
  kind : Nat
  mask : Nat

/-- The operations that an operation waits for. -/
def directs (o : Oper) : List Nat := o.after.toList.filterMap fun e => bif Region.binds .any e then some e.on else none
def lst (acc : List PStep) (j : Nat) : Bool := acc.any fun p => Nat.beq p.i j
def maskAt : List PStep → Nat → Nat
  | [], _ => 0
  | p :: ps, e => bif Nat.beq p.i e then p.mask else maskAt ps e
def maskOf (acc : List PStep) : List Nat → Nat
  | [] => 0
  | e :: es => Nat.lor (Nat.lor (Nat.pow 2 e) (maskAt acc e)) (maskOf acc es)
def readyA (ops : Array Oper) (acc : List PStep) : List Nat := (List.range ops.size).filter fun j => !lst acc j && match ops[j]? with
  | some o => (directs o).all (lst acc)
  | none => false
def kindAt (ops : Array Oper) (j : Nat) : Nat := match ops[j]? with
  | some o => opKind o.op
  | none => 3
def mkStep (ops : Array Oper) (acc : List PStep) (j : Nat) : PStep := { i := j, kind := kindAt ops j, mask := match ops[j]? with
  | some o => maskOf acc (directs o)
  | none => 0 }
def planGo (ops : Array Oper) : Nat → List PStep → Option (List PStep)
  | 0, acc => some acc
  | f + 1, acc => match (readyA ops acc).find? (fun j => !Nat.beq (kindAt ops j) 3) with
    | some j => planGo ops f (mkStep ops acc j :: acc)
    | none => (match readyA ops acc with
      | j :: _ => planGo ops f (mkStep ops acc j :: acc)
      | [] => none)
/-- Is a listing (the newest first) one that the interpreter may go by? -/
def wfb (ops : Array Oper) : List PStep → Bool
  | [] => true
  | s :: acc => wfb ops acc && match ops[s.i]? with
    | none => false
    | some o => Nat.beq s.kind (opKind o.op) && !lst acc s.i && (directs o).all (lst acc) && Nat.beq s.mask (maskOf acc (directs o)) &&
      acc.all (fun p => Nat.testBit s.mask p.i || match ops[p.i]? with | some q => Oper.apart ops q o | none => false) &&
      (!Nat.beq s.kind 3 || (List.range ops.size).all (fun j => lst acc j || Nat.beq j s.i || match ops[j]? with
        | some q => (directs q).any (fun e => !lst acc e)
        | none => true))
def whole (ops : Array Oper) (acc : List PStep) : Bool := (List.range ops.size).all (lst acc)
/-- The order in which the interpreter goes through such a region: what changes nothing first. -/
def plan (ops : Array Oper) : Option (List PStep) := match planGo ops ops.size [] with
  | some acc => bif wfb ops acc && whole ops acc then some acc.reverse else none
  | none => none

/-- No two operations write one temporary. -/
def dstsApart : List Oper → Bool
  | [] => true
  | o :: rest => (match o.dst with
    | none => true
    | some d => rest.all (fun p => match p.dst with | none => true | some e => !Nat.beq d e)) && dstsApart rest

def veqAddr : Option Addr → Option Addr → Bool
  | none, none => true
  | some ⟨b, o, none⟩, some ⟨c, p, none⟩ => Nat.beq b c && Nat.beq o p
  | _, _ => false
mutual
def veq : Nat → Value → Value → Bool
  | 0, _, _ => false
  | n + 1, v, u => match v, u with
    | .bool a, .bool b => a == b
    | .int k a, .int j b => decide (k = j) && eqI a b
    | .string a, .string b => a.data.toList == b.data.toList
    | .pointer a, .pointer b => veqAddr a b
    | .slice a i j, .slice b k l => veqAddr a b && Nat.beq i k && Nat.beq j l
    | .map none, .map none => true
    | .map (some a), .map (some b) => Nat.beq a b
    | .nilFunc, .nilFunc => true
    | .nilIface, .nilIface => true
    | .func f a b, .func g c d => decide (f = g) && veqL n a.toList c.toList && veqL n b.toList d.toList
    | .iface t a, .iface s b => Nat.beq t s && veq n a b
    | .agg a, .agg b => veqL n a.toList b.toList
    | .tuple a, .tuple b => veqL n a.toList b.toList
    | _, _ => false
def veqL : Nat → List Value → List Value → Bool
  | _, [], [] => true
  | 0, _, _ => false
  | n + 1, a :: as, b :: bs => veq n a b && veqL n as bs
  | _, _, _ => false
end

inductive Watch where
  | rd (i : Nat) (op : Op) (T : Tr Value) (v : Value)
  | new (i : Nat) (n : Nat) (vs : List Value)

/-- Is what was read, or made, still so? -/
noncomputable def watchOk (P : Program) (G : Nat) (mask : Nat) (M : Tr Blk) : Watch → Bool
  | .rd i op T v => Nat.testBit mask i || (match aquiet P G T M 0 op with
    | some (u, _, _) => veq 1000 v u
    | none => false)
  | .new i n vs => Nat.testBit mask i || (match M.get n with
    | some (.cells false us) => veqL 1000 vs us
    | _ => false)

noncomputable def restr (ts : List Tmp) (T : Tr Value) : Tr Value := match ts with
  | [] => .nil
  | t :: ts => match T.get t with
    | some v => (restr ts T).set t v
    | none => restr ts T

noncomputable def addWatch (kind i : Nat) (op : Op) (T : Tr Value) (v : Value) (M : Tr Blk) (nx : Nat) (ws : List Watch) : Option (List Watch) := match kind with
  | 0 => some ws
  | 1 => some (.rd i op T v :: ws)
  | _ => match M.get nx with
    | some (.cells false vs) => some (.new i nx vs :: ws)
    | _ => none

noncomputable def delDsts (T : Tr Value) : List Oper → Tr Value
  | [] => T
  | o :: rest => match o.dst with
    | none => delDsts T rest
    | some d => (delDsts T rest).del d

noncomputable def vdraw (call : Fr → Option Res) (P : Program) (X : Exts) (G : Nat) (dk : Bool) (rnd : Option Nat) (nt : Nat) (ops : Array Oper) (T0 : Tr Value) : List PStep → Tr Value → List Deferred → FrameMode → Tr Blk → Nat → List Watch → Nat → Option RR
  | [], T, ds, up, M, nx, ws, lm => bif ws.all (watchOk P G lm M) then some (.ok T ds up M nx) else none
  | s :: rest, T, ds, up, M, nx, ws, lm =>
    match ops[s.i]? with
    | none => none
    | some o => (match wantedA ops o T with
      | some false => (match putT nt T o.dst undef with
        | some T' => vdraw call P X G dk rnd nt ops T0 rest T' ds up M nx ws lm
        | none => none)
      | some true => (match Nat.beq s.kind 3 with
        | false => (match aquiet P G (restr (o.looksAt ops) T) M nx o.op with
          | some (v, M', nx') => (match putT nt T o.dst v, addWatch s.kind s.i o.op (restr (o.looksAt ops) T) v M' nx ws with
            | some T', some ws' => vdraw call P X G dk rnd nt ops T0 rest T' ds up M' nx' ws' lm
            | _, _ => none)
          | none => none)
        | true => (match ws.all (watchOk P G lm M) with
          | true => (match vop call P X G dk rnd (restr (o.looksAt ops) T) ds up M nx o.op with
            | some (.ok v ds' up' M' nx') => (match putT nt T o.dst v with
              | some T' => vdraw call P X G dk rnd nt ops T0 rest T' ds' up' M' nx' ws s.mask
              | none => none)
            | some (.pan ch up' M' nx') => some (.pan ch (delDsts T0 ops.toList) ds up' M' nx')
            | none => none)
          | false => none))
      | none => none)

/-! ### frames -/
inductive Stp where
  | cont (fr : Fr)
  | done (r : Res)
  | fail

noncomputable def leave (fr : Fr) (jump : Option Code) : Stp := match fr.rnd with
  | none => (match jump with
    | none => .cont { fr with mode := .returning }
    | some .ret => .cont { fr with mode := .returning }
    | _ => .fail)
  | some l => (match fr.M.get (l / 256) with
    | some (.loop al) => .done (.ret (.bool jump.isNone) fr.up (fr.M.set (l / 256) (.loop { al with st := if jump.isNone then .ready else .done, pending := jump })) fr.nx)
    | _ => .fail)

noncomputable def aResults (P : Program) (T : Tr Value) (M : Tr Blk) : List ResultVar → Option (List Value)
  | [] => some []
  | .tmp t :: rest => (match T.get t with
    | some v => (match aResults P T M rest with
      | some vs => some (v :: vs)
      | none => none)
    | none => none)
  | .cell a t :: rest => (match T.get a with
    | some p => (match aLoad P M t p with
      | some v => (match aResults P T M rest with
        | some vs => some (v :: vs)
        | none => none)
      | none => none)
    | none => none)

noncomputable def unwindA (call : Fr → Option Res) (P : Program) (fr : Fr) : Stp := match fr.ds with
  | { target := .collected r, args := _ } :: ds => (match fr.M.get (r / 256) with
    | some (.defs false) => .cont { fr with ds := ds, M := fr.M.set (r / 256) (.defs true) }
    | _ => .fail)
  | { target := .fn (.func f) cap, args } :: ds => (match enterFr P f (args.toList ++ cap.toList) true fr.mode fr.M fr.nx with
    | some g => (match call g with
      | some (.ret _ up' M' nx') => (match settle up' with
        | .run => .fail
        | m => .cont { fr with mode := m, ds := ds, M := M', nx := nx' })
      | some (.pan ch up' M' nx') => (match raised up' ch with
        | .run => .fail
        | m => .cont { fr with mode := m, ds := ds, M := M', nx := nx' })
      | none => .fail)
    | none => .fail)
  | _ :: _ => .fail
  | [] => (match fr.mode with
    | .returning => (match fr.rnd, P.funcs[fr.fn]? with
      | none, some fn => (match aResults P fr.T fr.M fn.results.toList with
        | some [v] => .done (.ret v fr.up fr.M fr.nx)
        | some vs => .done (.ret (.tuple vs.toArray) fr.up fr.M fr.nx)
        | none => .fail)
      | _, _ => .fail)
    | .panicking ch => (match P.funcs[fr.fn]? with
      | some _ => .done (.pan ch fr.up fr.M fr.nx)
      | none => .fail)
    | .run => .fail)

noncomputable def contRR (fr : Fr) (k : List Item) : Option RR → Stp
  | some (.ok T ds up M nx) => .cont { fr with T, ds, up, M, nx, todo := k }
  | some (.pan ch T ds up M nx) => .cont { fr with T, ds, up, M, nx, todo := [], mode := .panicking ch }
  | none => .fail

noncomputable def fstep (call : Fr → Option Res) (P : Program) (X : Exts) (G : Nat) (fr : Fr) : Stp := match fr.mode with
  | .run => (match fr.todo with
    | [] => leave fr none
    | .code c :: k => (match c with
      | .skip => .cont { fr with todo := k }
      | .label _ => .cont { fr with todo := k }
      | .seq a b => .cont { fr with todo := .code a :: .code b :: k }
      | .cond c x y => (match getv G fr.T c with
        | some (.bool true) => .cont { fr with todo := .code x :: k }
        | some (.bool false) => .cont { fr with todo := .code y :: k }
        | _ => .fail)
      | .block id body => .cont { fr with todo := .code body :: .inBlock id :: k }
      | .loop body => .cont { fr with todo := .code body :: .inLoop body :: k }
      | .scope body => .cont { fr with todo := .code body :: .inScope body :: k }
      | .exit id => (match exitTo id k with
        | some k' => .cont { fr with todo := k' }
        | none => leave fr (some (.exit id)))
      | .ret => leave fr (some .ret)
      | .region _ ops false => contRR fr k (vops call P X G fr.dk fr.rnd fr.nt ops ops.toList fr.T fr.ds fr.up fr.M fr.nx)
      | .region _ ops true => (match plan ops, dstsApart ops.toList with
        | some pl, true => contRR fr k (vdraw call P X G fr.dk fr.rnd fr.nt ops fr.T pl fr.T fr.ds fr.up fr.M fr.nx [] 0)
        | _, _ => .fail)
      | .rangeFunc f params assign body => (match fr.rnd, getv G fr.T f with
        | none, some (.func (.func g) first cap) =>
          (match enterFr P g (first.toList ++ [.func (.yield (256 * (fr.nx + 1))) #[] #[]] ++ cap.toList) false .run
            ((fr.M.set fr.nx (.defs false)).set (fr.nx + 1) (.loop { st := .ready, pending := none, fn := fr.fn, nt := fr.nt, T := fr.T, params := params.toList, assign, body, defers := 256 * fr.nx })) (fr.nx + 2) with
          | some g => (match call g with
            | some (.ret _ _ M' nx') => (match M'.get (fr.nx + 1) with
              | some (.loop al) => (match al.st with
                | .busy => .fail
                | _ => .cont { fr with todo := (al.pending.map Item.code).toList ++ k, ds := { target := .collected (256 * fr.nx), args := #[] } :: fr.ds, M := M'.set (fr.nx + 1) (.loop { al with st := .exhausted }), nx := nx' })
              | _ => .fail)
            | some (.pan ch _ M' nx') => .cont { fr with todo := [], mode := .panicking ch, ds := { target := .collected (256 * fr.nx), args := #[] } :: fr.ds, M := M', nx := nx' }
            | none => .fail)
          | none => .fail)
        | _, _ => .fail)
      | _ => .fail)
    | .inBlock _ :: k => .cont { fr with todo := k }
    | .inScope _ :: k => .cont { fr with todo := k }
    | .inLoop body :: k => .cont { fr with todo := .code body :: .inLoop body :: k }
    | .beginRound :: k => (match fr.rnd with
      | some l => (match fr.M.get (l / 256) with
        | some (.loop al) => (match al.st with
          | .ready => .cont { fr with todo := k, M := fr.M.set (l / 256) (.loop { al with st := .busy }) }
          | _ => .fail)
        | _ => .fail)
      | none => .fail)
    | _ => .fail)
  | _ => unwindA call P fr

noncomputable def vrun (P : Program) (X : Exts) (G : Nat) (n : Nat) : Fr → Option Res :=
  Nat.rec (motive := fun _ => Fr → Option Res) (fun _ => none) (fun _ ih fr => match fstep ih P X G fr with
    | .cont fr' => ih fr'
    | .done r => some r
    | .fail => none) n
end Go.Proofs.YtjbanjpklgpenaaGreatDoor.Vm
