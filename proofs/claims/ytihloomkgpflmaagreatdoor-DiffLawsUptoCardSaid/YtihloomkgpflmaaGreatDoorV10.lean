/-
  THE ABSTRACT INTERPRETER, part 2 of its second form: regions, frames, runs; they answer as the first form's do.
  THE ABSTRACT INTERPRETER, part 7: a call that was run by itself, from few blocks, is known where it is met again.
-/
import Derived.Test.YtihloomkgpflmaaGreatDoorV9
set_option linter.unusedSimpArgs false
set_option linter.unusedVariables false
namespace Go.Proofs.YtihloomkgpflmaaGreatDoor.Vm

section
variable (run : Run) (P : Program) (X : Exts) (G : Nat)

noncomputable def goOn (nt : Nat) (T : Tr Value) (ds : List Deferred) (up : FrameMode) (M : Tr Blk) (nx : Nat) (ih : Tr Value → List Deferred → FrameMode → Tr Blk → Nat → Option RR) (dst : Option Tmp) (v : Value) : Option RR := match putT nt T dst v with
  | some T' => ih T' ds up M nx
  | none => none
noncomputable def afterOp (nt : Nat) (T : Tr Value) (ds : List Deferred) (ih : Tr Value → List Deferred → FrameMode → Tr Blk → Nat → Option RR) (dst : Option Tmp) : Option OpR → Option RR
  | some (.ok v ds' up' M' nx') => goOn nt T ds' up' M' nx' ih dst v
  | some (.pan ch up' M' nx') => some (.pan ch T ds up' M' nx')
  | none => none
noncomputable def oneF (dk : Bool) (rnd : Option Nat) (nt : Nat) (ops : Array Oper) (o : Oper) (ih : Tr Value → List Deferred → FrameMode → Tr Blk → Nat → Option RR) (T : Tr Value) (ds : List Deferred) (up : FrameMode) (M : Tr Blk) (nx : Nat) : Option RR := match wantedA ops o T with
  | some true => afterOp nt T ds ih o.dst (vopF run P X G dk rnd T ds up M nx o.op)
  | some false => goOn nt T ds up M nx ih o.dst undef
  | none => none
noncomputable def vopsF (dk : Bool) (rnd : Option Nat) (nt : Nat) (ops : Array Oper) (l : List Oper) : Tr Value → List Deferred → FrameMode → Tr Blk → Nat → Option RR :=
  List.rec (motive := fun _ => Tr Value → List Deferred → FrameMode → Tr Blk → Nat → Option RR) (fun T ds up M nx => some (.ok T ds up M nx))
    (fun o _ ih T ds up M nx => oneF run P X G dk rnd nt ops o ih T ds up M nx) l
theorem vopsF_eq (dk : Bool) (rnd : Option Nat) (nt : Nat) (ops : Array Oper) : ∀ (l : List Oper) (T : Tr Value) (ds : List Deferred) (up : FrameMode) (M : Tr Blk) (nx : Nat), vopsF run P X G dk rnd nt ops l T ds up M nx = vops (callOf run) P X G dk rnd nt ops l T ds up M nx
  | [], T, ds, up, M, nx => rfl
  | o :: l, T, ds, up, M, nx => by
    rw [vops_cons]
    show oneF run P X G dk rnd nt ops o (vopsF run P X G dk rnd nt ops l) T ds up M nx = _
    have ih : vopsF run P X G dk rnd nt ops l = vops (callOf run) P X G dk rnd nt ops l := by
      funext T ds up M nx
      exact vopsF_eq dk rnd nt ops l T ds up M nx
    rw [ih]
    unfold oneF
    rw [vopF_eq]
    cases wantedA ops o T with
    | none => rfl
    | some b =>
      cases b with
      | false => (simp only [goOn]; cases putT nt T o.dst undef <;> rfl)
      | true =>
        simp only
        cases vop (callOf run) P X G dk rnd T ds up M nx o.op with
        | none => rfl
        | some r =>
          cases r with
          | ok v ds' up' M' nx' => (simp only [afterOp, goOn]; cases putT nt T o.dst v <;> rfl)
          | pan ch up' M' nx' => rfl

noncomputable def watchF (mask : Nat) (M : Tr Blk) : Watch → Bool
  | .rd i op T v => Nat.testBit mask i || (match aquietF P G T M 0 op with
    | some (u, _, _) => veq 1000000 v u
    | none => false)
  | .new i n vs => Nat.testBit mask i || (match M.get n with
    | some (.cells false us) => veqL 1000000 vs us
    | _ => false)
theorem watchF_eq (mask : Nat) (M : Tr Blk) (x : Watch) : watchF P G mask M x = watchOk P G mask M x := by
  cases x with
  | rd i op T v => (simp only [watchF, watchOk, aquietF_eq]; rfl)
  | new i n vs => rfl

abbrev Rest := Tr Value → List Deferred → FrameMode → Tr Blk → Nat → List Watch → Nat → Option RR
noncomputable def goOnW (nt : Nat) (T : Tr Value) (ds : List Deferred) (up : FrameMode) (M : Tr Blk) (nx : Nat) (ws : List Watch) (lm : Nat) (ih : Rest) (dst : Option Tmp) (v : Value) : Option RR := match putT nt T dst v with
  | some T' => ih T' ds up M nx ws lm
  | none => none
noncomputable def quietW (nt : Nat) (T : Tr Value) (ds : List Deferred) (up : FrameMode) (ws : List Watch) (lm : Nat) (ih : Rest) (s : PStep) (o : Oper) (Ti : Tr Value) (nx : Nat) : Option (Value × Tr Blk × Nat) → Option RR
  | some (v, M', nx') => (match addWatch s.kind s.i o.op Ti v M' nx ws with
    | some ws' => goOnW nt T ds up M' nx' ws' lm ih o.dst v
    | none => none)
  | none => none
noncomputable def effectW (nt : Nat) (ops : Array Oper) (T0 T : Tr Value) (ds : List Deferred) (ws : List Watch) (ih : Rest) (s : PStep) (o : Oper) : Option OpR → Option RR
  | some (.ok v ds' up' M' nx') => goOnW nt T ds' up' M' nx' ws s.mask ih o.dst v
  | some (.pan ch up' M' nx') => some (.pan ch (delDsts T0 ops.toList) ds up' M' nx')
  | none => none
noncomputable def stepW (dk : Bool) (rnd : Option Nat) (nt : Nat) (ops : Array Oper) (T0 : Tr Value) (s : PStep) (o : Oper) (ih : Rest) (T : Tr Value) (ds : List Deferred) (up : FrameMode) (M : Tr Blk) (nx : Nat) (ws : List Watch) (lm : Nat) : Option RR := match wantedA ops o T with
  | some false => goOnW nt T ds up M nx ws lm ih o.dst undef
  | some true => (match Nat.beq s.kind 3 with
    | false => quietW nt T ds up ws lm ih s o (restr (o.looksAt ops) T) nx (aquietF P G (restr (o.looksAt ops) T) M nx o.op)
    | true => (match ws.all (watchF P G lm M) with
      | true => effectW nt ops T0 T ds ws ih s o (vopF run P X G dk rnd (restr (o.looksAt ops) T) ds up M nx o.op)
      | false => none))
  | none => none
noncomputable def vdrawF (dk : Bool) (rnd : Option Nat) (nt : Nat) (ops : Array Oper) (T0 : Tr Value) (pl : List PStep) : Rest :=
  List.rec (motive := fun _ => Rest) (fun T ds up M nx ws lm => bif ws.all (watchF P G lm M) then some (.ok T ds up M nx) else none)
    (fun s _ ih T ds up M nx ws lm => match ops[s.i]? with
      | none => none
      | some o => stepW run P X G dk rnd nt ops T0 s o ih T ds up M nx ws lm) pl
theorem vdrawF_eq (dk : Bool) (rnd : Option Nat) (nt : Nat) (ops : Array Oper) (T0 : Tr Value) : ∀ (pl : List PStep) (T : Tr Value) (ds : List Deferred) (up : FrameMode) (M : Tr Blk) (nx : Nat) (ws : List Watch) (lm : Nat),
    vdrawF run P X G dk rnd nt ops T0 pl T ds up M nx ws lm = vdraw (callOf run) P X G dk rnd nt ops T0 pl T ds up M nx ws lm
  | [], T, ds, up, M, nx, ws, lm => by
    have e : watchF P G lm M = watchOk P G lm M := funext (watchF_eq P G lm M)
    show (bif ws.all (watchF P G lm M) then some (RR.ok T ds up M nx) else none) = _
    rw [e]; rfl
  | s :: rest, T, ds, up, M, nx, ws, lm => by
    have e : watchF P G lm M = watchOk P G lm M := funext (watchF_eq P G lm M)
    have ih : vdrawF run P X G dk rnd nt ops T0 rest = vdraw (callOf run) P X G dk rnd nt ops T0 rest := by
      funext T ds up M nx ws lm
      exact vdrawF_eq dk rnd nt ops T0 rest T ds up M nx ws lm
    show (match ops[s.i]? with
      | none => none
      | some o => stepW run P X G dk rnd nt ops T0 s o (vdrawF run P X G dk rnd nt ops T0 rest) T ds up M nx ws lm) = _
    rw [ih]
    simp only [vdraw]
    cases ops[s.i]? with
    | none => rfl
    | some o =>
      simp only [stepW, e, vopF_eq, aquietF_eq]
      cases wantedA ops o T with
      | none => rfl
      | some b =>
        cases b with
        | false => (simp only [goOnW]; cases putT nt T o.dst undef <;> rfl)
        | true =>
          simp only
          cases Nat.beq s.kind 3 with
          | false =>
            simp only
            cases aquiet P G (restr (o.looksAt ops) T) M nx o.op with
            | none => rfl
            | some r =>
              obtain ⟨v, M', nx'⟩ := r
              simp only [quietW, goOnW]
              cases putT nt T o.dst v <;> cases addWatch s.kind s.i o.op (restr (o.looksAt ops) T) v M' nx ws <;> rfl
          | true =>
            simp only
            cases ws.all (watchOk P G lm M) with
            | false => rfl
            | true =>
              simp only
              cases vop (callOf run) P X G dk rnd (restr (o.looksAt ops) T) ds up M nx o.op with
              | none => rfl
              | some r =>
                cases r with
                | ok v ds' up' M' nx' => (simp only [effectW, goOnW]; cases putT nt T o.dst v <;> rfl)
                | pan ch up' M' nx' => rfl

/-! ### frames -/
noncomputable def leaveF (ih : Run) (fn : FuncId) (nt : Nat) (T : Tr Value) (todo : List Item) (ds : List Deferred) (dk : Bool) (rnd : Option Nat) (up : FrameMode) (M : Tr Blk) (nx : Nat) (jump : Option Code) : Option Res := match rnd with
  | none => (match jump with
    | none => ih fn nt T todo ds .returning dk none up M nx
    | some .ret => ih fn nt T todo ds .returning dk none up M nx
    | _ => none)
  | some l => (match M.get (l / 256) with
    | some (.loop al) => some (.ret (.bool jump.isNone) up (M.set (l / 256) (.loop { al with st := if jump.isNone then .ready else .done, pending := jump })) nx)
    | _ => none)
noncomputable def condF (ih : Run) (fn : FuncId) (nt : Nat) (T : Tr Value) (k : List Item) (ds : List Deferred) (dk : Bool) (rnd : Option Nat) (up : FrameMode) (M : Tr Blk) (nx : Nat) (c : Operand) (x y : Code) : Option Res := match getv G T c with
  | some (.bool true) => ih fn nt T (.code x :: k) ds .run dk rnd up M nx
  | some (.bool false) => ih fn nt T (.code y :: k) ds .run dk rnd up M nx
  | _ => none
noncomputable def exitF (ih : Run) (fn : FuncId) (nt : Nat) (T : Tr Value) (k : List Item) (ds : List Deferred) (dk : Bool) (rnd : Option Nat) (up : FrameMode) (M : Tr Blk) (nx : Nat) (id : Nat) : Option Res := match exitTo id k with
  | some k' => ih fn nt T k' ds .run dk rnd up M nx
  | none => leaveF ih fn nt T (.code (.exit id) :: k) ds dk rnd up M nx (some (.exit id))
noncomputable def regF (ih : Run) (fn : FuncId) (nt : Nat) (k : List Item) (dk : Bool) (rnd : Option Nat) : Option RR → Option Res
  | some (.ok T ds up M nx) => ih fn nt T k ds .run dk rnd up M nx
  | some (.pan ch T ds up M nx) => ih fn nt T [] ds (.panicking ch) dk rnd up M nx
  | none => none
noncomputable def drawF (ih : Run) (fn : FuncId) (nt : Nat) (T : Tr Value) (k : List Item) (ds : List Deferred) (dk : Bool) (rnd : Option Nat) (up : FrameMode) (M : Tr Blk) (nx : Nat) (ops : Array Oper) : Option Res := match plan ops, dstsApart ops.toList with
  | some pl, true => regF ih fn nt k dk rnd (vdrawF ih P X G dk rnd nt ops T pl T ds up M nx [] 0)
  | _, _ => none
noncomputable def rangeEnd (ih : Run) (fn : FuncId) (nt : Nat) (T : Tr Value) (k : List Item) (ds : List Deferred) (dk : Bool) (up : FrameMode) (nx : Nat) : Option Res → Option Res
  | some (.ret _ _ M' nx') => (match M'.get (nx + 1) with
    | some (.loop al) => (match al.st with
      | .busy => none
      | _ => ih fn nt T ((al.pending.map Item.code).toList ++ k) ({ target := .collected (256 * nx), args := #[] } :: ds) .run dk none up (M'.set (nx + 1) (.loop { al with st := .exhausted })) nx')
    | _ => none)
  | some (.pan ch _ M' nx') => ih fn nt T [] ({ target := .collected (256 * nx), args := #[] } :: ds) (.panicking ch) dk none up M' nx'
  | none => none
noncomputable def rangeF (ih : Run) (fn : FuncId) (nt : Nat) (T : Tr Value) (k : List Item) (ds : List Deferred) (dk : Bool) (rnd : Option Nat) (up : FrameMode) (M : Tr Blk) (nx : Nat) (f : Operand) (params : Array Tmp) (assign body : Code) : Option Res := match rnd, getv G T f with
  | none, some (.func (.func g) first cap) =>
    (match enterFr P g (first.toList ++ [.func (.yield (256 * (nx + 1))) #[] #[]] ++ cap.toList) false .run
      ((M.set nx (.defs false)).set (nx + 1) (.loop { st := .ready, pending := none, fn := fn, nt := nt, T := T, params := params.toList, assign, body, defers := 256 * nx })) (nx + 2) with
    | some g => rangeEnd ih fn nt T k ds dk up nx (callOf ih g)
    | none => none)
  | _, _ => none
noncomputable def beginF (ih : Run) (fn : FuncId) (nt : Nat) (T : Tr Value) (k : List Item) (ds : List Deferred) (dk : Bool) (rnd : Option Nat) (up : FrameMode) (M : Tr Blk) (nx : Nat) : Option Res := match rnd with
  | some l => (match M.get (l / 256) with
    | some (.loop al) => (match al.st with
      | .ready => ih fn nt T k ds .run dk (some l) up (M.set (l / 256) (.loop { al with st := .busy })) nx
      | _ => none)
    | _ => none)
  | none => none
noncomputable def codeF (ih : Run) (fn : FuncId) (nt : Nat) (T : Tr Value) (c : Code) (k : List Item) (ds : List Deferred) (dk : Bool) (rnd : Option Nat) (up : FrameMode) (M : Tr Blk) (nx : Nat) : Option Res := match c with
  | .skip => ih fn nt T k ds .run dk rnd up M nx
  | .label _ => ih fn nt T k ds .run dk rnd up M nx
  | .seq a b => ih fn nt T (.code a :: .code b :: k) ds .run dk rnd up M nx
  | .cond c x y => condF G ih fn nt T k ds dk rnd up M nx c x y
  | .block id body => ih fn nt T (.code body :: .inBlock id :: k) ds .run dk rnd up M nx
  | .loop body => ih fn nt T (.code body :: .inLoop body :: k) ds .run dk rnd up M nx
  | .scope body => ih fn nt T (.code body :: .inScope body :: k) ds .run dk rnd up M nx
  | .exit id => exitF ih fn nt T k ds dk rnd up M nx id
  | .ret => leaveF ih fn nt T (.code .ret :: k) ds dk rnd up M nx (some .ret)
  | .region _ ops false => regF ih fn nt k dk rnd (vopsF ih P X G dk rnd nt ops ops.toList T ds up M nx)
  | .region _ ops true => drawF P X G ih fn nt T k ds dk rnd up M nx ops
  | .rangeFunc f params assign body => rangeF P G ih fn nt T k ds dk rnd up M nx f params assign body
  | _ => none
noncomputable def runF (ih : Run) (fn : FuncId) (nt : Nat) (T : Tr Value) (todo : List Item) (ds : List Deferred) (dk : Bool) (rnd : Option Nat) (up : FrameMode) (M : Tr Blk) (nx : Nat) : Option Res := match todo with
  | [] => leaveF ih fn nt T [] ds dk rnd up M nx none
  | .code c :: k => codeF P X G ih fn nt T c k ds dk rnd up M nx
  | .inBlock _ :: k => ih fn nt T k ds .run dk rnd up M nx
  | .inScope _ :: k => ih fn nt T k ds .run dk rnd up M nx
  | .inLoop body :: k => ih fn nt T (.code body :: .inLoop body :: k) ds .run dk rnd up M nx
  | .beginRound :: k => beginF ih fn nt T k ds dk rnd up M nx
  | _ => none
noncomputable def unwF (ih : Run) (fr : Fr) : Option Res := match unwindA (callOf ih) P fr with
  | .cont fr' => callOf ih fr'
  | .done r => some r
  | .fail => none
noncomputable def turnF (ih : Run) (fn : FuncId) (nt : Nat) (T : Tr Value) (todo : List Item) (ds : List Deferred) (mode : FrameMode) (dk : Bool) (rnd : Option Nat) (up : FrameMode) (M : Tr Blk) (nx : Nat) : Option Res := match mode with
  | .run => runF P X G ih fn nt T todo ds dk rnd up M nx
  | m => unwF P ih ⟨fn, nt, T, todo, ds, m, dk, rnd, up, M, nx⟩

theorem leaveF_eq (ih : Run) (fn : FuncId) (nt : Nat) (T : Tr Value) (todo : List Item) (ds : List Deferred) (dk : Bool) (rnd : Option Nat) (up : FrameMode) (M : Tr Blk) (nx : Nat) (jump : Option Code) : leaveF ih fn nt T todo ds dk rnd up M nx jump = (match leave ⟨fn, nt, T, todo, ds, .run, dk, rnd, up, M, nx⟩ jump with
    | .cont fr' => callOf ih fr'
    | .done r => some r
    | .fail => none) := by
  unfold leaveF leave
  cases rnd with
  | none =>
    simp only
    cases jump with
    | none => rfl
    | some c => cases c <;> rfl
  | some l =>
    simp only
    cases M.get (l / 256) with
    | none => rfl
    | some x => cases x <;> rfl

theorem regF_eq (ih : Run) (fr : Fr) (hm : fr.mode = .run) (k : List Item) (r : Option RR) : regF ih fr.fn fr.nt k fr.dk fr.rnd r = (match contRR fr k r with
    | .cont fr' => callOf ih fr'
    | .done r => some r
    | .fail => none) := by
  obtain ⟨fn, nt, T, todo, ds, mode, dk, rnd, up, M, nx⟩ := fr
  simp only at hm
  subst hm
  cases r with
  | none => rfl
  | some r => cases r <;> rfl

theorem turnF_eq (ih : Run) (fn : FuncId) (nt : Nat) (T : Tr Value) (todo : List Item) (ds : List Deferred) (mode : FrameMode) (dk : Bool) (rnd : Option Nat) (up : FrameMode) (M : Tr Blk) (nx : Nat) : turnF P X G ih fn nt T todo ds mode dk rnd up M nx = (match fstep (callOf ih) P X G ⟨fn, nt, T, todo, ds, mode, dk, rnd, up, M, nx⟩ with
    | .cont fr' => callOf ih fr'
    | .done r => some r
    | .fail => none) := by
  cases mode with
  | returning => rfl
  | panicking ch => rfl
  | run =>
    show runF P X G ih fn nt T todo ds dk rnd up M nx = _
    unfold runF
    cases todo with
    | nil => exact leaveF_eq ih fn nt T [] ds dk rnd up M nx none
    | cons i k =>
      cases i <;> first | rfl | skip
      case beginRound =>
        simp only [beginF, fstep]
        cases rnd with
        | none => rfl
        | some l =>
          simp only
          cases M.get (l / 256) with
          | none => rfl
          | some x =>
            cases x <;> first | rfl | skip
            rename_i al
            simp only
            cases al.st <;> rfl
      case code c =>
        simp only
        unfold codeF
        cases c <;> first | rfl | skip
        case cond c x y =>
          simp only [condF, fstep]
          cases getv G T c with
          | none => rfl
          | some v => cases v <;> first | rfl | (rename_i b; cases b <;> rfl)
        case exit id =>
          simp only [exitF, fstep]
          cases exitTo id k with
          | none => exact leaveF_eq ih fn nt T (.code (.exit id) :: k) ds dk rnd up M nx (some (.exit id))
          | some k' => rfl
        case ret => exact leaveF_eq ih fn nt T (.code .ret :: k) ds dk rnd up M nx (some .ret)
        case region id ops draw =>
          cases draw with
          | false =>
            simp only [fstep]
            rw [vopsF_eq]
            exact regF_eq ih ⟨fn, nt, T, .code (.region id ops false) :: k, ds, .run, dk, rnd, up, M, nx⟩ rfl k _
          | true =>
            simp only [fstep, drawF]
            cases plan ops with
            | none => rfl
            | some pl =>
              cases dstsApart ops.toList with
              | false => rfl
              | true =>
                simp only
                rw [vdrawF_eq]
                exact regF_eq ih ⟨fn, nt, T, .code (.region id ops true) :: k, ds, .run, dk, rnd, up, M, nx⟩ rfl k _
        case rangeFunc f params assign body =>
          simp only [fstep, rangeF]
          cases rnd with
          | some l => rfl
          | none =>
            cases getv G T f with
            | none => rfl
            | some fv =>
              cases fv <;> first | rfl | skip
              rename_i fn' first cap
              cases fn' <;> first | rfl | skip
              rename_i g
              simp only
              generalize enterFr P g (first.toList ++ [.func (.yield (256 * (nx + 1))) #[] #[]] ++ cap.toList) false .run ((M.set nx (.defs false)).set (nx + 1) (.loop { st := .ready, pending := none, fn := fn, nt := nt, T := T, params := params.toList, assign, body, defers := 256 * nx })) (nx + 2) = e
              cases e with
              | none => rfl
              | some g' =>
                simp only [rangeEnd]
                cases callOf ih g' with
                | none => rfl
                | some r =>
                  cases r with
                  | ret v up' M' nx' =>
                    simp only
                    cases M'.get (nx + 1) with
                    | none => rfl
                    | some x =>
                      cases x <;> first | rfl | skip
                      rename_i al
                      simp only
                      cases al.st <;> rfl
                  | pan ch up' M' nx' => rfl

/-! ### raw -/
noncomputable def forceR {β : Type} (v : Value) (k : β) : β := vInt k (fun _ n => iNat k (fun m => bI (Nat.beq m 0) k k) n) v
theorem forceR_eq {β : Type} (v : Value) (k : β) : forceR v k = k := by
  cases v <;> first | rfl | skip
  rename_i kk n
  cases n with
  | negSucc m => rfl
  | ofNat m =>
    show bI (Nat.beq m 0) k k = k
    rw [bI_eq]
    cases Nat.beq m 0 <;> rfl
noncomputable def goOnR (nt : Nat) (T : Tr Value) (ds : List Deferred) (up : FrameMode) (M : Tr Blk) (nx : Nat) (ih : Tr Value → List Deferred → FrameMode → Tr Blk → Nat → Option RR) (dst : Option Tmp) (v : Value) : Option RR :=
  Option.rec (motive := fun _ => Option RR) (ih T ds up M nx) (fun d => bI (Nat.ble (Nat.succ d) nt) (forceR v (ih (T.set d v) ds up M nx)) none) dst
theorem goOnR_eq (nt : Nat) (T : Tr Value) (ds : List Deferred) (up : FrameMode) (M : Tr Blk) (nx : Nat) (ih : Tr Value → List Deferred → FrameMode → Tr Blk → Nat → Option RR) (dst : Option Tmp) (v : Value) : goOnR nt T ds up M nx ih dst v = goOn nt T ds up M nx ih dst v := by
  cases dst with
  | none => rfl
  | some d =>
    show bI (Nat.ble (Nat.succ d) nt) (forceR v (ih (T.set d v) ds up M nx)) none = _
    rw [bI_eq, forceR_eq]
    simp only [goOn, putT]
    have : Nat.blt d nt = Nat.ble (Nat.succ d) nt := rfl
    rw [this]
    cases Nat.ble (Nat.succ d) nt with
    | false => rfl
    | true => simp only [cond_true, forced_eq]
noncomputable def afterR (nt : Nat) (T : Tr Value) (ds : List Deferred) (ih : Tr Value → List Deferred → FrameMode → Tr Blk → Nat → Option RR) (dst : Option Tmp) (r : Option OpR) : Option RR :=
  oB r fun r => OpR.rec (motive := fun _ => Option RR) (fun v ds' up' M' nx' => goOnR nt T ds' up' M' nx' ih dst v) (fun ch up' M' nx' => some (.pan ch T ds up' M' nx')) r
theorem afterR_eq (nt : Nat) (T : Tr Value) (ds : List Deferred) (ih : Tr Value → List Deferred → FrameMode → Tr Blk → Nat → Option RR) (dst : Option Tmp) (r : Option OpR) : afterR nt T ds ih dst r = afterOp nt T ds ih dst r := by
  cases r with
  | none => rfl
  | some r =>
    cases r with
    | ok v ds' up' M' nx' => exact goOnR_eq nt T ds' up' M' nx' ih dst v
    | pan ch up' M' nx' => rfl
noncomputable def isB (v : Value) : Bool → Bool :=
  Value.rec (motive_1 := fun _ => Bool → Bool) (motive_2 := fun _ => Unit) (motive_3 := fun _ => Unit) (fun b want => Bool.rec (motive := fun _ => Bool → Bool) (fun w => bNot w) (fun w => w) b want) (fun _ _ _ => false) (fun _ _ _ => false) (fun _ _ _ _ => false) (fun _ _ => false) (fun _ _ => false) (fun _ _ _ _ => false) (fun _ _ => false) (fun _ _ => false) (fun _ _ _ _ _ _ => false) (fun _ => false) (fun _ _ _ _ => false) (fun _ => false) (fun _ _ _ => false) (fun _ _ _ => false) (fun _ _ => ()) () (fun _ _ _ _ => ()) v
noncomputable def wantedR (ops : Array Oper) (o : Oper) (T : Tr Value) : Option Bool := Option.rec (motive := fun _ => Array Oper → Tr Value → Option Bool) (fun _ _ => some true)
  (fun g => Prod.rec (motive := fun _ => Array Oper → Tr Value → Option Bool) (fun j want ops T => oB (oB ops[j]? (·.dst)) fun d => oB (T.get d) fun v => some (isB v want)) g) o.guard ops T
theorem wantedR_eq (ops : Array Oper) (o : Oper) (T : Tr Value) : wantedR ops o T = wantedA ops o T := by
  unfold wantedR wantedA
  cases o.guard with
  | none => rfl
  | some g =>
    obtain ⟨j, want⟩ := g
    show oB (oB ops[j]? (·.dst)) _ = _
    have : oB ops[j]? (·.dst) = (ops[j]?).bind (·.dst) := by cases ops[j]? <;> rfl
    rw [this]
    simp only
    cases (ops[j]?).bind (·.dst) with
    | none => rfl
    | some d =>
      show oB (T.get d) _ = _
      simp only
      cases T.get d with
      | none => rfl
      | some v =>
        show some (isB v want) = _
        cases v <;> first | rfl | skip
        rename_i b
        cases b <;> cases want <;> rfl
noncomputable def oneR (dk : Bool) (rnd : Option Nat) (nt : Nat) (ops : Array Oper) (o : Oper) (ih : Tr Value → List Deferred → FrameMode → Tr Blk → Nat → Option RR) (T : Tr Value) (ds : List Deferred) (up : FrameMode) (M : Tr Blk) (nx : Nat) : Option RR :=
  Option.rec (motive := fun _ => Option RR) none (fun w => Bool.rec (motive := fun _ => Option RR) (goOnR nt T ds up M nx ih o.dst undef) (afterR nt T ds ih o.dst (vopR run P X G dk rnd T ds up M nx o.op)) w) (wantedR ops o T)
theorem oneR_eq (dk : Bool) (rnd : Option Nat) (nt : Nat) (ops : Array Oper) (o : Oper) (ih : Tr Value → List Deferred → FrameMode → Tr Blk → Nat → Option RR) (T : Tr Value) (ds : List Deferred) (up : FrameMode) (M : Tr Blk) (nx : Nat) : oneR run P X G dk rnd nt ops o ih T ds up M nx = oneF run P X G dk rnd nt ops o ih T ds up M nx := by
  unfold oneR oneF
  rw [wantedR_eq, afterR_eq, goOnR_eq, vopR_eq]
  cases wantedA ops o T with
  | none => rfl
  | some b => cases b <;> rfl
noncomputable def vopsR (dk : Bool) (rnd : Option Nat) (nt : Nat) (ops : Array Oper) (l : List Oper) : Tr Value → List Deferred → FrameMode → Tr Blk → Nat → Option RR :=
  List.rec (motive := fun _ => Tr Value → List Deferred → FrameMode → Tr Blk → Nat → Option RR) (fun T ds up M nx => some (.ok T ds up M nx))
    (fun o _ ih T ds up M nx => oneR run P X G dk rnd nt ops o ih T ds up M nx) l
theorem vopsR_eq (dk : Bool) (rnd : Option Nat) (nt : Nat) (ops : Array Oper) : ∀ (l : List Oper), vopsR run P X G dk rnd nt ops l = vopsF run P X G dk rnd nt ops l
  | [] => rfl
  | o :: l => by
    funext T ds up M nx
    show oneR run P X G dk rnd nt ops o (vopsR run P X G dk rnd nt ops l) T ds up M nx = oneF run P X G dk rnd nt ops o (vopsF run P X G dk rnd nt ops l) T ds up M nx
    rw [vopsR_eq dk rnd nt ops l, oneR_eq]
noncomputable def regR (ih : Run) (fn : FuncId) (nt : Nat) (k : List Item) (dk : Bool) (rnd : Option Nat) (r : Option RR) : Option Res :=
  oB r fun r => RR.rec (motive := fun _ => Option Res) (fun T ds up M nx => ih fn nt T k ds .run dk rnd up M nx) (fun ch T ds up M nx => ih fn nt T [] ds (.panicking ch) dk rnd up M nx) r
theorem regR_eq (ih : Run) (fn : FuncId) (nt : Nat) (k : List Item) (dk : Bool) (rnd : Option Nat) (r : Option RR) : regR ih fn nt k dk rnd r = regF ih fn nt k dk rnd r := by
  cases r with
  | none => rfl
  | some r => cases r <;> rfl
noncomputable def exitR (id : Nat) (l : List Item) : Option (List Item) := List.rec (motive := fun _ => Option (List Item)) none
  (fun i k ih => Item.rec (motive := fun _ => Option (List Item)) (fun _ => ih) (fun id' => bI (Nat.beq id' id) (some k) ih) (fun _ => ih) (fun _ => ih) (fun _ _ => ih) (fun _ => ih) (fun _ => ih) ih (fun _ _ _ _ => ih) (fun _ _ => ih) i) l
theorem exitR_eq (id : Nat) : ∀ l : List Item, exitR id l = exitTo id l
  | [] => rfl
  | i :: k => by
    have ih := exitR_eq id k
    cases i <;> first | exact ih | skip
    rename_i id'
    show bI (Nat.beq id' id) (some k) (exitR id k) = _
    rw [bI_eq, ih]
    simp only [exitTo]
    by_cases e : id' = id
    · subst e
      have : Nat.beq id' id' = true := by rw [Nat.beq_eq]
      rw [this]; simp
    · have : Nat.beq id' id = false := by rw [← Bool.not_eq_true, Nat.beq_eq]; exact e
      rw [this]; simp [e]
abbrev CArm := Run → Program → Exts → Nat → FuncId → Nat → Tr Value → List Item → List Deferred → Bool → Option Nat → FrameMode → Tr Blk → Nat → Option Res
noncomputable def crest (c : Code) : CArm := fun ih P X G fn nt T k ds dk rnd up M nx => codeF P X G ih fn nt T c k ds dk rnd up M nx
noncomputable def condR (ih : Run) (G : Nat) (fn : FuncId) (nt : Nat) (T : Tr Value) (k : List Item) (ds : List Deferred) (dk : Bool) (rnd : Option Nat) (up : FrameMode) (M : Tr Blk) (nx : Nat) (c : Operand) (x y : Code) : Option Res := oB (opd G T c) fun v =>
  Value.rec (motive_1 := fun _ => Option Res) (motive_2 := fun _ => Unit) (motive_3 := fun _ => Unit) (fun b => ih fn nt T (.code (bI b x y) :: k) ds .run dk rnd up M nx) (fun _ _ => none) (fun _ _ => none) (fun _ _ _ => none) (fun _ => none) (fun _ => none) (fun _ _ _ => none) (fun _ => none) (fun _ => none) (fun _ _ _ _ _ => none) none (fun _ _ _ => none) none (fun _ _ => none) (fun _ _ => none) (fun _ _ => ()) () (fun _ _ _ _ => ()) v
theorem condR_eq (ih : Run) (fn : FuncId) (nt : Nat) (T : Tr Value) (k : List Item) (ds : List Deferred) (dk : Bool) (rnd : Option Nat) (up : FrameMode) (M : Tr Blk) (nx : Nat) (c : Operand) (x y : Code) : condR ih G fn nt T k ds dk rnd up M nx c x y = condF G ih fn nt T k ds dk rnd up M nx c x y := by
  unfold condR condF
  rw [opd_eq]
  cases getv G T c with
  | none => rfl
  | some v => cases v <;> first | rfl | (rename_i b; cases b <;> rfl)
noncomputable def codeR (ih : Run) (fn : FuncId) (nt : Nat) (T : Tr Value) (c : Code) (k : List Item) (ds : List Deferred) (dk : Bool) (rnd : Option Nat) (up : FrameMode) (M : Tr Blk) (nx : Nat) : Option Res :=
  Code.rec (motive := fun _ => CArm) (fun ih _ _ _ fn nt T k ds dk rnd up M nx => ih fn nt T k ds .run dk rnd up M nx)
    (fun id ops draw ih P X G fn nt T k ds dk rnd up M nx => bI draw (codeF P X G ih fn nt T (.region id ops draw) k ds dk rnd up M nx) (regR ih fn nt k dk rnd (vopsR ih P X G dk rnd nt ops ops.toList T ds up M nx)))
    (fun a b _ _ ih _ _ _ fn nt T k ds dk rnd up M nx => ih fn nt T (.code a :: .code b :: k) ds .run dk rnd up M nx)
    (fun c x y _ _ ih _ _ G fn nt T k ds dk rnd up M nx => condR ih G fn nt T k ds dk rnd up M nx c x y)
    (fun id body _ ih _ _ _ fn nt T k ds dk rnd up M nx => ih fn nt T (.code body :: .inBlock id :: k) ds .run dk rnd up M nx)
    (fun body _ ih _ _ _ fn nt T k ds dk rnd up M nx => ih fn nt T (.code body :: .inLoop body :: k) ds .run dk rnd up M nx)
    (fun f ps a b _ _ => crest (.rangeFunc f ps a b))
    (fun id ih P X G fn nt T k ds dk rnd up M nx => Option.rec (motive := fun _ => Option Res) (codeF P X G ih fn nt T (.exit id) k ds dk rnd up M nx) (fun k' => ih fn nt T k' ds .run dk rnd up M nx) (exitR id k))
    (fun body _ ih _ _ _ fn nt T k ds dk rnd up M nx => ih fn nt T (.code body :: .inScope body :: k) ds .run dk rnd up M nx)
    (fun l => crest (.label l)) (fun l => crest (.goto l)) (crest .ret) (fun w => crest (.refuse w)) c ih P X G fn nt T k ds dk rnd up M nx
theorem codeR_eq (ih : Run) (fn : FuncId) (nt : Nat) (T : Tr Value) (c : Code) (k : List Item) (ds : List Deferred) (dk : Bool) (rnd : Option Nat) (up : FrameMode) (M : Tr Blk) (nx : Nat) : codeR P X G ih fn nt T c k ds dk rnd up M nx = codeF P X G ih fn nt T c k ds dk rnd up M nx := by
  cases c <;> first | rfl | skip
  case region id ops draw =>
    cases draw with
    | true => rfl
    | false =>
      show regR ih fn nt k dk rnd (vopsR ih P X G dk rnd nt ops ops.toList T ds up M nx) = regF ih fn nt k dk rnd (vopsF ih P X G dk rnd nt ops ops.toList T ds up M nx)
      rw [regR_eq, vopsR_eq]
  case cond c x y => exact condR_eq G ih fn nt T k ds dk rnd up M nx c x y
  case exit id =>
    show Option.rec (motive := fun _ => Option Res) (codeF P X G ih fn nt T (.exit id) k ds dk rnd up M nx) (fun k' => ih fn nt T k' ds .run dk rnd up M nx) (exitR id k) = _
    rw [exitR_eq]
    simp only [codeF, exitF]
    cases exitTo id k <;> rfl
abbrev TArm := Run → Program → Exts → Nat → FuncId → Nat → Tr Value → List Deferred → Bool → Option Nat → FrameMode → Tr Blk → Nat → Option Res
noncomputable def trest (i : Item) (k : List Item) : TArm := fun ih P X G fn nt T ds dk rnd up M nx => runF P X G ih fn nt T (i :: k) ds dk rnd up M nx
noncomputable def itemR (i : Item) (k : List Item) : TArm := Item.rec (motive := fun _ => TArm) (fun c ih P X G fn nt T ds dk rnd up M nx => codeR P X G ih fn nt T c k ds dk rnd up M nx)
  (fun _ ih _ _ _ fn nt T ds dk rnd up M nx => ih fn nt T k ds .run dk rnd up M nx)
  (fun body ih _ _ _ fn nt T ds dk rnd up M nx => ih fn nt T (.code body :: .inLoop body :: k) ds .run dk rnd up M nx)
  (fun _ ih _ _ _ fn nt T ds dk rnd up M nx => ih fn nt T k ds .run dk rnd up M nx)
  (fun a b => trest (.inRegion a b) k) (fun l => trest (.inRangeFunc l) k) (fun l => trest (.endRangeFunc l) k) (trest .beginRound k) (fun a b c d => trest (.call a b c d) k) (fun a b => trest (.extern a b) k) i
theorem itemR_eq (i : Item) (k : List Item) (ih : Run) (fn : FuncId) (nt : Nat) (T : Tr Value) (ds : List Deferred) (dk : Bool) (rnd : Option Nat) (up : FrameMode) (M : Tr Blk) (nx : Nat) : itemR i k ih P X G fn nt T ds dk rnd up M nx = runF P X G ih fn nt T (i :: k) ds dk rnd up M nx := by
  cases i <;> first | rfl | skip
  exact codeR_eq P X G ih fn nt T _ k ds dk rnd up M nx
noncomputable def turnR (ih : Run) (fn : FuncId) (nt : Nat) (T : Tr Value) (todo : List Item) (ds : List Deferred) (mode : FrameMode) (dk : Bool) (rnd : Option Nat) (up : FrameMode) (M : Tr Blk) (nx : Nat) : Option Res :=
  FrameMode.rec (motive := fun _ => Option Res) (List.rec (motive := fun _ => Option Res) (runF P X G ih fn nt T [] ds dk rnd up M nx) (fun i k _ => itemR i k ih P X G fn nt T ds dk rnd up M nx) todo)
    (turnF P X G ih fn nt T todo ds .returning dk rnd up M nx) (fun ch => turnF P X G ih fn nt T todo ds (.panicking ch) dk rnd up M nx) mode
theorem turnR_eq (ih : Run) (fn : FuncId) (nt : Nat) (T : Tr Value) (todo : List Item) (ds : List Deferred) (mode : FrameMode) (dk : Bool) (rnd : Option Nat) (up : FrameMode) (M : Tr Blk) (nx : Nat) : turnR P X G ih fn nt T todo ds mode dk rnd up M nx = turnF P X G ih fn nt T todo ds mode dk rnd up M nx := by
  cases mode with
  | returning => rfl
  | panicking ch => rfl
  | run =>
    cases todo with
    | nil => rfl
    | cons i k => exact itemR_eq P X G i k ih fn nt T ds dk rnd up M nx
noncomputable def vrunR (n : Nat) : Run := Nat.rec (motive := fun _ => Run) (fun _ _ _ _ _ _ _ _ _ _ _ => none) (fun _ ih fn nt T todo ds mode dk rnd up M nx => turnR P X G ih fn nt T todo ds mode dk rnd up M nx) n
theorem vrunR_eq : ∀ (n : Nat), callOf (vrunR P X G n) = vrun P X G n
  | 0 => rfl
  | n + 1 => by
    have ih := vrunR_eq n
    funext fr
    rw [vrun_succ, ← ih]
    obtain ⟨fn, nt, T, todo, ds, mode, dk, rnd, up, M, nx⟩ := fr
    show turnR P X G (vrunR P X G n) fn nt T todo ds mode dk rnd up M nx = _
    rw [turnR_eq, turnF_eq]
    rfl
end

/-- A call of function f, by the interpreter's second form, is true (false). -/
noncomputable def ranR (P : Program) (X : Exts) (G n : Nat) (tabs : List (Nat × List Value)) (f : FuncId) (args : List Value) (t : Bool) : Bool := match enterFr P f args false .run (Mof tabs) G with
  | some fr => answers t (callOf (vrunR P X G n) fr)
  | none => false
theorem ranR_eq {P : Program} {X : Exts} {G n : Nat} {tabs : List (Nat × List Value)} {f : FuncId} {args : List Value} {t : Bool} (h : ranR P X G n tabs f args t = true) : ran P X G n tabs f args t = true := by
  unfold ranR at h
  unfold ran
  rw [vrunR_eq] at h
  exact h
end Go.Proofs.YtihloomkgpflmaaGreatDoor.Vm

namespace Go.Proofs.YtihloomkgpflmaaGreatDoor.Vm

/-- A call that knows few blocks does the same among more of them. -/
theorem Post.wider {w0 : World} {ι κ : Iota} {M M0 M0' M1 : Tr Blk} {nx nx' : Nat} {w w' : World} (hR : R w0 ι M w) (hsub : ∀ n x, M0.get n = some x → M.get n = some x) (hlive : ∀ n x, M0.get n = some x → x.isDead = false) (hf : FreshU ι nx)
    (hp : Post w0 ι M0 nx w κ M0' nx' w') (hM1 : ∀ n x, M1.get n = some x → M0'.get n = some x ∨ (M.get n = some x ∧ M0.get n = none ∧ n < nx)) : Post w0 ι M nx w κ M1 nx' w' := by
  have old : ∀ b l, b / 256 < nx → κ b = some l → ι b = some l := by
    intro b l hb hk
    cases hi : ι b with
    | none => have := (hp.new b l hi hk).1; omega
    | some l' => have := hp.ext b l' hi; rw [hk] at this; rw [this]
  have blk : ∀ b x l, M.get (b / 256) = some x → ι b = some l → l.blk < w.heap.size := by
    intro b x l hm hi
    obtain ⟨o, h1, _⟩ := hR.live b x l hm hi
    exact (Array.getElem?_eq_some_iff.1 h1).1
  -- a block that lies as the call left it lies nowhere where one lies that the call did not know
  have apart : ∀ b b' x x' l l', M0'.get (b / 256) = some x → x.isDead = false → κ b = some l → M.get (b' / 256) = some x' → M0.get (b' / 256) = none → b' / 256 < nx → x'.isDead = false → κ b' = some l' → l.blk = l'.blk → False := by
    intro b b' x x' l l' hx hxd hk hx' hn' hlt hxd' hk' e
    have hi' := old b' l' hlt hk'
    cases hi : ι b with
    | none =>
      rcases (hp.new b l hi hk).2 with h | ⟨b2, x2, l2, g1, g2, g3⟩
      · have := blk b' x' l' hx' hi'; omega
      · have h2 := hR.inj b2 b' x2 x' l2 l' (hsub _ _ g1) hx' (hlive _ _ g1) hxd' g2 hi' (by omega)
        subst h2
        rw [g1] at hn'; cases hn'
    | some l2 =>
      have := hp.ext b l2 hi
      rw [hk] at this; simp at this; subst this
      rcases hp.dom (b / 256) (by rw [hx]; simp) with h | ⟨h, _⟩
      · cases hm : M0.get (b / 256) with
        | none => exact h hm
        | some y =>
          have h2 := hR.inj b b' y x' l l' (hsub _ _ hm) hx' (hlive _ _ hm) hxd' hi hi' e
          subst h2
          rw [hm] at hn'; cases hn'
      · rw [hf b h] at hi; cases hi
  refine ⟨hp.ext, ?_, ?_, hp.le, ⟨hp.rel.kinds, hp.rel.uniq, ?_, ?_, ?_, hp.rel.size, hp.rel.old, hp.rel.os, hp.rel.output, hp.rel.tape, ?_⟩, ?_, hp.size, ?_⟩
  · intro b l hi hk
    obtain ⟨h1, h2⟩ := hp.new b l hi hk
    refine ⟨h1, h2.imp_right ?_⟩
    rintro ⟨b', x', l', g1, g2, g3⟩
    exact ⟨b', x', l', hsub _ _ g1, g2, g3⟩
  · intro n hn
    cases hm : M1.get n with
    | none => exact absurd hm hn
    | some x =>
      rcases hM1 n x hm with h | ⟨h, _, _⟩
      · rcases hp.dom n (by rw [h]; simp) with g | g
        · left
          intro hmn
          cases hm0 : M0.get n with
          | none => exact g hm0
          | some y => rw [hsub n y hm0] at hmn; cases hmn
        · exact .inr g
      · exact .inl (by rw [h]; simp)
  · intro b x l hm hk
    rcases hM1 _ x hm with h | ⟨h, hn, hlt⟩
    · exact hp.rel.live b x l h hk
    · have hi := old b l hlt hk
      obtain ⟨o, h1, h2⟩ := hR.live b x l h hi
      have hb := blk b x l h hi
      cases hd : x.isDead with
      | true =>
        obtain ⟨o', ho'⟩ : ∃ o', w'.heap[l.blk]? = some o' := ⟨_, Array.getElem?_eq_getElem (Nat.lt_of_lt_of_le hb hp.size)⟩
        cases x <;> simp [Blk.isDead] at hd
        exact ⟨o', ho', .dead _ _⟩
      | false =>
        refine ⟨o, ?_, h2.mono hp.ext⟩
        rw [hp.frame l.blk hb (fun b' x' l' g1 g2 e => ?_)]
        · exact h1
        · have h2 := hR.inj b' b x' x l' l (hsub _ _ g1) h (hlive _ _ g1) hd g2 hi e
          subst h2
          rw [g1] at hn; cases hn
  · intro b b' x x' l l' hm hm' hd hd' hk hk' e
    rcases hM1 _ x hm with h | ⟨h, hn, hlt⟩ <;> rcases hM1 _ x' hm' with h' | ⟨h', hn', hlt'⟩
    · exact hp.rel.inj b b' x x' l l' h h' hd hd' hk hk' e
    · exact (apart b b' x x' l l' h hd hk h' hn' hlt' hd' hk' e).elim
    · exact (apart b' b x' x l' l h' hd' hk' h hn hlt hd hk e.symm).elim
    · exact hR.inj b b' x x' l l' h h' hd hd' (old b l hlt hk) (old b' l' hlt' hk') e
  · intro b x l hm hw hk
    rcases hM1 _ x hm with h | ⟨h, hn, hlt⟩
    · exact hp.rel.own b x l h hw hk
    · exact hR.own b x l h hw (old b l hlt hk)
  · intro a v ha
    refine ⟨(hp.rel.fz a v ha).1, fun b x l hm hw hk => ?_⟩
    rcases hM1 _ x hm with h | ⟨h, hn, hlt⟩
    · exact (hp.rel.fz a v ha).2 b x l h hw hk
    · have hi := old b l hlt hk
      have hxd : x.isDead = false := by cases x <;> simp_all [Blk.wr, Blk.isDead]
      rcases hp.fzn a v ha with e | e | ⟨g0, b', x', l', g1, g2, g3⟩
      · exact (hR.fz a v e).2 b x l h hw hi
      · have := blk b x l h hi; omega
      · intro e
        have h2 := hR.inj b' b x' x l' l (hsub _ _ g1) h (hlive _ _ g1) hxd g2 hi (by omega)
        subst h2
        rw [g1] at hn; cases hn
  · intro c hc hnot
    exact hp.frame c hc (fun b x l hm hi => hnot b x l (hsub _ _ hm) hi)
  · intro a v ha
    rcases hp.fzn a v ha with e | e | ⟨g0, b', x', l', g1, g2, g3⟩
    · exact .inl e
    · exact .inr (.inl e)
    · exact .inr (.inr ⟨g0, b', x', l', hsub _ _ g1, g2, g3⟩)

theorem R.fewer {w0 : World} {ι : Iota} {M M0 : Tr Blk} {w : World} (h : R w0 ι M w) (hsub : ∀ n x, M0.get n = some x → M.get n = some x) : R w0 ι M0 w :=
  ⟨h.kinds, h.uniq, fun b x l hm hi => h.live b x l (hsub _ _ hm) hi, fun b b' x x' l l' h1 h2 h3 h4 h5 h6 => h.inj b b' x x' l l' (hsub _ _ h1) (hsub _ _ h2) h3 h4 h5 h6, fun b x l h1 h2 h3 => h.own b x l (hsub _ _ h1) h2 h3, h.size, h.old, h.os, h.output, h.tape, fun a v ha => ⟨(h.fz a v ha).1, fun b x l hm hw hi => (h.fz a v ha).2 b x l (hsub _ _ hm) hw hi⟩⟩

theorem Fin.memory {P : Program} {κ : Iota} {b : Frame} {dk : Bool} {m : Machine} {cs : List Frame} {w' : World} {v : Value} {up up' : FrameMode} {M M' : Tr Blk} {nx nx' : Nat} (h : Fin P κ b dk none m cs w' (.ret v up M nx)) (hd : dk = false) : Fin P κ b dk none m cs w' (.ret v up' M' nx') := by
  subst hd
  cases h with
  | ret hr hs ha hfn hres hv hcs => exact .ret hr hs ha hfn hres hv hcs
  | round hr => exact absurd rfl hr

theorem Sound.wider {P : Program} {G : Nat} {w0 : World} {fr : Fr} {v : Value} {up up' : FrameMode} {M M0' M1 : Tr Blk} {nx' : Nat} (hs : Sound P G w0 fr (.ret v up M0' nx')) (hdk : fr.dk = false) (hrnd : fr.rnd = none) (hsub : ∀ n x, fr.M.get n = some x → M.get n = some x)
    (hlive : ∀ n x, fr.M.get n = some x → x.isDead = false) (hM1 : ∀ n x, M1.get n = some x → M0'.get n = some x ∨ (M.get n = some x ∧ fr.M.get n = none ∧ n < fr.nx)) : Sound P G w0 { fr with M := M } (.ret v up' M1 nx') := by
  intro ι b a mode cs w hR hG hfr hf hno
  obtain ⟨κ, w', h1, h2⟩ := hs ι b a mode cs w (hR.fewer hsub) hG ⟨hfr.fn, hfr.tm, hfr.ds, hfr.mode, hfr.kind, hfr.rnd, hfr.up⟩ hf hno
  refine ⟨κ, w', Post.wider hR hsub hlive hf h1 hM1, ?_⟩
  have h3 : Fin P κ b fr.dk none (lone (atM b a fr.todo mode) cs w) cs w' (.ret v up M0' nx') := by rw [← hrnd]; exact h2
  have h4 := h3.memory (up' := up') (M' := M1) (nx' := nx') hdk
  rw [← hrnd] at h4
  exact h4

/-! ### calls that are known -/
/-- Number, kind (0: a block; 1: one that is not written; 2: a row that may have grown), cells. -/
abbrev Lay := Nat × Nat × List Value
def blkOf (k : Nat) (vs : List Value) : Blk := match k with
  | 0 => .cells false vs
  | 1 => .cells true vs
  | _ => .grow vs
def blkIs (b : Option Blk) (k : Nat) (vs : List Value) : Bool := match b with
  | some (.cells false us) => Nat.beq k 0 && veqL 1000000 us vs
  | some (.cells true us) => Nat.beq k 1 && veqL 1000000 us vs
  | some (.grow us) => Nat.beq k 2 && veqL 1000000 us vs
  | _ => false
theorem blkIs_eq {b : Option Blk} {k : Nat} {vs : List Value} (h : blkIs b k vs = true) : b = some (blkOf k vs) := by
  unfold blkIs at h
  split at h
  · simp only [Bool.and_eq_true, Nat.beq_eq] at h; obtain ⟨rfl, h⟩ := h; rw [veqL_eq h]; rfl
  · simp only [Bool.and_eq_true, Nat.beq_eq] at h; obtain ⟨rfl, h⟩ := h; rw [veqL_eq h]; rfl
  · simp only [Bool.and_eq_true, Nat.beq_eq] at h; obtain ⟨rfl, h⟩ := h; rw [veqL_eq h]; rfl
  · cases h
noncomputable def layAll : List Lay → Tr Blk → Tr Blk
  | [], T => T
  | (n, k, vs) :: r, T => layAll r (T.set n (blkOf k vs))
theorem layAll_get : ∀ (l : List Lay) (T : Tr Blk) (n : Nat) (x : Blk), (layAll l T).get n = some x → (∃ k vs, (n, k, vs) ∈ l ∧ x = blkOf k vs) ∨ T.get n = some x
  | [], T, n, x, h => .inr h
  | (m, k, vs) :: r, T, n, x, h => by
    rcases layAll_get r _ n x h with ⟨k', vs', h1, h2⟩ | h1
    · exact .inl ⟨k', vs', List.mem_cons_of_mem _ h1, h2⟩
    · by_cases e : n = m
      · subst e
        rw [Tr.get_set_same] at h1
        simp at h1
        exact .inl ⟨k, vs, List.mem_cons_self, h1.symm⟩
      · rw [Tr.get_set_ne _ _ e] at h1
        exact .inr h1
noncomputable def keepOf (M : Tr Blk) : List Nat → Tr Blk
  | [] => .nil
  | n :: r => Option.rec (motive := fun _ => Tr Blk) (keepOf M r) (fun x => (keepOf M r).set n x) (M.get n)
theorem keepOf_get (M : Tr Blk) : ∀ (l : List Nat) (n : Nat) (x : Blk), (keepOf M l).get n = some x → n ∈ l ∧ M.get n = some x
  | [], n, x, h => by simp [keepOf, Tr.get_nil] at h
  | m :: r, n, x, h => by
    unfold keepOf at h
    cases hm : M.get m with
    | none =>
      rw [hm] at h
      obtain ⟨h1, h2⟩ := keepOf_get M r n x h
      exact ⟨List.mem_cons_of_mem _ h1, h2⟩
    | some y =>
      rw [hm] at h
      have h' : ((keepOf M r).set m y).get n = some x := h
      by_cases e : n = m
      · subst e
        rw [Tr.get_set_same] at h'
        simp at h'; subst h'
        exact ⟨List.mem_cons_self, hm⟩
      · rw [Tr.get_set_ne _ _ e] at h'
        obtain ⟨h1, h2⟩ := keepOf_get M r n x h'
        exact ⟨List.mem_cons_of_mem _ h1, h2⟩

/-- A call: its function, its arguments, the first number of what it makes, the blocks that it reads, the others that are kept; what it answers, the blocks of that, the first number behind it. -/
structure Sm where
  f : FuncId
  as : List Value
  nx : Nat
  ins : List Lay
  keep : List Nat
  v : Value
  outs : List Lay
  nx' : Nat
noncomputable def Sm.ends (s : Sm) : Option Res → Bool
  | some (.ret v _ M nx) => veq 1000000 v s.v && Nat.beq nx s.nx' && s.outs.all (fun o => blkIs (M.get o.1) o.2.1 o.2.2) && s.ins.all (fun o => blkIs (M.get o.1) o.2.1 o.2.2)
  | _ => false
/-- The call by itself does as is said. -/
noncomputable def Sm.ran (P : Program) (X : Exts) (G n : Nat) (s : Sm) : Bool := match enterFr P s.f s.as false .run (layAll s.ins .nil) s.nx with
  | some fr => s.ends (callOf (vrunR P X G n) fr)
  | none => false
noncomputable def Sm.sm (s : Sm) (f : FuncId) (as : List Value) (M : Tr Blk) (nx : Nat) : Option (Value × Tr Blk × Nat) :=
  bif Nat.beq f s.f then (bif Nat.beq nx s.nx && veqL 1000000 as s.as && s.ins.all (fun o => blkIs (M.get o.1) o.2.1 o.2.2) && s.keep.all (fun n => Nat.blt n s.nx) then some (s.v, layAll s.outs (keepOf M s.keep), s.nx') else none) else none
noncomputable def Exts.know (X : Exts) (s : Sm) : Exts := ⟨X.fn, fun f as M nx => Option.rec (motive := fun _ => Option (Value × Tr Blk × Nat)) (X.sm f as M nx) some (s.sm f as M nx), X.pf⟩

theorem Sm.sound {P : Program} {X : Exts} (hm : P.follows .mixedOrders = true) {G n : Nat} {w0 : World} (hX : XOk P G w0 X) (hF : FOk P) {s : Sm} (h : s.ran P X G n = true) {f : FuncId} {as : List Value} {M : Tr Blk} {nx : Nat} {v : Value} {M' : Tr Blk} {nx' : Nat}
    (hs : s.sm f as M nx = some (v, M', nx')) : ∃ fr, enterFr P f as false .run M nx = some fr ∧ Sound P G w0 fr (.ret v .run M' nx') := by
  unfold Sm.sm at hs
  obtain ⟨hf, hs⟩ := cond_someK hs
  obtain ⟨hc, hs⟩ := cond_some hs
  simp only [Prod.mk.injEq] at hs
  obtain ⟨rfl, rfl, rfl⟩ := hs
  simp only [Bool.and_eq_true, Nat.beq_eq, List.all_eq_true, Nat.blt_eq] at hc
  obtain ⟨⟨⟨rfl, has⟩, hins⟩, hkeep⟩ := hc
  have hf' := Nat.eq_of_beq_eq_true hf
  subst hf'
  have has' := veqL_eq has
  subst has'
  unfold Sm.ran at h
  split at h
  · rename_i fr hfr
    rw [vrunR_eq] at h
    unfold Sm.ends at h
    split at h
    · rename_i v up M0' nx0 hr
      simp only [Bool.and_eq_true, Nat.beq_eq, List.all_eq_true] at h
      obtain ⟨⟨⟨h1, rfl⟩, h3⟩, h4⟩ := h
      have h1' := veq_eq h1
      subst h1'
      have hsound := (vrun_sound (w0 := w0) hX hF (draws hm hX hF) n fr _ hr).sound
      have hfr' : enterFr P s.f s.as false .run M s.nx = some { fr with M := M } ∧ fr.dk = false ∧ fr.rnd = none ∧ fr.M = layAll s.ins .nil ∧ fr.nx = s.nx := by
        unfold enterFr at hfr ⊢
        split at hfr
        · split at hfr
          · simp at hfr; subst hfr; exact ⟨rfl, rfl, rfl, rfl, rfl⟩
          · cases hfr
        · cases hfr
      obtain ⟨e1, e2, e3, e4, e5⟩ := hfr'
      refine ⟨_, e1, hsound.wider e2 e3 ?_ ?_ ?_⟩
      · intro n x hx
        rw [e4] at hx
        rcases layAll_get _ _ _ _ hx with ⟨k, vs, g1, rfl⟩ | g
        · exact blkIs_eq (hins _ g1)
        · simp [Tr.get_nil] at g
      · intro n x hx
        rw [e4] at hx
        rcases layAll_get _ _ _ _ hx with ⟨k, vs, g1, rfl⟩ | g
        · unfold blkOf; split <;> rfl
        · simp [Tr.get_nil] at g
      · intro n x hx
        rcases layAll_get _ _ _ _ hx with ⟨k, vs, g1, rfl⟩ | g
        · exact .inl (blkIs_eq (h3 _ g1))
        · obtain ⟨g1, g2⟩ := keepOf_get _ _ _ _ g
          rw [e4, e5]
          cases hm0 : (layAll s.ins .nil).get n with
          | none => exact .inr ⟨g2, rfl, hkeep _ g1⟩
          | some y =>
            rcases layAll_get _ _ _ _ hm0 with ⟨k, vs, q1, rfl⟩ | q
            · have a1 := blkIs_eq (hins _ q1)
              have a2 := blkIs_eq (h4 _ q1)
              rw [g2] at a1
              exact .inl (by rw [a2, a1])
            · simp [Tr.get_nil] at q
    · cases h
  · cases h

theorem XOk.know {P : Program} {X X' : Exts} (hm : P.follows .mixedOrders = true) {G : Nat} {w0 : World} (hX : XOk P G w0 X) (hX' : XOk P G w0 X') (hF : FOk P) {s : Sm} {n : Nat} (h : s.ran P X' G n = true) : XOk P G w0 (X.know s) := by
  refine ⟨hX.1, fun f as M nx v M' nx' hs => ?_, hX.2.2⟩
  have hs' : Option.rec (motive := fun _ => Option (Value × Tr Blk × Nat)) (X.sm f as M nx) some (s.sm f as M nx) = some (v, M', nx') := hs
  cases hq : s.sm f as M nx with
  | none =>
    rw [hq] at hs'
    exact hX.2.1 f as M nx v M' nx' hs'
  | some r =>
    rw [hq] at hs'
    have e : r = (v, M', nx') := Option.some.inj hs'
    subst e
    exact Sm.sound hm hX' hF h hq
end Go.Proofs.YtihloomkgpflmaaGreatDoor.Vm
