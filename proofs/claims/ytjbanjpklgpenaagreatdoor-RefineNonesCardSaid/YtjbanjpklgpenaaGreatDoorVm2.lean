/-
  THE ABSTRACT INTERPRETER, part 2 of its second form: regions, frames, runs; they answer as the first form's do.
-/
import Derived.Test.YtjbanjpklgpenaaGreatDoorVm4
namespace Go.Proofs.YtjbanjpklgpenaaGreatDoor.Vm

section
variable (run : Run) (P : Program) (X : Exts) (G : Nat)

noncomputable def goOn (nt : Nat) (T : Tr Value) (ds : List Deferred) (up : FrameMode) (M : Tr Blk) (nx : Nat) (ih : Tr Value → List Deferred → FrameMode → Tr Blk → Nat → Option RR) (dst : Option Tmp) (v : Value) : Option RR := match putT nt T dst v with
  | some T' => ih T' ds up M nx
  | none => none
noncomputable def afterOp (nt : Nat) (T : Tr Value) (ds : List Deferred) (ih : Tr Value → List Deferred → FrameMode → Tr Blk → Nat → Option RR) (dst : Option Tmp) : Option OpR → Option RR
  | some (.ok v ds' up' M' nx') => goOn nt T ds' up' M' nx' ih dst v
  | some (.pan ch up' M' nx') => some (.pan ch T ds up' M' nx')
  | none => none
noncomputable def oneF (dk : Bool) (rnd : Option Nat) (nt : Nat) (ops : Array Oper) (o : Oper) (ih : Tr Value → List Deferred → FrameMode → Tr Blk → Nat → Option RR) (T : Tr Value) (ds : List Deferred) (up : FrameMode) (M : Tr Blk) (nx : Nat) : Option RR := match wantedA ops o T with
  | some true => afterOp nt T ds ih o.dst (vopF run P X G dk rnd T ds up M nx o.op)
  | some false => goOn nt T ds up M nx ih o.dst undef
  | none => none
noncomputable def vopsF (dk : Bool) (rnd : Option Nat) (nt : Nat) (ops : Array Oper) (l : List Oper) : Tr Value → List Deferred → FrameMode → Tr Blk → Nat → Option RR :=
  List.rec (motive := fun _ => Tr Value → List Deferred → FrameMode → Tr Blk → Nat → Option RR) (fun T ds up M nx => some (.ok T ds up M nx))
    (fun o _ ih T ds up M nx => oneF run P X G dk rnd nt ops o ih T ds up M nx) l
theorem vopsF_eq (dk : Bool) (rnd : Option Nat) (nt : Nat) (ops : Array Oper) : ∀ (l : List Oper) (T : Tr Value) (ds : List Deferred) (up : FrameMode) (M : Tr Blk) (nx : Nat), vopsF run P X G dk rnd nt ops l T ds up M nx = vops (callOf run) P X G dk rnd nt ops l T ds up M nx
  | [], T, ds, up, M, nx => rfl
  | o :: l, T, ds, up, M, nx => by
    rw [vops_cons]
    show oneF run P X G dk rnd nt ops o (vopsF run P X G dk rnd nt ops l) T ds up M nx = _
    have ih : vopsF run P X G dk rnd nt ops l = vops (callOf run) P X G dk rnd nt ops l := by
      funext T ds up M nx
      exact vopsF_eq dk rnd nt ops l T ds up M nx
    rw [ih]
    unfold oneF
    rw [vopF_eq]
    cases wantedA ops o T with
    | none => rfl
    | some b =>
      cases b with
      | false => (simp only [goOn]; cases putT nt T o.dst undef <;> rfl)
      | true =>
        simp only
        cases vop (callOf run) P X G dk rnd T ds up M nx o.op with
        | none => rfl
        | some r =>
          cases r with
          | ok v ds' up' M' nx' => (simp only [afterOp, goOn]; cases putT nt T o.dst v <;> rfl)
          | pan ch up' M' nx' => rfl

noncomputable def watchF (mask : Nat) (M : Tr Blk) : Watch → Bool
  | .rd i op T v => Nat.testBit mask i || (match aquietF P G T M 0 op with
    | some (u, _, _) => veq 1000 v u
    | none => false)
  | .new i n vs => Nat.testBit mask i || (match M.get n with
    | some (.cells false us) => veqL 1000 vs us
    | _ => false)
theorem watchF_eq (mask : Nat) (M : Tr Blk) (x : Watch) : watchF P G mask M x = watchOk P G mask M x := by
  cases x with
  | rd i op T v => (simp only [watchF, watchOk, aquietF_eq]; rfl)
  | new i n vs => rfl

abbrev Rest := Tr Value → List Deferred → FrameMode → Tr Blk → Nat → List Watch → Nat → Option RR
noncomputable def goOnW (nt : Nat) (T : Tr Value) (ds : List Deferred) (up : FrameMode) (M : Tr Blk) (nx : Nat) (ws : List Watch) (lm : Nat) (ih : Rest) (dst : Option Tmp) (v : Value) : Option RR := match putT nt T dst v with
  | some T' => ih T' ds up M nx ws lm
  | none => none
noncomputable def quietW (nt : Nat) (T : Tr Value) (ds : List Deferred) (up : FrameMode) (ws : List Watch) (lm : Nat) (ih : Rest) (s : PStep) (o : Oper) (Ti : Tr Value) (nx : Nat) : Option (Value × Tr Blk × Nat) → Option RR
  | some (v, M', nx') => (match addWatch s.kind s.i o.op Ti v M' nx ws with
    | some ws' => goOnW nt T ds up M' nx' ws' lm ih o.dst v
    | none => none)
  | none => none
noncomputable def effectW (nt : Nat) (ops : Array Oper) (T0 T : Tr Value) (ds : List Deferred) (ws : List Watch) (ih : Rest) (s : PStep) (o : Oper) : Option OpR → Option RR
  | some (.ok v ds' up' M' nx') => goOnW nt T ds' up' M' nx' ws s.mask ih o.dst v
  | some (.pan ch up' M' nx') => some (.pan ch (delDsts T0 ops.toList) ds up' M' nx')
  | none => none
noncomputable def stepW (dk : Bool) (rnd : Option Nat) (nt : Nat) (ops : Array Oper) (T0 : Tr Value) (s : PStep) (o : Oper) (ih : Rest) (T : Tr Value) (ds : List Deferred) (up : FrameMode) (M : Tr Blk) (nx : Nat) (ws : List Watch) (lm : Nat) : Option RR := match wantedA ops o T with
  | some false => goOnW nt T ds up M nx ws lm ih o.dst undef
  | some true => (match Nat.beq s.kind 3 with
    | false => quietW nt T ds up ws lm ih s o (restr (o.looksAt ops) T) nx (aquietF P G (restr (o.looksAt ops) T) M nx o.op)
    | true => (match ws.all (watchF P G lm M) with
      | true => effectW nt ops T0 T ds ws ih s o (vopF run P X G dk rnd (restr (o.looksAt ops) T) ds up M nx o.op)
      | false => none))
  | none => none
noncomputable def vdrawF (dk : Bool) (rnd : Option Nat) (nt : Nat) (ops : Array Oper) (T0 : Tr Value) (pl : List PStep) : Rest :=
  List.rec (motive := fun _ => Rest) (fun T ds up M nx ws lm => bif ws.all (watchF P G lm M) then some (.ok T ds up M nx) else none)
    (fun s _ ih T ds up M nx ws lm => match ops[s.i]? with
      | none => none
      | some o => stepW run P X G dk rnd nt ops T0 s o ih T ds up M nx ws lm) pl
theorem vdrawF_eq (dk : Bool) (rnd : Option Nat) (nt : Nat) (ops : Array Oper) (T0 : Tr Value) : ∀ (pl : List PStep) (T : Tr Value) (ds : List Deferred) (up : FrameMode) (M : Tr Blk) (nx : Nat) (ws : List Watch) (lm : Nat),
    vdrawF run P X G dk rnd nt ops T0 pl T ds up M nx ws lm = vdraw (callOf run) P X G dk rnd nt ops T0 pl T ds up M nx ws lm
  | [], T, ds, up, M, nx, ws, lm => by
    have e : watchF P G lm M = watchOk P G lm M := funext (watchF_eq P G lm M)
    show (bif ws.all (watchF P G lm M) then some (RR.ok T ds up M nx) else none) = _
    rw [e]; rfl
  | s :: rest, T, ds, up, M, nx, ws, lm => by
    have e : watchF P G lm M = watchOk P G lm M := funext (watchF_eq P G lm M)
    have ih : vdrawF run P X G dk rnd nt ops T0 rest = vdraw (callOf run) P X G dk rnd nt ops T0 rest := by
      funext T ds up M nx ws lm
      exact vdrawF_eq dk rnd nt ops T0 rest T ds up M nx ws lm
    show (match ops[s.i]? with
      | none => none
      | some o => stepW run P X G dk rnd nt ops T0 s o (vdrawF run P X G dk rnd nt ops T0 rest) T ds up M nx ws lm) = _
    rw [ih]
    simp only [vdraw]
    cases ops[s.i]? with
    | none => rfl
    | some o =>
      simp only [stepW, e, vopF_eq, aquietF_eq]
      cases wantedA ops o T with
      | none => rfl
      | some b =>
        cases b with
        | false => (simp only [goOnW]; cases putT nt T o.dst undef <;> rfl)
        | true =>
          simp only
          cases Nat.beq s.kind 3 with
          | false =>
            simp only
            cases aquiet P G (restr (o.looksAt ops) T) M nx o.op with
            | none => rfl
            | some r =>
              obtain ⟨v, M', nx'⟩ := r
              simp only [quietW, goOnW]
              cases putT nt T o.dst v <;> cases addWatch s.kind s.i o.op (restr (o.looksAt ops) T) v M' nx ws <;> rfl
          | true =>
            simp only
            cases ws.all (watchOk P G lm M) with
            | false => rfl
            | true =>
              simp only
              cases vop (callOf run) P X G dk rnd (restr (o.looksAt ops) T) ds up M nx o.op with
              | none => rfl
              | some r =>
                cases r with
                | ok v ds' up' M' nx' => (simp only [effectW, goOnW]; cases putT nt T o.dst v <;> rfl)
                | pan ch up' M' nx' => rfl

/-! ### frames -/
noncomputable def leaveF (ih : Run) (fn : FuncId) (nt : Nat) (T : Tr Value) (todo : List Item) (ds : List Deferred) (dk : Bool) (rnd : Option Nat) (up : FrameMode) (M : Tr Blk) (nx : Nat) (jump : Option Code) : Option Res := match rnd with
  | none => (match jump with
    | none => ih fn nt T todo ds .returning dk none up M nx
    | some .ret => ih fn nt T todo ds .returning dk none up M nx
    | _ => none)
  | some l => (match M.get (l / 256) with
    | some (.loop al) => some (.ret (.bool jump.isNone) up (M.set (l / 256) (.loop { al with st := if jump.isNone then .ready else .done, pending := jump })) nx)
    | _ => none)
noncomputable def condF (ih : Run) (fn : FuncId) (nt : Nat) (T : Tr Value) (k : List Item) (ds : List Deferred) (dk : Bool) (rnd : Option Nat) (up : FrameMode) (M : Tr Blk) (nx : Nat) (c : Operand) (x y : Code) : Option Res := match getv G T c with
  | some (.bool true) => ih fn nt T (.code x :: k) ds .run dk rnd up M nx
  | some (.bool false) => ih fn nt T (.code y :: k) ds .run dk rnd up M nx
  | _ => none
noncomputable def exitF (ih : Run) (fn : FuncId) (nt : Nat) (T : Tr Value) (k : List Item) (ds : List Deferred) (dk : Bool) (rnd : Option Nat) (up : FrameMode) (M : Tr Blk) (nx : Nat) (id : Nat) : Option Res := match exitTo id k with
  | some k' => ih fn nt T k' ds .run dk rnd up M nx
  | none => leaveF ih fn nt T (.code (.exit id) :: k) ds dk rnd up M nx (some (.exit id))
noncomputable def regF (ih : Run) (fn : FuncId) (nt : Nat) (k : List Item) (dk : Bool) (rnd : Option Nat) : Option RR → Option Res
  | some (.ok T ds up M nx) => ih fn nt T k ds .run dk rnd up M nx
  | some (.pan ch T ds up M nx) => ih fn nt T [] ds (.panicking ch) dk rnd up M nx
  | none => none
noncomputable def drawF (ih : Run) (fn : FuncId) (nt : Nat) (T : Tr Value) (k : List Item) (ds : List Deferred) (dk : Bool) (rnd : Option Nat) (up : FrameMode) (M : Tr Blk) (nx : Nat) (ops : Array Oper) : Option Res := match plan ops, dstsApart ops.toList with
  | some pl, true => regF ih fn nt k dk rnd (vdrawF ih P X G dk rnd nt ops T pl T ds up M nx [] 0)
  | _, _ => none
noncomputable def rangeEnd (ih : Run) (fn : FuncId) (nt : Nat) (T : Tr Value) (k : List Item) (ds : List Deferred) (dk : Bool) (up : FrameMode) (nx : Nat) : Option Res → Option Res
  | some (.ret _ _ M' nx') => (match M'.get (nx + 1) with
    | some (.loop al) => (match al.st with
      | .busy => none
      | _ => ih fn nt T ((al.pending.map Item.code).toList ++ k) ({ target := .collected (256 * nx), args := #[] } :: ds) .run dk none up (M'.set (nx + 1) (.loop { al with st := .exhausted })) nx')
    | _ => none)
  | some (.pan ch _ M' nx') => ih fn nt T [] ({ target := .collected (256 * nx), args := #[] } :: ds) (.panicking ch) dk none up M' nx'
  | none => none
noncomputable def rangeF (ih : Run) (fn : FuncId) (nt : Nat) (T : Tr Value) (k : List Item) (ds : List Deferred) (dk : Bool) (rnd : Option Nat) (up : FrameMode) (M : Tr Blk) (nx : Nat) (f : Operand) (params : Array Tmp) (assign body : Code) : Option Res := match rnd, getv G T f with
  | none, some (.func (.func g) first cap) =>
    (match enterFr P g (first.toList ++ [.func (.yield (256 * (nx + 1))) #[] #[]] ++ cap.toList) false .run
      ((M.set nx (.defs false)).set (nx + 1) (.loop { st := .ready, pending := none, fn := fn, nt := nt, T := T, params := params.toList, assign, body, defers := 256 * nx })) (nx + 2) with
    | some g => rangeEnd ih fn nt T k ds dk up nx (callOf ih g)
    | none => none)
  | _, _ => none
noncomputable def beginF (ih : Run) (fn : FuncId) (nt : Nat) (T : Tr Value) (k : List Item) (ds : List Deferred) (dk : Bool) (rnd : Option Nat) (up : FrameMode) (M : Tr Blk) (nx : Nat) : Option Res := match rnd with
  | some l => (match M.get (l / 256) with
    | some (.loop al) => (match al.st with
      | .ready => ih fn nt T k ds .run dk (some l) up (M.set (l / 256) (.loop { al with st := .busy })) nx
      | _ => none)
    | _ => none)
  | none => none
noncomputable def codeF (ih : Run) (fn : FuncId) (nt : Nat) (T : Tr Value) (c : Code) (k : List Item) (ds : List Deferred) (dk : Bool) (rnd : Option Nat) (up : FrameMode) (M : Tr Blk) (nx : Nat) : Option Res := match c with
  | .skip => ih fn nt T k ds .run dk rnd up M nx
  | .label _ => ih fn nt T k ds .run dk rnd up M nx
  | .seq a b => ih fn nt T (.code a :: .code b :: k) ds .run dk rnd up M nx
  | .cond c x y => condF G ih fn nt T k ds dk rnd up M nx c x y
  | .block id body => ih fn nt T (.code body :: .inBlock id :: k) ds .run dk rnd up M nx
  | .loop body => ih fn nt T (.code body :: .inLoop body :: k) ds .run dk rnd up M nx
  | .scope body => ih fn nt T (.code body :: .inScope body :: k) ds .run dk rnd up M nx
  | .exit id => exitF ih fn nt T k ds dk rnd up M nx id
  | .ret => leaveF ih fn nt T (.code .ret :: k) ds dk rnd up M nx (some .ret)
  | .region _ ops false => regF ih fn nt k dk rnd (vopsF ih P X G dk rnd nt ops ops.toList T ds up M nx)
  | .region _ ops true => drawF P X G ih fn nt T k ds dk rnd up M nx ops
  | .rangeFunc f params assign body => rangeF P G ih fn nt T k ds dk rnd up M nx f params assign body
  | _ => none
noncomputable def runF (ih : Run) (fn : FuncId) (nt : Nat) (T : Tr Value) (todo : List Item) (ds : List Deferred) (dk : Bool) (rnd : Option Nat) (up : FrameMode) (M : Tr Blk) (nx : Nat) : Option Res := match todo with
  | [] => leaveF ih fn nt T [] ds dk rnd up M nx none
  | .code c :: k => codeF P X G ih fn nt T c k ds dk rnd up M nx
  | .inBlock _ :: k => ih fn nt T k ds .run dk rnd up M nx
  | .inScope _ :: k => ih fn nt T k ds .run dk rnd up M nx
  | .inLoop body :: k => ih fn nt T (.code body :: .inLoop body :: k) ds .run dk rnd up M nx
  | .beginRound :: k => beginF ih fn nt T k ds dk rnd up M nx
  | _ => none
noncomputable def unwF (ih : Run) (fr : Fr) : Option Res := match unwindA (callOf ih) P fr with
  | .cont fr' => callOf ih fr'
  | .done r => some r
  | .fail => none
noncomputable def turnF (ih : Run) (fn : FuncId) (nt : Nat) (T : Tr Value) (todo : List Item) (ds : List Deferred) (mode : FrameMode) (dk : Bool) (rnd : Option Nat) (up : FrameMode) (M : Tr Blk) (nx : Nat) : Option Res := match mode with
  | .run => runF P X G ih fn nt T todo ds dk rnd up M nx
  | m => unwF P ih ⟨fn, nt, T, todo, ds, m, dk, rnd, up, M, nx⟩

theorem leaveF_eq (ih : Run) (fn : FuncId) (nt : Nat) (T : Tr Value) (todo : List Item) (ds : List Deferred) (dk : Bool) (rnd : Option Nat) (up : FrameMode) (M : Tr Blk) (nx : Nat) (jump : Option Code) : leaveF ih fn nt T todo ds dk rnd up M nx jump = (match leave ⟨fn, nt, T, todo, ds, .run, dk, rnd, up, M, nx⟩ jump with
    | .cont fr' => callOf ih fr'
    | .done r => some r
    | .fail => none) := by
  unfold leaveF leave
  cases rnd with
  | none =>
    simp only
    cases jump with
    | none => rfl
    | some c => cases c <;> rfl
  | some l =>
    simp only
    cases M.get (l / 256) with
    | none => rfl
    | some x => cases x <;> rfl

theorem regF_eq (ih : Run) (fr : Fr) (hm : fr.mode = .run) (k : List Item) (r : Option RR) : regF ih fr.fn fr.nt k fr.dk fr.rnd r = (match contRR fr k r with
    | .cont fr' => callOf ih fr'
    | .done r => some r
    | .fail => none) := by
  obtain ⟨fn, nt, T, todo, ds, mode, dk, rnd, up, M, nx⟩ := fr
  simp only at hm
  subst hm
  cases r with
  | none => rfl
  | some r => cases r <;> rfl

theorem turnF_eq (ih : Run) (fn : FuncId) (nt : Nat) (T : Tr Value) (todo : List Item) (ds : List Deferred) (mode : FrameMode) (dk : Bool) (rnd : Option Nat) (up : FrameMode) (M : Tr Blk) (nx : Nat) : turnF P X G ih fn nt T todo ds mode dk rnd up M nx = (match fstep (callOf ih) P X G ⟨fn, nt, T, todo, ds, mode, dk, rnd, up, M, nx⟩ with
    | .cont fr' => callOf ih fr'
    | .done r => some r
    | .fail => none) := by
  cases mode with
  | returning => rfl
  | panicking ch => rfl
  | run =>
    show runF P X G ih fn nt T todo ds dk rnd up M nx = _
    unfold runF
    cases todo with
    | nil => exact leaveF_eq ih fn nt T [] ds dk rnd up M nx none
    | cons i k =>
      cases i <;> first | rfl | skip
      case beginRound =>
        simp only [beginF, fstep]
        cases rnd with
        | none => rfl
        | some l =>
          simp only
          cases M.get (l / 256) with
          | none => rfl
          | some x =>
            cases x <;> first | rfl | skip
            rename_i al
            simp only
            cases al.st <;> rfl
      case code c =>
        simp only
        unfold codeF
        cases c <;> first | rfl | skip
        case cond c x y =>
          simp only [condF, fstep]
          cases getv G T c with
          | none => rfl
          | some v => cases v <;> first | rfl | (rename_i b; cases b <;> rfl)
        case exit id =>
          simp only [exitF, fstep]
          cases exitTo id k with
          | none => exact leaveF_eq ih fn nt T (.code (.exit id) :: k) ds dk rnd up M nx (some (.exit id))
          | some k' => rfl
        case ret => exact leaveF_eq ih fn nt T (.code .ret :: k) ds dk rnd up M nx (some .ret)
        case region id ops draw =>
          cases draw with
          | false =>
            simp only [fstep]
            rw [vopsF_eq]
            exact regF_eq ih ⟨fn, nt, T, .code (.region id ops false) :: k, ds, .run, dk, rnd, up, M, nx⟩ rfl k _
          | true =>
            simp only [fstep, drawF]
            cases plan ops with
            | none => rfl
            | some pl =>
              cases dstsApart ops.toList with
              | false => rfl
              | true =>
                simp only
                rw [vdrawF_eq]
                exact regF_eq ih ⟨fn, nt, T, .code (.region id ops true) :: k, ds, .run, dk, rnd, up, M, nx⟩ rfl k _
        case rangeFunc f params assign body =>
          simp only [fstep, rangeF]
          cases rnd with
          | some l => rfl
          | none =>
            cases getv G T f with
            | none => rfl
            | some fv =>
              cases fv <;> first | rfl | skip
              rename_i fn' first cap
              cases fn' <;> first | rfl | skip
              rename_i g
              simp only
              generalize enterFr P g (first.toList ++ [.func (.yield (256 * (nx + 1))) #[] #[]] ++ cap.toList) false .run ((M.set nx (.defs false)).set (nx + 1) (.loop { st := .ready, pending := none, fn := fn, nt := nt, T := T, params := params.toList, assign, body, defers := 256 * nx })) (nx + 2) = e
              cases e with
              | none => rfl
              | some g' =>
                simp only [rangeEnd]
                cases callOf ih g' with
                | none => rfl
                | some r =>
                  cases r with
                  | ret v up' M' nx' =>
                    simp only
                    cases M'.get (nx + 1) with
                    | none => rfl
                    | some x =>
                      cases x <;> first | rfl | skip
                      rename_i al
                      simp only
                      cases al.st <;> rfl
                  | pan ch up' M' nx' => rfl

/-! ### raw -/
noncomputable def forceR {β : Type} (v : Value) (k : β) : β := vInt k (fun _ n => iNat k (fun m => bI (Nat.beq m 0) k k) n) v
theorem forceR_eq {β : Type} (v : Value) (k : β) : forceR v k = k := by
  cases v <;> first | rfl | skip
  rename_i kk n
  cases n with
  | negSucc m => rfl
  | ofNat m =>
    show bI (Nat.beq m 0) k k = k
    rw [bI_eq]
    cases Nat.beq m 0 <;> rfl
noncomputable def goOnR (nt : Nat) (T : Tr Value) (ds : List Deferred) (up : FrameMode) (M : Tr Blk) (nx : Nat) (ih : Tr Value → List Deferred → FrameMode → Tr Blk → Nat → Option RR) (dst : Option Tmp) (v : Value) : Option RR :=
  Option.rec (motive := fun _ => Option RR) (ih T ds up M nx) (fun d => bI (Nat.ble (Nat.succ d) nt) (forceR v (ih (T.set d v) ds up M nx)) none) dst
theorem goOnR_eq (nt : Nat) (T : Tr Value) (ds : List Deferred) (up : FrameMode) (M : Tr Blk) (nx : Nat) (ih : Tr Value → List Deferred → FrameMode → Tr Blk → Nat → Option RR) (dst : Option Tmp) (v : Value) : goOnR nt T ds up M nx ih dst v = goOn nt T ds up M nx ih dst v := by
  cases dst with
  | none => rfl
  | some d =>
    show bI (Nat.ble (Nat.succ d) nt) (forceR v (ih (T.set d v) ds up M nx)) none = _
    rw [bI_eq, forceR_eq]
    simp only [goOn, putT]
    have : Nat.blt d nt = Nat.ble (Nat.succ d) nt := rfl
    rw [this]
    cases Nat.ble (Nat.succ d) nt with
    | false => rfl
    | true => simp only [cond_true, forced_eq]
noncomputable def afterR (nt : Nat) (T : Tr Value) (ds : List Deferred) (ih : Tr Value → List Deferred → FrameMode → Tr Blk → Nat → Option RR) (dst : Option Tmp) (r : Option OpR) : Option RR :=
  oB r fun r => OpR.rec (motive := fun _ => Option RR) (fun v ds' up' M' nx' => goOnR nt T ds' up' M' nx' ih dst v) (fun ch up' M' nx' => some (.pan ch T ds up' M' nx')) r
theorem afterR_eq (nt : Nat) (T : Tr Value) (ds : List Deferred) (ih : Tr Value → List Deferred → FrameMode → Tr Blk → Nat → Option RR) (dst : Option Tmp) (r : Option OpR) : afterR nt T ds ih dst r = afterOp nt T ds ih dst r := by
  cases r with
  | none => rfl
  | some r =>
    cases r with
    | ok v ds' up' M' nx' => exact goOnR_eq nt T ds' up' M' nx' ih dst v
    | pan ch up' M' nx' => rfl
noncomputable def isB (v : Value) : Bool → Bool :=
  Value.rec (motive_1 := fun _ => Bool → Bool) (motive_2 := fun _ => Unit) (motive_3 := fun _ => Unit) (fun b want => Bool.rec (motive := fun _ => Bool → Bool) (fun w => bNot w) (fun w => w) b want) (fun _ _ _ => false) (fun _ _ _ => false) (fun _ _ _ _ => false) (fun _ _ => false) (fun _ _ => false) (fun _ _ _ _ => false) (fun _ _ => false) (fun _ _ => false) (fun _ _ _ _ _ _ => false) (fun _ => false) (fun _ _ _ _ => false) (fun _ => false) (fun _ _ _ => false) (fun _ _ _ => false) (fun _ _ => ()) () (fun _ _ _ _ => ()) v
noncomputable def wantedR (ops : Array Oper) (o : Oper) (T : Tr Value) : Option Bool := Option.rec (motive := fun _ => Array Oper → Tr Value → Option Bool) (fun _ _ => some true)
  (fun g => Prod.rec (motive := fun _ => Array Oper → Tr Value → Option Bool) (fun j want ops T => oB (oB ops[j]? (·.dst)) fun d => oB (T.get d) fun v => some (isB v want)) g) o.guard ops T
theorem wantedR_eq (ops : Array Oper) (o : Oper) (T : Tr Value) : wantedR ops o T = wantedA ops o T := by
  unfold wantedR wantedA
  cases o.guard with
  | none => rfl
  | some g =>
    obtain ⟨j, want⟩ := g
    show oB (oB ops[j]? (·.dst)) _ = _
    have : oB ops[j]? (·.dst) = (ops[j]?).bind (·.dst) := by cases ops[j]? <;> rfl
    rw [this]
    simp only
    cases (ops[j]?).bind (·.dst) with
    | none => rfl
    | some d =>
      show oB (T.get d) _ = _
      simp only
      cases T.get d with
      | none => rfl
      | some v =>
        show some (isB v want) = _
        cases v <;> first | rfl | skip
        rename_i b
        cases b <;> cases want <;> rfl
noncomputable def oneR (dk : Bool) (rnd : Option Nat) (nt : Nat) (ops : Array Oper) (o : Oper) (ih : Tr Value → List Deferred → FrameMode → Tr Blk → Nat → Option RR) (T : Tr Value) (ds : List Deferred) (up : FrameMode) (M : Tr Blk) (nx : Nat) : Option RR :=
  Option.rec (motive := fun _ => Option RR) none (fun w => Bool.rec (motive := fun _ => Option RR) (goOnR nt T ds up M nx ih o.dst undef) (afterR nt T ds ih o.dst (vopR run P X G dk rnd T ds up M nx o.op)) w) (wantedR ops o T)
theorem oneR_eq (dk : Bool) (rnd : Option Nat) (nt : Nat) (ops : Array Oper) (o : Oper) (ih : Tr Value → List Deferred → FrameMode → Tr Blk → Nat → Option RR) (T : Tr Value) (ds : List Deferred) (up : FrameMode) (M : Tr Blk) (nx : Nat) : oneR run P X G dk rnd nt ops o ih T ds up M nx = oneF run P X G dk rnd nt ops o ih T ds up M nx := by
  unfold oneR oneF
  rw [wantedR_eq, afterR_eq, goOnR_eq, vopR_eq]
  cases wantedA ops o T with
  | none => rfl
  | some b => cases b <;> rfl
noncomputable def vopsR (dk : Bool) (rnd : Option Nat) (nt : Nat) (ops : Array Oper) (l : List Oper) : Tr Value → List Deferred → FrameMode → Tr Blk → Nat → Option RR :=
  List.rec (motive := fun _ => Tr Value → List Deferred → FrameMode → Tr Blk → Nat → Option RR) (fun T ds up M nx => some (.ok T ds up M nx))
    (fun o _ ih T ds up M nx => oneR run P X G dk rnd nt ops o ih T ds up M nx) l
theorem vopsR_eq (dk : Bool) (rnd : Option Nat) (nt : Nat) (ops : Array Oper) : ∀ (l : List Oper), vopsR run P X G dk rnd nt ops l = vopsF run P X G dk rnd nt ops l
  | [] => rfl
  | o :: l => by
    funext T ds up M nx
    show oneR run P X G dk rnd nt ops o (vopsR run P X G dk rnd nt ops l) T ds up M nx = oneF run P X G dk rnd nt ops o (vopsF run P X G dk rnd nt ops l) T ds up M nx
    rw [vopsR_eq dk rnd nt ops l, oneR_eq]
noncomputable def regR (ih : Run) (fn : FuncId) (nt : Nat) (k : List Item) (dk : Bool) (rnd : Option Nat) (r : Option RR) : Option Res :=
  oB r fun r => RR.rec (motive := fun _ => Option Res) (fun T ds up M nx => ih fn nt T k ds .run dk rnd up M nx) (fun ch T ds up M nx => ih fn nt T [] ds (.panicking ch) dk rnd up M nx) r
theorem regR_eq (ih : Run) (fn : FuncId) (nt : Nat) (k : List Item) (dk : Bool) (rnd : Option Nat) (r : Option RR) : regR ih fn nt k dk rnd r = regF ih fn nt k dk rnd r := by
  cases r with
  | none => rfl
  | some r => cases r <;> rfl
noncomputable def exitR (id : Nat) (l : List Item) : Option (List Item) := List.rec (motive := fun _ => Option (List Item)) none
  (fun i k ih => Item.rec (motive := fun _ => Option (List Item)) (fun _ => ih) (fun id' => bI (Nat.beq id' id) (some k) ih) (fun _ => ih) (fun _ => ih) (fun _ _ => ih) (fun _ => ih) (fun _ => ih) ih (fun _ _ _ _ => ih) (fun _ _ => ih) i) l
theorem exitR_eq (id : Nat) : ∀ l : List Item, exitR id l = exitTo id l
  | [] => rfl
  | i :: k => by
    have ih := exitR_eq id k
    cases i <;> first | exact ih | skip
    rename_i id'
    show bI (Nat.beq id' id) (some k) (exitR id k) = _
    rw [bI_eq, ih]
    simp only [exitTo]
    by_cases e : id' = id
    · subst e
      have : Nat.beq id' id' = true := by rw [Nat.beq_eq]
      rw [this]; simp
    · have : Nat.beq id' id = false := by rw [← Bool.not_eq_true, Nat.beq_eq]; exact e
      rw [this]; simp [e]
abbrev CArm := Run → Program → Exts → Nat → FuncId → Nat → Tr Value → List Item → List Deferred → Bool → Option Nat → FrameMode → Tr Blk → Nat → Option Res
noncomputable def crest (c : Code) : CArm := fun ih P X G fn nt T k ds dk rnd up M nx => codeF P X G ih fn nt T c k ds dk rnd up M nx
noncomputable def condR (ih : Run) (G : Nat) (fn : FuncId) (nt : Nat) (T : Tr Value) (k : List Item) (ds : List Deferred) (dk : Bool) (rnd : Option Nat) (up : FrameMode) (M : Tr Blk) (nx : Nat) (c : Operand) (x y : Code) : Option Res := oB (opd G T c) fun v =>
  Value.rec (motive_1 := fun _ => Option Res) (motive_2 := fun _ => Unit) (motive_3 := fun _ => Unit) (fun b => ih fn nt T (.code (bI b x y) :: k) ds .run dk rnd up M nx) (fun _ _ => none) (fun _ _ => none) (fun _ _ _ => none) (fun _ => none) (fun _ => none) (fun _ _ _ => none) (fun _ => none) (fun _ => none) (fun _ _ _ _ _ => none) none (fun _ _ _ => none) none (fun _ _ => none) (fun _ _ => none) (fun _ _ => ()) () (fun _ _ _ _ => ()) v
theorem condR_eq (ih : Run) (fn : FuncId) (nt : Nat) (T : Tr Value) (k : List Item) (ds : List Deferred) (dk : Bool) (rnd : Option Nat) (up : FrameMode) (M : Tr Blk) (nx : Nat) (c : Operand) (x y : Code) : condR ih G fn nt T k ds dk rnd up M nx c x y = condF G ih fn nt T k ds dk rnd up M nx c x y := by
  unfold condR condF
  rw [opd_eq]
  cases getv G T c with
  | none => rfl
  | some v => cases v <;> first | rfl | (rename_i b; cases b <;> rfl)
noncomputable def codeR (ih : Run) (fn : FuncId) (nt : Nat) (T : Tr Value) (c : Code) (k : List Item) (ds : List Deferred) (dk : Bool) (rnd : Option Nat) (up : FrameMode) (M : Tr Blk) (nx : Nat) : Option Res :=
  Code.rec (motive := fun _ => CArm) (fun ih _ _ _ fn nt T k ds dk rnd up M nx => ih fn nt T k ds .run dk rnd up M nx)
    (fun id ops draw ih P X G fn nt T k ds dk rnd up M nx => bI draw (codeF P X G ih fn nt T (.region id ops draw) k ds dk rnd up M nx) (regR ih fn nt k dk rnd (vopsR ih P X G dk rnd nt ops ops.toList T ds up M nx)))
    (fun a b _ _ ih _ _ _ fn nt T k ds dk rnd up M nx => ih fn nt T (.code a :: .code b :: k) ds .run dk rnd up M nx)
    (fun c x y _ _ ih _ _ G fn nt T k ds dk rnd up M nx => condR ih G fn nt T k ds dk rnd up M nx c x y)
    (fun id body _ ih _ _ _ fn nt T k ds dk rnd up M nx => ih fn nt T (.code body :: .inBlock id :: k) ds .run dk rnd up M nx)
    (fun body _ ih _ _ _ fn nt T k ds dk rnd up M nx => ih fn nt T (.code body :: .inLoop body :: k) ds .run dk rnd up M nx)
    (fun f ps a b _ _ => crest (.rangeFunc f ps a b))
    (fun id ih P X G fn nt T k ds dk rnd up M nx => Option.rec (motive := fun _ => Option Res) (codeF P X G ih fn nt T (.exit id) k ds dk rnd up M nx) (fun k' => ih fn nt T k' ds .run dk rnd up M nx) (exitR id k))
    (fun body _ ih _ _ _ fn nt T k ds dk rnd up M nx => ih fn nt T (.code body :: .inScope body :: k) ds .run dk rnd up M nx)
    (fun l => crest (.label l)) (fun l => crest (.goto l)) (crest .ret) (fun w => crest (.refuse w)) c ih P X G fn nt T k ds dk rnd up M nx
theorem codeR_eq (ih : Run) (fn : FuncId) (nt : Nat) (T : Tr Value) (c : Code) (k : List Item) (ds : List Deferred) (dk : Bool) (rnd : Option Nat) (up : FrameMode) (M : Tr Blk) (nx : Nat) : codeR P X G ih fn nt T c k ds dk rnd up M nx = codeF P X G ih fn nt T c k ds dk rnd up M nx := by
  cases c <;> first | rfl | skip
  case region id ops draw =>
    cases draw with
    | true => rfl
    | false =>
      show regR ih fn nt k dk rnd (vopsR ih P X G dk rnd nt ops ops.toList T ds up M nx) = regF ih fn nt k dk rnd (vopsF ih P X G dk rnd nt ops ops.toList T ds up M nx)
      rw [regR_eq, vopsR_eq]
  case cond c x y => exact condR_eq G ih fn nt T k ds dk rnd up M nx c x y
  case exit id =>
    show Option.rec (motive := fun _ => Option Res) (codeF P X G ih fn nt T (.exit id) k ds dk rnd up M nx) (fun k' => ih fn nt T k' ds .run dk rnd up M nx) (exitR id k) = _
    rw [exitR_eq]
    simp only [codeF, exitF]
    cases exitTo id k <;> rfl
abbrev TArm := Run → Program → Exts → Nat → FuncId → Nat → Tr Value → List Deferred → Bool → Option Nat → FrameMode → Tr Blk → Nat → Option Res
noncomputable def trest (i : Item) (k : List Item) : TArm := fun ih P X G fn nt T ds dk rnd up M nx => runF P X G ih fn nt T (i :: k) ds dk rnd up M nx
noncomputable def itemR (i : Item) (k : List Item) : TArm := Item.rec (motive := fun _ => TArm) (fun c ih P X G fn nt T ds dk rnd up M nx => codeR P X G ih fn nt T c k ds dk rnd up M nx)
  (fun _ ih _ _ _ fn nt T ds dk rnd up M nx => ih fn nt T k ds .run dk rnd up M nx)
  (fun body ih _ _ _ fn nt T ds dk rnd up M nx => ih fn nt T (.code body :: .inLoop body :: k) ds .run dk rnd up M nx)
  (fun _ ih _ _ _ fn nt T ds dk rnd up M nx => ih fn nt T k ds .run dk rnd up M nx)
  (fun a b => trest (.inRegion a b) k) (fun l => trest (.inRangeFunc l) k) (fun l => trest (.endRangeFunc l) k) (trest .beginRound k) (fun a b c d => trest (.call a b c d) k) (fun a b => trest (.extern a b) k) i
theorem itemR_eq (i : Item) (k : List Item) (ih : Run) (fn : FuncId) (nt : Nat) (T : Tr Value) (ds : List Deferred) (dk : Bool) (rnd : Option Nat) (up : FrameMode) (M : Tr Blk) (nx : Nat) : itemR i k ih P X G fn nt T ds dk rnd up M nx = runF P X G ih fn nt T (i :: k) ds dk rnd up M nx := by
  cases i <;> first | rfl | skip
  exact codeR_eq P X G ih fn nt T _ k ds dk rnd up M nx
noncomputable def turnR (ih : Run) (fn : FuncId) (nt : Nat) (T : Tr Value) (todo : List Item) (ds : List Deferred) (mode : FrameMode) (dk : Bool) (rnd : Option Nat) (up : FrameMode) (M : Tr Blk) (nx : Nat) : Option Res :=
  FrameMode.rec (motive := fun _ => Option Res) (List.rec (motive := fun _ => Option Res) (runF P X G ih fn nt T [] ds dk rnd up M nx) (fun i k _ => itemR i k ih P X G fn nt T ds dk rnd up M nx) todo)
    (turnF P X G ih fn nt T todo ds .returning dk rnd up M nx) (fun ch => turnF P X G ih fn nt T todo ds (.panicking ch) dk rnd up M nx) mode
theorem turnR_eq (ih : Run) (fn : FuncId) (nt : Nat) (T : Tr Value) (todo : List Item) (ds : List Deferred) (mode : FrameMode) (dk : Bool) (rnd : Option Nat) (up : FrameMode) (M : Tr Blk) (nx : Nat) : turnR P X G ih fn nt T todo ds mode dk rnd up M nx = turnF P X G ih fn nt T todo ds mode dk rnd up M nx := by
  cases mode with
  | returning => rfl
  | panicking ch => rfl
  | run =>
    cases todo with
    | nil => rfl
    | cons i k => exact itemR_eq P X G i k ih fn nt T ds dk rnd up M nx
noncomputable def vrunR (n : Nat) : Run := Nat.rec (motive := fun _ => Run) (fun _ _ _ _ _ _ _ _ _ _ _ => none) (fun _ ih fn nt T todo ds mode dk rnd up M nx => turnR P X G ih fn nt T todo ds mode dk rnd up M nx) n
theorem vrunR_eq : ∀ (n : Nat), callOf (vrunR P X G n) = vrun P X G n
  | 0 => rfl
  | n + 1 => by
    have ih := vrunR_eq n
    funext fr
    rw [vrun_succ, ← ih]
    obtain ⟨fn, nt, T, todo, ds, mode, dk, rnd, up, M, nx⟩ := fr
    show turnR P X G (vrunR P X G n) fn nt T todo ds mode dk rnd up M nx = _
    rw [turnR_eq, turnF_eq]
    rfl
end

/-- A call of function f, by the interpreter's second form, is true (false). -/
noncomputable def ranR (P : Program) (X : Exts) (G n : Nat) (tabs : List (Nat × List Value)) (f : FuncId) (args : List Value) (t : Bool) : Bool := match enterFr P f args false .run (Mof tabs) G with
  | some fr => answers t (callOf (vrunR P X G n) fr)
  | none => false
theorem ranR_eq {P : Program} {X : Exts} {G n : Nat} {tabs : List (Nat × List Value)} {f : FuncId} {args : List Value} {t : Bool} (h : ranR P X G n tabs f args t = true) : ran P X G n tabs f args t = true := by
  unfold ranR at h
  unfold ran
  rw [vrunR_eq] at h
  exact h
end Go.Proofs.YtjbanjpklgpenaaGreatDoor.Vm
