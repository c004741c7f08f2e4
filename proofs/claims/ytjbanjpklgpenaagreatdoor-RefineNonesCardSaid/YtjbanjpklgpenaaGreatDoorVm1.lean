/-
  THE ABSTRACT INTERPRETER, part 1 of its second form: the same answers, quicker for the kernel: each arm of its own, no records passed on.
-/
import Derived.Test.YtjbanjpklgpenaaGreatDoorVmZ
namespace Go.Proofs.YtjbanjpklgpenaaGreatDoor.Vm

abbrev Run := FuncId → Nat → Tr Value → List Item → List Deferred → FrameMode → Bool → Option Nat → FrameMode → Tr Blk → Nat → Option Res
def callOf (run : Run) (fr : Fr) : Option Res := run fr.fn fr.nt fr.T fr.todo fr.ds fr.mode fr.dk fr.rnd fr.up fr.M fr.nx

noncomputable def lift3 (M : Tr Blk) (nx : Nat) : Option Value → Option (Value × Tr Blk × Nat)
  | some v => some (v, M, nx)
  | none => none
noncomputable def kQ (ds : List Deferred) (up : FrameMode) (M : Tr Blk) (nx : Nat) : Option Value → Option OpR
  | some v => some (.ok v ds up M nx)
  | none => none
noncomputable def kQ3 (ds : List Deferred) (up : FrameMode) : Option (Value × Tr Blk × Nat) → Option OpR
  | some (v, M, nx) => some (.ok v ds up M nx)
  | none => none

section
variable (P : Program) (G : Nat) (T : Tr Value)
noncomputable def qPick (c a b : Operand) : Option Value := match getv G T c with
    | some (.bool true) => getv G T a
    | some (.bool false) => getv G T b
    | _ => none
noncomputable def qBin (op : BinOp) (t : TypeId) (x y : Operand) : Option Value := match getv G T x, getv G T y with
    | some a, some b => aBin P op t (isConst x || isConst y) a b
    | _, _ => none
noncomputable def qUn (op : UnOp) (x : Operand) : Option Value := match getv G T x with
    | some a => aUn op a
    | none => none
noncomputable def qConv (s d : TypeId) (x : Operand) : Option Value := match getv G T x with
    | some a => aConv P s d a
    | none => none
noncomputable def qIface (t : TypeId) (x : Operand) : Option Value := match P.underlying t, getv G T x with
    | some (.interface _), _ => none
    | some _, some v => some (.iface t v)
    | _, _ => none
noncomputable def qFunc (fn : Fn) (first cap : Array Operand) : Option Value := match plainFn fn, getvs G T first.toList, getvs G T cap.toList with
    | true, some xs, some ys => some (.func fn xs.toArray ys.toArray)
    | _, _, _ => none
noncomputable def qFieldAddr (s : TypeId) (x : Operand) (f : Nat) : Option Value := match getv G T x with
    | some a => aFieldAddr P s a f
    | none => none
noncomputable def qField (t : TypeId) (x : Operand) (f : Nat) : Option Value := match getv G T x with
    | some a => aField P t a f
    | none => none
noncomputable def qIndexAddr (t : TypeId) (x i : Operand) : Option Value := match getv G T x, getv G T i with
    | some a, some b => aIndexAddr P t a b
    | _, _ => none
noncomputable def qIndex (t : TypeId) (x i : Operand) : Option Value := match getv G T x, getv G T i with
    | some a, some b => aIndex P t a b
    | _, _ => none
noncomputable def qExtract (x : Operand) (i : Nat) : Option Value := match getv G T x with
    | some a => aExtract a i
    | none => none
noncomputable def qBuild (t : TypeId) (parts : Array (Nat × Operand)) : Option Value := match getps G T parts.toList with
    | some ps => aBuild P t ps
    | none => none
noncomputable def qSlice (t : TypeId) (x : Operand) (lo hi : Option Operand) : Option Value := match getv G T x, geto G T lo, geto G T hi with
    | some a, some l, some h => aSlice P t a l h
    | _, _, _ => none
noncomputable def qSlice3 (t : TypeId) (x : Operand) (lo hi : Option Operand) (mx : Operand) : Option Value := match getv G T x, geto G T lo, geto G T hi, getv G T mx with
    | some a, some l, some h, some m => aSlice3 P t a l h m
    | _, _, _, _ => none
noncomputable def qNil (x : Operand) : Option Value := match getv G T x with
    | some (.pointer (some a)) => some (.pointer (some a))
    | some (.iface t v) => some (.iface t v)
    | some (.func (.func f) a b) => some (.func (.func f) a b)
    | _ => none
noncomputable def qAssert (x : Operand) (t : TypeId) (ok : Bool) : Option Value := match getv G T x with
    | some a => aAssert P a t ok
    | none => none
noncomputable def qBuiltin (c : Call) : Option Value := match c.callee, c.argTypes.toList, getvs G T c.args.toList with
    | .builtin .len, [t], some [x] => aLen P t x
    | .builtin .max, _, some xs => aMax xs
    | .builtin .min, _, some xs => aMin xs
    | _, _, _ => none
variable (M : Tr Blk) (nx : Nat)
noncomputable def qLoad (t : TypeId) (a : Operand) : Option Value := match getv G T a with
    | some v => aLoad P M t v
    | none => none
noncomputable def qLookup (t : TypeId) (m k : Operand) (ok : Bool) : Option Value := match getv G T m, getv G T k with
    | some a, some b => aLookup P M t a b ok
    | _, _ => none
noncomputable def qBox (x : Operand) : Option (Value × Tr Blk × Nat) := match getv G T x with
    | some v => some (aBox M nx v)
    | none => some (aBoxU M nx)
noncomputable def qBuildSlice (t : TypeId) (len : Nat) (parts : Array (Nat × Operand)) : Option (Value × Tr Blk × Nat) := match getps G T parts.toList with
    | some ps => aBuildSlice P M nx t len ps
    | none => none
noncomputable def qMakeSlice (t : TypeId) (l c : Operand) : Option (Value × Tr Blk × Nat) := match getv G T l, getv G T c with
    | some a, some b => aMakeSlice P M nx t a b
    | _, _ => none

noncomputable def aquietF (op : Op) : Option (Value × Tr Blk × Nat) := match op with
  | .move x => lift3 M nx (getv G T x)
  | .assign x => lift3 M nx (getv G T x)
  | .pick c a b => lift3 M nx (qPick G T c a b)
  | .binOp op t x y _ => lift3 M nx (qBin P G T op t x y)
  | .unOp op _ x => lift3 M nx (qUn G T op x)
  | .convert s d x => lift3 M nx (qConv P G T s d x)
  | .makeInterface t x => lift3 M nx (qIface P G T t x)
  | .makeFunc fn first cap => lift3 M nx (qFunc G T fn first cap)
  | .fieldAddr s x f => lift3 M nx (qFieldAddr P G T s x f)
  | .field t x f => lift3 M nx (qField P G T t x f)
  | .indexAddr t x i => lift3 M nx (qIndexAddr P G T t x i)
  | .index t x i => lift3 M nx (qIndex P G T t x i)
  | .extract x i => lift3 M nx (qExtract G T x i)
  | .build t parts => lift3 M nx (qBuild P G T t parts)
  | .slice t x lo hi none => lift3 M nx (qSlice P G T t x lo hi)
  | .slice t x lo hi (some mx) => lift3 M nx (qSlice3 P G T t x lo hi mx)
  | .nilCheck x => lift3 M nx (qNil G T x)
  | .typeAssert x _ t ok => lift3 M nx (qAssert P G T x t ok)
  | .call c => lift3 M nx (qBuiltin P G T c)
  | .load t a => lift3 M nx (qLoad P G T M t a)
  | .lookup t m k ok => lift3 M nx (qLookup P G T M t m k ok)
  | .alloc elem => aAlloc P M nx elem
  | .box _ x => qBox G T M nx x
  | .buildSlice t len parts => qBuildSlice P G T M nx t len parts
  | .makeSlice t l c => qMakeSlice P G T M nx t l c
  | .makeMap _ none => some (aMakeMap M nx)
  | _ => none
theorem aquietF_eq (op : Op) : aquietF P G T M nx op = aquiet P G T M nx op := by
  cases op
  case slice t x lo hi mx => cases mx <;> rfl
  case makeMap t r => cases r <;> rfl
  case load t a => simp only [aquietF, aquiet, qLoad]; cases getv G T a with | none => rfl | some v => (simp only; cases aLoad P M t v <;> rfl)
  case lookup t m k ok =>
    simp only [aquietF, aquiet, qLookup]
    cases getv G T m with
    | none => rfl
    | some a => cases getv G T k with
      | none => rfl
      | some b => (simp only; cases aLookup P M t a b ok <;> rfl)
  all_goals rfl
end

/-! ### one operation -/
section
variable (run : Run) (P : Program) (X : Exts) (G : Nat)
noncomputable def kRet (ds : List Deferred) (up : FrameMode) : Option Res → Option OpR
  | some (.ret v _ M' nx') => some (.ok v ds up M' nx')
  | some (.pan ch _ M' nx') => some (.pan ch up M' nx')
  | none => none
noncomputable def kEnter (f : FuncId) (as : List Value) (ds : List Deferred) (up : FrameMode) (M : Tr Blk) (nx : Nat) : Option OpR := match X.sm f as M nx with
  | some (v, M', nx') => some (.ok v ds up M' nx')
  | none => (match P.funcs[f]? with
    | some fn => (match fn.body with
      | some c => kRet ds up (run f (as.length + (fn.ntmps - as.length)) (putArgs as 0 .nil) [.code c] [] .run false none .run M nx)
      | none => none)
    | none => none)
noncomputable def kRound (l : Nat) (as : List Value) (ds : List Deferred) (up : FrameMode) (M : Tr Blk) (nx : Nat) : Option OpR := match M.get (l / 256) with
  | some (.loop al) => (match putPs al.params as al.nt al.T with
    | some T => kRet ds up (run al.fn al.nt T [.code al.assign, .beginRound, .code al.body] [] .run false (some l) .run M nx)
    | none => none)
  | _ => none
noncomputable def kRecover (dk : Bool) (rnd : Option Nat) (ds : List Deferred) (up : FrameMode) (M : Tr Blk) (nx : Nat) : Option OpR := match rnd, dk, up with
  | none, true, .panicking ({ v, recovered := false, goexit := false } :: older) => some (.ok v ds (.panicking ({ v, recovered := true } :: older)) M nx)
  | none, true, _ => some (.ok .nilIface ds up M nx)
  | none, false, _ => some (.ok .nilIface ds up M nx)
  | _, _, _ => none
noncomputable def kStore (T : Tr Value) (ds : List Deferred) (up : FrameMode) (M : Tr Blk) (nx : Nat) (t : TypeId) (a x : Operand) : Option OpR := match getv G T a, getv G T x with
  | some b, some v => (match aStore P M t b v with
    | some M' => some (.ok undef ds up M' nx)
    | none => none)
  | _, _ => none
noncomputable def kInsert (T : Tr Value) (ds : List Deferred) (up : FrameMode) (M : Tr Blk) (nx : Nat) (t : TypeId) (m k x : Operand) : Option OpR := match getv G T m, getv G T k, getv G T x with
  | some a, some b, some c => (match aMapNew P M t a b c with
    | some M' => some (.ok undef ds up M' nx)
    | none => none)
  | _, _, _ => none
noncomputable def kAppend (T : Tr Value) (ds : List Deferred) (up : FrameMode) (M : Tr Blk) (nx : Nat) (c : Call) : Option OpR := match getvs G T c.args.toList with
  | some [d, s] => (match c.argTypes.toList with
    | [t, t'] => bif Nat.beq t t' then kQ3 ds up (aAppend P M nx t d s) else kQ3 ds up (aAppendS P M nx t t' d s)
    | _ => none)
  | _ => none
noncomputable def kApply (T : Tr Value) (ds : List Deferred) (up : FrameMode) (M : Tr Blk) (nx : Nat) (f : Operand) (args : Array Operand) : Option OpR := match getvs G T args.toList with
  | some as => (match getv G T f with
    | some (.func (.func g) first cap) => (match X.fn g with
      | some e => kQ ds up M nx (e (first.toList ++ as ++ cap.toList))
      | none => kEnter run P X g (first.toList ++ as ++ cap.toList) ds up M nx)
    | some (.func (.yield l) _ _) => kRound run l as ds up M nx
    | _ => none)
  | none => none
noncomputable def kInvoke (T : Tr Value) (ds : List Deferred) (up : FrameMode) (M : Tr Blk) (nx : Nat) (r : Operand) (name : String) (args : Array Operand) : Option OpR := match getvs G T args.toList with
  | some as => (match getv G T r with
    | some (.iface t v) => (match aMethod P t name with
      | some f => (match X.fn f with
        | some _ => none
        | none => kEnter run P X f (v :: as) ds up M nx)
      | none => none)
    | _ => none)
  | none => none
noncomputable def kDefer (rnd : Option Nat) (T : Tr Value) (ds : List Deferred) (up : FrameMode) (M : Tr Blk) (nx : Nat) (c : Call) : Option OpR := match aeff P X G T M nx (.defer c) with
  | some (.defer d) => (match rnd with
    | none => some (.ok undef (d :: ds) up M nx)
    | some _ => none)
  | _ => none
noncomputable def kConv (T : Tr Value) (ds : List Deferred) (up : FrameMode) (M : Tr Blk) (nx : Nat) (s d : TypeId) (x : Operand) : Option OpR := match qConv P G T s d x with
  | some v => some (.ok v ds up M nx)
  | none => (match getv G T x with
    | some a => kQ3 ds up (aConvM P M nx s d a)
    | none => none)
noncomputable def kPanic (T : Tr Value) (up : FrameMode) (M : Tr Blk) (nx : Nat) (x : Operand) : Option OpR := match getv G T x with
  | some (.iface t v) => some (.pan [{ v := .iface t v, recovered := false }] up M nx)
  | _ => none
noncomputable def kCall (dk : Bool) (rnd : Option Nat) (T : Tr Value) (ds : List Deferred) (up : FrameMode) (M : Tr Blk) (nx : Nat) (c : Call) : Option OpR := match c.callee with
  | .value f => kApply run P X G T ds up M nx f c.args
  | .invoke r name => kInvoke run P X G T ds up M nx r name c.args
  | .builtin .append => kAppend P G T ds up M nx c
  | .builtin .recover => (match getvs G T c.args.toList with
    | some _ => kRecover dk rnd ds up M nx
    | none => kRecover dk rnd ds up M nx)
  | .builtin b => kQ ds up M nx (qBuiltin P G T c)

noncomputable def vopF (dk : Bool) (rnd : Option Nat) (T : Tr Value) (ds : List Deferred) (up : FrameMode) (M : Tr Blk) (nx : Nat) (op : Op) : Option OpR := match op with
  | .move x => kQ ds up M nx (getv G T x)
  | .assign x => kQ ds up M nx (getv G T x)
  | .binOp op t x y _ => kQ ds up M nx (qBin P G T op t x y)
  | .convert s d x => kConv P G T ds up M nx s d x
  | .fieldAddr s x f => kQ ds up M nx (qFieldAddr P G T s x f)
  | .field t x f => kQ ds up M nx (qField P G T t x f)
  | .indexAddr t x i => kQ ds up M nx (qIndexAddr P G T t x i)
  | .extract x i => kQ ds up M nx (qExtract G T x i)
  | .load t a => kQ ds up M nx (qLoad P G T M t a)
  | .store t a x => kStore P G T ds up M nx t a x
  | .insert t m k x => kInsert P G T ds up M nx t m k x
  | .call c => kCall run P X G dk rnd T ds up M nx c
  | .defer c => kDefer P X G rnd T ds up M nx c
  | .panic x => kPanic G T up M nx x
  | op => kQ3 ds up (aquietF P G T M nx op)

theorem vop_pure {call : Fr → Option Res} {dk : Bool} {rnd : Option Nat} {T : Tr Value} {ds : List Deferred} {up : FrameMode} {M : Tr Blk} {nx : Nat} {op : Op} {o : Option Value} (h1 : aquiet P G T M nx op = lift3 M nx o) (h2 : aeff P X G T M nx op = none) :
    kQ ds up M nx o = vop call P X G dk rnd T ds up M nx op := by
  unfold vop
  rw [h1, h2]
  cases o <;> rfl
theorem vop_quiet {call : Fr → Option Res} {dk : Bool} {rnd : Option Nat} {T : Tr Value} {ds : List Deferred} {up : FrameMode} {M : Tr Blk} {nx : Nat} {op : Op} (h2 : aeff P X G T M nx op = none) :
    kQ3 ds up (aquietF P G T M nx op) = vop call P X G dk rnd T ds up M nx op := by
  unfold vop
  rw [aquietF_eq, h2]
  cases aquiet P G T M nx op <;> rfl

theorem kEnter_eq (f : FuncId) (as : List Value) (ds : List Deferred) (up : FrameMode) (M : Tr Blk) (nx : Nat) : kEnter run P X f as ds up M nx = (match X.sm f as M nx with
      | some (v, M', nx') => some (.ok v ds up M' nx')
      | none => (match enterFr P f as false .run M nx with
        | some fr => (match callOf run fr with
          | some (.ret v _ M' nx') => some (.ok v ds up M' nx')
          | some (.pan ch _ M' nx') => some (.pan ch up M' nx')
          | none => none)
        | none => none)) := by
  unfold kEnter enterFr
  cases X.sm f as M nx with
  | some r => rfl
  | none =>
    simp only
    cases P.funcs[f]? with
    | none => rfl
    | some fn => (simp only; cases fn.body <;> rfl)
theorem kRound_eq (l : Nat) (as : List Value) (ds : List Deferred) (up : FrameMode) (M : Tr Blk) (nx : Nat) : kRound run l as ds up M nx = (match M.get (l / 256) with
      | some (.loop al) => (match roundFr al l as M nx with
        | some fr => (match callOf run fr with
          | some (.ret v _ M' nx') => some (.ok v ds up M' nx')
          | some (.pan ch _ M' nx') => some (.pan ch up M' nx')
          | none => none)
        | none => none)
      | _ => none) := by
  unfold kRound roundFr
  cases M.get (l / 256) with
  | none => rfl
  | some x => cases x <;> first | rfl | (rename_i al; simp only; cases putPs al.params as al.nt al.T <;> rfl)

theorem vopF_eq (dk : Bool) (rnd : Option Nat) (T : Tr Value) (ds : List Deferred) (up : FrameMode) (M : Tr Blk) (nx : Nat) (op : Op) : vopF run P X G dk rnd T ds up M nx op = vop (callOf run) P X G dk rnd T ds up M nx op := by
  cases op
  case load t a => exact vop_pure (P := P) (X := X) (G := G) (op := .load t a) (by rw [← aquietF_eq]; rfl) rfl
  case store t a x =>
    unfold vop
    rw [show aquiet P G T M nx (.store t a x) = none from rfl]
    simp only [vopF, kStore, aeff]
    cases getv G T a with
    | none => rfl
    | some b => cases getv G T x with
      | none => rfl
      | some v => (simp only; cases aStore P M t b v <;> rfl)
  case insert t m k x =>
    unfold vop
    rw [show aquiet P G T M nx (.insert t m k x) = none from rfl]
    simp only [vopF, kInsert, aeff]
    cases getv G T m with
    | none => rfl
    | some a => cases getv G T k with
      | none => rfl
      | some b => cases getv G T x with
        | none => rfl
        | some c => (simp only; cases aMapNew P M t a b c <;> rfl)
  case call c =>
    unfold vop
    have hq : aquiet P G T M nx (.call c) = lift3 M nx (qBuiltin P G T c) := rfl
    rw [hq]
    simp only [vopF, kCall]
    cases hc : c.callee with
    | value f =>
      have h0 : qBuiltin P G T c = none := by simp only [qBuiltin, hc]
      rw [h0]
      simp only [lift3, aeff, hc, kApply]
      cases getvs G T c.args.toList with
      | none => rfl
      | some as =>
        simp only
        cases getv G T f with
        | none => rfl
        | some fv =>
          simp only [acall]
          split
          · rename_i g first cap e
            simp only [Option.some.injEq] at e
            subst e
            simp only
            cases hX : X.fn g with
            | none => (simp only [kEnter_eq]; rfl)
            | some e => (simp only; cases e (first.toList ++ as ++ cap.toList) <;> rfl)
          · rename_i l xs ys e
            simp only [Option.some.injEq] at e
            subst e
            simp only [kRound_eq]; rfl
          · rename_i h1 h2
            cases fv <;> first | rfl | (rename_i fn _ _; cases fn <;> first | rfl | exact (h1 _ _ _ rfl).elim | exact (h2 _ _ _ rfl).elim)
    | invoke r m =>
      have h0 : qBuiltin P G T c = none := by simp only [qBuiltin, hc]
      rw [h0]
      simp only [lift3, aeff, hc, kInvoke]
      cases getvs G T c.args.toList with
      | none => rfl
      | some as =>
        simp only
        cases getv G T r with
        | none => rfl
        | some v =>
          cases v <;> first | rfl | skip
          rename_i t v
          simp only
          cases aMethod P t m with
          | none => rfl
          | some f =>
            simp only
            cases hX : X.fn f with
            | some e => rfl
            | none => (simp only [kEnter_eq]; rfl)
    | builtin bi =>
      cases bi <;> try (simp only [aeff, hc, lift3]; cases qBuiltin P G T c <;> rfl)
      case append =>
        have h0 : qBuiltin P G T c = none := by simp only [qBuiltin, hc]
        rw [h0]
        simp only [lift3, aeff, hc, kAppend]
        generalize getvs G T c.args.toList = g
        generalize c.argTypes.toList = l
        rcases g with _ | (_ | ⟨d, (_ | ⟨s, (_ | ⟨z, zs⟩)⟩)⟩) <;> try rfl
        rcases l with _ | ⟨t, (_ | ⟨t', (_ | ⟨y, ys⟩)⟩)⟩ <;> try rfl
        simp only
        cases Nat.beq t t' with
        | false => (simp only [cond_false]; cases aAppendS P M nx t t' d s <;> rfl)
        | true => (simp only [cond_true]; cases aAppend P M nx t d s <;> rfl)
      case recover =>
        have h0 : qBuiltin P G T c = none := by simp only [qBuiltin, hc]
        rw [h0]
        simp only [lift3, aeff, hc, kRecover]
        cases getvs G T c.args.toList <;> rfl
  case defer c =>
    unfold vop
    rw [show aquiet P G T M nx (.defer c) = none from rfl]
    have h : aeff P X G T M nx (.defer c) = none ∨ ∃ d, aeff P X G T M nx (.defer c) = some (.defer d) := by
      simp only [aeff]
      split
      · split
        · rename_i fn first cap _
          cases plainFn fn with
          | false => exact .inl rfl
          | true => exact .inr ⟨_, rfl⟩
        · exact .inl rfl
      · exact .inl rfl
    simp only [vopF, kDefer]
    rcases h with h | ⟨d, h⟩
    · rw [h]
    · rw [h]
      cases rnd <;> rfl
  case convert s d x =>
    unfold vop
    rw [show aquiet P G T M nx (.convert s d x) = lift3 M nx (qConv P G T s d x) from rfl]
    simp only [vopF, kConv, aeff]
    cases qConv P G T s d x with
    | some v => rfl
    | none =>
      simp only [lift3]
      cases getv G T x with
      | none => rfl
      | some a => (simp only; cases aConvM P M nx s d a <;> rfl)
  case panic x =>
    unfold vop
    rw [show aquiet P G T M nx (.panic x) = none from rfl]
    simp only [vopF, kPanic, aeff]
    cases getv G T x with
    | none => rfl
    | some v => cases v <;> rfl
  all_goals first | exact vop_pure (P := P) (X := X) (G := G) rfl rfl | (simp only [vopF]; refine vop_quiet (P := P) (X := X) (G := G) ?_; rfl)
end
end Go.Proofs.YtjbanjpklgpenaaGreatDoor.Vm
