/-
  THE ABSTRACT INTERPRETER, part 1 of its second form: the same answers, quicker for the kernel: each arm of its own, no records passed on.
  THE ABSTRACT INTERPRETER, part 3 of its second form: raw eliminators in place of matches, for the operations that are met most often; they answer as the matches do.
  THE ABSTRACT INTERPRETER, part 4 of its second form: one operation, by raw eliminators.
-/
import Derived.Test.YtihloomkgpflmaaGreatDoorV8
set_option linter.unusedSimpArgs false
set_option linter.unusedVariables false
namespace Go.Proofs.YtihloomkgpflmaaGreatDoor.Vm

abbrev Run := FuncId → Nat → Tr Value → List Item → List Deferred → FrameMode → Bool → Option Nat → FrameMode → Tr Blk → Nat → Option Res
def callOf (run : Run) (fr : Fr) : Option Res := run fr.fn fr.nt fr.T fr.todo fr.ds fr.mode fr.dk fr.rnd fr.up fr.M fr.nx

noncomputable def lift3 (M : Tr Blk) (nx : Nat) : Option Value → Option (Value × Tr Blk × Nat)
  | some v => some (v, M, nx)
  | none => none
noncomputable def kQ (ds : List Deferred) (up : FrameMode) (M : Tr Blk) (nx : Nat) : Option Value → Option OpR
  | some v => some (.ok v ds up M nx)
  | none => none
noncomputable def kQ3 (ds : List Deferred) (up : FrameMode) : Option (Value × Tr Blk × Nat) → Option OpR
  | some (v, M, nx) => some (.ok v ds up M nx)
  | none => none

section
variable (P : Program) (G : Nat) (T : Tr Value)
noncomputable def qPick (c a b : Operand) : Option Value := match getv G T c with
    | some (.bool true) => getv G T a
    | some (.bool false) => getv G T b
    | _ => none
noncomputable def qBin (op : BinOp) (t : TypeId) (x y : Operand) : Option Value := match getv G T x, getv G T y with
    | some a, some b => aBin P op t (isConst x || isConst y) a b
    | _, _ => none
noncomputable def qUn (op : UnOp) (x : Operand) : Option Value := match getv G T x with
    | some a => aUn op a
    | none => none
noncomputable def qConv (s d : TypeId) (x : Operand) : Option Value := match getv G T x with
    | some a => aConv P s d a
    | none => none
noncomputable def qIface (t : TypeId) (x : Operand) : Option Value := match P.underlying t, getv G T x with
    | some (.interface _), _ => none
    | some _, some v => some (.iface t v)
    | _, _ => none
noncomputable def qFunc (fn : Fn) (first cap : Array Operand) : Option Value := match plainFn fn, getvs G T first.toList, getvs G T cap.toList with
    | true, some xs, some ys => some (.func fn xs.toArray ys.toArray)
    | _, _, _ => none
noncomputable def qFieldAddr (s : TypeId) (x : Operand) (f : Nat) : Option Value := match getv G T x with
    | some a => aFieldAddr P s a f
    | none => none
noncomputable def qField (t : TypeId) (x : Operand) (f : Nat) : Option Value := match getv G T x with
    | some a => aField P t a f
    | none => none
noncomputable def qIndexAddr (t : TypeId) (x i : Operand) : Option Value := match getv G T x, getv G T i with
    | some a, some b => aIndexAddr P t a b
    | _, _ => none
noncomputable def qIndex (t : TypeId) (x i : Operand) : Option Value := match getv G T x, getv G T i with
    | some a, some b => aIndex P t a b
    | _, _ => none
noncomputable def qExtract (x : Operand) (i : Nat) : Option Value := match getv G T x with
    | some a => aExtract a i
    | none => none
noncomputable def qBuild (t : TypeId) (parts : Array (Nat × Operand)) : Option Value := match getps G T parts.toList with
    | some ps => aBuild P t ps
    | none => none
noncomputable def qSlice (t : TypeId) (x : Operand) (lo hi : Option Operand) : Option Value := match getv G T x, geto G T lo, geto G T hi with
    | some a, some l, some h => aSlice P t a l h
    | _, _, _ => none
noncomputable def qSlice3 (t : TypeId) (x : Operand) (lo hi : Option Operand) (mx : Operand) : Option Value := match getv G T x, geto G T lo, geto G T hi, getv G T mx with
    | some a, some l, some h, some m => aSlice3 P t a l h m
    | _, _, _, _ => none
noncomputable def qNil (x : Operand) : Option Value := match getv G T x with
    | some (.pointer (some a)) => some (.pointer (some a))
    | some (.iface t v) => some (.iface t v)
    | some (.func (.func f) a b) => some (.func (.func f) a b)
    | some v => (match fptrOf v with
      | some _ => some v
      | none => none)
    | _ => none
noncomputable def qAssert (x : Operand) (t : TypeId) (ok : Bool) : Option Value := match getv G T x with
    | some a => aAssert P a t ok
    | none => none
noncomputable def qBuiltin (c : Call) : Option Value := match c.callee, c.argTypes.toList, getvs G T c.args.toList with
    | .builtin .len, [t], some [x] => aLen P t x
    | .builtin .max, _, some xs => aMax xs
    | .builtin .min, _, some xs => aMin xs
    | _, _, _ => none
variable (M : Tr Blk) (nx : Nat)
noncomputable def qLoad (t : TypeId) (a : Operand) : Option Value := match getv G T a with
    | some v => aLoad P M t v
    | none => none
noncomputable def qLookup (t : TypeId) (m k : Operand) (ok : Bool) : Option Value := match getv G T m, getv G T k with
    | some a, some b => aLookup P M t a b ok
    | _, _ => none
noncomputable def qBox (x : Operand) : Option (Value × Tr Blk × Nat) := match getv G T x with
    | some v => some (aBox M nx v)
    | none => some (aBoxU M nx)
noncomputable def qBuildSlice (t : TypeId) (len : Nat) (parts : Array (Nat × Operand)) : Option (Value × Tr Blk × Nat) := match getps G T parts.toList with
    | some ps => aBuildSlice P M nx t len ps
    | none => none
noncomputable def qMakeSlice (t : TypeId) (l c : Operand) : Option (Value × Tr Blk × Nat) := match getv G T l, getv G T c with
    | some a, some b => aMakeSlice P M nx t a b
    | _, _ => none

noncomputable def aquietF (op : Op) : Option (Value × Tr Blk × Nat) := match op with
  | .move x => lift3 M nx (getv G T x)
  | .assign x => lift3 M nx (getv G T x)
  | .pick c a b => lift3 M nx (qPick G T c a b)
  | .binOp op t x y _ => lift3 M nx (qBin P G T op t x y)
  | .unOp op _ x => lift3 M nx (qUn G T op x)
  | .convert s d x => lift3 M nx (qConv P G T s d x)
  | .makeInterface t x => lift3 M nx (qIface P G T t x)
  | .makeFunc fn first cap => lift3 M nx (qFunc G T fn first cap)
  | .fieldAddr s x f => lift3 M nx (qFieldAddr P G T s x f)
  | .field t x f => lift3 M nx (qField P G T t x f)
  | .indexAddr t x i => lift3 M nx (qIndexAddr P G T t x i)
  | .index t x i => lift3 M nx (qIndex P G T t x i)
  | .extract x i => lift3 M nx (qExtract G T x i)
  | .build t parts => lift3 M nx (qBuild P G T t parts)
  | .slice t x lo hi none => lift3 M nx (qSlice P G T t x lo hi)
  | .slice t x lo hi (some mx) => lift3 M nx (qSlice3 P G T t x lo hi mx)
  | .nilCheck x => lift3 M nx (qNil G T x)
  | .typeAssert x _ t ok => lift3 M nx (qAssert P G T x t ok)
  | .call c => lift3 M nx (qBuiltin P G T c)
  | .load t a => lift3 M nx (qLoad P G T M t a)
  | .lookup t m k ok => lift3 M nx (qLookup P G T M t m k ok)
  | .alloc elem => aAlloc P M nx elem
  | .box _ x => qBox G T M nx x
  | .buildSlice t len parts => qBuildSlice P G T M nx t len parts
  | .makeSlice t l c => qMakeSlice P G T M nx t l c
  | .makeMap _ none => some (aMakeMap M nx)
  | _ => none
theorem aquietF_eq (op : Op) : aquietF P G T M nx op = aquiet P G T M nx op := by
  cases op
  case slice t x lo hi mx => cases mx <;> rfl
  case makeMap t r => cases r <;> rfl
  case load t a => simp only [aquietF, aquiet, qLoad]; cases getv G T a with | none => rfl | some v => (simp only; cases aLoad P M t v <;> rfl)
  case lookup t m k ok =>
    simp only [aquietF, aquiet, qLookup]
    cases getv G T m with
    | none => rfl
    | some a => cases getv G T k with
      | none => rfl
      | some b => (simp only; cases aLookup P M t a b ok <;> rfl)
  all_goals rfl
end

/-! ### one operation -/
section
variable (run : Run) (P : Program) (X : Exts) (G : Nat)
noncomputable def kRet (ds : List Deferred) (up : FrameMode) : Option Res → Option OpR
  | some (.ret v _ M' nx') => some (.ok v ds up M' nx')
  | some (.pan ch _ M' nx') => some (.pan ch up M' nx')
  | none => none
noncomputable def kEnter (f : FuncId) (as : List Value) (ds : List Deferred) (up : FrameMode) (M : Tr Blk) (nx : Nat) : Option OpR := match X.pf f with
  | some e => (match e as with
    | some v => some (.ok v ds up M nx)
    | none => none)
  | none => (match X.sm f as M nx with
    | some (v, M', nx') => some (.ok v ds up M' nx')
    | none => (match P.funcs[f]? with
      | some fn => (match fn.body with
        | some c => kRet ds up (run f (as.length + (fn.ntmps - as.length)) (putArgs as 0 .nil) [.code c] [] .run false none .run M nx)
        | none => none)
      | none => none))
noncomputable def kRound (l : Nat) (as : List Value) (ds : List Deferred) (up : FrameMode) (M : Tr Blk) (nx : Nat) : Option OpR := match M.get (l / 256) with
  | some (.loop al) => (match putPs al.params as al.nt al.T with
    | some T => kRet ds up (run al.fn al.nt T [.code al.assign, .beginRound, .code al.body] [] .run false (some l) .run M nx)
    | none => none)
  | _ => none
noncomputable def kRecover (dk : Bool) (rnd : Option Nat) (ds : List Deferred) (up : FrameMode) (M : Tr Blk) (nx : Nat) : Option OpR := match rnd, dk, up with
  | none, true, .panicking ({ v, recovered := false, goexit := false } :: older) => some (.ok v ds (.panicking ({ v, recovered := true } :: older)) M nx)
  | none, true, _ => some (.ok .nilIface ds up M nx)
  | none, false, _ => some (.ok .nilIface ds up M nx)
  | _, _, _ => none
noncomputable def kStore (T : Tr Value) (ds : List Deferred) (up : FrameMode) (M : Tr Blk) (nx : Nat) (t : TypeId) (a x : Operand) : Option OpR := match getv G T a, getv G T x with
  | some b, some v => (match aStore P M t b v with
    | some M' => some (.ok undef ds up M' nx)
    | none => none)
  | _, _ => none
noncomputable def kInsert (T : Tr Value) (ds : List Deferred) (up : FrameMode) (M : Tr Blk) (nx : Nat) (t : TypeId) (m k x : Operand) : Option OpR := match getv G T m, getv G T k, getv G T x with
  | some a, some b, some c => (match aMapNew P M t a b c with
    | some M' => some (.ok undef ds up M' nx)
    | none => none)
  | _, _, _ => none
noncomputable def kAppend (T : Tr Value) (ds : List Deferred) (up : FrameMode) (M : Tr Blk) (nx : Nat) (c : Call) : Option OpR := match getvs G T c.args.toList with
  | some [d, s] => (match c.argTypes.toList with
    | [t, t'] => bif Nat.beq t t' then kQ3 ds up (aAppend P M nx t d s) else kQ3 ds up (aAppendS P M nx t t' d s)
    | _ => none)
  | _ => none
noncomputable def kApply (T : Tr Value) (ds : List Deferred) (up : FrameMode) (M : Tr Blk) (nx : Nat) (f : Operand) (args : Array Operand) : Option OpR := match getvs G T args.toList with
  | some as => (match getv G T f with
    | some (.func (.func g) first cap) => (match X.fn g with
      | some e => kQ ds up M nx (e (first.toList ++ as ++ cap.toList))
      | none => kEnter run P X g (first.toList ++ as ++ cap.toList) ds up M nx)
    | some (.func (.yield l) xs ys) => (match xs.toList, ys.toList with
      | [], [] => kRound run l as ds up M nx
      | _, _ => none)
    | _ => none)
  | none => none
noncomputable def kInvoke (T : Tr Value) (ds : List Deferred) (up : FrameMode) (M : Tr Blk) (nx : Nat) (r : Operand) (name : String) (args : Array Operand) : Option OpR := match getvs G T args.toList with
  | some as => (match getv G T r with
    | some (.iface t v) => (match aMethod P t name with
      | some f => (match X.fn f with
        | some _ => none
        | none => kEnter run P X f (v :: as) ds up M nx)
      | none => none)
    | _ => none)
  | none => none
noncomputable def kDefer (rnd : Option Nat) (T : Tr Value) (ds : List Deferred) (up : FrameMode) (M : Tr Blk) (nx : Nat) (c : Call) : Option OpR := match aeff P X G T M nx (.defer c) with
  | some (.defer d) => (match rnd with
    | none => some (.ok undef (d :: ds) up M nx)
    | some _ => none)
  | _ => none
noncomputable def kConv (T : Tr Value) (ds : List Deferred) (up : FrameMode) (M : Tr Blk) (nx : Nat) (s d : TypeId) (x : Operand) : Option OpR := match qConv P G T s d x with
  | some v => some (.ok v ds up M nx)
  | none => (match getv G T x with
    | some a => kQ3 ds up (aConvM P M nx s d a)
    | none => none)
noncomputable def kPanic (T : Tr Value) (up : FrameMode) (M : Tr Blk) (nx : Nat) (x : Operand) : Option OpR := match getv G T x with
  | some (.iface t v) => some (.pan [{ v := .iface t v, recovered := false }] up M nx)
  | _ => none
noncomputable def kCall (dk : Bool) (rnd : Option Nat) (T : Tr Value) (ds : List Deferred) (up : FrameMode) (M : Tr Blk) (nx : Nat) (c : Call) : Option OpR := match c.callee with
  | .value f => kApply run P X G T ds up M nx f c.args
  | .invoke r name => kInvoke run P X G T ds up M nx r name c.args
  | .builtin .append => kAppend P G T ds up M nx c
  | .builtin .recover => (match getvs G T c.args.toList with
    | some _ => kRecover dk rnd ds up M nx
    | none => kRecover dk rnd ds up M nx)
  | .builtin b => kQ ds up M nx (qBuiltin P G T c)

noncomputable def vopF (dk : Bool) (rnd : Option Nat) (T : Tr Value) (ds : List Deferred) (up : FrameMode) (M : Tr Blk) (nx : Nat) (op : Op) : Option OpR := match op with
  | .move x => kQ ds up M nx (getv G T x)
  | .assign x => kQ ds up M nx (getv G T x)
  | .binOp op t x y _ => kQ ds up M nx (qBin P G T op t x y)
  | .convert s d x => kConv P G T ds up M nx s d x
  | .fieldAddr s x f => kQ ds up M nx (qFieldAddr P G T s x f)
  | .field t x f => kQ ds up M nx (qField P G T t x f)
  | .indexAddr t x i => kQ ds up M nx (qIndexAddr P G T t x i)
  | .extract x i => kQ ds up M nx (qExtract G T x i)
  | .load t a => kQ ds up M nx (qLoad P G T M t a)
  | .store t a x => kStore P G T ds up M nx t a x
  | .insert t m k x => kInsert P G T ds up M nx t m k x
  | .call c => kCall run P X G dk rnd T ds up M nx c
  | .defer c => kDefer P X G rnd T ds up M nx c
  | .panic x => kPanic G T up M nx x
  | op => kQ3 ds up (aquietF P G T M nx op)

theorem vop_pure {call : Fr → Option Res} {dk : Bool} {rnd : Option Nat} {T : Tr Value} {ds : List Deferred} {up : FrameMode} {M : Tr Blk} {nx : Nat} {op : Op} {o : Option Value} (h1 : aquiet P G T M nx op = lift3 M nx o) (h2 : aeff P X G T M nx op = none) :
    kQ ds up M nx o = vop call P X G dk rnd T ds up M nx op := by
  unfold vop
  rw [h1, h2]
  cases o <;> rfl
theorem vop_quiet {call : Fr → Option Res} {dk : Bool} {rnd : Option Nat} {T : Tr Value} {ds : List Deferred} {up : FrameMode} {M : Tr Blk} {nx : Nat} {op : Op} (h2 : aeff P X G T M nx op = none) :
    kQ3 ds up (aquietF P G T M nx op) = vop call P X G dk rnd T ds up M nx op := by
  unfold vop
  rw [aquietF_eq, h2]
  cases aquiet P G T M nx op <;> rfl

theorem kEnter_eq (f : FuncId) (as : List Value) (ds : List Deferred) (up : FrameMode) (M : Tr Blk) (nx : Nat) : kEnter run P X f as ds up M nx = (match X.pf f with
      | some e => (match e as with
        | some v => some (.ok v ds up M nx)
        | none => none)
      | none => (match X.sm f as M nx with
      | some (v, M', nx') => some (.ok v ds up M' nx')
      | none => (match enterFr P f as false .run M nx with
        | some fr => (match callOf run fr with
          | some (.ret v _ M' nx') => some (.ok v ds up M' nx')
          | some (.pan ch _ M' nx') => some (.pan ch up M' nx')
          | none => none)
        | none => none))) := by
  unfold kEnter enterFr
  cases X.pf f with
  | some e => rfl
  | none =>
    simp only
    cases X.sm f as M nx with
    | some r => rfl
    | none =>
      simp only
      cases P.funcs[f]? with
      | none => rfl
      | some fn => (simp only; cases fn.body <;> rfl)
theorem kRound_eq (l : Nat) (as : List Value) (ds : List Deferred) (up : FrameMode) (M : Tr Blk) (nx : Nat) : kRound run l as ds up M nx = (match M.get (l / 256) with
      | some (.loop al) => (match roundFr al l as M nx with
        | some fr => (match callOf run fr with
          | some (.ret v _ M' nx') => some (.ok v ds up M' nx')
          | some (.pan ch _ M' nx') => some (.pan ch up M' nx')
          | none => none)
        | none => none)
      | _ => none) := by
  unfold kRound roundFr
  cases M.get (l / 256) with
  | none => rfl
  | some x => cases x <;> first | rfl | (rename_i al; simp only; cases putPs al.params as al.nt al.T <;> rfl)

theorem vopF_eq (dk : Bool) (rnd : Option Nat) (T : Tr Value) (ds : List Deferred) (up : FrameMode) (M : Tr Blk) (nx : Nat) (op : Op) : vopF run P X G dk rnd T ds up M nx op = vop (callOf run) P X G dk rnd T ds up M nx op := by
  cases op
  case load t a => exact vop_pure (P := P) (X := X) (G := G) (op := .load t a) (by rw [← aquietF_eq]; rfl) rfl
  case store t a x =>
    unfold vop
    rw [show aquiet P G T M nx (.store t a x) = none from rfl]
    simp only [vopF, kStore, aeff]
    cases getv G T a with
    | none => rfl
    | some b => cases getv G T x with
      | none => rfl
      | some v => (simp only; cases aStore P M t b v <;> rfl)
  case insert t m k x =>
    unfold vop
    rw [show aquiet P G T M nx (.insert t m k x) = none from rfl]
    simp only [vopF, kInsert, aeff]
    cases getv G T m with
    | none => rfl
    | some a => cases getv G T k with
      | none => rfl
      | some b => cases getv G T x with
        | none => rfl
        | some c => (simp only; cases aMapNew P M t a b c <;> rfl)
  case call c =>
    unfold vop
    have hq : aquiet P G T M nx (.call c) = lift3 M nx (qBuiltin P G T c) := rfl
    rw [hq]
    simp only [vopF, kCall]
    cases hc : c.callee with
    | value f =>
      have h0 : qBuiltin P G T c = none := by simp only [qBuiltin, hc]
      rw [h0]
      simp only [lift3, aeff, hc, kApply]
      cases getvs G T c.args.toList with
      | none => rfl
      | some as =>
        simp only
        cases getv G T f with
        | none => rfl
        | some fv =>
          simp only [acall]
          split
          · rename_i g first cap e
            simp only [Option.some.injEq] at e
            subst e
            simp only
            cases hX : X.fn g with
            | none => (simp only [kEnter_eq]; rfl)
            | some e => (simp only; cases e (first.toList ++ as ++ cap.toList) <;> rfl)
          · rename_i l xs ys e
            simp only [Option.some.injEq] at e
            subst e
            simp only [kRound_eq]
            cases xs.toList <;> cases ys.toList <;> rfl
          · rename_i h1 h2
            cases fv <;> first | rfl | (rename_i fn _ _; cases fn <;> first | rfl | exact (h1 _ _ _ rfl).elim | exact (h2 _ _ _ rfl).elim)
    | invoke r m =>
      have h0 : qBuiltin P G T c = none := by simp only [qBuiltin, hc]
      rw [h0]
      simp only [lift3, aeff, hc, kInvoke]
      cases getvs G T c.args.toList with
      | none => rfl
      | some as =>
        simp only
        cases getv G T r with
        | none => rfl
        | some v =>
          cases v <;> first | rfl | skip
          rename_i t v
          simp only
          cases aMethod P t m with
          | none => rfl
          | some f =>
            simp only
            cases hX : X.fn f with
            | some e => rfl
            | none => (simp only [kEnter_eq]; rfl)
    | builtin bi =>
      cases bi <;> try (simp only [aeff, hc, lift3]; cases qBuiltin P G T c <;> rfl)
      case append =>
        have h0 : qBuiltin P G T c = none := by simp only [qBuiltin, hc]
        rw [h0]
        simp only [lift3, aeff, hc, kAppend]
        generalize getvs G T c.args.toList = g
        generalize c.argTypes.toList = l
        rcases g with _ | (_ | ⟨d, (_ | ⟨s, (_ | ⟨z, zs⟩)⟩)⟩) <;> try rfl
        rcases l with _ | ⟨t, (_ | ⟨t', (_ | ⟨y, ys⟩)⟩)⟩ <;> try rfl
        simp only
        cases Nat.beq t t' with
        | false => (simp only [cond_false]; cases aAppendS P M nx t t' d s <;> rfl)
        | true => (simp only [cond_true]; cases aAppend P M nx t d s <;> rfl)
      case recover =>
        have h0 : qBuiltin P G T c = none := by simp only [qBuiltin, hc]
        rw [h0]
        simp only [lift3, aeff, hc, kRecover]
        cases getvs G T c.args.toList <;> rfl
  case defer c =>
    unfold vop
    rw [show aquiet P G T M nx (.defer c) = none from rfl]
    have h : aeff P X G T M nx (.defer c) = none ∨ ∃ d, aeff P X G T M nx (.defer c) = some (.defer d) := by
      simp only [aeff]
      split
      · split
        · rename_i fn first cap _
          cases plainFn fn with
          | false => exact .inl rfl
          | true => exact .inr ⟨_, rfl⟩
        · exact .inl rfl
      · exact .inl rfl
    simp only [vopF, kDefer]
    rcases h with h | ⟨d, h⟩
    · rw [h]
    · rw [h]
      cases rnd <;> rfl
  case convert s d x =>
    unfold vop
    rw [show aquiet P G T M nx (.convert s d x) = lift3 M nx (qConv P G T s d x) from rfl]
    simp only [vopF, kConv, aeff]
    cases qConv P G T s d x with
    | some v => rfl
    | none =>
      simp only [lift3]
      cases getv G T x with
      | none => rfl
      | some a => (simp only; cases aConvM P M nx s d a <;> rfl)
  case panic x =>
    unfold vop
    rw [show aquiet P G T M nx (.panic x) = none from rfl]
    simp only [vopF, kPanic, aeff]
    cases getv G T x with
    | none => rfl
    | some v => cases v <;> rfl
  all_goals first | exact vop_pure (P := P) (X := X) (G := G) rfl rfl | (simp only [vopF]; refine vop_quiet (P := P) (X := X) (G := G) ?_; rfl)
end
end Go.Proofs.YtihloomkgpflmaaGreatDoor.Vm

namespace Go.Proofs.YtihloomkgpflmaaGreatDoor.Vm

noncomputable def oB {α β : Type} (o : Option α) (f : α → Option β) : Option β := Option.rec (motive := fun _ => Option β) none f o
noncomputable def bI {β : Type} (c : Bool) (x y : β) : β := Bool.rec (motive := fun _ => β) y x c
theorem bI_eq {β : Type} (c : Bool) (x y : β) : bI c x y = bif c then x else y := by cases c <;> rfl
noncomputable def vInt {β : Type} (d : β) (f : IntKind → Int → β) (v : Value) : β :=
  Value.rec (motive_1 := fun _ => β) (motive_2 := fun _ => Unit) (motive_3 := fun _ => Unit) (fun _ => d) f (fun _ _ => d) (fun _ _ _ => d) (fun _ => d) (fun _ => d) (fun _ _ _ => d) (fun _ => d) (fun _ => d) (fun _ _ _ _ _ => d) d (fun _ _ _ => d) d (fun _ _ => d) (fun _ _ => d) (fun _ _ => ()) () (fun _ _ _ _ => ()) v
noncomputable def iNat {β : Type} (d : β) (f : Nat → β) (n : Int) : β := Int.rec (motive := fun _ => β) f (fun _ => d) n

noncomputable def opd (G : Nat) (T : Tr Value) (x : Operand) : Option Value :=
  Operand.rec (motive := fun _ => Option Value) (fun t => T.get t) (fun v => bI (okc v) (some v) none) (fun g => bI (Nat.blt g G) (some (.pointer (some ⟨256 * g, 0, none⟩))) none) (fun f => some (.func (.func f) #[] #[])) x
theorem opd_eq (G : Nat) (T : Tr Value) (x : Operand) : opd G T x = getv G T x := by
  cases x with
  | tmp t => rfl
  | const v => exact bI_eq _ _ _
  | global g => exact bI_eq _ _ _
  | func f => rfl
noncomputable def opds (G : Nat) (T : Tr Value) (l : List Operand) : Option (List Value) :=
  List.rec (motive := fun _ => Option (List Value)) (some []) (fun x _ ih => oB (opd G T x) fun v => oB ih fun vs => some (v :: vs)) l
theorem opds_eq (G : Nat) (T : Tr Value) : ∀ l : List Operand, opds G T l = getvs G T l
  | [] => rfl
  | x :: l => by
    show oB (opd G T x) (fun v => oB (opds G T l) fun vs => some (v :: vs)) = _
    rw [opds_eq G T l, opd_eq]
    simp only [getvs]
    cases getv G T x with
    | none => rfl
    | some v => cases getvs G T l <;> rfl

/-! ### whole numbers -/
noncomputable def ikN (k : IntKind) : Nat := IntKind.rec (motive := fun _ => Nat) 0 1 2 3 4 5 6 7 k
theorem ikN_inj {k k' : IntKind} (h : Nat.beq (ikN k) (ikN k') = true) : k = k' := by cases k <;> cases k' <;> first | rfl | cases h
abbrev OV := Option Value
noncomputable def vI (v : Value) : (IntKind → Int → OV) → OV → OV :=
  Value.rec (motive_1 := fun _ => (IntKind → Int → OV) → OV → OV) (motive_2 := fun _ => Unit) (motive_3 := fun _ => Unit) (fun _ _ d => d) (fun k n f _ => f k n) (fun _ _ _ d => d) (fun _ _ _ _ d => d) (fun _ _ d => d) (fun _ _ d => d) (fun _ _ _ _ d => d) (fun _ _ d => d) (fun _ _ d => d) (fun _ _ _ _ _ _ d => d) (fun _ d => d) (fun _ _ _ _ d => d) (fun _ d => d) (fun _ _ _ d => d) (fun _ _ _ d => d) (fun _ _ => ()) () (fun _ _ _ _ => ()) v
noncomputable def vB (v : Value) : (Bool → OV) → OV → OV :=
  Value.rec (motive_1 := fun _ => (Bool → OV) → OV → OV) (motive_2 := fun _ => Unit) (motive_3 := fun _ => Unit) (fun b f _ => f b) (fun _ _ _ d => d) (fun _ _ _ d => d) (fun _ _ _ _ d => d) (fun _ _ d => d) (fun _ _ d => d) (fun _ _ _ _ d => d) (fun _ _ d => d) (fun _ _ d => d) (fun _ _ _ _ _ _ d => d) (fun _ d => d) (fun _ _ _ _ d => d) (fun _ d => d) (fun _ _ _ d => d) (fun _ _ _ d => d) (fun _ _ => ()) () (fun _ _ _ _ => ()) v
noncomputable def iN (n : Int) : (Nat → OV) → OV → OV := Int.rec (motive := fun _ => (Nat → OV) → OV → OV) (fun m f _ => f m) (fun _ _ d => d) n
noncomputable def bV (c : Bool) : OV → OV → OV := Bool.rec (motive := fun _ => OV → OV → OV) (fun _ y => y) (fun x _ => x) c
theorem bV_eq (c : Bool) (x y : OV) : bV c x y = bif c then x else y := by cases c <;> rfl
noncomputable def oV (o : OV) : (Value → OV) → OV := Option.rec (motive := fun _ => (Value → OV) → OV) (fun _ => none) (fun v f => f v) o
noncomputable def bNot (c : Bool) : Bool := Bool.rec (motive := fun _ => Bool) true false c
theorem bNot_eq (c : Bool) : bNot c = !c := by cases c <;> rfl

noncomputable def wrapR (k : IntKind) : Nat → OV → OV :=
  IntKind.rec (motive := fun _ => Nat → OV → OV) (fun _ old => old) (fun _ old => old) (fun _ old => old) (fun c old => bV (Nat.ble (Nat.succ c) 9223372036854775808) (some (.int .i64 (.ofNat c))) old) (fun _ old => old) (fun _ old => old) (fun _ old => old) (fun c _ => some (.int .u64 (.ofNat (Nat.mod c 18446744073709551616)))) k
theorem wrapR_eq {k : IntKind} {c : Nat} {old : OV} (h : old = some (.int k (wrapI k (.ofNat c)))) : wrapR k c old = old := by
  cases k <;> first | rfl | skip
  case i64 =>
    show bV (Nat.ble (Nat.succ c) 9223372036854775808) (some (.int .i64 (.ofNat c))) old = old
    rw [bV_eq]
    cases hb : Nat.ble (Nat.succ c) 9223372036854775808 with
    | false => rfl
    | true =>
      rw [h]
      have : Nat.blt c 9223372036854775808 = true := hb
      simp only [wrapI, this, cond_true]
  case u64 => rw [h]; rfl

noncomputable def hAdd (k : IntKind) (a b : Nat) (old : OV) : OV := wrapR k (Nat.add a b) old
noncomputable def hSub (k : IntKind) (a b : Nat) (old : OV) : OV := bV (Nat.ble b a) (wrapR k (Nat.sub a b) old) old
noncomputable def hMul (k : IntKind) (a b : Nat) (old : OV) : OV := wrapR k (Nat.mul a b) old
noncomputable def hEql (_ : IntKind) (a b : Nat) (_ : OV) : OV := some (.bool (Nat.beq a b))
noncomputable def hNeq (_ : IntKind) (a b : Nat) (_ : OV) : OV := some (.bool (bNot (Nat.beq a b)))
noncomputable def hLss (_ : IntKind) (a b : Nat) (_ : OV) : OV := some (.bool (Nat.ble (Nat.succ a) b))
noncomputable def hLeq (_ : IntKind) (a b : Nat) (_ : OV) : OV := some (.bool (bNot (Nat.ble (Nat.succ b) a)))
noncomputable def hGtr (_ : IntKind) (a b : Nat) (_ : OV) : OV := some (.bool (Nat.ble (Nat.succ b) a))
noncomputable def hGeq (_ : IntKind) (a b : Nat) (_ : OV) : OV := some (.bool (bNot (Nat.ble (Nat.succ a) b)))
noncomputable def arm4 (h : IntKind → Nat → Nat → OV → OV) (old : OV) (k : IntKind) (a b : Nat) : OV := h k a b old
noncomputable def arm3 (h : IntKind → Nat → Nat → OV → OV) (old : OV) (k : IntKind) (m n : Int) : OV := iN m (fun a => iN n (arm4 h old k a) old) old
noncomputable def arm2 (h : IntKind → Nat → Nat → OV → OV) (old : OV) (k : IntKind) (m : Int) (k' : IntKind) (n : Int) : OV := bV (Nat.beq (ikN k) (ikN k')) (arm3 h old k m n) old
noncomputable def arm1 (h : IntKind → Nat → Nat → OV → OV) (y : Value) (old : OV) (k : IntKind) (m : Int) : OV := vI y (arm2 h old k m) old
noncomputable def arm (h : IntKind → Nat → Nat → OV → OV) (x y : Value) (old : OV) : OV := vI x (arm1 h y old) old
noncomputable def keep (_ _ : Value) (old : OV) : OV := old
noncomputable def binR (P : Program) (op : BinOp) (t : TypeId) (cst : Bool) (x y : Value) : OV :=
  BinOp.rec (motive := fun _ => Value → Value → OV → OV) (arm hAdd) (arm hSub) (arm hMul) keep keep keep keep keep keep keep keep (arm hEql) (arm hNeq) (arm hLss) (arm hLeq) (arm hGtr) (arm hGeq) op x y (aBin P op t cst x y)
theorem arm_eq {P : Program} {op : BinOp} {t : TypeId} {cst : Bool} {h : IntKind → Nat → Nat → OV → OV} (ho : op ≠ .shl ∧ op ≠ .shr) (hh : ∀ k a b, h k a b (aInt op k (.ofNat a) (.ofNat b)) = aInt op k (.ofNat a) (.ofNat b)) (x y : Value) : arm h x y (aBin P op t cst x y) = aBin P op t cst x y := by
  cases x <;> first | rfl | skip
  rename_i k m
  cases y <;> first | rfl | skip
  rename_i k' n
  show bV (Nat.beq (ikN k) (ikN k')) (arm3 h _ k m n) _ = _
  rw [bV_eq]
  cases hb : Nat.beq (ikN k) (ikN k') with
  | false => rfl
  | true =>
    have e := ikN_inj hb
    subst e
    have : aBin P op t cst (.int k m) (.int k n) = aInt op k m n := by
      cases op <;> first | exact (ho.1 rfl).elim | exact (ho.2 rfl).elim | simp [aBin]
    rw [this]
    cases m with
    | negSucc a => rfl
    | ofNat a =>
      cases n with
      | negSucc b => rfl
      | ofNat b => exact hh k a b
theorem binR_eq (P : Program) (op : BinOp) (t : TypeId) (cst : Bool) (x y : Value) : binR P op t cst x y = aBin P op t cst x y := by
  cases op <;> first | rfl | skip
  case add => exact arm_eq ⟨by simp, by simp⟩ (fun k a b => wrapR_eq rfl) x y
  case mul => exact arm_eq ⟨by simp, by simp⟩ (fun k a b => wrapR_eq rfl) x y
  case sub =>
    refine arm_eq ⟨by simp, by simp⟩ (fun k a b => ?_) x y
    show bV (Nat.ble b a) (wrapR k (Nat.sub a b) (aInt .sub k (.ofNat a) (.ofNat b))) (aInt .sub k (.ofNat a) (.ofNat b)) = _
    rw [bV_eq]
    cases hb : Nat.ble b a with
    | false => rfl
    | true =>
      refine wrapR_eq ?_
      have hle : b ≤ a := by simpa [Nat.ble_eq] using hb
      have : Int.sub (.ofNat a) (.ofNat b) = .ofNat (Nat.sub a b) := (Int.ofNat_sub hle).symm
      simp only [aInt, this]
  case eql => exact arm_eq ⟨by simp, by simp⟩ (fun k a b => rfl) x y
  case lss => exact arm_eq ⟨by simp, by simp⟩ (fun k a b => rfl) x y
  case gtr => exact arm_eq ⟨by simp, by simp⟩ (fun k a b => rfl) x y
  all_goals exact arm_eq ⟨by simp, by simp⟩ (fun k a b => congrArg (fun z => some (Value.bool z)) (bNot_eq _)) x y

/-! ### conversions -/
noncomputable def convTo (P : Program) (s d : TypeId) : Option IntKind := match P.underlying s, P.underlying d with
  | some _, some (.int k) => some k
  | _, _ => none
noncomputable def convN (old : OV) (k : IntKind) (c : Nat) : OV := wrapR k c old
noncomputable def convI (old : OV) (k : IntKind) (_ : IntKind) (n : Int) : OV := iN n (convN old k) old
noncomputable def convR (P : Program) (s d : TypeId) (a : Value) : OV := Option.rec (motive := fun _ => Value → OV → OV) (fun _ old => old) (fun k a old => vI a (convI old k) old) (convTo P s d) a (aConv P s d a)
theorem convR_eq (P : Program) (s d : TypeId) (a : Value) : convR P s d a = aConv P s d a := by
  unfold convR
  cases hc : convTo P s d with
  | none => rfl
  | some k =>
    cases a <;> first | rfl | skip
    rename_i k' n
    cases n with
    | negSucc m => rfl
    | ofNat m =>
      refine wrapR_eq ?_
      unfold convTo at hc
      split at hc
      · rename_i u v k2 h1 h2
        simp only [Option.some.injEq] at hc; subst hc
        simp only [aConv, h1, h2]
      · cases hc

/-! ### loads, addresses -/
noncomputable def vPtr {β : Type} (d : β) (f : Nat → Nat → β) (v : Value) : β :=
  Value.rec (motive_1 := fun _ => β) (motive_2 := fun _ => Unit) (motive_3 := fun _ => Unit) (fun _ => d) (fun _ _ => d) (fun _ _ => d) (fun _ _ _ => d) (fun _ => d) (fun a => Option.rec (motive := fun _ => β) d (fun a => Addr.rec (motive := fun _ => β) (fun b o s => Option.rec (motive := fun _ => β) (f b o) (fun _ => d) s) a) a) (fun _ _ _ => d) (fun _ => d) (fun _ => d) (fun _ _ _ _ _ => d) d (fun _ _ _ => d) d (fun _ _ => d) (fun _ _ => d) (fun _ _ => ()) () (fun _ _ _ _ => ()) v
noncomputable def vSl {β : Type} (d : β) (f : Nat → Nat → Nat → Nat → β) (v : Value) : β :=
  Value.rec (motive_1 := fun _ => β) (motive_2 := fun _ => Unit) (motive_3 := fun _ => Unit) (fun _ => d) (fun _ _ => d) (fun _ _ => d) (fun _ _ _ => d) (fun _ => d) (fun _ => d) (fun a n c => Option.rec (motive := fun _ => β) d (fun a => Addr.rec (motive := fun _ => β) (fun b o s => Option.rec (motive := fun _ => β) (f b o n c) (fun _ => d) s) a) a) (fun _ => d) (fun _ => d) (fun _ _ _ _ _ => d) d (fun _ _ _ => d) d (fun _ _ => d) (fun _ _ => d) (fun _ _ => ()) () (fun _ _ _ _ => ()) v
noncomputable def bVals (x : Blk) : Option (List Value) := Blk.rec (motive := fun _ => Option (List Value)) none (fun _ vs => some vs) (fun vs => some vs) (fun vs => some vs) (fun _ _ => none) (fun _ => none) (fun _ => none) x
theorem bVals_eq (x : Blk) : bVals x = x.vals := by cases x <;> rfl
noncomputable def nth {α : Type} (l : List α) : Nat → Option α := List.rec (motive := fun _ => Nat → Option α) (fun _ => none) (fun x _ ih i => bI (Nat.beq i 0) (some x) (ih (Nat.sub i 1))) l
theorem nth_eq {α : Type} : ∀ (l : List α) (i : Nat), nth l i = l[i]?
  | [], i => by simp [nth]
  | x :: l, i => by
    show bI (Nat.beq i 0) (some x) (nth l (Nat.sub i 1)) = _
    rw [bI_eq, nth_eq l]
    cases i with
    | zero => rfl
    | succ i =>
      have h0 : Nat.beq (i + 1) 0 = false := rfl
      rw [h0]; simp
noncomputable def loadR (P : Program) (M : Tr Blk) (t : TypeId) (a : Value) : Option Value := vPtr (aLoad P M t a) (fun b o => oB (M.get (Nat.div b 256)) fun x => oB (bVals x) fun vs => oB (aAgg P t) fun g => bI g (aLoad P M t a) (nth vs o)) a
theorem loadR_eq (P : Program) (M : Tr Blk) (t : TypeId) (a : Value) : loadR P M t a = aLoad P M t a := by
  cases a <;> first | rfl | skip
  rename_i a
  cases a with
  | none => rfl
  | some a =>
    obtain ⟨b, o, s⟩ := a
    cases s with
    | some s => rfl
    | none =>
      show oB (M.get (b / 256)) (fun x => oB (bVals x) fun vs => oB (aAgg P t) fun g => bI g (aLoad P M t (.pointer (some ⟨b, o, none⟩))) (nth vs o)) = _
      simp only [aLoad]
      cases M.get (b / 256) with
      | none => rfl
      | some x =>
        show oB (bVals x) _ = _
        rw [bVals_eq]
        simp only
        cases x.vals with
        | none => cases aAgg P t <;> rfl
        | some vs =>
          show oB (aAgg P t) _ = _
          cases aAgg P t with
          | none => rfl
          | some g =>
            cases g with
            | true => rfl
            | false => exact nth_eq vs o

noncomputable def lenR (P : Program) (t : TypeId) (x : Value) : Option Value := vSl (aLen P t x) (fun _ _ n _ => bI (isSlice (P.underlying t)) (some (.int .i64 (.ofNat n))) (aLen P t x)) x
  where isSlice (d : Option TypeDesc) : Bool := match d with
    | some (.slice _) => true
    | _ => false
theorem lenR_eq (P : Program) (t : TypeId) (x : Value) : lenR P t x = aLen P t x := by
  cases x <;> first | rfl | skip
  rename_i a n c
  cases a with
  | none => rfl
  | some a =>
    obtain ⟨b, o, s⟩ := a
    cases s with
    | some s => rfl
    | none =>
      show bI (lenR.isSlice (P.underlying t)) _ _ = _
      rw [bI_eq]
      unfold aLen
      cases P.underlying t with
      | none => rfl
      | some d => cases d <;> rfl
end Go.Proofs.YtihloomkgpflmaaGreatDoor.Vm

namespace Go.Proofs.YtihloomkgpflmaaGreatDoor.Vm

noncomputable def kQR (ds : List Deferred) (up : FrameMode) (M : Tr Blk) (nx : Nat) (o : Option Value) : Option OpR := oB o fun v => some (.ok v ds up M nx)
theorem kQR_eq (ds : List Deferred) (up : FrameMode) (M : Tr Blk) (nx : Nat) (o : Option Value) : kQR ds up M nx o = kQ ds up M nx o := by cases o <;> rfl
noncomputable def putAR (l : List Value) : Nat → Tr Value → Tr Value := List.rec (motive := fun _ => Nat → Tr Value → Tr Value) (fun _ T => T) (fun v _ ih i T => ih (Nat.succ i) (T.set i v)) l
theorem putAR_eq : ∀ (l : List Value) (i : Nat) (T : Tr Value), putAR l i T = putArgs l i T
  | [], _, _ => rfl
  | v :: l, i, T => putAR_eq l (i + 1) (T.set i v)
noncomputable def kRetR (ds : List Deferred) (up : FrameMode) (r : Option Res) : Option OpR := oB r fun r => Res.rec (motive := fun _ => Option OpR) (fun v _ M nx => some (.ok v ds up M nx)) (fun ch _ M nx => some (.pan ch up M nx)) r
theorem kRetR_eq (ds : List Deferred) (up : FrameMode) (r : Option Res) : kRetR ds up r = kRet ds up r := by
  cases r with
  | none => rfl
  | some r => cases r <;> rfl
noncomputable def kEnterR (run : Run) (P : Program) (X : Exts) (f : FuncId) (as : List Value) (ds : List Deferred) (up : FrameMode) (M : Tr Blk) (nx : Nat) : Option OpR :=
  Option.rec (motive := fun _ => Option OpR)
    (Option.rec (motive := fun _ => Option OpR) (oB P.funcs[f]? fun fn => oB fn.body fun c => kRetR ds up (run f (Nat.add as.length (Nat.sub fn.ntmps as.length)) (putAR as 0 .nil) [.code c] [] .run false none .run M nx))
      (fun r => Prod.rec (motive := fun _ => Option OpR) (fun v r => Prod.rec (motive := fun _ => Option OpR) (fun M' nx' => some (.ok v ds up M' nx')) r) r) (X.sm f as M nx))
    (fun e => oB (e as) fun v => some (.ok v ds up M nx)) (X.pf f)
theorem kEnterR_eq (run : Run) (P : Program) (X : Exts) (f : FuncId) (as : List Value) (ds : List Deferred) (up : FrameMode) (M : Tr Blk) (nx : Nat) : kEnterR run P X f as ds up M nx = kEnter run P X f as ds up M nx := by
  unfold kEnterR kEnter
  cases X.pf f with
  | some e =>
    show oB (e as) (fun v => some (OpR.ok v ds up M nx)) = _
    simp only
    cases e as <;> rfl
  | none =>
    cases X.sm f as M nx with
    | some r => rfl
    | none =>
      show (oB P.funcs[f]? fun fn => oB fn.body fun c => kRetR ds up (run f (Nat.add as.length (Nat.sub fn.ntmps as.length)) (putAR as 0 .nil) [.code c] [] .run false none .run M nx)) = _
      simp only
      cases P.funcs[f]? with
      | none => rfl
      | some fn =>
        show oB fn.body _ = _
        simp only
        cases fn.body with
        | none => rfl
        | some c =>
          show kRetR ds up _ = kRet ds up _
          rw [kRetR_eq, putAR_eq]
          rfl
noncomputable def vFn {β : Type} (d : β) (f : Fn → Array Value → Array Value → β) (v : Value) : β :=
  Value.rec (motive_1 := fun _ => β) (motive_2 := fun _ => Unit) (motive_3 := fun _ => Unit) (fun _ => d) (fun _ _ => d) (fun _ _ => d) (fun _ _ _ => d) (fun _ => d) (fun _ => d) (fun _ _ _ => d) (fun _ => d) (fun _ => d) (fun fn a b _ _ => f fn a b) d (fun _ _ _ => d) d (fun _ _ => d) (fun _ _ => d) (fun _ _ => ()) () (fun _ _ _ _ => ()) v
noncomputable def applyR (run : Run) (P : Program) (X : Exts) (as : List Value) (ds : List Deferred) (up : FrameMode) (M : Tr Blk) (nx : Nat) (g : FuncId) (first cap : Array Value) : Option OpR :=
  Option.rec (motive := fun _ => Option OpR) (kEnterR run P X g (first.toList ++ as ++ cap.toList) ds up M nx) (fun e => kQR ds up M nx (e (first.toList ++ as ++ cap.toList))) (X.fn g)
noncomputable def kApplyR (run : Run) (P : Program) (X : Exts) (G : Nat) (T : Tr Value) (ds : List Deferred) (up : FrameMode) (M : Tr Blk) (nx : Nat) (f : Operand) (args : Array Operand) : Option OpR :=
  oB (opds G T args.toList) fun as => oB (opd G T f) fun fv => vFn none (fun fn first cap => match fn with
    | .func g => applyR run P X as ds up M nx g first cap
    | .yield l => (match first.toList, cap.toList with
      | [], [] => kRound run l as ds up M nx
      | _, _ => none)
    | _ => none) fv
theorem kApplyR_eq (run : Run) (P : Program) (X : Exts) (G : Nat) (T : Tr Value) (ds : List Deferred) (up : FrameMode) (M : Tr Blk) (nx : Nat) (f : Operand) (args : Array Operand) : kApplyR run P X G T ds up M nx f args = kApply run P X G T ds up M nx f args := by
  unfold kApplyR kApply
  rw [opds_eq, opd_eq]
  cases getvs G T args.toList with
  | none => rfl
  | some as =>
    show oB (getv G T f) _ = _
    simp only
    cases getv G T f with
    | none => rfl
    | some fv =>
      cases fv <;> first | rfl | skip
      rename_i fn first cap
      cases fn <;> first | rfl | skip
      rename_i g
      show applyR run P X as ds up M nx g first cap = _
      unfold applyR
      simp only
      cases X.fn g with
      | none => exact kEnterR_eq run P X g _ ds up M nx
      | some e => exact kQR_eq ds up M nx _
noncomputable def callR (run : Run) (P : Program) (X : Exts) (G : Nat) (dk : Bool) (rnd : Option Nat) (T : Tr Value) (ds : List Deferred) (up : FrameMode) (M : Tr Blk) (nx : Nat) (c : Call) : Option OpR := match c.callee with
  | .value f => kApplyR run P X G T ds up M nx f c.args
  | .builtin .len => (match c.argTypes.toList, opds G T c.args.toList with
    | [t], some [x] => kQR ds up M nx (lenR P t x)
    | _, _ => none)
  | _ => kCall run P X G dk rnd T ds up M nx c
theorem callR_eq (run : Run) (P : Program) (X : Exts) (G : Nat) (dk : Bool) (rnd : Option Nat) (T : Tr Value) (ds : List Deferred) (up : FrameMode) (M : Tr Blk) (nx : Nat) (c : Call) : callR run P X G dk rnd T ds up M nx c = kCall run P X G dk rnd T ds up M nx c := by
  unfold callR
  cases hc : c.callee with
  | value f => simp only [kCall, hc, kApplyR_eq]
  | invoke r m => rfl
  | builtin b =>
    cases b <;> first | rfl | skip
    simp only [kCall, hc, qBuiltin, opds_eq]
    generalize getvs G T c.args.toList = g
    generalize c.argTypes.toList = l
    rcases l with _ | ⟨t, (_ | ⟨t', r⟩)⟩ <;> try (cases g <;> rfl)
    rcases g with _ | (_ | ⟨x, (_ | ⟨y, ys⟩)⟩) <;> try rfl
    simp only [lenR_eq, kQR_eq]

noncomputable def binK (P : Program) (G : Nat) (T : Tr Value) (op : BinOp) (t : TypeId) (cst : Bool) (y : Operand) (a : Value) : OV := oV (opd G T y) (binR P op t cst a)
theorem qBin_eq (P : Program) (G : Nat) (T : Tr Value) (op : BinOp) (t : TypeId) (x y : Operand) : oV (opd G T x) (binK P G T op t (isConst x || isConst y) y) = qBin P G T op t x y := by
  rw [opd_eq]
  unfold qBin
  cases getv G T x with
  | none => rfl
  | some a =>
    show oV (opd G T y) (binR P op t (isConst x || isConst y) a) = _
    rw [opd_eq]
    cases getv G T y with
    | none => rfl
    | some b => exact binR_eq P op t _ a b
theorem qConv_eq (P : Program) (G : Nat) (T : Tr Value) (s d : TypeId) (x : Operand) : oV (opd G T x) (convR P s d) = qConv P G T s d x := by
  rw [opd_eq]
  unfold qConv
  cases getv G T x with
  | none => rfl
  | some a => exact convR_eq P s d a
noncomputable def pickB (G : Nat) (T : Tr Value) (a b : Operand) (c : Bool) : OV := bV c (opd G T a) (opd G T b)
noncomputable def pickV (G : Nat) (T : Tr Value) (a b : Operand) (v : Value) : OV := vB v (pickB G T a b) none
theorem qPick_eq (G : Nat) (T : Tr Value) (c a b : Operand) : oV (opd G T c) (pickV G T a b) = qPick G T c a b := by
  rw [opd_eq]
  unfold qPick
  cases getv G T c with
  | none => rfl
  | some v =>
    cases v <;> first | rfl | skip
    rename_i z
    cases z
    · exact opd_eq G T b
    · exact opd_eq G T a
theorem qLoad_eq (P : Program) (G : Nat) (T : Tr Value) (M : Tr Blk) (t : TypeId) (a : Operand) : oV (opd G T a) (loadR P M t) = qLoad P G T M t a := by
  rw [opd_eq]
  unfold qLoad
  cases getv G T a with
  | none => rfl
  | some v => exact loadR_eq P M t v
noncomputable def extV (i : Nat) (v : Value) : OV := Value.rec (motive_1 := fun _ => Nat → OV) (motive_2 := fun _ => Unit) (motive_3 := fun _ => Unit) (fun _ _ => none) (fun _ _ _ => none) (fun _ _ _ => none) (fun _ _ _ _ => none) (fun _ _ => none) (fun _ _ => none) (fun _ _ _ _ => none) (fun _ _ => none) (fun _ _ => none) (fun _ _ _ _ _ _ => none) (fun _ => none) (fun _ _ _ _ => none) (fun _ => none) (fun _ _ _ => none) (fun vs _ i => nth vs.toList i) (fun _ _ => ()) () (fun _ _ _ _ => ()) v i
theorem qExtract_eq (G : Nat) (T : Tr Value) (x : Operand) (i : Nat) : oV (opd G T x) (extV i) = qExtract G T x i := by
  rw [opd_eq]
  unfold qExtract
  cases getv G T x with
  | none => rfl
  | some v =>
    cases v <;> first | rfl | skip
    exact nth_eq _ _
noncomputable def faOff (P : Program) (s : TypeId) (f : Nat) : Option Nat := match P.underlying s with
  | some (.struct fields) => (match fields.toList[f]? with
    | some fl => (match aSize P fl.type with
      | some (_ + 1) => some fl.offset
      | _ => none)
    | none => none)
  | _ => none
noncomputable def vP (v : Value) : (Nat → Nat → OV) → OV → OV :=
  Value.rec (motive_1 := fun _ => (Nat → Nat → OV) → OV → OV) (motive_2 := fun _ => Unit) (motive_3 := fun _ => Unit) (fun _ _ d => d) (fun _ _ _ d => d) (fun _ _ _ d => d) (fun _ _ _ _ d => d) (fun _ _ d => d)
    (fun a => Option.rec (motive := fun _ => (Nat → Nat → OV) → OV → OV) (fun _ d => d) (fun a => Addr.rec (motive := fun _ => (Nat → Nat → OV) → OV → OV) (fun b o s => Option.rec (motive := fun _ => Nat → Nat → (Nat → Nat → OV) → OV → OV) (fun b o f _ => f b o) (fun _ _ _ _ d => d) s b o) a) a)
    (fun _ _ _ _ d => d) (fun _ _ d => d) (fun _ _ d => d) (fun _ _ _ _ _ _ d => d) (fun _ d => d) (fun _ _ _ _ d => d) (fun _ d => d) (fun _ _ _ d => d) (fun _ _ _ d => d) (fun _ _ => ()) () (fun _ _ _ _ => ()) v
noncomputable def faPtr (off : Nat) (b o : Nat) : OV := some (.pointer (some ⟨b, Nat.add o off, none⟩))
noncomputable def faV (P : Program) (s : TypeId) (f : Nat) (v : Value) : OV := Option.rec (motive := fun _ => Value → OV) (fun _ => none) (fun off v => vP v (faPtr off) (aFieldAddr P s v f)) (faOff P s f) v
theorem qFieldAddr_eq (P : Program) (G : Nat) (T : Tr Value) (s : TypeId) (x : Operand) (f : Nat) : oV (opd G T x) (faV P s f) = qFieldAddr P G T s x f := by
  rw [opd_eq]
  unfold qFieldAddr
  cases getv G T x with
  | none => rfl
  | some v =>
    show faV P s f v = aFieldAddr P s v f
    unfold faV faOff aFieldAddr
    generalize P.underlying s = u
    cases u with
    | none => rfl
    | some d =>
      cases d <;> first | rfl | skip
      rename_i fields
      simp only
      generalize fields.toList[f]? = z
      cases z with
      | none => rfl
      | some fl =>
        simp only
        generalize aSize P fl.type = y
        cases y with
        | none => rfl
        | some n =>
          cases n with
          | zero => rfl
          | succ n =>
            cases v <;> first | rfl | skip
            rename_i a
            rcases a with _ | ⟨b, o, sp⟩
            · rfl
            · cases sp <;> rfl

abbrev Arm := Run → Program → Exts → Nat → Bool → Option Nat → Tr Value → List Deferred → FrameMode → Tr Blk → Nat → Option OpR
noncomputable def convK (els : Option OpR) (ds : List Deferred) (up : FrameMode) (M : Tr Blk) (nx : Nat) (o : OV) : Option OpR := Option.rec (motive := fun _ => Option OpR) els (fun v => some (.ok v ds up M nx)) o
noncomputable def rest (op : Op) : Arm := fun run P X G dk rnd T ds up M nx => vopF run P X G dk rnd T ds up M nx op
noncomputable def vopR (run : Run) (P : Program) (X : Exts) (G : Nat) (dk : Bool) (rnd : Option Nat) (T : Tr Value) (ds : List Deferred) (up : FrameMode) (M : Tr Blk) (nx : Nat) (op : Op) : Option OpR :=
  Op.rec (motive := fun _ => Arm) (fun x _ _ _ G _ _ T ds up M nx => kQR ds up M nx (opd G T x)) (fun x _ _ _ G _ _ T ds up M nx => kQR ds up M nx (opd G T x))
    (fun c a b _ _ _ G _ _ T ds up M nx => kQR ds up M nx (oV (opd G T c) (pickV G T a b))) (fun e => rest (.alloc e)) (fun e v => rest (.box e v)) (fun t ps => rest (.build t ps)) (fun t n ps => rest (.buildSlice t n ps)) (fun t m k x => rest (.insert t m k x))
    (fun t a _ P _ G _ _ T ds up M nx => kQR ds up M nx (oV (opd G T a) (loadR P M t))) (fun t a x => rest (.store t a x)) (fun g => rest (.ready g)) (fun g => rest (.waits g)) (fun x => rest (.nilCheck x))
    (fun op t x y _ _ P _ G _ _ T ds up M nx => kQR ds up M nx (oV (opd G T x) (binK P G T op t (isConst x || isConst y) y)))
    (fun op t x => rest (.unOp op t x)) (fun s d x run P X G dk rnd T ds up M nx => convK (rest (.convert s d x) run P X G dk rnd T ds up M nx) ds up M nx (oV (opd G T x) (convR P s d))) (fun d x => rest (.sliceToArrayPointer d x)) (fun t x => rest (.makeInterface t x)) (fun f a b => rest (.makeFunc f a b)) (fun t r => rest (.makeMap t r)) (fun t s => rest (.makeChan t s))
    (fun t l c => rest (.makeSlice t l c)) (fun t x lo hi mx => rest (.slice t x lo hi mx)) (fun t x f _ P _ G _ _ T ds up M nx => kQR ds up M nx (oV (opd G T x) (faV P t f))) (fun t x f => rest (.field t x f)) (fun t x i => rest (.indexAddr t x i)) (fun t x i => rest (.index t x i)) (fun t x i ok => rest (.lookup t x i ok))
    (fun t m k v => rest (.mapUpdate t m k v)) (fun t m k => rest (.mapEntry t m k)) (fun t m s v => rest (.entryStore t m s v)) (fun t x => rest (.range t x)) (fun i s => rest (.next i s)) (fun i => rest (.entry i)) (fun x t s ok => rest (.typeAssert x t s ok))
    (fun x i _ _ _ G _ _ T ds up M nx => kQR ds up M nx (oV (opd G T x) (extV i))) (fun c run P X G dk rnd T ds up M nx => callR run P X G dk rnd T ds up M nx c) (fun c => rest (.go c)) (fun c => rest (.defer c)) (fun x => rest (.panic x)) (fun c x => rest (.send c x)) (fun t c ok => rest (.recv t c ok)) (fun cs b => rest (.select cs b)) op
    run P X G dk rnd T ds up M nx
theorem vopR_eq (run : Run) (P : Program) (X : Exts) (G : Nat) (dk : Bool) (rnd : Option Nat) (T : Tr Value) (ds : List Deferred) (up : FrameMode) (M : Tr Blk) (nx : Nat) (op : Op) : vopR run P X G dk rnd T ds up M nx op = vopF run P X G dk rnd T ds up M nx op := by
  cases op <;> first | rfl | skip
  case move x =>
    show kQR ds up M nx (opd G T x) = kQ ds up M nx (getv G T x)
    rw [kQR_eq, opd_eq]
  case assign x =>
    show kQR ds up M nx (opd G T x) = kQ ds up M nx (getv G T x)
    rw [kQR_eq, opd_eq]
  case pick c a b =>
    show kQR ds up M nx _ = kQ3 ds up (lift3 M nx (qPick G T c a b))
    rw [kQR_eq, qPick_eq]
    cases qPick G T c a b <;> rfl
  case load t a =>
    show kQR ds up M nx _ = kQ ds up M nx (qLoad P G T M t a)
    rw [kQR_eq, qLoad_eq]
  case binOp op t x y yt =>
    show kQR ds up M nx _ = kQ ds up M nx (qBin P G T op t x y)
    rw [kQR_eq, qBin_eq]
  case convert s d x =>
    show convK (vopF run P X G dk rnd T ds up M nx (.convert s d x)) ds up M nx (oV (opd G T x) (convR P s d)) = _
    rw [qConv_eq]
    cases h : qConv P G T s d x with
    | none => rfl
    | some v => (simp only [vopF, kConv, h]; rfl)
  case fieldAddr t x f =>
    show kQR ds up M nx _ = kQ ds up M nx (qFieldAddr P G T t x f)
    rw [kQR_eq, qFieldAddr_eq]
  case extract x i =>
    show kQR ds up M nx _ = kQ ds up M nx (qExtract G T x i)
    rw [kQR_eq, qExtract_eq]
  case call c => exact callR_eq run P X G dk rnd T ds up M nx c
end Go.Proofs.YtihloomkgpflmaaGreatDoor.Vm
