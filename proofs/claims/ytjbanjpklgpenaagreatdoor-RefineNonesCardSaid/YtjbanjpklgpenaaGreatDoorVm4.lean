/-
  THE ABSTRACT INTERPRETER, part 4 of its second form: one operation, by raw eliminators.
-/
import Derived.Test.YtjbanjpklgpenaaGreatDoorVm3
namespace Go.Proofs.YtjbanjpklgpenaaGreatDoor.Vm

noncomputable def kQR (ds : List Deferred) (up : FrameMode) (M : Tr Blk) (nx : Nat) (o : Option Value) : Option OpR := oB o fun v => some (.ok v ds up M nx)
theorem kQR_eq (ds : List Deferred) (up : FrameMode) (M : Tr Blk) (nx : Nat) (o : Option Value) : kQR ds up M nx o = kQ ds up M nx o := by cases o <;> rfl
noncomputable def putAR (l : List Value) : Nat → Tr Value → Tr Value := List.rec (motive := fun _ => Nat → Tr Value → Tr Value) (fun _ T => T) (fun v _ ih i T => ih (Nat.succ i) (T.set i v)) l
theorem putAR_eq : ∀ (l : List Value) (i : Nat) (T : Tr Value), putAR l i T = putArgs l i T
  | [], _, _ => rfl
  | v :: l, i, T => putAR_eq l (i + 1) (T.set i v)
noncomputable def kRetR (ds : List Deferred) (up : FrameMode) (r : Option Res) : Option OpR := oB r fun r => Res.rec (motive := fun _ => Option OpR) (fun v _ M nx => some (.ok v ds up M nx)) (fun ch _ M nx => some (.pan ch up M nx)) r
theorem kRetR_eq (ds : List Deferred) (up : FrameMode) (r : Option Res) : kRetR ds up r = kRet ds up r := by
  cases r with
  | none => rfl
  | some r => cases r <;> rfl
noncomputable def kEnterR (run : Run) (P : Program) (X : Exts) (f : FuncId) (as : List Value) (ds : List Deferred) (up : FrameMode) (M : Tr Blk) (nx : Nat) : Option OpR :=
  Option.rec (motive := fun _ => Option OpR) (oB P.funcs[f]? fun fn => oB fn.body fun c => kRetR ds up (run f (Nat.add as.length (Nat.sub fn.ntmps as.length)) (putAR as 0 .nil) [.code c] [] .run false none .run M nx))
    (fun r => Prod.rec (motive := fun _ => Option OpR) (fun v r => Prod.rec (motive := fun _ => Option OpR) (fun M' nx' => some (.ok v ds up M' nx')) r) r) (X.sm f as M nx)
theorem kEnterR_eq (run : Run) (P : Program) (X : Exts) (f : FuncId) (as : List Value) (ds : List Deferred) (up : FrameMode) (M : Tr Blk) (nx : Nat) : kEnterR run P X f as ds up M nx = kEnter run P X f as ds up M nx := by
  unfold kEnterR kEnter
  cases X.sm f as M nx with
  | some r => rfl
  | none =>
    show (oB P.funcs[f]? fun fn => oB fn.body fun c => kRetR ds up (run f (Nat.add as.length (Nat.sub fn.ntmps as.length)) (putAR as 0 .nil) [.code c] [] .run false none .run M nx)) = _
    simp only
    cases P.funcs[f]? with
    | none => rfl
    | some fn =>
      show oB fn.body _ = _
      simp only
      cases fn.body with
      | none => rfl
      | some c =>
        show kRetR ds up _ = kRet ds up _
        rw [kRetR_eq, putAR_eq]
        rfl
noncomputable def vFn {β : Type} (d : β) (f : Fn → Array Value → Array Value → β) (v : Value) : β :=
  Value.rec (motive_1 := fun _ => β) (motive_2 := fun _ => Unit) (motive_3 := fun _ => Unit) (fun _ => d) (fun _ _ => d) (fun _ _ => d) (fun _ _ _ => d) (fun _ => d) (fun _ => d) (fun _ _ _ => d) (fun _ => d) (fun _ => d) (fun fn a b _ _ => f fn a b) d (fun _ _ _ => d) d (fun _ _ => d) (fun _ _ => d) (fun _ _ => ()) () (fun _ _ _ _ => ()) v
noncomputable def applyR (run : Run) (P : Program) (X : Exts) (as : List Value) (ds : List Deferred) (up : FrameMode) (M : Tr Blk) (nx : Nat) (g : FuncId) (first cap : Array Value) : Option OpR :=
  Option.rec (motive := fun _ => Option OpR) (kEnterR run P X g (first.toList ++ as ++ cap.toList) ds up M nx) (fun e => kQR ds up M nx (e (first.toList ++ as ++ cap.toList))) (X.fn g)
noncomputable def kApplyR (run : Run) (P : Program) (X : Exts) (G : Nat) (T : Tr Value) (ds : List Deferred) (up : FrameMode) (M : Tr Blk) (nx : Nat) (f : Operand) (args : Array Operand) : Option OpR :=
  oB (opds G T args.toList) fun as => oB (opd G T f) fun fv => vFn none (fun fn first cap => match fn with
    | .func g => applyR run P X as ds up M nx g first cap
    | .yield l => kRound run l as ds up M nx
    | _ => none) fv
theorem kApplyR_eq (run : Run) (P : Program) (X : Exts) (G : Nat) (T : Tr Value) (ds : List Deferred) (up : FrameMode) (M : Tr Blk) (nx : Nat) (f : Operand) (args : Array Operand) : kApplyR run P X G T ds up M nx f args = kApply run P X G T ds up M nx f args := by
  unfold kApplyR kApply
  rw [opds_eq, opd_eq]
  cases getvs G T args.toList with
  | none => rfl
  | some as =>
    show oB (getv G T f) _ = _
    simp only
    cases getv G T f with
    | none => rfl
    | some fv =>
      cases fv <;> first | rfl | skip
      rename_i fn first cap
      cases fn <;> first | rfl | skip
      rename_i g
      show applyR run P X as ds up M nx g first cap = _
      unfold applyR
      simp only
      cases X.fn g with
      | none => exact kEnterR_eq run P X g _ ds up M nx
      | some e => exact kQR_eq ds up M nx _
noncomputable def callR (run : Run) (P : Program) (X : Exts) (G : Nat) (dk : Bool) (rnd : Option Nat) (T : Tr Value) (ds : List Deferred) (up : FrameMode) (M : Tr Blk) (nx : Nat) (c : Call) : Option OpR := match c.callee with
  | .value f => kApplyR run P X G T ds up M nx f c.args
  | .builtin .len => (match c.argTypes.toList, opds G T c.args.toList with
    | [t], some [x] => kQR ds up M nx (lenR P t x)
    | _, _ => none)
  | _ => kCall run P X G dk rnd T ds up M nx c
theorem callR_eq (run : Run) (P : Program) (X : Exts) (G : Nat) (dk : Bool) (rnd : Option Nat) (T : Tr Value) (ds : List Deferred) (up : FrameMode) (M : Tr Blk) (nx : Nat) (c : Call) : callR run P X G dk rnd T ds up M nx c = kCall run P X G dk rnd T ds up M nx c := by
  unfold callR
  cases hc : c.callee with
  | value f => simp only [kCall, hc, kApplyR_eq]
  | invoke r m => rfl
  | builtin b =>
    cases b <;> first | rfl | skip
    simp only [kCall, hc, qBuiltin, opds_eq]
    generalize getvs G T c.args.toList = g
    generalize c.argTypes.toList = l
    rcases l with _ | ⟨t, (_ | ⟨t', r⟩)⟩ <;> try (cases g <;> rfl)
    rcases g with _ | (_ | ⟨x, (_ | ⟨y, ys⟩)⟩) <;> try rfl
    simp only [lenR_eq, kQR_eq]

noncomputable def binK (P : Program) (G : Nat) (T : Tr Value) (op : BinOp) (t : TypeId) (cst : Bool) (y : Operand) (a : Value) : OV := oV (opd G T y) (binR P op t cst a)
theorem qBin_eq (P : Program) (G : Nat) (T : Tr Value) (op : BinOp) (t : TypeId) (x y : Operand) : oV (opd G T x) (binK P G T op t (isConst x || isConst y) y) = qBin P G T op t x y := by
  rw [opd_eq]
  unfold qBin
  cases getv G T x with
  | none => rfl
  | some a =>
    show oV (opd G T y) (binR P op t (isConst x || isConst y) a) = _
    rw [opd_eq]
    cases getv G T y with
    | none => rfl
    | some b => exact binR_eq P op t _ a b
theorem qConv_eq (P : Program) (G : Nat) (T : Tr Value) (s d : TypeId) (x : Operand) : oV (opd G T x) (convR P s d) = qConv P G T s d x := by
  rw [opd_eq]
  unfold qConv
  cases getv G T x with
  | none => rfl
  | some a => exact convR_eq P s d a
noncomputable def pickB (G : Nat) (T : Tr Value) (a b : Operand) (c : Bool) : OV := bV c (opd G T a) (opd G T b)
noncomputable def pickV (G : Nat) (T : Tr Value) (a b : Operand) (v : Value) : OV := vB v (pickB G T a b) none
theorem qPick_eq (G : Nat) (T : Tr Value) (c a b : Operand) : oV (opd G T c) (pickV G T a b) = qPick G T c a b := by
  rw [opd_eq]
  unfold qPick
  cases getv G T c with
  | none => rfl
  | some v =>
    cases v <;> first | rfl | skip
    rename_i z
    cases z
    · exact opd_eq G T b
    · exact opd_eq G T a
theorem qLoad_eq (P : Program) (G : Nat) (T : Tr Value) (M : Tr Blk) (t : TypeId) (a : Operand) : oV (opd G T a) (loadR P M t) = qLoad P G T M t a := by
  rw [opd_eq]
  unfold qLoad
  cases getv G T a with
  | none => rfl
  | some v => exact loadR_eq P M t v
noncomputable def extV (i : Nat) (v : Value) : OV := Value.rec (motive_1 := fun _ => Nat → OV) (motive_2 := fun _ => Unit) (motive_3 := fun _ => Unit) (fun _ _ => none) (fun _ _ _ => none) (fun _ _ _ => none) (fun _ _ _ _ => none) (fun _ _ => none) (fun _ _ => none) (fun _ _ _ _ => none) (fun _ _ => none) (fun _ _ => none) (fun _ _ _ _ _ _ => none) (fun _ => none) (fun _ _ _ _ => none) (fun _ => none) (fun _ _ _ => none) (fun vs _ i => nth vs.toList i) (fun _ _ => ()) () (fun _ _ _ _ => ()) v i
theorem qExtract_eq (G : Nat) (T : Tr Value) (x : Operand) (i : Nat) : oV (opd G T x) (extV i) = qExtract G T x i := by
  rw [opd_eq]
  unfold qExtract
  cases getv G T x with
  | none => rfl
  | some v =>
    cases v <;> first | rfl | skip
    exact nth_eq _ _
noncomputable def faOff (P : Program) (s : TypeId) (f : Nat) : Option Nat := match P.underlying s with
  | some (.struct fields) => (match fields.toList[f]? with
    | some fl => (match aSize P fl.type with
      | some (_ + 1) => some fl.offset
      | _ => none)
    | none => none)
  | _ => none
noncomputable def vP (v : Value) : (Nat → Nat → OV) → OV → OV :=
  Value.rec (motive_1 := fun _ => (Nat → Nat → OV) → OV → OV) (motive_2 := fun _ => Unit) (motive_3 := fun _ => Unit) (fun _ _ d => d) (fun _ _ _ d => d) (fun _ _ _ d => d) (fun _ _ _ _ d => d) (fun _ _ d => d)
    (fun a => Option.rec (motive := fun _ => (Nat → Nat → OV) → OV → OV) (fun _ d => d) (fun a => Addr.rec (motive := fun _ => (Nat → Nat → OV) → OV → OV) (fun b o s => Option.rec (motive := fun _ => Nat → Nat → (Nat → Nat → OV) → OV → OV) (fun b o f _ => f b o) (fun _ _ _ _ d => d) s b o) a) a)
    (fun _ _ _ _ d => d) (fun _ _ d => d) (fun _ _ d => d) (fun _ _ _ _ _ _ d => d) (fun _ d => d) (fun _ _ _ _ d => d) (fun _ d => d) (fun _ _ _ d => d) (fun _ _ _ d => d) (fun _ _ => ()) () (fun _ _ _ _ => ()) v
noncomputable def faPtr (off : Nat) (b o : Nat) : OV := some (.pointer (some ⟨b, Nat.add o off, none⟩))
noncomputable def faV (P : Program) (s : TypeId) (f : Nat) (v : Value) : OV := Option.rec (motive := fun _ => Value → OV) (fun _ => none) (fun off v => vP v (faPtr off) none) (faOff P s f) v
theorem qFieldAddr_eq (P : Program) (G : Nat) (T : Tr Value) (s : TypeId) (x : Operand) (f : Nat) : oV (opd G T x) (faV P s f) = qFieldAddr P G T s x f := by
  rw [opd_eq]
  unfold qFieldAddr
  cases getv G T x with
  | none => rfl
  | some v =>
    show faV P s f v = aFieldAddr P s v f
    unfold faV faOff aFieldAddr
    generalize P.underlying s = u
    cases u with
    | none => rfl
    | some d =>
      cases d <;> first | rfl | skip
      rename_i fields
      simp only
      generalize fields.toList[f]? = z
      cases z with
      | none => rfl
      | some fl =>
        simp only
        generalize aSize P fl.type = y
        cases y with
        | none => rfl
        | some n =>
          cases n with
          | zero => rfl
          | succ n =>
            cases v <;> first | rfl | skip
            rename_i a
            rcases a with _ | ⟨b, o, sp⟩
            · rfl
            · cases sp <;> rfl

abbrev Arm := Run → Program → Exts → Nat → Bool → Option Nat → Tr Value → List Deferred → FrameMode → Tr Blk → Nat → Option OpR
noncomputable def convK (els : Option OpR) (ds : List Deferred) (up : FrameMode) (M : Tr Blk) (nx : Nat) (o : OV) : Option OpR := Option.rec (motive := fun _ => Option OpR) els (fun v => some (.ok v ds up M nx)) o
noncomputable def rest (op : Op) : Arm := fun run P X G dk rnd T ds up M nx => vopF run P X G dk rnd T ds up M nx op
noncomputable def vopR (run : Run) (P : Program) (X : Exts) (G : Nat) (dk : Bool) (rnd : Option Nat) (T : Tr Value) (ds : List Deferred) (up : FrameMode) (M : Tr Blk) (nx : Nat) (op : Op) : Option OpR :=
  Op.rec (motive := fun _ => Arm) (fun x _ _ _ G _ _ T ds up M nx => kQR ds up M nx (opd G T x)) (fun x _ _ _ G _ _ T ds up M nx => kQR ds up M nx (opd G T x))
    (fun c a b _ _ _ G _ _ T ds up M nx => kQR ds up M nx (oV (opd G T c) (pickV G T a b))) (fun e => rest (.alloc e)) (fun e v => rest (.box e v)) (fun t ps => rest (.build t ps)) (fun t n ps => rest (.buildSlice t n ps)) (fun t m k x => rest (.insert t m k x))
    (fun t a _ P _ G _ _ T ds up M nx => kQR ds up M nx (oV (opd G T a) (loadR P M t))) (fun t a x => rest (.store t a x)) (fun g => rest (.ready g)) (fun g => rest (.waits g)) (fun x => rest (.nilCheck x))
    (fun op t x y _ _ P _ G _ _ T ds up M nx => kQR ds up M nx (oV (opd G T x) (binK P G T op t (isConst x || isConst y) y)))
    (fun op t x => rest (.unOp op t x)) (fun s d x run P X G dk rnd T ds up M nx => convK (rest (.convert s d x) run P X G dk rnd T ds up M nx) ds up M nx (oV (opd G T x) (convR P s d))) (fun d x => rest (.sliceToArrayPointer d x)) (fun t x => rest (.makeInterface t x)) (fun f a b => rest (.makeFunc f a b)) (fun t r => rest (.makeMap t r)) (fun t s => rest (.makeChan t s))
    (fun t l c => rest (.makeSlice t l c)) (fun t x lo hi mx => rest (.slice t x lo hi mx)) (fun t x f _ P _ G _ _ T ds up M nx => kQR ds up M nx (oV (opd G T x) (faV P t f))) (fun t x f => rest (.field t x f)) (fun t x i => rest (.indexAddr t x i)) (fun t x i => rest (.index t x i)) (fun t x i ok => rest (.lookup t x i ok))
    (fun t m k v => rest (.mapUpdate t m k v)) (fun t m k => rest (.mapEntry t m k)) (fun t m s v => rest (.entryStore t m s v)) (fun t x => rest (.range t x)) (fun i s => rest (.next i s)) (fun i => rest (.entry i)) (fun x t s ok => rest (.typeAssert x t s ok))
    (fun x i _ _ _ G _ _ T ds up M nx => kQR ds up M nx (oV (opd G T x) (extV i))) (fun c run P X G dk rnd T ds up M nx => callR run P X G dk rnd T ds up M nx c) (fun c => rest (.go c)) (fun c => rest (.defer c)) (fun x => rest (.panic x)) (fun c x => rest (.send c x)) (fun t c ok => rest (.recv t c ok)) (fun cs b => rest (.select cs b)) op
    run P X G dk rnd T ds up M nx
theorem vopR_eq (run : Run) (P : Program) (X : Exts) (G : Nat) (dk : Bool) (rnd : Option Nat) (T : Tr Value) (ds : List Deferred) (up : FrameMode) (M : Tr Blk) (nx : Nat) (op : Op) : vopR run P X G dk rnd T ds up M nx op = vopF run P X G dk rnd T ds up M nx op := by
  cases op <;> first | rfl | skip
  case move x =>
    show kQR ds up M nx (opd G T x) = kQ ds up M nx (getv G T x)
    rw [kQR_eq, opd_eq]
  case assign x =>
    show kQR ds up M nx (opd G T x) = kQ ds up M nx (getv G T x)
    rw [kQR_eq, opd_eq]
  case pick c a b =>
    show kQR ds up M nx _ = kQ3 ds up (lift3 M nx (qPick G T c a b))
    rw [kQR_eq, qPick_eq]
    cases qPick G T c a b <;> rfl
  case load t a =>
    show kQR ds up M nx _ = kQ ds up M nx (qLoad P G T M t a)
    rw [kQR_eq, qLoad_eq]
  case binOp op t x y yt =>
    show kQR ds up M nx _ = kQ ds up M nx (qBin P G T op t x y)
    rw [kQR_eq, qBin_eq]
  case convert s d x =>
    show convK (vopF run P X G dk rnd T ds up M nx (.convert s d x)) ds up M nx (oV (opd G T x) (convR P s d)) = _
    rw [qConv_eq]
    cases h : qConv P G T s d x with
    | none => rfl
    | some v => (simp only [vopF, kConv, h]; rfl)
  case fieldAddr t x f =>
    show kQR ds up M nx _ = kQ ds up M nx (qFieldAddr P G T t x f)
    rw [kQR_eq, qFieldAddr_eq]
  case extract x i =>
    show kQR ds up M nx _ = kQ ds up M nx (qExtract G T x i)
    rw [kQR_eq, qExtract_eq]
  case call c => exact callR_eq run P X G dk rnd T ds up M nx c
end Go.Proofs.YtjbanjpklgpenaaGreatDoor.Vm
