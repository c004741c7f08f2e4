/-
  THE ABSTRACT INTERPRETER, part 3 of its second form: raw eliminators in place of matches, for the operations that are met most often; they answer as the matches do.
-/
import Derived.Test.YtjbanjpklgpenaaGreatDoorVm1
namespace Go.Proofs.YtjbanjpklgpenaaGreatDoor.Vm

noncomputable def oB {α β : Type} (o : Option α) (f : α → Option β) : Option β := Option.rec (motive := fun _ => Option β) none f o
noncomputable def bI {β : Type} (c : Bool) (x y : β) : β := Bool.rec (motive := fun _ => β) y x c
theorem bI_eq {β : Type} (c : Bool) (x y : β) : bI c x y = bif c then x else y := by cases c <;> rfl
noncomputable def vInt {β : Type} (d : β) (f : IntKind → Int → β) (v : Value) : β :=
  Value.rec (motive_1 := fun _ => β) (motive_2 := fun _ => Unit) (motive_3 := fun _ => Unit) (fun _ => d) f (fun _ _ => d) (fun _ _ _ => d) (fun _ => d) (fun _ => d) (fun _ _ _ => d) (fun _ => d) (fun _ => d) (fun _ _ _ _ _ => d) d (fun _ _ _ => d) d (fun _ _ => d) (fun _ _ => d) (fun _ _ => ()) () (fun _ _ _ _ => ()) v
noncomputable def iNat {β : Type} (d : β) (f : Nat → β) (n : Int) : β := Int.rec (motive := fun _ => β) f (fun _ => d) n

noncomputable def opd (G : Nat) (T : Tr Value) (x : Operand) : Option Value :=
  Operand.rec (motive := fun _ => Option Value) (fun t => T.get t) (fun v => bI (okc v) (some v) none) (fun g => bI (Nat.blt g G) (some (.pointer (some ⟨256 * g, 0, none⟩))) none) (fun f => some (.func (.func f) #[] #[])) x
theorem opd_eq (G : Nat) (T : Tr Value) (x : Operand) : opd G T x = getv G T x := by
  cases x with
  | tmp t => rfl
  | const v => exact bI_eq _ _ _
  | global g => exact bI_eq _ _ _
  | func f => rfl
noncomputable def opds (G : Nat) (T : Tr Value) (l : List Operand) : Option (List Value) :=
  List.rec (motive := fun _ => Option (List Value)) (some []) (fun x _ ih => oB (opd G T x) fun v => oB ih fun vs => some (v :: vs)) l
theorem opds_eq (G : Nat) (T : Tr Value) : ∀ l : List Operand, opds G T l = getvs G T l
  | [] => rfl
  | x :: l => by
    show oB (opd G T x) (fun v => oB (opds G T l) fun vs => some (v :: vs)) = _
    rw [opds_eq G T l, opd_eq]
    simp only [getvs]
    cases getv G T x with
    | none => rfl
    | some v => cases getvs G T l <;> rfl

/-! ### whole numbers -/
noncomputable def ikN (k : IntKind) : Nat := IntKind.rec (motive := fun _ => Nat) 0 1 2 3 4 5 6 7 k
theorem ikN_inj {k k' : IntKind} (h : Nat.beq (ikN k) (ikN k') = true) : k = k' := by cases k <;> cases k' <;> first | rfl | cases h
abbrev OV := Option Value
noncomputable def vI (v : Value) : (IntKind → Int → OV) → OV → OV :=
  Value.rec (motive_1 := fun _ => (IntKind → Int → OV) → OV → OV) (motive_2 := fun _ => Unit) (motive_3 := fun _ => Unit) (fun _ _ d => d) (fun k n f _ => f k n) (fun _ _ _ d => d) (fun _ _ _ _ d => d) (fun _ _ d => d) (fun _ _ d => d) (fun _ _ _ _ d => d) (fun _ _ d => d) (fun _ _ d => d) (fun _ _ _ _ _ _ d => d) (fun _ d => d) (fun _ _ _ _ d => d) (fun _ d => d) (fun _ _ _ d => d) (fun _ _ _ d => d) (fun _ _ => ()) () (fun _ _ _ _ => ()) v
noncomputable def vB (v : Value) : (Bool → OV) → OV → OV :=
  Value.rec (motive_1 := fun _ => (Bool → OV) → OV → OV) (motive_2 := fun _ => Unit) (motive_3 := fun _ => Unit) (fun b f _ => f b) (fun _ _ _ d => d) (fun _ _ _ d => d) (fun _ _ _ _ d => d) (fun _ _ d => d) (fun _ _ d => d) (fun _ _ _ _ d => d) (fun _ _ d => d) (fun _ _ d => d) (fun _ _ _ _ _ _ d => d) (fun _ d => d) (fun _ _ _ _ d => d) (fun _ d => d) (fun _ _ _ d => d) (fun _ _ _ d => d) (fun _ _ => ()) () (fun _ _ _ _ => ()) v
noncomputable def iN (n : Int) : (Nat → OV) → OV → OV := Int.rec (motive := fun _ => (Nat → OV) → OV → OV) (fun m f _ => f m) (fun _ _ d => d) n
noncomputable def bV (c : Bool) : OV → OV → OV := Bool.rec (motive := fun _ => OV → OV → OV) (fun _ y => y) (fun x _ => x) c
theorem bV_eq (c : Bool) (x y : OV) : bV c x y = bif c then x else y := by cases c <;> rfl
noncomputable def oV (o : OV) : (Value → OV) → OV := Option.rec (motive := fun _ => (Value → OV) → OV) (fun _ => none) (fun v f => f v) o
noncomputable def bNot (c : Bool) : Bool := Bool.rec (motive := fun _ => Bool) true false c
theorem bNot_eq (c : Bool) : bNot c = !c := by cases c <;> rfl

noncomputable def wrapR (k : IntKind) : Nat → OV → OV :=
  IntKind.rec (motive := fun _ => Nat → OV → OV) (fun _ old => old) (fun _ old => old) (fun _ old => old) (fun c old => bV (Nat.ble (Nat.succ c) 9223372036854775808) (some (.int .i64 (.ofNat c))) old) (fun _ old => old) (fun _ old => old) (fun _ old => old) (fun c _ => some (.int .u64 (.ofNat (Nat.mod c 18446744073709551616)))) k
theorem wrapR_eq {k : IntKind} {c : Nat} {old : OV} (h : old = some (.int k (wrapI k (.ofNat c)))) : wrapR k c old = old := by
  cases k <;> first | rfl | skip
  case i64 =>
    show bV (Nat.ble (Nat.succ c) 9223372036854775808) (some (.int .i64 (.ofNat c))) old = old
    rw [bV_eq]
    cases hb : Nat.ble (Nat.succ c) 9223372036854775808 with
    | false => rfl
    | true =>
      rw [h]
      have : Nat.blt c 9223372036854775808 = true := hb
      simp only [wrapI, this, cond_true]
  case u64 => rw [h]; rfl

noncomputable def hAdd (k : IntKind) (a b : Nat) (old : OV) : OV := wrapR k (Nat.add a b) old
noncomputable def hSub (k : IntKind) (a b : Nat) (old : OV) : OV := bV (Nat.ble b a) (wrapR k (Nat.sub a b) old) old
noncomputable def hMul (k : IntKind) (a b : Nat) (old : OV) : OV := wrapR k (Nat.mul a b) old
noncomputable def hEql (_ : IntKind) (a b : Nat) (_ : OV) : OV := some (.bool (Nat.beq a b))
noncomputable def hNeq (_ : IntKind) (a b : Nat) (_ : OV) : OV := some (.bool (bNot (Nat.beq a b)))
noncomputable def hLss (_ : IntKind) (a b : Nat) (_ : OV) : OV := some (.bool (Nat.ble (Nat.succ a) b))
noncomputable def hLeq (_ : IntKind) (a b : Nat) (_ : OV) : OV := some (.bool (bNot (Nat.ble (Nat.succ b) a)))
noncomputable def hGtr (_ : IntKind) (a b : Nat) (_ : OV) : OV := some (.bool (Nat.ble (Nat.succ b) a))
noncomputable def hGeq (_ : IntKind) (a b : Nat) (_ : OV) : OV := some (.bool (bNot (Nat.ble (Nat.succ a) b)))
noncomputable def arm4 (h : IntKind → Nat → Nat → OV → OV) (old : OV) (k : IntKind) (a b : Nat) : OV := h k a b old
noncomputable def arm3 (h : IntKind → Nat → Nat → OV → OV) (old : OV) (k : IntKind) (m n : Int) : OV := iN m (fun a => iN n (arm4 h old k a) old) old
noncomputable def arm2 (h : IntKind → Nat → Nat → OV → OV) (old : OV) (k : IntKind) (m : Int) (k' : IntKind) (n : Int) : OV := bV (Nat.beq (ikN k) (ikN k')) (arm3 h old k m n) old
noncomputable def arm1 (h : IntKind → Nat → Nat → OV → OV) (y : Value) (old : OV) (k : IntKind) (m : Int) : OV := vI y (arm2 h old k m) old
noncomputable def arm (h : IntKind → Nat → Nat → OV → OV) (x y : Value) (old : OV) : OV := vI x (arm1 h y old) old
noncomputable def keep (_ _ : Value) (old : OV) : OV := old
noncomputable def binR (P : Program) (op : BinOp) (t : TypeId) (cst : Bool) (x y : Value) : OV :=
  BinOp.rec (motive := fun _ => Value → Value → OV → OV) (arm hAdd) (arm hSub) (arm hMul) keep keep keep keep keep keep keep keep (arm hEql) (arm hNeq) (arm hLss) (arm hLeq) (arm hGtr) (arm hGeq) op x y (aBin P op t cst x y)
theorem arm_eq {P : Program} {op : BinOp} {t : TypeId} {cst : Bool} {h : IntKind → Nat → Nat → OV → OV} (ho : op ≠ .shl ∧ op ≠ .shr) (hh : ∀ k a b, h k a b (aInt op k (.ofNat a) (.ofNat b)) = aInt op k (.ofNat a) (.ofNat b)) (x y : Value) : arm h x y (aBin P op t cst x y) = aBin P op t cst x y := by
  cases x <;> first | rfl | skip
  rename_i k m
  cases y <;> first | rfl | skip
  rename_i k' n
  show bV (Nat.beq (ikN k) (ikN k')) (arm3 h _ k m n) _ = _
  rw [bV_eq]
  cases hb : Nat.beq (ikN k) (ikN k') with
  | false => rfl
  | true =>
    have e := ikN_inj hb
    subst e
    have : aBin P op t cst (.int k m) (.int k n) = aInt op k m n := by
      cases op <;> first | exact (ho.1 rfl).elim | exact (ho.2 rfl).elim | simp [aBin]
    rw [this]
    cases m with
    | negSucc a => rfl
    | ofNat a =>
      cases n with
      | negSucc b => rfl
      | ofNat b => exact hh k a b
theorem binR_eq (P : Program) (op : BinOp) (t : TypeId) (cst : Bool) (x y : Value) : binR P op t cst x y = aBin P op t cst x y := by
  cases op <;> first | rfl | skip
  case add => exact arm_eq ⟨by simp, by simp⟩ (fun k a b => wrapR_eq rfl) x y
  case mul => exact arm_eq ⟨by simp, by simp⟩ (fun k a b => wrapR_eq rfl) x y
  case sub =>
    refine arm_eq ⟨by simp, by simp⟩ (fun k a b => ?_) x y
    show bV (Nat.ble b a) (wrapR k (Nat.sub a b) (aInt .sub k (.ofNat a) (.ofNat b))) (aInt .sub k (.ofNat a) (.ofNat b)) = _
    rw [bV_eq]
    cases hb : Nat.ble b a with
    | false => rfl
    | true =>
      refine wrapR_eq ?_
      have hle : b ≤ a := by simpa [Nat.ble_eq] using hb
      have : Int.sub (.ofNat a) (.ofNat b) = .ofNat (Nat.sub a b) := (Int.ofNat_sub hle).symm
      simp only [aInt, this]
  case eql => exact arm_eq ⟨by simp, by simp⟩ (fun k a b => rfl) x y
  case lss => exact arm_eq ⟨by simp, by simp⟩ (fun k a b => rfl) x y
  case gtr => exact arm_eq ⟨by simp, by simp⟩ (fun k a b => rfl) x y
  all_goals exact arm_eq ⟨by simp, by simp⟩ (fun k a b => congrArg (fun z => some (Value.bool z)) (bNot_eq _)) x y

/-! ### conversions -/
noncomputable def convTo (P : Program) (s d : TypeId) : Option IntKind := match P.underlying s, P.underlying d with
  | some _, some (.int k) => some k
  | _, _ => none
noncomputable def convN (old : OV) (k : IntKind) (c : Nat) : OV := wrapR k c old
noncomputable def convI (old : OV) (k : IntKind) (_ : IntKind) (n : Int) : OV := iN n (convN old k) old
noncomputable def convR (P : Program) (s d : TypeId) (a : Value) : OV := Option.rec (motive := fun _ => Value → OV → OV) (fun _ old => old) (fun k a old => vI a (convI old k) old) (convTo P s d) a (aConv P s d a)
theorem convR_eq (P : Program) (s d : TypeId) (a : Value) : convR P s d a = aConv P s d a := by
  unfold convR
  cases hc : convTo P s d with
  | none => rfl
  | some k =>
    cases a <;> first | rfl | skip
    rename_i k' n
    cases n with
    | negSucc m => rfl
    | ofNat m =>
      refine wrapR_eq ?_
      unfold convTo at hc
      split at hc
      · rename_i u v k2 h1 h2
        simp only [Option.some.injEq] at hc; subst hc
        simp only [aConv, h1, h2]
      · cases hc

/-! ### loads, addresses -/
noncomputable def vPtr {β : Type} (d : β) (f : Nat → Nat → β) (v : Value) : β :=
  Value.rec (motive_1 := fun _ => β) (motive_2 := fun _ => Unit) (motive_3 := fun _ => Unit) (fun _ => d) (fun _ _ => d) (fun _ _ => d) (fun _ _ _ => d) (fun _ => d) (fun a => Option.rec (motive := fun _ => β) d (fun a => Addr.rec (motive := fun _ => β) (fun b o s => Option.rec (motive := fun _ => β) (f b o) (fun _ => d) s) a) a) (fun _ _ _ => d) (fun _ => d) (fun _ => d) (fun _ _ _ _ _ => d) d (fun _ _ _ => d) d (fun _ _ => d) (fun _ _ => d) (fun _ _ => ()) () (fun _ _ _ _ => ()) v
noncomputable def vSl {β : Type} (d : β) (f : Nat → Nat → Nat → Nat → β) (v : Value) : β :=
  Value.rec (motive_1 := fun _ => β) (motive_2 := fun _ => Unit) (motive_3 := fun _ => Unit) (fun _ => d) (fun _ _ => d) (fun _ _ => d) (fun _ _ _ => d) (fun _ => d) (fun _ => d) (fun a n c => Option.rec (motive := fun _ => β) d (fun a => Addr.rec (motive := fun _ => β) (fun b o s => Option.rec (motive := fun _ => β) (f b o n c) (fun _ => d) s) a) a) (fun _ => d) (fun _ => d) (fun _ _ _ _ _ => d) d (fun _ _ _ => d) d (fun _ _ => d) (fun _ _ => d) (fun _ _ => ()) () (fun _ _ _ _ => ()) v
noncomputable def bVals (x : Blk) : Option (List Value) := Blk.rec (motive := fun _ => Option (List Value)) none (fun _ vs => some vs) (fun vs => some vs) (fun vs => some vs) (fun _ _ => none) (fun _ => none) (fun _ => none) x
theorem bVals_eq (x : Blk) : bVals x = x.vals := by cases x <;> rfl
noncomputable def nth {α : Type} (l : List α) : Nat → Option α := List.rec (motive := fun _ => Nat → Option α) (fun _ => none) (fun x _ ih i => bI (Nat.beq i 0) (some x) (ih (Nat.sub i 1))) l
theorem nth_eq {α : Type} : ∀ (l : List α) (i : Nat), nth l i = l[i]?
  | [], i => by simp [nth]
  | x :: l, i => by
    show bI (Nat.beq i 0) (some x) (nth l (Nat.sub i 1)) = _
    rw [bI_eq, nth_eq l]
    cases i with
    | zero => rfl
    | succ i =>
      have h0 : Nat.beq (i + 1) 0 = false := rfl
      rw [h0]; simp
noncomputable def loadR (P : Program) (M : Tr Blk) (t : TypeId) (a : Value) : Option Value := vPtr none (fun b o => oB (M.get (Nat.div b 256)) fun x => oB (bVals x) fun vs => oB (aAgg P t) fun g => bI g (aLoad P M t a) (nth vs o)) a
theorem loadR_eq (P : Program) (M : Tr Blk) (t : TypeId) (a : Value) : loadR P M t a = aLoad P M t a := by
  cases a <;> first | rfl | skip
  rename_i a
  cases a with
  | none => rfl
  | some a =>
    obtain ⟨b, o, s⟩ := a
    cases s with
    | some s => rfl
    | none =>
      show oB (M.get (b / 256)) (fun x => oB (bVals x) fun vs => oB (aAgg P t) fun g => bI g (aLoad P M t (.pointer (some ⟨b, o, none⟩))) (nth vs o)) = _
      simp only [aLoad]
      cases M.get (b / 256) with
      | none => rfl
      | some x =>
        show oB (bVals x) _ = _
        rw [bVals_eq]
        simp only
        cases x.vals with
        | none => cases aAgg P t <;> rfl
        | some vs =>
          show oB (aAgg P t) _ = _
          cases aAgg P t with
          | none => rfl
          | some g =>
            cases g with
            | true => rfl
            | false => exact nth_eq vs o

noncomputable def lenR (P : Program) (t : TypeId) (x : Value) : Option Value := vSl (aLen P t x) (fun _ _ n _ => bI (isSlice (P.underlying t)) (some (.int .i64 (.ofNat n))) (aLen P t x)) x
  where isSlice (d : Option TypeDesc) : Bool := match d with
    | some (.slice _) => true
    | _ => false
theorem lenR_eq (P : Program) (t : TypeId) (x : Value) : lenR P t x = aLen P t x := by
  cases x <;> first | rfl | skip
  rename_i a n c
  cases a with
  | none => rfl
  | some a =>
    obtain ⟨b, o, s⟩ := a
    cases s with
    | some s => rfl
    | none =>
      show bI (lenR.isSlice (P.underlying t)) _ _ = _
      rw [bI_eq]
      unfold aLen
      cases P.underlying t with
      | none => rfl
      | some d => cases d <;> rfl
end Go.Proofs.YtjbanjpklgpenaaGreatDoor.Vm
