/-
  THE ABSTRACT INTERPRETER, part C: operations on numbers, texts and nil.
-/
import Derived.Test.YtjbanjpklgpenaaGreatDoorVmB
import Derived.Laws.Tables
import Derived.Laws.Strings
namespace Go.Proofs.YtjbanjpklgpenaaGreatDoor.Vm

noncomputable def getv (G : Nat) (T : Tr Value) : Operand → Option Value
  | .tmp t => T.get t
  | .const v => bif okc v then some v else none
  | .global g => bif Nat.blt g G then some (.pointer (some ⟨256 * g, 0, none⟩)) else none
  | .func f => some (.func (.func f) #[] #[])

/-- The operands of a true frame are what the abstract one's are. -/
def TR (ι : Iota) (G : Nat) (T : Tr Value) (ρ : Operand → Value) : Prop := ∀ x v, getv G T x = some v → VR ι v (ρ x)

def GOk (G : Nat) (ι : Iota) : Prop := ∀ g, g < G → ι (256 * g) = some ⟨g, none⟩

theorem TR.of {ι : Iota} {G : Nat} {T : Tr Value} {a : Act} (hG : GOk G ι) (h : ∀ t v, T.get t = some v → ∃ u, a.tmps[t]? = some u ∧ VR ι v u) : TR ι G T a.eval := by
  intro x v e
  cases x with
  | tmp t =>
    obtain ⟨u, hu, hv⟩ := h t v e
    show VR ι v (a.tmps.getD t undef)
    rw [Array.getD_eq_getD_getElem?, hu]; exact hv
  | const c =>
    have e' : (bif okc c then some c else none) = some v := e
    cases hc : okc c with
    | false => rw [hc] at e'; simp at e'
    | true => rw [hc] at e'; simp at e'; subst e'; exact okc_self c hc
  | global g =>
    have e' : (bif Nat.blt g G then some (Value.pointer (some ⟨256 * g, 0, none⟩)) else none) = some v := e
    cases hc : Nat.blt g G with
    | false => rw [hc] at e'; simp at e'
    | true =>
      rw [hc] at e'; simp at e'; subst e'
      have hl := hG g (by simpa [Nat.blt_eq] using hc)
      exact VR.ptr (o := 0) hl
  | func f =>
    have e' : some (Value.func (.func f) #[] #[]) = some v := e
    simp at e'; subst e'
    exact .func rfl .nil .nil

/-! ### numbers -/
def ltI : Int → Int → Bool
  | .ofNat m, .ofNat n => Nat.blt m n
  | .negSucc m, .negSucc n => Nat.blt n m
  | .negSucc _, .ofNat _ => true
  | .ofNat _, .negSucc _ => false
def eqI : Int → Int → Bool
  | .ofNat m, .ofNat n => Nat.beq m n
  | .negSucc m, .negSucc n => Nat.beq m n
  | _, _ => false
theorem ltI_eq (x y : Int) : ltI x y = decide (x < y) := by
  rw [Bool.eq_iff_iff, decide_eq_true_eq]
  cases x with
  | ofNat m =>
    cases y with
    | ofNat n => simp only [ltI, Nat.blt_eq, Int.ofNat_eq_natCast]; omega
    | negSucc n => simp only [ltI, Int.ofNat_eq_natCast]; have := Int.negSucc_lt_zero n; constructor <;> intro h <;> first | cases h | omega
  | negSucc m =>
    cases y with
    | ofNat n => simp only [ltI, Int.ofNat_eq_natCast, true_iff]; have := Int.negSucc_lt_zero m; omega
    | negSucc n => simp only [ltI, Nat.blt_eq, Int.negSucc_eq]; omega
theorem eqI_eq (x y : Int) : eqI x y = (x == y) := by
  rw [Bool.eq_iff_iff, beq_iff_eq]
  cases x with
  | ofNat m =>
    cases y with
    | ofNat n => simp only [eqI, Nat.beq_eq, Int.ofNat_eq_natCast]; omega
    | negSucc n => simp [eqI]
  | negSucc m =>
    cases y with
    | ofNat n => simp [eqI]
    | negSucc n => simp [eqI]

def pow2 (n : Nat) : Int := .ofNat (Nat.pow 2 n)
theorem pow2_eq (n : Nat) : pow2 n = (2 : Int) ^ n := by
  show ((2 ^ n : Nat) : Int) = 2 ^ n
  simp

def bitsI (op : BinOp) (k : IntKind) (x y : Int) : Option Int :=
  match op, k, x, y with
  | .and, .u64, .ofNat m, .ofNat n => some (.ofNat (Nat.land (Nat.mod m 18446744073709551616) (Nat.mod n 18446744073709551616)))
  | .or, .u64, .ofNat m, .ofNat n => some (.ofNat (Nat.lor (Nat.mod m 18446744073709551616) (Nat.mod n 18446744073709551616)))
  | .and, k, x, y => some (k.wrap (BitVec.ofInt k.bits x &&& BitVec.ofInt k.bits y).toNat)
  | .or, k, x, y => some (k.wrap (BitVec.ofInt k.bits x ||| BitVec.ofInt k.bits y).toNat)
  | .xor, k, x, y => some (k.wrap (BitVec.ofInt k.bits x ^^^ BitVec.ofInt k.bits y).toNat)
  | .andNot, k, x, y => some (k.wrap (BitVec.ofInt k.bits x &&& ~~~BitVec.ofInt k.bits y).toNat)
  | _, _, _, _ => none

theorem toNat_ofInt64 (m : Nat) : (BitVec.ofInt IntKind.u64.bits (Int.ofNat m)).toNat = m % 18446744073709551616 := by
  show (BitVec.ofInt 64 (m : Int)).toNat = _
  rw [BitVec.toNat_ofInt]
  have e : (2 : Nat) ^ 64 = 18446744073709551616 := by decide
  rw [e]; omega

theorem wrap_small {n : Nat} (h : n < 18446744073709551616) : IntKind.u64.wrap (n : Int) = (n : Int) := by rw [wrap_u64]; omega

theorem run_bitsI (op : BinOp) (k : IntKind) (x y z : Int) (h : bitsI op k x y = some z) (P : Program) (w : World) : (Op.intBits op k x y).run P w = .ok (.int k z) w := by
  unfold bitsI at h
  split at h
  · rename_i m n
    simp only [Option.some.injEq] at h
    subst h
    show Result.ok (Value.int .u64 (IntKind.u64.wrap ((BitVec.ofInt IntKind.u64.bits (Int.ofNat m) &&& BitVec.ofInt IntKind.u64.bits (Int.ofNat n)).toNat : Int))) w = _
    rw [BitVec.toNat_and, toNat_ofInt64, toNat_ofInt64, wrap_small]
    · rfl
    · exact Nat.lt_of_le_of_lt Nat.and_le_left (Nat.mod_lt _ (by decide))
  · rename_i m n
    simp only [Option.some.injEq] at h
    subst h
    show Result.ok (Value.int .u64 (IntKind.u64.wrap ((BitVec.ofInt IntKind.u64.bits (Int.ofNat m) ||| BitVec.ofInt IntKind.u64.bits (Int.ofNat n)).toNat : Int))) w = _
    rw [BitVec.toNat_or, toNat_ofInt64, toNat_ofInt64, wrap_small]
    · rfl
    · have e : (18446744073709551616 : Nat) = 2 ^ 64 := by decide
      rw [e]
      exact Nat.or_lt_two_pow (Nat.mod_lt _ (by decide)) (Nat.mod_lt _ (by decide))
  · simp only [Option.some.injEq] at h; subst h; rfl
  · simp only [Option.some.injEq] at h; subst h; rfl
  · simp only [Option.some.injEq] at h; subst h; rfl
  · simp only [Option.some.injEq] at h; subst h; rfl
  · cases h

def aInt (op : BinOp) (k : IntKind) (x y : Int) : Option Value :=
  match op with
  | .add => some (.int k (wrapI k (Int.add x y)))
  | .sub => some (.int k (wrapI k (Int.sub x y)))
  | .mul => some (.int k (wrapI k (Int.mul x y)))
  | .quo => bif eqI y 0 then none else some (.int k (wrapI k (x.tdiv y)))
  | .rem => bif eqI y 0 then none else some (.int k (x.tmod y))
  | .eql => some (.bool (eqI x y))
  | .neq => some (.bool (!eqI x y))
  | .lss => some (.bool (ltI x y))
  | .leq => some (.bool (!ltI y x))
  | .gtr => some (.bool (ltI y x))
  | .geq => some (.bool (!ltI x y))
  | .shl | .shr => none
  | op => match bitsI op k x y with
    | some z => some (.int k z)
    | none => none

theorem run_aInt (op : BinOp) (t : TypeId) (k : IntKind) (x y : Int) (v : Value) (h : aInt op k x y = some v) (P : Program) (w : World) : (binOp op t (.int k x) (.int k y)).run P w = .ok v w := by
  cases op with
  | add => simp only [aInt, Option.some.injEq] at h; subst h; rw [wrapI_eq]; simp only [binOp, ne_eq, not_true, if_false, Op.intArith]; rfl
  | sub => simp only [aInt, Option.some.injEq] at h; subst h; rw [wrapI_eq]; simp only [binOp, ne_eq, not_true, if_false, Op.intArith]; rfl
  | mul => simp only [aInt, Option.some.injEq] at h; subst h; rw [wrapI_eq]; simp only [binOp, ne_eq, not_true, if_false, Op.intArith]; rfl
  | quo =>
    simp only [aInt, eqI_eq] at h
    by_cases hy : y = 0
    · subst hy; simp at h
    · have : (y == 0) = false := by simpa using hy
      rw [this] at h; simp at h; subst h; rw [wrapI_eq]; simp [binOp, Op.intDiv, hy]
  | rem =>
    simp only [aInt, eqI_eq] at h
    by_cases hy : y = 0
    · subst hy; simp at h
    · have : (y == 0) = false := by simpa using hy
      rw [this] at h; simp at h; subst h; simp [binOp, Op.intDiv, hy]
  | eql => simp only [aInt, eqI_eq, Option.some.injEq] at h; subst h; simp [binOp, Op.intCmp]
  | neq => simp only [aInt, eqI_eq, Option.some.injEq] at h; subst h; simp [binOp, Op.intCmp, bne]
  | lss => simp only [aInt, ltI_eq, Option.some.injEq] at h; subst h; simp [binOp, Op.intCmp]
  | leq => simp only [aInt, ltI_eq, Option.some.injEq] at h; subst h; simp [binOp, Op.intCmp, ← decide_not]
  | gtr => simp only [aInt, ltI_eq, Option.some.injEq] at h; subst h; simp [binOp, Op.intCmp]
  | geq => simp only [aInt, ltI_eq, Option.some.injEq] at h; subst h; simp [binOp, Op.intCmp, ← decide_not]
  | shl => simp [aInt] at h
  | shr => simp [aInt] at h
  | and =>
    simp only [aInt] at h
    cases hb : bitsI .and k x y with
    | none => rw [hb] at h; simp at h
    | some z => rw [hb] at h; simp at h; subst h; simp only [binOp, ne_eq, not_true, if_false]; exact run_bitsI _ _ _ _ _ hb P w
  | or =>
    simp only [aInt] at h
    cases hb : bitsI .or k x y with
    | none => rw [hb] at h; simp at h
    | some z => rw [hb] at h; simp at h; subst h; simp only [binOp, ne_eq, not_true, if_false]; exact run_bitsI _ _ _ _ _ hb P w
  | xor =>
    simp only [aInt] at h
    cases hb : bitsI .xor k x y with
    | none => rw [hb] at h; simp at h
    | some z => rw [hb] at h; simp at h; subst h; simp only [binOp, ne_eq, not_true, if_false]; exact run_bitsI _ _ _ _ _ hb P w
  | andNot =>
    simp only [aInt] at h
    cases hb : bitsI .andNot k x y with
    | none => rw [hb] at h; simp at h
    | some z => rw [hb] at h; simp at h; subst h; simp only [binOp, ne_eq, not_true, if_false]; exact run_bitsI _ _ _ _ _ hb P w

def aShift (op : BinOp) (k : IntKind) (x : Int) : Int → Option Value
  | .negSucc _ => none
  | .ofNat m =>
    let n := bif Nat.ble m k.bits then m else k.bits
    match op with
    | .shl => some (.int k (wrapI k (Int.mul x (pow2 n))))
    | .shr => some (.int k (x.fdiv (pow2 n)))
    | _ => none

theorem run_aShift (op : BinOp) (t : TypeId) (k k' : IntKind) (x y : Int) (v : Value) (h : aShift op k x y = some v) (P : Program) (w : World) : (binOp op t (.int k x) (.int k' y)).run P w = .ok v w := by
  cases y with
  | negSucc m => simp [aShift] at h
  | ofNat m =>
    have hn : (bif Nat.ble m k.bits then m else k.bits) = min (Int.ofNat m).toNat k.bits := by
      show _ = min m k.bits
      by_cases hm : m ≤ k.bits
      · have : Nat.ble m k.bits = true := by rw [Nat.ble_eq]; exact hm
        rw [this, cond_true]; omega
      · have : Nat.ble m k.bits = false := by rw [← Bool.not_eq_true, Nat.ble_eq]; exact hm
        rw [this, cond_false]; omega
    simp only [aShift, hn] at h
    have h0 : ¬ (Int.ofNat m < 0) := by simp
    cases op <;> simp only [Option.some.injEq, reduceCtorEq] at h
    case shl => subst h; rw [wrapI_eq, pow2_eq]; simp only [binOp, Op.shift, h0, if_false]; rfl
    case shr => subst h; rw [pow2_eq]; simp only [binOp, Op.shift, h0, if_false]; rfl

def aUn (op : UnOp) : Value → Option Value
  | .int k n => match op with
    | .neg => some (.int k (wrapI k (Int.sub 0 n)))
    | .xor => match bitsI .xor k (if k.signed then -1 else k.max) n with
      | some z => some (.int k z)
      | none => none
    | _ => none
  | .bool b => match op with
    | .not => some (.bool !b)
    | _ => none
  | _ => none

theorem run_aUn {ι : Iota} (op : UnOp) {x u v : Value} (hx : VR ι x u) (h : aUn op x = some v) (P : Program) (w : World) : VR ι v v ∧ (Op.unary op u).run P w = .ok v w := by
  cases hx <;> simp only [aUn, reduceCtorEq] at h
  case int k n =>
    cases op <;> simp only [Option.some.injEq, reduceCtorEq] at h
    case neg => subst h; rw [wrapI_eq]; exact ⟨.int _ _, rfl⟩
    case xor =>
      cases hb : bitsI .xor k (if k.signed then -1 else k.max) n with
      | none => rw [hb] at h; simp at h
      | some z => rw [hb] at h; simp at h; subst h; exact ⟨.int _ _, run_bitsI _ _ _ _ _ hb P w⟩
  case bool b =>
    cases op <;> simp only [Option.some.injEq, reduceCtorEq] at h
    case not => subst h; exact ⟨.bool _, rfl⟩

/-! ### texts -/
def aStr (op : BinOp) (x y : ByteArray) : Option Value :=
  match op with
  | .eql => some (.bool (x.data.toList == y.data.toList))
  | .neq => some (.bool !(x.data.toList == y.data.toList))
  | .add => bif Nat.ble (x.size + y.size) 1000000000 then some (.string ⟨(x.data.toList ++ y.data.toList).toArray⟩) else none
  | .lss => some (.bool (Op.bytesLess x.data.toList y.data.toList))
  | .leq => some (.bool (Op.bytesLess x.data.toList y.data.toList || (x.data.toList == y.data.toList)))
  | .gtr => some (.bool !(Op.bytesLess x.data.toList y.data.toList || (x.data.toList == y.data.toList)))
  | .geq => some (.bool !(Op.bytesLess x.data.toList y.data.toList))
  | _ => none

theorem run_aStr (op : BinOp) (x y : ByteArray) (v : Value) (h : aStr op x y = some v) (P : Program) (w : World) : simple v = true ∧ (Op.stringOp op x y).run P w = .ok v w := by
  cases op <;> simp only [aStr, Option.some.injEq, reduceCtorEq] at h
  case add =>
    cases hs : Nat.ble (x.size + y.size) 1000000000 with
    | false => rw [hs] at h; simp at h
    | true =>
      rw [hs] at h; simp at h; subst h
      rw [Nat.ble_eq] at hs
      refine ⟨rfl, ?_⟩
      have hb : ¬ ((x.size + y.size : Nat) : Int) > IntKind.i64.max := by
        have : IntKind.i64.max = 9223372036854775807 := by decide
        rw [this]; omega
      have hxy : x ++ y = ⟨(x.data.toList ++ y.data.toList).toArray⟩ := by
        apply ByteArray.ext
        simp
      simp only [Op.stringOp, hb, if_false]
      rw [hxy]; simp
  all_goals (subst h; refine ⟨rfl, ?_⟩; simp only [Op.stringOp, ByteArray.toList_eq]; rfl)
end Go.Proofs.YtjbanjpklgpenaaGreatDoor.Vm
