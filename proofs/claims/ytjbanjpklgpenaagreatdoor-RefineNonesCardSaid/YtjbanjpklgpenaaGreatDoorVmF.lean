/-
  THE ABSTRACT INTERPRETER, part F: what is left of the operations that look at no memory; all of them in one function.
-/
import Derived.Test.YtjbanjpklgpenaaGreatDoorVmE
namespace Go.Proofs.YtjbanjpklgpenaaGreatDoor.Vm

/-! ### against nil, bools -/
def aEq (P : Program) (t : TypeId) (cst : Bool) (x y : Value) : Option Bool := match P.underlying t, x, y with
  | some .bool, .bool a, .bool b => some (a == b)
  | some (.interface _), .nilIface, .iface _ _ => some false
  | some (.interface _), .iface _ _, .nilIface => some false
  | some (.interface _), .nilIface, .nilIface => bif cst then some true else none
  | some (.pointer _), .pointer none, .pointer b => some b.isNone
  | some (.pointer _), .pointer (some _), .pointer none => some false
  | some (.slice _), .slice none _ _, .slice b _ _ => some b.isNone
  | some (.slice _), .slice (some _) _ _, .slice none _ _ => some false
  | some (.func _ _ _), .nilFunc, .nilFunc => some true
  | some (.func _ _ _), .nilFunc, .func _ _ _ => some false
  | some (.func _ _ _), .func _ _ _, .nilFunc => some false
  | _, _, _ => none

theorem run_aEqIn {ι : Iota} {P : Program} {t : TypeId} {cst : Bool} {x y u z : Value} {b : Bool} (hx : VR ι x u) (hy : VR ι y z) (h : aEq P t cst x y = some b) (w : World) (d : Nat) : (Op.equalIn (d + 1) t u z).run P w = .ok b w := by
  unfold aEq at h
  unfold Op.equalIn
  split at h
  · rename_i hu; cases hx; cases hy; simp at h; subst h; rw [Sem.run_bind, run_underlying hu]; simp
  · rename_i hu; cases hx; cases hy; simp at h; subst h; rw [Sem.run_bind, run_underlying hu]; simp
  · rename_i hu; cases hx; cases hy; simp at h; subst h; rw [Sem.run_bind, run_underlying hu]; simp
  · rename_i hu; cases hx; cases hy; cases cst <;> simp at h; subst h; rw [Sem.run_bind, run_underlying hu]; simp
  · rename_i hu; cases hx; simp at h; subst h; cases hy <;> (rw [Sem.run_bind, run_underlying hu]; simp)
  · rename_i hu; cases hx; cases hy; simp at h; subst h; rw [Sem.run_bind, run_underlying hu]; simp
  · rename_i hu; cases hx; simp at h; subst h; cases hy <;> (rw [Sem.run_bind, run_underlying hu]; simp)
  · rename_i hu; cases hy; simp at h; subst h; cases hx <;> (rw [Sem.run_bind, run_underlying hu]; simp)
  · rename_i hu; cases hx; cases hy; simp at h; subst h; rw [Sem.run_bind, run_underlying hu]; simp
  · rename_i hu; cases hx; simp at h; subst h; cases hy <;> (rw [Sem.run_bind, run_underlying hu]; simp)
  · rename_i hu; cases hy; simp at h; subst h; cases hx <;> (rw [Sem.run_bind, run_underlying hu]; simp)
  · cases h
theorem run_aEq {ι : Iota} {P : Program} {t : TypeId} {cst : Bool} {x y u z : Value} {b : Bool} (hx : VR ι x u) (hy : VR ι y z) (h : aEq P t cst x y = some b) (w : World) : (Op.equal t u z).run P w = .ok b w :=
  run_aEqIn hx hy h w 9999

def isConst : Operand → Bool
  | .const _ => true
  | _ => false

def aBin (P : Program) (op : BinOp) (t : TypeId) (cst : Bool) (x y : Value) : Option Value := match x, y with
  | .int k a, .int k' b => (match op with
    | .shl => aShift .shl k a b
    | .shr => aShift .shr k a b
    | op => bif decide (k = k') then aInt op k a b else none)
  | .string a, .string b => aStr op a b
  | x, y => (match op with
    | .eql => (match aEq P t cst x y with
      | some b => some (.bool b)
      | none => none)
    | .neq => (match aEq P t cst x y with
      | some b => some (.bool !b)
      | none => none)
    | _ => none)

theorem aInt_simple {op : BinOp} {k : IntKind} {a b : Int} {v : Value} (h : aInt op k a b = some v) : simple v = true := by
  cases op <;> simp only [aInt, Option.some.injEq, reduceCtorEq] at h <;> first | (subst h; rfl) | skip
  case quo => cases hb : eqI b 0 <;> rw [hb] at h <;> simp at h; subst h; rfl
  case rem => cases hb : eqI b 0 <;> rw [hb] at h <;> simp at h; subst h; rfl
  all_goals (split at h <;> simp at h; subst h; rfl)
theorem aShift_simple {op : BinOp} {k : IntKind} {a b : Int} {v : Value} (h : aShift op k a b = some v) : simple v = true := by
  cases b with
  | negSucc n => simp [aShift] at h
  | ofNat n => cases op <;> simp [aShift] at h <;> (subst h; rfl)

theorem eqGuard_ok {ι : Iota} {P : Program} {op : BinOp} {t : TypeId} {p q : Operand} {x y u z : Value} {b : Bool} (hx : VR ι x u) (hy : VR ι y z) (hb : aEq P t (isConst p || isConst q) x y = some b) (w : World) : (eqGuard op t p q u z).run P w = .ok () w := by
  unfold eqGuard
  unfold aEq at hb
  cases op <;> first | rfl | skip
  all_goals
    split at hb <;> first | cases hb; done | skip
    all_goals (cases hx <;> cases hy <;> first | rfl | skip)
    all_goals (cases p <;> cases q <;> first | rfl | (simp [isConst] at hb))

theorem run_aBin {ι : Iota} {P : Program} {op : BinOp} {t : TypeId} {p q : Operand} {x y u z v : Value} (hx : VR ι x u) (hy : VR ι y z) (h : aBin P op t (isConst p || isConst q) x y = some v) (w : World) :
    VR ι v v ∧ (do eqGuard op t p q u z; binOp op t u z).run P w = .ok v w := by
  unfold aBin at h
  split at h
  · rename_i k a k' b
    cases hx; cases hy
    have hg : (eqGuard op t p q (.int k a) (.int k' b)).run P w = .ok () w := by
      unfold eqGuard; split <;> rfl
    rw [Sem.run_bind, hg]
    split at h
    · exact ⟨simple_self _ (aShift_simple h), run_aShift _ _ _ _ _ _ _ h P w⟩
    · exact ⟨simple_self _ (aShift_simple h), run_aShift _ _ _ _ _ _ _ h P w⟩
    · by_cases hk : k = k'
      · subst hk
        simp at h
        exact ⟨simple_self _ (aInt_simple h), run_aInt _ _ _ _ _ _ h P w⟩
      · simp [hk] at h
  · rename_i a b
    cases hx; cases hy
    have hg : (eqGuard op t p q (.string a) (.string b)).run P w = .ok () w := by
      unfold eqGuard; split <;> rfl
    rw [Sem.run_bind, hg]
    obtain ⟨h1, h2⟩ := run_aStr _ _ _ _ h P w
    refine ⟨simple_self _ h1, ?_⟩
    cases op <;> exact h2
  · rename_i h1 h2
    have key : ∀ b, aEq P t (isConst p || isConst q) x y = some b → (eqGuard op t p q u z).run P w = .ok () w ∧ (binOp .eql t u z).run P w = .ok (.bool b) w ∧ (binOp .neq t u z).run P w = .ok (.bool !b) w := by
      intro b hb
      have hr := run_aEq hx hy hb w
      refine ⟨eqGuard_ok hx hy hb w, ?_, ?_⟩
      · unfold aEq at hb
        split at hb <;> first | cases hb; done | skip
        all_goals (cases hx <;> cases hy <;> first | (simp only [binOp, Sem.run_bind, hr]; rfl) | (simp at hb))
      · unfold aEq at hb
        split at hb <;> first | cases hb; done | skip
        all_goals (cases hx <;> cases hy <;> first | (simp only [binOp, Sem.run_bind, hr]; rfl) | (simp at hb))
    split at h
    · split at h
      · rename_i b hb
        simp at h; subst h
        obtain ⟨k1, k2, k3⟩ := key b hb
        rw [Sem.run_bind, k1]
        exact ⟨.bool _, k2⟩
      · cases h
    · split at h
      · rename_i b hb
        simp at h; subst h
        obtain ⟨k1, k2, k3⟩ := key b hb
        rw [Sem.run_bind, k1]
        exact ⟨.bool _, k3⟩
      · cases h
    · cases h

/-! ### conversions, assertions -/
def aConv (P : Program) (src dst : TypeId) (x : Value) : Option Value := match P.underlying src, P.underlying dst, x with
  | some _, some (.int k), .int _ n => some (.int k (wrapI k n))
  | some _, some .string, .string s => some (.string s)
  | _, _, _ => none
theorem run_aConv {ι : Iota} {P : Program} {src dst : TypeId} {x u v : Value} (hx : VR ι x u) (h : aConv P src dst x = some v) (w : World) : VR ι v v ∧ (convert src dst u).run P w = .ok v w := by
  unfold aConv at h
  split at h
  · rename_i d k k' n h1 h2
    cases hx
    simp at h; subst h
    refine ⟨.int _ _, ?_⟩
    rw [wrapI_eq]
    unfold convert
    simp only [Sem.run_bind, run_underlying h1, run_underlying h2, Result.andThen_ok]
    cases d <;> rfl
  · rename_i d s h1 h2
    cases hx
    simp at h; subst h
    refine ⟨.str _, ?_⟩
    unfold convert
    simp only [Sem.run_bind, run_underlying h1, run_underlying h2, Result.andThen_ok]
    cases d <;> rfl
  · cases h

def aAssert (P : Program) (x : Value) (asserted : TypeId) (ok : Bool) : Option Value := match P.underlying asserted, x, ok with
  | some (.interface _), _, _ => none
  | some _, .iface t v, true => bif Nat.beq t asserted then some (.tuple #[v, .bool true]) else (match aZero P asserted with
    | some z => some (.tuple #[z, .bool false])
    | none => none)
  | some _, .nilIface, true => (match aZero P asserted with
    | some z => some (.tuple #[z, .bool false])
    | none => none)
  | some _, .iface t v, false => bif Nat.beq t asserted then some v else none
  | _, _, _ => none
theorem run_aAssert {ι : Iota} {P : Program} {xt asserted : TypeId} {ok : Bool} {x u v : Value} (hx : VR ι x u) (h : aAssert P x asserted ok = some v) : Comes1 P ι (Instr.typeAssert u xt asserted ok) v := by
  unfold aAssert at h
  split at h
  · cases h
  · rename_i d t y hd hu
    cases hx with
    | iface _ hv =>
      rename_i z
      cases hb : Nat.beq t asserted with
      | true =>
        rw [hb] at h; simp at h; subst h
        have e := Nat.eq_of_beq_eq_true hb
        subst e
        refine ⟨.tuple #[z, .bool true], .tuple (.cons hv (.cons (.bool _) .nil)), fun w => ?_⟩
        unfold Instr.typeAssert
        simp only [Sem.run_bind, run_underlying hu, Result.andThen_ok]
        cases d <;> first | (exact (hd _ rfl).elim) | simp
      | false =>
        rw [hb] at h; simp at h
        split at h
        · rename_i z0 hz
          simp at h; subst h
          have e := beq_false_ne hb
          refine ⟨.tuple #[z0, .bool false], .tuple (.cons (okc_self _ (run_aZero hz default).1) (.cons (.bool _) .nil)), fun w => ?_⟩
          unfold Instr.typeAssert
          simp only [Sem.run_bind, run_underlying hu, Result.andThen_ok]
          cases d <;> first | (exact (hd _ rfl).elim) | simp [e, (run_aZero hz w).2]
        · cases h
  · rename_i d hd hu
    cases hx
    split at h
    · rename_i z0 hz
      simp at h; subst h
      refine ⟨.tuple #[z0, .bool false], .tuple (.cons (okc_self _ (run_aZero hz default).1) (.cons (.bool _) .nil)), fun w => ?_⟩
      unfold Instr.typeAssert
      simp only [Sem.run_bind, run_underlying hu, Result.andThen_ok]
      cases d <;> first | (exact (hd _ rfl).elim) | simp [(run_aZero hz w).2]
    · cases h
  · rename_i d t y hd hu
    cases hx with
    | iface _ hv =>
      rename_i z
      cases hb : Nat.beq t asserted with
      | true =>
        rw [hb] at h; simp at h; subst h
        have e := Nat.eq_of_beq_eq_true hb
        subst e
        refine ⟨z, hv, fun w => ?_⟩
        unfold Instr.typeAssert
        simp only [Sem.run_bind, run_underlying hu, Result.andThen_ok]
        cases d <;> first | (exact (hd _ rfl).elim) | simp
      | false => rw [hb] at h; simp at h
  · cases h

/-! ### len, max, min -/
def aLen (P : Program) (t : TypeId) (x : Value) : Option Value := match P.underlying t, x with
  | some .string, .string s => some (.int .i64 (.ofNat s.data.toList.length))
  | some (.slice _), .slice _ n _ => some (.int .i64 (.ofNat n))
  | some (.array n _), _ => some (.int .i64 (.ofNat n))
  | _, _ => none
theorem run_aLen {ι : Iota} {P : Program} {t ty : TypeId} {x u v : Value} (hx : VR ι x u) (h : aLen P t x = some v) (w : World) : VR ι v v ∧ (Builtin.len_ #[t] ty #[u]).run P w = .ok v w := by
  unfold aLen at h
  split at h
  · rename_i s hu; cases hx; simp at h; subst h
    exact ⟨.int _ _, by simp [Builtin.len_, run_underlying hu, goInt]⟩
  · rename_i hu; simp at h; subst h
    exact ⟨.int _ _, by cases hx <;> simp [Builtin.len_, run_underlying hu, goInt]⟩
  · rename_i hu; simp at h; subst h
    exact ⟨.int _ _, by simp [Builtin.len_, run_underlying hu, goInt]⟩
  · cases h

def aMax : List Value → Option Value
  | [.int k x, .int _ y] => some (.int k (bif ltI x y then y else x))
  | _ => none
def aMin : List Value → Option Value
  | [.int k x, .int _ y] => some (.int k (bif ltI y x then y else x))
  | _ => none
theorem run_aMax {ι : Iota} {P : Program} {ts : Array TypeId} {ty : TypeId} {xs : List Value} {ys : Array Value} {v : Value} (hx : VRL ι xs ys.toList) (h : aMax xs = some v) (w : World) : VR ι v v ∧ (Builtin.max_ ts ty ys).run P w = .ok v w := by
  unfold aMax at h
  split at h
  · rename_i k x k' y
    simp at h; subst h
    generalize hys : ys.toList = l at hx
    cases hx with
    | cons h1 t => cases t with
      | cons h2 t2 =>
        cases t2; cases h1; cases h2
        refine ⟨.int _ _, ?_⟩
        unfold Builtin.max_
        rw [hys]
        simp only [List.foldlM_cons, List.foldlM_nil, Sem.run_bind, Builtin.max2, Sem.run_pure, Result.andThen_ok, ltI_eq]
        by_cases hlt : x < y
        · simp [hlt]
        · simp [hlt]
  · cases h
theorem run_aMin {ι : Iota} {P : Program} {ts : Array TypeId} {ty : TypeId} {xs : List Value} {ys : Array Value} {v : Value} (hx : VRL ι xs ys.toList) (h : aMin xs = some v) (w : World) : VR ι v v ∧ (Builtin.min_ ts ty ys).run P w = .ok v w := by
  unfold aMin at h
  split at h
  · rename_i k x k' y
    simp at h; subst h
    generalize hys : ys.toList = l at hx
    cases hx with
    | cons h1 t => cases t with
      | cons h2 t2 =>
        cases t2; cases h1; cases h2
        refine ⟨.int _ _, ?_⟩
        unfold Builtin.min_
        rw [hys]
        simp only [List.foldlM_cons, List.foldlM_nil, Sem.run_bind, Builtin.min2, Sem.run_pure, Result.andThen_ok, ltI_eq]
        by_cases hlt : y < x
        · simp [hlt]
        · simp [hlt]
  · cases h
end Go.Proofs.YtjbanjpklgpenaaGreatDoor.Vm
