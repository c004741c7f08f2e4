/-
  THE ABSTRACT INTERPRETER, part 12: steps with answers that are told, and shown apart.
  THE ABSTRACT INTERPRETER, part 13: frames that go on with told answers; the end of a call.
  THE ABSTRACT INTERPRETER, part 14: told answers of operations on whole numbers and rows of numbers.
-/
import Derived.Test.YtihloomkgpflmaaGreatDoorV11
set_option linter.unusedSimpArgs false
set_option linter.unusedVariables false
namespace Go.Proofs.YtihloomkgpflmaaGreatDoor.Vm

/-- What is to be shown of a told answer. -/
inductive Ob where
  | bin (op : BinOp) (t : TypeId) (cst : Bool) (a b v : Value)
  | un (op : UnOp) (a v : Value)
  | conv (s d : TypeId) (a v : Value)
  | idxA (t : TypeId) (a i v : Value)
  | idx (t : TypeId) (a i v : Value)
  | slice (t : TypeId) (a : Value) (l h : Option Value) (v : Value)
  | slice3 (t : TypeId) (a : Value) (l h : Option Value) (m v : Value)
  | load (M : Tr Blk) (t : TypeId) (a v : Value)
  | len (t : TypeId) (a v : Value)
  | mx (xs : List Value) (v : Value)
  | mn (xs : List Value) (v : Value)
  | sto (M : Tr Blk) (t : TypeId) (a x : Value) (M' : Tr Blk)
  | make (M : Tr Blk) (nx : Nat) (t : TypeId) (l c v : Value) (M' : Tr Blk) (nx' : Nat)
  | app (M : Tr Blk) (nx : Nat) (t : TypeId) (d s v : Value) (M' : Tr Blk) (nx' : Nat)
  | call (f : FuncId) (as : List Value) (M : Tr Blk) (nx : Nat) (v : Value) (M' : Tr Blk) (nx' : Nat)
  | nice (v : Value)
  | niceL (vs : List Value)
  | kept (M : Tr Blk) (n : Nat) (vs : List Value)
def Ob.holds (P : Program) (F : Known) : Ob → Prop
  | .bin op t cst a b v => aBin P op t cst a b = some v
  | .un op a v => aUn op a = some v
  | .conv s d a v => aConv P s d a = some v
  | .idxA t a i v => aIndexAddr P t a i = some v
  | .idx t a i v => aIndex P t a i = some v
  | .slice t a l h v => aSlice P t a l h = some v
  | .slice3 t a l h m v => aSlice3 P t a l h m = some v
  | .load M t a v => aLoad P M t a = some v
  | .len t a v => aLen P t a = some v
  | .mx xs v => aMax xs = some v
  | .mn xs v => aMin xs = some v
  | .sto M t a x M' => aStore P M t a x = some M'
  | .make M nx t l c v M' nx' => aMakeSlice P M nx t l c = some (v, M', nx')
  | .app M nx t d s v M' nx' => aAppend P M nx t d s = some (v, M', nx')
  | .call f as M nx v M' nx' => F.sm f as M nx = some (v, M', nx')
  | .nice v => veq 1000000 v v = true
  | .niceL vs => veqL 1000000 vs vs = true
  | .kept M n vs => (match M.get n with
    | some (.cells false us) => veqL 1000000 vs us
    | _ => false) = true
/-- All of these hold (a conjunction, the first one first). -/
def Obs (P : Program) (F : Known) : List Ob → Prop
  | [] => True
  | [o] => o.holds P F
  | o :: os => o.holds P F ∧ Obs P F os
theorem Obs.cons {P : Program} {F : Known} {o : Ob} {os : List Ob} (h : Obs P F (o :: os)) : o.holds P F ∧ Obs P F os := by
  cases os with
  | nil => exact ⟨h, trivial⟩
  | cons _ _ => exact h
theorem Obs.append {P : Program} {F : Known} : ∀ {xs ys : List Ob}, Obs P F (xs ++ ys) → Obs P F xs ∧ Obs P F ys
  | [], _, h => ⟨trivial, h⟩
  | x :: xs, ys, h => by
    obtain ⟨h1, h2⟩ := Obs.cons h
    obtain ⟨h3, h4⟩ := Obs.append h2
    refine ⟨?_, h4⟩
    cases xs with
    | nil => exact h1
    | cons _ _ => exact ⟨h1, h3⟩

inductive Ans where
  /-- reckoned out -/
  | go
  /-- this value; no memory turns -/
  | val (v : Value)
  /-- this value, these blocks -/
  | mem (v : Value) (M : Tr Blk) (nx : Nat)
  /-- a call that answers this; no memory turns -/
  | pure (v : Value)

noncomputable def oval (P : Program) (G : Nat) (T : Tr Value) (M : Tr Blk) (op : Op) (v : Value) : Option Ob := match op with
  | .binOp o t x y _ => (match getv G T x, getv G T y with
    | some a, some b => some (.bin o t (isConst x || isConst y) a b v)
    | _, _ => none)
  | .unOp o _ x => (match getv G T x with
    | some a => some (.un o a v)
    | none => none)
  | .convert s d x => (match getv G T x with
    | some a => some (.conv s d a v)
    | none => none)
  | .indexAddr t x i => (match getv G T x, getv G T i with
    | some a, some b => some (.idxA t a b v)
    | _, _ => none)
  | .index t x i => (match getv G T x, getv G T i with
    | some a, some b => some (.idx t a b v)
    | _, _ => none)
  | .slice t x lo hi none => (match getv G T x, geto G T lo, geto G T hi with
    | some a, some l, some h => some (.slice t a l h v)
    | _, _, _ => none)
  | .slice t x lo hi (some mx) => (match getv G T x, geto G T lo, geto G T hi, getv G T mx with
    | some a, some l, some h, some m => some (.slice3 t a l h m v)
    | _, _, _, _ => none)
  | .load t a => (match getv G T a with
    | some a => some (.load M t a v)
    | none => none)
  | .call c => (match c.callee, c.argTypes.toList, getvs G T c.args.toList with
    | .builtin .len, [t], some [x] => some (.len t x v)
    | .builtin .max, _, some xs => some (.mx xs v)
    | .builtin .min, _, some xs => some (.mn xs v)
    | _, _, _ => none)
  | _ => none
theorem oval_ok {P : Program} {F : Known} {G : Nat} {T : Tr Value} {M : Tr Blk} {op : Op} {v : Value} {o : Ob} (h : oval P G T M op v = some o) (ho : o.holds P F) (nx : Nat) : aquiet P G T M nx op = some (v, M, nx) := by
  unfold oval at h
  split at h
  case h_1 => split at h <;> simp at h; subst h; simp_all [Ob.holds, aquiet, apure]
  case h_2 => split at h <;> simp at h; subst h; simp_all [Ob.holds, aquiet, apure]
  case h_3 => split at h <;> simp at h; subst h; simp_all [Ob.holds, aquiet, apure]
  case h_4 => split at h <;> simp at h; subst h; simp_all [Ob.holds, aquiet, apure]
  case h_5 => split at h <;> simp at h; subst h; simp_all [Ob.holds, aquiet, apure]
  case h_6 => split at h <;> simp at h; subst h; simp_all [Ob.holds, aquiet, apure]
  case h_7 => split at h <;> simp at h; subst h; simp_all [Ob.holds, aquiet, apure]
  case h_8 => split at h <;> simp at h; subst h; simp_all [Ob.holds, aquiet]
  case h_9 => split at h <;> simp at h <;> subst h <;> simp_all [Ob.holds, aquiet, apure]
  case h_10 => cases h

/-- The interpreter's knowledge while it reckons out: functions without a body alone. -/
noncomputable def Exts.bare (X : Exts) : Exts := ⟨X.fn, fun _ _ _ _ => none, fun _ => none⟩
theorem aeff_knows {P : Program} {X : Exts} {F : Known} {G : Nat} {T : Tr Value} {M : Tr Blk} {nx : Nat} {op : Op} : aeff P (X.knows F) G T M nx op = aeff P X.bare G T M nx op := rfl
theorem vop_knows {P : Program} {X : Exts} {F : Known} {call : Fr → Option Res} {G : Nat} {dk : Bool} {rnd : Option Nat} {T : Tr Value} {ds : List Deferred} {up : FrameMode} {M : Tr Blk} {nx : Nat} {op : Op} {r : OpR}
    (h : vop (fun _ => none) P X.bare G dk rnd T ds up M nx op = some r) : vop call P (X.knows F) G dk rnd T ds up M nx op = some r := by
  unfold vop at h ⊢
  rw [aeff_knows]
  cases hq : aquiet P G T M nx op with
  | some q => rw [hq] at h; exact h
  | none =>
    rw [hq] at h
    simp only at h ⊢
    cases he : aeff P X.bare G T M nx op with
    | none => rw [he] at h; exact h
    | some e =>
      rw [he] at h
      cases e with
      | val v M' nx' => exact h
      | enter f as =>
        exfalso
        simp only [Exts.bare] at h
        split at h <;> simp at h
      | round l as =>
        exfalso
        simp only at h
        split at h
        · split at h <;> simp at h
        · cases h
      | recover => exact h
      | defer d => exact h
      | panic v => exact h

noncomputable def omem (P : Program) (X : Exts) (G : Nat) (T : Tr Value) (M : Tr Blk) (nx : Nat) (op : Op) (v : Value) (M' : Tr Blk) (nx' : Nat) : Option (Value × Nat × Ob) := match op with
  | .store t a x => (match getv G T a, getv G T x with
    | some b, some y => some (undef, nx, .sto M t b y M')
    | _, _ => none)
  | .makeSlice t l c => (match getv G T l, getv G T c with
    | some a, some b => some (v, nx', .make M nx t a b v M' nx')
    | _, _ => none)
  | .call c => (match aquiet P G T M nx (.call c) with
    | some _ => none
    | none => (match c.callee, getvs G T c.args.toList with
      | .builtin .append, some [d, s] => (match c.argTypes.toList with
        | [t, t'] => (match Nat.beq t t' with
          | true => some (v, nx', .app M nx t d s v M' nx')
          | false => none)
        | _ => none)
      | .value f, some as => (match getv G T f with
        | some fv => (match acall X.bare fv as M nx with
          | some (.enter f as) => some (v, nx', .call f as M nx v M' nx')
          | _ => none)
        | none => none)
      | _, _ => none))
  | _ => none
theorem omem_ok {P : Program} {X : Exts} {F : Known} {call : Fr → Option Res} {G : Nat} {dk : Bool} {rnd : Option Nat} {T : Tr Value} {ds : List Deferred} {up : FrameMode} {M M' : Tr Blk} {nx nx' nx2 : Nat} {op : Op} {v v2 : Value} {o : Ob}
    (h : omem P X G T M nx op v M' nx' = some (v2, nx2, o)) (ho : o.holds P F) : vop call P (X.knows F) G dk rnd T ds up M nx op = some (.ok v2 ds up M' nx2) := by
  unfold omem at h
  split at h
  · split at h <;> simp at h
    obtain ⟨rfl, rfl, rfl⟩ := h
    simp_all [Ob.holds, vop, aquiet, apure, aeff]
  · split at h <;> simp at h
    obtain ⟨rfl, rfl, rfl⟩ := h
    simp_all [Ob.holds, vop, aquiet]
  · split at h
    · cases h
    · rename_i hq
      split at h
      · split at h
        · split at h
          · simp at h
            obtain ⟨rfl, rfl, rfl⟩ := h
            simp_all [Ob.holds, vop, aeff]
          · cases h
        · cases h
      · split at h
        · split at h
          · rename_i _ f1 as1 _ _ _ fv hfv _ f' as' hac
            simp at h
            obtain ⟨rfl, rfl, rfl⟩ := h
            have hac' : acall (X.knows F) fv as1 M nx = some (.enter f' as') := hac
            have hs : (X.knows F).sm f' as' M nx = some (v, M', nx') := ho
            have hpf : (X.knows F).pf f' = none := rfl
            simp only [vop, hq]
            simp_all [aeff]
          · cases h
        · cases h
      · cases h
  · cases h

noncomputable def oop (P : Program) (X : Exts) (G : Nat) (dk : Bool) (rnd : Option Nat) (T : Tr Value) (ds : List Deferred) (up : FrameMode) (M : Tr Blk) (nx : Nat) (op : Op) : Ans → Option (Value × List Deferred × FrameMode × Tr Blk × Nat × List Ob)
  | .go => (match vop (fun _ => none) P X.bare G dk rnd T ds up M nx op with
    | some (.ok v ds' up' M' nx') => some (v, ds', up', M', nx', [])
    | _ => none)
  | .val v => (match oval P G T M op v with
    | some o => some (v, ds, up, M, nx, [o])
    | none => none)
  | .mem v M' nx' => (match omem P X G T M nx op v M' nx' with
    | some (v2, nx2, o) => some (v2, ds, up, M', nx2, [o])
    | none => none)
  | .pure v => (match omem P X G T M nx op v M nx with
    | some (v2, nx2, o) => some (v2, ds, up, M, nx2, [o])
    | none => none)
theorem oop_ok {P : Program} {X : Exts} {F : Known} {call : Fr → Option Res} {G : Nat} {dk : Bool} {rnd : Option Nat} {T : Tr Value} {ds ds' : List Deferred} {up up' : FrameMode} {M M' : Tr Blk} {nx nx' : Nat} {op : Op} {a : Ans} {v : Value} {os : List Ob}
    (h : oop P X G dk rnd T ds up M nx op a = some (v, ds', up', M', nx', os)) (ho : Obs P F os) : vop call P (X.knows F) G dk rnd T ds up M nx op = some (.ok v ds' up' M' nx') := by
  cases a with
  | go =>
    simp only [oop] at h
    split at h
    · rename_i v' ds2 up2 M2 nx2 hv
      simp at h
      obtain ⟨rfl, rfl, rfl, rfl, rfl, rfl⟩ := h
      exact vop_knows hv
    · cases h
  | val u =>
    simp only [oop] at h
    split at h
    · rename_i o hv
      simp at h
      obtain ⟨rfl, rfl, rfl, rfl, rfl, rfl⟩ := h
      have := oval_ok (F := F) hv ho nx
      simp only [vop, this]
    · cases h
  | mem u M2 nx2 =>
    simp only [oop] at h
    split at h
    · rename_i v2 nx3 o hv
      simp at h
      obtain ⟨rfl, rfl, rfl, rfl, rfl, rfl⟩ := h
      exact omem_ok hv ho
    · cases h
  | pure u =>
    simp only [oop] at h
    split at h
    · rename_i v2 nx3 o hv
      simp at h
      obtain ⟨rfl, rfl, rfl, rfl, rfl, rfl⟩ := h
      exact omem_ok hv ho
    · cases h

/-- A temporary is put away, as it is. -/
noncomputable def putN (nt : Nat) (T : Tr Value) (dst : Option Tmp) (v : Value) : Option (Tr Value) := match dst with
  | none => some T
  | some d => bif Nat.blt d nt then some (T.set d v) else none
theorem putN_eq (nt : Nat) (T : Tr Value) (dst : Option Tmp) (v : Value) : putN nt T dst v = putT nt T dst v := by
  unfold putN putT
  cases dst with
  | none => rfl
  | some d => simp only [forced_eq]

noncomputable def oops (P : Program) (X : Exts) (G : Nat) (dk : Bool) (rnd : Option Nat) (nt : Nat) (ops : Array Oper) : List Oper → List Ans → Tr Value → List Deferred → FrameMode → Tr Blk → Nat → Option (Tr Value × List Deferred × FrameMode × Tr Blk × Nat × List Ob × List Ans)
  | [], as, T, ds, up, M, nx => some (T, ds, up, M, nx, [], as)
  | o :: l, as, T, ds, up, M, nx => (match wantedA ops o T with
    | some true => (match oop P X G dk rnd T ds up M nx o.op (as.headD .go) with
      | some (v, ds', up', M', nx', os) => (match putN nt T o.dst v with
        | some T' => (match oops P X G dk rnd nt ops l as.tail T' ds' up' M' nx' with
          | some (T2, ds2, up2, M2, nx2, os2, as2) => some (T2, ds2, up2, M2, nx2, os ++ os2, as2)
          | none => none)
        | none => none)
      | none => none)
    | some false => (match putN nt T o.dst undef with
      | some T' => oops P X G dk rnd nt ops l as T' ds up M nx
      | none => none)
    | none => none)
theorem oops_ok {P : Program} {X : Exts} {F : Known} {call : Fr → Option Res} {G : Nat} {dk : Bool} {rnd : Option Nat} {nt : Nat} {ops : Array Oper} : ∀ (l : List Oper) {as as2 : List Ans} {T T2 : Tr Value} {ds ds2 : List Deferred} {up up2 : FrameMode} {M M2 : Tr Blk} {nx nx2 : Nat} {os : List Ob},
    oops P X G dk rnd nt ops l as T ds up M nx = some (T2, ds2, up2, M2, nx2, os, as2) → Obs P F os → vops call P (X.knows F) G dk rnd nt ops l T ds up M nx = some (.ok T2 ds2 up2 M2 nx2)
  | [], as, as2, T, T2, ds, ds2, up, up2, M, M2, nx, nx2, os, h, _ => by
    simp only [oops, Option.some.injEq, Prod.mk.injEq] at h
    obtain ⟨rfl, rfl, rfl, rfl, rfl, _, _⟩ := h
    rfl
  | o :: l, as, as2, T, T2, ds, ds2, up, up2, M, M2, nx, nx2, os, h, ho => by
    unfold oops at h
    rw [vops_cons]
    split at h
    · rename_i hw
      simp only [hw]
      split at h
      · rename_i v ds' up' M' nx' os1 hv
        split at h
        · rename_i T' ht
          rw [putN_eq] at ht
          split at h
          · rename_i T3 ds3 up3 M3 nx3 os3 as3 hr
            simp at h
            obtain ⟨rfl, rfl, rfl, rfl, rfl, rfl, rfl⟩ := h
            obtain ⟨h1, h2⟩ := Obs.append ho
            rw [oop_ok (call := call) hv h1]
            simp only [ht]
            exact oops_ok l hr h2
          · cases h
        · cases h
      · cases h
    · rename_i hw
      simp only [hw]
      split at h
      · rename_i T' ht
        rw [putN_eq] at ht
        simp only [ht]
        exact oops_ok l h ho
      · cases h
    · cases h

/-! ### regions that draw their order -/
noncomputable def oquiet (P : Program) (G : Nat) (T : Tr Value) (M : Tr Blk) (nx : Nat) (op : Op) : Ans → Option (Value × Tr Blk × Nat × List Ob)
  | .go => (match aquiet P G T M nx op with
    | some (v, M', nx') => some (v, M', nx', [])
    | none => none)
  | .val v => (match oval P G T M op v with
    | some o => some (v, M, nx, [o])
    | none => none)
  | .mem v M' nx' => (match op with
    | .makeSlice t l c => (match getv G T l, getv G T c with
      | some a, some b => some (v, M', nx', [.make M nx t a b v M' nx'])
      | _, _ => none)
    | _ => none)
  | .pure _ => none
theorem oquiet_ok {P : Program} {F : Known} {G : Nat} {T : Tr Value} {M M' : Tr Blk} {nx nx' : Nat} {op : Op} {a : Ans} {v : Value} {os : List Ob} (h : oquiet P G T M nx op a = some (v, M', nx', os)) (ho : Obs P F os) : aquiet P G T M nx op = some (v, M', nx') := by
  cases a with
  | go =>
    simp only [oquiet] at h
    split at h
    · rename_i hq; simp at h; obtain ⟨rfl, rfl, rfl, rfl⟩ := h; exact hq
    · cases h
  | val u =>
    simp only [oquiet] at h
    split at h
    · rename_i o hv; simp at h; obtain ⟨rfl, rfl, rfl, rfl⟩ := h; exact oval_ok (F := F) hv ho nx
    · cases h
  | mem u M2 nx2 =>
    simp only [oquiet] at h
    split at h
    · split at h
      · simp at h
        obtain ⟨rfl, rfl, rfl, rfl⟩ := h
        simp_all [Obs, Ob.holds, aquiet]
      · cases h
    · cases h
  | pure u => simp [oquiet] at h

/-- A look at frozen memory: it sees the same for ever. -/
noncomputable def steady (G : Nat) (T : Tr Value) : Op → Bool
  | .load _ a => (match getv G T a with
    | some (.func _ _ _) => true
    | _ => false)
  | _ => false
theorem steady_all {P : Program} {G : Nat} {T : Tr Value} {M : Tr Blk} {nx : Nat} {op : Op} {v : Value} (h : steady G T op = true) (hq : aquiet P G T M nx op = some (v, M, nx)) (M2 : Tr Blk) (n2 : Nat) : aquiet P G T M2 n2 op = some (v, M2, n2) := by
  unfold steady at h
  split at h
  · rename_i t a
    split at h
    · rename_i f xs ys hv
      simp only [aquiet, hv] at hq ⊢
      have e : aLoad P M2 t (.func f xs ys) = aLoad P M t (.func f xs ys) := rfl
      rw [e]
      split at hq
      · rename_i r hr
        simp at hq; subst hq; rfl
      · cases hq
    · cases h
  · cases h
/-- A watch: its operation; is it so for sure; where it looks, and what is to be seen there. -/
inductive Seen where
  | load (t : TypeId) (p v : Value)
  | new (n : Nat) (vs : List Value)
  | none
abbrev WO := Nat × Bool × Seen
/-- What is to be shown again. -/
def Seen.ob : Seen → Tr Blk → Option Ob
  | .load t p v, M => some (.load M t p v)
  | .new n vs, M => some (.kept M n vs)
  | .none, _ => Option.none
def WO.stale (w : WO) : WO := (w.1, false, w.2.2)
/-- What is to be shown again of the watches. -/
noncomputable def wchk (lm : Nat) (M : Tr Blk) : List WO → Option (List Ob)
  | [] => some []
  | (i, b, l) :: r => (match b || Nat.testBit lm i with
    | true => wchk lm M r
    | false => (match l.ob M with
      | some o => (match wchk lm M r with
        | some os => some (o :: os)
        | none => none)
      | none => none))
/-- Where a look looks. -/
noncomputable def seen (G : Nat) (T : Tr Value) (v : Value) : Op → Seen
  | .load t a => (match getv G T a with
    | some p => .load t p v
    | none => .none)
  | _ => .none
noncomputable def odraw (P : Program) (X : Exts) (G : Nat) (dk : Bool) (rnd : Option Nat) (nt : Nat) (ops : Array Oper) : List PStep → List Ans → Tr Value → List Deferred → FrameMode → Tr Blk → Nat → List WO → Nat → Option (Tr Value × List Deferred × FrameMode × Tr Blk × Nat × List Ob × List Ans)
  | [], as, T, ds, up, M, nx, ws, lm => (match wchk lm M ws with
    | some os => some (T, ds, up, M, nx, os, as)
    | none => none)
  | s :: rest, as, T, ds, up, M, nx, ws, lm => (match ops[s.i]? with
    | none => none
    | some o => (match wantedA ops o T with
      | none => none
      | some false => (match putN nt T o.dst undef with
        | some T' => odraw P X G dk rnd nt ops rest as T' ds up M nx ws lm
        | none => none)
      | some true => (match Nat.beq s.kind 3 with
        | false => (match Nat.beq (opKind o.op) s.kind, oquiet P G (restr (o.looksAt ops) T) M nx o.op (as.headD .go) with
          | true, some (v, M', nx', os) => (match putN nt T o.dst v with
            | some T' => (match s.kind with
              | 0 => (match odraw P X G dk rnd nt ops rest as.tail T' ds up M nx ws lm with
                | some (T2, ds2, up2, M2, nx2, os2, as2) => some (T2, ds2, up2, M2, nx2, os ++ os2, as2)
                | none => none)
              | 1 => (match odraw P X G dk rnd nt ops rest as.tail T' ds up M nx (match steady G (restr (o.looksAt ops) T) o.op with
                  | true => ws
                  | false => (s.i, true, seen G (restr (o.looksAt ops) T) v o.op) :: ws) lm with
                | some (T2, ds2, up2, M2, nx2, os2, as2) => some (T2, ds2, up2, M2, nx2, os ++ (.nice v :: os2), as2)
                | none => none)
              | _ => (match M'.get nx with
                | some (.cells false vs) => (match odraw P X G dk rnd nt ops rest as.tail T' ds up M' nx' ((s.i, true, .new nx vs) :: ws.map WO.stale) lm with
                  | some (T2, ds2, up2, M2, nx2, os2, as2) => some (T2, ds2, up2, M2, nx2, os ++ (.niceL vs :: os2), as2)
                  | none => none)
                | _ => none))
            | none => none)
          | _, _ => none)
        | true => (match wchk lm M ws with
          | none => none
          | some os0 => (match oop P X G dk rnd (restr (o.looksAt ops) T) ds up M nx o.op (as.headD .go) with
            | some (v, ds', up', M', nx', os) => (match putN nt T o.dst v with
              | some T' => (match odraw P X G dk rnd nt ops rest as.tail T' ds' up' M' nx' (match as.headD .go with
                  | .pure _ => ws
                  | _ => ws.map WO.stale) s.mask with
                | some (T2, ds2, up2, M2, nx2, os2, as2) => some (T2, ds2, up2, M2, nx2, os0 ++ (os ++ os2), as2)
                | none => none)
              | none => none)
            | none => none)))))

/-- What is watched, and what of it is so for sure. -/
inductive WR (P : Program) (G : Nat) (M : Tr Blk) : List Watch → List WO → Prop
  | nil : WR P G M [] []
  | firm {w : Watch} {ws : List Watch} {os : List WO} (h : ∀ M2 lm, watchOk P G lm M2 w = true) (t : WR P G M ws os) : WR P G M (w :: ws) os
  | cons {w : Watch} {ws : List Watch} {i : Nat} {b : Bool} {l : Seen} {os : List WO} (hm' : ∀ M2 lm, Nat.testBit lm i = true → watchOk P G lm M2 w = true) (hb : b = true → ∀ lm, watchOk P G lm M w = true)
      (hl : ∀ M2 lm o (F : Known), l.ob M2 = some o → o.holds P F → watchOk P G lm M2 w = true) (t : WR P G M ws os) : WR P G M (w :: ws) ((i, b, l) :: os)
theorem WR.all {P : Program} {G : Nat} {M : Tr Blk} {lm : Nat} {F : Known} : ∀ {ws : List Watch} {os : List WO} {obs : List Ob}, WR P G M ws os → wchk lm M os = some obs → Obs P F obs → ws.all (watchOk P G lm M) = true
  | _, _, _, .nil, _, _ => rfl
  | _, _, _, .firm hw t, h, ho => by
    simp only [List.all_cons, Bool.and_eq_true]
    exact ⟨hw _ _, WR.all t h ho⟩
  | _, _, _, .cons hm' hb hl t, h, ho => by
    simp only [List.all_cons, Bool.and_eq_true]
    unfold wchk at h
    split at h
    · rename_i hc
      refine ⟨?_, WR.all t h ho⟩
      rw [Bool.or_eq_true] at hc
      rcases hc with e | e
      · exact hb e lm
      · exact hm' M lm e
    · split at h
      · rename_i o0 hob
        split at h
        · rename_i os2 h2
          simp at h; subst h
          obtain ⟨h3, h4⟩ := Obs.cons ho
          exact ⟨hl M lm o0 F hob h3, WR.all t h2 h4⟩
        · cases h
      · cases h
theorem WR.stale {P : Program} {G : Nat} {M M2 : Tr Blk} : ∀ {ws : List Watch} {os : List WO}, WR P G M ws os → WR P G M2 ws (os.map WO.stale)
  | _, _, .nil => .nil
  | _, _, .firm hw t => .firm hw (WR.stale t)
  | _, _, .cons hm' _ hl t => .cons hm' (fun e => by cases e) hl (WR.stale t)

theorem odraw_ok {P : Program} {X : Exts} {F : Known} {call : Fr → Option Res} {G : Nat} {dk : Bool} {rnd : Option Nat} {nt : Nat} {ops : Array Oper} {T0 : Tr Value} : ∀ (l : List PStep) {as as2 : List Ans} {T T2 : Tr Value} {ds ds2 : List Deferred} {up up2 : FrameMode} {M M2 : Tr Blk} {nx nx2 : Nat} {os : List Ob} {ws : List Watch} {wo : List WO} {lm : Nat},
    odraw P X G dk rnd nt ops l as T ds up M nx wo lm = some (T2, ds2, up2, M2, nx2, os, as2) → Obs P F os → WR P G M ws wo → vdraw call P (X.knows F) G dk rnd nt ops T0 l T ds up M nx ws lm = some (.ok T2 ds2 up2 M2 nx2)
  | [], as, as2, T, T2, ds, ds2, up, up2, M, M2, nx, nx2, os, ws, wo, lm, h, ho, hw => by
    unfold odraw at h
    split at h
    · rename_i os' hc
      simp only [Option.some.injEq, Prod.mk.injEq] at h
      obtain ⟨rfl, rfl, rfl, rfl, rfl, rfl, _⟩ := h
      unfold vdraw
      rw [hw.all hc ho]; rfl
    · cases h
  | s :: rest, as, as2, T, T2, ds, ds2, up, up2, M, M2, nx, nx2, os, ws, wo, lm, h, ho, hw => by
    unfold odraw at h
    unfold vdraw
    split at h
    · cases h
    · rename_i o hoi
      simp only [hoi]
      split at h
      · cases h
      · rename_i hwant
        simp only [hwant]
        split at h
        · rename_i T' ht
          rw [putN_eq] at ht
          simp only [ht]
          exact odraw_ok rest h ho hw
        · cases h
      · rename_i hwant
        simp only [hwant]
        split at h
        · rename_i hk3
          simp only [hk3]
          split at h
          · rename_i v M' nx' os1 hk hq
            have hk := Nat.eq_of_beq_eq_true hk
            split at h
            · rename_i T' ht
              rw [putN_eq] at ht
              split at h
              · rename_i hs0
                split at h
                · rename_i T3 ds3 up3 M3 nx3 os3 as3 hr
                  simp at h
                  obtain ⟨rfl, rfl, rfl, rfl, rfl, rfl, rfl⟩ := h
                  obtain ⟨h1, h2⟩ := Obs.append ho
                  have hqq := oquiet_ok hq h1
                  obtain ⟨rfl, rfl, _⟩ := aquiet_k0 (by omega) hqq
                  simp only [hqq, ht, hs0, addWatch]
                  exact odraw_ok rest hr h2 hw
                · cases h
              · rename_i hs1
                split at h
                · rename_i T3 ds3 up3 M3 nx3 os3 as3 hr
                  simp at h
                  obtain ⟨rfl, rfl, rfl, rfl, rfl, rfl, rfl⟩ := h
                  obtain ⟨h1, h2⟩ := Obs.append ho
                  obtain ⟨h3, h4⟩ := Obs.cons h2
                  have hqq := oquiet_ok hq h1
                  obtain ⟨rfl, rfl, hall⟩ := aquiet_k1 (by omega) hqq
                  simp only [hqq, ht, hs1, addWatch]
                  have h3' : veq 1000000 v v = true := h3
                  split at hr
                  · rename_i hst
                    exact odraw_ok rest hr h4 (.firm (fun M2 lm => by simp [watchOk, steady_all hst hqq M2 0, h3']) hw)
                  · refine odraw_ok rest hr h4 (.cons (fun M2 lm e => by simp [watchOk, e]) (fun _ lm => ?_) (fun M2 lm o' F' hl hld => ?_) hw)
                    · simp [watchOk, hall 0, h3']
                    · unfold seen at hl
                      split at hl
                      · rename_i t1 a1 hop
                        split at hl
                        · rename_i p1 hp1
                          simp only [Seen.ob, Option.some.injEq] at hl
                          subst hl
                          have hld' : aLoad P M2 t1 p1 = some v := hld
                          simp [watchOk, hop, aquiet, hp1, hld', h3']
                        · cases hl
                      · cases hl
                · cases h
              · rename_i n0 n1
                split at h
                · rename_i vs hg
                  split at h
                  · rename_i T3 ds3 up3 M3 nx3 os3 as3 hr
                    simp at h
                    obtain ⟨rfl, rfl, rfl, rfl, rfl, rfl, rfl⟩ := h
                    obtain ⟨h1, h2⟩ := Obs.append ho
                    obtain ⟨h3, h4⟩ := Obs.cons h2
                    have hqq := oquiet_ok hq h1
                    have haw : addWatch s.kind s.i o.op (restr (o.looksAt ops) T) v M' nx ws = some (.new s.i nx vs :: ws) := by
                      unfold addWatch
                      split
                      · rename_i e; exact absurd e n0
                      · rename_i e; exact absurd e n1
                      · simp only [hg]
                    simp only [hqq, ht, haw]
                    refine odraw_ok rest hr h4 (.cons (fun M2 lm e => by simp [watchOk, e]) (fun _ lm => ?_) (fun M2 lm o' F' hl hld => ?_) hw.stale)
                    · have h3' : veqL 1000000 vs vs = true := h3
                      simp [watchOk, hg, h3']
                    · simp only [Seen.ob, Option.some.injEq] at hl
                      subst hl
                      have hld' : (match M2.get nx with
                        | some (.cells false us) => veqL 1000000 vs us
                        | _ => false) = true := hld
                      simp only [watchOk, Bool.or_eq_true]
                      exact .inr hld'
                  · cases h
                · cases h
            · cases h
          · cases h
        · rename_i hk3
          simp only [hk3]
          split at h
          · cases h
          · rename_i os0 hws
            split at h
            · rename_i v ds' up' M' nx' os1 hv
              split at h
              · rename_i T' ht
                rw [putN_eq] at ht
                split at h
                · rename_i T3 ds3 up3 M3 nx3 os3 as3 hr
                  simp at h
                  obtain ⟨rfl, rfl, rfl, rfl, rfl, rfl, rfl⟩ := h
                  obtain ⟨h0, h12⟩ := Obs.append ho
                  obtain ⟨h1, h2⟩ := Obs.append h12
                  rw [hw.all hws h0]
                  rw [oop_ok (call := call) hv h1]
                  simp only [ht]
                  refine odraw_ok rest hr h2 ?_
                  cases ha : as.headD .go with
                  | pure u =>
                    rw [ha] at hv
                    simp only [oop] at hv
                    split at hv
                    · simp at hv
                      obtain ⟨_, _, _, rfl, _, _⟩ := hv
                      exact hw
                    · cases hv
                  | go => exact hw.stale
                  | val u => exact hw.stale
                  | mem u M5 n5 => exact hw.stale
                · cases h
              · cases h
            · cases h
end Go.Proofs.YtihloomkgpflmaaGreatDoor.Vm

namespace Go.Proofs.YtihloomkgpflmaaGreatDoor.Vm

noncomputable def ostep (P : Program) (X : Exts) (G : Nat) (fr : Fr) (as : List Ans) : Option (Fr × List Ob × List Ans) := match fr.mode, fr.todo with
  | .run, .code (.region _ ops false) :: k => (match oops P X G fr.dk fr.rnd fr.nt ops ops.toList as fr.T fr.ds fr.up fr.M fr.nx with
    | some (T, ds, up, M, nx, os, as2) => some ({ fr with T := T, ds := ds, up := up, M := M, nx := nx, todo := k }, os, as2)
    | none => none)
  | .run, .code (.region _ ops true) :: k => (match plan ops, dstsApart ops.toList with
    | some pl, true => (match odraw P X G fr.dk fr.rnd fr.nt ops pl as fr.T fr.ds fr.up fr.M fr.nx [] 0 with
      | some (T, ds, up, M, nx, os, as2) => some ({ fr with T := T, ds := ds, up := up, M := M, nx := nx, todo := k }, os, as2)
      | none => none)
    | _, _ => none)
  | _, _ => (match fstep (fun _ => none) P X.bare G fr with
    | .cont fr' => some (fr', [], as)
    | _ => none)
noncomputable def orun (P : Program) (X : Exts) (G : Nat) : Nat → Fr → List Ans → Option (Fr × List Ob)
  | 0, fr, _ => some (fr, [])
  | n + 1, fr, as => (match ostep P X G fr as with
    | some (fr', os, as2) => (match orun P X G n fr' as2 with
      | some (fr2, os2) => some (fr2, os ++ os2)
      | none => none)
    | none => none)

/-- What all walks over a program take with them. -/
structure Env (P : Program) (G : Nat) (tabs : List (Nat × List Value)) (X : Exts) (F : Known) : Prop where
  mixed : P.follows .mixedOrders = true
  fok : FOk P
  xok : ∀ w0, Laid G tabs w0 → XOk P G w0 X
  known : F.Ok P G tabs

theorem XOk.bare {P : Program} {G : Nat} {w0 : World} {X : Exts} (h : XOk P G w0 X) : XOk P G w0 X.bare := by
  refine ⟨h.1, ?_, ?_⟩
  · intro f as M nx v M' nx' h; cases h
  · intro f e as v h; cases h

section
variable {P : Program} {G : Nat} {tabs : List (Nat × List Value)} {X : Exts} {F : Known}

theorem ostep_ok (e : Env P G tabs X F) {fr fr' : Fr} {as as2 : List Ans} {os : List Ob} (h : ostep P X G fr as = some (fr', os, as2)) (ho : Obs P F os) (w0 : World) (hl : Laid G tabs w0) : Prog P G w0 fr fr' := by
  unfold ostep at h
  split at h
  · rename_i id ops k hm ht
    split at h
    · rename_i T ds up M nx os' as' hr
      simp at h
      obtain ⟨rfl, rfl, rfl⟩ := h
      have hx := (e.xok w0 hl).knows hl e.known
      refine (fstep_sound (call := fun _ => none) hx e.fok (draws e.mixed hx e.fok) (fun _ _ h => by cases h) fr).1 _ ?_
      have := oops_ok (call := fun _ => none) (F := F) ops.toList hr ho
      simp only [fstep, hm, ht, this, contRR]
    · cases h
  · rename_i id ops k hm ht
    split at h
    · rename_i pl hpl hda
      split at h
      · rename_i T ds up M nx os' as' hr
        simp at h
        obtain ⟨rfl, rfl, rfl⟩ := h
        have hx := (e.xok w0 hl).knows hl e.known
        refine (fstep_sound (call := fun _ => none) hx e.fok (draws e.mixed hx e.fok) (fun _ _ h => by cases h) fr).1 _ ?_
        have := odraw_ok (call := fun _ => none) (F := F) (T0 := fr.T) pl hr ho .nil
        simp only [fstep, hm, ht, hpl, hda, this, contRR]
      · cases h
    · cases h
  · split at h
    · rename_i fr2 hs
      simp at h
      obtain ⟨rfl, rfl, rfl⟩ := h
      have hx := (e.xok w0 hl).bare
      exact (fstep_sound (call := fun _ => none) hx e.fok (draws e.mixed hx e.fok) (fun _ _ h => by cases h) fr).1 _ hs
    · cases h

theorem PT.orun (e : Env P G tabs X F) : ∀ (n : Nat) {fr fr' : Fr} {as : List Ans} {os : List Ob} {v : Value}, orun P X G n fr as = some (fr', os) → Obs P F os → PT P G tabs fr' v → PT P G tabs fr v
  | 0, fr, fr', as, os, v, h, _, g => by
    simp only [Vm.orun, Option.some.injEq, Prod.mk.injEq] at h
    obtain ⟨rfl, _⟩ := h
    exact g
  | n + 1, fr, fr', as, os, v, h, ho, g => by
    unfold Vm.orun at h
    split at h
    · rename_i fr1 os1 as1 hs
      split at h
      · rename_i fr2 os2 hr
        simp at h
        obtain ⟨rfl, rfl⟩ := h
        obtain ⟨h1, h2⟩ := Obs.append ho
        exact PT.prog (fun w0 hl => ostep_ok e hs h1 w0 hl) (PT.orun e n hr h2 g)
      · cases h
    · cases h

/-- The end. -/
theorem PT.ret (e : Env P G tabs X F) {fr : Fr} {v0 v : Value} {up : FrameMode} {M : Tr Blk} {nx : Nat} (h : fstep (fun _ => none) P X.bare G fr = .done (.ret v0 up M nx)) (hdk : fr.dk = false) (hrnd : fr.rnd = none) (hv : frzV 12 M v0 = v) (hn : Nl v) : PT P G tabs fr v := by
  subst hv
  refine PT.done (up := up) (nx := nx) (fun w0 hl => ?_) hdk hrnd (frz_of M .nil 12 v0 hn (fun n _ x vs _ _ _ x2 h2 => by simp [Tr.get_nil] at h2))
  have hx := (e.xok w0 hl).bare
  exact (fstep_sound (call := fun _ => none) hx e.fok (draws e.mixed hx e.fok) (fun _ _ h => by cases h) fr).2 _ h

/-- .. with an answer that is frozen in some other way. -/
theorem PT.ret' (e : Env P G tabs X F) {fr : Fr} {v0 v : Value} {up : FrameMode} {M : Tr Blk} {nx : Nat} (h : fstep (fun _ => none) P X.bare G fr = .done (.ret v0 up M nx)) (hdk : fr.dk = false) (hrnd : fr.rnd = none) (hv : Frz M .nil v0 v) : PT P G tabs fr v := by
  refine PT.done (up := up) (nx := nx) (fun w0 hl => ?_) hdk hrnd hv
  have hx := (e.xok w0 hl).bare
  exact (fstep_sound (call := fun _ => none) hx e.fok (draws e.mixed hx e.fok) (fun _ _ h => by cases h) fr).2 _ h

/-- The whole call. -/
theorem PureOk.of {f : FuncId} {as : List Value} {fr : Fr} {v : Value} (hna : ∀ x ∈ as, Nl x) (hnv : Nl v) (hfr : enterFr P f as false .run (Mof tabs) G = some fr) (h : PT P G tabs fr v) : PureOk P G tabs f as v := by
  refine ⟨hna, hnv, fr, hfr, h.ps ?_⟩
  unfold enterFr at hfr
  split at hfr
  · split at hfr
    · simp at hfr; subst hfr; rfl
    · cases hfr
  · cases hfr
end

theorem Frz.cut (M M2 : Tr Blk) {n : Nat} {cs : List Value} (k : Nat) : Frz M M2 (mkDat n cs) (mkDat n (cs.take k)) := .dat (k := k) FrzL.same

/-- Some temporaries. -/
noncomputable def mkT : List (Nat × Value) → Tr Value
  | [] => .nil
  | (t, v) :: r => (mkT r).set t v
theorem mkT_get : ∀ (l : List (Nat × Value)) (t : Nat) (v : Value), (mkT l).get t = some v → (t, v) ∈ l
  | [], t, v, h => by simp [mkT, Tr.get_nil] at h
  | (s, u) :: r, t, v, h => by
    unfold mkT at h
    rw [Tr.get_set] at h
    split at h
    · rename_i e; simp at h; subst h; subst e; exact List.mem_cons_self
    · exact List.mem_cons_of_mem _ (mkT_get r t v h)
noncomputable def mkM : List (Nat × Blk) → Tr Blk
  | [] => .nil
  | (t, v) :: r => (mkM r).set t v
theorem mkM_get : ∀ (l : List (Nat × Blk)) (t : Nat) (v : Blk), (mkM l).get t = some v → (t, v) ∈ l
  | [], t, v, h => by simp [mkM, Tr.get_nil] at h
  | (s, u) :: r, t, v, h => by
    unfold mkM at h
    rw [Tr.get_set] at h
    split at h
    · rename_i e; simp at h; subst h; subst e; exact List.mem_cons_self
    · exact List.mem_cons_of_mem _ (mkM_get r t v h)
/-- Of a trie some places. -/
noncomputable def pickT {α : Type} (T : Tr α) : List Nat → Option (List (Nat × α))
  | [] => some []
  | t :: r => (match T.get t with
    | some v => (match pickT T r with
      | some l => some ((t, v) :: l)
      | none => none)
    | none => none)
theorem pickT_mem {α : Type} {T : Tr α} : ∀ {ts : List Nat} {l : List (Nat × α)}, pickT T ts = some l → ∀ t v, (t, v) ∈ l → T.get t = some v
  | [], l, h, t, v, hm => by simp [pickT] at h; subst h; cases hm
  | s :: r, l, h, t, v, hm => by
    unfold pickT at h
    split at h
    · rename_i u hu
      split at h
      · rename_i l' hl
        simp at h; subst h
        rcases List.mem_cons.1 hm with e | hm
        · cases e; exact hu
        · exact pickT_mem hl t v hm
      · cases h
    · cases h
/-- Of a frame some temporaries and some blocks; the rest is forgotten. -/
noncomputable def Fr.pick (fr : Fr) (ts ms : List Nat) : Option Fr := match pickT fr.T ts with
  | some l => (match pickT fr.M ms with
    | some m => some { fr with T := mkT l, M := mkM m }
    | none => none)
  | none => none
def Fr.zero : Fr := { fn := 0, nt := 0, T := .nil, todo := [], ds := [], mode := .run, dk := false, rnd := none, up := .run, M := .nil, nx := 0 }
/-- A function's frame at its door. -/
noncomputable def door (P : Program) (f : FuncId) (vs : List Value) (M : Tr Blk) (nx : Nat) : Fr := (enterFr P f vs false .run M nx).getD Fr.zero
/-- The frame some steps on. -/
noncomputable def onto (P : Program) (X : Exts) (G n : Nat) (fr : Fr) (aa : List Ans) : Fr := (orun P X G n fr aa).elim Fr.zero (·.1)
/-- Some steps with told answers; of what comes some is kept. -/
noncomputable def walk (P : Program) (X : Exts) (G n : Nat) (fr : Fr) (aa : List Ans) (ts ms : List Nat) : Option (Fr × List Ob) := match orun P X G n fr aa with
  | some (fr', os) => (match fr'.pick ts ms with
    | some fr2 => some (fr2, os)
    | none => none)
  | none => none

theorem PT.walk {P : Program} {G : Nat} {tabs : List (Nat × List Value)} {X : Exts} {F : Known} (e : Env P G tabs X F) {n : Nat} {fr fr2 : Fr} {aa : List Ans} {ts ms : List Nat} {os : List Ob} {v : Value} (h : walk P X G n fr aa ts ms = some (fr2, os)) (ho : Obs P F os) (g : PT P G tabs fr2 v) : PT P G tabs fr v := by
  unfold Vm.walk at h
  split at h
  · rename_i fr' os' hr
    split at h
    · rename_i fr3 hp
      simp at h
      obtain ⟨rfl, rfl⟩ := h
      refine PT.orun e n hr ho ?_
      unfold Fr.pick at hp
      split at hp
      · rename_i l hl
        split at hp
        · rename_i m hm
          simp at hp; subst hp
          exact PT.weaken (fun t v' hv => ⟨v', pickT_mem hl t v' (mkT_get l t v' hv), .same⟩) (fun k x2 hx => ⟨x2, pickT_mem hm k x2 (mkM_get m k x2 hx), .inl rfl⟩) g
        · cases hp
      · cases hp
    · cases h
  · cases h

/-- Some steps with told answers, to the end: the answer, what is kept of the blocks. -/
noncomputable def ends (P : Program) (X : Exts) (G n : Nat) (fr : Fr) (aa : List Ans) (ts ms : List Nat) : Option (Value × Tr Blk × List Ob) := match walk P X G n fr aa ts ms with
  | some (fr2, os) => (match fr2.dk, fr2.rnd, fstep (fun _ => none) P X.bare G fr2 with
    | false, none, .done (.ret v _ M _) => some (v, M, os)
    | _, _, _ => none)
  | none => none
theorem PT.ends {P : Program} {G : Nat} {tabs : List (Nat × List Value)} {X : Exts} {F : Known} (e : Env P G tabs X F) {n : Nat} {fr : Fr} {aa : List Ans} {ts ms : List Nat} {os : List Ob} {v0 v : Value} {M : Tr Blk} (h : ends P X G n fr aa ts ms = some (v0, M, os)) (ho : Obs P F os) (hf : Frz M .nil v0 v) : PT P G tabs fr v := by
  unfold Vm.ends at h
  split at h
  · rename_i fr2 os' hw
    split at h
    · rename_i hdk hrnd hd
      simp at h
      obtain ⟨rfl, rfl, rfl⟩ := h
      exact PT.walk e hw ho (PT.ret' e hd hdk hrnd hf)
    · cases h
  · cases h
/-- .. the answer by its contents. -/
theorem PT.endsV {P : Program} {G : Nat} {tabs : List (Nat × List Value)} {X : Exts} {F : Known} (e : Env P G tabs X F) {n : Nat} {fr : Fr} {aa : List Ans} {ts ms : List Nat} {os : List Ob} {v0 v : Value} {M : Tr Blk} (h : Vm.ends P X G n fr aa ts ms = some (v0, M, os)) (ho : Obs P F os) (hv : frzV 12 M v0 = v) (hn : Nl v) : PT P G tabs fr v := by
  subst hv
  exact PT.ends e h ho (frz_of M .nil 12 v0 hn (fun n _ x vs _ _ _ x2 h2 => by simp [Tr.get_nil] at h2))

/-- The whole call, where nothing is read of what the row lays. -/
theorem PureOk.of' {P : Program} {G : Nat} {tabs : List (Nat × List Value)} {f : FuncId} {as : List Value} {v : Value} (hna : ∀ x ∈ as, Nl x) (hnv : Nl v) (hfr : enterFr P f as false .run (Mof tabs) G = some { door P f as .nil G with M := Mof tabs }) (h : PT P G tabs (door P f as .nil G) v) : PureOk P G tabs f as v := by
  refine PureOk.of hna hnv hfr (PT.weaken (T2 := (door P f as .nil G).T) (M2 := .nil) (fun t v' h => ⟨v', h, .same⟩) (fun n x2 h => by simp [Tr.get_nil] at h) ?_)
  have e : (door P f as .nil G).M = .nil := by
    unfold door enterFr
    split
    · split <;> rfl
    · rfl
  have e2 : ({ ({ door P f as .nil G with M := Mof tabs } : Fr) with T := (door P f as .nil G).T, M := .nil } : Fr) = door P f as .nil G := by
    generalize door P f as .nil G = d at e ⊢
    cases d
    simp only at e
    subst e
    rfl
  rw [e2]
  exact h
end Go.Proofs.YtihloomkgpflmaaGreatDoor.Vm

namespace Go.Proofs.YtihloomkgpflmaaGreatDoor.Vm

section
variable {P : Program} {t : TypeId} {c : Bool} {k : IntKind} {a b : Nat}
theorem aBin_int {op : BinOp} {x y : Int} (h : op ≠ .shl) (h' : op ≠ .shr) : aBin P op t c (.int k x) (.int k y) = aInt op k x y := by
  cases op <;> first | exact (h rfl).elim | exact (h' rfl).elim | simp [aBin]
theorem lss_t (h : a < b) : aBin P .lss t c (.int k (.ofNat a)) (.int k (.ofNat b)) = some (.bool true) := by
  rw [aBin_int (by simp) (by simp)]; simp only [aInt, ltI, Option.some.injEq, Value.bool.injEq, Nat.blt_eq]; exact h
theorem lss_f (h : b ≤ a) : aBin P .lss t c (.int k (.ofNat a)) (.int k (.ofNat b)) = some (.bool false) := by
  rw [aBin_int (by simp) (by simp)]; simp only [aInt, ltI, Option.some.injEq, Value.bool.injEq]
  cases hb : Nat.blt a b with
  | false => rfl
  | true => rw [Nat.blt_eq] at hb; omega
theorem gtr_t (h : b < a) : aBin P .gtr t c (.int k (.ofNat a)) (.int k (.ofNat b)) = some (.bool true) := by
  rw [aBin_int (by simp) (by simp)]; simp only [aInt, ltI, Option.some.injEq, Value.bool.injEq, Nat.blt_eq]; exact h
theorem gtr_f (h : a ≤ b) : aBin P .gtr t c (.int k (.ofNat a)) (.int k (.ofNat b)) = some (.bool false) := by
  rw [aBin_int (by simp) (by simp)]; simp only [aInt, ltI, Option.some.injEq, Value.bool.injEq]
  cases hb : Nat.blt b a with
  | false => rfl
  | true => rw [Nat.blt_eq] at hb; omega
theorem leq_t (h : a ≤ b) : aBin P .leq t c (.int k (.ofNat a)) (.int k (.ofNat b)) = some (.bool true) := by
  rw [aBin_int (by simp) (by simp)]; simp only [aInt, ltI, Option.some.injEq, Value.bool.injEq]
  cases hb : Nat.blt b a with
  | false => rfl
  | true => rw [Nat.blt_eq] at hb; omega
theorem leq_f (h : b < a) : aBin P .leq t c (.int k (.ofNat a)) (.int k (.ofNat b)) = some (.bool false) := by
  rw [aBin_int (by simp) (by simp)]; simp only [aInt, ltI, Option.some.injEq, Value.bool.injEq]
  cases hb : Nat.blt b a with
  | true => rfl
  | false => have := (Nat.blt_eq (x := b) (y := a)); simp_all
theorem geq_t (h : b ≤ a) : aBin P .geq t c (.int k (.ofNat a)) (.int k (.ofNat b)) = some (.bool true) := by
  rw [aBin_int (by simp) (by simp)]; simp only [aInt, ltI, Option.some.injEq, Value.bool.injEq]
  cases hb : Nat.blt a b with
  | false => rfl
  | true => rw [Nat.blt_eq] at hb; omega
theorem geq_f (h : a < b) : aBin P .geq t c (.int k (.ofNat a)) (.int k (.ofNat b)) = some (.bool false) := by
  rw [aBin_int (by simp) (by simp)]; simp only [aInt, ltI, Option.some.injEq, Value.bool.injEq]
  cases hb : Nat.blt a b with
  | true => rfl
  | false => have := (Nat.blt_eq (x := a) (y := b)); simp_all
theorem eql_t (h : a = b) : aBin P .eql t c (.int k (.ofNat a)) (.int k (.ofNat b)) = some (.bool true) := by
  rw [aBin_int (by simp) (by simp)]; simp only [aInt, eqI, Option.some.injEq, Value.bool.injEq, Nat.beq_eq]; exact h
theorem eql_f (h : a ≠ b) : aBin P .eql t c (.int k (.ofNat a)) (.int k (.ofNat b)) = some (.bool false) := by
  rw [aBin_int (by simp) (by simp)]; simp only [aInt, eqI, Option.some.injEq, Value.bool.injEq]
  cases hb : Nat.beq a b with
  | false => rfl
  | true => exact absurd (Nat.eq_of_beq_eq_true hb) h
theorem neq_f (h : a = b) : aBin P .neq t c (.int k (.ofNat a)) (.int k (.ofNat b)) = some (.bool false) := by
  rw [aBin_int (by simp) (by simp)]; subst h; simp [aInt, eqI]
theorem neq_t (h : a ≠ b) : aBin P .neq t c (.int k (.ofNat a)) (.int k (.ofNat b)) = some (.bool true) := by
  rw [aBin_int (by simp) (by simp)]; simp only [aInt, eqI, Option.some.injEq, Value.bool.injEq]
  cases hb : Nat.beq a b with
  | false => rfl
  | true => exact absurd (Nat.eq_of_beq_eq_true hb) h

theorem keep_i64 {n : Nat} (h : n < 9223372036854775808) : wrapI .i64 (.ofNat n) = .ofNat n := by
  rw [wrapI_eq, wrap_i64]
  show _ = (n : Int)
  have e : (Int.ofNat n) = (n : Int) := rfl
  rw [e]; omega
theorem keep_u64 {n : Nat} : wrapI .u64 (.ofNat n) = .ofNat (n % 18446744073709551616) := by
  rw [wrapI_eq, wrap_u64]
  have e : (Int.ofNat n) = (n : Int) := rfl
  have e' : (Int.ofNat (n % 18446744073709551616)) = ((n % 18446744073709551616 : Nat) : Int) := rfl
  rw [e, e']; omega
theorem add_i64 (h : a + b < 9223372036854775808) : aBin P .add t c (.int .i64 (.ofNat a)) (.int .i64 (.ofNat b)) = some (.int .i64 (.ofNat (a + b))) := by
  rw [aBin_int (by simp) (by simp)]
  have : Int.add (.ofNat a) (.ofNat b) = .ofNat (a + b) := rfl
  simp only [aInt, this, keep_i64 h]
theorem sub_i64 (h : b ≤ a) (h' : a < 9223372036854775808) : aBin P .sub t c (.int .i64 (.ofNat a)) (.int .i64 (.ofNat b)) = some (.int .i64 (.ofNat (a - b))) := by
  rw [aBin_int (by simp) (by simp)]
  have : Int.sub (.ofNat a) (.ofNat b) = .ofNat (a - b) := by show (a : Int) - (b : Int) = ((a - b : Nat) : Int); omega
  simp only [aInt, this, keep_i64 (show a - b < 9223372036854775808 by omega)]

theorem idx_dat {e : TypeId} {n i : Nat} {cs : List Value} (ht : P.underlying t = some (.slice e)) (hs : aSize P e = some 1) (h : i < n) : aIndexAddr P t (mkDat n cs) (.int k (.ofNat i)) = some (mkPtr (cs.drop i)) := by
  have : Nat.blt i n = true := by rw [Nat.blt_eq]; exact h
  simp [aIndexAddr, ht, hs, datOf, idx, this]
theorem bnd_of {j : IntKind} {d m k : Nat} (h : k ≤ m) : bnd (some (.int j (.ofNat k))) d m = some k := by
  have : Nat.ble k m = true := by rw [Nat.ble_eq]; exact h
  simp [bnd, this]
theorem slice3_dat {P : Program} {t e : TypeId} {n k : Nat} {j j' : IntKind} {cs : List Value} (ht : P.underlying t = some (.slice e)) (hs : aSize P e = some 1) (hk : k ≤ n) : aSlice3 P t (mkDat n cs) none (some (.int j (.ofNat k))) (.int j' (.ofNat k)) = some (mkDat k cs) := by
  have h1 : Nat.ble k n = true := by rw [Nat.ble_eq]; exact hk
  have h2 : Nat.ble k k = true := by rw [Nat.ble_eq]; exact Nat.le_refl _
  simp [aSlice3, ht, hs, datOf, h1, h2, bnd]
theorem load_ptr {M : Tr Blk} {cs : List Value} {v : Value} (h : aAgg P t = some false) (hv : cs[0]? = some v) : aLoad P M t (mkPtr cs) = some v := by
  simp only [aLoad, fptrOf, h]
  exact hv

theorem quo_of {k : IntKind} (h : k = .i64 ∨ k = .u64) (hb : 0 < b) (ha : a < 9223372036854775808 ∨ k = .u64 ∧ a < 18446744073709551616) : aBin P .quo t c (.int k (.ofNat a)) (.int k (.ofNat b)) = some (.int k (.ofNat (a / b))) := by
  rw [aBin_int (by simp) (by simp)]
  have h0 : eqI (Int.ofNat b) 0 = false := by rw [eqI_eq]; simp; omega
  have h1 : (Int.ofNat a).tdiv (Int.ofNat b) = Int.ofNat (a / b) := rfl
  have hd : a / b ≤ a := Nat.div_le_self a b
  simp only [aInt, h0, cond_false, h1, Option.some.injEq, Value.int.injEq, true_and]
  rcases h with rfl | rfl
  · rcases ha with ha | ⟨ha, _⟩
    · exact keep_i64 (by omega)
    · cases ha
  · rw [keep_u64, Nat.mod_eq_of_lt (by rcases ha with ha | ⟨_, ha⟩ <;> omega)]
theorem rem_of {k : IntKind} (hb : 0 < b) : aBin P .rem t c (.int k (.ofNat a)) (.int k (.ofNat b)) = some (.int k (.ofNat (a % b))) := by
  rw [aBin_int (by simp) (by simp)]
  have h0 : eqI (Int.ofNat b) 0 = false := by rw [eqI_eq]; simp; omega
  have h1 : (Int.ofNat a).tmod (Int.ofNat b) = Int.ofNat (a % b) := rfl
  simp only [aInt, h0, cond_false, h1]
theorem add_u64 : aBin P .add t c (.int .u64 (.ofNat a)) (.int .u64 (.ofNat b)) = some (.int .u64 (.ofNat ((a + b) % 18446744073709551616))) := by
  rw [aBin_int (by simp) (by simp)]
  have : Int.add (.ofNat a) (.ofNat b) = .ofNat (a + b) := rfl
  simp only [aInt, this, keep_u64]
theorem add_u64' (h : a + b < 18446744073709551616) : aBin P .add t c (.int .u64 (.ofNat a)) (.int .u64 (.ofNat b)) = some (.int .u64 (.ofNat (a + b))) := by
  rw [add_u64, Nat.mod_eq_of_lt h]
theorem sub_u64' (h : b ≤ a) (h' : a < 18446744073709551616) : aBin P .sub t c (.int .u64 (.ofNat a)) (.int .u64 (.ofNat b)) = some (.int .u64 (.ofNat (a - b))) := by
  rw [aBin_int (by simp) (by simp)]
  have : Int.sub (.ofNat a) (.ofNat b) = .ofNat (a - b) := by show (a : Int) - (b : Int) = ((a - b : Nat) : Int); omega
  simp only [aInt, this, keep_u64, Nat.mod_eq_of_lt (show a - b < 18446744073709551616 by omega)]
theorem mul_i64 (h : a * b < 9223372036854775808) : aBin P .mul t c (.int .i64 (.ofNat a)) (.int .i64 (.ofNat b)) = some (.int .i64 (.ofNat (a * b))) := by
  rw [aBin_int (by simp) (by simp)]
  have : Int.mul (.ofNat a) (.ofNat b) = .ofNat (a * b) := rfl
  simp only [aInt, this, keep_i64 h]
theorem mul_u64' (h : a * b < 18446744073709551616) : aBin P .mul t c (.int .u64 (.ofNat a)) (.int .u64 (.ofNat b)) = some (.int .u64 (.ofNat (a * b))) := by
  rw [aBin_int (by simp) (by simp)]
  have : Int.mul (.ofNat a) (.ofNat b) = .ofNat (a * b) := rfl
  simp only [aInt, this, keep_u64, Nat.mod_eq_of_lt h]

/-! ### rows of the call's own -/
theorem idx_own {e : TypeId} {x i n m : Nat} (ht : P.underlying t = some (.slice e)) (hs : aSize P e = some 1) (h : i < n) : aIndexAddr P t (.slice (some ⟨x, 0, none⟩) n m) (.int k (.ofNat i)) = some (.pointer (some ⟨x, i, none⟩)) := by
  have : Nat.blt i n = true := by rw [Nat.blt_eq]; exact h
  simp [aIndexAddr, ht, hs, idx, this]
theorem load_own {M : Tr Blk} {x o : Nat} {y : Blk} {vs : List Value} {v : Value} (hm : M.get (x / 256) = some y) (hy : y.vals = some vs) (h : aAgg P t = some false) (hv : vs[o]? = some v) : aLoad P M t (.pointer (some ⟨x, o, none⟩)) = some v := by
  simp only [aLoad, hm, hy, h]
  exact hv
theorem splice_one (vs : List Value) (o : Nat) (v : Value) (h : o < vs.length) : splice vs o [v] = vs.set o v := by
  unfold splice
  rw [List.set_eq_take_append_cons_drop]
  simp [h]
theorem sto_own {M M' : Tr Blk} {x o : Nat} {vs : List Value} {j : IntKind} {z : Int} (hm : M.get (x / 256) = some (.cells false vs)) (hs : aSize P t = some 1) (h : o < vs.length) (hM : M.set (x / 256) (.cells false (vs.set o (.int j z))) = M') : aStore P M t (.pointer (some ⟨x, o, none⟩)) (.int j z) = some M' := by
  have h1 : (Value.int j z).cells.toList = [.int j z] := rfl
  have h2 : Nat.ble (o + 1) vs.length = true := by rw [Nat.ble_eq]; exact h
  simp only [aStore, hm, hs, h1, Blk.put, List.length_singleton, h2, cond_true, splice_one vs o _ h]
  rw [← hM]; rfl
theorem make_row {M M' : Tr Blk} {nx n : Nat} {e : TypeId} (ht : P.underlying t = some (.slice e)) (hi' : (P.info? e).map (fun i => (i.bytes, i.size)) = some (8, 1)) (hz : aZero P e = some (.int .u64 (.ofNat 0))) (hn : 8 * n ≤ 281474976710656) (hM : M.set nx (.cells false ((List.replicate n 0).map fun x => Value.int .u64 (.ofNat x))) = M') :
    aMakeSlice P M nx t (.int .i64 (.ofNat n)) (.int .i64 (.ofNat n)) = some (.slice (some ⟨256 * nx, 0, none⟩) n n, M', nx + 1) := by
  obtain ⟨i, hi, hbs⟩ := Option.map_eq_some_iff.1 hi'
  have hb : i.bytes = 8 := congrArg Prod.fst hbs
  have hsz : i.size = 1 := congrArg Prod.snd hbs
  have hz' : zeros (Value.int IntKind.u64 (.ofNat 0)).cells (n * i.size) = (List.replicate n 0).map fun x => Value.int .u64 (.ofNat x) := by
    rw [hsz, Nat.mul_one]
    unfold zeros
    apply List.ext_getElem?
    intro m
    simp only [List.getElem?_map, List.map_replicate, List.getElem?_replicate]
    by_cases h : m < n
    · have e : (Value.int IntKind.u64 (.ofNat 0)).cells[m % (Value.int IntKind.u64 (.ofNat 0)).cells.size]! = Value.int IntKind.u64 (.ofNat 0) := by
        have : (Value.int IntKind.u64 (.ofNat 0)).cells.size = 1 := rfl
        rw [this, Nat.mod_one]; rfl
      simp only [List.getElem?_eq_getElem (show m < (List.range n).length by simpa using h), h, Option.map_some, List.getElem_range, e, if_true]
    · simp [h]
  have h1 : Nat.ble (i.bytes * n) 281474976710656 = true := by rw [Nat.ble_eq, hb]; exact hn
  have h2 : Nat.ble n n = true := by rw [Nat.ble_eq]; exact Nat.le_refl _
  have h3 : Nat.blt n 9223372036854775808 = true := by rw [Nat.blt_eq]; omega
  have h4 : (Nat.beq (n * i.size) 0 || Nat.blt 0 (Value.int IntKind.u64 (.ofNat 0)).cells.size) = true := by
    rw [Bool.or_eq_true]; exact .inr rfl
  simp only [aMakeSlice, ht, hi, hz, h1, h2, h3, h4, hz', Bool.and_self, cond_true, hM]
end

/-! ### calls of known functions -/
theorem sm_plain {F : Known} {f : FuncId} {as : List Value} {M : Tr Blk} {nx : Nat} {v : Value} (h1 : as.map (frzV 12 M) = as) (h2 : as.flatMap (offs 12 M) = []) (h : F f as = some v) : F.sm f as M nx = some (v, M, nx) := by
  simp only [Known.sm, h1, h2, h, offM]
theorem frz_int (n : Nat) (M : Tr Blk) (k : IntKind) (z : Int) : frzV n M (.int k z) = .int k z := by cases n <;> rfl
theorem frz_dat (n : Nat) (M : Tr Blk) (k : Nat) (cs : List Value) : frzV n M (mkDat k cs) = mkDat k cs := by cases n <;> rfl
theorem offs_int (n : Nat) (M : Tr Blk) (k : IntKind) (z : Int) : offs n M (.int k z) = [] := by cases n <;> rfl
theorem offs_dat (n : Nat) (M : Tr Blk) (k : Nat) (cs : List Value) : offs n M (mkDat k cs) = [] := by cases n <;> rfl
theorem frz_row (n : Nat) (M : Tr Blk) (l : List Nat) : (l.map fun x => Value.int .u64 (.ofNat x)).map (frzV n M) = l.map fun x => Value.int .u64 (.ofNat x) := by
  rw [List.map_map]; exact List.map_congr_left fun x _ => frz_int n M _ _
theorem offs_row (n : Nat) (M : Tr Blk) (l : List Nat) : (l.map fun x => Value.int .u64 (.ofNat x)).flatMap (offs n M) = [] := by
  induction l with
  | nil => rfl
  | cons x l ih => rw [List.map_cons, List.flatMap_cons, ih, offs_int]; rfl

theorem frz_own' (n : Nat) {M : Tr Blk} {x c : Nat} {l : List Nat} (hm : M.get (x / 256) = some (.cells false (l.map fun x => Value.int .u64 (.ofNat x)))) (h : l.length ≤ c) : frzV (n + 1) M (.slice (some ⟨x, 0, none⟩) l.length c) = mkDat l.length (l.map fun x => Value.int .u64 (.ofNat x)) := by
  have h1 : Nat.ble l.length c = true := by rw [Nat.ble_eq]; exact h
  unfold frzV
  simp only [hm, Blk.mine, Blk.vals, h1, Bool.not_false, Bool.and_self, List.drop_zero]
  rw [frz_row]
theorem frz_own {M : Tr Blk} {x c : Nat} {l : List Nat} (hm : M.get (x / 256) = some (.cells false (l.map fun x => Value.int .u64 (.ofNat x)))) (h : l.length ≤ c) : frzV 12 M (.slice (some ⟨x, 0, none⟩) l.length c) = mkDat l.length (l.map fun x => Value.int .u64 (.ofNat x)) := frz_own' 11 hm h
theorem offs_own' (n : Nat) {M : Tr Blk} {x c : Nat} {l : List Nat} (hm : M.get (x / 256) = some (.cells false (l.map fun x => Value.int .u64 (.ofNat x)))) : offs (n + 1) M (.slice (some ⟨x, 0, none⟩) l.length c) = [x / 256] := by
  unfold offs
  simp only [hm, Blk.vals, List.drop_zero]
  rw [offs_row]
theorem offs_own {M : Tr Blk} {x c : Nat} {l : List Nat} (hm : M.get (x / 256) = some (.cells false (l.map fun x => Value.int .u64 (.ofNat x)))) : offs 12 M (.slice (some ⟨x, 0, none⟩) l.length c) = [x / 256] := offs_own' 11 hm
/-- A known function of one row of the call's own: it is frozen. -/
theorem sm_own {F : Known} {f : FuncId} {M M' : Tr Blk} {x c nx : Nat} {l : List Nat} {v : Value} (hm : M.get (x / 256) = some (.cells false (l.map fun x => Value.int .u64 (.ofNat x)))) (h : l.length ≤ c) (hF : F f [mkDat l.length (l.map fun x => Value.int .u64 (.ofNat x))] = some v) (hM : M.set (x / 256) (.frz (l.map fun x => Value.int .u64 (.ofNat x))) = M') :
    F.sm f [.slice (some ⟨x, 0, none⟩) l.length c] M nx = some (v, M', nx) := by
  simp only [Known.sm, List.map_cons, List.map_nil, frz_own hm h, hF, List.flatMap_cons, List.flatMap_nil, offs_own hm, List.append_nil, offM, hm, Blk.fzn, hM]
end Go.Proofs.YtihloomkgpflmaaGreatDoor.Vm
