/-
  THE ABSTRACT INTERPRETER, part M: operations that write, call, defer, recover, panic.
-/
import Derived.Test.YtjbanjpklgpenaaGreatDoorVmL
namespace Go.Proofs.YtjbanjpklgpenaaGreatDoor.Vm

/-- What the interpreter knows beside the text: functions without a body; calls whose end is known. -/
structure Exts where
  fn : FuncId → Option (List Value → Option Value)
  sm : FuncId → List Value → Tr Blk → Nat → Option (Value × Tr Blk × Nat)
def XOk (P : Program) (G : Nat) (w0 : World) (X : Exts) : Prop :=
  (∀ f e as v, X.fn f = some e → e as = some v → (∀ ι : Iota, VR ι v v) ∧ ∀ (ι : Iota) (bs : Array Value) (w : World), VRL ι as bs.toList → (callFunc f bs).run P w = .ok (.value v) w) ∧
  (∀ f as M nx v M' nx', X.sm f as M nx = some (v, M', nx') → ∃ fr, enterFr P f as false .run M nx = some fr ∧ Sound P G w0 fr (.ret v .run M' nx'))
def FOk (P : Program) : Prop := ∀ (f : FuncId) (fn : Func), P.funcs[f]? = some fn → fn.body.isSome = true → (fn.name == "runtime.NumGoroutine") = false

theorem run_callFunc {P : Program} (hF : FOk P) {f : FuncId} {fn : Func} (hfn : P.funcs[f]? = some fn) (hb : fn.body.isSome = true) (args : Array Value) (w : World) : (callFunc f args).run P w = .ok (.enter f args) w := by
  have h1 := hF f fn hfn hb
  obtain ⟨cd, h2⟩ := Option.isSome_iff_exists.1 hb
  simp only [beq_eq_false_iff_ne, ne_eq] at h1
  simp [callFunc, hfn, h1, h2]

inductive Eff where
  | val (v : Value) (M : Tr Blk) (nx : Nat)
  | enter (f : FuncId) (args : List Value)
  | round (l : Nat) (args : List Value)
  | recover
  | defer (d : Deferred)
  | panic (v : Value)

noncomputable def acall (X : Exts) (f : Value) (args : List Value) (M : Tr Blk) (nx : Nat) : Option Eff := match f with
  | .func (.func g) first cap => (match X.fn g with
    | some e => (match e (first.toList ++ args ++ cap.toList) with
      | some v => some (.val v M nx)
      | none => none)
    | none => some (.enter g (first.toList ++ args ++ cap.toList)))
  | .func (.yield l) _ _ => some (.round l args)
  | _ => none

/-- The function behind a method of a type, where the receiver is handed on as it is. -/
def aMethod (P : Program) (t : TypeId) (name : String) : Option FuncId := match P.info? t, P.underlying t with
  | some i, some d => (match i.methods.find? (·.name == name) with
    | some m => (match m.path.toList, m.func, d with
      | [], some (f, true), .pointer _ => some f
      | [], some (_, false), .pointer _ => none
      | [], some (f, false), _ => some f
      | _, _, _ => none)
    | none => none)
  | _, _ => none
theorem run_callMethod {P : Program} {t : TypeId} {name : String} {f : FuncId} (h : aMethod P t name = some f) (v : Value) (args : Array Value) (w : World) : (callMethod (.iface t v) name args).run P w = (callFunc f (#[v] ++ args)).run P w := by
  have h0 : 0 < Made.depth := by decide
  obtain ⟨k, hk⟩ : ∃ k, P.types.size + Made.depth = k + 1 := ⟨P.types.size + Made.depth - 1, by omega⟩
  unfold aMethod at h
  split at h
  · rename_i i d hi hd
    split at h
    · rename_i m hm
      split at h
      · rename_i f' e hp hf
        simp only [Option.some.injEq] at h; subst h
        simp only [callMethod, program, Sem.run_bind, Sem.run, Result.andThen_ok, hk, method, typeInfo, hi, hm, hp, hf, follow, receiverAt, run_underlying hd, Place.get, Sem.run_pure]
      · cases h
      · rename_i f' hp hf hne
        simp only [Option.some.injEq] at h; subst h
        simp only [callMethod, program, Sem.run_bind, Sem.run, Result.andThen_ok, hk, method, typeInfo, hi, hm, hp, hf, follow, receiverAt, run_underlying hd, Place.get, Sem.run_pure]
      · cases h
    · cases h
  · cases h

noncomputable def aeff (P : Program) (X : Exts) (G : Nat) (T : Tr Value) (M : Tr Blk) (nx : Nat) (op : Op) : Option Eff := match op with
  | .store t a x => (match getv G T a, getv G T x with
    | some b, some v => (match aStore P M t b v with
      | some M' => some (.val undef M' nx)
      | none => none)
    | _, _ => none)
  | .insert t m k x => (match getv G T m, getv G T k, getv G T x with
    | some a, some b, some c => (match aMapNew P M t a b c with
      | some M' => some (.val undef M' nx)
      | none => none)
    | _, _, _ => none)
  | .call c => (match c.callee, getvs G T c.args.toList with
    | .builtin .append, some [d, s] => (match c.argTypes.toList with
      | [t, t'] => bif Nat.beq t t' then (match aAppend P M nx t d s with
        | some (v, M', nx') => some (.val v M' nx')
        | none => none) else (match aAppendS P M nx t t' d s with
        | some (v, M', nx') => some (.val v M' nx')
        | none => none)
      | _ => none)
    | .builtin .recover, _ => some .recover
    | .value f, some as => (match getv G T f with
      | some fv => acall X fv as M nx
      | none => none)
    | .invoke r name, some as => (match getv G T r with
      | some (.iface t v) => (match aMethod P t name with
        | some f => (match X.fn f with
          | some _ => none
          | none => some (.enter f (v :: as)))
        | none => none)
      | _ => none)
    | _, _ => none)
  | .defer c => (match c.callee, getvs G T c.args.toList with
    | .value f, some as => (match getv G T f with
      | some (.func fn first cap) => bif plainFn fn then some (.defer { target := .fn fn cap, args := (first.toList ++ as).toArray }) else none
      | _ => none)
    | _, _ => none)
  | .panic x => (match getv G T x with
    | some (.iface t v) => some (.panic (.iface t v))
    | _ => none)
  | .convert s d x => (match getv G T x with
    | some a => (match aConvM P M nx s d a with
      | some (v, M', nx') => some (.val v M' nx')
      | none => none)
    | none => none)
  | _ => none

/-- What an effect says of the true operation's run. -/
def EffR (P : Program) (w0 : World) (ι : Iota) (M : Tr Blk) (nx : Nat) (w : World) (r : Result Next) : Eff → Prop
  | .val v M' nx' => Fresh ι nx nx' → ∃ κ w', Post w0 ι M nx w κ M' nx' w' ∧ ∃ u, VR κ v u ∧ (r = .ok (.value u) w' ∨ (r = .ok .skip w' ∧ u = undef))
  | .enter f as => ∃ bs : Array Value, VRL ι as bs.toList ∧ ((∃ fn, P.funcs[f]? = some fn ∧ fn.body.isSome = true) → r = .ok (.enter f bs) w)
  | .round l as => ∃ (d : Loc) (bs : Array Value), ι l = some d ∧ d.gr = none ∧ VRL ι as bs.toList ∧ r = (Instr.yield d.blk bs).run P w
  | .recover => r = .ok .recover w
  | .defer d => ∃ d', DR ι d d' ∧ r = .ok (.defer d') w
  | .panic v => ∃ u, VR ι v u ∧ r = .halt (.panic u) w

theorem undef_self {ι : Iota} : VR ι undef undef := .tuple .nil

theorem run_aeff {P : Program} {X : Exts} {w0 : World} {G : Nat} (hX : XOk P G w0 X) (hF : FOk P) {ι : Iota} {T : Tr Value} {M : Tr Blk} {nx : Nat} {w : World} {ρ : Operand → Value} (h : R w0 ι M w) (hT : TR ι G T ρ) (o : Oper) {e : Eff} (he : aeff P X G T M nx o.op = some e) :
    EffR P w0 ι M nx w ((execOp ρ o).run P w) e := by
  obtain ⟨dst, op, type, pos, after, guard⟩ := o
  unfold aeff at he
  simp only at he
  split at he
  case h_1 =>
    split at he
    · rename_i t a x b v hb hv
      split at he
      · rename_i M' hs
        simp at he; subst he
        intro hf
        obtain ⟨w', h1, h2⟩ := run_aStore (nx := nx) h (hT _ _ hb) (hT _ _ hv) hs
        exact ⟨ι, w', h2, undef, undef_self, .inr ⟨by simp only [execOp, Sem.run_bind, h1, Result.andThen_ok]; rfl, rfl⟩⟩
      · cases he
    · cases he
  case h_2 =>
    split at he
    · rename_i t m k x a b c ha hb hc
      split at he
      · rename_i M' hs
        simp at he; subst he
        intro hf
        obtain ⟨w', h1, h2⟩ := run_aMapNew (nx := nx) h (hT _ _ ha) (hT _ _ hb) (hT _ _ hc) hs
        exact ⟨ι, w', h2, undef, undef_self, .inr ⟨by simp only [execOp, Sem.run_bind, h1, Result.andThen_ok]; rfl, rfl⟩⟩
      · cases he
    · cases he
  case h_3 =>
    rename_i c
    split at he
    · rename_i d s hc ha
      split at he
      · rename_i t t' ht
        have e2 : ∃ u z, c.args.map ρ = #[u, z] ∧ VR ι d u ∧ VR ι s z := by
          have hl := getvs_rel hT _ ha
          rw [← Array.toList_map] at hl
          generalize hz : (c.args.map ρ).toList = l at hl
          cases hl with
          | cons h1 t1 => cases t1 with
            | cons h2 t2 => cases t2; exact ⟨_, _, by rw [← hz], h1, h2⟩
        obtain ⟨u, z, e2, e3, e4⟩ := e2
        cases hb : Nat.beq t t' with
        | false =>
          rw [hb] at he; simp only [cond_false] at he
          have e1 : c.argTypes = #[t, t'] := by rw [← ht]
          split at he
          · rename_i v M' nx' hap
            simp at he; subst he
            intro hf
            obtain ⟨κ, y, w', k1, k2, k3⟩ := run_aAppendS (ty := type) h hf e3 e4 hap
            refine ⟨κ, w', k2, y, k3, .inl ?_⟩
            simp only [execOp, resolve, hc, e1, e2, Sem.run_bind, Sem.run_pure, Result.andThen_ok, invoke, builtin, k1]
          · cases he
        | true =>
          have e0 := Nat.eq_of_beq_eq_true hb
          subst e0
          rw [hb] at he; simp only [cond_true] at he
          split at he
          · rename_i v M' nx' hap
            simp at he; subst he
            intro hf
            have e1 : c.argTypes = #[t, t] := by rw [← ht]
            obtain ⟨κ, y, w', k1, k2, k3⟩ := run_aAppend (ty := type) h hf e3 e4 hap
            refine ⟨κ, w', k2, y, k3, .inl ?_⟩
            simp only [execOp, resolve, hc, e1, e2, Sem.run_bind, Sem.run_pure, Result.andThen_ok, invoke, builtin, k1]
          · cases he
      · cases he
    · rename_i hc
      simp at he; subst he
      simp only [EffR, execOp, resolve, hc, Sem.run_bind, Sem.run_pure, Result.andThen_ok, invoke, builtin]
    · rename_i f as hc ha
      split at he
      · rename_i fv hfv
        have hl := getvs_rel hT _ ha
        rw [← Array.toList_map] at hl
        have hv := hT _ _ hfv
        unfold acall at he
        split at he
        · rename_i g first cap
          generalize hρ : ρ f = z at hv
          cases hv with
          | func hpf h1 h2 =>
            rename_i first' cap'
            have hargs : VRL ι (first.toList ++ as ++ cap.toList) ((first' ++ c.args.map ρ) ++ cap').toList := by
              rw [Array.toList_append, Array.toList_append]
              exact (h1.append hl).append h2
            have hrun : (execOp ρ { dst, op := .call c, type, pos, after, guard }).run P w = (callFunc g ((first' ++ c.args.map ρ) ++ cap')).run P w := by
              simp only [execOp, resolve, hc, hρ, Deferred.ofValue, Sem.run_bind, Sem.run_pure, Result.andThen_ok, invoke]
            split at he
            · rename_i e hXe
              split at he
              · rename_i v hev
                simp at he; subst he
                obtain ⟨q1, q2⟩ := hX.1 g e _ v hXe hev
                intro hf
                refine ⟨ι, w, Post.refl h, v, q1 ι, .inl ?_⟩
                rw [hrun]
                exact q2 ι _ w hargs
              · cases he
            · simp only [Option.some.injEq] at he; subst he
              refine ⟨_, hargs, fun ⟨fn, hfn, hb⟩ => ?_⟩
              rw [hrun]
              exact run_callFunc hF hfn hb _ w
        · rename_i l xs ys
          simp at he; subst he
          generalize hρ : ρ f = z at hv
          cases hv with
          | func hpf h1 h2 => simp [plainFn] at hpf
          | yield hι hg =>
            rename_i d
            refine ⟨d, c.args.map ρ, hι, hg, hl, ?_⟩
            simp only [execOp, resolve, hc, hρ, Deferred.ofValue, Sem.run_bind, Sem.run_pure, Result.andThen_ok, invoke, Array.empty_append]
        · cases he
      · cases he
    · rename_i r name as hc ha
      split at he
      · rename_i t v hr
        split at he
        · rename_i f hf
          split at he
          · cases he
          · simp only [Option.some.injEq] at he; subst he
            have hl := getvs_rel hT _ ha
            rw [← Array.toList_map] at hl
            have hv := hT _ _ hr
            generalize hρ : ρ r = z at hv
            cases hv with
            | iface _ hvv =>
              rename_i u
              refine ⟨#[u] ++ c.args.map ρ, ?_, fun ⟨fn, hfn, hb⟩ => ?_⟩
              · rw [Array.toList_append]
                exact .cons hvv hl
              · have hex : (#[Value.iface t u] ++ c.args.map ρ).extract 1 (#[Value.iface t u] ++ c.args.map ρ).size = c.args.map ρ := by
                  apply Array.ext'
                  rw [Array.toList_extract, List.extract_eq_take_drop]
                  simp [List.take_of_length_le]
                have hz : (#[Value.iface t u] ++ c.args.map ρ)[0]? = some (Value.iface t u) := by rw [Array.getElem?_append_left (by simp)]; rfl
                simp only [execOp, resolve, hc, hρ, Sem.run_bind, Sem.run_pure, Result.andThen_ok, invoke, hz]
                rw [hex, run_callMethod hf]
                exact run_callFunc hF hfn hb _ w
        · cases he
      · cases he
    · cases he
  case h_4 =>
    rename_i c
    split at he
    · rename_i f as hc ha
      split at he
      · rename_i fn first cap hfv
        cases hp : plainFn fn with
        | false => rw [hp] at he; simp at he
        | true =>
          rw [hp] at he; simp at he; subst he
          have hl := getvs_rel hT _ ha
          rw [← Array.toList_map] at hl
          have hv := hT _ _ hfv
          generalize hρ : ρ f = z at hv
          cases hv with
          | func hpf h1 h2 =>
            rename_i first' cap'
            refine ⟨{ target := .fn fn cap', args := first' ++ c.args.map ρ }, .fn hp h2 ?_, ?_⟩
            · rw [Array.toList_append]
              exact h1.append hl
            · simp only [execOp, resolve, hc, hρ, Deferred.ofValue, Sem.run_bind, Sem.run_pure, Result.andThen_ok]
          | yield hι hg => simp [plainFn] at hp
      · cases he
    · cases he
  case h_5 =>
    rename_i x
    split at he
    · rename_i t v hx
      simp at he; subst he
      have hv := hT _ _ hx
      generalize hρ : ρ x = z at hv
      cases hv with
      | iface _ hvv =>
        rename_i u
        exact ⟨.iface t u, .iface t hvv, by simp [execOp, hρ, Instr.panic]⟩
    · cases he
  case h_6 =>
    rename_i s d x
    split at he
    · rename_i a ha
      split at he
      · rename_i v M' nx' hc
        simp at he; subst he
        intro hf
        obtain ⟨κ, y, w', h1, h2, h3⟩ := run_aConvM h hf (hT _ _ ha) hc
        exact ⟨κ, w', h2, y, h3, .inl (by simp only [execOp, Sem.run_bind, h1, Result.andThen_ok]; rfl)⟩
      · cases he
    · cases he
  case h_7 => cases he

/-! ### one operation -/
inductive OpR where
  | ok (v : Value) (ds : List Deferred) (up : FrameMode) (M : Tr Blk) (nx : Nat)
  | pan (chain : List PanicEntry) (up : FrameMode) (M : Tr Blk) (nx : Nat)

noncomputable def putPs : List Tmp → List Value → Nat → Tr Value → Option (Tr Value)
  | [], [], _, T => some T
  | p :: ps, v :: vs, nt, T => bif Nat.blt p nt then putPs ps vs nt (T.set p v) else none
  | _, _, _, _ => none
noncomputable def roundFr (al : ALoop) (l : Nat) (args : List Value) (M : Tr Blk) (nx : Nat) : Option Fr := match putPs al.params args al.nt al.T with
  | some T => some { fn := al.fn, nt := al.nt, T, todo := [.code al.assign, .beginRound, .code al.body], ds := [], mode := .run, dk := false, rnd := some l, up := .run, M, nx }
  | none => none

noncomputable def vop (call : Fr → Option Res) (P : Program) (X : Exts) (G : Nat) (dk : Bool) (rnd : Option Nat) (T : Tr Value) (ds : List Deferred) (up : FrameMode) (M : Tr Blk) (nx : Nat) (op : Op) : Option OpR := match aquiet P G T M nx op with
  | some (v, M', nx') => some (.ok v ds up M' nx')
  | none => (match aeff P X G T M nx op with
    | some (.val v M' nx') => some (.ok v ds up M' nx')
    | some (.enter f as) => (match X.sm f as M nx with
      | some (v, M', nx') => some (.ok v ds up M' nx')
      | none => (match enterFr P f as false .run M nx with
        | some fr => (match call fr with
          | some (.ret v _ M' nx') => some (.ok v ds up M' nx')
          | some (.pan ch _ M' nx') => some (.pan ch up M' nx')
          | none => none)
        | none => none))
    | some (.round l as) => (match M.get (l / 256) with
      | some (.loop al) => (match roundFr al l as M nx with
        | some fr => (match call fr with
          | some (.ret v _ M' nx') => some (.ok v ds up M' nx')
          | some (.pan ch _ M' nx') => some (.pan ch up M' nx')
          | none => none)
        | none => none)
      | _ => none)
    | some .recover => (match rnd, dk, up with
      | none, true, .panicking ({ v, recovered := false, goexit := false } :: older) => some (.ok v ds (.panicking ({ v, recovered := true } :: older)) M nx)
      | none, true, _ => some (.ok .nilIface ds up M nx)
      | none, false, _ => some (.ok .nilIface ds up M nx)
      | _, _, _ => none)
    | some (.defer d) => (match rnd with
      | none => some (.ok undef (d :: ds) up M nx)
      | some _ => none)
    | some (.panic v) => some (.pan [{ v, recovered := false }] up M nx)
    | none => none)
end Go.Proofs.YtjbanjpklgpenaaGreatDoor.Vm
