/-
  THE ABSTRACT INTERPRETER, part G: one function for all operations that look at no memory.
-/
import Derived.Test.YtjbanjpklgpenaaGreatDoorVmF
namespace Go.Proofs.YtjbanjpklgpenaaGreatDoor.Vm

noncomputable def getvs (G : Nat) (T : Tr Value) : List Operand → Option (List Value)
  | [] => some []
  | x :: xs => match getv G T x with
    | some v => (match getvs G T xs with
      | some vs => some (v :: vs)
      | none => none)
    | none => none
noncomputable def getps (G : Nat) (T : Tr Value) : List (Nat × Operand) → Option (List (Nat × Value))
  | [] => some []
  | (i, x) :: xs => match getv G T x with
    | some v => (match getps G T xs with
      | some vs => some ((i, v) :: vs)
      | none => none)
    | none => none
/-- An operand that may be left out: some none, if it is. -/
noncomputable def geto (G : Nat) (T : Tr Value) : Option Operand → Option (Option Value)
  | none => some none
  | some x => match getv G T x with
    | some v => some (some v)
    | none => none

section
variable {ι : Iota} {G : Nat} {T : Tr Value} {ρ : Operand → Value}
theorem getvs_rel (h : TR ι G T ρ) : ∀ (xs : List Operand) {vs : List Value}, getvs G T xs = some vs → VRL ι vs (xs.map ρ)
  | [], vs, e => by simp [getvs] at e; subst e; exact .nil
  | x :: xs, vs, e => by
    unfold getvs at e
    split at e
    · rename_i v hv
      split at e
      · rename_i ws hw
        simp at e; subst e
        exact .cons (h x v hv) (getvs_rel h xs hw)
      · cases e
    · cases e
theorem getps_rel (h : TR ι G T ρ) : ∀ (xs : List (Nat × Operand)) {vs : List (Nat × Value)}, getps G T xs = some vs → PartsR ι vs (xs.map fun p => (p.1, ρ p.2))
  | [], vs, e => by simp [getps] at e; subst e; exact .nil
  | (i, x) :: xs, vs, e => by
    unfold getps at e
    split at e
    · rename_i v hv
      split at e
      · rename_i ws hw
        simp at e; subst e
        exact .cons (h x v hv) (getps_rel h xs hw)
      · cases e
    · cases e
theorem geto_rel (h : TR ι G T ρ) (x : Option Operand) {v : Option Value} (e : geto G T x = some v) : OptR ι v (x.map ρ) := by
  unfold geto at e
  split at e
  · simp at e; subst e; exact .none
  · rename_i x
    split at e
    · rename_i v' hv
      simp at e; subst e
      exact .some (h _ _ hv)
    · cases e
end

noncomputable def apure (P : Program) (G : Nat) (T : Tr Value) (op : Op) : Option Value := match op with
  | .move x => getv G T x
  | .assign x => getv G T x
  | .pick c a b => (match getv G T c with
    | some (.bool true) => getv G T a
    | some (.bool false) => getv G T b
    | _ => none)
  | .binOp op t x y _ => (match getv G T x, getv G T y with
    | some a, some b => aBin P op t (isConst x || isConst y) a b
    | _, _ => none)
  | .unOp op _ x => (match getv G T x with
    | some a => aUn op a
    | none => none)
  | .convert s d x => (match getv G T x with
    | some a => aConv P s d a
    | none => none)
  | .makeInterface t x => (match P.underlying t, getv G T x with
    | some (.interface _), _ => none
    | some _, some v => some (.iface t v)
    | _, _ => none)
  | .makeFunc fn first cap => (match plainFn fn, getvs G T first.toList, getvs G T cap.toList with
    | true, some xs, some ys => some (.func fn xs.toArray ys.toArray)
    | _, _, _ => none)
  | .fieldAddr s x f => (match getv G T x with
    | some a => aFieldAddr P s a f
    | none => none)
  | .field t x f => (match getv G T x with
    | some a => aField P t a f
    | none => none)
  | .indexAddr t x i => (match getv G T x, getv G T i with
    | some a, some b => aIndexAddr P t a b
    | _, _ => none)
  | .index t x i => (match getv G T x, getv G T i with
    | some a, some b => aIndex P t a b
    | _, _ => none)
  | .extract x i => (match getv G T x with
    | some a => aExtract a i
    | none => none)
  | .build t parts => (match getps G T parts.toList with
    | some ps => aBuild P t ps
    | none => none)
  | .slice t x lo hi none => (match getv G T x, geto G T lo, geto G T hi with
    | some a, some l, some h => aSlice P t a l h
    | _, _, _ => none)
  | .slice t x lo hi (some mx) => (match getv G T x, geto G T lo, geto G T hi, getv G T mx with
    | some a, some l, some h, some m => aSlice3 P t a l h m
    | _, _, _, _ => none)
  | .nilCheck x => (match getv G T x with
    | some (.pointer (some a)) => some (.pointer (some a))
    | some (.iface t v) => some (.iface t v)
    | some (.func (.func f) a b) => some (.func (.func f) a b)
    | _ => none)
  | .typeAssert x _ t ok => (match getv G T x with
    | some a => aAssert P a t ok
    | none => none)
  | .call c => (match c.callee, c.argTypes.toList, getvs G T c.args.toList with
    | .builtin .len, [t], some [x] => aLen P t x
    | .builtin .max, _, some xs => aMax xs
    | .builtin .min, _, some xs => aMin xs
    | _, _, _ => none)
  | _ => none

theorem run_apure {P : Program} {ι : Iota} {G : Nat} {T : Tr Value} {ρ : Operand → Value} (hk : Kinds ι) (hT : TR ι G T ρ) (o : Oper) {v : Value} (h : apure P G T o.op = some v) :
    ∃ u, VR ι v u ∧ ∀ w, (execOp ρ o).run P w = .ok (.value u) w := by
  obtain ⟨dst, op, type, pos, after, guard⟩ := o
  have lift : ∀ {s : Sem Value}, Comes1 P ι s v → ∃ u, VR ι v u ∧ ∀ w, (s >>= fun x => pure (Next.value x) : Sem Next).run P w = .ok (.value u) w := by
    rintro s ⟨u, h1, h2⟩
    exact ⟨u, h1, fun w => by rw [Sem.run_bind, h2 w]; rfl⟩
  have lift' : ∀ {s : Sem Value}, (∀ w, VR ι v v ∧ s.run P w = .ok v w) → ∃ u, VR ι v u ∧ ∀ w, (s >>= fun x => pure (Next.value x) : Sem Next).run P w = .ok (.value u) w :=
    fun hs => lift ⟨v, (hs default).1, fun w => (hs w).2⟩
  unfold apure at h
  simp only at h
  split at h
  case h_1 => rename_i x; exact ⟨ρ x, hT _ _ h, fun w => rfl⟩
  case h_2 => rename_i x; exact ⟨ρ x, hT _ _ h, fun w => rfl⟩
  case h_3 =>
    rename_i c a b
    split at h
    · rename_i hc
      have := hT _ _ hc
      generalize hρ : ρ c = z at this
      cases this
      exact ⟨ρ a, hT _ _ h, fun w => by simp [execOp, hρ, asBool]⟩
    · rename_i hc
      have := hT _ _ hc
      generalize hρ : ρ c = z at this
      cases this
      exact ⟨ρ b, hT _ _ h, fun w => by simp [execOp, hρ, asBool]⟩
    · cases h
  case h_4 =>
    rename_i op t x y yt
    split at h
    · rename_i a b ha hb
      exact lift' (fun w => run_aBin (hT _ _ ha) (hT _ _ hb) h w)
    · cases h
  case h_5 =>
    rename_i op t x
    split at h
    · rename_i a ha
      exact lift' (fun w => run_aUn op (hT _ _ ha) h P w)
    · cases h
  case h_6 =>
    rename_i s d x
    split at h
    · rename_i a ha
      exact lift' (fun w => run_aConv (hT _ _ ha) h w)
    · cases h
  case h_7 =>
    rename_i t x
    split at h
    · cases h
    · rename_i d a hd hu ha
      simp at h; subst h
      refine lift ⟨.iface t (ρ x), .iface t (hT _ _ ha), fun w => ?_⟩
      unfold Instr.makeInterface
      rw [Sem.run_bind, run_underlying hu]
      cases d <;> first | (exact (hd _ rfl).elim) | rfl
    · cases h
  case h_8 =>
    rename_i fn first cap
    split at h
    · rename_i xs ys hf h1 h2
      simp at h; subst h
      refine lift ⟨.func fn (first.map ρ) (cap.map ρ), .func hf ?_ ?_, fun w => rfl⟩
      · rw [Array.toList_map]; exact getvs_rel hT _ h1
      · rw [Array.toList_map]; exact getvs_rel hT _ h2
    · cases h
  case h_9 =>
    rename_i s x f
    split at h
    · rename_i a ha
      exact lift (run_aFieldAddr (hT _ _ ha) h)
    · cases h
  case h_10 =>
    rename_i s x f
    split at h
    · rename_i a ha
      exact lift (run_aField (hT _ _ ha) h)
    · cases h
  case h_11 =>
    rename_i t x i
    split at h
    · rename_i a b ha hb
      exact lift (run_aIndexAddr (hT _ _ ha) (hT _ _ hb) h)
    · cases h
  case h_12 =>
    rename_i t x i
    split at h
    · rename_i a b ha hb
      exact lift (run_aIndex (hT _ _ ha) (hT _ _ hb) h)
    · cases h
  case h_13 =>
    rename_i x i
    split at h
    · rename_i a ha
      exact lift (run_aExtract (hT _ _ ha) h)
    · cases h
  case h_14 =>
    rename_i t parts
    split at h
    · rename_i ps hp
      refine lift (run_aBuild ?_ h)
      rw [Array.toList_map]
      exact getps_rel hT _ hp
    · cases h
  case h_15 =>
    rename_i t x lo hi
    split at h
    · rename_i a l hh ha hl hb
      exact lift (run_aSlice hk (hT _ _ ha) (geto_rel hT _ hl) (geto_rel hT _ hb) h)
    · cases h
  case h_16 =>
    rename_i t x lo hi mx
    split at h
    · rename_i a l hh m ha hl hb hm
      exact lift (run_aSlice3 (hT _ _ ha) (geto_rel hT _ hl) (geto_rel hT _ hb) (hT _ _ hm) h)
    · cases h
  case h_17 =>
    rename_i x
    split at h
    · rename_i a ha
      simp at h; subst h
      have := hT _ _ ha
      refine ⟨ρ x, this, fun w => ?_⟩
      generalize hρ : ρ x = z at this
      cases this
      simp [execOp, hρ]
    · rename_i t y ha
      simp at h; subst h
      have := hT _ _ ha
      refine ⟨ρ x, this, fun w => ?_⟩
      generalize hρ : ρ x = z at this
      cases this
      simp [execOp, hρ]
    · rename_i f a b ha
      simp at h; subst h
      have := hT _ _ ha
      refine ⟨ρ x, this, fun w => ?_⟩
      generalize hρ : ρ x = z at this
      cases this
      simp [execOp, hρ]
    · cases h
  case h_18 =>
    rename_i x xt t ok
    split at h
    · rename_i a ha
      exact lift (run_aAssert (hT _ _ ha) h)
    · cases h
  case h_19 =>
    rename_i c
    split at h
    · rename_i t x hc ht hx
      have hl := getvs_rel hT _ hx
      have e1 : c.argTypes = #[t] := by rw [← ht]
      have e2 : ∃ u, c.args.map ρ = #[u] ∧ VR ι x u := by
        rw [← Array.toList_map] at hl
        generalize hz : (c.args.map ρ).toList = l at hl
        cases hl with
        | cons h1 t1 =>
          cases t1
          exact ⟨_, by rw [← hz], h1⟩
      obtain ⟨u, e2, e3⟩ := e2
      have hr := fun w => run_aLen (ty := type) e3 h w
      refine ⟨v, (hr default).1, fun w => ?_⟩
      simp only [execOp, resolve, hc, e1, e2, Sem.run_bind, Sem.run_pure, Result.andThen_ok, invoke, builtin, (hr w).2]
    · rename_i xs hc hx
      have hl := getvs_rel hT _ hx
      rw [← Array.toList_map] at hl
      have hr := fun w => run_aMax (P := P) (ts := c.argTypes) (ty := type) hl h w
      refine ⟨v, (hr default).1, fun w => ?_⟩
      simp only [execOp, resolve, hc, Sem.run_bind, Sem.run_pure, Result.andThen_ok, invoke, builtin, (hr w).2]
    · rename_i xs hc hx
      have hl := getvs_rel hT _ hx
      rw [← Array.toList_map] at hl
      have hr := fun w => run_aMin (P := P) (ts := c.argTypes) (ty := type) hl h w
      refine ⟨v, (hr default).1, fun w => ?_⟩
      simp only [execOp, resolve, hc, Sem.run_bind, Sem.run_pure, Result.andThen_ok, invoke, builtin, (hr w).2]
    · cases h
  case h_20 => cases h
end Go.Proofs.YtjbanjpklgpenaaGreatDoor.Vm
