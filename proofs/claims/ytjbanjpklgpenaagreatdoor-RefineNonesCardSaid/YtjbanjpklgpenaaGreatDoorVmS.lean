/-
  THE ABSTRACT INTERPRETER, part S: one turn, and a whole run, where the drawn regions are sound.
-/
import Derived.Test.YtjbanjpklgpenaaGreatDoorVmR
namespace Go.Proofs.YtjbanjpklgpenaaGreatDoor.Vm

/-- What is asked of the regions that draw their order. -/
def Draws (P : Program) (X : Exts) (G : Nat) (w0 : World) : Prop :=
  ∀ (call : Fr → Option Res), (∀ fr r, call fr = some r → Sound P G w0 fr r) → ∀ (fr : Fr) (id : Nat) (ops : Array Oper) (pl : List PStep) (k : List Item) (r : RR), plan ops = some pl → dstsApart ops.toList = true →
    vdraw call P X G fr.dk fr.rnd fr.nt ops fr.T pl fr.T fr.ds fr.up fr.M fr.nx [] 0 = some r →
    ∀ (ι : Iota) (b : Frame) (a : Act) (cs : List Frame) (w : World), R w0 ι fr.M w → GOk G ι → FrR P ι fr b a .run cs → FreshU ι fr.nx →
      RREnd P w0 ι fr.dk fr.nt fr.M fr.nx b (lone (b.atR a (.code (.region id ops true) :: k)) cs w) k cs w r

section
variable {call : Fr → Option Res} {P : Program} {X : Exts} {w0 : World} {G : Nat}

theorem fstep_sound (hX : XOk P G w0 X) (hF : FOk P) (hD : Draws P X G w0) (hcall : ∀ fr r, call fr = some r → Sound P G w0 fr r) (fr : Fr) :
    (∀ fr', fstep call P X G fr = .cont fr' → Prog P G w0 fr fr') ∧ (∀ r, fstep call P X G fr = .done r → SoundT P G w0 fr r) := by
  cases hm : fr.mode with
  | returning =>
    have e : fstep call P X G fr = unwindA call P fr := by simp only [fstep, hm]
    rw [e]
    exact ⟨fun fr' h => unwind_cont hF hcall (by rw [hm]; simp) h, fun r h => unwind_done (by rw [hm]; simp) h⟩
  | panicking ch =>
    have e : fstep call P X G fr = unwindA call P fr := by simp only [fstep, hm]
    rw [e]
    exact ⟨fun fr' h => unwind_cont hF hcall (by rw [hm]; simp) h, fun r h => unwind_done (by rw [hm]; simp) h⟩
  | run =>
    cases ht : fr.todo with
    | nil =>
      have e : fstep call P X G fr = leave fr none := by simp only [fstep, hm, ht]
      rw [e]
      exact ⟨fun fr' h => leave_cont hm (.inl ⟨rfl, ht⟩) h, fun r h => leave_done hm (.inl ⟨rfl, ht⟩) h⟩
    | cons i k =>
      cases i with
      | code c =>
        cases c with
        | skip =>
          have e : fstep call P X G fr = .cont { fr with todo := k } := by simp only [fstep, hm, ht]
          rw [e]
          refine ⟨fun fr' h => ?_, fun r h => by cases h⟩
          simp only [Stp.cont.injEq] at h; subst h
          exact Prog.ctl hm (fun ι b a cs w hT => by rw [ht]; exact .one stepR_skip)
        | label l =>
          have e : fstep call P X G fr = .cont { fr with todo := k } := by simp only [fstep, hm, ht]
          rw [e]
          refine ⟨fun fr' h => ?_, fun r h => by cases h⟩
          simp only [Stp.cont.injEq] at h; subst h
          exact Prog.ctl hm (fun ι b a cs w hT => by rw [ht]; exact .one stepR_label)
        | seq x y =>
          have e : fstep call P X G fr = .cont { fr with todo := .code x :: .code y :: k } := by simp only [fstep, hm, ht]
          rw [e]
          refine ⟨fun fr' h => ?_, fun r h => by cases h⟩
          simp only [Stp.cont.injEq] at h; subst h
          exact Prog.ctl hm (fun ι b a cs w hT => by rw [ht]; exact .one stepR_seq)
        | block id body =>
          have e : fstep call P X G fr = .cont { fr with todo := .code body :: .inBlock id :: k } := by simp only [fstep, hm, ht]
          rw [e]
          refine ⟨fun fr' h => ?_, fun r h => by cases h⟩
          simp only [Stp.cont.injEq] at h; subst h
          exact Prog.ctl hm (fun ι b a cs w hT => by rw [ht]; exact .one stepR_block)
        | loop body =>
          have e : fstep call P X G fr = .cont { fr with todo := .code body :: .inLoop body :: k } := by simp only [fstep, hm, ht]
          rw [e]
          refine ⟨fun fr' h => ?_, fun r h => by cases h⟩
          simp only [Stp.cont.injEq] at h; subst h
          exact Prog.ctl hm (fun ι b a cs w hT => by rw [ht]; exact .one stepR_loop)
        | scope body =>
          have e : fstep call P X G fr = .cont { fr with todo := .code body :: .inScope body :: k } := by simp only [fstep, hm, ht]
          rw [e]
          refine ⟨fun fr' h => ?_, fun r h => by cases h⟩
          simp only [Stp.cont.injEq] at h; subst h
          exact Prog.ctl hm (fun ι b a cs w hT => by rw [ht]; exact .one (step_lone_go (by simp [stepG, stepG.exec, Frame.atR])))
        | cond c x y =>
          have e : fstep call P X G fr = (match getv G fr.T c with
              | some (.bool true) => .cont { fr with todo := .code x :: k }
              | some (.bool false) => .cont { fr with todo := .code y :: k }
              | _ => .fail) := by simp only [fstep, hm, ht]; rfl
          rw [e]
          refine ⟨fun fr' h => ?_, fun r h => ?_⟩
          · split at h
            · rename_i hc
              simp only [Stp.cont.injEq] at h; subst h
              refine Prog.ctl hm (fun ι b a cs w hT => ?_)
              rw [ht]
              have := hT _ _ hc
              generalize hz : a.eval c = z at this
              cases this
              exact .one (stepR_cond (t := true) hz)
            · rename_i hc
              simp only [Stp.cont.injEq] at h; subst h
              refine Prog.ctl hm (fun ι b a cs w hT => ?_)
              rw [ht]
              have := hT _ _ hc
              generalize hz : a.eval c = z at this
              cases this
              exact .one (stepR_cond (t := false) hz)
            · cases h
          · split at h <;> cases h
        | exit id =>
          have e : fstep call P X G fr = (match exitTo id k with
              | some k' => .cont { fr with todo := k' }
              | none => leave fr (some (.exit id))) := by simp only [fstep, hm, ht]; rfl
          rw [e]
          cases hx : exitTo id k with
          | some k' =>
            refine ⟨fun fr' h => ?_, fun r h => by cases h⟩
            simp only [Stp.cont.injEq] at h; subst h
            exact Prog.ctl hm (fun ι b a cs w hT => by rw [ht]; exact .one (stepR_exit hx))
          | none => exact ⟨fun fr' h => leave_cont hm (.inr (.inr ⟨id, k, rfl, ht, hx⟩)) h, fun r h => leave_done hm (.inr (.inr ⟨id, k, rfl, ht, hx⟩)) h⟩
        | ret =>
          have e : fstep call P X G fr = leave fr (some .ret) := by simp only [fstep, hm, ht]
          rw [e]
          exact ⟨fun fr' h => leave_cont hm (.inr (.inl ⟨k, rfl, ht⟩)) h, fun r h => leave_done hm (.inr (.inl ⟨k, rfl, ht⟩)) h⟩
        | region id ops draw =>
          cases draw with
          | false =>
            have e : fstep call P X G fr = contRR fr k (vops call P X G fr.dk fr.rnd fr.nt ops ops.toList fr.T fr.ds fr.up fr.M fr.nx) := by simp only [fstep, hm, ht]
            rw [e]
            refine ⟨fun fr' h => ?_, fun r h => ?_⟩
            · refine Prog.region hm h (fun r hr ι b a cs w st => ?_)
              have hv := vops_sound (P := P) (X := X) (w0 := w0) (G := G) hX hF hcall (b := b) st.fm.kind (k := k) ops.toList 0 rfl hr st.rel st.gok st.fm.tm st.fm.ds st.fm.rnd st.fm.up st.fresh
              have e2 : List.range' 0 ops.toList.length = List.range ops.size := by rw [List.range_eq_range']; simp
              rw [e2] at hv
              rw [ht]
              exact RREnd.trans st.fresh (Post.refl st.rel) (UpTo.refl st.fm.up) (.one stepR_region) hv
            · unfold contRR at h
              split at h <;> cases h
          | true =>
            have e : fstep call P X G fr = (match plan ops, dstsApart ops.toList with
              | some pl, true => contRR fr k (vdraw call P X G fr.dk fr.rnd fr.nt ops fr.T pl fr.T fr.ds fr.up fr.M fr.nx [] 0)
              | _, _ => .fail) := by simp only [fstep, hm, ht]; rfl
            rw [e]
            refine ⟨fun fr' h => ?_, fun r h => ?_⟩
            · split at h
              · rename_i pl hpl hds
                refine Prog.region hm h (fun r hr ι b a cs w st => ?_)
                rw [ht]
                refine hD call hcall fr id ops pl k r hpl hds hr ι b a cs w st.rel st.gok ?_ st.fresh
                exact st.fm
              · cases h
            · split at h
              · unfold contRR at h
                split at h <;> cases h
              · cases h
        | rangeFunc f params assign body =>
          have e : fstep call P X G fr = (match fr.rnd, getv G fr.T f with
        | none, some (.func (.func g) first cap) =>
          (match enterFr P g (first.toList ++ [.func (.yield (256 * (fr.nx + 1))) #[] #[]] ++ cap.toList) false .run
            ((fr.M.set fr.nx (.defs false)).set (fr.nx + 1) (.loop { st := .ready, pending := none, fn := fr.fn, nt := fr.nt, T := fr.T, params := params.toList, assign, body, defers := 256 * fr.nx })) (fr.nx + 2) with
          | some g => (match call g with
            | some (.ret _ _ M' nx') => (match M'.get (fr.nx + 1) with
              | some (.loop al) => (match al.st with
                | .busy => .fail
                | _ => .cont { fr with todo := (al.pending.map Item.code).toList ++ k, ds := { target := .collected (256 * fr.nx), args := #[] } :: fr.ds, M := M'.set (fr.nx + 1) (.loop { al with st := .exhausted }), nx := nx' })
              | _ => .fail)
            | some (.pan ch _ M' nx') => .cont { fr with todo := [], mode := .panicking ch, ds := { target := .collected (256 * fr.nx), args := #[] } :: fr.ds, M := M', nx := nx' }
            | none => .fail)
          | none => .fail)
        | _, _ => .fail) := by simp only [fstep, hm, ht]; rfl
          rw [e]
          refine ⟨fun fr' h => ?_, fun r h => ?_⟩
          · split at h
            · rename_i gf first cap hr hf
              split at h
              · rename_i g hg
                split at h
                · rename_i v up M' nx' hc
                  split at h
                  · rename_i al hal
                    split at h
                    · cases h
                    · rename_i hb
                      simp only [Stp.cont.injEq] at h; subst h
                      exact range_cont hF hcall hm ht hr hf hg hc (.inl ⟨v, up, M', nx', al, rfl, hal, hb, rfl⟩)
                  · cases h
                · rename_i ch up M' nx' hc
                  simp only [Stp.cont.injEq] at h; subst h
                  exact range_cont hF hcall hm ht hr hf hg hc (.inr ⟨ch, up, M', nx', rfl, rfl⟩)
                · cases h
              · cases h
            · cases h
          · split at h
            · split at h
              · split at h
                · split at h
                  · split at h <;> cases h
                  · cases h
                · cases h
                · cases h
              · cases h
            · cases h
        | _ =>
          have e : fstep call P X G fr = .fail := by simp only [fstep, hm, ht]
          rw [e]
          exact ⟨(fun fr' h => by cases h), (fun r h => by cases h)⟩
      | inBlock id =>
        have e : fstep call P X G fr = .cont { fr with todo := k } := by simp only [fstep, hm, ht]
        rw [e]
        refine ⟨fun fr' h => ?_, fun r h => by cases h⟩
        simp only [Stp.cont.injEq] at h; subst h
        exact Prog.ctl hm (fun ι b a cs w hT => by rw [ht]; exact .one stepR_inBlock)
      | inScope body =>
        have e : fstep call P X G fr = .cont { fr with todo := k } := by simp only [fstep, hm, ht]
        rw [e]
        refine ⟨fun fr' h => ?_, fun r h => by cases h⟩
        simp only [Stp.cont.injEq] at h; subst h
        exact Prog.ctl hm (fun ι b a cs w hT => by rw [ht]; exact .one (step_lone_go (by simp [stepG, stepG.exec, Frame.atR])))
      | inLoop body =>
        have e : fstep call P X G fr = .cont { fr with todo := .code body :: .inLoop body :: k } := by simp only [fstep, hm, ht]
        rw [e]
        refine ⟨fun fr' h => ?_, fun r h => by cases h⟩
        simp only [Stp.cont.injEq] at h; subst h
        exact Prog.ctl hm (fun ι b a cs w hT => by rw [ht]; exact .one stepR_inLoop)
      | beginRound =>
        have e : fstep call P X G fr = (match fr.rnd with
      | some l => (match fr.M.get (l / 256) with
        | some (.loop al) => (match al.st with
          | .ready => .cont { fr with todo := k, M := fr.M.set (l / 256) (.loop { al with st := .busy }) }
          | _ => .fail)
        | _ => .fail)
      | none => .fail) := by simp only [fstep, hm, ht]; rfl
        rw [e]
        refine ⟨fun fr' h => ?_, fun r h => ?_⟩
        · split at h
          · rename_i l hr
            split at h
            · rename_i al hM
              split at h
              · rename_i hst
                simp only [Stp.cont.injEq] at h; subst h
                exact begin_cont hm ht hr hM hst
              · cases h
            · cases h
          · cases h
        · split at h
          · split at h
            · split at h <;> cases h
            · cases h
          · cases h
      | _ =>
        have e : fstep call P X G fr = .fail := by simp only [fstep, hm, ht]
        rw [e]
        exact ⟨(fun fr' h => by cases h), (fun r h => by cases h)⟩

theorem vrun_succ (n : Nat) (fr : Fr) : vrun P X G (n + 1) fr = match fstep (vrun P X G n) P X G fr with
    | .cont fr' => vrun P X G n fr'
    | .done r => some r
    | .fail => none := rfl

theorem vrun_sound (hX : XOk P G w0 X) (hF : FOk P) (hD : Draws P X G w0) : ∀ (n : Nat) (fr : Fr) (r : Res), vrun P X G n fr = some r → SoundT P G w0 fr r
  | 0, fr, r, h => by cases (show (none : Option Res) = some r from h)
  | n + 1, fr, r, h => by
    have ih := vrun_sound hX hF hD n
    have hs := fstep_sound hX hF hD (call := vrun P X G n) (fun fr r hh => (ih fr r hh).sound) fr
    rw [vrun_succ] at h
    split at h
    · rename_i fr' he
      exact (hs.1 fr' he).sound (ih fr' r h)
    · rename_i r' he
      simp only [Option.some.injEq] at h; subst h
      exact hs.2 _ he
    · cases h
end
end Go.Proofs.YtjbanjpklgpenaaGreatDoor.Vm
