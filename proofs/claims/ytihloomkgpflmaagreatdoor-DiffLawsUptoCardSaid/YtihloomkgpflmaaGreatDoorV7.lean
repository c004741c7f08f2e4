/-
  THE ABSTRACT INTERPRETER, part S: one turn, and a whole run, where the drawn regions are sound.
  THE ABSTRACT INTERPRETER, part T: what the listing of a drawn region is worth; quiet operations at other memories; blocks that come late.
  THE ABSTRACT INTERPRETER, part U: quiet operations at other memories; blocks that come late.
  THE ABSTRACT INTERPRETER, part V: a region that draws its order: what has been listed, what has been done.
-/
import Derived.Test.YtihloomkgpflmaaGreatDoorV6
set_option linter.unusedSimpArgs false
set_option linter.unusedVariables false
namespace Go.Proofs.YtihloomkgpflmaaGreatDoor.Vm

/-- What is asked of the regions that draw their order. -/
def Draws (P : Program) (X : Exts) (G : Nat) (w0 : World) : Prop :=
  ∀ (call : Fr → Option Res), (∀ fr r, call fr = some r → Sound P G w0 fr r) → ∀ (fr : Fr) (id : Nat) (ops : Array Oper) (pl : List PStep) (k : List Item) (r : RR), plan ops = some pl → dstsApart ops.toList = true →
    vdraw call P X G fr.dk fr.rnd fr.nt ops fr.T pl fr.T fr.ds fr.up fr.M fr.nx [] 0 = some r →
    ∀ (ι : Iota) (b : Frame) (a : Act) (cs : List Frame) (w : World), R w0 ι fr.M w → GOk G ι → FrR P ι fr b a .run cs → FreshU ι fr.nx →
      RREnd P w0 ι fr.dk fr.nt fr.M fr.nx b (lone (b.atR a (.code (.region id ops true) :: k)) cs w) k cs w r

section
variable {call : Fr → Option Res} {P : Program} {X : Exts} {w0 : World} {G : Nat}

theorem fstep_sound (hX : XOk P G w0 X) (hF : FOk P) (hD : Draws P X G w0) (hcall : ∀ fr r, call fr = some r → Sound P G w0 fr r) (fr : Fr) :
    (∀ fr', fstep call P X G fr = .cont fr' → Prog P G w0 fr fr') ∧ (∀ r, fstep call P X G fr = .done r → SoundT P G w0 fr r) := by
  cases hm : fr.mode with
  | returning =>
    have e : fstep call P X G fr = unwindA call P fr := by simp only [fstep, hm]
    rw [e]
    exact ⟨fun fr' h => unwind_cont hF hcall (by rw [hm]; simp) h, fun r h => unwind_done (by rw [hm]; simp) h⟩
  | panicking ch =>
    have e : fstep call P X G fr = unwindA call P fr := by simp only [fstep, hm]
    rw [e]
    exact ⟨fun fr' h => unwind_cont hF hcall (by rw [hm]; simp) h, fun r h => unwind_done (by rw [hm]; simp) h⟩
  | run =>
    cases ht : fr.todo with
    | nil =>
      have e : fstep call P X G fr = leave fr none := by simp only [fstep, hm, ht]
      rw [e]
      exact ⟨fun fr' h => leave_cont hm (.inl ⟨rfl, ht⟩) h, fun r h => leave_done hm (.inl ⟨rfl, ht⟩) h⟩
    | cons i k =>
      cases i with
      | code c =>
        cases c with
        | skip =>
          have e : fstep call P X G fr = .cont { fr with todo := k } := by simp only [fstep, hm, ht]
          rw [e]
          refine ⟨fun fr' h => ?_, fun r h => by cases h⟩
          simp only [Stp.cont.injEq] at h; subst h
          exact Prog.ctl hm (fun ι b a cs w hT => by rw [ht]; exact .one stepR_skip)
        | label l =>
          have e : fstep call P X G fr = .cont { fr with todo := k } := by simp only [fstep, hm, ht]
          rw [e]
          refine ⟨fun fr' h => ?_, fun r h => by cases h⟩
          simp only [Stp.cont.injEq] at h; subst h
          exact Prog.ctl hm (fun ι b a cs w hT => by rw [ht]; exact .one stepR_label)
        | seq x y =>
          have e : fstep call P X G fr = .cont { fr with todo := .code x :: .code y :: k } := by simp only [fstep, hm, ht]
          rw [e]
          refine ⟨fun fr' h => ?_, fun r h => by cases h⟩
          simp only [Stp.cont.injEq] at h; subst h
          exact Prog.ctl hm (fun ι b a cs w hT => by rw [ht]; exact .one stepR_seq)
        | block id body =>
          have e : fstep call P X G fr = .cont { fr with todo := .code body :: .inBlock id :: k } := by simp only [fstep, hm, ht]
          rw [e]
          refine ⟨fun fr' h => ?_, fun r h => by cases h⟩
          simp only [Stp.cont.injEq] at h; subst h
          exact Prog.ctl hm (fun ι b a cs w hT => by rw [ht]; exact .one stepR_block)
        | loop body =>
          have e : fstep call P X G fr = .cont { fr with todo := .code body :: .inLoop body :: k } := by simp only [fstep, hm, ht]
          rw [e]
          refine ⟨fun fr' h => ?_, fun r h => by cases h⟩
          simp only [Stp.cont.injEq] at h; subst h
          exact Prog.ctl hm (fun ι b a cs w hT => by rw [ht]; exact .one stepR_loop)
        | scope body =>
          have e : fstep call P X G fr = .cont { fr with todo := .code body :: .inScope body :: k } := by simp only [fstep, hm, ht]
          rw [e]
          refine ⟨fun fr' h => ?_, fun r h => by cases h⟩
          simp only [Stp.cont.injEq] at h; subst h
          exact Prog.ctl hm (fun ι b a cs w hT => by rw [ht]; exact .one (step_lone_go (by simp [stepG, stepG.exec, Frame.atR])))
        | cond c x y =>
          have e : fstep call P X G fr = (match getv G fr.T c with
              | some (.bool true) => .cont { fr with todo := .code x :: k }
              | some (.bool false) => .cont { fr with todo := .code y :: k }
              | _ => .fail) := by simp only [fstep, hm, ht]; rfl
          rw [e]
          refine ⟨fun fr' h => ?_, fun r h => ?_⟩
          · split at h
            · rename_i hc
              simp only [Stp.cont.injEq] at h; subst h
              refine Prog.ctl hm (fun ι b a cs w hT => ?_)
              rw [ht]
              have := hT _ _ hc
              generalize hz : a.eval c = z at this
              cases this
              exact .one (stepR_cond (t := true) hz)
            · rename_i hc
              simp only [Stp.cont.injEq] at h; subst h
              refine Prog.ctl hm (fun ι b a cs w hT => ?_)
              rw [ht]
              have := hT _ _ hc
              generalize hz : a.eval c = z at this
              cases this
              exact .one (stepR_cond (t := false) hz)
            · cases h
          · split at h <;> cases h
        | exit id =>
          have e : fstep call P X G fr = (match exitTo id k with
              | some k' => .cont { fr with todo := k' }
              | none => leave fr (some (.exit id))) := by simp only [fstep, hm, ht]; rfl
          rw [e]
          cases hx : exitTo id k with
          | some k' =>
            refine ⟨fun fr' h => ?_, fun r h => by cases h⟩
            simp only [Stp.cont.injEq] at h; subst h
            exact Prog.ctl hm (fun ι b a cs w hT => by rw [ht]; exact .one (stepR_exit hx))
          | none => exact ⟨fun fr' h => leave_cont hm (.inr (.inr ⟨id, k, rfl, ht, hx⟩)) h, fun r h => leave_done hm (.inr (.inr ⟨id, k, rfl, ht, hx⟩)) h⟩
        | ret =>
          have e : fstep call P X G fr = leave fr (some .ret) := by simp only [fstep, hm, ht]
          rw [e]
          exact ⟨fun fr' h => leave_cont hm (.inr (.inl ⟨k, rfl, ht⟩)) h, fun r h => leave_done hm (.inr (.inl ⟨k, rfl, ht⟩)) h⟩
        | region id ops draw =>
          cases draw with
          | false =>
            have e : fstep call P X G fr = contRR fr k (vops call P X G fr.dk fr.rnd fr.nt ops ops.toList fr.T fr.ds fr.up fr.M fr.nx) := by simp only [fstep, hm, ht]
            rw [e]
            refine ⟨fun fr' h => ?_, fun r h => ?_⟩
            · refine Prog.region hm h (fun r hr ι b a cs w st => ?_)
              have hv := vops_sound (P := P) (X := X) (w0 := w0) (G := G) hX hF hcall (b := b) st.fm.kind (k := k) ops.toList 0 rfl hr st.rel st.gok st.fm.tm st.fm.ds st.fm.rnd st.fm.up st.fresh
              have e2 : List.range' 0 ops.toList.length = List.range ops.size := by rw [List.range_eq_range']; simp
              rw [e2] at hv
              rw [ht]
              exact RREnd.trans st.fresh (Post.refl st.rel) (UpTo.refl st.fm.up) (.one stepR_region) hv
            · unfold contRR at h
              split at h <;> cases h
          | true =>
            have e : fstep call P X G fr = (match plan ops, dstsApart ops.toList with
              | some pl, true => contRR fr k (vdraw call P X G fr.dk fr.rnd fr.nt ops fr.T pl fr.T fr.ds fr.up fr.M fr.nx [] 0)
              | _, _ => .fail) := by simp only [fstep, hm, ht]; rfl
            rw [e]
            refine ⟨fun fr' h => ?_, fun r h => ?_⟩
            · split at h
              · rename_i pl hpl hds
                refine Prog.region hm h (fun r hr ι b a cs w st => ?_)
                rw [ht]
                refine hD call hcall fr id ops pl k r hpl hds hr ι b a cs w st.rel st.gok ?_ st.fresh
                exact st.fm
              · cases h
            · split at h
              · unfold contRR at h
                split at h <;> cases h
              · cases h
        | rangeFunc f params assign body =>
          have e : fstep call P X G fr = (match fr.rnd, getv G fr.T f with
        | none, some (.func (.func g) first cap) =>
          (match enterFr P g (first.toList ++ [.func (.yield (256 * (fr.nx + 1))) #[] #[]] ++ cap.toList) false .run
            ((fr.M.set fr.nx (.defs false)).set (fr.nx + 1) (.loop { st := .ready, pending := none, fn := fr.fn, nt := fr.nt, T := fr.T, params := params.toList, assign, body, defers := 256 * fr.nx })) (fr.nx + 2) with
          | some g => (match call g with
            | some (.ret _ _ M' nx') => (match M'.get (fr.nx + 1) with
              | some (.loop al) => (match al.st with
                | .busy => .fail
                | _ => .cont { fr with todo := (al.pending.map Item.code).toList ++ k, ds := { target := .collected (256 * fr.nx), args := #[] } :: fr.ds, M := M'.set (fr.nx + 1) (.loop { al with st := .exhausted }), nx := nx' })
              | _ => .fail)
            | some (.pan ch _ M' nx') => .cont { fr with todo := [], mode := .panicking ch, ds := { target := .collected (256 * fr.nx), args := #[] } :: fr.ds, M := M', nx := nx' }
            | none => .fail)
          | none => .fail)
        | _, _ => .fail) := by simp only [fstep, hm, ht]; rfl
          rw [e]
          refine ⟨fun fr' h => ?_, fun r h => ?_⟩
          · split at h
            · rename_i gf first cap hr hf
              split at h
              · rename_i g hg
                split at h
                · rename_i v up M' nx' hc
                  split at h
                  · rename_i al hal
                    split at h
                    · cases h
                    · rename_i hb
                      simp only [Stp.cont.injEq] at h; subst h
                      exact range_cont hF hcall hm ht hr hf hg hc (.inl ⟨v, up, M', nx', al, rfl, hal, hb, rfl⟩)
                  · cases h
                · rename_i ch up M' nx' hc
                  simp only [Stp.cont.injEq] at h; subst h
                  exact range_cont hF hcall hm ht hr hf hg hc (.inr ⟨ch, up, M', nx', rfl, rfl⟩)
                · cases h
              · cases h
            · cases h
          · split at h
            · split at h
              · split at h
                · split at h
                  · split at h <;> cases h
                  · cases h
                · cases h
                · cases h
              · cases h
            · cases h
        | _ =>
          have e : fstep call P X G fr = .fail := by simp only [fstep, hm, ht]
          rw [e]
          exact ⟨(fun fr' h => by cases h), (fun r h => by cases h)⟩
      | inBlock id =>
        have e : fstep call P X G fr = .cont { fr with todo := k } := by simp only [fstep, hm, ht]
        rw [e]
        refine ⟨fun fr' h => ?_, fun r h => by cases h⟩
        simp only [Stp.cont.injEq] at h; subst h
        exact Prog.ctl hm (fun ι b a cs w hT => by rw [ht]; exact .one stepR_inBlock)
      | inScope body =>
        have e : fstep call P X G fr = .cont { fr with todo := k } := by simp only [fstep, hm, ht]
        rw [e]
        refine ⟨fun fr' h => ?_, fun r h => by cases h⟩
        simp only [Stp.cont.injEq] at h; subst h
        exact Prog.ctl hm (fun ι b a cs w hT => by rw [ht]; exact .one (step_lone_go (by simp [stepG, stepG.exec, Frame.atR])))
      | inLoop body =>
        have e : fstep call P X G fr = .cont { fr with todo := .code body :: .inLoop body :: k } := by simp only [fstep, hm, ht]
        rw [e]
        refine ⟨fun fr' h => ?_, fun r h => by cases h⟩
        simp only [Stp.cont.injEq] at h; subst h
        exact Prog.ctl hm (fun ι b a cs w hT => by rw [ht]; exact .one stepR_inLoop)
      | beginRound =>
        have e : fstep call P X G fr = (match fr.rnd with
      | some l => (match fr.M.get (l / 256) with
        | some (.loop al) => (match al.st with
          | .ready => .cont { fr with todo := k, M := fr.M.set (l / 256) (.loop { al with st := .busy }) }
          | _ => .fail)
        | _ => .fail)
      | none => .fail) := by simp only [fstep, hm, ht]; rfl
        rw [e]
        refine ⟨fun fr' h => ?_, fun r h => ?_⟩
        · split at h
          · rename_i l hr
            split at h
            · rename_i al hM
              split at h
              · rename_i hst
                simp only [Stp.cont.injEq] at h; subst h
                exact begin_cont hm ht hr hM hst
              · cases h
            · cases h
          · cases h
        · split at h
          · split at h
            · split at h <;> cases h
            · cases h
          · cases h
      | _ =>
        have e : fstep call P X G fr = .fail := by simp only [fstep, hm, ht]
        rw [e]
        exact ⟨(fun fr' h => by cases h), (fun r h => by cases h)⟩

theorem vrun_succ (n : Nat) (fr : Fr) : vrun P X G (n + 1) fr = match fstep (vrun P X G n) P X G fr with
    | .cont fr' => vrun P X G n fr'
    | .done r => some r
    | .fail => none := rfl

theorem vrun_sound (hX : XOk P G w0 X) (hF : FOk P) (hD : Draws P X G w0) : ∀ (n : Nat) (fr : Fr) (r : Res), vrun P X G n fr = some r → SoundT P G w0 fr r
  | 0, fr, r, h => by cases (show (none : Option Res) = some r from h)
  | n + 1, fr, r, h => by
    have ih := vrun_sound hX hF hD n
    have hs := fstep_sound hX hF hD (call := vrun P X G n) (fun fr r hh => (ih fr r hh).sound) fr
    rw [vrun_succ] at h
    split at h
    · rename_i fr' he
      exact (hs.1 fr' he).sound (ih fr' r h)
    · rename_i r' he
      simp only [Option.some.injEq] at h; subst h
      exact hs.2 _ he
    · cases h
end
end Go.Proofs.YtihloomkgpflmaaGreatDoor.Vm

namespace Go.Proofs.YtihloomkgpflmaaGreatDoor.Vm

/-! ### who waits for whom -/
inductive Pre (ops : Array Oper) : Nat → Nat → Prop
  | here {i e : Nat} {o : Oper} (ho : ops[i]? = some o) (he : e ∈ directs o) : Pre ops e i
  | there {i e j : Nat} {o : Oper} (ho : ops[i]? = some o) (he : e ∈ directs o) (h : Pre ops j e) : Pre ops j i

theorem mem_directs {o : Oper} {j : Nat} : j ∈ directs o ↔ ∃ e ∈ o.after, Region.binds .any e = true ∧ e.on = j := by
  unfold directs
  rw [List.mem_filterMap]
  constructor
  · rintro ⟨e, he, hx⟩
    cases hb : Region.binds .any e with
    | false => rw [hb] at hx; simp at hx
    | true => rw [hb] at hx; simp at hx; exact ⟨e, by simpa using he, hb, hx⟩
  · rintro ⟨e, he, hb, hx⟩
    exact ⟨e, by simpa using he, by rw [hb]; simpa using hx⟩

theorem lst_iff {acc : List PStep} {j : Nat} : lst acc j = true ↔ ∃ p ∈ acc, p.i = j := by
  unfold lst
  rw [List.any_eq_true]
  constructor
  · rintro ⟨p, hp, h⟩; exact ⟨p, hp, Nat.eq_of_beq_eq_true h⟩
  · rintro ⟨p, hp, h⟩; exact ⟨p, hp, by rw [Nat.beq_eq]; exact h⟩

theorem maskAt_mem : ∀ {acc : List PStep} {e j : Nat}, Nat.testBit (maskAt acc e) j = true → ∃ p ∈ acc, p.i = e ∧ Nat.testBit p.mask j = true
  | [], e, j, h => by simp [maskAt] at h
  | p :: ps, e, j, h => by
    simp only [maskAt] at h
    cases hb : Nat.beq p.i e with
    | true =>
      rw [hb] at h
      exact ⟨p, by simp, Nat.eq_of_beq_eq_true hb, h⟩
    | false =>
      rw [hb] at h
      obtain ⟨q, h1, h2, h3⟩ := maskAt_mem h
      exact ⟨q, List.mem_cons_of_mem _ h1, h2, h3⟩
theorem maskOf_mem {acc : List PStep} {j : Nat} : ∀ {es : List Nat}, Nat.testBit (maskOf acc es) j = true → ∃ e ∈ es, e = j ∨ ∃ p ∈ acc, p.i = e ∧ Nat.testBit p.mask j = true
  | [], h => by simp [maskOf] at h
  | e :: es, h => by
    have h' : Nat.testBit ((2 ^ e ||| maskAt acc e) ||| maskOf acc es) j = true := h
    rw [Nat.testBit_or, Nat.testBit_or, Nat.testBit_two_pow] at h'
    simp only [Bool.or_eq_true, decide_eq_true_eq] at h'
    rcases h' with (h' | h') | h'
    · exact ⟨e, by simp, .inl h'⟩
    · exact ⟨e, by simp, .inr (maskAt_mem h')⟩
    · obtain ⟨e', h1, h2⟩ := maskOf_mem h'
      exact ⟨e', List.mem_cons_of_mem _ h1, h2⟩

/-- What a good listing is (the newest first). -/
def WF (ops : Array Oper) : List PStep → Prop
  | [] => True
  | s :: acc => WF ops acc ∧ ∃ o, ops[s.i]? = some o ∧ s.kind = opKind o.op ∧ (∀ p ∈ acc, p.i ≠ s.i) ∧ (∀ e ∈ directs o, ∃ p ∈ acc, p.i = e) ∧
      (∀ j, Nat.testBit s.mask j = true → Pre ops j s.i) ∧ (∀ p ∈ acc, Pre ops p.i s.i ∨ ∃ q, ops[p.i]? = some q ∧ Oper.apart ops q o = true) ∧
      (s.kind = 3 → ∀ j q, ops[j]? = some q → (∀ p ∈ acc, p.i ≠ j) → j ≠ s.i → ∃ e ∈ directs q, ∀ p ∈ acc, p.i ≠ e)

theorem WF.masks {ops : Array Oper} : ∀ {acc : List PStep}, WF ops acc → ∀ p ∈ acc, ∀ j, Nat.testBit p.mask j = true → Pre ops j p.i
  | s :: acc, h, p, hp, j, hj => by
    rcases List.mem_cons.1 hp with e | hp
    · subst e
      obtain ⟨_, o, _, _, _, _, h5, _⟩ := h
      exact h5 j hj
    · exact WF.masks h.1 p hp j hj

theorem wfb_wf {ops : Array Oper} : ∀ {acc : List PStep}, wfb ops acc = true → WF ops acc
  | [], _ => trivial
  | s :: acc, h => by
    simp only [wfb, Bool.and_eq_true] at h
    obtain ⟨h0, h⟩ := h
    have ih := wfb_wf h0
    split at h
    · cases h
    · rename_i o ho
      simp only [Bool.and_eq_true, Bool.or_eq_true, Bool.not_eq_true', List.all_eq_true] at h
      obtain ⟨⟨⟨⟨⟨h1, h2⟩, h3⟩, h4⟩, h5⟩, h6⟩ := h
      have hnl : ∀ j, lst acc j = false → ∀ p ∈ acc, p.i ≠ j := fun j hj p hp e => by
        have := lst_iff.2 ⟨p, hp, e⟩
        rw [hj] at this; cases this
      refine ⟨ih, o, ho, Nat.eq_of_beq_eq_true h1, hnl _ h2, fun e he => lst_iff.1 (h3 e he), fun j hj => ?_, fun p hp => ?_, fun hk j q hq hnot hne => ?_⟩
      · rw [Nat.eq_of_beq_eq_true h4] at hj
        obtain ⟨e, he, hx⟩ := maskOf_mem hj
        rcases hx with rfl | ⟨p, hp, rfl, hb⟩
        · exact .here ho he
        · exact .there ho he (ih.masks p hp j hb)
      · rcases h5 p hp with h | h
        · rw [Nat.eq_of_beq_eq_true h4] at h
          obtain ⟨e, he, hx⟩ := maskOf_mem h
          rcases hx with hx | ⟨p', hp', hx, hb⟩
          · subst hx; exact .inl (.here ho he)
          · exact .inl (.there ho he (by rw [← hx]; exact ih.masks p' hp' _ hb))
        · split at h
          · rename_i q hq
            exact .inr ⟨q, hq, h⟩
          · cases h
      · rcases h6 with h6 | h6
        · have : Nat.beq s.kind 3 = true := by rw [Nat.beq_eq]; exact hk
          rw [this] at h6; cases h6
        · have hj : j ∈ List.range ops.size := by rw [List.mem_range]; exact (Array.getElem?_eq_some_iff.1 hq).1
          rcases h6 j hj with (h6 | h6) | h6
          · obtain ⟨p, hp, e⟩ := lst_iff.1 h6
            exact absurd e (hnot p hp)
          · exact absurd (Nat.eq_of_beq_eq_true h6) hne
          · rw [hq] at h6
            simp only [List.any_eq_true, Bool.not_eq_true'] at h6
            obtain ⟨e, he, hx⟩ := h6
            exact ⟨e, he, hnl e hx⟩

theorem plan_spec {ops : Array Oper} {pl : List PStep} (h : plan ops = some pl) : WF ops pl.reverse ∧ ∀ j, j < ops.size → ∃ p ∈ pl, p.i = j := by
  unfold plan at h
  split at h
  · rename_i acc ha
    cases hw : wfb ops acc && whole ops acc with
    | false => rw [hw] at h; simp at h
    | true =>
      rw [hw] at h; simp at h; subst h
      simp only [Bool.and_eq_true] at hw
      refine ⟨by rw [List.reverse_reverse]; exact wfb_wf hw.1, fun j hj => ?_⟩
      have hwh := hw.2
      unfold whole at hwh
      rw [List.all_eq_true] at hwh
      obtain ⟨p, hp, e⟩ := lst_iff.1 (hwh j (List.mem_range.2 hj))
      exact ⟨p, by simpa using hp, e⟩
  · cases h

theorem dsts_apart : ∀ {l : List Oper}, dstsApart l = true → ∀ {i j : Nat} {x y : Oper} {d : Tmp}, l[i]? = some x → l[j]? = some y → x.dst = some d → y.dst = some d → i = j
  | [], _, i, j, x, y, d, hx, _, _, _ => by simp at hx
  | o :: rest, h, i, j, x, y, d, hx, hy, hdx, hdy => by
    simp only [dstsApart, Bool.and_eq_true] at h
    have key : ∀ {i : Nat} {z : Oper}, rest[i]? = some z → z.dst = some d → o.dst ≠ some d := by
      intro i z hz hd he
      have h1 := h.1
      rw [he] at h1
      simp only [List.all_eq_true] at h1
      have := h1 z (List.mem_of_getElem? hz)
      rw [hd] at this
      simp at this
    cases i with
    | zero =>
      cases j with
      | zero => rfl
      | succ j =>
        simp at hx hy; subst hx
        exact absurd hdx (key hy hdy)
    | succ i =>
      cases j with
      | zero =>
        simp at hx hy; subst hy
        exact absurd hdy (key hx hdx)
      | succ j =>
        simp at hx hy
        have := dsts_apart h.2 hx hy hdx hdy
        rw [this]

/-! ### one value, twice -/
theorem veqAddr_eq {a b : Option Addr} (h : veqAddr a b = true) : a = b := by
  unfold veqAddr at h
  split at h
  · rfl
  · simp only [Bool.and_eq_true] at h
    rw [Nat.eq_of_beq_eq_true h.1, Nat.eq_of_beq_eq_true h.2]
  · cases h
theorem veqA_eq {f : Value → Value → Bool} (hf : ∀ v u, f v u = true → v = u) : ∀ {v u : List Value}, veqA f v u = true → v = u
  | [], [], _ => rfl
  | _ :: _, [], h => by simp [veqA] at h
  | [], _ :: _, h => by simp [veqA] at h
  | a :: as, b :: bs, h => by
    simp only [veqA, Bool.and_eq_true] at h
    rw [hf _ _ h.1, veqA_eq hf h.2]
theorem veq_eq : ∀ {n : Nat} {v u : Value}, veq n v u = true → v = u
  | 0, v, u, h => by simp [veq] at h
  | n + 1, v, u, h => by
    have ih : ∀ v u, veq n v u = true → v = u := fun v u h => veq_eq h
    unfold veq at h
    split at h
    · simp at h; rw [h]
    · simp only [Bool.and_eq_true, decide_eq_true_eq, eqI_eq, beq_iff_eq] at h; rw [h.1, h.2]
    · rename_i a b
      simp only [beq_iff_eq] at h
      have : a = b := by
        cases a; cases b
        simp only [ByteArray.mk.injEq]
        exact Array.toList_inj.1 h
      rw [this]
    · rw [veqAddr_eq h]
    · simp only [Bool.and_eq_true] at h
      rw [veqAddr_eq h.1.1, Nat.eq_of_beq_eq_true h.1.2, Nat.eq_of_beq_eq_true h.2]
    · rfl
    · rw [Nat.eq_of_beq_eq_true h]
    · rfl
    · rfl
    · simp only [Bool.and_eq_true, decide_eq_true_eq] at h
      rw [h.1.1, Array.toList_inj.1 (veqA_eq ih h.1.2), Array.toList_inj.1 (veqA_eq ih h.2)]
    · simp only [Bool.and_eq_true] at h
      rw [Nat.eq_of_beq_eq_true h.1, veq_eq h.2]
    · rw [Array.toList_inj.1 (veqA_eq ih h)]
    · rw [Array.toList_inj.1 (veqA_eq ih h)]
    · cases h
theorem veqL_eq {n : Nat} {v u : List Value} (h : veqL n v u = true) : v = u := veqA_eq (fun _ _ h => veq_eq h) h
end Go.Proofs.YtihloomkgpflmaaGreatDoor.Vm

namespace Go.Proofs.YtihloomkgpflmaaGreatDoor.Vm

theorem restr_get {T : Tr Value} {t : Tmp} {v : Value} : ∀ {ts : List Tmp}, (restr ts T).get t = some v → t ∈ ts ∧ T.get t = some v
  | [], h => by simp [restr, Tr.get_nil] at h
  | s :: ts, h => by
    simp only [restr] at h
    split at h
    · rename_i u hu
      by_cases e : t = s
      · subst e
        rw [Tr.get_set_same] at h
        simp at h; subst h
        exact ⟨by simp, hu⟩
      · rw [Tr.get_set_ne _ _ e] at h
        obtain ⟨h1, h2⟩ := restr_get h
        exact ⟨List.mem_cons_of_mem _ h1, h2⟩
    · obtain ⟨h1, h2⟩ := restr_get h
      exact ⟨List.mem_cons_of_mem _ h1, h2⟩

section
variable {P : Program} {G : Nat} {T : Tr Value} {op : Op} {v : Value} {M M' : Tr Blk} {nx nx' : Nat}

theorem opKind_le : opKind op = 0 ∨ opKind op = 1 ∨ opKind op = 2 ∨ opKind op = 3 := by
  unfold opKind
  split <;> first | simp | (split <;> simp)

theorem aquiet_k0 (hk : opKind op = 0) (h : aquiet P G T M nx op = some (v, M', nx')) : M' = M ∧ nx' = nx ∧ ∀ (M2 : Tr Blk) (n2 : Nat), aquiet P G T M2 n2 op = some (v, M2, n2) := by
  have key : ∀ (o : Option Value), (match o with | some v => some (v, M, nx) | none => none) = some (v, M', nx') → M' = M ∧ nx' = nx ∧ o = some v := by
    intro o ho
    cases o with
    | none => cases ho
    | some u => simp at ho; obtain ⟨rfl, rfl, rfl⟩ := ho; exact ⟨rfl, rfl, rfl⟩
  have fin : (∀ (M2 : Tr Blk) (n2 : Nat), aquiet P G T M2 n2 op = match apure P G T op with | some v => some (v, M2, n2) | none => none) → M' = M ∧ nx' = nx ∧ ∀ (M2 : Tr Blk) (n2 : Nat), aquiet P G T M2 n2 op = some (v, M2, n2) := by
    intro he
    rw [he] at h
    obtain ⟨h1, h2, h3⟩ := key _ h
    exact ⟨h1, h2, fun M2 n2 => by rw [he, h3]⟩
  cases op <;> first | (exfalso; simp [opKind] at hk; done) | exact fin (fun M2 n2 => rfl) | skip
  all_goals (exfalso; revert hk; unfold opKind; split <;> simp_all)

theorem aquiet_k1 (hk : opKind op = 1) (h : aquiet P G T M nx op = some (v, M', nx')) : M' = M ∧ nx' = nx ∧ ∀ (n2 : Nat), aquiet P G T M n2 op = some (v, M, n2) := by
  cases op <;> first | (exfalso; simp [opKind] at hk; done) | skip
  case load t a =>
    simp only [aquiet] at h ⊢
    split at h
    · split at h
      · rename_i x hx r hr
        simp at h; obtain ⟨rfl, rfl, rfl⟩ := h
        exact ⟨rfl, rfl, fun n2 => by simp only [hr]⟩
      · cases h
    · cases h
  case lookup t m k ok =>
    simp only [aquiet] at h ⊢
    split at h
    · split at h
      · rename_i a b ha hb r hr
        simp at h; obtain ⟨rfl, rfl, rfl⟩ := h
        exact ⟨rfl, rfl, fun n2 => by simp only [hr]⟩
      · cases h
    · cases h
  all_goals (exfalso; revert hk; unfold opKind; split <;> first | (simp; done) | (split <;> simp_all; done) | simp_all)

theorem cond_some {α : Type} {c : Bool} {x y : α} (h : (bif c then some x else none) = some y) : c = true ∧ x = y := by
  cases c with
  | false => cases h
  | true => exact ⟨rfl, by simpa using h⟩

theorem aquiet_k2 (hk : opKind op = 2) (h : aquiet P G T M nx op = some (v, M', nx')) : ∃ x, M' = M.set nx x ∧ nx' = nx + 1 ∧ ∀ (M2 : Tr Blk), aquiet P G T M2 nx op = some (v, M2.set nx x, nx + 1) := by
  cases op <;> first | (exfalso; simp [opKind] at hk; done) | skip
  case alloc e =>
    simp only [aquiet, aAlloc] at h ⊢
    split at h
    · rename_i z hz
      simp [aBox] at h; obtain ⟨rfl, rfl, rfl⟩ := h
      exact ⟨_, rfl, rfl, fun M2 => rfl⟩
    · cases h
  case box e x =>
    simp only [aquiet] at h ⊢
    split at h
    · rename_i z hz
      simp [aBox] at h; obtain ⟨rfl, rfl, rfl⟩ := h
      exact ⟨_, rfl, rfl, fun M2 => rfl⟩
    · simp [aBoxU] at h; obtain ⟨rfl, rfl, rfl⟩ := h
      exact ⟨_, rfl, rfl, fun M2 => rfl⟩
  case buildSlice t n ps =>
    simp only [aquiet, aBuildSlice] at h ⊢
    split at h
    · split at h
      · split at h
        · rename_i sz z hsz hz
          generalize hc : (Nat.ble (n * sz) 16777216 && Nat.blt 0 (n * sz) && Nat.blt 0 z.cells.size) = c at h
          cases c with
          | false => simp at h
          | true =>
            simp only [cond_true] at h
            split at h
            · rename_i cells hcells
              simp at h; obtain ⟨rfl, rfl, rfl⟩ := h
              exact ⟨_, rfl, rfl, fun M2 => by simp only [hc, cond_true, hcells]⟩
            · cases h
        · cases h
      · cases h
    · cases h
  case makeSlice t l c =>
    simp only [aquiet] at h ⊢
    split at h
    · unfold aMakeSlice at h ⊢
      split at h
      · split at h
        · obtain ⟨hc, h⟩ := cond_some h
          simp only [Prod.mk.injEq] at h
          obtain ⟨rfl, rfl, rfl⟩ := h
          exact ⟨_, rfl, rfl, fun M2 => by simp only [hc, cond_true]⟩
        · cases h
      · cases h
    · cases h
  all_goals (exfalso; revert hk; unfold opKind; split <;> first | (simp; done) | (split <;> simp_all; done) | simp_all)

theorem watch_rd {i lm : Nat} (h : watchOk P G lm M (.rd i op T v) = true) : Nat.testBit lm i = true ∨ ∃ M' n', aquiet P G T M 0 op = some (v, M', n') := by
  simp only [watchOk, Bool.or_eq_true] at h
  rcases h with h | h
  · exact .inl h
  · split at h
    · rename_i u M' n' hq
      have := veq_eq h
      subst this
      exact .inr ⟨M', n', hq⟩
    · cases h
theorem watch_new {i n lm : Nat} {vs : List Value} (h : watchOk P G lm M (.new i n vs) = true) : Nat.testBit lm i = true ∨ M.get n = some (.cells false vs) := by
  simp only [watchOk, Bool.or_eq_true] at h
  rcases h with h | h
  · exact .inl h
  · split at h
    · rename_i us hq
      have := veqL_eq h
      subst this
      exact .inr hq
    · cases h
end

/-! ### memories that say the same -/
theorem R.congr {w0 : World} {ι : Iota} {M M' : Tr Blk} {w : World} (h : R w0 ι M w) (e : ∀ b l, ι b = some l → M'.get (b / 256) = M.get (b / 256)) : R w0 ι M' w :=
  ⟨h.kinds, h.uniq, fun b x l hm hι => h.live b x l (by rw [← e b l hι]; exact hm) hι,
    fun b b' x x' l l' hm hm' hd hd' hι hι' hb => h.inj b b' x x' l l' (by rw [← e b l hι]; exact hm) (by rw [← e b' l' hι']; exact hm') hd hd' hι hι' hb,
    fun b x l hm hw hι => h.own b x l (by rw [← e b l hι]; exact hm) hw hι, h.size, h.old, h.os, h.output, h.tape,
    fun a v ha => ⟨(h.fz a v ha).1, fun b x l hm hw hι => (h.fz a v ha).2 b x l (by rw [← e b l hι]; exact hm) hw hι⟩⟩

/-- The interpreter's memory has gone on by blocks that are not there yet. -/
theorem Post.widen {w0 : World} {ι κ : Iota} {M M1 M2 : Tr Blk} {nx nx1 nx2 : Nat} {w w1 : World} (h : Post w0 ι M nx w κ M1 nx1 w1) (hf : FreshU κ nx1) (hle : nx1 ≤ nx2) (hs : ∀ k, k < nx1 → M2.get k = M1.get k)
    (hd : ∀ k, M2.get k ≠ none → M1.get k ≠ none ∨ (nx1 ≤ k ∧ k < nx2)) : Post w0 ι M nx w κ M2 nx2 w1 := by
  refine ⟨h.ext, fun b l h1 h2 => ?_, fun n hn => ?_, Nat.le_trans h.le hle, h.rel.congr (fun b l hb => ?_), h.frame, h.size, h.fzn⟩
  · have := h.new b l h1 h2
    exact ⟨⟨this.1.1, Nat.lt_of_lt_of_le this.1.2 hle⟩, this.2⟩
  · rcases hd n hn with h1 | h1
    · rcases h.dom n h1 with h2 | h2
      · exact .inl h2
      · exact .inr ⟨h2.1, Nat.lt_of_lt_of_le h2.2 hle⟩
    · exact .inr ⟨Nat.le_trans h.le h1.1, h1.2⟩
  · refine hs _ ?_
    rcases Nat.lt_or_ge (b / 256) nx1 with h1 | h1
    · exact h1
    · rw [hf b h1] at hb; cases hb

/-- A block comes that the interpreter has long had. -/
theorem Post.late {w0 : World} {ι κ μ : Iota} {M M1 M2 : Tr Blk} {nx nx1 n n2 : Nat} {w w1 w2 : World} (hf : FreshU ι nx) (h : Post w0 ι M nx w κ M1 nx1 w1) (g : Post w0 κ M1 n w1 μ M2 n2 w2) (hn : nx ≤ n) (hn2 : n2 ≤ nx1) (he : ∀ k, M1.get k = M2.get k) :
    Post w0 ι M nx w μ M1 nx1 w2 := by
  have back : ∀ b x l, M1.get (b / 256) = some x → κ b = some l → (∃ x' l', M.get (b / 256) = some x' ∧ ι b = some l' ∧ l'.blk = l.blk) ∨ w.heap.size ≤ l.blk ∨ ∃ b' x' l', M.get (b' / 256) = some x' ∧ ι b' = some l' ∧ l'.blk = l.blk := by
    intro b x l hm hk
    cases hi : ι b with
    | none => exact .inr (h.new b l hi hk).2
    | some l0 =>
      have hl : l0 = l := by have := h.ext b l0 hi; rw [hk] at this; injection this with this; exact this.symm
      subst hl
      rcases h.dom (b / 256) (by rw [hm]; simp) with hd | hd
      · cases hx : M.get (b / 256) with
        | none => exact absurd hx hd
        | some x' => exact .inl ⟨x', l0, rfl, rfl, rfl⟩
      · have := hf b hd.1
        rw [hi] at this; cases this
  refine ⟨h.ext.trans g.ext, ?_, h.dom, h.le, g.rel.congr (fun b l _ => he _), ?_, Nat.le_trans h.size g.size, ?_⟩
  · intro b l hi hm
    cases hk : κ b with
    | some l' =>
      have hl : l' = l := by have := g.ext b l' hk; rw [hm] at this; injection this with this; exact this.symm
      subst hl
      exact h.new b l' hi hk
    | none =>
      have := g.new b l hk hm
      refine ⟨⟨Nat.le_trans hn this.1.1, Nat.lt_of_lt_of_le this.1.2 hn2⟩, ?_⟩
      rcases this.2 with hs | ⟨b', x', l', h1, h2, h3⟩
      · exact .inl (Nat.le_trans h.size hs)
      · rcases back b' x' l' h1 h2 with ⟨x2, l2, k1, k2, k3⟩ | hs | ⟨b2, x2, l2, k1, k2, k3⟩
        · exact .inr ⟨b', x2, l2, k1, k2, k3.trans h3⟩
        · exact .inl (by omega)
        · exact .inr ⟨b2, x2, l2, k1, k2, k3.trans h3⟩
  · intro c hc hnot
    rw [g.frame c (Nat.lt_of_lt_of_le hc h.size) ?_, h.frame c hc hnot]
    intro b x l hm hk
    rcases back b x l hm hk with ⟨x2, l2, k1, k2, k3⟩ | hs | ⟨b2, x2, l2, k1, k2, k3⟩
    · exact fun e => hnot b x2 l2 k1 k2 (k3.trans e)
    · omega
    · exact fun e => hnot b2 x2 l2 k1 k2 (k3.trans e)
  · intro a v ha
    rcases g.fzn a v ha with e | e | ⟨h0, b', x', l', h1, h2, h3⟩
    · exact h.fzn a v e
    · exact .inr (.inl (Nat.le_trans h.size e))
    · rcases back b' x' l' h1 h2 with ⟨x2, l2, k1, k2, k3⟩ | hs | ⟨b2, x2, l2, k1, k2, k3⟩
      · exact .inr (.inr ⟨h0, b', x2, l2, k1, k2, k3.trans h3⟩)
      · exact .inr (.inl (by omega))
      · exact .inr (.inr ⟨h0, b2, x2, l2, k1, k2, k3.trans h3⟩)
end Go.Proofs.YtihloomkgpflmaaGreatDoor.Vm

namespace Go.Proofs.YtihloomkgpflmaaGreatDoor.Vm

structure Ent where
  s : PStep
  o : Oper
  v : Value
  Ti : Tr Value
  wn : Bool
  n : Nat

noncomputable def putD (T : Tr Value) (v : Value) : Option Tmp → Tr Value
  | none => T
  | some d => T.set d v
noncomputable def tmpsOf (T0 : Tr Value) : List Ent → Tr Value
  | [] => T0
  | e :: h => putD (tmpsOf T0 h) e.v e.o.dst

def HT (ops : Array Oper) (nt : Nat) (T0 : Tr Value) : List Ent → Prop
  | [] => True
  | e :: h => HT ops nt T0 h ∧ ops[e.s.i]? = some e.o ∧ (∀ d, e.o.dst = some d → d < nt) ∧ e.Ti = restr (e.o.looksAt ops) (tmpsOf T0 h) ∧ wantedA ops e.o (tmpsOf T0 h) = some e.wn

theorem HT.tail {ops : Array Oper} {nt : Nat} {T0 : Tr Value} : ∀ {a b : List Ent}, HT ops nt T0 (a ++ b) → HT ops nt T0 b
  | [], _, h => h
  | _ :: a, b, h => HT.tail (a := a) h.1
theorem HT.op {ops : Array Oper} {nt : Nat} {T0 : Tr Value} {l : List Ent} (h : HT ops nt T0 l) : ∀ e ∈ l, ops[e.s.i]? = some e.o ∧ (∀ d, e.o.dst = some d → d < nt) := by
  induction l with
  | nil => intro e he; cases he
  | cons x l ih =>
    intro e he
    rcases List.mem_cons.1 he with rfl | he
    · exact ⟨h.2.1, h.2.2.1⟩
    · exact ih h.1 e he
theorem WF.tail {ops : Array Oper} : ∀ {a b : List PStep}, WF ops (a ++ b) → WF ops b
  | [], _, h => h
  | _ :: a, b, h => WF.tail (a := a) h.1

section
variable {ops : Array Oper} {nt : Nat} {T0 : Tr Value}

theorem WF.uniq {l : List Ent} (h : WF ops (l.map (·.s))) : ∀ e ∈ l, ∀ e' ∈ l, e.s.i = e'.s.i → e = e' := by
  induction l with
  | nil => intro e he; cases he
  | cons x l ih =>
    intro e he e' he' hi
    obtain ⟨h0, o, _, _, h3, _⟩ := h
    rcases List.mem_cons.1 he with k1 | k1 <;> rcases List.mem_cons.1 he' with k2 | k2
    · rw [k1, k2]
    · rw [k1] at hi; exact absurd hi.symm (h3 _ (List.mem_map.2 ⟨e', k2, rfl⟩))
    · rw [k2] at hi; exact absurd hi (h3 _ (List.mem_map.2 ⟨e, k1, rfl⟩))
    · exact ih h0 e k1 e' k2 hi

theorem tmpsOf_mem (hd : dstsApart ops.toList = true) {l : List Ent} (hw : WF ops (l.map (·.s))) (h : HT ops nt T0 l) : ∀ e ∈ l, ∀ t, e.o.dst = some t → (tmpsOf T0 l).get t = some e.v := by
  induction l with
  | nil => intro e he; cases he
  | cons x l ih =>
    intro e he t ht
    show (putD (tmpsOf T0 l) x.v x.o.dst).get t = some e.v
    rcases List.mem_cons.1 he with rfl | he
    · rw [ht]; exact Tr.get_set_same _ _ _
    · have ih := ih hw.1 h.1 e he t ht
      cases hdx : x.o.dst with
      | none => exact ih
      | some d =>
        by_cases e2 : t = d
        · subst e2
          obtain ⟨_, o, _, _, h3, _⟩ := hw
          have h1 := (HT.op h.1 e he).1
          have h2 := h.2.1
          have := dsts_apart hd (i := e.s.i) (j := x.s.i) (by simpa using h1) (by simpa using h2) ht hdx
          exact absurd this (h3 _ (List.mem_map.2 ⟨e, he, rfl⟩))
        · show ((tmpsOf T0 l).set d x.v).get t = some e.v
          rw [Tr.get_set_ne _ _ e2]; exact ih
theorem tmpsOf_none {T0 : Tr Value} {t : Tmp} {l : List Ent} (h : ∀ e ∈ l, e.o.dst ≠ some t) : (tmpsOf T0 l).get t = T0.get t := by
  induction l with
  | nil => rfl
  | cons x l ih =>
    have ih := ih (fun e he => h e (List.mem_cons_of_mem _ he))
    show (putD (tmpsOf T0 l) x.v x.o.dst).get t = T0.get t
    cases hdx : x.o.dst with
    | none => exact ih
    | some d =>
      have : t ≠ d := by rintro rfl; exact h x (by simp) hdx
      show ((tmpsOf T0 l).set d x.v).get t = T0.get t
      rw [Tr.get_set_ne _ _ this]; exact ih

theorem putT_some {T T' : Tr Value} {dst : Option Tmp} {v : Value} (h : putT nt T dst v = some T') : (∀ d, dst = some d → d < nt) ∧ T' = putD T v dst := by
  unfold putT at h
  cases dst with
  | none => simp at h; subst h; exact ⟨fun d hd => by (cases hd), rfl⟩
  | some d =>
    simp only at h
    cases hb : Nat.blt d nt with
    | false => rw [hb] at h; simp at h
    | true =>
      rw [hb] at h
      simp only [cond_true, forced_eq, Option.some.injEq] at h
      rw [Nat.blt_eq] at hb
      exact ⟨fun e he => by (simp only [Option.some.injEq] at he; subst he; exact hb), h.symm⟩

theorem wanted_at {ι : Iota} {T : Tr Value} {tmps : Array Value} {o : Oper} {x : Bool} (ht : ∀ t ∈ o.looksAt ops, ∀ v, T.get t = some v → ∃ u, tmps[t]? = some u ∧ VR ι v u) (h : wantedA ops o T = some x) : Region.wanted o (yielded ops tmps) = x := by
  unfold wantedA at h
  unfold Region.wanted
  split at h
  · rename_i hg
    simp at h; subst h
    rw [hg]
  · rename_i j want hg
    rw [hg]
    simp only
    split at h
    · rename_i d hd
      have hmem : d ∈ o.looksAt ops := by
        unfold Oper.looksAt
        rw [List.mem_append]
        right
        rw [hg]
        simp only [hd]
        simp
      split at h
      · rename_i y hy
        simp at h; subst h
        obtain ⟨u, h1, h2⟩ := ht d hmem _ hy
        cases h2
        simp only [yielded, hd, Option.bind_some, h1]
        rw [Bool.eq_iff_iff]; simp
      · rename_i v hno hy
        simp at h; subst h
        obtain ⟨u, h1, h2⟩ := ht d hmem _ hy
        have : yielded ops tmps j = none := by
          simp only [yielded, hd, Option.bind_some, h1]
          cases h2 <;> first | rfl | exact (hno _ rfl).elim
        rw [this]; rfl
      · cases h
    · cases h

/-- The done ones are shut towards what they waited for. -/
theorem closed_pre {C : Nat → Prop} (hc : ∀ i o, C i → ops[i]? = some o → ∀ j ∈ directs o, C j) : ∀ {i j : Nat}, Pre ops j i → C i → C j
  | _, _, .here ho he, h => hc _ _ h ho _ he
  | _, _, .there ho he p, h => closed_pre hc p (hc _ _ h ho _ he)
theorem pre_closed {C : Nat → Prop} (hc : ∀ i o, C i → ops[i]? = some o → ∀ j ∈ directs o, C j) {i j : Nat} {o : Oper} (hi : ops[i]? = some o) (hd : ∀ e ∈ directs o, C e) (h : Pre ops j i) : C j := by
  cases h with
  | here ho he => rw [hi] at ho; injection ho with ho; subst ho; exact hd _ he
  | there ho he p => rw [hi] at ho; injection ho with ho; subst ho; exact closed_pre hc p (hd _ he)

/-- What an operation looks at reads as the interpreter has it. -/
theorem agree {C : Nat → Prop} {κ : Iota} {tmps : Array Value} (hd : dstsApart ops.toList = true) {h1 h : List Ent} {e : Ent} (hw : WF ops ((h1 ++ e :: h).map (·.s))) (ht : HT ops nt T0 h) (hop : ∀ x ∈ h1 ++ e :: h, ops[x.s.i]? = some x.o)
    (hc : ∀ i o, C i → ops[i]? = some o → ∀ j ∈ directs o, C j) (hn : ¬ C e.s.i) (hdir : ∀ j ∈ directs e.o, C j)
    (i1 : ∀ x ∈ h1 ++ e :: h, C x.s.i → ∀ d, x.o.dst = some d → ∃ u, tmps[d]? = some u ∧ VR κ x.v u)
    (i2 : ∀ t v, T0.get t = some v → (∀ x ∈ h1 ++ e :: h, C x.s.i → x.o.dst ≠ some t) → ∃ u, tmps[t]? = some u ∧ VR κ v u) :
    ∀ t ∈ e.o.looksAt ops, ∀ v, (tmpsOf T0 h).get t = some v → ∃ u, tmps[t]? = some u ∧ VR κ v u := by
  intro t htl v hv
  have heo := hop e (by simp)
  have hwe : WF ops ((e :: h).map (·.s)) := by rw [List.map_append] at hw; exact hw.tail
  have hwe0 := hwe
  obtain ⟨hwh, o, ho, _, _, _, _, h6, _⟩ := hwe
  have hoe : o = e.o := by have := ho; simp only at this; rw [heo] at this; injection this with this; exact this.symm
  subst hoe
  by_cases hex : ∃ x ∈ h, x.o.dst = some t
  · obtain ⟨x, hx, hxt⟩ := hex
    rw [tmpsOf_mem hd hwh ht x hx t hxt] at hv
    simp only [Option.some.injEq] at hv; subst hv
    rcases h6 x.s (List.mem_map.2 ⟨x, hx, rfl⟩) with hp | ⟨q, hq, hap⟩
    · exact i1 x (by simp [hx]) (pre_closed hc heo hdir hp) t hxt
    · have : q = x.o := by have := hop x (by simp [hx]); rw [hq] at this; injection this
      subst this
      exact absurd htl ((Oper.apart_spec hap).1 t hxt)
  · rw [tmpsOf_none (fun x hx hxt => hex ⟨x, hx, hxt⟩)] at hv
    refine i2 t v hv (fun x hx hcx hxt => ?_)
    rcases List.mem_append.1 hx with hx1 | hx1
    · obtain ⟨a, b, rfl⟩ := List.append_of_mem hx1
      have hwx : WF ops ((x :: (b ++ e :: h)).map (·.s)) := by
        have : (a ++ x :: b) ++ e :: h = a ++ x :: (b ++ e :: h) := by simp
        rw [this, List.map_append] at hw
        exact hw.tail
      obtain ⟨_, o2, ho2, _, _, _, _, g6, _⟩ := hwx
      have hox : o2 = x.o := by have := hop x hx; rw [ho2] at this; injection this
      subst hox
      rcases g6 e.s (List.mem_map.2 ⟨e, by simp, rfl⟩) with hp | ⟨q, hq, hap⟩
      · exact hn (closed_pre hc hp hcx)
      · have : q = e.o := by rw [heo] at hq; injection hq with hq; exact hq.symm
        subst this
        exact (Oper.apart_spec hap).2.2 t hxt htl
    · rcases List.mem_cons.1 hx1 with rfl | hx1
      · exact hn hcx
      · exact hex ⟨x, hx1, hxt⟩
end

/-! ### what is known of what is listed and not yet done -/
def WEnt (P : Program) (G : Nat) (ws : List Watch) (e : Ent) : Prop :=
  (e.wn = false ∧ e.v = undef) ∨ (e.wn = true ∧ opKind e.o.op = 0 ∧ ∃ M n M' n', aquiet P G e.Ti M n e.o.op = some (e.v, M', n')) ∨ (e.wn = true ∧ opKind e.o.op = 1 ∧ Watch.rd e.s.i e.o.op e.Ti e.v ∈ ws) ∨
  (e.wn = true ∧ opKind e.o.op = 2 ∧ ∃ vs M, Watch.new e.s.i e.n vs ∈ ws ∧ aquiet P G e.Ti M e.n e.o.op = some (e.v, M.set e.n (.cells false vs), e.n + 1))
def isNew (e : Ent) : Prop := e.wn = true ∧ opKind e.o.op = 2

theorem WEnt.mono {P : Program} {G : Nat} {ws ws' : List Watch} {e : Ent} (h : WEnt P G ws e) (hs : ∀ x ∈ ws, x ∈ ws') : WEnt P G ws' e := by
  rcases h with h | h | ⟨h1, h2, h3⟩ | ⟨h1, h2, vs, M, h3, h4⟩
  · exact .inl h
  · exact .inr (.inl h)
  · exact .inr (.inr (.inl ⟨h1, h2, hs _ h3⟩))
  · exact .inr (.inr (.inr ⟨h1, h2, vs, M, hs _ h3, h4⟩))

/-- The next thing is an effect, or the end. -/
def Head (ops : Array Oper) (T : Tr Value) : List PStep → Prop
  | [] => True
  | s :: _ => ∃ o, ops[s.i]? = some o ∧ wantedA ops o T = some true ∧ Nat.beq s.kind 3 = true

section
variable {call : Fr → Option Res} {P : Program} {X : Exts} {G : Nat} {dk : Bool} {rnd : Option Nat} {nt : Nat} {ops : Array Oper} {T0 : Tr Value}

theorem head_ok {rest : List PStep} {T : Tr Value} {ds : List Deferred} {up : FrameMode} {M : Tr Blk} {nx : Nat} {ws : List Watch} {lm : Nat} {r : RR} (hh : Head ops T rest) (h : vdraw call P X G dk rnd nt ops T0 rest T ds up M nx ws lm = some r) : ∀ x ∈ ws, watchOk P G lm M x = true := by
  rw [← List.all_eq_true]
  cases rest with
  | nil =>
    simp only [vdraw] at h
    cases hw : ws.all (watchOk P G lm M) with
    | true => rfl
    | false => rw [hw] at h; simp at h
  | cons s rest =>
    obtain ⟨o, h1, h2, h3⟩ := hh
    simp only [vdraw, h1, h2, h3] at h
    cases hw : ws.all (watchOk P G lm M) with
    | true => rfl
    | false => rw [hw] at h; simp at h

theorem adv (ds : List Deferred) (up : FrameMode) (lm : Nat) (r : RR) : ∀ (rest : List PStep) (hist : List Ent) (M : Tr Blk) (nx : Nat) (ws : List Watch), WF ops (rest.reverse ++ hist.map (·.s)) → HT ops nt T0 hist →
    vdraw call P X G dk rnd nt ops T0 rest (tmpsOf T0 hist) ds up M nx ws lm = some r →
    ∃ (q : List Ent) (rest2 : List PStep) (M2 : Tr Blk) (nx2 : Nat) (ws2 : List Watch), rest = (q.map (·.s)).reverse ++ rest2 ∧ HT ops nt T0 (q ++ hist) ∧ vdraw call P X G dk rnd nt ops T0 rest2 (tmpsOf T0 (q ++ hist)) ds up M2 nx2 ws2 lm = some r ∧
      Head ops (tmpsOf T0 (q ++ hist)) rest2 ∧ (∀ x ∈ ws, x ∈ ws2) ∧ nx ≤ nx2 ∧ (∀ k, k < nx → M2.get k = M.get k) ∧ (∀ k, M2.get k ≠ none → M.get k ≠ none ∨ (nx ≤ k ∧ k < nx2)) ∧
      (∀ e ∈ q, WEnt P G ws2 e ∧ (isNew e → nx ≤ e.n ∧ e.n < nx2)) ∧ (∀ e ∈ q, ∀ e' ∈ q, isNew e → isNew e' → e.n = e'.n → e.s.i = e'.s.i)
  | [], hist, M, nx, ws, hw, ht, h => ⟨[], [], M, nx, ws, by simp, ht, h, trivial, fun x hx => hx, Nat.le_refl _, fun k _ => rfl, fun k hk => .inl hk, by simp, by simp⟩
  | s :: rest, hist, M, nx, ws, hw, ht, h => by
    have h0 := h
    have hw' : WF ops (rest.reverse ++ s :: hist.map (·.s)) := by simpa using hw
    have hws : WF ops (s :: hist.map (·.s)) := hw'.tail
    simp only [vdraw] at h
    split at h
    · cases h
    · rename_i o ho
      -- one quiet operation is listed
      have go : ∀ (e : Ent) (M1 : Tr Blk) (nx1 : Nat) (ws1 : List Watch), e.s = s → e.o = o → e.Ti = restr (o.looksAt ops) (tmpsOf T0 hist) → wantedA ops o (tmpsOf T0 hist) = some e.wn → (∀ d, o.dst = some d → d < nt) →
          vdraw call P X G dk rnd nt ops T0 rest (tmpsOf T0 (e :: hist)) ds up M1 nx1 ws1 lm = some r → (∀ x ∈ ws, x ∈ ws1) → nx ≤ nx1 → (∀ k, k < nx → M1.get k = M.get k) → (∀ k, M1.get k ≠ none → M.get k ≠ none ∨ (nx ≤ k ∧ k < nx1)) →
          WEnt P G ws1 e → (isNew e → nx ≤ e.n ∧ e.n < nx1) → ∃ (q : List Ent) (rest2 : List PStep) (M2 : Tr Blk) (nx2 : Nat) (ws2 : List Watch), s :: rest = (q.map (·.s)).reverse ++ rest2 ∧ HT ops nt T0 (q ++ hist) ∧ vdraw call P X G dk rnd nt ops T0 rest2 (tmpsOf T0 (q ++ hist)) ds up M2 nx2 ws2 lm = some r ∧
            Head ops (tmpsOf T0 (q ++ hist)) rest2 ∧ (∀ x ∈ ws, x ∈ ws2) ∧ nx ≤ nx2 ∧ (∀ k, k < nx → M2.get k = M.get k) ∧ (∀ k, M2.get k ≠ none → M.get k ≠ none ∨ (nx ≤ k ∧ k < nx2)) ∧
            (∀ e ∈ q, WEnt P G ws2 e ∧ (isNew e → nx ≤ e.n ∧ e.n < nx2)) ∧ (∀ e ∈ q, ∀ e' ∈ q, isNew e → isNew e' → e.n = e'.n → e.s.i = e'.s.i) := by
        intro e M1 nx1 ws1 es eo eT ewn ed hv k1 k2 k3 k4 k5 k6
        have ht1 : HT ops nt T0 (e :: hist) := ⟨ht, by rw [es, eo]; exact ho, by rw [eo]; exact ed, by rw [eo]; exact eT, by rw [eo]; exact ewn⟩
        obtain ⟨q, rest2, M2, nx2, ws2, g1, g2, g3, g4, g5, g6, g7, g8, g9, g10⟩ := adv ds up lm r rest (e :: hist) M1 nx1 ws1 (by rw [List.map_cons, es]; exact hw') ht1 hv
        have hap : (q ++ [e]) ++ hist = q ++ e :: hist := by simp
        refine ⟨q ++ [e], rest2, M2, nx2, ws2, by simp [g1, es], by rw [hap]; exact g2, by rw [hap]; exact g3, by rw [hap]; exact g4, fun x hx => g5 x (k1 x hx), Nat.le_trans k2 g6, fun k hk => (g7 k (Nat.lt_of_lt_of_le hk k2)).trans (k3 k hk), fun k hk => ?_, fun x hx => ?_, fun x hx x' hx' n1 n2 hxx => ?_⟩
        · rcases g8 k hk with h1 | h1
          · rcases k4 k h1 with h2 | h2
            · exact .inl h2
            · exact .inr ⟨h2.1, Nat.lt_of_lt_of_le h2.2 g6⟩
          · exact .inr ⟨Nat.le_trans k2 h1.1, h1.2⟩
        · rcases List.mem_append.1 hx with hx | hx
          · exact ⟨(g9 x hx).1, fun hn => ⟨Nat.le_trans k2 ((g9 x hx).2 hn).1, ((g9 x hx).2 hn).2⟩⟩
          · simp at hx; subst hx
            exact ⟨k5.mono g5, fun hn => ⟨(k6 hn).1, Nat.lt_of_lt_of_le (k6 hn).2 g6⟩⟩
        · rcases List.mem_append.1 hx with hx1 | hx1 <;> rcases List.mem_append.1 hx' with hx2 | hx2
          · exact g10 x hx1 x' hx2 n1 n2 hxx
          · rw [List.mem_singleton] at hx2; subst hx2
            have a1 := ((g9 x hx1).2 n1).1
            have a2 := (k6 n2).2
            omega
          · rw [List.mem_singleton] at hx1; subst hx1
            have a1 := ((g9 x' hx2).2 n2).1
            have a2 := (k6 n1).2
            omega
          · rw [List.mem_singleton] at hx1 hx2; rw [hx1, hx2]
      split at h
      · -- not wanted
        rename_i hwa
        split at h
        · rename_i T' hT'
          obtain ⟨p1, p2⟩ := putT_some hT'
          refine go { s, o, v := undef, Ti := restr (o.looksAt ops) (tmpsOf T0 hist), wn := false, n := nx } M nx ws rfl rfl rfl hwa p1 ?_ (fun x hx => hx) (Nat.le_refl _) (fun k _ => rfl) (fun k hk => .inl hk) (.inl ⟨rfl, rfl⟩) (fun hn => by cases hn.1)
          rw [p2] at h
          exact h
        · cases h
      · rename_i hwa
        split at h
        · -- quiet
          rename_i hk
          split at h
          · rename_i v M1 nx1 hq
            split at h
            · rename_i T' ws1 hT' hws1
              obtain ⟨p1, p2⟩ := putT_some hT'
              rw [p2] at h
              obtain ⟨_, o', ho', hkind, _⟩ := hws
              have : o' = o := by rw [ho] at ho'; injection ho' with ho'; exact ho'.symm
              subst this
              rw [hkind] at hk hws1
              rcases opKind_le (op := o'.op) with k0 | k1 | k2 | k3
              · obtain ⟨rfl, rfl, _⟩ := aquiet_k0 k0 hq
                rw [k0] at hws1
                simp only [addWatch, Option.some.injEq] at hws1; subst hws1
                exact go { s, o := o', v, Ti := restr (o'.looksAt ops) (tmpsOf T0 hist), wn := true, n := nx1 } M1 nx1 ws rfl rfl rfl hwa p1 h (fun x hx => hx) (Nat.le_refl _) (fun k _ => rfl) (fun k hk => .inl hk) (.inr (.inl ⟨rfl, k0, _, _, _, _, hq⟩)) (fun hn => by have := hn.2; simp only at this; omega)
              · obtain ⟨rfl, rfl, _⟩ := aquiet_k1 k1 hq
                rw [k1] at hws1
                simp only [addWatch, Option.some.injEq] at hws1; subst hws1
                exact go { s, o := o', v, Ti := restr (o'.looksAt ops) (tmpsOf T0 hist), wn := true, n := nx1 } M1 nx1 _ rfl rfl rfl hwa p1 h (fun x hx => List.mem_cons_of_mem _ hx) (Nat.le_refl _) (fun k _ => rfl) (fun k hk => .inl hk) (.inr (.inr (.inl ⟨rfl, k1, by simp⟩))) (fun hn => by have := hn.2; simp only at this; omega)
              · obtain ⟨x, rfl, rfl, hall⟩ := aquiet_k2 k2 hq
                rw [k2] at hws1
                simp only [addWatch, Tr.get_set_same] at hws1
                split at hws1
                · rename_i vs hx
                  simp only [Option.some.injEq] at hx hws1; subst hx; subst hws1
                  exact go { s, o := o', v, Ti := restr (o'.looksAt ops) (tmpsOf T0 hist), wn := true, n := nx } (M.set nx (.cells false vs)) (nx + 1) _ rfl rfl rfl hwa p1 h (fun x hx => List.mem_cons_of_mem _ hx) (Nat.le_succ _) (fun k hk => Tr.get_set_ne _ _ (by omega))
                    (fun k hk => by
                      by_cases e : k = nx
                      · exact .inr (by omega)
                      · rw [Tr.get_set_ne _ _ e] at hk; exact .inl hk) (.inr (.inr (.inr ⟨rfl, k2, vs, M, by simp, hq⟩))) (fun hn => ⟨Nat.le_refl _, Nat.lt_succ_self _⟩)
                · cases hws1
              · rw [k3] at hk; cases hk
            · cases h
          · cases h
        · -- an effect
          rename_i hk
          exact ⟨[], s :: rest, M, nx, ws, by simp, ht, h0, ⟨o, ho, hwa, hk⟩, fun x hx => hx, Nat.le_refl _, fun k _ => rfl, fun k hk => .inl hk, by simp, by simp⟩
      · cases h
end
end Go.Proofs.YtihloomkgpflmaaGreatDoor.Vm
