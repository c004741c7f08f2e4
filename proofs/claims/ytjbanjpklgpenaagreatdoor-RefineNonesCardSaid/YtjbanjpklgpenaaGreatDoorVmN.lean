/-
  THE ABSTRACT INTERPRETER, part N: one operation of a region is carried out as the interpreter says.
-/
import Derived.Test.YtjbanjpklgpenaaGreatDoorVmM
import Derived.Recover
namespace Go.Proofs.YtjbanjpklgpenaaGreatDoor.Vm

section steps
variable {P : Program} {b : Frame} {a : Act} {k : List Item} {cs : List Frame} {w w' : World} {ops : Array Oper} {i : Nat} {rest : List Nat} {o : Oper}

theorem fin_atR (ho : ops[i]? = some o) (v : Value) : (b.atR a (.inRegion ops (i :: rest) :: k)).finish v = b.atR (a.put o.dst v) (.inRegion ops rest :: k) := by
  rw [Frame.finish_atR, ho]; rfl

theorem st_value (ho : ops[i]? = some o) (hw : Region.wanted o (yielded ops a.tmps) = true) {v : Value} (hr : (o.semAt b.roundOf a.eval).run P w = .ok (.value v) w') :
    step P (lone (b.atR a (.inRegion ops (i :: rest) :: k)) cs w) = .next (lone (b.atR (a.put o.dst v) (.inRegion ops rest :: k)) cs w') := by
  refine step_lone_go ?_
  rw [stepGR_op ho hw, ← fin_atR ho]; simp [stepG.apply, hr]
theorem st_skip (ho : ops[i]? = some o) (hw : Region.wanted o (yielded ops a.tmps) = true) (hr : (o.semAt b.roundOf a.eval).run P w = .ok .skip w') :
    step P (lone (b.atR a (.inRegion ops (i :: rest) :: k)) cs w) = .next (lone (b.atR (a.put o.dst undef) (.inRegion ops rest :: k)) cs w') := by
  refine step_lone_go ?_
  rw [stepGR_op ho hw, ← fin_atR ho]; simp [stepG.apply, hr]
theorem st_defer (ho : ops[i]? = some o) (hw : Region.wanted o (yielded ops a.tmps) = true) {d : Deferred} (hr : (o.semAt b.roundOf a.eval).run P w = .ok (.defer d) w') :
    step P (lone (b.atR a (.inRegion ops (i :: rest) :: k)) cs w) = .next (lone (b.atR (({ a with defers := d :: a.defers } : Act).put o.dst undef) (.inRegion ops rest :: k)) cs w') := by
  refine step_lone_go ?_
  have := fin_atR (b := b) (a := { a with defers := d :: a.defers }) (rest := rest) (k := k) ho undef
  rw [stepGR_op ho hw]
  simp only [stepG.apply, Sem.runT_eq, hr, GStep.bare_after]
  exact congrArg (fun fr => GStep.go { frame := fr, callers := cs, status := .running, dying := none } w') this
theorem st_enter (ho : ops[i]? = some o) (hw : Region.wanted o (yielded ops a.tmps) = true) {f : FuncId} {args : Array Value} (hr : (o.semAt b.roundOf a.eval).run P w = .ok (.enter f args) w') :
    step P (lone (b.atR a (.inRegion ops (i :: rest) :: k)) cs w) = .next (lone (Frame.enter P f args .normal) (b.atR a (.inRegion ops (i :: rest) :: k) :: cs) w') := by
  refine step_lone_go ?_
  rw [stepGR_op ho hw]; simp [stepG.apply, hr, Frame.atR]
theorem st_round (ho : ops[i]? = some o) (hw : Region.wanted o (yielded ops a.tmps) = true) {l : Nat} {f : FuncId} {tmps : Array Value} {x y : Code} (hr : (o.semAt b.roundOf a.eval).run P w = .ok (.round l f tmps x y) w') :
    step P (lone (b.atR a (.inRegion ops (i :: rest) :: k)) cs w) = .next (lone (Frame.round l f tmps x y .normal) (b.atR a (.inRegion ops (i :: rest) :: k) :: cs) w') := by
  refine step_lone_go ?_
  rw [stepGR_op ho hw]; simp [stepG.apply, hr]
theorem st_panic (ho : ops[i]? = some o) (hw : Region.wanted o (yielded ops a.tmps) = true) {v : Value} (hr : (o.semAt b.roundOf a.eval).run P w = .halt (.panic v) w') :
    step P (lone (b.atR a (.inRegion ops (i :: rest) :: k)) cs w) = .next (lone (atM b a (.inRegion ops (i :: rest) :: k) (.panicking [{ v, recovered := false }])) cs w') := by
  refine step_lone_go ?_
  rw [stepGR_op ho hw]; simp [stepG.apply, hr, Frame.raise, Frame.atR, atM]
theorem st_recover (hb : b.roundOf = none) (ho : ops[i]? = some o) (hw : Region.wanted o (yielded ops a.tmps) = true) (hr : (o.semAt b.roundOf a.eval).run P w = .ok .recover w') :
    step P (lone (b.atR a (.inRegion ops (i :: rest) :: k)) cs w) = .next (match tryRecover (b.atR a (.inRegion ops (i :: rest) :: k)) cs with
      | some (v, cs') => lone (b.atR (a.put o.dst v) (.inRegion ops rest :: k)) cs' w'
      | none => lone (b.atR (a.put o.dst .nilIface) (.inRegion ops rest :: k)) cs w') := by
  have hg := stepGR_op (P := P) (b := b) (k := k) (cs := cs) (w := w) (rest := rest) ho hw
  rw [hb] at hr hg
  cases ht : tryRecover (b.atR a (.inRegion ops (i :: rest) :: k)) cs with
  | none =>
    refine step_lone_go ?_
    rw [hg, ← fin_atR ho]
    simp only [Frame.atR, hb] at ht ⊢
    simp [stepG.apply, hr, ht]
  | some p =>
    obtain ⟨v, cs'⟩ := p
    refine step_lone_go ?_
    rw [hg, ← fin_atR ho]
    simp only [Frame.atR, hb] at ht ⊢
    simp [stepG.apply, hr, ht]

/-- A call has come back. -/
theorem st_back {fr' : Frame} {c : Frame} {fn : Func} {v : Value} (hm : fr'.mode = .returning) (hd : fr'.defers = []) (hk : fr'.kind = .normal) (hf : P.funcs[fr'.fn]? = some fn) (hr : (results fn fr'.tmps).run P w = .ok v w) :
    step P (lone fr' (c :: cs) w) = .next (lone (c.finish v) cs w) :=
  step_lone_go (by simp [stepG, unwind, doReturn, hm, hd, hk, hf, hr])
theorem st_raise {fr' : Frame} {c : Frame} {ch : List PanicEntry} (hm : fr'.mode = .panicking ch) (hd : fr'.defers = []) (hf : (P.funcs[fr'.fn]?).isSome = true) :
    step P (lone fr' (c :: cs) w) = .next (lone (c.raise ch) cs w) := by
  obtain ⟨fn, hf⟩ := Option.isSome_iff_exists.1 hf
  exact step_lone_go (by simp [stepG, unwind, Frame.catches, hm, hd, hf])
end steps

theorem TmR.put {ι : Iota} {nt : Nat} {T : Tr Value} {tmps : Array Value} (h : TmR ι nt T tmps) {d : Tmp} (hd : d < nt) {v u : Value} (hv : VR ι v u) : TmR ι nt (T.set d v) (tmps.setIfInBounds d u) := by
  refine ⟨by simp [h.1], fun t x hx => ?_⟩
  by_cases e : t = d
  · subst e
    rw [Tr.get_set_same] at hx
    simp at hx; subst hx
    exact ⟨u, by rw [Array.getElem?_setIfInBounds_self_of_lt (by rw [h.1]; exact hd)], hv⟩
  · rw [Tr.get_set_ne _ _ e] at hx
    obtain ⟨y, h1, h2⟩ := h.2 t x hx
    exact ⟨y, by rw [Array.getElem?_setIfInBounds_ne (Ne.symm e)]; exact h1, h2⟩

theorem UpTo.refl {ι : Iota} {dk : Bool} {up : FrameMode} {cs : List Frame} (h : UpR ι dk up cs) : UpTo ι dk up cs cs := by
  cases dk with
  | false => rfl
  | true =>
    obtain ⟨c, rest, rfl, hm⟩ := h rfl
    exact ⟨c, rest, c.mode, rfl, rfl, hm⟩
theorem UpR.mono {ι κ : Iota} {dk : Bool} {up : FrameMode} {cs : List Frame} (h : UpR ι dk up cs) (e : Ext ι κ) : UpR κ dk up cs := fun hd =>
  let ⟨c, rest, h1, h2⟩ := h hd; ⟨c, rest, h1, h2.mono e⟩
theorem UpTo.mono {ι κ : Iota} {dk : Bool} {up : FrameMode} {cs cs' : List Frame} (h : UpTo ι dk up cs cs') (e : Ext ι κ) : UpTo κ dk up cs cs' := by
  cases dk with
  | false => exact h
  | true => obtain ⟨c, rest, m, h1, h2, h3⟩ := h; exact ⟨c, rest, m, h1, h2, h3.mono e⟩
theorem UpTo.upR {ι : Iota} {dk : Bool} {up : FrameMode} {cs cs' : List Frame} (h : UpTo ι dk up cs cs') : UpR ι dk up cs' := by
  intro hd
  subst hd
  obtain ⟨c, rest, m, h1, h2, h3⟩ := h
  exact ⟨{ c with mode := m }, rest, h2, h3⟩
theorem UpTo.trans {ι κ : Iota} {dk : Bool} {up up' : FrameMode} {cs cs' cs2 : List Frame} (h : UpTo ι dk up cs cs') (g : UpTo κ dk up' cs' cs2) : UpTo κ dk up' cs cs2 := by
  cases dk with
  | false => simp only [UpTo] at h g ⊢; rw [g, h]
  | true =>
    obtain ⟨c, rest, m, h1, h2, h3⟩ := h
    obtain ⟨c', rest', m', g1, g2, g3⟩ := g
    rw [h2] at g1
    simp only [List.cons.injEq] at g1
    obtain ⟨rfl, rfl⟩ := g1
    exact ⟨c, rest, m', h1, g2, g3⟩

/-- What an operation's end says of the machine. -/
def OpEnd (P : Program) (w0 : World) (ι : Iota) (dk : Bool) (M : Tr Blk) (nx : Nat) (b : Frame) (a : Act) (ops : Array Oper) (i : Nat) (rest : List Nat) (k : List Item) (cs : List Frame) (w : World) (dst : Option Tmp) : OpR → Prop
  | .ok v ds' up' M' nx' => FreshU ι nx → ∃ κ u w' defs' cs', Post w0 ι M nx w κ M' nx' w' ∧ VR κ v u ∧ DRL κ ds' defs' ∧ UpTo κ dk up' cs cs' ∧
      Steps P (lone (b.atR a (.inRegion ops (i :: rest) :: k)) cs w) (lone (b.atR (({ a with defers := defs' } : Act).put dst u) (.inRegion ops rest :: k)) cs' w')
  | .pan ch up' M' nx' => FreshU ι nx → ∃ κ w' ch', Post w0 ι M nx w κ M' nx' w' ∧ PRL κ ch ch' ∧ UpTo κ dk up' cs cs ∧
      Steps P (lone (b.atR a (.inRegion ops (i :: rest) :: k)) cs w) (lone (atM b a (.inRegion ops (i :: rest) :: k) (.panicking ch')) cs w')

theorem putPs_rel {ι : Iota} {nt : Nat} : ∀ {ps : List Tmp} {vs us : List Value} {T T' : Tr Value} {tmps : Array Value}, putPs ps vs nt T = some T' → VRL ι vs us → TmR ι nt T tmps →
    ps.length = us.length ∧ TmR ι nt T' ((ps.zip us).foldl (fun tmps (t, a) => tmps.setIfInBounds t a) tmps)
  | [], _, _, T, T', tmps, h, .nil, ht => by simp [putPs] at h; subst h; exact ⟨rfl, ht⟩
  | p :: ps, _, _, T, T', tmps, h, .cons hv t, ht => by
    simp only [putPs] at h
    cases hb : Nat.blt p nt with
    | false => rw [hb] at h; simp at h
    | true =>
      rw [hb] at h; simp only [cond_true] at h
      rw [Nat.blt_eq] at hb
      obtain ⟨h1, h2⟩ := putPs_rel h t (ht.put hb hv)
      exact ⟨by simp [h1], h2⟩
  | [], _, _, T, T', tmps, h, .cons hv t, ht => by simp [putPs] at h
  | p :: ps, _, _, T, T', tmps, h, .nil, ht => by simp [putPs] at h

theorem vop_sound {call : Fr → Option Res} {P : Program} {X : Exts} {w0 : World} {G : Nat} (hX : XOk P G w0 X) (hF : FOk P) (hcall : ∀ fr r, call fr = some r → Sound P G w0 fr r) {ι : Iota} (hG : GOk G ι) {dk : Bool} {rnd : Option Nat} {nt : Nat} {T : Tr Value}
    {ds : List Deferred} {up : FrameMode} {M : Tr Blk} {nx : Nat} {o : Oper} {r : OpR} (he : vop call P X G dk rnd T ds up M nx o.op = some r) {b : Frame} {a : Act} {ops : Array Oper} {i : Nat} {rest : List Nat} {k : List Item} {cs : List Frame} {w : World}
    (h : R w0 ι M w) (ht : TmR ι nt T a.tmps) (hd : DRL ι ds a.defers) (hk : b.kind = if dk then .deferred else .normal) (hr : RndR ι rnd b.roundOf) (hu : UpR ι dk up cs) (ho : ops[i]? = some o) (hw : Region.wanted o (yielded ops a.tmps) = true) :
    OpEnd P w0 ι dk M nx b a ops i rest k cs w o.dst r := by
  have hT : TR ι G T a.eval := TR.of hG ht.2
  have hsem : (∀ c, o.op ≠ .defer c) ∨ b.roundOf = none → o.semAt b.roundOf a.eval = execOp a.eval o := by
    rintro (hx | hx)
    · exact Oper.semAt_eq _ _ _ hx
    · rw [hx]; rfl
  unfold vop at he
  split at he
  · rename_i v M' nx' hq
    simp at he; subst he
    intro hf
    obtain ⟨κ, u, w', h1, h2, h3⟩ := run_aquiet h hT o (hf.to _) hq
    have hnd : ∀ c, o.op ≠ .defer c := by intro c hc; rw [hc] at hq; simp [aquiet, apure] at hq
    refine ⟨κ, u, w', a.defers, cs, h2, h3, hd.mono h2.ext, (UpTo.refl hu).mono h2.ext, .one ?_⟩
    have := st_value (k := k) (cs := cs) (rest := rest) ho hw (by rw [hsem (.inl hnd)]; exact h1)
    exact this
  · split at he
    · rename_i v M' nx' hq
      simp at he; subst he
      intro hf
      have hnd : ∀ c, o.op ≠ .defer c := by
        intro c hc; rw [hc] at hq; simp only [aeff] at hq
        repeat' (split at hq)
        all_goals (first | (simp at hq; done) | (cases hp : plainFn _ <;> rw [hp] at hq <;> simp at hq))
      obtain ⟨κ, w', h2, u, h3, h4⟩ := run_aeff hX hF h hT o hq (hf.to _)
      refine ⟨κ, u, w', a.defers, cs, h2, h3, hd.mono h2.ext, (UpTo.refl hu).mono h2.ext, .one ?_⟩
      rcases h4 with h4 | ⟨h4, rfl⟩
      · exact st_value ho hw (by rw [hsem (.inl hnd)]; exact h4)
      · exact st_skip ho hw (by rw [hsem (.inl hnd)]; exact h4)
    · -- a call
      rename_i f as hq
      obtain ⟨bs, hbs, hrun⟩ := run_aeff hX hF h hT o hq
      have hnd : ∀ c, o.op ≠ .defer c := by
        intro c hc; rw [hc] at hq; simp only [aeff] at hq
        repeat' (split at hq)
        all_goals (first | (simp at hq; done) | (cases hp : plainFn _ <;> rw [hp] at hq <;> simp at hq))
      have ret : ∀ fr v up' M' nx', enterFr P f as false .run M nx = some fr → Sound P G w0 fr (.ret v up' M' nx') → OpEnd P w0 ι dk M nx b a ops i rest k cs w o.dst (.ok v ds up M' nx') := by
        intro fr v up' M' nx' hfr hsound
        have hex : ∃ fn, P.funcs[f]? = some fn ∧ fn.body.isSome = true := by
          unfold enterFr at hfr
          split at hfr
          · rename_i fn hfn
            split at hfr
            · rename_i c hc; exact ⟨fn, hfn, by rw [hc]; rfl⟩
            · cases hfr
          · cases hfr
        have hrun := hrun hex
        obtain ⟨b', a', e1, e2, e3, e4, e5, e6, e7⟩ := enterFr_rel (ι := ι) (cs := b.atR a (.inRegion ops (i :: rest) :: k) :: cs) hfr hbs (fun x => by cases x)
        simp only [Bool.false_eq_true, if_false] at e1
        have henter := st_enter (k := k) (cs := cs) (rest := rest) ho hw (by rw [hsem (.inl hnd)]; exact hrun)
        rw [e1] at henter
        have hbk : b'.kind = .normal := by have := e2.kind; rw [e5] at this; simpa using this
        intro hf
        obtain ⟨κ, w', p1, p2⟩ := hsound ι b' a' .run _ w (by rw [e3]; exact h) hG e2 (by rw [e4]; exact hf) (fun x => absurd e6 x)
        rw [e3, e4] at p1
        cases p2 with
        | ret hr0 hs ha hfn hres hv hcs =>
          rename_i u a2 todo2 fn cs'
          rw [e5] at hcs
          simp only [UpTo] at hcs
          subst hcs
          refine ⟨κ, u, w', a.defers, cs, p1, hv, hd.mono p1.ext, (UpTo.refl hu).mono p1.ext, .head henter (hs.trans (.one ?_))⟩
          have := st_back (c := b.atR a (.inRegion ops (i :: rest) :: k)) (cs := cs) (w := w') (fr' := atM b' a2 todo2 .returning) rfl ha hbk hfn hres
          rw [fin_atR ho] at this
          exact this
        | round hr0 => exact absurd e6 hr0
      split at he
      · rename_i v M' nx' hsm
        simp at he; subst he
        obtain ⟨fr, hfr, hsd⟩ := hX.2 _ _ _ _ _ _ _ hsm
        exact ret fr v _ M' nx' hfr hsd
      · split at he
        · rename_i fr hfr
          split at he
          · rename_i v up' M' nx' hc
            simp at he; subst he
            exact ret fr v up' M' nx' hfr (hcall fr _ hc)
          · rename_i ch up' M' nx' hc
            simp at he; subst he
            have hex : ∃ fn, P.funcs[f]? = some fn ∧ fn.body.isSome = true := by
              unfold enterFr at hfr
              split at hfr
              · rename_i fn hfn
                split at hfr
                · rename_i c hc; exact ⟨fn, hfn, by rw [hc]; rfl⟩
                · cases hfr
              · cases hfr
            have hrun := hrun hex
            obtain ⟨b', a', e1, e2, e3, e4, e5, e6, e7⟩ := enterFr_rel (ι := ι) (cs := b.atR a (.inRegion ops (i :: rest) :: k) :: cs) hfr hbs (fun x => by cases x)
            simp only [Bool.false_eq_true, if_false] at e1
            have henter := st_enter (k := k) (cs := cs) (rest := rest) ho hw (by rw [hsem (.inl hnd)]; exact hrun)
            rw [e1] at henter
            intro hf
            obtain ⟨κ, w', p1, p2⟩ := hcall fr _ hc ι b' a' .run _ w (by rw [e3]; exact h) hG e2 (by rw [e4]; exact hf) (fun x => absurd e6 x)
            rw [e3, e4] at p1
            cases p2 with
            | pan hs ha hfn hv hcs =>
              rename_i ys a2 todo2 cs'
              rw [e5] at hcs
              simp only [UpTo] at hcs
              subst hcs
              refine ⟨κ, w', ys, p1, hv, (UpTo.refl hu).mono p1.ext, .head henter (hs.trans (.one ?_))⟩
              exact st_raise (c := b.atR a (.inRegion ops (i :: rest) :: k)) (fr' := atM b' a2 todo2 (.panicking ys)) rfl ha hfn
          · cases he
        · cases he
    · -- a round of a loop over a function
      rename_i l as hq
      split at he
      · rename_i al hm
        split at he
        · rename_i fr hfr
          obtain ⟨d, bs, hι, hdg, hbs, hrun⟩ := run_aeff hX hF h hT o hq
          have hnd : ∀ c, o.op ≠ .defer c := by
            intro c hc; rw [hc] at hq; simp only [aeff] at hq
            repeat' (split at hq)
            all_goals (first | (simp at hq; done) | (cases hp : plainFn _ <;> rw [hp] at hq <;> simp at hq))
          obtain ⟨ob, q1, q2⟩ := h.live l _ d hm hι
          cases q2 with
          | loop hg' hdd hddg hpp htt =>
            rename_i dd tmps0 params0
            unfold roundFr at hfr
            split at hfr
            · rename_i T2 hT2
              simp at hfr
              obtain ⟨hlen, htm⟩ := putPs_rel hT2 hbs htt
              have hyield : (Instr.yield d.blk bs).run P w = .ok (.round d.blk al.fn ((params0.zip bs).foldl (fun tmps (t, a) => tmps.setIfInBounds t a) tmps0) al.assign al.body) w := by
                have hsz : bs.size = params0.size := by
                  have := hlen; rw [← hpp] at this; simpa using this.symm
                simp [Instr.yield, Instr.getLoop, getObj, Sem.run, q1, hsz]
              rw [hyield] at hrun
              have henter := st_round (k := k) (cs := cs) (rest := rest) ho hw (by rw [hsem (.inl hnd)]; exact hrun)
              let b' : Frame := { (default : Frame) with fn := al.fn, kind := .normal, roundOf := some d.blk }
              let a' : Act := { tmps := (params0.zip bs).foldl (fun tmps (t, a) => tmps.setIfInBounds t a) tmps0, defers := [] }
              have e1 : Frame.round d.blk al.fn ((params0.zip bs).foldl (fun tmps (t, a) => tmps.setIfInBounds t a) tmps0) al.assign al.body .normal = atM b' a' fr.todo .run := by
                rw [← hfr]; rfl
              rw [e1] at henter
              have e2 : FrR P ι fr b' a' .run (b.atR a (.inRegion ops (i :: rest) :: k) :: cs) := by
                rw [← hfr]
                refine ⟨rfl, ?_, .nil, .run, rfl, ⟨d, hι, hdg, rfl⟩, fun x => by cases x⟩
                show TmR ι al.nt T2 ((params0.zip bs).foldl (fun tmps (t, a) => tmps.setIfInBounds t a) tmps0)
                rw [← Array.foldl_toList, Array.toList_zip, hpp]
                exact htm
              have e3 : fr.M = M := by rw [← hfr]
              have e4 : fr.nx = nx := by rw [← hfr]
              have e5 : fr.dk = false := by rw [← hfr]
              have e6 : fr.rnd ≠ none := by rw [← hfr]; simp
              split at he
              · rename_i v up' M' nx' hc
                simp at he; subst he
                intro hf
                obtain ⟨κ, w', p1, p2⟩ := hcall fr _ hc ι b' a' .run _ w (by rw [e3]; exact h) hG e2 (by rw [e4]; exact hf) (fun _ => ⟨e5, by simp⟩)
                rw [e3, e4] at p1
                cases p2 with
                | ret hr0 => exact absurd hr0 e6
                | round hr0 hs hv =>
                  rename_i u
                  have hs := hs _ _ rfl
                  rw [fin_atR ho] at hs
                  exact ⟨κ, u, w', a.defers, cs, p1, hv, hd.mono p1.ext, (UpTo.refl hu).mono p1.ext, .head henter hs⟩
              · rename_i ch up' M' nx' hc
                simp at he; subst he
                intro hf
                obtain ⟨κ, w', p1, p2⟩ := hcall fr _ hc ι b' a' .run _ w (by rw [e3]; exact h) hG e2 (by rw [e4]; exact hf) (fun _ => ⟨e5, by simp⟩)
                rw [e3, e4] at p1
                cases p2 with
                | pan hs ha hfn hv hcs =>
                  rename_i ys a2 todo2 cs'
                  rw [e5] at hcs
                  simp only [UpTo] at hcs
                  subst hcs
                  refine ⟨κ, w', ys, p1, hv, (UpTo.refl hu).mono p1.ext, .head henter (hs.trans (.one ?_))⟩
                  exact st_raise (c := b.atR a (.inRegion ops (i :: rest) :: k)) (fr' := atM b' a2 todo2 (.panicking ys)) rfl ha hfn
              · cases he
            · cases hfr
        · cases he
      · cases he
    · -- recover
      rename_i hq
      have hrun := run_aeff hX hF h hT o hq
      have hnd : ∀ c, o.op ≠ .defer c := by
        intro c hc; rw [hc] at hq; simp only [aeff] at hq
        repeat' (split at hq)
        all_goals (first | (simp at hq; done) | (cases hp : plainFn _ <;> rw [hp] at hq <;> simp at hq))
      have key : rnd = none → ∀ (r' : Option (Value × List Frame)), tryRecover (b.atR a (.inRegion ops (i :: rest) :: k)) cs = r' → Steps P (lone (b.atR a (.inRegion ops (i :: rest) :: k)) cs w) (match r' with
          | some (v, cs') => lone (b.atR (a.put o.dst v) (.inRegion ops rest :: k)) cs' w
          | none => lone (b.atR (a.put o.dst .nilIface) (.inRegion ops rest :: k)) cs w) := by
        intro hrn r' hr'
        have hb : b.roundOf = none := by
          rw [hrn] at hr
          cases hbr : b.roundOf with
          | none => rfl
          | some x => rw [hbr] at hr; exact hr.elim
        have := st_recover (k := k) (cs := cs) (rest := rest) hb ho hw (by rw [hsem (.inl hnd)]; exact hrun)
        rw [hr'] at this
        exact .one this
      have hkind : (b.atR a (.inRegion ops (i :: rest) :: k)).kind = b.kind := rfl
      split at he
      · rename_i v older
        simp at he; subst he
        intro hf
        obtain ⟨c0, rest0, rfl, hm⟩ := hu rfl
        have hm0 := hm
        generalize hcm : c0.mode = m at hm
        cases hm with
        | panicking hp =>
          cases hp with
          | cons hv t =>
            rename_i u ys
            have hk' : b.kind = .deferred := by simpa using hk
            have ht' : tryRecover (b.atR a (.inRegion ops (i :: rest) :: k)) (c0 :: rest0) = some (u, { c0 with mode := .panicking ({ v := u, recovered := true } :: ys) } :: rest0) := by
              simp [tryRecover, hkind, hk', hcm]
            refine ⟨ι, u, w, a.defers, _, Post.refl h, hv, hd, ⟨c0, rest0, _, rfl, rfl, .panicking (.cons hv t)⟩, ?_⟩
            exact key rfl _ ht'
      · rename_i hno
        simp at he; subst he
        intro hf
        obtain ⟨c0, rest0, rfl, hm⟩ := hu rfl
        have hk' : b.kind = .deferred := by simpa using hk
        have ht' : tryRecover (b.atR a (.inRegion ops (i :: rest) :: k)) (c0 :: rest0) = none := by
          have hm0 := hm
          generalize hcm : c0.mode = m at hm
          cases hm with
          | run => simp [tryRecover, hkind, hk', hcm]
          | returning => simp [tryRecover, hkind, hk', hcm]
          | panicking hp =>
            cases hp with
            | nil => simp [tryRecover, hkind, hk', hcm]
            | cons hv t =>
              rename_i v u rr xs ys
              cases rr with
              | true => simp [tryRecover, hkind, hk', hcm]
              | false => exact (hno v xs rfl).elim
        refine ⟨ι, .nilIface, w, a.defers, _, Post.refl h, .nilIface, hd, UpTo.refl hu, ?_⟩
        exact key rfl _ ht'
      · simp at he; subst he
        intro hf
        have hk' : b.kind = .normal := by simpa using hk
        have ht' : tryRecover (b.atR a (.inRegion ops (i :: rest) :: k)) cs = none := by
          unfold tryRecover
          rw [hkind, hk']
        refine ⟨ι, .nilIface, w, a.defers, _, Post.refl h, .nilIface, hd, UpTo.refl hu, ?_⟩
        exact key rfl _ ht'
      · cases he
    · -- defer
      rename_i d hq
      obtain ⟨d', h1, h2⟩ := run_aeff hX hF h hT o hq
      split at he
      · simp at he; subst he
        intro hf
        have hb : b.roundOf = none := by
          cases hbr : b.roundOf with
          | none => rfl
          | some x => rw [hbr] at hr; exact hr.elim
        refine ⟨ι, undef, w, d' :: a.defers, cs, Post.refl h, undef_self, .cons h1 hd, UpTo.refl hu, .one ?_⟩
        exact st_defer ho hw (by rw [hsem (.inr hb)]; exact h2)
      · cases he
    · -- panic
      rename_i v hq
      obtain ⟨u, h1, h2⟩ := run_aeff hX hF h hT o hq
      simp at he; subst he
      intro hf
      have hnd : ∀ c, o.op ≠ .defer c := by
        intro c hc; rw [hc] at hq; simp only [aeff] at hq
        repeat' (split at hq)
        all_goals (first | (simp at hq; done) | (cases hp : plainFn _ <;> rw [hp] at hq <;> simp at hq))
      refine ⟨ι, w, [{ v := u, recovered := false }], Post.refl h, .cons h1 .nil, UpTo.refl hu, .one ?_⟩
      exact st_panic ho hw (by rw [hsem (.inl hnd)]; exact h2)
    · cases he
end Go.Proofs.YtjbanjpklgpenaaGreatDoor.Vm
