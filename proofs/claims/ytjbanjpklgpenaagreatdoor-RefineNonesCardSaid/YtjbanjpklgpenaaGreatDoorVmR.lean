/-
  THE ABSTRACT INTERPRETER, part R: leaving, ranges over functions, one turn of a frame.
-/
import Derived.Test.YtjbanjpklgpenaaGreatDoorVmQ
namespace Go.Proofs.YtjbanjpklgpenaaGreatDoor.Vm

section
variable {call : Fr → Option Res} {P : Program} {X : Exts} {w0 : World} {G : Nat}

theorem leave_cont {fr fr' : Fr} {jump : Option Code} (hm : fr.mode = .run) (hj : (jump = none ∧ fr.todo = []) ∨ (∃ k, jump = some .ret ∧ fr.todo = .code .ret :: k) ∨ (∃ id k, jump = some (.exit id) ∧ fr.todo = .code (.exit id) :: k ∧ exitTo id k = none))
    (he : leave fr jump = .cont fr') : Prog P G w0 fr fr' := by
  have key : fr.rnd = none → (∀ (b : Frame) (a : Act) (cs : List Frame) (w : World), b.roundOf = none → Steps P (lone (b.atR a fr.todo) cs w) (lone (atM b a fr.todo .returning) cs w)) → Prog P G w0 fr { fr with mode := .returning } := by
    intro hr hs
    refine ⟨rfl, rfl, fun ι b a mode cs w todo st => ?_⟩
    have hmode := st.fm.mode
    rw [hm] at hmode
    cases hmode
    have htd := st.td hm
    subst htd
    have hb : b.roundOf = none := by
      have := st.fm.rnd
      rw [hr] at this
      cases hbr : b.roundOf with
      | none => rfl
      | some x => rw [hbr] at this; exact this.elim
    exact ⟨ι, a, .returning, cs, w, fr.todo, Post.refl st.rel, ⟨st.fm.fn, st.fm.tm, st.fm.ds, .returning, st.fm.kind, st.fm.rnd, st.fm.up⟩, UpTo.refl st.fm.up, (fun hx => by cases hx), hs b a cs w hb⟩
  unfold leave at he
  split at he
  · rename_i hr
    split at he
    · simp at he; subst he
      rcases hj with ⟨_, ht⟩ | ⟨k, hj, ht⟩ | ⟨id, k, hj, ht, hx⟩
      · exact key hr (fun b a cs w hb => by rw [ht]; exact .one (stepR_end hb))
      · cases hj
      · cases hj
    · simp at he; subst he
      rcases hj with ⟨hj, ht⟩ | ⟨k, _, ht⟩ | ⟨id, k, hj, ht, hx⟩
      · cases hj
      · exact key hr (fun b a cs w hb => by rw [ht]; exact .one (stepR_ret hb))
      · cases hj
    · cases he
  · split at he <;> cases he

theorem leave_done {fr : Fr} {r : Res} {jump : Option Code} (hm : fr.mode = .run) (hj : (jump = none ∧ fr.todo = []) ∨ (∃ k, jump = some .ret ∧ fr.todo = .code .ret :: k) ∨ (∃ id k, jump = some (.exit id) ∧ fr.todo = .code (.exit id) :: k ∧ exitTo id k = none))
    (he : leave fr jump = .done r) : SoundT P G w0 fr r := by
  unfold leave at he
  split at he
  · split at he <;> cases he
  · rename_i l hr
    split at he
    · rename_i al hM
      simp only [Stp.done.injEq] at he; subst he
      intro ι b a mode cs w todo st
      have hmode := st.fm.mode
      rw [hm] at hmode
      cases hmode
      have htd := st.td hm
      subst htd
      have hrd := st.fm.rnd
      rw [hr] at hrd
      cases hb : b.roundOf with
      | none => rw [hb] at hrd; exact hrd.elim
      | some l' =>
        rw [hb] at hrd
        obtain ⟨d, h1, h2, h3⟩ := hrd
        obtain ⟨o, q1, q2, q3⟩ := st.rel.at hM h1
        cases q2 with
        | loop hg hd hdg hp ht =>
          rename_i dd tmps params
          have hend := run_endRound (P := P) jump q1
          have hne : fr.rnd ≠ none := by rw [hr]; simp
          have hkn : b.kind = .normal := by have := st.fm.kind; rw [(st.rc hne).1] at this; simpa using this
          rw [h3] at hend
          refine ⟨ι, w.putObj d.blk (.loop { state := if jump.isNone then .ready else .done, pending := jump, fn := al.fn, tmps, params, assign := al.assign, body := al.body, defers := dd.blk }), ?_, .round hne ?_ (.bool _)⟩
          · exact post_obj (x' := .loop { al with st := if jump.isNone then .ready else .done, pending := jump }) st.rel hM rfl h1 q3 (.loop hg hd hdg hp ht)
          · intro c rest hc
            subst hc
            subst h3
            rcases hj with ⟨hj, ht⟩ | ⟨k, hj, ht⟩ | ⟨id, k, hj, ht, hx⟩
            · subst hj; rw [ht]
              exact .one (stepR_round_end hb hkn hend)
            · subst hj; rw [ht]
              exact .one (stepR_round_ret hb hkn hend)
            · subst hj; rw [ht]
              exact .one (stepR_round_exit hb hkn hx hend)
    · cases he

theorem begin_cont {fr : Fr} {l : Nat} {al : ALoop} {k : List Item} (hm : fr.mode = .run) (ht : fr.todo = .beginRound :: k) (hr : fr.rnd = some l) (hM : fr.M.get (l / 256) = some (.loop al)) (hst : al.st = .ready) :
    Prog P G w0 fr { fr with todo := k, M := fr.M.set (l / 256) (.loop { al with st := .busy }) } := by
  refine ⟨rfl, rfl, fun ι b a mode cs w todo st => ?_⟩
  have hmode := st.fm.mode
  rw [hm] at hmode
  cases hmode
  have htd := st.td hm
  subst htd
  have hrd := st.fm.rnd
  rw [hr] at hrd
  cases hb : b.roundOf with
  | none => rw [hb] at hrd; exact hrd.elim
  | some l' =>
    rw [hb] at hrd
    obtain ⟨d, h1, h2, h3⟩ := hrd
    subst h3
    obtain ⟨o, q1, q2, q3⟩ := st.rel.at hM h1
    cases q2 with
    | loop hg hd hdg hp htm =>
      rename_i dd tmps params
      have hbeg := run_beginRound (P := P) q1 hst
      refine ⟨ι, a, .run, cs, w.putObj d.blk (.loop { state := .busy, pending := al.pending, fn := al.fn, tmps, params, assign := al.assign, body := al.body, defers := dd.blk }), k, ?_, ⟨st.fm.fn, st.fm.tm, st.fm.ds, st.fm.mode, st.fm.kind, st.fm.rnd, st.fm.up⟩, UpTo.refl st.fm.up, fun _ => rfl, ?_⟩
      · exact post_obj (x' := .loop { al with st := .busy }) st.rel hM rfl h1 q3 (.loop hg hd hdg hp htm)
      · rw [ht]
        exact .one (stepR_beginRound hb hbeg)

theorem range_cont (hF : FOk P) (hcall : ∀ fr r, call fr = some r → Sound P G w0 fr r) {fr fr' : Fr} {f : Operand} {params : Array Tmp} {assign body : Code} {k : List Item} (hm : fr.mode = .run) (ht : fr.todo = .code (.rangeFunc f params assign body) :: k)
    {gf : FuncId} {first cap : Array Value} {g : Fr} {r : Res} (hr : fr.rnd = none) (hf : getv G fr.T f = some (.func (.func gf) first cap))
    (hg : enterFr P gf (first.toList ++ [.func (.yield (256 * (fr.nx + 1))) #[] #[]] ++ cap.toList) false .run
            ((fr.M.set fr.nx (.defs false)).set (fr.nx + 1) (.loop { st := .ready, pending := none, fn := fr.fn, nt := fr.nt, T := fr.T, params := params.toList, assign, body, defers := 256 * fr.nx })) (fr.nx + 2) = some g)
    (hc : call g = some r)
    (hfr : (∃ v up M' nx' al, r = .ret v up M' nx' ∧ M'.get (fr.nx + 1) = some (.loop al) ∧ al.st ≠ .busy ∧
        fr' = { fr with todo := (al.pending.map Item.code).toList ++ k, ds := { target := .collected (256 * fr.nx), args := #[] } :: fr.ds, M := M'.set (fr.nx + 1) (.loop { al with st := .exhausted }), nx := nx' }) ∨
      (∃ ch up M' nx', r = .pan ch up M' nx' ∧ fr' = { fr with todo := [], mode := .panicking ch, ds := { target := .collected (256 * fr.nx), args := #[] } :: fr.ds, M := M', nx := nx' })) : Prog P G w0 fr fr' := by
  have key : ∀ (ι : Iota) (b : Frame) (a : Act) (cs : List Frame) (w : World), St P G w0 fr ι b a .run cs w fr.todo →
      ∃ (κ : Iota) (w2 : World) (b' : Frame) (a' : Act), Post w0 ι fr.M fr.nx w κ g.M g.nx w2 ∧ FrR P κ g b' a' .run (b.atR { a with defers := { target := .collected w.heap.size, args := #[] } :: a.defers } (.inRangeFunc (w.heap.size + 1) :: k) :: cs) ∧
        g.nx = fr.nx + 2 ∧ g.dk = false ∧ g.rnd = none ∧ b'.kind = .normal ∧ κ (256 * fr.nx) = some ⟨w.heap.size, none⟩ ∧ κ (256 * (fr.nx + 1)) = some ⟨w.heap.size + 1, none⟩ ∧
        Steps P (lone (b.atR a fr.todo) cs w) (lone (atM b' a' g.todo .run) (b.atR { a with defers := { target := .collected w.heap.size, args := #[] } :: a.defers } (.inRangeFunc (w.heap.size + 1) :: k) :: cs) w2) := by
    intro ι b a cs w st
    have hb : b.roundOf = none := by
      have := st.fm.rnd
      rw [hr] at this
      cases hbr : b.roundOf with
      | none => rfl
      | some x => rw [hbr] at this; exact this.elim
    let al : ALoop := { st := .ready, pending := none, fn := fr.fn, nt := fr.nt, T := fr.T, params := params.toList, assign, body, defers := 256 * fr.nx }
    have hT : TR ι G fr.T a.eval := TR.of st.gok st.fm.tm.2
    -- two blocks
    have p1 : Post w0 ι fr.M fr.nx w (ι.upd (256 * fr.nx + 0) ⟨w.heap.size, none⟩) (fr.M.set fr.nx (.defs false)) (fr.nx + 1) (w.alloc (.deferred (some []))) :=
      Post.alloc (s := 0) st.rel (st.fresh.to _) (by omega) rfl (by simp) (.defs (taken := false) rfl)
    have hsz : (w.alloc (.deferred (some []))).heap.size = w.heap.size + 1 := World.size_alloc _ _
    have hd1 : (ι.upd (256 * fr.nx + 0) ⟨w.heap.size, none⟩) (256 * fr.nx) = some ⟨w.heap.size, none⟩ := Iota.upd_same _ _ _
    have hf1 := p1.freshU st.fresh
    have p2 : Post w0 (ι.upd (256 * fr.nx + 0) ⟨w.heap.size, none⟩) (fr.M.set fr.nx (.defs false)) (fr.nx + 1) (w.alloc (.deferred (some [])))
        ((ι.upd (256 * fr.nx + 0) ⟨w.heap.size, none⟩).upd (256 * (fr.nx + 1) + 0) ⟨w.heap.size + 1, none⟩) ((fr.M.set fr.nx (.defs false)).set (fr.nx + 1) (.loop al)) (fr.nx + 2)
        ((w.alloc (.deferred (some []))).alloc (.loop { state := .ready, pending := none, fn := fr.fn, tmps := a.tmps, params, assign, body, defers := w.heap.size })) := by
      have hx : Ext (ι.upd (256 * fr.nx + 0) ⟨w.heap.size, none⟩) ((ι.upd (256 * fr.nx + 0) ⟨w.heap.size, none⟩).upd (256 * (fr.nx + 1) + 0) ⟨w.heap.size + 1, none⟩) := Iota.upd_ext _ (hf1 _ (by omega))
      exact Post.alloc (s := 0) p1.rel (hf1.to _) (by omega) hsz.symm (by simp)
        (.loop (al := al) (d := ⟨w.heap.size, none⟩) rfl (hx _ _ hd1) rfl rfl ((st.fm.tm.mono p1.ext).mono hx))
    have p12 := p1.trans (st.fresh.to _) p2
    generalize hκ : (ι.upd (256 * fr.nx + 0) ⟨w.heap.size, none⟩).upd (256 * (fr.nx + 1) + 0) ⟨w.heap.size + 1, none⟩ = κ at p2 p12
    have hk1 : κ (256 * fr.nx) = some ⟨w.heap.size, none⟩ := p2.ext _ _ hd1
    have hk2 : κ (256 * (fr.nx + 1)) = some ⟨w.heap.size + 1, none⟩ := by rw [← hκ]; exact Iota.upd_same _ _ _
    have hv := hT _ _ hf
    generalize hρ : a.eval f = z at hv
    cases hv with
    | func hpf h1 h2 =>
      rename_i first' cap'
      have hargs : VRL κ (first.toList ++ [.func (.yield (256 * (fr.nx + 1))) #[] #[]] ++ cap.toList) ((first' ++ #[Value.func (.yield (w.heap.size + 1)) #[] #[]]) ++ cap').toList := by
        rw [Array.toList_append, Array.toList_append]
        exact ((h1.mono p12.ext).append (.cons (.yield hk2 rfl) .nil)).append (h2.mono p12.ext)
      obtain ⟨b', a', e1, e2, e3, e4, e5, e6, e7⟩ := enterFr_rel (ι := κ) (cs := b.atR { a with defers := { target := .collected w.heap.size, args := #[] } :: a.defers } (.inRangeFunc (w.heap.size + 1) :: k) :: cs) hg hargs (fun x => by cases x)
      simp only [Bool.false_eq_true, if_false] at e1
      have hex : ∃ fn, P.funcs[gf]? = some fn ∧ fn.body.isSome = true := by
        unfold enterFr at hg
        split at hg
        · rename_i fn hfn
          split at hg
          · rename_i c hc; exact ⟨fn, hfn, by rw [hc]; rfl⟩
          · cases hg
        · cases hg
      obtain ⟨fn, hfn, hbd⟩ := hex
      have hen := run_enterLoop_outer (P := P) (w := w) b.fn a.tmps params assign body
      rw [← hb, st.fm.fn] at hen
      rw [← st.fm.fn] at hen
      have hres : (resolve a.eval (rangeCall f (w.heap.size + 1)) 0).run P ((w.alloc (.deferred (some []))).alloc (.loop { state := .ready, pending := none, fn := b.fn, tmps := a.tmps, params, assign, body, defers := w.heap.size })) =
          .ok { target := .fn (.func gf) cap', args := first' ++ #[.func (.yield (w.heap.size + 1)) #[] #[]] } ((w.alloc (.deferred (some []))).alloc (.loop { state := .ready, pending := none, fn := b.fn, tmps := a.tmps, params, assign, body, defers := w.heap.size })) := by
        simp only [resolve, rangeCall, hρ, Deferred.ofValue, Sem.run_pure, List.map_toArray, List.map_cons, List.map_nil]
        rfl
      have hinv : (invoke (.fn (.func gf) cap') (first' ++ #[.func (.yield (w.heap.size + 1)) #[] #[]])).run P ((w.alloc (.deferred (some []))).alloc (.loop { state := .ready, pending := none, fn := b.fn, tmps := a.tmps, params, assign, body, defers := w.heap.size })) =
          .ok (.enter gf ((first' ++ #[.func (.yield (w.heap.size + 1)) #[] #[]]) ++ cap')) ((w.alloc (.deferred (some []))).alloc (.loop { state := .ready, pending := none, fn := b.fn, tmps := a.tmps, params, assign, body, defers := w.heap.size })) := by
        simp only [invoke]
        exact run_callFunc hF hfn hbd _ _
      have hstep := stepR_rangeFunc (P := P) (k := k) (cs := cs) (g := f) hen hres hinv
      rw [e1] at hstep
      have hbk : b'.kind = .normal := by have := e2.kind; rw [e5] at this; simpa using this
      rw [st.fm.fn] at hstep
      refine ⟨κ, _, b', a', ?_, e2, e4, e5, e6, hbk, hk1, hk2, .one (by rw [ht]; exact hstep)⟩
      rw [e3, e4]
      exact p12
  refine ⟨?_, ?_, fun ι b a mode cs w todo st => ?_⟩
  · rcases hfr with ⟨v, up, M', nx', al, _, _, _, e⟩ | ⟨ch, up, M', nx', _, e⟩ <;> rw [e]
  · rcases hfr with ⟨v, up, M', nx', al, _, _, _, e⟩ | ⟨ch, up, M', nx', _, e⟩ <;> rw [e]
  have hmode := st.fm.mode
  rw [hm] at hmode
  cases hmode
  have htd := st.td hm
  subst htd
  obtain ⟨κ, w2, b', a', p1, k2, k3, k4, k5, k6, k7, k8, k9⟩ := key ι b a cs w st
  obtain ⟨μ, w', q1, q2⟩ := hcall g r hc κ b' a' .run _ w2 p1.rel (fun x hx => p1.ext _ _ (st.gok x hx)) k2 (p1.freshU st.fresh) (fun x => absurd k5 x)
  have hpost := p1.trans (st.fresh.to _) q1
  rcases hfr with ⟨v, up, M', nx', al, rfl, hal, hbusy, rfl⟩ | ⟨ch, up, M', nx', rfl, rfl⟩
  · cases q2 with
    | ret hr0 hs ha hfn hres hv hcs =>
      rename_i u a2 todo2 fn cs'
      rw [k4] at hcs
      simp only [UpTo] at hcs
      subst hcs
      have hback := st_back (P := P) (c := b.atR { a with defers := { target := .collected w.heap.size, args := #[] } :: a.defers } (.inRangeFunc (w.heap.size + 1) :: k)) (cs := cs) (w := w') (fr' := atM b' a2 todo2 .returning) rfl ha k6 hfn hres
      rw [finish_atR_inRangeFunc] at hback
      have hm2 := q1.ext _ _ k8
      have hdiv : (256 * (fr.nx + 1)) / 256 = fr.nx + 1 := by omega
      obtain ⟨o, z1, z2, z3⟩ := q1.rel.at (r := 256 * (fr.nx + 1)) (x := .loop al) (by rw [hdiv]; exact hal) hm2
      cases z2 with
      | loop hg' hd' hdg' hp' htm' =>
        rename_i dd tmps0 params0
        have hend := run_endLoop (P := P) z1 hbusy
        have hstep := stepR_endRangeFunc (P := P) (b := b) (a := { a with defers := { target := .collected w.heap.size, args := #[] } :: a.defers }) (k := k) (cs := cs) hend
        have hlast : Post w0 μ M' nx' w' μ (M'.set (fr.nx + 1) (.loop { al with st := .exhausted })) nx' (w'.putObj (w.heap.size + 1) (.loop { state := .exhausted, pending := al.pending, fn := al.fn, tmps := tmps0, params := params0, assign := al.assign, body := al.body, defers := dd.blk })) := by
          have := post_obj (nx := nx') (x' := .loop { al with st := .exhausted }) q1.rel (by rw [hdiv]; exact hal) rfl hm2 z3 (.loop hg' hd' hdg' hp' htm')
          rw [hdiv] at this
          exact this
        refine ⟨μ, { a with defers := { target := .collected w.heap.size, args := #[] } :: a.defers }, .run, cs, _, _, hpost.trans (st.fresh.to _) hlast,
          ⟨st.fm.fn, st.fm.tm.mono hpost.ext, .cons (.collected (q1.ext _ _ k7) rfl) (st.fm.ds.mono hpost.ext), by show MR μ fr.mode .run; rw [hm]; exact .run, st.fm.kind, st.fm.rnd.mono hpost.ext, st.fm.up.mono hpost.ext⟩, (UpTo.refl st.fm.up).mono hpost.ext, fun _ => rfl, ?_⟩
        exact k9.trans (hs.trans (.head hback (.one hstep)))
    | round hr0 => exact absurd k5 hr0
  · cases q2 with
    | pan hs ha hfn hv hcs =>
      rename_i ys a2 todo2 cs'
      rw [k4] at hcs
      simp only [UpTo] at hcs
      subst hcs
      have hback := st_raise (P := P) (c := b.atR { a with defers := { target := .collected w.heap.size, args := #[] } :: a.defers } (.inRangeFunc (w.heap.size + 1) :: k)) (cs := cs) (w := w') (fr' := atM b' a2 todo2 (.panicking ys)) rfl ha hfn
      exact ⟨μ, { a with defers := { target := .collected w.heap.size, args := #[] } :: a.defers }, .panicking ys, cs, w', .inRangeFunc (w.heap.size + 1) :: k, hpost,
          ⟨st.fm.fn, st.fm.tm.mono hpost.ext, .cons (.collected (q1.ext _ _ k7) rfl) (st.fm.ds.mono hpost.ext), .panicking hv, st.fm.kind, st.fm.rnd.mono hpost.ext, st.fm.up.mono hpost.ext⟩, (UpTo.refl st.fm.up).mono hpost.ext, (fun hx => by cases hx),
          k9.trans (hs.trans (.one hback))⟩
end
end Go.Proofs.YtjbanjpklgpenaaGreatDoor.Vm
