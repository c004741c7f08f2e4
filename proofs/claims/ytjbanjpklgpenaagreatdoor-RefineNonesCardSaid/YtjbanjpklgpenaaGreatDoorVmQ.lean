/-
  THE ABSTRACT INTERPRETER, part Q: frames that unwind, leave, range over functions.
-/
import Derived.Test.YtjbanjpklgpenaaGreatDoorVmP
import Derived.RangeFuncRecord
namespace Go.Proofs.YtjbanjpklgpenaaGreatDoor.Vm

theorem aResults_rel {P : Program} {w0 : World} {ι : Iota} {nt : Nat} {T : Tr Value} {tmps : Array Value} {M : Tr Blk} {w : World} (h : R w0 ι M w) (ht : TmR ι nt T tmps) : ∀ (l : List ResultVar) {vs : List Value}, aResults P T M l = some vs →
    ∃ us, (l.mapM (m := Sem) (fun | .tmp t => pure (tmps.getD t undef) | .cell a t => do loadVar t (← asAddr (tmps.getD a undef)))).run P w = .ok us w ∧ VRL ι vs us
  | [], vs, e => by
    simp [aResults] at e; subst e
    exact ⟨[], by simp, .nil⟩
  | .tmp t :: rest, vs, e => by
    simp only [aResults] at e
    split at e
    · rename_i v hv
      split at e
      · rename_i vs' hvs
        simp at e; subst e
        obtain ⟨us, h1, h2⟩ := aResults_rel h ht rest hvs
        obtain ⟨u, h3, h4⟩ := ht.2 t v hv
        refine ⟨u :: us, ?_, .cons h4 h2⟩
        have : tmps.getD t undef = u := by rw [Array.getD_eq_getD_getElem?, h3]; rfl
        simp only [List.mapM_cons, Sem.run_bind, Sem.run_pure, Result.andThen_ok, this, h1]
      · cases e
    · cases e
  | .cell a t :: rest, vs, e => by
    simp only [aResults] at e
    split at e
    · rename_i p hp
      split at e
      · rename_i v hv
        split at e
        · rename_i vs' hvs
          simp at e; subst e
          obtain ⟨us, h1, h2⟩ := aResults_rel h ht rest hvs
          obtain ⟨u, h3, h4⟩ := ht.2 a p hp
          have : tmps.getD a undef = u := by rw [Array.getD_eq_getD_getElem?, h3]; rfl
          cases h4 with
          | ptr hι =>
            obtain ⟨z, h5, h6⟩ := run_loadVar h hι hv
            refine ⟨z :: us, ?_, .cons h5 h2⟩
            rename_i b0 o0 l0
            have hasA : asAddr (tmps.getD a undef) = pure { block := l0.blk, off := l0.off o0 } := by rw [this]; rfl
            simp only [List.mapM_cons, Sem.run_bind, hasA, Sem.run_pure, Result.andThen_ok, h6]
            rw [h1]
            rfl
          | _ => simp [aLoad] at hv
        · cases e
      · cases e
    · cases e

theorem results_rel {P : Program} {w0 : World} {ι : Iota} {nt : Nat} {T : Tr Value} {tmps : Array Value} {M : Tr Blk} {w : World} (h : R w0 ι M w) (ht : TmR ι nt T tmps) {fn : Func} {vs : List Value} (e : aResults P T M fn.results.toList = some vs) :
    ∃ u, (results fn tmps).run P w = .ok u w ∧ VR ι (match vs with | [v] => v | vs => .tuple vs.toArray) u := by
  obtain ⟨us, h1, h2⟩ := aResults_rel h ht _ e
  refine ⟨if h : us.toArray.size = 1 then us.toArray[0] else .tuple us.toArray, ?_, ?_⟩
  · unfold results
    rw [Array.mapM_eq_mapM_toList]
    simp only [Sem.run_bind, Sem.run_map]
    erw [h1]
    rfl
  · cases h2 with
    | nil => exact .tuple .nil
    | cons hv t =>
      cases t with
      | nil => exact hv
      | cons hv2 t2 =>
        simp only [List.size_toArray, List.length_cons]
        rw [dif_neg (by omega)]
        exact .tuple (by simpa using VRL.cons hv (.cons hv2 t2))

section
variable {call : Fr → Option Res} {P : Program} {X : Exts} {w0 : World} {G : Nat}

/-- A loop's block, or a block of deferred calls, is turned. -/
theorem post_obj {ι : Iota} {M : Tr Blk} {nx : Nat} {w : World} {r : Nat} {x x' : Blk} {l : Loc} {o : Obj} (h : R w0 ι M w) (hm : M.get (r / 256) = some x) (hw : x.wr = true) (hι : ι r = some l) (hlt : l.blk < w.heap.size) (hb : BR ι r x' l o) :
    Post w0 ι M nx w ι (M.set (r / 256) x') nx (w.putObj l.blk o) :=
  Post.write h hm hw hι ⟨o, World.putObj_heap_same hlt, hb⟩ (fun _ hk => World.putObj_heap_other hk) World.putObj_size rfl rfl rfl

theorem R.at {ι : Iota} {M : Tr Blk} {w : World} {r : Nat} {x : Blk} {l : Loc} (h : R w0 ι M w) (hm : M.get (r / 256) = some x) (hι : ι r = some l) : ∃ o, w.heap[l.blk]? = some o ∧ BR ι r x l o ∧ l.blk < w.heap.size := by
  obtain ⟨o, h1, h2⟩ := h.live r x l hm hι
  exact ⟨o, h1, h2, (Array.getElem?_eq_some_iff.1 h1).1⟩

theorem unwind_cont (hF : FOk P) (hcall : ∀ fr r, call fr = some r → Sound P G w0 fr r) {fr fr' : Fr} (hm : fr.mode ≠ .run) (he : unwindA call P fr = .cont fr') : Prog P G w0 fr fr' := by
  unfold unwindA at he
  split at he
  · -- a mark
    rename_i r as ds hds
    split at he
    · rename_i hM
      simp at he; subst he
      refine ⟨rfl, rfl, fun ι b a mode cs w todo st => ?_⟩
      have hd := st.fm.ds
      rw [hds] at hd
      generalize hads : a.defers = ads at hd
      cases hd with
      | cons hd1 hd2 =>
        rename_i d' ds'
        cases hd1 with
        | collected hl hg =>
          rename_i l
          obtain ⟨o, q1, q2, q3⟩ := st.rel.at hM hl
          cases q2 with
          | defs hg' =>
            have hmode := st.fm.mode
            have hmr : mode ≠ .run := by intro e; rw [e] at hmode; generalize hz : fr.mode = z at hmode; cases hmode; exact hm hz
            have hk := run_takeDeferred (P := P) (w := w) (b := l.blk) (ds := []) (by simpa using q1)
            have hs := step_collected (P := P) (fr := atM b a todo mode) (cs := cs) hmr hads rfl hk
            refine ⟨ι, { a with defers := ds' }, mode, cs, w.putObj l.blk (.deferred none), todo, ?_, ⟨st.fm.fn, st.fm.tm, hd2, hmode, st.fm.kind, st.fm.rnd, st.fm.up⟩, UpTo.refl st.fm.up, (fun hx => absurd hx hm), .one hs⟩
            exact post_obj st.rel hM rfl hl q3 (.defs (taken := true) hg)
    · cases he
  · -- a deferred call
    rename_i f cap as ds hds
    split at he
    · rename_i g hg
      have key : ∀ (ι : Iota) (b : Frame) (a : Act) (mode : FrameMode) (cs : List Frame) (w : World) (todo : List Item), St P G w0 fr ι b a mode cs w todo →
          ∃ (ds' : List Deferred) (b' : Frame) (a' : Act) (ca : Array Value), DRL ι ds ds' ∧ FrR P ι g b' a' .run (atM b { a with defers := ds' } todo mode :: cs) ∧ g.M = fr.M ∧ g.nx = fr.nx ∧ g.dk = true ∧ g.rnd = none ∧ b'.kind = .deferred ∧
            Steps P (lone (atM b a todo mode) cs w) (lone (atM b' a' g.todo .run) (atM b { a with defers := ds' } todo mode :: cs) w) := by
        intro ι b a mode cs w todo st
        have hd := st.fm.ds
        rw [hds] at hd
        generalize hads : a.defers = ads at hd
        cases hd with
        | cons hd1 hd2 =>
          rename_i d' ds'
          cases hd1 with
          | fn hpf hc ha =>
            rename_i cap' as'
            have hmode := st.fm.mode
            have hmr : mode ≠ .run := by intro e; rw [e] at hmode; generalize hz : fr.mode = z at hmode; cases hmode; exact hm hz
            have hargs : VRL ι (as.toList ++ cap.toList) (as' ++ cap').toList := by rw [Array.toList_append]; exact ha.append hc
            obtain ⟨b', a', e1, e2, e3, e4, e5, e6, e7⟩ := enterFr_rel (ι := ι) (cs := atM b { a with defers := ds' } todo mode :: cs) hg hargs (fun _ => ⟨_, _, rfl, hmode⟩)
            simp only [if_true] at e1
            have hex : ∃ fn, P.funcs[f]? = some fn ∧ fn.body.isSome = true := by
              unfold enterFr at hg
              split at hg
              · rename_i fn hfn
                split at hg
                · rename_i c hc; exact ⟨fn, hfn, by rw [hc]; rfl⟩
                · cases hg
              · cases hg
            obtain ⟨fn, hfn, hb⟩ := hex
            have hi : (invoke (.fn (.func f) cap') as').run P w = .ok (.enter f (as' ++ cap')) w := by
              simp only [invoke]
              exact run_callFunc hF hfn hb _ w
            have hs := step_defer (P := P) (fr := atM b a todo mode) (cs := cs) hmr hads rfl hi
            rw [e1] at hs
            have hk : b'.kind = .deferred := by have := e2.kind; rw [e5] at this; simpa using this
            exact ⟨ds', b', a', cap', hd2, e2, e3, e4, e5, e6, hk, .one hs⟩
      split at he
      · rename_i v up' M' nx' hc
        split at he
        · cases he
        · rename_i m hset
          simp at he; subst he
          refine ⟨rfl, rfl, fun ι b a mode cs w todo st => ?_⟩
          obtain ⟨ds', b', a', ca, k1, k2, k3, k4, k5, k6, k7, k8⟩ := key ι b a mode cs w todo st
          obtain ⟨κ, w', p1, p2⟩ := hcall g _ hc ι b' a' .run _ w (by rw [k3]; exact st.rel) st.gok k2 (by rw [k4]; exact st.fresh) (fun x => absurd k6 x)
          rw [k3, k4] at p1
          cases p2 with
          | ret hr0 hs ha hfn hres hv hcs =>
            rename_i u a2 todo2 fn cs'
            rw [k5] at hcs
            obtain ⟨c, rest, m', h1, h2, h3⟩ := hcs
            simp only [List.cons.injEq] at h1
            obtain ⟨rfl, rfl⟩ := h1
            subst h2
            have hgo : (atM b' a2 todo2 .returning).going P w' (.returned u) := ⟨rfl, ha, fn, hfn, hres⟩
            have hlast := step_going_returned (P := P) (fr := atM b' a2 todo2 .returning) (c := { (atM b { a with defers := ds' } todo mode) with mode := m' }) (cs := cs) (w := w') k7 hgo
            refine ⟨κ, { a with defers := ds' }, settle m', cs, w', todo, p1, ⟨st.fm.fn, st.fm.tm.mono p1.ext, k1.mono p1.ext, MR.settle h3, st.fm.kind, st.fm.rnd.mono p1.ext, st.fm.up.mono p1.ext⟩, (UpTo.refl st.fm.up).mono p1.ext, ?_, k8.trans (hs.trans (.one hlast))⟩
            intro hx
            exact absurd hx hset
          | round hr0 => exact absurd k6 hr0
      · rename_i ch up' M' nx' hc
        split at he
        · cases he
        · rename_i m hset
          simp at he; subst he
          refine ⟨rfl, rfl, fun ι b a mode cs w todo st => ?_⟩
          obtain ⟨ds', b', a', ca, k1, k2, k3, k4, k5, k6, k7, k8⟩ := key ι b a mode cs w todo st
          obtain ⟨κ, w', p1, p2⟩ := hcall g _ hc ι b' a' .run _ w (by rw [k3]; exact st.rel) st.gok k2 (by rw [k4]; exact st.fresh) (fun x => absurd k6 x)
          rw [k3, k4] at p1
          cases p2 with
          | pan hs ha hfn hv hcs =>
            rename_i ys a2 todo2 cs'
            rw [k5] at hcs
            obtain ⟨c, rest, m', h1, h2, h3⟩ := hcs
            simp only [List.cons.injEq] at h1
            obtain ⟨rfl, rfl⟩ := h1
            subst h2
            obtain ⟨fn, hfn⟩ := Option.isSome_iff_exists.1 hfn
            have hgo : (atM b' a2 todo2 (.panicking ys)).going P w' (.panicked ys) := ⟨rfl, ha, fn, hfn⟩
            have hlast := step_going_panicked (P := P) (fr := atM b' a2 todo2 (.panicking ys)) (c := { (atM b { a with defers := ds' } todo mode) with mode := m' }) (cs := cs) (w := w') hgo
            refine ⟨κ, { a with defers := ds' }, raised m' ys, cs, w', todo, p1, ⟨st.fm.fn, st.fm.tm.mono p1.ext, k1.mono p1.ext, MR.raised h3 hv, st.fm.kind, st.fm.rnd.mono p1.ext, st.fm.up.mono p1.ext⟩, (UpTo.refl st.fm.up).mono p1.ext, ?_, k8.trans (hs.trans (.one hlast))⟩
            intro hx
            exact absurd hx hset
      · cases he
    · cases he
  · cases he
  · split at he
    · split at he
      · split at he
        · cases he
        · cases he
        · cases he
      · cases he
    · split at he
      · cases he
      · cases he
    · cases he

theorem unwind_done {fr : Fr} {r : Res} (hm : fr.mode ≠ .run) (he : unwindA call P fr = .done r) : SoundT P G w0 fr r := by
  unfold unwindA at he
  split at he
  · split at he <;> cases he
  · split at he
    · split at he
      · split at he <;> cases he
      · split at he <;> cases he
      · cases he
    · cases he
  · cases he
  · rename_i hds
    intro ι b a mode cs w todo st
    have hd := st.fm.ds
    rw [hds] at hd
    generalize hads : a.defers = ads at hd
    cases hd
    have hmode := st.fm.mode
    have hup := UpTo.refl st.fm.up
    split at he
    · rename_i hmd
      rw [hmd] at hmode
      cases hmode
      split at he
      · rename_i fn hrn hfn
        have hfn' : P.funcs[b.fn]? = some fn := by rw [st.fm.fn]; exact hfn
        split at he
        · rename_i v hv
          simp at he; subst he
          obtain ⟨u, h1, h2⟩ := results_rel st.rel st.fm.tm hv
          exact ⟨ι, w, Post.refl st.rel, .ret hrn (.refl _ _) hads hfn' h1 h2 hup⟩
        · rename_i vs hne hv
          simp at he; subst he
          obtain ⟨u, h1, h2⟩ := results_rel st.rel st.fm.tm hv
          refine ⟨ι, w, Post.refl st.rel, .ret hrn (.refl _ _) hads hfn' h1 ?_ hup⟩
          split at h2
          · first | exact (hne _ rfl).elim | exact (hne _ hv).elim
          · exact h2
        · cases he
      · cases he
    · rename_i ch hmd
      rw [hmd] at hmode
      cases hmode with
      | panicking hp =>
        split at he
        · rename_i fn hfn
          simp at he; subst he
          exact ⟨ι, w, Post.refl st.rel, .pan (.refl _ _) hads (by rw [st.fm.fn, hfn]; rfl) hp hup⟩
        · cases he
    · cases he
end
end Go.Proofs.YtjbanjpklgpenaaGreatDoor.Vm
