/-
  THE ABSTRACT INTERPRETER, part X: the drawn regions are sound.
-/
import Derived.Test.YtjbanjpklgpenaaGreatDoorVmW
namespace Go.Proofs.YtjbanjpklgpenaaGreatDoor.Vm

def done (listed : Array Bool) (j : Nat) : Prop := listed[j]? = some true

theorem filter_le {p q : Nat → Bool} (h : ∀ x, q x = true → p x = true) : ∀ (l : List Nat), (l.filter q).length ≤ (l.filter p).length
  | [] => by simp
  | x :: l => by
    have ih := filter_le h l
    simp only [List.filter_cons]
    cases hq : q x with
    | true => rw [h x hq]; simp only [if_true, List.length_cons]; omega
    | false => cases p x <;> simp <;> omega
theorem filter_lt {p q : Nat → Bool} (h : ∀ x, q x = true → p x = true) {y : Nat} (hp : p y = true) (hq : q y = false) : ∀ (l : List Nat), y ∈ l → (l.filter q).length < (l.filter p).length
  | [], hy => by cases hy
  | x :: l, hy => by
    simp only [List.filter_cons]
    rcases List.mem_cons.1 hy with rfl | hy
    · have := filter_le h l
      rw [hp, hq]; simp only [if_true, List.length_cons, Bool.false_eq_true, if_false]; omega
    · have ih := filter_lt h hp hq l hy
      cases hqx : q x with
      | true => rw [h x hqx]; simp only [if_true, List.length_cons]; omega
      | false => cases p x <;> simp <;> omega

def unl (n : Nat) (listed : Array Bool) : Nat := ((List.range n).filter fun j => !listed.getD j true).length

section
variable {P : Program} {X : Exts} {w0 : World} {G : Nat} {dk : Bool} {rnd : Option Nat} {nt : Nat} {ops : Array Oper} {T0 : Tr Value}

theorem go_succ (fuel t : Nat) (listed : Array Bool) : Region.linearise.go .any ops (fuel + 1) t listed [] = match (Region.ready .any ops listed)[t % (Region.ready .any ops listed).length]? with
    | some i => i :: Region.linearise.go .any ops fuel (t / (Region.ready .any ops listed).length) (listed.setIfInBounds i true) []
    | none => [] := by
  simp only [Region.linearise.go]
  change (match (Region.ready .any ops listed)[t % (Region.ready .any ops listed).length]? with
      | some i => Region.linearise.go .any ops fuel (t / (Region.ready .any ops listed).length) (listed.setIfInBounds i true) [i]
      | none => [].reverse) = _
  split
  · rw [linearise_go_acc]; simp
  · rfl

theorem draw_main (hX : XOk P G w0 X) (hF : FOk P) {call : Fr → Option Res} (hcall : ∀ fr r, call fr = some r → Sound P G w0 fr r) (hdst : dstsApart ops.toList = true) {b : Frame} (hk : b.kind = if dk then .deferred else .normal) {k : List Item}
    {ι : Iota} {M0 : Tr Blk} {nx0 : Nat} {w00 : World} {cs0 : List Frame} (hG : GOk G ι) (hf0 : FreshU ι nx0) (hr : RndR ι rnd b.roundOf) :
    ∀ (fuel t : Nat) (listed : Array Bool) (hist : List Ent) (rest : List PStep) (ds : List Deferred) (up : FrameMode) (M : Tr Blk) (nx : Nat) (ws : List Watch) (lm : Nat) (r : RR) (κ : Iota) (a : Act) (cs : List Frame) (w : World),
      listed.size = ops.size → unl ops.size listed ≤ fuel → WF ops (rest.reverse ++ hist.map (·.s)) → (∀ j, j < ops.size → ∃ p ∈ rest.reverse ++ hist.map (·.s), p.i = j) → Head ops (tmpsOf T0 hist) rest →
      DI P G ops nt T0 nx0 hist (done listed) κ a.tmps nx ws lm → vdraw call P X G dk rnd nt ops T0 rest (tmpsOf T0 hist) ds up M nx ws lm = some r →
      Post w0 ι M0 nx0 w00 κ M nx w → DRL κ ds a.defers → UpTo κ dk up cs0 cs →
      RREnd P w0 ι dk nt M0 nx0 b (lone (b.atR a (.inRegion ops (Region.linearise.go .any ops fuel t listed []) :: k)) cs w) k cs0 w00 r := by
  intro fuel
  induction fuel with
  | zero =>
    intro t listed hist rest ds up M nx ws lm r κ a cs w hsz hun hw hcm hh D hv hp hd hu
    have hall : ∀ j, j < ops.size → done listed j := by
      intro j hj
      have h0 : (List.range ops.size).filter (fun j => !listed.getD j true) = [] := List.eq_nil_of_length_eq_zero (Nat.le_zero.1 hun)
      have h1 := List.filter_eq_nil_iff.1 h0 j (List.mem_range.2 hj)
      have hlt : j < listed.size := by rw [hsz]; exact hj
      simp only [Array.getD_eq_getD_getElem?, Array.getElem?_eq_getElem hlt, Option.getD_some, Bool.not_eq_true', Bool.not_eq_false] at h1
      unfold done
      rw [Array.getElem?_eq_getElem hlt]
      simpa using h1
    have hend : Region.linearise.go .any ops 0 t listed [] = [] := rfl
    rw [hend]
    have hres : rest = [] := by
      cases rest with
      | nil => rfl
      | cons s rest =>
        obtain ⟨o, ho, _⟩ := hh
        obtain ⟨e, he, hei⟩ := D.sub s.i (hall s.i (Array.getElem?_eq_some_iff.1 ho).1)
        have hws : WF ops (s :: hist.map (·.s)) := by
          have : (s :: rest).reverse ++ hist.map (·.s) = rest.reverse ++ s :: hist.map (·.s) := by simp
          rw [this] at hw
          exact hw.tail
        obtain ⟨_, o2, _, _, h3, _⟩ := hws
        exact absurd hei (h3 _ (List.mem_map.2 ⟨e, he, rfl⟩))
    subst hres
    have hwok := head_ok hh hv
    simp only [vdraw] at hv
    rw [List.all_eq_true.2 hwok] at hv
    simp only [cond_true, Option.some.injEq] at hv; subst hv
    exact ⟨κ, a, cs, w, hp, D.all hdst (fun e he => hall _ (Array.getElem?_eq_some_iff.1 (HT.op D.ht e he).1).1), hd, hu, .one stepR_region_end⟩
  | succ fuel ih =>
    intro t listed hist rest ds up M nx ws lm r κ a cs w hsz hun hw hcm hh D hv hp hd hu
    have hwok := head_ok hh hv
    rw [go_succ]
    have hgd : ∀ j, listed.getD j false = true ↔ done listed j := by
      intro j
      unfold done
      rw [Array.getD_eq_getD_getElem?]
      cases listed[j]? with
      | none => simp
      | some x => simp
    have hgt : ∀ j, listed.getD j true = false → ¬ done listed j ∧ j < ops.size := by
      intro j hj
      unfold done
      rw [Array.getD_eq_getD_getElem?] at hj
      cases hx : listed[j]? with
      | none => rw [hx] at hj; simp at hj
      | some x =>
        rw [hx] at hj
        simp at hj; subst hj
        exact ⟨by simp, by rw [← hsz]; exact (Array.getElem?_eq_some_iff.1 hx).1⟩
    split
    · rename_i i hi
      have hmem := List.mem_of_getElem? hi
      rw [mem_ready] at hmem
      obtain ⟨hl, o, ho, hdir⟩ := hmem
      obtain ⟨hnd, hlt⟩ := hgt i hl
      have hdir2 : ∀ j ∈ directs o, done listed j := by
        intro j hj
        obtain ⟨e, he, hb, hx⟩ := mem_directs.1 hj
        rw [← hx]
        exact (hgd _).1 (hdir e he hb)
      have hsz2 : (listed.setIfInBounds i true).size = ops.size := by simp [hsz]
      have hun2 : unl ops.size (listed.setIfInBounds i true) ≤ fuel := by
        have : unl ops.size (listed.setIfInBounds i true) < unl ops.size listed := by
          unfold unl
          refine filter_lt (y := i) ?_ ?_ ?_ _ (List.mem_range.2 hlt)
          · intro x hx
            simp only [Bool.not_eq_true'] at hx ⊢
            by_cases hxi : i = x
            · subst hxi; exact hl
            · rw [getD_set_ne true hxi] at hx; exact hx
          · simp [hl]
          · have hil : i < listed.size := by rw [hsz]; exact hlt
            simp [hil]
        omega
      have hdone : done (listed.setIfInBounds i true) = (fun j => j = i ∨ done listed j) := by
        funext j
        unfold done
        by_cases hij : j = i
        · subst hij
          have hil : j < listed.size := by rw [hsz]; exact hlt
          simp [Array.getElem?_setIfInBounds_self_of_lt hil]
        · rw [Array.getElem?_setIfInBounds_ne (Ne.symm hij)]
          simp [hij]
      have hGκ : GOk G κ := fun g hg => hp.ext _ _ (hG g hg)
      by_cases hex : ∃ e ∈ hist, e.s.i = i
      · -- a quiet one
        obtain ⟨e, he, rfl⟩ := hex
        have hoe : o = e.o := by have := (HT.op D.ht e he).1; rw [ho] at this; injection this
        subst hoe
        rcases quiet_exec hdst D hwok he hnd hdir2 hGκ hf0 hp with ⟨q1, q2⟩ | ⟨q1, q2, κ', u, w', q3, q4, q5, q6, q7⟩
        · have hstep := stepR_op_skip (P := P) (b := b) (a := a) (k := k) (cs := cs) (w := w) (ops := ops) (i := e.s.i) (rest := Region.linearise.go .any ops fuel (t / (Region.ready .any ops listed).length) (listed.setIfInBounds e.s.i true) []) (by simp [ho, q1])
          have e1 : (ops[e.s.i]?).bind (·.dst) = e.o.dst := by rw [ho]; rfl
          rw [e1] at hstep
          have D2 := DI.done hdst D he hdir2 (Ext.refl κ) (u := undef) (by rw [q2]; exact undef_self) (fun x hx hcx hnx _ b hb => (D.rg x hx hcx hnx).2.2 b hb)
          rw [← hdone] at D2
          have := ih (t / (Region.ready .any ops listed).length) (listed.setIfInBounds e.s.i true) hist rest ds up M nx ws lm r κ (a.put e.o.dst undef) cs w hsz2 hun2 hw hcm hh D2 hv hp (by rw [put_defers]; exact hd) hu
          cases r with
          | ok T' ds' up' M' nx' =>
            obtain ⟨μ, a', cs', w', h1, h2, h3, h4, h5⟩ := this
            exact ⟨μ, a', cs', w', h1, h2, h3, h4, .head hstep h5⟩
          | pan ch T' ds' up' M' nx' =>
            obtain ⟨μ, a', cs', w', ch', todo', h1, h2, h3, h4, h5, h6⟩ := this
            exact ⟨μ, a', cs', w', ch', todo', h1, h2, h3, h4, h5, .head hstep h6⟩
        · have hstep := st_value (P := P) (b := b) (a := a) (k := k) (cs := cs) (w := w) (ops := ops) (i := e.s.i) (rest := Region.linearise.go .any ops fuel (t / (Region.ready .any ops listed).length) (listed.setIfInBounds e.s.i true) []) ho q1
            (by rw [Oper.semAt_eq _ _ _ q2]; exact q3)
          have D2 := DI.done hdst D he hdir2 q5 q6 q7
          rw [← hdone] at D2
          have := ih (t / (Region.ready .any ops listed).length) (listed.setIfInBounds e.s.i true) hist rest ds up M nx ws lm r κ' (a.put e.o.dst u) cs w' hsz2 hun2 hw hcm hh D2 hv q4 (by rw [put_defers]; exact hd.mono q5) (hu.mono q5)
          cases r with
          | ok T' ds' up' M' nx' =>
            obtain ⟨μ, a', cs', w', h1, h2, h3, h4, h5⟩ := this
            exact ⟨μ, a', cs', w', h1, h2, h3, h4, .head hstep h5⟩
          | pan ch T' ds' up' M' nx' =>
            obtain ⟨μ, a', cs', w', ch', todo', h1, h2, h3, h4, h5, h6⟩ := this
            exact ⟨μ, a', cs', w', ch', todo', h1, h2, h3, h4, h5, .head hstep h6⟩
      · -- an effect
        cases rest with
        | nil =>
          obtain ⟨p, hpm, hpi⟩ := hcm i hlt
          simp only [List.reverse_nil, List.nil_append] at hpm
          obtain ⟨e, he, rfl⟩ := List.mem_map.1 hpm
          exact absurd ⟨e, he, hpi⟩ hex
        | cons s rest =>
          have hrev : (s :: rest).reverse ++ hist.map (·.s) = rest.reverse ++ s :: hist.map (·.s) := by simp
          rw [hrev] at hw hcm
          have hws : WF ops (s :: hist.map (·.s)) := hw.tail
          obtain ⟨o2, ho2, hwa, hkd⟩ := hh
          have hsi : i = s.i := by
            obtain ⟨_, o3, _, _, _, _, _, _, h7⟩ := hws
            by_cases hne : i = s.i
            · exact hne
            · obtain ⟨e, he, hnot⟩ := h7 (Nat.eq_of_beq_eq_true hkd) i o ho (fun p hp hpi => by
                obtain ⟨x, hx, rfl⟩ := List.mem_map.1 hp
                exact hex ⟨x, hx, hpi⟩) hne
              obtain ⟨x, hx, hxi⟩ := D.sub e (hdir2 e he)
              exact absurd hxi (hnot _ (List.mem_map.2 ⟨x, hx, rfl⟩))
          subst hsi
          have : o2 = o := by rw [ho] at ho2; injection ho2 with ho2; exact ho2.symm
          subst this
          simp only [vdraw, ho, hwa, hkd] at hv
          rw [List.all_eq_true.2 hwok] at hv
          simp only at hv
          have hop := HT.op D.ht
          -- what the effect looks at
          let e0 : Ent := { s, o := o2, v := undef, Ti := restr (o2.looksAt ops) (tmpsOf T0 hist), wn := true, n := nx }
          have ag := agree (nt := nt) (T0 := T0) (C := done listed) (κ := κ) (tmps := a.tmps) hdst (h1 := []) (h := hist) (e := e0) hws D.ht (by
              intro x hx
              simp only [List.nil_append] at hx
              rcases List.mem_cons.1 hx with rfl | hx
              · exact ho
              · exact (hop x hx).1) D.cl hnd hdir2 (by
              intro x hx hc d hxd
              simp only [List.nil_append] at hx
              rcases List.mem_cons.1 hx with rfl | hx
              · exact absurd hc hnd
              · exact D.i1 x hx hc d hxd) (by
              intro tt v hT hnot
              exact D.i2 tt v hT (fun x hx hc => hnot x (by simp [hx]) hc))
          have hTm : TmR κ nt (restr (o2.looksAt ops) (tmpsOf T0 hist)) a.tmps := ⟨D.size, fun tt v hx => by
            obtain ⟨g1, g2⟩ := restr_get hx
            exact ag tt g1 v g2⟩
          have hwan := wanted_at ag hwa
          split at hv
          · rename_i v ds' up' M' nx' hop'
            split at hv
            · rename_i T' hT'
              obtain ⟨p1, p2⟩ := putT_some hT'
              subst p2
              obtain ⟨κ1, u, w1, defs', cs', z1, z2, z3, z4, z5⟩ := vop_sound hX hF hcall hGκ hop' hp.rel hTm hd hk (hr.mono hp.ext) hu.upR ho hwan (k := k) (rest := Region.linearise.go .any ops fuel (t / (Region.ready .any ops listed).length) (listed.setIfInBounds s.i true) []) (hp.freshU hf0)
              let e1 : Ent := { s, o := o2, v, Ti := restr (o2.looksAt ops) (tmpsOf T0 hist), wn := true, n := nx }
              have ht1 : HT ops nt T0 (e1 :: hist) := ⟨D.ht, ho, p1, rfl, hwa⟩
              have hpost := hp.trans (hf0.to _) z1
              have D1 := DI.effect (e := e1) hdst D hws ht1 hdir2 z1.ext z1.le (fun b hb hlt => by
                cases hz : κ1 b with
                | none => rfl
                | some l => have := (z1.new b l hb hz).1; omega) (u := u) z2
              obtain ⟨q, rest2, M2, nx2, ws2, g1, g2, g3, g4, g5, g6, g7, g8, g9, g10⟩ := adv ds' up' s.mask r rest (e1 :: hist) M' nx' ws hw ht1 hv
              have hwq : rest.reverse ++ s :: hist.map (·.s) = rest2.reverse ++ (q ++ e1 :: hist).map (·.s) := by
                rw [g1]; simp [e1]
              rw [hwq] at hw hcm
              have D2 := DI.grow D1 (hpost.freshU hf0) (hpost.le) (q := q) hw.tail g2 g5 g6 g9 g10
              have hpost2 := hpost.widen (hpost.freshU hf0) g6 g7 g8
              have hC : (fun j => j = e1.s.i ∨ done listed j) = done (listed.setIfInBounds s.i true) := hdone.symm
              rw [hC] at D2
              have hdput : (a.put e1.o.dst u).tmps = (({ a with defers := defs' } : Act).put o2.dst u).tmps := by
                show (a.put o2.dst u).tmps = _
                cases o2.dst <;> rfl
              rw [hdput] at D2
              have := ih (t / (Region.ready .any ops listed).length) (listed.setIfInBounds s.i true) (q ++ e1 :: hist) rest2 ds' up' M2 nx2 ws2 s.mask r κ1 (({ a with defers := defs' } : Act).put o2.dst u) cs' w1 hsz2 hun2 hw hcm g4 D2 g3 hpost2 (by rw [put_defers]; exact z3) (UpTo.trans hu z4)
              cases r with
              | ok T' ds2 up2 M3 nx3 =>
                obtain ⟨μ, a', cs2, w2, h1, h2, h3, h4, h5⟩ := this
                exact ⟨μ, a', cs2, w2, h1, h2, h3, h4, z5.trans h5⟩
              | pan ch T' ds2 up2 M3 nx3 =>
                obtain ⟨μ, a', cs2, w2, ch', todo', h1, h2, h3, h4, h5, h6⟩ := this
                exact ⟨μ, a', cs2, w2, ch', todo', h1, h2, h3, h4, h5, z5.trans h6⟩
            · cases hv
          · rename_i ch up' M' nx' hop'
            simp only [Option.some.injEq] at hv; subst hv
            obtain ⟨κ1, w1, ch', z1, z2, z3, z4⟩ := vop_sound hX hF hcall hGκ hop' hp.rel hTm hd hk (hr.mono hp.ext) hu.upR ho hwan (k := k) (rest := Region.linearise.go .any ops fuel (t / (Region.ready .any ops listed).length) (listed.setIfInBounds s.i true) []) (hp.freshU hf0)
            exact ⟨κ1, a, cs, w1, ch', _, hp.trans (hf0.to _) z1, D.lost.mono z1.ext, hd.mono z1.ext, UpTo.trans hu z3, z2, z4⟩
          · cases hv
    · rename_i hi
      -- none is ready: all are done
      have hnil : Region.ready .any ops listed = [] := by
        cases hrd : Region.ready .any ops listed with
        | nil => rfl
        | cons x xs =>
          rw [hrd] at hi
          have hlt : t % (x :: xs).length < (x :: xs).length := Nat.mod_lt _ (by simp)
          simp at hi
          simp at hlt
          omega
      have hall : ∀ p ∈ rest.reverse ++ hist.map (·.s), done listed p.i := by
        rcases oldest (C := done listed) hw with h | ⟨p, hp1, hp2, o, ho, hpd⟩
        · exact h
        · have : p.i ∈ Region.ready .any ops listed := by
            rw [mem_ready]
            refine ⟨?_, o, ho, fun e he hb => (hgd _).2 (hpd _ (mem_directs.2 ⟨e, he, hb, rfl⟩))⟩
            have hlt : p.i < listed.size := by rw [hsz]; exact (Array.getElem?_eq_some_iff.1 ho).1
            unfold done at hp2
            rw [Array.getElem?_eq_getElem hlt] at hp2
            rw [Array.getD_eq_getD_getElem?, Array.getElem?_eq_getElem hlt]
            simpa using hp2
          rw [hnil] at this; cases this
      have hres : rest = [] := by
        cases rest with
        | nil => rfl
        | cons s rest =>
          obtain ⟨e, he, hei⟩ := D.sub s.i (hall s (by simp))
          have hws : WF ops (s :: hist.map (·.s)) := by
            have : (s :: rest).reverse ++ hist.map (·.s) = rest.reverse ++ s :: hist.map (·.s) := by simp
            rw [this] at hw
            exact hw.tail
          obtain ⟨_, o2, _, _, h3, _⟩ := hws
          exact absurd hei (h3 _ (List.mem_map.2 ⟨e, he, rfl⟩))
      subst hres
      simp only [vdraw] at hv
      rw [List.all_eq_true.2 hwok] at hv
      simp only [cond_true, Option.some.injEq] at hv; subst hv
      exact ⟨κ, a, cs, w, hp, D.all hdst (fun e he => hall e.s (List.mem_append_right _ (List.mem_map.2 ⟨e, he, rfl⟩))), hd, hu, .one stepR_region_end⟩

theorem draws (hm : P.follows .mixedOrders = true) (hX : XOk P G w0 X) (hF : FOk P) : Draws P X G w0 := by
  intro call hcall fr id ops pl k r hpl hdst hv ι b a cs w hR hG hfr hf
  obtain ⟨hwf, hcm⟩ := plan_spec hpl
  have hw0 : WF ops (pl.reverse ++ ([] : List Ent).map (·.s)) := by simpa using hwf
  obtain ⟨q, rest2, M2, nx2, ws2, g1, g2, g3, g4, g5, g6, g7, g8, g9, g10⟩ := adv (nt := fr.nt) (T0 := fr.T) fr.ds fr.up 0 r pl [] fr.M fr.nx [] hw0 trivial hv
  have hwq : pl.reverse ++ ([] : List Ent).map (·.s) = rest2.reverse ++ (q ++ ([] : List Ent)).map (fun e => e.s) := by rw [g1]; simp
  rw [hwq] at hw0
  have hdn : ∀ j, ¬ done (Array.replicate ops.size false) j := by
    intro j h
    unfold done at h
    obtain ⟨h1, h2⟩ := Array.getElem?_eq_some_iff.1 h
    simp at h2
  have D0 : DI P G ops fr.nt fr.T fr.nx [] (done (Array.replicate ops.size false)) ι a.tmps fr.nx [] 0 :=
    ⟨trivial, trivial, hfr.tm.1, fun i h => absurd h (hdn i), fun i o h => absurd h (hdn i), by simp, fun t v hT _ => hfr.tm.2 t v hT, by simp, fun j hj => by simp at hj, by simp, by simp⟩
  have D1 := DI.grow D0 hf (Nat.le_refl _) (q := q) hw0.tail g2 g5 g6 g9 g10
  have hp : Post w0 ι fr.M fr.nx w ι fr.M fr.nx { w with drawn := w.drawn + 1 } := Post.drawn hR _
  have hp2 := hp.widen hf g6 g7 g8
  have key := draw_main (T0 := fr.T) hX hF hcall hdst (b := b) hfr.kind (k := k) (cs0 := cs) hG hf hfr.rnd ops.size (w.tape w.drawn (.order b.fn id)) (Array.replicate ops.size false) (q ++ []) rest2 fr.ds fr.up M2 nx2 ws2 0 r ι a cs { w with drawn := w.drawn + 1 } (by simp)
    (by unfold unl; exact Nat.le_trans (List.length_filter_le _ _) (by simp)) hw0 (by
      intro j hj
      obtain ⟨p, h1, h2⟩ := hcm j hj
      refine ⟨p, ?_, h2⟩
      rw [← hwq]; simpa using h1) g4 D1 g3 hp2 hfr.ds (UpTo.refl hfr.up)
  have hstep := stepR_region_draw (P := P) (b := b) (a := a) (k := k) (cs := cs) (w := w) (ops := ops) (id := id)
  have hsch : Region.schedule (P.follows .mixedOrders) ops (w.tape w.drawn (.order b.fn id)) = Region.linearise.go .any ops ops.size (w.tape w.drawn (.order b.fn id)) (Array.replicate ops.size false) [] := by
    simp only [Region.schedule, hm, Bool.true_or, if_true]
    rfl
  rw [hsch] at hstep
  cases r with
  | ok T' ds' up' M' nx' =>
    obtain ⟨μ, a', cs', w', h1, h2, h3, h4, h5⟩ := key
    exact ⟨μ, a', cs', w', h1, h2, h3, h4, .head hstep h5⟩
  | pan ch T' ds' up' M' nx' =>
    obtain ⟨μ, a', cs', w', ch', todo', h1, h2, h3, h4, h5, h6⟩ := key
    exact ⟨μ, a', cs', w', ch', todo', h1, h2, h3, h4, h5, .head hstep h6⟩
end
end Go.Proofs.YtjbanjpklgpenaaGreatDoor.Vm
