/-
  THE ABSTRACT INTERPRETER, part W: a region that draws its order is as the interpreter says, whatever the order.
  THE ABSTRACT INTERPRETER, part X: the drawn regions are sound.
  THE ABSTRACT INTERPRETER, part Y: package variables that are laid; a whole call; the two functions without a body.
  THE ABSTRACT INTERPRETER, part Z: a whole call, from what the interpreter answers; math/bits.Add64 and Sub64.
-/
import Derived.Test.YtihloomkgpflmaaGreatDoorV7
import GoSem.ClaimJoined
import Derived.Laws.Externs
import Derived.ChangeFn
import Derived.Deep.Onto
import Derived.KernelRfl
set_option linter.unusedSimpArgs false
set_option linter.unusedVariables false
namespace Go.Proofs.YtihloomkgpflmaaGreatDoor.Vm

structure DI (P : Program) (G : Nat) (ops : Array Oper) (nt : Nat) (T0 : Tr Value) (nx0 : Nat) (hist : List Ent) (C : Nat → Prop) (κ : Iota) (tmps : Array Value) (nx : Nat) (ws : List Watch) (lm : Nat) : Prop where
  wf : WF ops (hist.map (·.s))
  ht : HT ops nt T0 hist
  size : tmps.size = nt
  sub : ∀ i, C i → ∃ e ∈ hist, e.s.i = i
  cl : ∀ i o, C i → ops[i]? = some o → ∀ j ∈ directs o, C j
  i1 : ∀ e ∈ hist, C e.s.i → ∀ d, e.o.dst = some d → ∃ u, tmps[d]? = some u ∧ VR κ e.v u
  i2 : ∀ t v, T0.get t = some v → (∀ e ∈ hist, C e.s.i → e.o.dst ≠ some t) → ∃ u, tmps[t]? = some u ∧ VR κ v u
  we : ∀ e ∈ hist, ¬ C e.s.i → WEnt P G ws e
  lmc : ∀ j, Nat.testBit lm j = true → C j
  rg : ∀ e ∈ hist, ¬ C e.s.i → isNew e → nx0 ≤ e.n ∧ e.n < nx ∧ ∀ b, b / 256 = e.n → κ b = none
  al : ∀ e ∈ hist, ∀ e' ∈ hist, ¬ C e.s.i → ¬ C e'.s.i → isNew e → isNew e' → e.n = e'.n → e.s.i = e'.s.i

theorem put_get_ne {a : Act} {dst : Option Tmp} {u : Value} {t : Tmp} (h : dst ≠ some t) : (a.put dst u).tmps[t]? = a.tmps[t]? := by
  cases dst with
  | none => rfl
  | some d =>
    have : d ≠ t := fun e => h (by rw [e])
    show (a.tmps.setIfInBounds d u)[t]? = _
    rw [Array.getElem?_setIfInBounds_ne this]
theorem put_get_same {a : Act} {dst : Option Tmp} {u : Value} {d : Tmp} (h : dst = some d) (hd : d < a.tmps.size) : (a.put dst u).tmps[d]? = some u := by
  subst h
  show (a.tmps.setIfInBounds d u)[d]? = _
  rw [Array.getElem?_setIfInBounds_self_of_lt hd]
theorem put_size {a : Act} {dst : Option Tmp} {u : Value} : (a.put dst u).tmps.size = a.tmps.size := by
  cases dst with
  | none => rfl
  | some d => show (a.tmps.setIfInBounds d u).size = _; simp

section
variable {P : Program} {G : Nat} {ops : Array Oper} {nt : Nat} {T0 : Tr Value} {nx0 : Nat} {hist : List Ent} {C : Nat → Prop} {κ : Iota} {nx : Nat} {ws : List Watch} {lm : Nat}

/-- A listed operation has been done. -/
theorem DI.done {a : Act} (hdst : dstsApart ops.toList = true) (D : DI P G ops nt T0 nx0 hist C κ a.tmps nx ws lm) {e : Ent} (he : e ∈ hist) (hdir : ∀ j ∈ directs e.o, C j) {κ' : Iota} (hx : Ext κ κ') {u : Value} (hv : VR κ' e.v u)
    (hnew : ∀ e' ∈ hist, ¬ C e'.s.i → isNew e' → e'.s.i ≠ e.s.i → ∀ b, b / 256 = e'.n → κ' b = none) : DI P G ops nt T0 nx0 hist (fun j => j = e.s.i ∨ C j) κ' (a.put e.o.dst u).tmps nx ws lm := by
  have hop := HT.op D.ht
  refine ⟨D.wf, D.ht, by rw [put_size]; exact D.size, ?_, ?_, ?_, ?_, ?_, fun j hj => .inr (D.lmc j hj), ?_, ?_⟩
  · rintro i (rfl | hi)
    · exact ⟨e, he, rfl⟩
    · exact D.sub i hi
  · rintro i o (rfl | hi) ho j hj
    · have : o = e.o := by rw [(hop e he).1] at ho; injection ho with ho; exact ho.symm
      subst this
      exact .inr (hdir j hj)
    · exact .inr (D.cl i o hi ho j hj)
  · intro x hxm hcx d hd
    by_cases hxe : x.s.i = e.s.i
    · have : x = e := D.wf.uniq x hxm e he hxe
      subst this
      exact ⟨u, put_get_same hd (by rw [D.size]; exact (hop x hxm).2 d hd), hv⟩
    · rcases hcx with hcx | hcx
      · exact absurd hcx hxe
      · have hne : e.o.dst ≠ some d := by
          intro h2
          exact hxe (dsts_apart hdst (by simpa using (hop x hxm).1) (by simpa using (hop e he).1) hd h2)
        obtain ⟨z, h1, h2⟩ := D.i1 x hxm hcx d hd
        exact ⟨z, by rw [put_get_ne hne]; exact h1, h2.mono hx⟩
  · intro t v hT hnot
    obtain ⟨z, h1, h2⟩ := D.i2 t v hT (fun x hxm hcx => hnot x hxm (.inr hcx))
    exact ⟨z, by rw [put_get_ne (hnot e he (.inl rfl))]; exact h1, h2.mono hx⟩
  · intro x hxm hcx
    exact D.we x hxm (fun h => hcx (.inr h))
  · intro x hxm hcx hnw
    obtain ⟨h1, h2, h3⟩ := D.rg x hxm (fun h => hcx (.inr h)) hnw
    exact ⟨h1, h2, hnew x hxm (fun h => hcx (.inr h)) hnw (fun h => hcx (.inl h))⟩
  · intro x hxm y hym hcx hcy h1 h2 h3
    exact D.al x hxm y hym (fun h => hcx (.inr h)) (fun h => hcy (.inr h)) h1 h2 h3

/-- More is listed. -/
theorem DI.grow {tmps : Array Value} (D : DI P G ops nt T0 nx0 hist C κ tmps nx ws lm) (hf : FreshU κ nx) (hle0 : nx0 ≤ nx) {q : List Ent} {ws2 : List Watch} {nx2 : Nat} (hw : WF ops ((q ++ hist).map (·.s))) (ht : HT ops nt T0 (q ++ hist)) (hs : ∀ x ∈ ws, x ∈ ws2) (hle : nx ≤ nx2)
    (hq : ∀ e ∈ q, WEnt P G ws2 e ∧ (isNew e → nx ≤ e.n ∧ e.n < nx2)) (hal : ∀ e ∈ q, ∀ e' ∈ q, isNew e → isNew e' → e.n = e'.n → e.s.i = e'.s.i) : DI P G ops nt T0 nx0 (q ++ hist) C κ tmps nx2 ws2 lm := by
  have old : ∀ x ∈ q ++ hist, C x.s.i → x ∈ hist := by
    intro x hx hc
    obtain ⟨y, hy, e⟩ := D.sub _ hc
    have : x = y := hw.uniq x hx y (List.mem_append_right _ hy) e.symm
    rw [this]; exact hy
  refine ⟨hw, ht, D.size, fun i hi => (let ⟨e, h1, h2⟩ := D.sub i hi; ⟨e, List.mem_append_right _ h1, h2⟩), D.cl, fun x hx hc => D.i1 x (old x hx hc) hc, fun t v hT hnot => D.i2 t v hT (fun x hx hc => hnot x (List.mem_append_right _ hx) hc), ?_, D.lmc, ?_, ?_⟩
  · intro x hx hc
    rcases List.mem_append.1 hx with hx | hx
    · exact (hq x hx).1
    · exact (D.we x hx hc).mono hs
  · intro x hx hc hn
    rcases List.mem_append.1 hx with hx | hx
    · obtain ⟨h1, h2⟩ := (hq x hx).2 hn
      exact ⟨Nat.le_trans hle0 h1, h2, fun b hb => hf b (by omega)⟩
    · obtain ⟨h1, h2, h3⟩ := D.rg x hx hc hn
      exact ⟨h1, Nat.lt_of_lt_of_le h2 hle, h3⟩
  · intro x hx y hy hcx hcy h1 h2 h3
    rcases List.mem_append.1 hx with hx | hx <;> rcases List.mem_append.1 hy with hy | hy
    · exact hal x hx y hy h1 h2 h3
    · have a1 := ((hq x hx).2 h1).1
      have a2 := (D.rg y hy hcy h2).2.1
      omega
    · have a1 := ((hq y hy).2 h2).1
      have a2 := (D.rg x hx hcx h1).2.1
      omega
    · exact D.al x hx y hy hcx hcy h1 h2 h3

/-- An effect has been done. -/
theorem DI.effect {a : Act} (hdst : dstsApart ops.toList = true) (D : DI P G ops nt T0 nx0 hist C κ a.tmps nx ws lm) {e : Ent} (hw : WF ops ((e :: hist).map (·.s))) (ht : HT ops nt T0 (e :: hist)) (hdir : ∀ j ∈ directs e.o, C j) {κ' : Iota} {nx' : Nat} (hx : Ext κ κ') (hle : nx ≤ nx')
    (hnew : ∀ b, κ b = none → b / 256 < nx → κ' b = none) {u : Value} (hv : VR κ' e.v u) : DI P G ops nt T0 nx0 (e :: hist) (fun j => j = e.s.i ∨ C j) κ' (a.put e.o.dst u).tmps nx' ws e.s.mask := by
  have hop := HT.op ht
  have hnc : ∀ x ∈ hist, x.s.i ≠ e.s.i := by
    obtain ⟨_, o, _, _, h3, _⟩ := hw
    exact fun x hx => h3 _ (List.mem_map.2 ⟨x, hx, rfl⟩)
  refine ⟨hw, ht, by rw [put_size]; exact D.size, ?_, ?_, ?_, ?_, ?_, ?_, ?_, ?_⟩
  · rintro i (rfl | hi)
    · exact ⟨e, by simp, rfl⟩
    · obtain ⟨x, h1, h2⟩ := D.sub i hi
      exact ⟨x, List.mem_cons_of_mem _ h1, h2⟩
  · rintro i o (rfl | hi) ho j hj
    · have : o = e.o := by rw [(hop e (by simp)).1] at ho; injection ho with ho; exact ho.symm
      subst this
      exact .inr (hdir j hj)
    · exact .inr (D.cl i o hi ho j hj)
  · intro x hxm hcx d hd
    rcases List.mem_cons.1 hxm with rfl | hxm
    · exact ⟨u, put_get_same hd (by rw [D.size]; exact (hop x (by simp)).2 d hd), hv⟩
    · rcases hcx with hcx | hcx
      · exact absurd hcx (hnc x hxm)
      · have hne : e.o.dst ≠ some d := by
          intro h2
          exact hnc x hxm (dsts_apart hdst (by simpa using (hop x (List.mem_cons_of_mem _ hxm)).1) (by simpa using (hop e (by simp)).1) hd h2)
        obtain ⟨z, h1, h2⟩ := D.i1 x hxm hcx d hd
        exact ⟨z, by rw [put_get_ne hne]; exact h1, h2.mono hx⟩
  · intro t v hT hnot
    obtain ⟨z, h1, h2⟩ := D.i2 t v hT (fun x hxm hcx => hnot x (List.mem_cons_of_mem _ hxm) (.inr hcx))
    exact ⟨z, by rw [put_get_ne (hnot e (by simp) (.inl rfl))]; exact h1, h2.mono hx⟩
  · intro x hxm hcx
    rcases List.mem_cons.1 hxm with rfl | hxm
    · exact absurd (.inl rfl) hcx
    · exact D.we x hxm (fun h => hcx (.inr h))
  · intro j hj
    have hp := hw.masks e.s (by simp) j hj
    exact .inr (pre_closed D.cl (hop e (by simp)).1 hdir hp)
  · intro x hxm hcx hnw
    rcases List.mem_cons.1 hxm with rfl | hxm
    · exact absurd (.inl rfl) hcx
    · obtain ⟨h1, h2, h3⟩ := D.rg x hxm (fun h => hcx (.inr h)) hnw
      exact ⟨h1, Nat.lt_of_lt_of_le h2 hle, fun b hb => hnew b (h3 b hb) (by omega)⟩
  · intro x hxm y hym hcx hcy h1 h2 h3
    rcases List.mem_cons.1 hxm with rfl | hxm
    · exact absurd (.inl rfl) hcx
    · rcases List.mem_cons.1 hym with rfl | hym
      · exact absurd (.inl rfl) hcy
      · exact D.al x hxm y hym (fun h => hcx (.inr h)) (fun h => hcy (.inr h)) h1 h2 h3

theorem quiet_exec {a : Act} (hdst : dstsApart ops.toList = true) (D : DI P G ops nt T0 nx0 hist C κ a.tmps nx ws lm) {w0 w00 w : World} {ι : Iota} {M0 M : Tr Blk} (hwok : ∀ x ∈ ws, watchOk P G lm M x = true) {e : Ent} (he : e ∈ hist) (hn : ¬ C e.s.i) (hdir : ∀ j ∈ directs e.o, C j)
    (hG : GOk G κ) (hf0 : FreshU ι nx0) (hp : Post w0 ι M0 nx0 w00 κ M nx w) :
    (Region.wanted e.o (yielded ops a.tmps) = false ∧ e.v = undef) ∨
    (Region.wanted e.o (yielded ops a.tmps) = true ∧ (∀ c, e.o.op ≠ .defer c) ∧ ∃ κ' u w', (execOp a.eval e.o).run P w = .ok (.value u) w' ∧ Post w0 ι M0 nx0 w00 κ' M nx w' ∧ Ext κ κ' ∧ VR κ' e.v u ∧
      (∀ e' ∈ hist, ¬ C e'.s.i → isNew e' → e'.s.i ≠ e.s.i → ∀ b, b / 256 = e'.n → κ' b = none)) := by
  obtain ⟨h1, h2, hsp⟩ := List.append_of_mem he
  have hte : HT ops nt T0 (e :: h2) := by have := D.ht; rw [hsp] at this; exact this.tail
  obtain ⟨hth, hoe, hde, hTi, hwn⟩ := hte
  have hop := HT.op D.ht
  have ag := agree (nt := nt) (T0 := T0) (C := C) (κ := κ) (tmps := a.tmps) hdst (h1 := h1) (h := h2) (e := e) (by rw [← hsp]; exact D.wf) hth (by rw [← hsp]; exact fun x hx => (hop x hx).1) D.cl hn hdir (by rw [← hsp]; exact D.i1) (by rw [← hsp]; exact D.i2)
  have hwanted := wanted_at ag hwn
  have hT : TR κ G e.Ti a.eval := TR.of hG (fun t v hv => by
    rw [hTi] at hv
    obtain ⟨g1, g2⟩ := restr_get hv
    exact ag t g1 v g2)
  have nodef : opKind e.o.op ≠ 3 → ∀ c, e.o.op ≠ .defer c := by
    intro hk c hc
    rw [hc] at hk
    exact hk rfl
  have same : ∀ (hk : opKind e.o.op ≠ 3), e.wn = true → aquiet P G e.Ti M nx e.o.op = some (e.v, M, nx) → (Region.wanted e.o (yielded ops a.tmps) = true ∧ (∀ c, e.o.op ≠ .defer c) ∧ ∃ κ' u w', (execOp a.eval e.o).run P w = .ok (.value u) w' ∧ Post w0 ι M0 nx0 w00 κ' M nx w' ∧ Ext κ κ' ∧ VR κ' e.v u ∧
      (∀ e' ∈ hist, ¬ C e'.s.i → isNew e' → e'.s.i ≠ e.s.i → ∀ b, b / 256 = e'.n → κ' b = none)) := by
    intro hk hw1 hq
    obtain ⟨κ', u, w', r1, r2, r3⟩ := run_aquiet hp.rel hT e.o (fun b g1 g2 => by omega) hq
    refine ⟨by rw [hwanted, hw1], nodef hk, κ', u, w', r1, hp.trans (hf0.to _) r2, r2.ext, r3, fun x hx hcx hnx hne b hb => ?_⟩
    obtain ⟨g1, g2, g3⟩ := D.rg x hx hcx hnx
    cases hz : κ' b with
    | none => rfl
    | some l => have := (r2.new b l (g3 b hb) hz).1; omega
  rcases D.we e he hn with ⟨hw0, hv⟩ | ⟨hw1, hk, M3, n3, M4, n4, hq⟩ | ⟨hw1, hk, hmem⟩ | ⟨hw1, hk, vs, M3, hmem, hq⟩
  · exact .inl ⟨by rw [hwanted, hw0], hv⟩
  · exact .inr (same (by omega) hw1 ((aquiet_k0 hk hq).2.2 M nx))
  · rcases watch_rd (hwok _ hmem) with hb | ⟨M4, n4, hq⟩
    · exact absurd (D.lmc _ hb) hn
    · exact .inr (same (by omega) hw1 ((aquiet_k1 hk hq).2.2 nx))
  · rcases watch_new (hwok _ hmem) with hb | hMn
    · exact absurd (D.lmc _ hb) hn
    · obtain ⟨x, hx1, hx2, hall⟩ := aquiet_k2 hk hq
      have hq2 := hall M
      obtain ⟨g1, g2, g3⟩ := D.rg e he hn ⟨hw1, hk⟩
      obtain ⟨κ', u, w', r1, r2, r3⟩ := run_aquiet hp.rel hT e.o (fun b k1 k2 => g3 b (by omega)) hq2
      have hxv : x = .cells false vs := by
        have := congrArg (fun m => m.get e.n) hx1
        simp only [Tr.get_set_same, Option.some.injEq] at this
        exact this.symm
      have hsame : ∀ k, M.get k = (M.set e.n x).get k := by
        intro k
        by_cases ek : k = e.n
        · subst ek; rw [Tr.get_set_same, hxv]; exact hMn
        · rw [Tr.get_set_ne _ _ ek]
      refine .inr ⟨by rw [hwanted, hw1], nodef (by omega), κ', u, w', r1, Post.late hf0 hp r2 g1 g2 hsame, r2.ext, r3, fun y hy hcy hny hne b hb => ?_⟩
      obtain ⟨k1, k2, k3⟩ := D.rg y hy hcy hny
      cases hz : κ' b with
      | none => rfl
      | some l =>
        have := (r2.new b l (k3 b hb) hz).1
        exact absurd (D.al y hy e he hcy hn hny ⟨hw1, hk⟩ (by omega)) hne

theorem DI.all {tmps : Array Value} (hdst : dstsApart ops.toList = true) (D : DI P G ops nt T0 nx0 hist C κ tmps nx ws lm) (h : ∀ e ∈ hist, C e.s.i) : TmR κ nt (tmpsOf T0 hist) tmps := by
  refine ⟨D.size, fun t v hv => ?_⟩
  by_cases hex : ∃ x ∈ hist, x.o.dst = some t
  · obtain ⟨x, hx, hxt⟩ := hex
    rw [tmpsOf_mem hdst D.wf D.ht x hx t hxt] at hv
    simp only [Option.some.injEq] at hv; subst hv
    exact D.i1 x hx (h x hx) t hxt
  · rw [tmpsOf_none (fun x hx hxt => hex ⟨x, hx, hxt⟩)] at hv
    exact D.i2 t v hv (fun x hx _ hxt => hex ⟨x, hx, hxt⟩)

theorem delDsts_get {T : Tr Value} {t : Tmp} {v : Value} : ∀ {l : List Oper}, (delDsts T l).get t = some v → T.get t = some v ∧ ∀ o ∈ l, o.dst ≠ some t
  | [], h => ⟨h, by simp⟩
  | o :: rest, h => by
    simp only [delDsts] at h
    split at h
    · rename_i hd
      obtain ⟨h1, h2⟩ := delDsts_get h
      refine ⟨h1, fun p hp => ?_⟩
      rcases List.mem_cons.1 hp with rfl | hp
      · rw [hd]; simp
      · exact h2 p hp
    · rename_i d hd
      rw [Tr.get_del] at h
      split at h
      · cases h
      · rename_i hne
        obtain ⟨h1, h2⟩ := delDsts_get h
        refine ⟨h1, fun p hp => ?_⟩
        rcases List.mem_cons.1 hp with rfl | hp
        · rw [hd]; simp only [ne_eq, Option.some.injEq]; exact fun e => hne e.symm
        · exact h2 p hp
theorem DI.lost {tmps : Array Value} (D : DI P G ops nt T0 nx0 hist C κ tmps nx ws lm) : TmR κ nt (delDsts T0 ops.toList) tmps := by
  refine ⟨D.size, fun t v hv => ?_⟩
  obtain ⟨h1, h2⟩ := delDsts_get hv
  refine D.i2 t v h1 (fun x hx _ => h2 x.o ?_)
  have := (HT.op D.ht x hx).1
  exact List.mem_of_getElem? (by simpa using this)

/-- The oldest one that is listed and not done is ready. -/
theorem oldest {C : Nat → Prop} : ∀ {l : List PStep}, WF ops l → (∀ p ∈ l, C p.i) ∨ ∃ p ∈ l, ¬ C p.i ∧ ∃ o, ops[p.i]? = some o ∧ ∀ e ∈ directs o, C e
  | [], _ => .inl (by simp)
  | s :: acc, h => by
    rcases oldest (C := C) h.1 with h1 | ⟨p, hp, h1⟩
    · by_cases hs : C s.i
      · left
        intro p hp
        rcases List.mem_cons.1 hp with e | hp
        · rw [e]; exact hs
        · exact h1 p hp
      · obtain ⟨_, o, ho, _, _, h4, _⟩ := h
        refine .inr ⟨s, by simp, hs, o, ho, fun e he => ?_⟩
        obtain ⟨p, hp, hpe⟩ := h4 e he
        rw [← hpe]; exact h1 p hp
    · exact .inr ⟨p, List.mem_cons_of_mem _ hp, h1⟩
end
end Go.Proofs.YtihloomkgpflmaaGreatDoor.Vm

namespace Go.Proofs.YtihloomkgpflmaaGreatDoor.Vm

def done (listed : Array Bool) (j : Nat) : Prop := listed[j]? = some true

theorem filter_le {p q : Nat → Bool} (h : ∀ x, q x = true → p x = true) : ∀ (l : List Nat), (l.filter q).length ≤ (l.filter p).length
  | [] => by simp
  | x :: l => by
    have ih := filter_le h l
    simp only [List.filter_cons]
    cases hq : q x with
    | true => rw [h x hq]; simp only [if_true, List.length_cons]; omega
    | false => cases p x <;> simp <;> omega
theorem filter_lt {p q : Nat → Bool} (h : ∀ x, q x = true → p x = true) {y : Nat} (hp : p y = true) (hq : q y = false) : ∀ (l : List Nat), y ∈ l → (l.filter q).length < (l.filter p).length
  | [], hy => by cases hy
  | x :: l, hy => by
    simp only [List.filter_cons]
    rcases List.mem_cons.1 hy with rfl | hy
    · have := filter_le h l
      rw [hp, hq]; simp only [if_true, List.length_cons, Bool.false_eq_true, if_false]; omega
    · have ih := filter_lt h hp hq l hy
      cases hqx : q x with
      | true => rw [h x hqx]; simp only [if_true, List.length_cons]; omega
      | false => cases p x <;> simp <;> omega

def unl (n : Nat) (listed : Array Bool) : Nat := ((List.range n).filter fun j => !listed.getD j true).length

section
variable {P : Program} {X : Exts} {w0 : World} {G : Nat} {dk : Bool} {rnd : Option Nat} {nt : Nat} {ops : Array Oper} {T0 : Tr Value}

theorem go_succ (fuel t : Nat) (listed : Array Bool) : Region.linearise.go .any ops (fuel + 1) t listed [] = match (Region.ready .any ops listed)[t % (Region.ready .any ops listed).length]? with
    | some i => i :: Region.linearise.go .any ops fuel (t / (Region.ready .any ops listed).length) (listed.setIfInBounds i true) []
    | none => [] := by
  simp only [Region.linearise.go]
  change (match (Region.ready .any ops listed)[t % (Region.ready .any ops listed).length]? with
      | some i => Region.linearise.go .any ops fuel (t / (Region.ready .any ops listed).length) (listed.setIfInBounds i true) [i]
      | none => [].reverse) = _
  split
  · rw [linearise_go_acc]; simp
  · rfl

theorem draw_main (hX : XOk P G w0 X) (hF : FOk P) {call : Fr → Option Res} (hcall : ∀ fr r, call fr = some r → Sound P G w0 fr r) (hdst : dstsApart ops.toList = true) {b : Frame} (hk : b.kind = if dk then .deferred else .normal) {k : List Item}
    {ι : Iota} {M0 : Tr Blk} {nx0 : Nat} {w00 : World} {cs0 : List Frame} (hG : GOk G ι) (hf0 : FreshU ι nx0) (hr : RndR ι rnd b.roundOf) :
    ∀ (fuel t : Nat) (listed : Array Bool) (hist : List Ent) (rest : List PStep) (ds : List Deferred) (up : FrameMode) (M : Tr Blk) (nx : Nat) (ws : List Watch) (lm : Nat) (r : RR) (κ : Iota) (a : Act) (cs : List Frame) (w : World),
      listed.size = ops.size → unl ops.size listed ≤ fuel → WF ops (rest.reverse ++ hist.map (·.s)) → (∀ j, j < ops.size → ∃ p ∈ rest.reverse ++ hist.map (·.s), p.i = j) → Head ops (tmpsOf T0 hist) rest →
      DI P G ops nt T0 nx0 hist (done listed) κ a.tmps nx ws lm → vdraw call P X G dk rnd nt ops T0 rest (tmpsOf T0 hist) ds up M nx ws lm = some r →
      Post w0 ι M0 nx0 w00 κ M nx w → DRL κ ds a.defers → UpTo κ dk up cs0 cs →
      RREnd P w0 ι dk nt M0 nx0 b (lone (b.atR a (.inRegion ops (Region.linearise.go .any ops fuel t listed []) :: k)) cs w) k cs0 w00 r := by
  intro fuel
  induction fuel with
  | zero =>
    intro t listed hist rest ds up M nx ws lm r κ a cs w hsz hun hw hcm hh D hv hp hd hu
    have hall : ∀ j, j < ops.size → done listed j := by
      intro j hj
      have h0 : (List.range ops.size).filter (fun j => !listed.getD j true) = [] := List.eq_nil_of_length_eq_zero (Nat.le_zero.1 hun)
      have h1 := List.filter_eq_nil_iff.1 h0 j (List.mem_range.2 hj)
      have hlt : j < listed.size := by rw [hsz]; exact hj
      simp only [Array.getD_eq_getD_getElem?, Array.getElem?_eq_getElem hlt, Option.getD_some, Bool.not_eq_true', Bool.not_eq_false] at h1
      unfold done
      rw [Array.getElem?_eq_getElem hlt]
      simpa using h1
    have hend : Region.linearise.go .any ops 0 t listed [] = [] := rfl
    rw [hend]
    have hres : rest = [] := by
      cases rest with
      | nil => rfl
      | cons s rest =>
        obtain ⟨o, ho, _⟩ := hh
        obtain ⟨e, he, hei⟩ := D.sub s.i (hall s.i (Array.getElem?_eq_some_iff.1 ho).1)
        have hws : WF ops (s :: hist.map (·.s)) := by
          have : (s :: rest).reverse ++ hist.map (·.s) = rest.reverse ++ s :: hist.map (·.s) := by simp
          rw [this] at hw
          exact hw.tail
        obtain ⟨_, o2, _, _, h3, _⟩ := hws
        exact absurd hei (h3 _ (List.mem_map.2 ⟨e, he, rfl⟩))
    subst hres
    have hwok := head_ok hh hv
    simp only [vdraw] at hv
    rw [List.all_eq_true.2 hwok] at hv
    simp only [cond_true, Option.some.injEq] at hv; subst hv
    exact ⟨κ, a, cs, w, hp, D.all hdst (fun e he => hall _ (Array.getElem?_eq_some_iff.1 (HT.op D.ht e he).1).1), hd, hu, .one stepR_region_end⟩
  | succ fuel ih =>
    intro t listed hist rest ds up M nx ws lm r κ a cs w hsz hun hw hcm hh D hv hp hd hu
    have hwok := head_ok hh hv
    rw [go_succ]
    have hgd : ∀ j, listed.getD j false = true ↔ done listed j := by
      intro j
      unfold done
      rw [Array.getD_eq_getD_getElem?]
      cases listed[j]? with
      | none => simp
      | some x => simp
    have hgt : ∀ j, listed.getD j true = false → ¬ done listed j ∧ j < ops.size := by
      intro j hj
      unfold done
      rw [Array.getD_eq_getD_getElem?] at hj
      cases hx : listed[j]? with
      | none => rw [hx] at hj; simp at hj
      | some x =>
        rw [hx] at hj
        simp at hj; subst hj
        exact ⟨by simp, by rw [← hsz]; exact (Array.getElem?_eq_some_iff.1 hx).1⟩
    split
    · rename_i i hi
      have hmem := List.mem_of_getElem? hi
      rw [mem_ready] at hmem
      obtain ⟨hl, o, ho, hdir⟩ := hmem
      obtain ⟨hnd, hlt⟩ := hgt i hl
      have hdir2 : ∀ j ∈ directs o, done listed j := by
        intro j hj
        obtain ⟨e, he, hb, hx⟩ := mem_directs.1 hj
        rw [← hx]
        exact (hgd _).1 (hdir e he hb)
      have hsz2 : (listed.setIfInBounds i true).size = ops.size := by simp [hsz]
      have hun2 : unl ops.size (listed.setIfInBounds i true) ≤ fuel := by
        have : unl ops.size (listed.setIfInBounds i true) < unl ops.size listed := by
          unfold unl
          refine filter_lt (y := i) ?_ ?_ ?_ _ (List.mem_range.2 hlt)
          · intro x hx
            simp only [Bool.not_eq_true'] at hx ⊢
            by_cases hxi : i = x
            · subst hxi; exact hl
            · rw [getD_set_ne true hxi] at hx; exact hx
          · simp [hl]
          · have hil : i < listed.size := by rw [hsz]; exact hlt
            simp [hil]
        omega
      have hdone : done (listed.setIfInBounds i true) = (fun j => j = i ∨ done listed j) := by
        funext j
        unfold done
        by_cases hij : j = i
        · subst hij
          have hil : j < listed.size := by rw [hsz]; exact hlt
          simp [Array.getElem?_setIfInBounds_self_of_lt hil]
        · rw [Array.getElem?_setIfInBounds_ne (Ne.symm hij)]
          simp [hij]
      have hGκ : GOk G κ := fun g hg => hp.ext _ _ (hG g hg)
      by_cases hex : ∃ e ∈ hist, e.s.i = i
      · -- a quiet one
        obtain ⟨e, he, rfl⟩ := hex
        have hoe : o = e.o := by have := (HT.op D.ht e he).1; rw [ho] at this; injection this
        subst hoe
        rcases quiet_exec hdst D hwok he hnd hdir2 hGκ hf0 hp with ⟨q1, q2⟩ | ⟨q1, q2, κ', u, w', q3, q4, q5, q6, q7⟩
        · have hstep := stepR_op_skip (P := P) (b := b) (a := a) (k := k) (cs := cs) (w := w) (ops := ops) (i := e.s.i) (rest := Region.linearise.go .any ops fuel (t / (Region.ready .any ops listed).length) (listed.setIfInBounds e.s.i true) []) (by simp [ho, q1])
          have e1 : (ops[e.s.i]?).bind (·.dst) = e.o.dst := by rw [ho]; rfl
          rw [e1] at hstep
          have D2 := DI.done hdst D he hdir2 (Ext.refl κ) (u := undef) (by rw [q2]; exact undef_self) (fun x hx hcx hnx _ b hb => (D.rg x hx hcx hnx).2.2 b hb)
          rw [← hdone] at D2
          have := ih (t / (Region.ready .any ops listed).length) (listed.setIfInBounds e.s.i true) hist rest ds up M nx ws lm r κ (a.put e.o.dst undef) cs w hsz2 hun2 hw hcm hh D2 hv hp (by rw [put_defers]; exact hd) hu
          cases r with
          | ok T' ds' up' M' nx' =>
            obtain ⟨μ, a', cs', w', h1, h2, h3, h4, h5⟩ := this
            exact ⟨μ, a', cs', w', h1, h2, h3, h4, .head hstep h5⟩
          | pan ch T' ds' up' M' nx' =>
            obtain ⟨μ, a', cs', w', ch', todo', h1, h2, h3, h4, h5, h6⟩ := this
            exact ⟨μ, a', cs', w', ch', todo', h1, h2, h3, h4, h5, .head hstep h6⟩
        · have hstep := st_value (P := P) (b := b) (a := a) (k := k) (cs := cs) (w := w) (ops := ops) (i := e.s.i) (rest := Region.linearise.go .any ops fuel (t / (Region.ready .any ops listed).length) (listed.setIfInBounds e.s.i true) []) ho q1
            (by rw [Oper.semAt_eq _ _ _ q2]; exact q3)
          have D2 := DI.done hdst D he hdir2 q5 q6 q7
          rw [← hdone] at D2
          have := ih (t / (Region.ready .any ops listed).length) (listed.setIfInBounds e.s.i true) hist rest ds up M nx ws lm r κ' (a.put e.o.dst u) cs w' hsz2 hun2 hw hcm hh D2 hv q4 (by rw [put_defers]; exact hd.mono q5) (hu.mono q5)
          cases r with
          | ok T' ds' up' M' nx' =>
            obtain ⟨μ, a', cs', w', h1, h2, h3, h4, h5⟩ := this
            exact ⟨μ, a', cs', w', h1, h2, h3, h4, .head hstep h5⟩
          | pan ch T' ds' up' M' nx' =>
            obtain ⟨μ, a', cs', w', ch', todo', h1, h2, h3, h4, h5, h6⟩ := this
            exact ⟨μ, a', cs', w', ch', todo', h1, h2, h3, h4, h5, .head hstep h6⟩
      · -- an effect
        cases rest with
        | nil =>
          obtain ⟨p, hpm, hpi⟩ := hcm i hlt
          simp only [List.reverse_nil, List.nil_append] at hpm
          obtain ⟨e, he, rfl⟩ := List.mem_map.1 hpm
          exact absurd ⟨e, he, hpi⟩ hex
        | cons s rest =>
          have hrev : (s :: rest).reverse ++ hist.map (·.s) = rest.reverse ++ s :: hist.map (·.s) := by simp
          rw [hrev] at hw hcm
          have hws : WF ops (s :: hist.map (·.s)) := hw.tail
          obtain ⟨o2, ho2, hwa, hkd⟩ := hh
          have hsi : i = s.i := by
            obtain ⟨_, o3, _, _, _, _, _, _, h7⟩ := hws
            by_cases hne : i = s.i
            · exact hne
            · obtain ⟨e, he, hnot⟩ := h7 (Nat.eq_of_beq_eq_true hkd) i o ho (fun p hp hpi => by
                obtain ⟨x, hx, rfl⟩ := List.mem_map.1 hp
                exact hex ⟨x, hx, hpi⟩) hne
              obtain ⟨x, hx, hxi⟩ := D.sub e (hdir2 e he)
              exact absurd hxi (hnot _ (List.mem_map.2 ⟨x, hx, rfl⟩))
          subst hsi
          have : o2 = o := by rw [ho] at ho2; injection ho2 with ho2; exact ho2.symm
          subst this
          simp only [vdraw, ho, hwa, hkd] at hv
          rw [List.all_eq_true.2 hwok] at hv
          simp only at hv
          have hop := HT.op D.ht
          -- what the effect looks at
          let e0 : Ent := { s, o := o2, v := undef, Ti := restr (o2.looksAt ops) (tmpsOf T0 hist), wn := true, n := nx }
          have ag := agree (nt := nt) (T0 := T0) (C := done listed) (κ := κ) (tmps := a.tmps) hdst (h1 := []) (h := hist) (e := e0) hws D.ht (by
              intro x hx
              simp only [List.nil_append] at hx
              rcases List.mem_cons.1 hx with rfl | hx
              · exact ho
              · exact (hop x hx).1) D.cl hnd hdir2 (by
              intro x hx hc d hxd
              simp only [List.nil_append] at hx
              rcases List.mem_cons.1 hx with rfl | hx
              · exact absurd hc hnd
              · exact D.i1 x hx hc d hxd) (by
              intro tt v hT hnot
              exact D.i2 tt v hT (fun x hx hc => hnot x (by simp [hx]) hc))
          have hTm : TmR κ nt (restr (o2.looksAt ops) (tmpsOf T0 hist)) a.tmps := ⟨D.size, fun tt v hx => by
            obtain ⟨g1, g2⟩ := restr_get hx
            exact ag tt g1 v g2⟩
          have hwan := wanted_at ag hwa
          split at hv
          · rename_i v ds' up' M' nx' hop'
            split at hv
            · rename_i T' hT'
              obtain ⟨p1, p2⟩ := putT_some hT'
              subst p2
              obtain ⟨κ1, u, w1, defs', cs', z1, z2, z3, z4, z5⟩ := vop_sound hX hF hcall hGκ hop' hp.rel hTm hd hk (hr.mono hp.ext) hu.upR ho hwan (k := k) (rest := Region.linearise.go .any ops fuel (t / (Region.ready .any ops listed).length) (listed.setIfInBounds s.i true) []) (hp.freshU hf0)
              let e1 : Ent := { s, o := o2, v, Ti := restr (o2.looksAt ops) (tmpsOf T0 hist), wn := true, n := nx }
              have ht1 : HT ops nt T0 (e1 :: hist) := ⟨D.ht, ho, p1, rfl, hwa⟩
              have hpost := hp.trans (hf0.to _) z1
              have D1 := DI.effect (e := e1) hdst D hws ht1 hdir2 z1.ext z1.le (fun b hb hlt => by
                cases hz : κ1 b with
                | none => rfl
                | some l => have := (z1.new b l hb hz).1; omega) (u := u) z2
              obtain ⟨q, rest2, M2, nx2, ws2, g1, g2, g3, g4, g5, g6, g7, g8, g9, g10⟩ := adv ds' up' s.mask r rest (e1 :: hist) M' nx' ws hw ht1 hv
              have hwq : rest.reverse ++ s :: hist.map (·.s) = rest2.reverse ++ (q ++ e1 :: hist).map (·.s) := by
                rw [g1]; simp [e1]
              rw [hwq] at hw hcm
              have D2 := DI.grow D1 (hpost.freshU hf0) (hpost.le) (q := q) hw.tail g2 g5 g6 g9 g10
              have hpost2 := hpost.widen (hpost.freshU hf0) g6 g7 g8
              have hC : (fun j => j = e1.s.i ∨ done listed j) = done (listed.setIfInBounds s.i true) := hdone.symm
              rw [hC] at D2
              have hdput : (a.put e1.o.dst u).tmps = (({ a with defers := defs' } : Act).put o2.dst u).tmps := by
                show (a.put o2.dst u).tmps = _
                cases o2.dst <;> rfl
              rw [hdput] at D2
              have := ih (t / (Region.ready .any ops listed).length) (listed.setIfInBounds s.i true) (q ++ e1 :: hist) rest2 ds' up' M2 nx2 ws2 s.mask r κ1 (({ a with defers := defs' } : Act).put o2.dst u) cs' w1 hsz2 hun2 hw hcm g4 D2 g3 hpost2 (by rw [put_defers]; exact z3) (UpTo.trans hu z4)
              cases r with
              | ok T' ds2 up2 M3 nx3 =>
                obtain ⟨μ, a', cs2, w2, h1, h2, h3, h4, h5⟩ := this
                exact ⟨μ, a', cs2, w2, h1, h2, h3, h4, z5.trans h5⟩
              | pan ch T' ds2 up2 M3 nx3 =>
                obtain ⟨μ, a', cs2, w2, ch', todo', h1, h2, h3, h4, h5, h6⟩ := this
                exact ⟨μ, a', cs2, w2, ch', todo', h1, h2, h3, h4, h5, z5.trans h6⟩
            · cases hv
          · rename_i ch up' M' nx' hop'
            simp only [Option.some.injEq] at hv; subst hv
            obtain ⟨κ1, w1, ch', z1, z2, z3, z4⟩ := vop_sound hX hF hcall hGκ hop' hp.rel hTm hd hk (hr.mono hp.ext) hu.upR ho hwan (k := k) (rest := Region.linearise.go .any ops fuel (t / (Region.ready .any ops listed).length) (listed.setIfInBounds s.i true) []) (hp.freshU hf0)
            exact ⟨κ1, a, cs, w1, ch', _, hp.trans (hf0.to _) z1, D.lost.mono z1.ext, hd.mono z1.ext, UpTo.trans hu z3, z2, z4⟩
          · cases hv
    · rename_i hi
      -- none is ready: all are done
      have hnil : Region.ready .any ops listed = [] := by
        cases hrd : Region.ready .any ops listed with
        | nil => rfl
        | cons x xs =>
          rw [hrd] at hi
          have hlt : t % (x :: xs).length < (x :: xs).length := Nat.mod_lt _ (by simp)
          simp at hi
          simp at hlt
          omega
      have hall : ∀ p ∈ rest.reverse ++ hist.map (·.s), done listed p.i := by
        rcases oldest (C := done listed) hw with h | ⟨p, hp1, hp2, o, ho, hpd⟩
        · exact h
        · have : p.i ∈ Region.ready .any ops listed := by
            rw [mem_ready]
            refine ⟨?_, o, ho, fun e he hb => (hgd _).2 (hpd _ (mem_directs.2 ⟨e, he, hb, rfl⟩))⟩
            have hlt : p.i < listed.size := by rw [hsz]; exact (Array.getElem?_eq_some_iff.1 ho).1
            unfold done at hp2
            rw [Array.getElem?_eq_getElem hlt] at hp2
            rw [Array.getD_eq_getD_getElem?, Array.getElem?_eq_getElem hlt]
            simpa using hp2
          rw [hnil] at this; cases this
      have hres : rest = [] := by
        cases rest with
        | nil => rfl
        | cons s rest =>
          obtain ⟨e, he, hei⟩ := D.sub s.i (hall s (by simp))
          have hws : WF ops (s :: hist.map (·.s)) := by
            have : (s :: rest).reverse ++ hist.map (·.s) = rest.reverse ++ s :: hist.map (·.s) := by simp
            rw [this] at hw
            exact hw.tail
          obtain ⟨_, o2, _, _, h3, _⟩ := hws
          exact absurd hei (h3 _ (List.mem_map.2 ⟨e, he, rfl⟩))
      subst hres
      simp only [vdraw] at hv
      rw [List.all_eq_true.2 hwok] at hv
      simp only [cond_true, Option.some.injEq] at hv; subst hv
      exact ⟨κ, a, cs, w, hp, D.all hdst (fun e he => hall e.s (List.mem_append_right _ (List.mem_map.2 ⟨e, he, rfl⟩))), hd, hu, .one stepR_region_end⟩

theorem draws (hm : P.follows .mixedOrders = true) (hX : XOk P G w0 X) (hF : FOk P) : Draws P X G w0 := by
  intro call hcall fr id ops pl k r hpl hdst hv ι b a cs w hR hG hfr hf
  obtain ⟨hwf, hcm⟩ := plan_spec hpl
  have hw0 : WF ops (pl.reverse ++ ([] : List Ent).map (·.s)) := by simpa using hwf
  obtain ⟨q, rest2, M2, nx2, ws2, g1, g2, g3, g4, g5, g6, g7, g8, g9, g10⟩ := adv (nt := fr.nt) (T0 := fr.T) fr.ds fr.up 0 r pl [] fr.M fr.nx [] hw0 trivial hv
  have hwq : pl.reverse ++ ([] : List Ent).map (·.s) = rest2.reverse ++ (q ++ ([] : List Ent)).map (fun e => e.s) := by rw [g1]; simp
  rw [hwq] at hw0
  have hdn : ∀ j, ¬ done (Array.replicate ops.size false) j := by
    intro j h
    unfold done at h
    obtain ⟨h1, h2⟩ := Array.getElem?_eq_some_iff.1 h
    simp at h2
  have D0 : DI P G ops fr.nt fr.T fr.nx [] (done (Array.replicate ops.size false)) ι a.tmps fr.nx [] 0 :=
    ⟨trivial, trivial, hfr.tm.1, fun i h => absurd h (hdn i), fun i o h => absurd h (hdn i), by simp, fun t v hT _ => hfr.tm.2 t v hT, by simp, fun j hj => by simp at hj, by simp, by simp⟩
  have D1 := DI.grow D0 hf (Nat.le_refl _) (q := q) hw0.tail g2 g5 g6 g9 g10
  have hp : Post w0 ι fr.M fr.nx w ι fr.M fr.nx { w with drawn := w.drawn + 1 } := Post.drawn hR _
  have hp2 := hp.widen hf g6 g7 g8
  have key := draw_main (T0 := fr.T) hX hF hcall hdst (b := b) hfr.kind (k := k) (cs0 := cs) hG hf hfr.rnd ops.size (w.tape w.drawn (.order b.fn id)) (Array.replicate ops.size false) (q ++ []) rest2 fr.ds fr.up M2 nx2 ws2 0 r ι a cs { w with drawn := w.drawn + 1 } (by simp)
    (by unfold unl; exact Nat.le_trans (List.length_filter_le _ _) (by simp)) hw0 (by
      intro j hj
      obtain ⟨p, h1, h2⟩ := hcm j hj
      refine ⟨p, ?_, h2⟩
      rw [← hwq]; simpa using h1) g4 D1 g3 hp2 hfr.ds (UpTo.refl hfr.up)
  have hstep := stepR_region_draw (P := P) (b := b) (a := a) (k := k) (cs := cs) (w := w) (ops := ops) (id := id)
  have hsch : Region.schedule (P.follows .mixedOrders) ops (w.tape w.drawn (.order b.fn id)) = Region.linearise.go .any ops ops.size (w.tape w.drawn (.order b.fn id)) (Array.replicate ops.size false) [] := by
    simp only [Region.schedule, hm, Bool.true_or, if_true]
    rfl
  rw [hsch] at hstep
  cases r with
  | ok T' ds' up' M' nx' =>
    obtain ⟨μ, a', cs', w', h1, h2, h3, h4, h5⟩ := key
    exact ⟨μ, a', cs', w', h1, h2, h3, h4, .head hstep h5⟩
  | pan ch T' ds' up' M' nx' =>
    obtain ⟨μ, a', cs', w', ch', todo', h1, h2, h3, h4, h5, h6⟩ := key
    exact ⟨μ, a', cs', w', ch', todo', h1, h2, h3, h4, h5, .head hstep h6⟩
end
end Go.Proofs.YtihloomkgpflmaaGreatDoor.Vm

namespace Go.Proofs.YtihloomkgpflmaaGreatDoor.Vm

/-! ### the cells that a reading forces -/
def glueF (P : Program) (rec : TypeId → DataW Unit → Option (List Value)) : Nat → List (Nat × TypeId) → List (DataW Unit) → Option (Nat × List Value)
  | o, [], [] => some (o, [])
  | o, (o', t) :: ps, d :: ds => if o' = o then match rec t d with
      | some v => (match glueF P rec (o + P.cellsOf t) ps ds with
        | some (e, r) => some (e, v ++ r)
        | none => none)
      | none => none
    else none
  | _, _, _ => none
def cellsFor (P : Program) : Nat → TypeId → DataW Unit → Option (List Value)
  | 0, _, _ => none
  | f + 1, t, d => match P.underlying t, d with
    | some (.int k), .lit (.int _ n) => some [.int k n]
    | some .string, .lit (.string l) => some [.string ⟨l.toArray⟩]
    | some (.struct fs), .agg ds => (match glueF P (cellsFor P f) 0 (fs.toList.map fun g => (g.offset, g.type)) ds with
      | some (e, r) => if e = P.cellsOf t then some r else none
      | none => none)
    | some (.array n e), .agg ds => (match glueF P (cellsFor P f) 0 ((List.range n).map fun i => (i * P.cellsOf e, e)) ds with
      | some (z, r) => if z = P.cellsOf t then some r else none
      | none => none)
    | _, _ => none

theorem glueF_spec {P : Program} {w : World} {sp : Nat → Bool} {fuel : Nat} {rec : TypeId → DataW Unit → Option (List Value)} (hrec : ∀ t d vs cs p, rec t d = some vs → DataW.trod (fun _ => ()) P w 0 sp false fuel t cs = some (d, p) → cs = vs) (cs : List Value) :
    ∀ (ps : List (Nat × TypeId)) (ds : List (DataW Unit)) (o e : Nat) (vs : List Value) (xs : List (DataW Unit × List MemPlace)), glueF P rec o ps ds = some (e, vs) → e = cs.length →
      ps.mapM (fun p => DataW.trod (fun _ => ()) P w 0 sp false fuel p.2 ((cs.drop p.1).take (P.cellsOf p.2))) = some xs → xs.map (·.1) = ds → cs.drop o = vs
  | [], ds, o, e, vs, xs, h, he, hx, hd => by
    simp at hx; subst hx
    simp at hd; subst hd
    simp only [glueF, Option.some.injEq, Prod.mk.injEq] at h
    obtain ⟨rfl, rfl⟩ := h
    subst he
    simp
  | (o', t) :: ps, ds, o, e, vs, xs, h, he, hx, hd => by
    simp only [List.mapM_cons, Option.bind_eq_bind, Option.pure_def] at hx
    cases h1 : DataW.trod (fun _ => ()) P w 0 sp false fuel t ((cs.drop o').take (P.cellsOf t)) with
    | none => rw [h1] at hx; simp at hx
    | some y =>
      rw [h1] at hx
      simp only [Option.bind_some] at hx
      cases h2 : ps.mapM (fun p => DataW.trod (fun _ => ()) P w 0 sp false fuel p.2 ((cs.drop p.1).take (P.cellsOf p.2))) with
      | none => rw [h2] at hx; simp at hx
      | some ys =>
        rw [h2] at hx
        simp at hx; subst hx
        simp at hd; subst hd
        simp only [glueF] at h
        split at h
        · rename_i eo
          subst eo
          split at h
          · rename_i v hv
            split at h
            · rename_i e' r hr
              simp only [Option.some.injEq, Prod.mk.injEq] at h
              obtain ⟨rfl, rfl⟩ := h
              have ih := glueF_spec hrec cs ps _ _ _ _ ys hr he h2 rfl
              have hv2 := hrec t y.1 v _ y.2 hv (by rw [h1])
              rw [← ih, ← hv2, ← List.drop_drop, List.take_append_drop]
            · cases h
          · cases h
        · cases h

theorem cellsFor_spec {P : Program} {w : World} {sp : Nat → Bool} : ∀ (f : Nat) (t : TypeId) (d : DataW Unit) (vs : List Value) (fuel : Nat) (cs : List Value) (p : List MemPlace), cellsFor P f t d = some vs → DataW.trod (fun _ => ()) P w 0 sp false fuel t cs = some (d, p) → cs = vs
  | 0, t, d, vs, fuel, cs, p, h, ht => by cases h
  | f + 1, t, d, vs, 0, cs, p, h, ht => by simp [DataW.trod] at ht
  | f + 1, t, d, vs, fuel + 1, cs, p, h, ht => by
    unfold cellsFor at h
    split at h
    · rename_i k k' n hu
      simp at h; subst h
      unfold DataW.trod at ht
      rw [hu] at ht
      simp only at ht
      split at ht <;> simp_all
    · rename_i l hu
      simp at h; subst h
      unfold DataW.trod at ht
      rw [hu] at ht
      simp only at ht
      split at ht <;> simp_all
      rename_i s _
      obtain ⟨_, h1, _⟩ := ht
      subst h1
      simp
    · rename_i fs ds hu
      split at h
      · rename_i e r hr
        split at h
        · rename_i hee
          simp at h; subst h
          unfold DataW.trod at ht
          rw [hu] at ht
          simp only at ht
          split at ht
          · rename_i hlen
            cases hx : fs.toList.mapM (fun f => DataW.trod (fun _ => ()) P w 0 sp false fuel f.type ((cs.drop f.offset).take (P.cellsOf f.type))) with
            | none => rw [hx] at ht; simp at ht
            | some xs =>
              rw [hx] at ht
              simp at ht
              have := glueF_spec (P := P) (w := w) (sp := sp) (fuel := fuel) (rec := cellsFor P f) (fun t d vs cs p h1 h2 => cellsFor_spec f t d vs fuel cs p h1 h2) cs _ _ 0 e r xs hr (by rw [hee, hlen]) (by rw [List.mapM_map]; exact hx) ht.1
              simpa using this
          · cases ht
        · cases h
      · cases h
    · rename_i n e ds hu
      split at h
      · rename_i z r hr
        split at h
        · rename_i hee
          simp at h; subst h
          unfold DataW.trod at ht
          rw [hu] at ht
          simp only at ht
          split at ht
          · rename_i hlen
            cases hx : (List.range n).mapM (fun i => DataW.trod (fun _ => ()) P w 0 sp false fuel e ((cs.drop (i * P.cellsOf e)).take (P.cellsOf e))) with
            | none => rw [hx] at ht; simp at ht
            | some xs =>
              rw [hx] at ht
              simp at ht
              have := glueF_spec (P := P) (w := w) (sp := sp) (fuel := fuel) (rec := cellsFor P f) (fun t d vs cs p h1 h2 => cellsFor_spec f t d vs fuel cs p h1 h2) cs _ _ 0 z r xs hr (by rw [hee, hlen]) (by rw [List.mapM_map]; exact hx) ht.1
              simpa using this
          · cases ht
        · cases h
      · cases h
    · cases h

/-- A laid variable's block. -/
theorem laid_cells {P : Program} {W : World} {n : String} {d : DataW Unit} {g : Nat} {t : TypeId} {vs : List Value} {f : Nat} (hg : P.globalNamed n = some g) (ht : (P.globals[g]?).map (·.type) = some t) (hc : cellsFor P f t d = some vs) (hne : vs ≠ []) :
    ∀ {l : List (String × DataW Unit)} {ps : List MemPlace}, (n, d) ∈ l → DataW.LaidVars P W l ps → (∀ b off, MemPlace.cell b off ∈ ps → ∃ c t, W.heap[b]? = some (.cells c t (0, 0))) → ∃ arr ty, W.heap[g]? = some (.cells arr ty (0, 0)) ∧ arr.toList = vs
  | (m, e) :: l, ps, hm, h, hp => by
    obtain ⟨g', t', cs, fuel, p, q, h1, h2, h3, h4, h5, rfl⟩ := h
    rcases List.mem_cons.1 hm with hm | hm
    · injection hm with hm1 hm2
      subst hm1; subst hm2
      rw [hg] at h1; injection h1 with h1; subst h1
      rw [ht] at h2; injection h2 with h2; subst h2
      have hcs := cellsFor_spec f t d vs fuel cs.toList p hc h4
      have hsz : 0 < cs.size := by
        rw [← Array.length_toList, hcs]
        exact List.length_pos_iff.2 hne
      obtain ⟨c, ty, hh⟩ := hp g 0 (by simp [MemPlace.row]; exact .inl hsz)
      refine ⟨c, ty, hh, ?_⟩
      have : W.var? P n = some c := by simp [World.var?, hg, hh]
      rw [h3] at this; injection this with this
      rw [← this]; exact hcs
    · exact laid_cells hg ht hc hne hm h5 (fun b off hb => hp b off (by simp [hb]))
end Go.Proofs.YtihloomkgpflmaaGreatDoor.Vm

namespace Go.Proofs.YtihloomkgpflmaaGreatDoor.Vm

def iotaZ (G : Nat) (fz : Addr → Value → Prop) : Iota := ⟨fun b => if b % 256 = 0 ∧ b / 256 < G then some ⟨b / 256, none⟩ else none, fz⟩
abbrev iota0 (G : Nat) : Iota := iotaZ G (fun _ _ => False)
theorem iota0_some {G b : Nat} {l : Loc} {fz : Addr → Value → Prop} (h : iotaZ G fz b = some l) : b % 256 = 0 ∧ b / 256 < G ∧ l = ⟨b / 256, none⟩ := by
  simp only [iotaZ] at h
  split at h
  · rename_i hc
    simp at h; exact ⟨hc.1, hc.2, h.symm⟩
  · cases h

/-- The interpreter's memory at a call's beginning: the tables. -/
noncomputable def Mof : List (Nat × List Value) → Tr Blk
  | [] => .nil
  | (n, vs) :: r => (Mof r).set n (.cells true vs)
theorem Mof_get {n : Nat} {x : Blk} : ∀ {l : List (Nat × List Value)}, (Mof l).get n = some x → ∃ vs, (n, vs) ∈ l ∧ x = .cells true vs
  | [], h => by simp [Mof, Tr.get_nil] at h
  | (m, vs) :: r, h => by
    simp only [Mof] at h
    by_cases e : n = m
    · subst e
      rw [Tr.get_set_same] at h
      simp at h; subst h
      exact ⟨vs, by simp, rfl⟩
    · rw [Tr.get_set_ne _ _ e] at h
      obtain ⟨us, h1, h2⟩ := Mof_get h
      exact ⟨us, List.mem_cons_of_mem _ h1, h2⟩

theorem vrl_self {ι : Iota} : ∀ {vs : List Value}, vs.all okc = true → VRL ι vs vs
  | [], _ => .nil
  | v :: vs, h => by
    simp only [List.all_cons, Bool.and_eq_true] at h
    exact .cons (okc_self v h.1) (vrl_self h.2)

def Laid (G : Nat) (tabs : List (Nat × List Value)) (W : World) : Prop := ∀ n vs, (n, vs) ∈ tabs → n < G ∧ vs.all okc = true ∧ ∃ arr ty, W.heap[n]? = some (.cells arr ty (0, 0)) ∧ arr.toList = vs

theorem R_startZ {G : Nat} {tabs : List (Nat × List Value)} {W : World} {fz : Addr → Value → Prop} (h : Laid G tabs W) (hfz : ∀ a v, fz a v → W.cell? a = some v) : R W (iotaZ G fz) (Mof tabs) W := by
  refine ⟨?_, ?_, ?_, ?_, ?_, Nat.le_refl _, fun _ _ => rfl, rfl, rfl, rfl, fun a v ha => ⟨hfz a v ha, fun b x l hm hw _ => ?_⟩⟩
  · intro b l hb
    obtain ⟨h1, _, rfl⟩ := iota0_some hb
    exact ⟨fun _ => h1, fun _ => rfl⟩
  · intro b b' l l' hb hb' e
    have h1 := (iota0_some hb).1
    have h2 := (iota0_some hb').1
    omega
  · intro b x l hm hb
    obtain ⟨h1, h2, rfl⟩ := iota0_some hb
    obtain ⟨vs, hv, rfl⟩ := Mof_get hm
    obtain ⟨_, hok, arr, ty, h3, h4⟩ := h _ _ hv
    refine ⟨_, h3, .cells rfl ?_⟩
    rw [h4]; exact vrl_self hok
  · intro b b' x x' l l' _ _ _ _ hb hb' e
    obtain ⟨h1, _, rfl⟩ := iota0_some hb
    obtain ⟨h2, _, rfl⟩ := iota0_some hb'
    simp only at e
    omega
  · intro b x l hm hw hb
    obtain ⟨vs, _, rfl⟩ := Mof_get hm
    simp [Blk.mine] at hw
  · obtain ⟨vs, _, rfl⟩ := Mof_get hm
    simp [Blk.wr] at hw
theorem R_start {G : Nat} {tabs : List (Nat × List Value)} {W : World} (h : Laid G tabs W) : R W (iota0 G) (Mof tabs) W := R_startZ h (fun _ _ h => h.elim)
theorem GOk_iotaZ {G : Nat} {fz : Addr → Value → Prop} : GOk G (iotaZ G fz) := fun g hg => by
  simp only [iotaZ]
  rw [if_pos ⟨by omega, by omega⟩]; congr 2; omega
theorem FreshU_iotaZ {G : Nat} {fz : Addr → Value → Prop} : FreshU (iotaZ G fz) G := fun c hc => by
  simp only [iotaZ]
  rw [if_neg (by omega)]

def answers (t : Bool) : Option Res → Bool
  | some (.ret (.bool b) _ _ _) => b == t
  | _ => false
theorem answers_spec {t : Bool} {r : Option Res} (h : answers t r = true) : ∃ up M nx, r = some (.ret (.bool t) up M nx) := by
  unfold answers at h
  split at h
  · rename_i b up M nx
    simp at h; subst h
    exact ⟨up, M, nx, rfl⟩
  · cases h
/-- A call of function f, by the interpreter, is true (false). -/
noncomputable def ran (P : Program) (X : Exts) (G n : Nat) (tabs : List (Nat × List Value)) (f : FuncId) (args : List Value) (t : Bool) : Bool := match enterFr P f args false .run (Mof tabs) G with
  | some fr => answers t (vrun P X G n fr)
  | none => false

theorem call_of_run {P : Program} {X : Exts} (hm : P.follows .mixedOrders = true) {G n : Nat} (hX : ∀ w0, XOk P G w0 X) (hF : FOk P) {tabs : List (Nat × List Value)} {f : FuncId} {args : List Value} {t : Bool} (h : ran P X G n tabs f args t = true) {W : World} (hl : Laid G tabs W)
    {bs : Array Value} (ha : VRL (iota0 G) args bs.toList) : Calls P f bs W fun e W' => e = .returned (.bool t) ∧ W'.os = W.os ∧ W'.output = W.output ∧ W.heap.size ≤ W'.heap.size ∧ ∀ i, i < W.heap.size → W'.heap[i]? = W.heap[i]? := by
  intro cs
  unfold ran at h
  split at h
  · rename_i fr hfr
    obtain ⟨up, M, nx, hr⟩ := answers_spec h
    obtain ⟨b, a, e1, e2, e3, e4, e5, e6, e7⟩ := enterFr_rel (ι := iota0 G) (cs := cs) hfr ha (fun x => by cases x)
    simp only [Bool.false_eq_true, if_false] at e1
    obtain ⟨κ, w', p1, p2⟩ := (vrun_sound (w0 := W) (hX W) hF (draws hm (hX W) hF) n fr _ hr).sound (iota0 G) b a .run cs W (by rw [e3]; exact R_start hl) GOk_iotaZ e2
      (by
        rw [e4]
        exact FreshU_iotaZ) (fun x => absurd e6 x)
    cases p2 with
    | ret hr0 hs hads hfn hres hv hcs =>
      rename_i u a2 todo2 fn cs'
      rw [e5] at hcs
      simp only [UpTo] at hcs
      subst hcs
      cases hv
      have hbk : b.kind = .normal := by have := e2.kind; rw [e5] at this; simpa using this
      refine ⟨.returned (.bool t), w', atM b a2 todo2 .returning, ⟨rfl, p1.rel.os, p1.rel.output, p1.rel.size, p1.rel.old⟩, ?_, e7, ⟨rfl, hads, hbk, fn, hfn, hres⟩⟩
      rw [e1]
      exact hs
    | round hr0 => exact absurd e6 hr0
  · cases h

/-- .. whatever its arguments: it does not look at them. -/
theorem call_of_run_any {P : Program} {X : Exts} (hm : P.follows .mixedOrders = true) {G n : Nat} (hX : ∀ w0, XOk P G w0 X) (hF : FOk P) {tabs : List (Nat × List Value)} {f : FuncId} {t : Bool} (h : ran P X G n tabs f [] t = true) {W : World} (hl : Laid G tabs W)
    {bs : Array Value} (hb : ∀ fn, P.funcs[f]? = some fn → bs.size ≤ fn.ntmps) : Calls P f bs W fun e W' => e = .returned (.bool t) ∧ W'.os = W.os ∧ W'.output = W.output ∧ W.heap.size ≤ W'.heap.size ∧ (∀ i, i < W.heap.size → W'.heap[i]? = W.heap[i]?) ∧ W'.tape = W.tape := by
  intro cs
  unfold ran at h
  split at h
  · rename_i fr hfr
    obtain ⟨up, M, nx, hr⟩ := answers_spec h
    unfold enterFr at hfr
    split at hfr
    · rename_i fn hfn
      split at hfr
      · rename_i c hc
        simp at hfr
        have hsz := hb fn hfn
        let b : Frame := { (default : Frame) with fn := f, kind := .normal }
        let a : Act := { tmps := bs ++ Array.replicate (fn.ntmps - bs.size) undef, defers := [] }
        have e1 : Frame.enter P f bs .normal = atM b a fr.todo .run := by
          rw [← hfr]
          simp only [Frame.enter, hfn, Option.map_some, Option.getD_some, Option.bind_some, hc, atM, Frame.atR]
          rfl
        have e2 : FrR P (iota0 G) fr b a .run cs := by
          rw [← hfr]
          exact ⟨rfl, ⟨by simp [a]; omega, fun t v hv => by simp [putArgs, Tr.get_nil] at hv⟩, .nil, .run, rfl, trivial, fun x => by cases x⟩
        have e3 : fr.M = Mof tabs := by rw [← hfr]
        have e4 : fr.nx = G := by rw [← hfr]
        have e5 : fr.dk = false := by rw [← hfr]
        have e6 : fr.rnd = none := by rw [← hfr]
        obtain ⟨κ, w', p1, p2⟩ := (vrun_sound (w0 := W) (hX W) hF (draws hm (hX W) hF) n fr _ hr).sound (iota0 G) b a .run cs W (by rw [e3]; exact R_start hl) GOk_iotaZ e2
          (by
            rw [e4]
            exact FreshU_iotaZ) (fun x => absurd e6 x)
        cases p2 with
        | ret hr0 hs hads hfn2 hres hv hcs =>
          rename_i u a2 todo2 fn2 cs'
          rw [e5] at hcs
          simp only [UpTo] at hcs
          subst hcs
          cases hv
          refine ⟨.returned (.bool t), w', atM b a2 todo2 .returning, ⟨rfl, p1.rel.os, p1.rel.output, p1.rel.size, p1.rel.old, p1.rel.tape⟩, ?_, rfl, ⟨rfl, hads, rfl, fn2, hfn2, hres⟩⟩
          rw [e1]
          exact hs
        | round hr0 => exact absurd e6 hr0
      · cases hfr
    · cases hfr
  · cases h

/-- .. and leaves everything as it was. -/
theorem kept_of_old {W W' : World} (h1 : W'.os = W.os) (h2 : W'.output = W.output) (h3 : ∀ i, i < W.heap.size → W'.heap[i]? = W.heap[i]?) (may : MemPlace → Prop) : W.keptBut W' may :=
  (World.keptBut_refl W may).congr h1 h2 h3

/-! ### two functions without a body -/
def add64E : Array Value → Sem Value := (Extern.MathBitsCarry.rows.getD 0 ("", fun _ => pure undef)).2
def sub64E : Array Value → Sem Value := (Extern.MathBitsCarry.rows.getD 1 ("", fun _ => pure undef)).2
noncomputable def addX : List Value → Option Value
  | [.int .u64 (.ofNat a), .int .u64 (.ofNat b), .int .u64 (.ofNat c)] => bif Nat.ble c 1 then some (.tuple #[.int .u64 (.ofNat (Nat.mod (Nat.add (Nat.add a b) c) 18446744073709551616)), .int .u64 (.ofNat (Nat.div (Nat.add (Nat.add a b) c) 18446744073709551616))]) else none
  | _ => none
noncomputable def subX : List Value → Option Value
  | [.int .u64 (.ofNat a), .int .u64 (.ofNat b), .int .u64 (.ofNat c)] => bif Nat.ble c 1 then some (.tuple #[.int .u64 (.ofNat (Nat.mod (Nat.sub (Nat.sub (Nat.add a 18446744073709551616) b) c) 18446744073709551616)), .int .u64 (.ofNat (bif Nat.blt a (Nat.add b c) then 1 else 0))]) else none
  | _ => none
/-- Nothing is known beside the text. -/
def X0 : Exts := ⟨fun _ => none, fun _ _ _ _ => none, fun _ => none⟩
/-- .. but a function without a body. -/
noncomputable def Exts.add (X : Exts) (f : FuncId) (e : List Value → Option Value) : Exts := ⟨fun g => bif Nat.beq g f then some e else X.fn g, X.sm, X.pf⟩
noncomputable def bitsX (fa fs : FuncId) : Exts := (X0.add fs subX).add fa addX

theorem three_ints {ι : Iota} {as : List Value} {bs : Array Value} {x y z : Value} (h : VRL ι as bs.toList) (hx : as = [x, y, z]) (h1 : ∀ u, VR ι x u → u = x) (h2 : ∀ u, VR ι y u → u = y) (h3 : ∀ u, VR ι z u → u = z) : bs = #[x, y, z] := by
  subst hx
  generalize hl : bs.toList = l at h
  cases h with
  | cons a1 t1 => cases t1 with
    | cons a2 t2 => cases t2 with
      | cons a3 t3 =>
        cases t3
        rw [h1 _ a1, h2 _ a2, h3 _ a3] at hl
        exact Array.toList_inj.1 hl
theorem int_self {ι : Iota} {k : IntKind} {n : Int} (u : Value) (h : VR ι (.int k n) u) : u = .int k n := by cases h; rfl

theorem run_addE {P : Program} (a b c : Nat) (hc : c ≤ 1) (w : World) : (add64E #[.int .u64 (.ofNat a), .int .u64 (.ofNat b), .int .u64 (.ofNat c)]).run P w = .ok (.tuple #[.int .u64 (.ofNat (Nat.mod (Nat.add (Nat.add a b) c) 18446744073709551616)), .int .u64 (.ofNat (Nat.div (Nat.add (Nat.add a b) c) 18446744073709551616))]) w := by
  have : c = 0 ∨ c = 1 := by omega
  rcases this with rfl | rfl <;> rfl
theorem run_subE {P : Program} (a b c : Nat) (hc : c ≤ 1) (w : World) : (sub64E #[.int .u64 (.ofNat a), .int .u64 (.ofNat b), .int .u64 (.ofNat c)]).run P w = .ok (.tuple #[.int .u64 (.ofNat (Nat.mod (Nat.sub (Nat.sub (Nat.add a 18446744073709551616) b) c) 18446744073709551616)), .int .u64 (.ofNat (bif Nat.blt a (Nat.add b c) then 1 else 0))]) w := by
  have key : (bif Nat.blt a (Nat.add b c) then 1 else 0) = (if a < b + c then 1 else 0) := by
    cases h : Nat.blt a (Nat.add b c) with
    | true =>
      have h' : a < b + c := by simpa [Nat.blt_eq] using h
      rw [if_pos h']; rfl
    | false =>
      have h' : ¬ a < b + c := by
        intro hlt
        have : Nat.blt a (Nat.add b c) = true := by rw [Nat.blt_eq]; exact hlt
        rw [h] at this; cases this
      rw [if_neg h']; rfl
  rw [key]
  have : c = 0 ∨ c = 1 := by omega
  rcases this with rfl | rfl <;> rfl

/-- A function without a body does as is said. -/
def EOk (P : Program) (f : FuncId) (e : List Value → Option Value) : Prop := ∀ as v, e as = some v → (∀ ι : Iota, VR ι v v) ∧ ∀ (ι : Iota) (bs : Array Value) (w : World), VRL ι as bs.toList → (callFunc f bs).run P w = .ok (.value v) w
theorem X0_ok {P : Program} {G : Nat} {w0 : World} : XOk P G w0 X0 := ⟨fun _ _ _ _ h _ => (by cases h), fun _ _ _ _ _ _ _ h => (by cases h), fun _ _ _ _ h => (by cases h)⟩
theorem XOk.add {P : Program} {G : Nat} {w0 : World} {X : Exts} (h : XOk P G w0 X) {f : FuncId} {e : List Value → Option Value} (he : EOk P f e) : XOk P G w0 (X.add f e) := by
  refine ⟨fun g e' as v hg hv => ?_, h.2⟩
  have hg' : (bif Nat.beq g f then some e else X.fn g) = some e' := hg
  cases hb : Nat.beq g f with
  | true =>
    rw [hb] at hg'; simp at hg'; subst hg'
    have := Nat.eq_of_beq_eq_true hb
    subst this
    exact he as v hv
  | false =>
    rw [hb] at hg'
    exact h.1 g e' as v hg' hv
theorem addX_ok {P : Program} {f : FuncId} (hf : ∀ (args : Array Value) (w : World), (callFunc f args).run P w = ((add64E args).run P w).andThen fun v w' => .ok (.value v) w') : EOk P f addX := by
  intro as v he
  unfold addX at he
  split at he
  · rename_i a b c
    obtain ⟨hc, he⟩ := cond_some he
    subst he
    refine ⟨fun ι => .tuple (.cons (.int _ _) (.cons (.int _ _) .nil)), fun ι bs w hb => ?_⟩
    rw [three_ints hb rfl int_self int_self int_self, hf, run_addE a b c (by simpa [Nat.ble_eq] using hc) w]
    rfl
  · cases he
theorem subX_ok {P : Program} {f : FuncId} (hf : ∀ (args : Array Value) (w : World), (callFunc f args).run P w = ((sub64E args).run P w).andThen fun v w' => .ok (.value v) w') : EOk P f subX := by
  intro as v he
  unfold subX at he
  split at he
  · rename_i a b c
    obtain ⟨hc, he⟩ := cond_some he
    subst he
    refine ⟨fun ι => .tuple (.cons (.int _ _) (.cons (.int _ _) .nil)), fun ι bs w hb => ?_⟩
    rw [three_ints hb rfl int_self int_self int_self, hf, run_subE a b c (by simpa [Nat.ble_eq] using hc) w]
    rfl
  · cases he
def countE : Array Value → Sem Value := (Extern.BytealgCount.rows.getD 1 ("", fun _ => pure undef)).2
noncomputable def countX : List Value → Option Value
  | [.string s, .int .u8 (.ofNat c)] => some (.int .i64 (s.foldl (fun (n : Int) x => if x == c.toUInt8 then n + 1 else n) 0))
  | _ => none
theorem run_countE {P : Program} (s : ByteArray) (c : Nat) (w : World) : (countE #[.string s, .int .u8 (.ofNat c)]).run P w = .ok (.int .i64 (s.foldl (fun (n : Int) x => if x == c.toUInt8 then n + 1 else n) 0)) w := by kernel_rfl
theorem countX_ok {P : Program} {f : FuncId} (hf : ∀ (args : Array Value) (w : World), (callFunc f args).run P w = ((countE args).run P w).andThen fun v w' => .ok (.value v) w') : EOk P f countX := by
  intro as v he
  unfold countX at he
  split at he
  · rename_i s c
    simp only [Option.some.injEq] at he
    subst he
    refine ⟨fun ι => .int _ _, fun ι bs w hb => ?_⟩
    have e : bs = #[.string s, .int .u8 (.ofNat c)] := by
      generalize hl : bs.toList = l at hb
      cases hb with
      | cons a1 t1 => cases t1 with
        | cons a2 t2 =>
          cases t2
          cases a1; cases a2
          exact Array.toList_inj.1 hl
    rw [e, hf, run_countE]
    rfl
  · cases he
theorem bitsX_ok {P : Program} {fa fs : FuncId} (ha : ∀ (args : Array Value) (w : World), (callFunc fa args).run P w = ((add64E args).run P w).andThen fun v w' => .ok (.value v) w') (hs : ∀ (args : Array Value) (w : World), (callFunc fs args).run P w = ((sub64E args).run P w).andThen fun v w' => .ok (.value v) w') {G : Nat} (w0 : World) : XOk P G w0 (bitsX fa fs) :=
  (X0_ok.add (subX_ok hs)).add (addX_ok ha)

theorem FOk_of {P : Program} (h : P.funcs.toList.all (fun fn => fn.body.isNone || !(fn.name == "runtime.NumGoroutine")) = true) : FOk P := by
  intro f fn hfn hb
  have := List.all_eq_true.1 h fn (List.mem_of_getElem? (by simpa using hfn))
  simp only [Bool.or_eq_true, Bool.not_eq_true'] at this
  rcases this with h1 | h1
  · rw [Option.isNone_iff_eq_none] at h1
    rw [h1] at hb; cases hb
  · exact h1
end Go.Proofs.YtihloomkgpflmaaGreatDoor.Vm
