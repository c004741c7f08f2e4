/-
  THE ABSTRACT INTERPRETER, part W: a region that draws its order is as the interpreter says, whatever the order.
-/
import Derived.Test.YtjbanjpklgpenaaGreatDoorVmV
namespace Go.Proofs.YtjbanjpklgpenaaGreatDoor.Vm

structure DI (P : Program) (G : Nat) (ops : Array Oper) (nt : Nat) (T0 : Tr Value) (nx0 : Nat) (hist : List Ent) (C : Nat → Prop) (κ : Iota) (tmps : Array Value) (nx : Nat) (ws : List Watch) (lm : Nat) : Prop where
  wf : WF ops (hist.map (·.s))
  ht : HT ops nt T0 hist
  size : tmps.size = nt
  sub : ∀ i, C i → ∃ e ∈ hist, e.s.i = i
  cl : ∀ i o, C i → ops[i]? = some o → ∀ j ∈ directs o, C j
  i1 : ∀ e ∈ hist, C e.s.i → ∀ d, e.o.dst = some d → ∃ u, tmps[d]? = some u ∧ VR κ e.v u
  i2 : ∀ t v, T0.get t = some v → (∀ e ∈ hist, C e.s.i → e.o.dst ≠ some t) → ∃ u, tmps[t]? = some u ∧ VR κ v u
  we : ∀ e ∈ hist, ¬ C e.s.i → WEnt P G ws e
  lmc : ∀ j, Nat.testBit lm j = true → C j
  rg : ∀ e ∈ hist, ¬ C e.s.i → isNew e → nx0 ≤ e.n ∧ e.n < nx ∧ ∀ b, b / 256 = e.n → κ b = none
  al : ∀ e ∈ hist, ∀ e' ∈ hist, ¬ C e.s.i → ¬ C e'.s.i → isNew e → isNew e' → e.n = e'.n → e.s.i = e'.s.i

theorem put_get_ne {a : Act} {dst : Option Tmp} {u : Value} {t : Tmp} (h : dst ≠ some t) : (a.put dst u).tmps[t]? = a.tmps[t]? := by
  cases dst with
  | none => rfl
  | some d =>
    have : d ≠ t := fun e => h (by rw [e])
    show (a.tmps.setIfInBounds d u)[t]? = _
    rw [Array.getElem?_setIfInBounds_ne this]
theorem put_get_same {a : Act} {dst : Option Tmp} {u : Value} {d : Tmp} (h : dst = some d) (hd : d < a.tmps.size) : (a.put dst u).tmps[d]? = some u := by
  subst h
  show (a.tmps.setIfInBounds d u)[d]? = _
  rw [Array.getElem?_setIfInBounds_self_of_lt hd]
theorem put_size {a : Act} {dst : Option Tmp} {u : Value} : (a.put dst u).tmps.size = a.tmps.size := by
  cases dst with
  | none => rfl
  | some d => show (a.tmps.setIfInBounds d u).size = _; simp

section
variable {P : Program} {G : Nat} {ops : Array Oper} {nt : Nat} {T0 : Tr Value} {nx0 : Nat} {hist : List Ent} {C : Nat → Prop} {κ : Iota} {nx : Nat} {ws : List Watch} {lm : Nat}

/-- A listed operation has been done. -/
theorem DI.done {a : Act} (hdst : dstsApart ops.toList = true) (D : DI P G ops nt T0 nx0 hist C κ a.tmps nx ws lm) {e : Ent} (he : e ∈ hist) (hdir : ∀ j ∈ directs e.o, C j) {κ' : Iota} (hx : Ext κ κ') {u : Value} (hv : VR κ' e.v u)
    (hnew : ∀ e' ∈ hist, ¬ C e'.s.i → isNew e' → e'.s.i ≠ e.s.i → ∀ b, b / 256 = e'.n → κ' b = none) : DI P G ops nt T0 nx0 hist (fun j => j = e.s.i ∨ C j) κ' (a.put e.o.dst u).tmps nx ws lm := by
  have hop := HT.op D.ht
  refine ⟨D.wf, D.ht, by rw [put_size]; exact D.size, ?_, ?_, ?_, ?_, ?_, fun j hj => .inr (D.lmc j hj), ?_, ?_⟩
  · rintro i (rfl | hi)
    · exact ⟨e, he, rfl⟩
    · exact D.sub i hi
  · rintro i o (rfl | hi) ho j hj
    · have : o = e.o := by rw [(hop e he).1] at ho; injection ho with ho; exact ho.symm
      subst this
      exact .inr (hdir j hj)
    · exact .inr (D.cl i o hi ho j hj)
  · intro x hxm hcx d hd
    by_cases hxe : x.s.i = e.s.i
    · have : x = e := D.wf.uniq x hxm e he hxe
      subst this
      exact ⟨u, put_get_same hd (by rw [D.size]; exact (hop x hxm).2 d hd), hv⟩
    · rcases hcx with hcx | hcx
      · exact absurd hcx hxe
      · have hne : e.o.dst ≠ some d := by
          intro h2
          exact hxe (dsts_apart hdst (by simpa using (hop x hxm).1) (by simpa using (hop e he).1) hd h2)
        obtain ⟨z, h1, h2⟩ := D.i1 x hxm hcx d hd
        exact ⟨z, by rw [put_get_ne hne]; exact h1, h2.mono hx⟩
  · intro t v hT hnot
    obtain ⟨z, h1, h2⟩ := D.i2 t v hT (fun x hxm hcx => hnot x hxm (.inr hcx))
    exact ⟨z, by rw [put_get_ne (hnot e he (.inl rfl))]; exact h1, h2.mono hx⟩
  · intro x hxm hcx
    exact D.we x hxm (fun h => hcx (.inr h))
  · intro x hxm hcx hnw
    obtain ⟨h1, h2, h3⟩ := D.rg x hxm (fun h => hcx (.inr h)) hnw
    exact ⟨h1, h2, hnew x hxm (fun h => hcx (.inr h)) hnw (fun h => hcx (.inl h))⟩
  · intro x hxm y hym hcx hcy h1 h2 h3
    exact D.al x hxm y hym (fun h => hcx (.inr h)) (fun h => hcy (.inr h)) h1 h2 h3

/-- More is listed. -/
theorem DI.grow {tmps : Array Value} (D : DI P G ops nt T0 nx0 hist C κ tmps nx ws lm) (hf : FreshU κ nx) (hle0 : nx0 ≤ nx) {q : List Ent} {ws2 : List Watch} {nx2 : Nat} (hw : WF ops ((q ++ hist).map (·.s))) (ht : HT ops nt T0 (q ++ hist)) (hs : ∀ x ∈ ws, x ∈ ws2) (hle : nx ≤ nx2)
    (hq : ∀ e ∈ q, WEnt P G ws2 e ∧ (isNew e → nx ≤ e.n ∧ e.n < nx2)) (hal : ∀ e ∈ q, ∀ e' ∈ q, isNew e → isNew e' → e.n = e'.n → e.s.i = e'.s.i) : DI P G ops nt T0 nx0 (q ++ hist) C κ tmps nx2 ws2 lm := by
  have old : ∀ x ∈ q ++ hist, C x.s.i → x ∈ hist := by
    intro x hx hc
    obtain ⟨y, hy, e⟩ := D.sub _ hc
    have : x = y := hw.uniq x hx y (List.mem_append_right _ hy) e.symm
    rw [this]; exact hy
  refine ⟨hw, ht, D.size, fun i hi => (let ⟨e, h1, h2⟩ := D.sub i hi; ⟨e, List.mem_append_right _ h1, h2⟩), D.cl, fun x hx hc => D.i1 x (old x hx hc) hc, fun t v hT hnot => D.i2 t v hT (fun x hx hc => hnot x (List.mem_append_right _ hx) hc), ?_, D.lmc, ?_, ?_⟩
  · intro x hx hc
    rcases List.mem_append.1 hx with hx | hx
    · exact (hq x hx).1
    · exact (D.we x hx hc).mono hs
  · intro x hx hc hn
    rcases List.mem_append.1 hx with hx | hx
    · obtain ⟨h1, h2⟩ := (hq x hx).2 hn
      exact ⟨Nat.le_trans hle0 h1, h2, fun b hb => hf b (by omega)⟩
    · obtain ⟨h1, h2, h3⟩ := D.rg x hx hc hn
      exact ⟨h1, Nat.lt_of_lt_of_le h2 hle, h3⟩
  · intro x hx y hy hcx hcy h1 h2 h3
    rcases List.mem_append.1 hx with hx | hx <;> rcases List.mem_append.1 hy with hy | hy
    · exact hal x hx y hy h1 h2 h3
    · have a1 := ((hq x hx).2 h1).1
      have a2 := (D.rg y hy hcy h2).2.1
      omega
    · have a1 := ((hq y hy).2 h2).1
      have a2 := (D.rg x hx hcx h1).2.1
      omega
    · exact D.al x hx y hy hcx hcy h1 h2 h3

/-- An effect has been done. -/
theorem DI.effect {a : Act} (hdst : dstsApart ops.toList = true) (D : DI P G ops nt T0 nx0 hist C κ a.tmps nx ws lm) {e : Ent} (hw : WF ops ((e :: hist).map (·.s))) (ht : HT ops nt T0 (e :: hist)) (hdir : ∀ j ∈ directs e.o, C j) {κ' : Iota} {nx' : Nat} (hx : Ext κ κ') (hle : nx ≤ nx')
    (hnew : ∀ b, κ b = none → b / 256 < nx → κ' b = none) {u : Value} (hv : VR κ' e.v u) : DI P G ops nt T0 nx0 (e :: hist) (fun j => j = e.s.i ∨ C j) κ' (a.put e.o.dst u).tmps nx' ws e.s.mask := by
  have hop := HT.op ht
  have hnc : ∀ x ∈ hist, x.s.i ≠ e.s.i := by
    obtain ⟨_, o, _, _, h3, _⟩ := hw
    exact fun x hx => h3 _ (List.mem_map.2 ⟨x, hx, rfl⟩)
  refine ⟨hw, ht, by rw [put_size]; exact D.size, ?_, ?_, ?_, ?_, ?_, ?_, ?_, ?_⟩
  · rintro i (rfl | hi)
    · exact ⟨e, by simp, rfl⟩
    · obtain ⟨x, h1, h2⟩ := D.sub i hi
      exact ⟨x, List.mem_cons_of_mem _ h1, h2⟩
  · rintro i o (rfl | hi) ho j hj
    · have : o = e.o := by rw [(hop e (by simp)).1] at ho; injection ho with ho; exact ho.symm
      subst this
      exact .inr (hdir j hj)
    · exact .inr (D.cl i o hi ho j hj)
  · intro x hxm hcx d hd
    rcases List.mem_cons.1 hxm with rfl | hxm
    · exact ⟨u, put_get_same hd (by rw [D.size]; exact (hop x (by simp)).2 d hd), hv⟩
    · rcases hcx with hcx | hcx
      · exact absurd hcx (hnc x hxm)
      · have hne : e.o.dst ≠ some d := by
          intro h2
          exact hnc x hxm (dsts_apart hdst (by simpa using (hop x (List.mem_cons_of_mem _ hxm)).1) (by simpa using (hop e (by simp)).1) hd h2)
        obtain ⟨z, h1, h2⟩ := D.i1 x hxm hcx d hd
        exact ⟨z, by rw [put_get_ne hne]; exact h1, h2.mono hx⟩
  · intro t v hT hnot
    obtain ⟨z, h1, h2⟩ := D.i2 t v hT (fun x hxm hcx => hnot x (List.mem_cons_of_mem _ hxm) (.inr hcx))
    exact ⟨z, by rw [put_get_ne (hnot e (by simp) (.inl rfl))]; exact h1, h2.mono hx⟩
  · intro x hxm hcx
    rcases List.mem_cons.1 hxm with rfl | hxm
    · exact absurd (.inl rfl) hcx
    · exact D.we x hxm (fun h => hcx (.inr h))
  · intro j hj
    have hp := hw.masks e.s (by simp) j hj
    exact .inr (pre_closed D.cl (hop e (by simp)).1 hdir hp)
  · intro x hxm hcx hnw
    rcases List.mem_cons.1 hxm with rfl | hxm
    · exact absurd (.inl rfl) hcx
    · obtain ⟨h1, h2, h3⟩ := D.rg x hxm (fun h => hcx (.inr h)) hnw
      exact ⟨h1, Nat.lt_of_lt_of_le h2 hle, fun b hb => hnew b (h3 b hb) (by omega)⟩
  · intro x hxm y hym hcx hcy h1 h2 h3
    rcases List.mem_cons.1 hxm with rfl | hxm
    · exact absurd (.inl rfl) hcx
    · rcases List.mem_cons.1 hym with rfl | hym
      · exact absurd (.inl rfl) hcy
      · exact D.al x hxm y hym (fun h => hcx (.inr h)) (fun h => hcy (.inr h)) h1 h2 h3

theorem quiet_exec {a : Act} (hdst : dstsApart ops.toList = true) (D : DI P G ops nt T0 nx0 hist C κ a.tmps nx ws lm) {w0 w00 w : World} {ι : Iota} {M0 M : Tr Blk} (hwok : ∀ x ∈ ws, watchOk P G lm M x = true) {e : Ent} (he : e ∈ hist) (hn : ¬ C e.s.i) (hdir : ∀ j ∈ directs e.o, C j)
    (hG : GOk G κ) (hf0 : FreshU ι nx0) (hp : Post w0 ι M0 nx0 w00 κ M nx w) :
    (Region.wanted e.o (yielded ops a.tmps) = false ∧ e.v = undef) ∨
    (Region.wanted e.o (yielded ops a.tmps) = true ∧ (∀ c, e.o.op ≠ .defer c) ∧ ∃ κ' u w', (execOp a.eval e.o).run P w = .ok (.value u) w' ∧ Post w0 ι M0 nx0 w00 κ' M nx w' ∧ Ext κ κ' ∧ VR κ' e.v u ∧
      (∀ e' ∈ hist, ¬ C e'.s.i → isNew e' → e'.s.i ≠ e.s.i → ∀ b, b / 256 = e'.n → κ' b = none)) := by
  obtain ⟨h1, h2, hsp⟩ := List.append_of_mem he
  have hte : HT ops nt T0 (e :: h2) := by have := D.ht; rw [hsp] at this; exact this.tail
  obtain ⟨hth, hoe, hde, hTi, hwn⟩ := hte
  have hop := HT.op D.ht
  have ag := agree (nt := nt) (T0 := T0) (C := C) (κ := κ) (tmps := a.tmps) hdst (h1 := h1) (h := h2) (e := e) (by rw [← hsp]; exact D.wf) hth (by rw [← hsp]; exact fun x hx => (hop x hx).1) D.cl hn hdir (by rw [← hsp]; exact D.i1) (by rw [← hsp]; exact D.i2)
  have hwanted := wanted_at ag hwn
  have hT : TR κ G e.Ti a.eval := TR.of hG (fun t v hv => by
    rw [hTi] at hv
    obtain ⟨g1, g2⟩ := restr_get hv
    exact ag t g1 v g2)
  have nodef : opKind e.o.op ≠ 3 → ∀ c, e.o.op ≠ .defer c := by
    intro hk c hc
    rw [hc] at hk
    exact hk rfl
  have same : ∀ (hk : opKind e.o.op ≠ 3), e.wn = true → aquiet P G e.Ti M nx e.o.op = some (e.v, M, nx) → (Region.wanted e.o (yielded ops a.tmps) = true ∧ (∀ c, e.o.op ≠ .defer c) ∧ ∃ κ' u w', (execOp a.eval e.o).run P w = .ok (.value u) w' ∧ Post w0 ι M0 nx0 w00 κ' M nx w' ∧ Ext κ κ' ∧ VR κ' e.v u ∧
      (∀ e' ∈ hist, ¬ C e'.s.i → isNew e' → e'.s.i ≠ e.s.i → ∀ b, b / 256 = e'.n → κ' b = none)) := by
    intro hk hw1 hq
    obtain ⟨κ', u, w', r1, r2, r3⟩ := run_aquiet hp.rel hT e.o (fun b g1 g2 => by omega) hq
    refine ⟨by rw [hwanted, hw1], nodef hk, κ', u, w', r1, hp.trans (hf0.to _) r2, r2.ext, r3, fun x hx hcx hnx hne b hb => ?_⟩
    obtain ⟨g1, g2, g3⟩ := D.rg x hx hcx hnx
    cases hz : κ' b with
    | none => rfl
    | some l => have := (r2.new b l (g3 b hb) hz).1; omega
  rcases D.we e he hn with ⟨hw0, hv⟩ | ⟨hw1, hk, M3, n3, M4, n4, hq⟩ | ⟨hw1, hk, hmem⟩ | ⟨hw1, hk, vs, M3, hmem, hq⟩
  · exact .inl ⟨by rw [hwanted, hw0], hv⟩
  · exact .inr (same (by omega) hw1 ((aquiet_k0 hk hq).2.2 M nx))
  · rcases watch_rd (hwok _ hmem) with hb | ⟨M4, n4, hq⟩
    · exact absurd (D.lmc _ hb) hn
    · exact .inr (same (by omega) hw1 ((aquiet_k1 hk hq).2.2 nx))
  · rcases watch_new (hwok _ hmem) with hb | hMn
    · exact absurd (D.lmc _ hb) hn
    · obtain ⟨x, hx1, hx2, hall⟩ := aquiet_k2 hk hq
      have hq2 := hall M
      obtain ⟨g1, g2, g3⟩ := D.rg e he hn ⟨hw1, hk⟩
      obtain ⟨κ', u, w', r1, r2, r3⟩ := run_aquiet hp.rel hT e.o (fun b k1 k2 => g3 b (by omega)) hq2
      have hxv : x = .cells false vs := by
        have := congrArg (fun m => m.get e.n) hx1
        simp only [Tr.get_set_same, Option.some.injEq] at this
        exact this.symm
      have hsame : ∀ k, M.get k = (M.set e.n x).get k := by
        intro k
        by_cases ek : k = e.n
        · subst ek; rw [Tr.get_set_same, hxv]; exact hMn
        · rw [Tr.get_set_ne _ _ ek]
      refine .inr ⟨by rw [hwanted, hw1], nodef (by omega), κ', u, w', r1, Post.late hf0 hp r2 g1 g2 hsame, r2.ext, r3, fun y hy hcy hny hne b hb => ?_⟩
      obtain ⟨k1, k2, k3⟩ := D.rg y hy hcy hny
      cases hz : κ' b with
      | none => rfl
      | some l =>
        have := (r2.new b l (k3 b hb) hz).1
        exact absurd (D.al y hy e he hcy hn hny ⟨hw1, hk⟩ (by omega)) hne

theorem DI.all {tmps : Array Value} (hdst : dstsApart ops.toList = true) (D : DI P G ops nt T0 nx0 hist C κ tmps nx ws lm) (h : ∀ e ∈ hist, C e.s.i) : TmR κ nt (tmpsOf T0 hist) tmps := by
  refine ⟨D.size, fun t v hv => ?_⟩
  by_cases hex : ∃ x ∈ hist, x.o.dst = some t
  · obtain ⟨x, hx, hxt⟩ := hex
    rw [tmpsOf_mem hdst D.wf D.ht x hx t hxt] at hv
    simp only [Option.some.injEq] at hv; subst hv
    exact D.i1 x hx (h x hx) t hxt
  · rw [tmpsOf_none (fun x hx hxt => hex ⟨x, hx, hxt⟩)] at hv
    exact D.i2 t v hv (fun x hx _ hxt => hex ⟨x, hx, hxt⟩)

theorem delDsts_get {T : Tr Value} {t : Tmp} {v : Value} : ∀ {l : List Oper}, (delDsts T l).get t = some v → T.get t = some v ∧ ∀ o ∈ l, o.dst ≠ some t
  | [], h => ⟨h, by simp⟩
  | o :: rest, h => by
    simp only [delDsts] at h
    split at h
    · rename_i hd
      obtain ⟨h1, h2⟩ := delDsts_get h
      refine ⟨h1, fun p hp => ?_⟩
      rcases List.mem_cons.1 hp with rfl | hp
      · rw [hd]; simp
      · exact h2 p hp
    · rename_i d hd
      rw [Tr.get_del] at h
      split at h
      · cases h
      · rename_i hne
        obtain ⟨h1, h2⟩ := delDsts_get h
        refine ⟨h1, fun p hp => ?_⟩
        rcases List.mem_cons.1 hp with rfl | hp
        · rw [hd]; simp only [ne_eq, Option.some.injEq]; exact fun e => hne e.symm
        · exact h2 p hp
theorem DI.lost {tmps : Array Value} (D : DI P G ops nt T0 nx0 hist C κ tmps nx ws lm) : TmR κ nt (delDsts T0 ops.toList) tmps := by
  refine ⟨D.size, fun t v hv => ?_⟩
  obtain ⟨h1, h2⟩ := delDsts_get hv
  refine D.i2 t v h1 (fun x hx _ => h2 x.o ?_)
  have := (HT.op D.ht x hx).1
  exact List.mem_of_getElem? (by simpa using this)

/-- The oldest one that is listed and not done is ready. -/
theorem oldest {C : Nat → Prop} : ∀ {l : List PStep}, WF ops l → (∀ p ∈ l, C p.i) ∨ ∃ p ∈ l, ¬ C p.i ∧ ∃ o, ops[p.i]? = some o ∧ ∀ e ∈ directs o, C e
  | [], _ => .inl (by simp)
  | s :: acc, h => by
    rcases oldest (C := C) h.1 with h1 | ⟨p, hp, h1⟩
    · by_cases hs : C s.i
      · left
        intro p hp
        rcases List.mem_cons.1 hp with e | hp
        · rw [e]; exact hs
        · exact h1 p hp
      · obtain ⟨_, o, ho, _, _, h4, _⟩ := h
        refine .inr ⟨s, by simp, hs, o, ho, fun e he => ?_⟩
        obtain ⟨p, hp, hpe⟩ := h4 e he
        rw [← hpe]; exact h1 p hp
    · exact .inr ⟨p, List.mem_cons_of_mem _ hp, h1⟩
end
end Go.Proofs.YtjbanjpklgpenaaGreatDoor.Vm
