/-
  THE ABSTRACT INTERPRETER, part 7: a call that was run by itself, from few blocks, is known where it is met again.
-/
import Derived.Test.YtjbanjpklgpenaaGreatDoorVm2
namespace Go.Proofs.YtjbanjpklgpenaaGreatDoor.Vm

/-- A call that knows few blocks does the same among more of them. -/
theorem Post.wider {w0 : World} {ι κ : Iota} {M M0 M0' M1 : Tr Blk} {nx nx' : Nat} {w w' : World} (hR : R w0 ι M w) (hsub : ∀ n x, M0.get n = some x → M.get n = some x) (hlive : ∀ n x, M0.get n = some x → x.isDead = false) (hf : FreshU ι nx)
    (hp : Post w0 ι M0 nx w κ M0' nx' w') (hM1 : ∀ n x, M1.get n = some x → M0'.get n = some x ∨ (M.get n = some x ∧ M0.get n = none ∧ n < nx)) : Post w0 ι M nx w κ M1 nx' w' := by
  have old : ∀ b l, b / 256 < nx → κ b = some l → ι b = some l := by
    intro b l hb hk
    cases hi : ι b with
    | none => have := (hp.new b l hi hk).1; omega
    | some l' => have := hp.ext b l' hi; rw [hk] at this; rw [this]
  have blk : ∀ b x l, M.get (b / 256) = some x → ι b = some l → l.blk < w.heap.size := by
    intro b x l hm hi
    obtain ⟨o, h1, _⟩ := hR.live b x l hm hi
    exact (Array.getElem?_eq_some_iff.1 h1).1
  -- a block that lies as the call left it lies nowhere where one lies that the call did not know
  have apart : ∀ b b' x x' l l', M0'.get (b / 256) = some x → x.isDead = false → κ b = some l → M.get (b' / 256) = some x' → M0.get (b' / 256) = none → b' / 256 < nx → x'.isDead = false → κ b' = some l' → l.blk = l'.blk → False := by
    intro b b' x x' l l' hx hxd hk hx' hn' hlt hxd' hk' e
    have hi' := old b' l' hlt hk'
    cases hi : ι b with
    | none =>
      rcases (hp.new b l hi hk).2 with h | ⟨b2, x2, l2, g1, g2, g3⟩
      · have := blk b' x' l' hx' hi'; omega
      · have h2 := hR.inj b2 b' x2 x' l2 l' (hsub _ _ g1) hx' (hlive _ _ g1) hxd' g2 hi' (by omega)
        subst h2
        rw [g1] at hn'; cases hn'
    | some l2 =>
      have := hp.ext b l2 hi
      rw [hk] at this; simp at this; subst this
      rcases hp.dom (b / 256) (by rw [hx]; simp) with h | ⟨h, _⟩
      · cases hm : M0.get (b / 256) with
        | none => exact h hm
        | some y =>
          have h2 := hR.inj b b' y x' l l' (hsub _ _ hm) hx' (hlive _ _ hm) hxd' hi hi' e
          subst h2
          rw [hm] at hn'; cases hn'
      · rw [hf b h] at hi; cases hi
  refine ⟨hp.ext, ?_, ?_, hp.le, ⟨hp.rel.kinds, hp.rel.uniq, ?_, ?_, ?_, hp.rel.size, hp.rel.old, hp.rel.os, hp.rel.output, hp.rel.tape⟩, ?_, hp.size⟩
  · intro b l hi hk
    obtain ⟨h1, h2⟩ := hp.new b l hi hk
    refine ⟨h1, h2.imp_right ?_⟩
    rintro ⟨b', x', l', g1, g2, g3⟩
    exact ⟨b', x', l', hsub _ _ g1, g2, g3⟩
  · intro n hn
    cases hm : M1.get n with
    | none => exact absurd hm hn
    | some x =>
      rcases hM1 n x hm with h | ⟨h, _, _⟩
      · rcases hp.dom n (by rw [h]; simp) with g | g
        · left
          intro hmn
          cases hm0 : M0.get n with
          | none => exact g hm0
          | some y => rw [hsub n y hm0] at hmn; cases hmn
        · exact .inr g
      · exact .inl (by rw [h]; simp)
  · intro b x l hm hk
    rcases hM1 _ x hm with h | ⟨h, hn, hlt⟩
    · exact hp.rel.live b x l h hk
    · have hi := old b l hlt hk
      obtain ⟨o, h1, h2⟩ := hR.live b x l h hi
      have hb := blk b x l h hi
      cases hd : x.isDead with
      | true =>
        obtain ⟨o', ho'⟩ : ∃ o', w'.heap[l.blk]? = some o' := ⟨_, Array.getElem?_eq_getElem (Nat.lt_of_lt_of_le hb hp.size)⟩
        cases x <;> simp [Blk.isDead] at hd
        exact ⟨o', ho', .dead _ _⟩
      | false =>
        refine ⟨o, ?_, h2.mono hp.ext⟩
        rw [hp.frame l.blk hb (fun b' x' l' g1 g2 e => ?_)]
        · exact h1
        · have h2 := hR.inj b' b x' x l' l (hsub _ _ g1) h (hlive _ _ g1) hd g2 hi e
          subst h2
          rw [g1] at hn; cases hn
  · intro b b' x x' l l' hm hm' hd hd' hk hk' e
    rcases hM1 _ x hm with h | ⟨h, hn, hlt⟩ <;> rcases hM1 _ x' hm' with h' | ⟨h', hn', hlt'⟩
    · exact hp.rel.inj b b' x x' l l' h h' hd hd' hk hk' e
    · exact (apart b b' x x' l l' h hd hk h' hn' hlt' hd' hk' e).elim
    · exact (apart b' b x' x l' l h' hd' hk' h hn hlt hd hk e.symm).elim
    · exact hR.inj b b' x x' l l' h h' hd hd' (old b l hlt hk) (old b' l' hlt' hk') e
  · intro b x l hm hw hk
    rcases hM1 _ x hm with h | ⟨h, hn, hlt⟩
    · exact hp.rel.own b x l h hw hk
    · exact hR.own b x l h hw (old b l hlt hk)
  · intro c hc hnot
    exact hp.frame c hc (fun b x l hm hi => hnot b x l (hsub _ _ hm) hi)

theorem R.fewer {w0 : World} {ι : Iota} {M M0 : Tr Blk} {w : World} (h : R w0 ι M w) (hsub : ∀ n x, M0.get n = some x → M.get n = some x) : R w0 ι M0 w :=
  ⟨h.kinds, h.uniq, fun b x l hm hi => h.live b x l (hsub _ _ hm) hi, fun b b' x x' l l' h1 h2 h3 h4 h5 h6 => h.inj b b' x x' l l' (hsub _ _ h1) (hsub _ _ h2) h3 h4 h5 h6, fun b x l h1 h2 h3 => h.own b x l (hsub _ _ h1) h2 h3, h.size, h.old, h.os, h.output, h.tape⟩

theorem Fin.memory {P : Program} {κ : Iota} {b : Frame} {dk : Bool} {m : Machine} {cs : List Frame} {w' : World} {v : Value} {up up' : FrameMode} {M M' : Tr Blk} {nx nx' : Nat} (h : Fin P κ b dk none m cs w' (.ret v up M nx)) (hd : dk = false) : Fin P κ b dk none m cs w' (.ret v up' M' nx') := by
  subst hd
  cases h with
  | ret hr hs ha hfn hres hv hcs => exact .ret hr hs ha hfn hres hv hcs
  | round hr => exact absurd rfl hr

theorem Sound.wider {P : Program} {G : Nat} {w0 : World} {fr : Fr} {v : Value} {up up' : FrameMode} {M M0' M1 : Tr Blk} {nx' : Nat} (hs : Sound P G w0 fr (.ret v up M0' nx')) (hdk : fr.dk = false) (hrnd : fr.rnd = none) (hsub : ∀ n x, fr.M.get n = some x → M.get n = some x)
    (hlive : ∀ n x, fr.M.get n = some x → x.isDead = false) (hM1 : ∀ n x, M1.get n = some x → M0'.get n = some x ∨ (M.get n = some x ∧ fr.M.get n = none ∧ n < fr.nx)) : Sound P G w0 { fr with M := M } (.ret v up' M1 nx') := by
  intro ι b a mode cs w hR hG hfr hf hno
  obtain ⟨κ, w', h1, h2⟩ := hs ι b a mode cs w (hR.fewer hsub) hG ⟨hfr.fn, hfr.tm, hfr.ds, hfr.mode, hfr.kind, hfr.rnd, hfr.up⟩ hf hno
  refine ⟨κ, w', Post.wider hR hsub hlive hf h1 hM1, ?_⟩
  have h3 : Fin P κ b fr.dk none (lone (atM b a fr.todo mode) cs w) cs w' (.ret v up M0' nx') := by rw [← hrnd]; exact h2
  have h4 := h3.memory (up' := up') (M' := M1) (nx' := nx') hdk
  rw [← hrnd] at h4
  exact h4

/-! ### calls that are known -/
/-- Number, kind (0: a block; 1: one that is not written; 2: a row that may have grown), cells. -/
abbrev Lay := Nat × Nat × List Value
def blkOf (k : Nat) (vs : List Value) : Blk := match k with
  | 0 => .cells false vs
  | 1 => .cells true vs
  | _ => .grow vs
def blkIs (b : Option Blk) (k : Nat) (vs : List Value) : Bool := match b with
  | some (.cells false us) => Nat.beq k 0 && veqL 1000 us vs
  | some (.cells true us) => Nat.beq k 1 && veqL 1000 us vs
  | some (.grow us) => Nat.beq k 2 && veqL 1000 us vs
  | _ => false
theorem blkIs_eq {b : Option Blk} {k : Nat} {vs : List Value} (h : blkIs b k vs = true) : b = some (blkOf k vs) := by
  unfold blkIs at h
  split at h
  · simp only [Bool.and_eq_true, Nat.beq_eq] at h; obtain ⟨rfl, h⟩ := h; rw [veqL_eq h]; rfl
  · simp only [Bool.and_eq_true, Nat.beq_eq] at h; obtain ⟨rfl, h⟩ := h; rw [veqL_eq h]; rfl
  · simp only [Bool.and_eq_true, Nat.beq_eq] at h; obtain ⟨rfl, h⟩ := h; rw [veqL_eq h]; rfl
  · cases h
noncomputable def layAll : List Lay → Tr Blk → Tr Blk
  | [], T => T
  | (n, k, vs) :: r, T => layAll r (T.set n (blkOf k vs))
theorem layAll_get : ∀ (l : List Lay) (T : Tr Blk) (n : Nat) (x : Blk), (layAll l T).get n = some x → (∃ k vs, (n, k, vs) ∈ l ∧ x = blkOf k vs) ∨ T.get n = some x
  | [], T, n, x, h => .inr h
  | (m, k, vs) :: r, T, n, x, h => by
    rcases layAll_get r _ n x h with ⟨k', vs', h1, h2⟩ | h1
    · exact .inl ⟨k', vs', List.mem_cons_of_mem _ h1, h2⟩
    · by_cases e : n = m
      · subst e
        rw [Tr.get_set_same] at h1
        simp at h1
        exact .inl ⟨k, vs, List.mem_cons_self, h1.symm⟩
      · rw [Tr.get_set_ne _ _ e] at h1
        exact .inr h1
noncomputable def keepOf (M : Tr Blk) : List Nat → Tr Blk
  | [] => .nil
  | n :: r => Option.rec (motive := fun _ => Tr Blk) (keepOf M r) (fun x => (keepOf M r).set n x) (M.get n)
theorem keepOf_get (M : Tr Blk) : ∀ (l : List Nat) (n : Nat) (x : Blk), (keepOf M l).get n = some x → n ∈ l ∧ M.get n = some x
  | [], n, x, h => by simp [keepOf, Tr.get_nil] at h
  | m :: r, n, x, h => by
    unfold keepOf at h
    cases hm : M.get m with
    | none =>
      rw [hm] at h
      obtain ⟨h1, h2⟩ := keepOf_get M r n x h
      exact ⟨List.mem_cons_of_mem _ h1, h2⟩
    | some y =>
      rw [hm] at h
      have h' : ((keepOf M r).set m y).get n = some x := h
      by_cases e : n = m
      · subst e
        rw [Tr.get_set_same] at h'
        simp at h'; subst h'
        exact ⟨List.mem_cons_self, hm⟩
      · rw [Tr.get_set_ne _ _ e] at h'
        obtain ⟨h1, h2⟩ := keepOf_get M r n x h'
        exact ⟨List.mem_cons_of_mem _ h1, h2⟩

/-- A call: its function, its arguments, the first number of what it makes, the blocks that it reads, the others that are kept; what it answers, the blocks of that, the first number behind it. -/
structure Sm where
  f : FuncId
  as : List Value
  nx : Nat
  ins : List Lay
  keep : List Nat
  v : Value
  outs : List Lay
  nx' : Nat
noncomputable def Sm.ends (s : Sm) : Option Res → Bool
  | some (.ret v _ M nx) => veq 1000 v s.v && Nat.beq nx s.nx' && s.outs.all (fun o => blkIs (M.get o.1) o.2.1 o.2.2) && s.ins.all (fun o => blkIs (M.get o.1) o.2.1 o.2.2)
  | _ => false
/-- The call by itself does as is said. -/
noncomputable def Sm.ran (P : Program) (X : Exts) (G n : Nat) (s : Sm) : Bool := match enterFr P s.f s.as false .run (layAll s.ins .nil) s.nx with
  | some fr => s.ends (callOf (vrunR P X G n) fr)
  | none => false
noncomputable def Sm.sm (s : Sm) (f : FuncId) (as : List Value) (M : Tr Blk) (nx : Nat) : Option (Value × Tr Blk × Nat) :=
  bif Nat.beq f s.f then (bif Nat.beq nx s.nx && veqL 1000 as s.as && s.ins.all (fun o => blkIs (M.get o.1) o.2.1 o.2.2) && s.keep.all (fun n => Nat.blt n s.nx) then some (s.v, layAll s.outs (keepOf M s.keep), s.nx') else none) else none
noncomputable def Exts.know (X : Exts) (s : Sm) : Exts := ⟨X.fn, fun f as M nx => Option.rec (motive := fun _ => Option (Value × Tr Blk × Nat)) (X.sm f as M nx) some (s.sm f as M nx)⟩

theorem Sm.sound {P : Program} {X : Exts} (hm : P.follows .mixedOrders = true) {G n : Nat} {w0 : World} (hX : XOk P G w0 X) (hF : FOk P) {s : Sm} (h : s.ran P X G n = true) {f : FuncId} {as : List Value} {M : Tr Blk} {nx : Nat} {v : Value} {M' : Tr Blk} {nx' : Nat}
    (hs : s.sm f as M nx = some (v, M', nx')) : ∃ fr, enterFr P f as false .run M nx = some fr ∧ Sound P G w0 fr (.ret v .run M' nx') := by
  unfold Sm.sm at hs
  obtain ⟨hf, hs⟩ := cond_someK hs
  obtain ⟨hc, hs⟩ := cond_some hs
  simp only [Prod.mk.injEq] at hs
  obtain ⟨rfl, rfl, rfl⟩ := hs
  simp only [Bool.and_eq_true, Nat.beq_eq, List.all_eq_true, Nat.blt_eq] at hc
  obtain ⟨⟨⟨rfl, has⟩, hins⟩, hkeep⟩ := hc
  have hf' := Nat.eq_of_beq_eq_true hf
  subst hf'
  have has' := veqL_eq has
  subst has'
  unfold Sm.ran at h
  split at h
  · rename_i fr hfr
    rw [vrunR_eq] at h
    unfold Sm.ends at h
    split at h
    · rename_i v up M0' nx0 hr
      simp only [Bool.and_eq_true, Nat.beq_eq, List.all_eq_true] at h
      obtain ⟨⟨⟨h1, rfl⟩, h3⟩, h4⟩ := h
      have h1' := veq_eq h1
      subst h1'
      have hsound := (vrun_sound (w0 := w0) hX hF (draws hm hX hF) n fr _ hr).sound
      have hfr' : enterFr P s.f s.as false .run M s.nx = some { fr with M := M } ∧ fr.dk = false ∧ fr.rnd = none ∧ fr.M = layAll s.ins .nil ∧ fr.nx = s.nx := by
        unfold enterFr at hfr ⊢
        split at hfr
        · split at hfr
          · simp at hfr; subst hfr; exact ⟨rfl, rfl, rfl, rfl, rfl⟩
          · cases hfr
        · cases hfr
      obtain ⟨e1, e2, e3, e4, e5⟩ := hfr'
      refine ⟨_, e1, hsound.wider e2 e3 ?_ ?_ ?_⟩
      · intro n x hx
        rw [e4] at hx
        rcases layAll_get _ _ _ _ hx with ⟨k, vs, g1, rfl⟩ | g
        · exact blkIs_eq (hins _ g1)
        · simp [Tr.get_nil] at g
      · intro n x hx
        rw [e4] at hx
        rcases layAll_get _ _ _ _ hx with ⟨k, vs, g1, rfl⟩ | g
        · unfold blkOf; split <;> rfl
        · simp [Tr.get_nil] at g
      · intro n x hx
        rcases layAll_get _ _ _ _ hx with ⟨k, vs, g1, rfl⟩ | g
        · exact .inl (blkIs_eq (h3 _ g1))
        · obtain ⟨g1, g2⟩ := keepOf_get _ _ _ _ g
          rw [e4, e5]
          cases hm0 : (layAll s.ins .nil).get n with
          | none => exact .inr ⟨g2, rfl, hkeep _ g1⟩
          | some y =>
            rcases layAll_get _ _ _ _ hm0 with ⟨k, vs, q1, rfl⟩ | q
            · have a1 := blkIs_eq (hins _ q1)
              have a2 := blkIs_eq (h4 _ q1)
              rw [g2] at a1
              exact .inl (by rw [a2, a1])
            · simp [Tr.get_nil] at q
    · cases h
  · cases h

theorem XOk.know {P : Program} {X X' : Exts} (hm : P.follows .mixedOrders = true) {G : Nat} {w0 : World} (hX : XOk P G w0 X) (hX' : XOk P G w0 X') (hF : FOk P) {s : Sm} {n : Nat} (h : s.ran P X' G n = true) : XOk P G w0 (X.know s) := by
  refine ⟨hX.1, fun f as M nx v M' nx' hs => ?_⟩
  have hs' : Option.rec (motive := fun _ => Option (Value × Tr Blk × Nat)) (X.sm f as M nx) some (s.sm f as M nx) = some (v, M', nx') := hs
  cases hq : s.sm f as M nx with
  | none =>
    rw [hq] at hs'
    exact hX.2 f as M nx v M' nx' hs'
  | some r =>
    rw [hq] at hs'
    have e : r = (v, M', nx') := Option.some.inj hs'
    subst e
    exact Sm.sound hm hX' hF h hq
end Go.Proofs.YtjbanjpklgpenaaGreatDoor.Vm
