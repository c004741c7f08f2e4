/-
  THE ABSTRACT INTERPRETER, part Y: package variables that are laid; a whole call; the two functions without a body.
-/
import Derived.Test.YtjbanjpklgpenaaGreatDoorVmX
import GoSem.ClaimJoined
import Derived.Laws.Externs
namespace Go.Proofs.YtjbanjpklgpenaaGreatDoor.Vm

/-! ### the cells that a reading forces -/
def glueF (P : Program) (rec : TypeId → DataW Unit → Option (List Value)) : Nat → List (Nat × TypeId) → List (DataW Unit) → Option (Nat × List Value)
  | o, [], [] => some (o, [])
  | o, (o', t) :: ps, d :: ds => if o' = o then match rec t d with
      | some v => (match glueF P rec (o + P.cellsOf t) ps ds with
        | some (e, r) => some (e, v ++ r)
        | none => none)
      | none => none
    else none
  | _, _, _ => none
def cellsFor (P : Program) : Nat → TypeId → DataW Unit → Option (List Value)
  | 0, _, _ => none
  | f + 1, t, d => match P.underlying t, d with
    | some (.int k), .lit (.int _ n) => some [.int k n]
    | some .string, .lit (.string l) => some [.string ⟨l.toArray⟩]
    | some (.struct fs), .agg ds => (match glueF P (cellsFor P f) 0 (fs.toList.map fun g => (g.offset, g.type)) ds with
      | some (e, r) => if e = P.cellsOf t then some r else none
      | none => none)
    | some (.array n e), .agg ds => (match glueF P (cellsFor P f) 0 ((List.range n).map fun i => (i * P.cellsOf e, e)) ds with
      | some (z, r) => if z = P.cellsOf t then some r else none
      | none => none)
    | _, _ => none

theorem glueF_spec {P : Program} {w : World} {sp : Nat → Bool} {fuel : Nat} {rec : TypeId → DataW Unit → Option (List Value)} (hrec : ∀ t d vs cs p, rec t d = some vs → DataW.trod (fun _ => ()) P w 0 sp false fuel t cs = some (d, p) → cs = vs) (cs : List Value) :
    ∀ (ps : List (Nat × TypeId)) (ds : List (DataW Unit)) (o e : Nat) (vs : List Value) (xs : List (DataW Unit × List MemPlace)), glueF P rec o ps ds = some (e, vs) → e = cs.length →
      ps.mapM (fun p => DataW.trod (fun _ => ()) P w 0 sp false fuel p.2 ((cs.drop p.1).take (P.cellsOf p.2))) = some xs → xs.map (·.1) = ds → cs.drop o = vs
  | [], ds, o, e, vs, xs, h, he, hx, hd => by
    simp at hx; subst hx
    simp at hd; subst hd
    simp only [glueF, Option.some.injEq, Prod.mk.injEq] at h
    obtain ⟨rfl, rfl⟩ := h
    subst he
    simp
  | (o', t) :: ps, ds, o, e, vs, xs, h, he, hx, hd => by
    simp only [List.mapM_cons, Option.bind_eq_bind, Option.pure_def] at hx
    cases h1 : DataW.trod (fun _ => ()) P w 0 sp false fuel t ((cs.drop o').take (P.cellsOf t)) with
    | none => rw [h1] at hx; simp at hx
    | some y =>
      rw [h1] at hx
      simp only [Option.bind_some] at hx
      cases h2 : ps.mapM (fun p => DataW.trod (fun _ => ()) P w 0 sp false fuel p.2 ((cs.drop p.1).take (P.cellsOf p.2))) with
      | none => rw [h2] at hx; simp at hx
      | some ys =>
        rw [h2] at hx
        simp at hx; subst hx
        simp at hd; subst hd
        simp only [glueF] at h
        split at h
        · rename_i eo
          subst eo
          split at h
          · rename_i v hv
            split at h
            · rename_i e' r hr
              simp only [Option.some.injEq, Prod.mk.injEq] at h
              obtain ⟨rfl, rfl⟩ := h
              have ih := glueF_spec hrec cs ps _ _ _ _ ys hr he h2 rfl
              have hv2 := hrec t y.1 v _ y.2 hv (by rw [h1])
              rw [← ih, ← hv2, ← List.drop_drop, List.take_append_drop]
            · cases h
          · cases h
        · cases h

theorem cellsFor_spec {P : Program} {w : World} {sp : Nat → Bool} : ∀ (f : Nat) (t : TypeId) (d : DataW Unit) (vs : List Value) (fuel : Nat) (cs : List Value) (p : List MemPlace), cellsFor P f t d = some vs → DataW.trod (fun _ => ()) P w 0 sp false fuel t cs = some (d, p) → cs = vs
  | 0, t, d, vs, fuel, cs, p, h, ht => by cases h
  | f + 1, t, d, vs, 0, cs, p, h, ht => by simp [DataW.trod] at ht
  | f + 1, t, d, vs, fuel + 1, cs, p, h, ht => by
    unfold cellsFor at h
    split at h
    · rename_i k k' n hu
      simp at h; subst h
      unfold DataW.trod at ht
      rw [hu] at ht
      simp only at ht
      split at ht <;> simp_all
    · rename_i l hu
      simp at h; subst h
      unfold DataW.trod at ht
      rw [hu] at ht
      simp only at ht
      split at ht <;> simp_all
      rename_i s _
      obtain ⟨_, h1, _⟩ := ht
      subst h1
      simp
    · rename_i fs ds hu
      split at h
      · rename_i e r hr
        split at h
        · rename_i hee
          simp at h; subst h
          unfold DataW.trod at ht
          rw [hu] at ht
          simp only at ht
          split at ht
          · rename_i hlen
            cases hx : fs.toList.mapM (fun f => DataW.trod (fun _ => ()) P w 0 sp false fuel f.type ((cs.drop f.offset).take (P.cellsOf f.type))) with
            | none => rw [hx] at ht; simp at ht
            | some xs =>
              rw [hx] at ht
              simp at ht
              have := glueF_spec (P := P) (w := w) (sp := sp) (fuel := fuel) (rec := cellsFor P f) (fun t d vs cs p h1 h2 => cellsFor_spec f t d vs fuel cs p h1 h2) cs _ _ 0 e r xs hr (by rw [hee, hlen]) (by rw [List.mapM_map]; exact hx) ht.1
              simpa using this
          · cases ht
        · cases h
      · cases h
    · rename_i n e ds hu
      split at h
      · rename_i z r hr
        split at h
        · rename_i hee
          simp at h; subst h
          unfold DataW.trod at ht
          rw [hu] at ht
          simp only at ht
          split at ht
          · rename_i hlen
            cases hx : (List.range n).mapM (fun i => DataW.trod (fun _ => ()) P w 0 sp false fuel e ((cs.drop (i * P.cellsOf e)).take (P.cellsOf e))) with
            | none => rw [hx] at ht; simp at ht
            | some xs =>
              rw [hx] at ht
              simp at ht
              have := glueF_spec (P := P) (w := w) (sp := sp) (fuel := fuel) (rec := cellsFor P f) (fun t d vs cs p h1 h2 => cellsFor_spec f t d vs fuel cs p h1 h2) cs _ _ 0 z r xs hr (by rw [hee, hlen]) (by rw [List.mapM_map]; exact hx) ht.1
              simpa using this
          · cases ht
        · cases h
      · cases h
    · cases h

/-- A laid variable's block. -/
theorem laid_cells {P : Program} {W : World} {n : String} {d : DataW Unit} {g : Nat} {t : TypeId} {vs : List Value} {f : Nat} (hg : P.globalNamed n = some g) (ht : (P.globals[g]?).map (·.type) = some t) (hc : cellsFor P f t d = some vs) (hne : vs ≠ []) :
    ∀ {l : List (String × DataW Unit)} {ps : List MemPlace}, (n, d) ∈ l → DataW.LaidVars P W l ps → (∀ b off, MemPlace.cell b off ∈ ps → ∃ c t, W.heap[b]? = some (.cells c t (0, 0))) → ∃ arr ty, W.heap[g]? = some (.cells arr ty (0, 0)) ∧ arr.toList = vs
  | (m, e) :: l, ps, hm, h, hp => by
    obtain ⟨g', t', cs, fuel, p, q, h1, h2, h3, h4, h5, rfl⟩ := h
    rcases List.mem_cons.1 hm with hm | hm
    · injection hm with hm1 hm2
      subst hm1; subst hm2
      rw [hg] at h1; injection h1 with h1; subst h1
      rw [ht] at h2; injection h2 with h2; subst h2
      have hcs := cellsFor_spec f t d vs fuel cs.toList p hc h4
      have hsz : 0 < cs.size := by
        rw [← Array.length_toList, hcs]
        exact List.length_pos_iff.2 hne
      obtain ⟨c, ty, hh⟩ := hp g 0 (by simp [MemPlace.row]; exact .inl hsz)
      refine ⟨c, ty, hh, ?_⟩
      have : W.var? P n = some c := by simp [World.var?, hg, hh]
      rw [h3] at this; injection this with this
      rw [← this]; exact hcs
    · exact laid_cells hg ht hc hne hm h5 (fun b off hb => hp b off (by simp [hb]))
end Go.Proofs.YtjbanjpklgpenaaGreatDoor.Vm
