/-
  THE ABSTRACT INTERPRETER, part U: quiet operations at other memories; blocks that come late.
-/
import Derived.Test.YtjbanjpklgpenaaGreatDoorVmT
namespace Go.Proofs.YtjbanjpklgpenaaGreatDoor.Vm

theorem restr_get {T : Tr Value} {t : Tmp} {v : Value} : ∀ {ts : List Tmp}, (restr ts T).get t = some v → t ∈ ts ∧ T.get t = some v
  | [], h => by simp [restr, Tr.get_nil] at h
  | s :: ts, h => by
    simp only [restr] at h
    split at h
    · rename_i u hu
      by_cases e : t = s
      · subst e
        rw [Tr.get_set_same] at h
        simp at h; subst h
        exact ⟨by simp, hu⟩
      · rw [Tr.get_set_ne _ _ e] at h
        obtain ⟨h1, h2⟩ := restr_get h
        exact ⟨List.mem_cons_of_mem _ h1, h2⟩
    · obtain ⟨h1, h2⟩ := restr_get h
      exact ⟨List.mem_cons_of_mem _ h1, h2⟩

section
variable {P : Program} {G : Nat} {T : Tr Value} {op : Op} {v : Value} {M M' : Tr Blk} {nx nx' : Nat}

theorem opKind_le : opKind op = 0 ∨ opKind op = 1 ∨ opKind op = 2 ∨ opKind op = 3 := by
  unfold opKind
  split <;> first | simp | (split <;> simp)

theorem aquiet_k0 (hk : opKind op = 0) (h : aquiet P G T M nx op = some (v, M', nx')) : M' = M ∧ nx' = nx ∧ ∀ (M2 : Tr Blk) (n2 : Nat), aquiet P G T M2 n2 op = some (v, M2, n2) := by
  have key : ∀ (o : Option Value), (match o with | some v => some (v, M, nx) | none => none) = some (v, M', nx') → M' = M ∧ nx' = nx ∧ o = some v := by
    intro o ho
    cases o with
    | none => cases ho
    | some u => simp at ho; obtain ⟨rfl, rfl, rfl⟩ := ho; exact ⟨rfl, rfl, rfl⟩
  have fin : (∀ (M2 : Tr Blk) (n2 : Nat), aquiet P G T M2 n2 op = match apure P G T op with | some v => some (v, M2, n2) | none => none) → M' = M ∧ nx' = nx ∧ ∀ (M2 : Tr Blk) (n2 : Nat), aquiet P G T M2 n2 op = some (v, M2, n2) := by
    intro he
    rw [he] at h
    obtain ⟨h1, h2, h3⟩ := key _ h
    exact ⟨h1, h2, fun M2 n2 => by rw [he, h3]⟩
  cases op <;> first | (exfalso; simp [opKind] at hk; done) | exact fin (fun M2 n2 => rfl) | skip
  all_goals (exfalso; revert hk; unfold opKind; split <;> simp_all)

theorem aquiet_k1 (hk : opKind op = 1) (h : aquiet P G T M nx op = some (v, M', nx')) : M' = M ∧ nx' = nx ∧ ∀ (n2 : Nat), aquiet P G T M n2 op = some (v, M, n2) := by
  cases op <;> first | (exfalso; simp [opKind] at hk; done) | skip
  case load t a =>
    simp only [aquiet] at h ⊢
    split at h
    · split at h
      · rename_i x hx r hr
        simp at h; obtain ⟨rfl, rfl, rfl⟩ := h
        exact ⟨rfl, rfl, fun n2 => by simp only [hr]⟩
      · cases h
    · cases h
  case lookup t m k ok =>
    simp only [aquiet] at h ⊢
    split at h
    · split at h
      · rename_i a b ha hb r hr
        simp at h; obtain ⟨rfl, rfl, rfl⟩ := h
        exact ⟨rfl, rfl, fun n2 => by simp only [hr]⟩
      · cases h
    · cases h
  all_goals (exfalso; revert hk; unfold opKind; split <;> first | (simp; done) | (split <;> simp_all; done) | simp_all)

theorem cond_some {α : Type} {c : Bool} {x y : α} (h : (bif c then some x else none) = some y) : c = true ∧ x = y := by
  cases c with
  | false => cases h
  | true => exact ⟨rfl, by simpa using h⟩

theorem aquiet_k2 (hk : opKind op = 2) (h : aquiet P G T M nx op = some (v, M', nx')) : ∃ x, M' = M.set nx x ∧ nx' = nx + 1 ∧ ∀ (M2 : Tr Blk), aquiet P G T M2 nx op = some (v, M2.set nx x, nx + 1) := by
  cases op <;> first | (exfalso; simp [opKind] at hk; done) | skip
  case alloc e =>
    simp only [aquiet, aAlloc] at h ⊢
    split at h
    · rename_i z hz
      simp [aBox] at h; obtain ⟨rfl, rfl, rfl⟩ := h
      exact ⟨_, rfl, rfl, fun M2 => rfl⟩
    · cases h
  case box e x =>
    simp only [aquiet] at h ⊢
    split at h
    · rename_i z hz
      simp [aBox] at h; obtain ⟨rfl, rfl, rfl⟩ := h
      exact ⟨_, rfl, rfl, fun M2 => rfl⟩
    · simp [aBoxU] at h; obtain ⟨rfl, rfl, rfl⟩ := h
      exact ⟨_, rfl, rfl, fun M2 => rfl⟩
  case buildSlice t n ps =>
    simp only [aquiet, aBuildSlice] at h ⊢
    split at h
    · split at h
      · split at h
        · rename_i sz z hsz hz
          generalize hc : (Nat.ble (n * sz) 16777216 && Nat.blt 0 (n * sz) && Nat.blt 0 z.cells.size) = c at h
          cases c with
          | false => simp at h
          | true =>
            simp only [cond_true] at h
            split at h
            · rename_i cells hcells
              simp at h; obtain ⟨rfl, rfl, rfl⟩ := h
              exact ⟨_, rfl, rfl, fun M2 => by simp only [hc, cond_true, hcells]⟩
            · cases h
        · cases h
      · cases h
    · cases h
  case makeSlice t l c =>
    simp only [aquiet] at h ⊢
    split at h
    · unfold aMakeSlice at h ⊢
      split at h
      · split at h
        · obtain ⟨hc, h⟩ := cond_some h
          simp only [Prod.mk.injEq] at h
          obtain ⟨rfl, rfl, rfl⟩ := h
          exact ⟨_, rfl, rfl, fun M2 => by simp only [hc, cond_true]⟩
        · cases h
      · cases h
    · cases h
  all_goals (exfalso; revert hk; unfold opKind; split <;> first | (simp; done) | (split <;> simp_all; done) | simp_all)

theorem watch_rd {i lm : Nat} (h : watchOk P G lm M (.rd i op T v) = true) : Nat.testBit lm i = true ∨ ∃ M' n', aquiet P G T M 0 op = some (v, M', n') := by
  simp only [watchOk, Bool.or_eq_true] at h
  rcases h with h | h
  · exact .inl h
  · split at h
    · rename_i u M' n' hq
      have := veq_eq h
      subst this
      exact .inr ⟨M', n', hq⟩
    · cases h
theorem watch_new {i n lm : Nat} {vs : List Value} (h : watchOk P G lm M (.new i n vs) = true) : Nat.testBit lm i = true ∨ M.get n = some (.cells false vs) := by
  simp only [watchOk, Bool.or_eq_true] at h
  rcases h with h | h
  · exact .inl h
  · split at h
    · rename_i us hq
      have := veqL_eq h
      subst this
      exact .inr hq
    · cases h
end

/-! ### memories that say the same -/
theorem R.congr {w0 : World} {ι : Iota} {M M' : Tr Blk} {w : World} (h : R w0 ι M w) (e : ∀ b l, ι b = some l → M'.get (b / 256) = M.get (b / 256)) : R w0 ι M' w :=
  ⟨h.kinds, h.uniq, fun b x l hm hι => h.live b x l (by rw [← e b l hι]; exact hm) hι,
    fun b b' x x' l l' hm hm' hd hd' hι hι' hb => h.inj b b' x x' l l' (by rw [← e b l hι]; exact hm) (by rw [← e b' l' hι']; exact hm') hd hd' hι hι' hb,
    fun b x l hm hw hι => h.own b x l (by rw [← e b l hι]; exact hm) hw hι, h.size, h.old, h.os, h.output, h.tape⟩

/-- The interpreter's memory has gone on by blocks that are not there yet. -/
theorem Post.widen {w0 : World} {ι κ : Iota} {M M1 M2 : Tr Blk} {nx nx1 nx2 : Nat} {w w1 : World} (h : Post w0 ι M nx w κ M1 nx1 w1) (hf : FreshU κ nx1) (hle : nx1 ≤ nx2) (hs : ∀ k, k < nx1 → M2.get k = M1.get k)
    (hd : ∀ k, M2.get k ≠ none → M1.get k ≠ none ∨ (nx1 ≤ k ∧ k < nx2)) : Post w0 ι M nx w κ M2 nx2 w1 := by
  refine ⟨h.ext, fun b l h1 h2 => ?_, fun n hn => ?_, Nat.le_trans h.le hle, h.rel.congr (fun b l hb => ?_), h.frame, h.size⟩
  · have := h.new b l h1 h2
    exact ⟨⟨this.1.1, Nat.lt_of_lt_of_le this.1.2 hle⟩, this.2⟩
  · rcases hd n hn with h1 | h1
    · rcases h.dom n h1 with h2 | h2
      · exact .inl h2
      · exact .inr ⟨h2.1, Nat.lt_of_lt_of_le h2.2 hle⟩
    · exact .inr ⟨Nat.le_trans h.le h1.1, h1.2⟩
  · refine hs _ ?_
    rcases Nat.lt_or_ge (b / 256) nx1 with h1 | h1
    · exact h1
    · rw [hf b h1] at hb; cases hb

/-- A block comes that the interpreter has long had. -/
theorem Post.late {w0 : World} {ι κ μ : Iota} {M M1 M2 : Tr Blk} {nx nx1 n n2 : Nat} {w w1 w2 : World} (hf : FreshU ι nx) (h : Post w0 ι M nx w κ M1 nx1 w1) (g : Post w0 κ M1 n w1 μ M2 n2 w2) (hn : nx ≤ n) (hn2 : n2 ≤ nx1) (he : ∀ k, M1.get k = M2.get k) :
    Post w0 ι M nx w μ M1 nx1 w2 := by
  have back : ∀ b x l, M1.get (b / 256) = some x → κ b = some l → (∃ x' l', M.get (b / 256) = some x' ∧ ι b = some l' ∧ l'.blk = l.blk) ∨ w.heap.size ≤ l.blk ∨ ∃ b' x' l', M.get (b' / 256) = some x' ∧ ι b' = some l' ∧ l'.blk = l.blk := by
    intro b x l hm hk
    cases hi : ι b with
    | none => exact .inr (h.new b l hi hk).2
    | some l0 =>
      have hl : l0 = l := by have := h.ext b l0 hi; rw [hk] at this; injection this with this; exact this.symm
      subst hl
      rcases h.dom (b / 256) (by rw [hm]; simp) with hd | hd
      · cases hx : M.get (b / 256) with
        | none => exact absurd hx hd
        | some x' => exact .inl ⟨x', l0, rfl, rfl, rfl⟩
      · have := hf b hd.1
        rw [hi] at this; cases this
  refine ⟨h.ext.trans g.ext, ?_, h.dom, h.le, g.rel.congr (fun b l _ => he _), ?_, Nat.le_trans h.size g.size⟩
  · intro b l hi hm
    cases hk : κ b with
    | some l' =>
      have hl : l' = l := by have := g.ext b l' hk; rw [hm] at this; injection this with this; exact this.symm
      subst hl
      exact h.new b l' hi hk
    | none =>
      have := g.new b l hk hm
      refine ⟨⟨Nat.le_trans hn this.1.1, Nat.lt_of_lt_of_le this.1.2 hn2⟩, ?_⟩
      rcases this.2 with hs | ⟨b', x', l', h1, h2, h3⟩
      · exact .inl (Nat.le_trans h.size hs)
      · rcases back b' x' l' h1 h2 with ⟨x2, l2, k1, k2, k3⟩ | hs | ⟨b2, x2, l2, k1, k2, k3⟩
        · exact .inr ⟨b', x2, l2, k1, k2, k3.trans h3⟩
        · exact .inl (by omega)
        · exact .inr ⟨b2, x2, l2, k1, k2, k3.trans h3⟩
  · intro c hc hnot
    rw [g.frame c (Nat.lt_of_lt_of_le hc h.size) ?_, h.frame c hc hnot]
    intro b x l hm hk
    rcases back b x l hm hk with ⟨x2, l2, k1, k2, k3⟩ | hs | ⟨b2, x2, l2, k1, k2, k3⟩
    · exact fun e => hnot b x2 l2 k1 k2 (k3.trans e)
    · omega
    · exact fun e => hnot b2 x2 l2 k1 k2 (k3.trans e)
end Go.Proofs.YtjbanjpklgpenaaGreatDoor.Vm
