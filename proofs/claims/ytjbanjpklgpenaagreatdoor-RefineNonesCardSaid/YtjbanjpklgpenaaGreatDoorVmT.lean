/-
  THE ABSTRACT INTERPRETER, part T: what the listing of a drawn region is worth; quiet operations at other memories; blocks that come late.
-/
import Derived.Test.YtjbanjpklgpenaaGreatDoorVmS
namespace Go.Proofs.YtjbanjpklgpenaaGreatDoor.Vm

/-! ### who waits for whom -/
inductive Pre (ops : Array Oper) : Nat → Nat → Prop
  | here {i e : Nat} {o : Oper} (ho : ops[i]? = some o) (he : e ∈ directs o) : Pre ops e i
  | there {i e j : Nat} {o : Oper} (ho : ops[i]? = some o) (he : e ∈ directs o) (h : Pre ops j e) : Pre ops j i

theorem mem_directs {o : Oper} {j : Nat} : j ∈ directs o ↔ ∃ e ∈ o.after, Region.binds .any e = true ∧ e.on = j := by
  unfold directs
  rw [List.mem_filterMap]
  constructor
  · rintro ⟨e, he, hx⟩
    cases hb : Region.binds .any e with
    | false => rw [hb] at hx; simp at hx
    | true => rw [hb] at hx; simp at hx; exact ⟨e, by simpa using he, hb, hx⟩
  · rintro ⟨e, he, hb, hx⟩
    exact ⟨e, by simpa using he, by rw [hb]; simpa using hx⟩

theorem lst_iff {acc : List PStep} {j : Nat} : lst acc j = true ↔ ∃ p ∈ acc, p.i = j := by
  unfold lst
  rw [List.any_eq_true]
  constructor
  · rintro ⟨p, hp, h⟩; exact ⟨p, hp, Nat.eq_of_beq_eq_true h⟩
  · rintro ⟨p, hp, h⟩; exact ⟨p, hp, by rw [Nat.beq_eq]; exact h⟩

theorem maskAt_mem : ∀ {acc : List PStep} {e j : Nat}, Nat.testBit (maskAt acc e) j = true → ∃ p ∈ acc, p.i = e ∧ Nat.testBit p.mask j = true
  | [], e, j, h => by simp [maskAt] at h
  | p :: ps, e, j, h => by
    simp only [maskAt] at h
    cases hb : Nat.beq p.i e with
    | true =>
      rw [hb] at h
      exact ⟨p, by simp, Nat.eq_of_beq_eq_true hb, h⟩
    | false =>
      rw [hb] at h
      obtain ⟨q, h1, h2, h3⟩ := maskAt_mem h
      exact ⟨q, List.mem_cons_of_mem _ h1, h2, h3⟩
theorem maskOf_mem {acc : List PStep} {j : Nat} : ∀ {es : List Nat}, Nat.testBit (maskOf acc es) j = true → ∃ e ∈ es, e = j ∨ ∃ p ∈ acc, p.i = e ∧ Nat.testBit p.mask j = true
  | [], h => by simp [maskOf] at h
  | e :: es, h => by
    have h' : Nat.testBit ((2 ^ e ||| maskAt acc e) ||| maskOf acc es) j = true := h
    rw [Nat.testBit_or, Nat.testBit_or, Nat.testBit_two_pow] at h'
    simp only [Bool.or_eq_true, decide_eq_true_eq] at h'
    rcases h' with (h' | h') | h'
    · exact ⟨e, by simp, .inl h'⟩
    · exact ⟨e, by simp, .inr (maskAt_mem h')⟩
    · obtain ⟨e', h1, h2⟩ := maskOf_mem h'
      exact ⟨e', List.mem_cons_of_mem _ h1, h2⟩

/-- What a good listing is (the newest first). -/
def WF (ops : Array Oper) : List PStep → Prop
  | [] => True
  | s :: acc => WF ops acc ∧ ∃ o, ops[s.i]? = some o ∧ s.kind = opKind o.op ∧ (∀ p ∈ acc, p.i ≠ s.i) ∧ (∀ e ∈ directs o, ∃ p ∈ acc, p.i = e) ∧
      (∀ j, Nat.testBit s.mask j = true → Pre ops j s.i) ∧ (∀ p ∈ acc, Pre ops p.i s.i ∨ ∃ q, ops[p.i]? = some q ∧ Oper.apart ops q o = true) ∧
      (s.kind = 3 → ∀ j q, ops[j]? = some q → (∀ p ∈ acc, p.i ≠ j) → j ≠ s.i → ∃ e ∈ directs q, ∀ p ∈ acc, p.i ≠ e)

theorem WF.masks {ops : Array Oper} : ∀ {acc : List PStep}, WF ops acc → ∀ p ∈ acc, ∀ j, Nat.testBit p.mask j = true → Pre ops j p.i
  | s :: acc, h, p, hp, j, hj => by
    rcases List.mem_cons.1 hp with e | hp
    · subst e
      obtain ⟨_, o, _, _, _, _, h5, _⟩ := h
      exact h5 j hj
    · exact WF.masks h.1 p hp j hj

theorem wfb_wf {ops : Array Oper} : ∀ {acc : List PStep}, wfb ops acc = true → WF ops acc
  | [], _ => trivial
  | s :: acc, h => by
    simp only [wfb, Bool.and_eq_true] at h
    obtain ⟨h0, h⟩ := h
    have ih := wfb_wf h0
    split at h
    · cases h
    · rename_i o ho
      simp only [Bool.and_eq_true, Bool.or_eq_true, Bool.not_eq_true', List.all_eq_true] at h
      obtain ⟨⟨⟨⟨⟨h1, h2⟩, h3⟩, h4⟩, h5⟩, h6⟩ := h
      have hnl : ∀ j, lst acc j = false → ∀ p ∈ acc, p.i ≠ j := fun j hj p hp e => by
        have := lst_iff.2 ⟨p, hp, e⟩
        rw [hj] at this; cases this
      refine ⟨ih, o, ho, Nat.eq_of_beq_eq_true h1, hnl _ h2, fun e he => lst_iff.1 (h3 e he), fun j hj => ?_, fun p hp => ?_, fun hk j q hq hnot hne => ?_⟩
      · rw [Nat.eq_of_beq_eq_true h4] at hj
        obtain ⟨e, he, hx⟩ := maskOf_mem hj
        rcases hx with rfl | ⟨p, hp, rfl, hb⟩
        · exact .here ho he
        · exact .there ho he (ih.masks p hp j hb)
      · rcases h5 p hp with h | h
        · rw [Nat.eq_of_beq_eq_true h4] at h
          obtain ⟨e, he, hx⟩ := maskOf_mem h
          rcases hx with hx | ⟨p', hp', hx, hb⟩
          · subst hx; exact .inl (.here ho he)
          · exact .inl (.there ho he (by rw [← hx]; exact ih.masks p' hp' _ hb))
        · split at h
          · rename_i q hq
            exact .inr ⟨q, hq, h⟩
          · cases h
      · rcases h6 with h6 | h6
        · have : Nat.beq s.kind 3 = true := by rw [Nat.beq_eq]; exact hk
          rw [this] at h6; cases h6
        · have hj : j ∈ List.range ops.size := by rw [List.mem_range]; exact (Array.getElem?_eq_some_iff.1 hq).1
          rcases h6 j hj with (h6 | h6) | h6
          · obtain ⟨p, hp, e⟩ := lst_iff.1 h6
            exact absurd e (hnot p hp)
          · exact absurd (Nat.eq_of_beq_eq_true h6) hne
          · rw [hq] at h6
            simp only [List.any_eq_true, Bool.not_eq_true'] at h6
            obtain ⟨e, he, hx⟩ := h6
            exact ⟨e, he, hnl e hx⟩

theorem plan_spec {ops : Array Oper} {pl : List PStep} (h : plan ops = some pl) : WF ops pl.reverse ∧ ∀ j, j < ops.size → ∃ p ∈ pl, p.i = j := by
  unfold plan at h
  split at h
  · rename_i acc ha
    cases hw : wfb ops acc && whole ops acc with
    | false => rw [hw] at h; simp at h
    | true =>
      rw [hw] at h; simp at h; subst h
      simp only [Bool.and_eq_true] at hw
      refine ⟨by rw [List.reverse_reverse]; exact wfb_wf hw.1, fun j hj => ?_⟩
      have hwh := hw.2
      unfold whole at hwh
      rw [List.all_eq_true] at hwh
      obtain ⟨p, hp, e⟩ := lst_iff.1 (hwh j (List.mem_range.2 hj))
      exact ⟨p, by simpa using hp, e⟩
  · cases h

theorem dsts_apart : ∀ {l : List Oper}, dstsApart l = true → ∀ {i j : Nat} {x y : Oper} {d : Tmp}, l[i]? = some x → l[j]? = some y → x.dst = some d → y.dst = some d → i = j
  | [], _, i, j, x, y, d, hx, _, _, _ => by simp at hx
  | o :: rest, h, i, j, x, y, d, hx, hy, hdx, hdy => by
    simp only [dstsApart, Bool.and_eq_true] at h
    have key : ∀ {i : Nat} {z : Oper}, rest[i]? = some z → z.dst = some d → o.dst ≠ some d := by
      intro i z hz hd he
      have h1 := h.1
      rw [he] at h1
      simp only [List.all_eq_true] at h1
      have := h1 z (List.mem_of_getElem? hz)
      rw [hd] at this
      simp at this
    cases i with
    | zero =>
      cases j with
      | zero => rfl
      | succ j =>
        simp at hx hy; subst hx
        exact absurd hdx (key hy hdy)
    | succ i =>
      cases j with
      | zero =>
        simp at hx hy; subst hy
        exact absurd hdy (key hx hdx)
      | succ j =>
        simp at hx hy
        have := dsts_apart h.2 hx hy hdx hdy
        rw [this]

/-! ### one value, twice -/
theorem veqAddr_eq {a b : Option Addr} (h : veqAddr a b = true) : a = b := by
  unfold veqAddr at h
  split at h
  · rfl
  · simp only [Bool.and_eq_true] at h
    rw [Nat.eq_of_beq_eq_true h.1, Nat.eq_of_beq_eq_true h.2]
  · cases h
mutual
theorem veq_eq : ∀ {n : Nat} {v u : Value}, veq n v u = true → v = u
  | 0, v, u, h => by simp [veq] at h
  | n + 1, v, u, h => by
    unfold veq at h
    split at h
    · simp at h; rw [h]
    · simp only [Bool.and_eq_true, decide_eq_true_eq, eqI_eq, beq_iff_eq] at h; rw [h.1, h.2]
    · rename_i a b
      simp only [beq_iff_eq] at h
      have : a = b := by
        cases a; cases b
        simp only [ByteArray.mk.injEq]
        exact Array.toList_inj.1 h
      rw [this]
    · rw [veqAddr_eq h]
    · simp only [Bool.and_eq_true] at h
      rw [veqAddr_eq h.1.1, Nat.eq_of_beq_eq_true h.1.2, Nat.eq_of_beq_eq_true h.2]
    · rfl
    · rw [Nat.eq_of_beq_eq_true h]
    · rfl
    · rfl
    · simp only [Bool.and_eq_true, decide_eq_true_eq] at h
      rw [h.1.1, Array.toList_inj.1 (veqL_eq h.1.2), Array.toList_inj.1 (veqL_eq h.2)]
    · simp only [Bool.and_eq_true] at h
      rw [Nat.eq_of_beq_eq_true h.1, veq_eq h.2]
    · rw [Array.toList_inj.1 (veqL_eq h)]
    · rw [Array.toList_inj.1 (veqL_eq h)]
    · cases h
theorem veqL_eq : ∀ {n : Nat} {v u : List Value}, veqL n v u = true → v = u
  | n, [], [], h => rfl
  | 0, a :: as, [], h => by simp [veqL] at h
  | 0, [], b :: bs, h => by simp [veqL] at h
  | 0, a :: as, b :: bs, h => by simp [veqL] at h
  | n + 1, a :: as, [], h => by simp [veqL] at h
  | n + 1, [], b :: bs, h => by simp [veqL] at h
  | n + 1, a :: as, b :: bs, h => by
    simp only [veqL, Bool.and_eq_true] at h
    rw [veq_eq h.1, veqL_eq h.2]
end
end Go.Proofs.YtjbanjpklgpenaaGreatDoor.Vm
