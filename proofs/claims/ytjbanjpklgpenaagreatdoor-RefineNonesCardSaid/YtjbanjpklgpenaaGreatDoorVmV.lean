/-
  THE ABSTRACT INTERPRETER, part V: a region that draws its order: what has been listed, what has been done.
-/
import Derived.Test.YtjbanjpklgpenaaGreatDoorVmU
namespace Go.Proofs.YtjbanjpklgpenaaGreatDoor.Vm

structure Ent where
  s : PStep
  o : Oper
  v : Value
  Ti : Tr Value
  wn : Bool
  n : Nat

noncomputable def putD (T : Tr Value) (v : Value) : Option Tmp → Tr Value
  | none => T
  | some d => T.set d v
noncomputable def tmpsOf (T0 : Tr Value) : List Ent → Tr Value
  | [] => T0
  | e :: h => putD (tmpsOf T0 h) e.v e.o.dst

def HT (ops : Array Oper) (nt : Nat) (T0 : Tr Value) : List Ent → Prop
  | [] => True
  | e :: h => HT ops nt T0 h ∧ ops[e.s.i]? = some e.o ∧ (∀ d, e.o.dst = some d → d < nt) ∧ e.Ti = restr (e.o.looksAt ops) (tmpsOf T0 h) ∧ wantedA ops e.o (tmpsOf T0 h) = some e.wn

theorem HT.tail {ops : Array Oper} {nt : Nat} {T0 : Tr Value} : ∀ {a b : List Ent}, HT ops nt T0 (a ++ b) → HT ops nt T0 b
  | [], _, h => h
  | _ :: a, b, h => HT.tail (a := a) h.1
theorem HT.op {ops : Array Oper} {nt : Nat} {T0 : Tr Value} {l : List Ent} (h : HT ops nt T0 l) : ∀ e ∈ l, ops[e.s.i]? = some e.o ∧ (∀ d, e.o.dst = some d → d < nt) := by
  induction l with
  | nil => intro e he; cases he
  | cons x l ih =>
    intro e he
    rcases List.mem_cons.1 he with rfl | he
    · exact ⟨h.2.1, h.2.2.1⟩
    · exact ih h.1 e he
theorem WF.tail {ops : Array Oper} : ∀ {a b : List PStep}, WF ops (a ++ b) → WF ops b
  | [], _, h => h
  | _ :: a, b, h => WF.tail (a := a) h.1

section
variable {ops : Array Oper} {nt : Nat} {T0 : Tr Value}

theorem WF.uniq {l : List Ent} (h : WF ops (l.map (·.s))) : ∀ e ∈ l, ∀ e' ∈ l, e.s.i = e'.s.i → e = e' := by
  induction l with
  | nil => intro e he; cases he
  | cons x l ih =>
    intro e he e' he' hi
    obtain ⟨h0, o, _, _, h3, _⟩ := h
    rcases List.mem_cons.1 he with k1 | k1 <;> rcases List.mem_cons.1 he' with k2 | k2
    · rw [k1, k2]
    · rw [k1] at hi; exact absurd hi.symm (h3 _ (List.mem_map.2 ⟨e', k2, rfl⟩))
    · rw [k2] at hi; exact absurd hi (h3 _ (List.mem_map.2 ⟨e, k1, rfl⟩))
    · exact ih h0 e k1 e' k2 hi

theorem tmpsOf_mem (hd : dstsApart ops.toList = true) {l : List Ent} (hw : WF ops (l.map (·.s))) (h : HT ops nt T0 l) : ∀ e ∈ l, ∀ t, e.o.dst = some t → (tmpsOf T0 l).get t = some e.v := by
  induction l with
  | nil => intro e he; cases he
  | cons x l ih =>
    intro e he t ht
    show (putD (tmpsOf T0 l) x.v x.o.dst).get t = some e.v
    rcases List.mem_cons.1 he with rfl | he
    · rw [ht]; exact Tr.get_set_same _ _ _
    · have ih := ih hw.1 h.1 e he t ht
      cases hdx : x.o.dst with
      | none => exact ih
      | some d =>
        by_cases e2 : t = d
        · subst e2
          obtain ⟨_, o, _, _, h3, _⟩ := hw
          have h1 := (HT.op h.1 e he).1
          have h2 := h.2.1
          have := dsts_apart hd (i := e.s.i) (j := x.s.i) (by simpa using h1) (by simpa using h2) ht hdx
          exact absurd this (h3 _ (List.mem_map.2 ⟨e, he, rfl⟩))
        · show ((tmpsOf T0 l).set d x.v).get t = some e.v
          rw [Tr.get_set_ne _ _ e2]; exact ih
theorem tmpsOf_none {T0 : Tr Value} {t : Tmp} {l : List Ent} (h : ∀ e ∈ l, e.o.dst ≠ some t) : (tmpsOf T0 l).get t = T0.get t := by
  induction l with
  | nil => rfl
  | cons x l ih =>
    have ih := ih (fun e he => h e (List.mem_cons_of_mem _ he))
    show (putD (tmpsOf T0 l) x.v x.o.dst).get t = T0.get t
    cases hdx : x.o.dst with
    | none => exact ih
    | some d =>
      have : t ≠ d := by rintro rfl; exact h x (by simp) hdx
      show ((tmpsOf T0 l).set d x.v).get t = T0.get t
      rw [Tr.get_set_ne _ _ this]; exact ih

theorem putT_some {T T' : Tr Value} {dst : Option Tmp} {v : Value} (h : putT nt T dst v = some T') : (∀ d, dst = some d → d < nt) ∧ T' = putD T v dst := by
  unfold putT at h
  cases dst with
  | none => simp at h; subst h; exact ⟨fun d hd => by (cases hd), rfl⟩
  | some d =>
    simp only at h
    cases hb : Nat.blt d nt with
    | false => rw [hb] at h; simp at h
    | true =>
      rw [hb] at h
      simp only [cond_true, forced_eq, Option.some.injEq] at h
      rw [Nat.blt_eq] at hb
      exact ⟨fun e he => by (simp only [Option.some.injEq] at he; subst he; exact hb), h.symm⟩

theorem wanted_at {ι : Iota} {T : Tr Value} {tmps : Array Value} {o : Oper} {x : Bool} (ht : ∀ t ∈ o.looksAt ops, ∀ v, T.get t = some v → ∃ u, tmps[t]? = some u ∧ VR ι v u) (h : wantedA ops o T = some x) : Region.wanted o (yielded ops tmps) = x := by
  unfold wantedA at h
  unfold Region.wanted
  split at h
  · rename_i hg
    simp at h; subst h
    rw [hg]
  · rename_i j want hg
    rw [hg]
    simp only
    split at h
    · rename_i d hd
      have hmem : d ∈ o.looksAt ops := by
        unfold Oper.looksAt
        rw [List.mem_append]
        right
        rw [hg]
        simp only [hd]
        simp
      split at h
      · rename_i y hy
        simp at h; subst h
        obtain ⟨u, h1, h2⟩ := ht d hmem _ hy
        cases h2
        simp only [yielded, hd, Option.bind_some, h1]
        rw [Bool.eq_iff_iff]; simp
      · rename_i v hno hy
        simp at h; subst h
        obtain ⟨u, h1, h2⟩ := ht d hmem _ hy
        have : yielded ops tmps j = none := by
          simp only [yielded, hd, Option.bind_some, h1]
          cases h2 <;> first | rfl | exact (hno _ rfl).elim
        rw [this]; rfl
      · cases h
    · cases h

/-- The done ones are shut towards what they waited for. -/
theorem closed_pre {C : Nat → Prop} (hc : ∀ i o, C i → ops[i]? = some o → ∀ j ∈ directs o, C j) : ∀ {i j : Nat}, Pre ops j i → C i → C j
  | _, _, .here ho he, h => hc _ _ h ho _ he
  | _, _, .there ho he p, h => closed_pre hc p (hc _ _ h ho _ he)
theorem pre_closed {C : Nat → Prop} (hc : ∀ i o, C i → ops[i]? = some o → ∀ j ∈ directs o, C j) {i j : Nat} {o : Oper} (hi : ops[i]? = some o) (hd : ∀ e ∈ directs o, C e) (h : Pre ops j i) : C j := by
  cases h with
  | here ho he => rw [hi] at ho; injection ho with ho; subst ho; exact hd _ he
  | there ho he p => rw [hi] at ho; injection ho with ho; subst ho; exact closed_pre hc p (hd _ he)

/-- What an operation looks at reads as the interpreter has it. -/
theorem agree {C : Nat → Prop} {κ : Iota} {tmps : Array Value} (hd : dstsApart ops.toList = true) {h1 h : List Ent} {e : Ent} (hw : WF ops ((h1 ++ e :: h).map (·.s))) (ht : HT ops nt T0 h) (hop : ∀ x ∈ h1 ++ e :: h, ops[x.s.i]? = some x.o)
    (hc : ∀ i o, C i → ops[i]? = some o → ∀ j ∈ directs o, C j) (hn : ¬ C e.s.i) (hdir : ∀ j ∈ directs e.o, C j)
    (i1 : ∀ x ∈ h1 ++ e :: h, C x.s.i → ∀ d, x.o.dst = some d → ∃ u, tmps[d]? = some u ∧ VR κ x.v u)
    (i2 : ∀ t v, T0.get t = some v → (∀ x ∈ h1 ++ e :: h, C x.s.i → x.o.dst ≠ some t) → ∃ u, tmps[t]? = some u ∧ VR κ v u) :
    ∀ t ∈ e.o.looksAt ops, ∀ v, (tmpsOf T0 h).get t = some v → ∃ u, tmps[t]? = some u ∧ VR κ v u := by
  intro t htl v hv
  have heo := hop e (by simp)
  have hwe : WF ops ((e :: h).map (·.s)) := by rw [List.map_append] at hw; exact hw.tail
  have hwe0 := hwe
  obtain ⟨hwh, o, ho, _, _, _, _, h6, _⟩ := hwe
  have hoe : o = e.o := by have := ho; simp only at this; rw [heo] at this; injection this with this; exact this.symm
  subst hoe
  by_cases hex : ∃ x ∈ h, x.o.dst = some t
  · obtain ⟨x, hx, hxt⟩ := hex
    rw [tmpsOf_mem hd hwh ht x hx t hxt] at hv
    simp only [Option.some.injEq] at hv; subst hv
    rcases h6 x.s (List.mem_map.2 ⟨x, hx, rfl⟩) with hp | ⟨q, hq, hap⟩
    · exact i1 x (by simp [hx]) (pre_closed hc heo hdir hp) t hxt
    · have : q = x.o := by have := hop x (by simp [hx]); rw [hq] at this; injection this
      subst this
      exact absurd htl ((Oper.apart_spec hap).1 t hxt)
  · rw [tmpsOf_none (fun x hx hxt => hex ⟨x, hx, hxt⟩)] at hv
    refine i2 t v hv (fun x hx hcx hxt => ?_)
    rcases List.mem_append.1 hx with hx1 | hx1
    · obtain ⟨a, b, rfl⟩ := List.append_of_mem hx1
      have hwx : WF ops ((x :: (b ++ e :: h)).map (·.s)) := by
        have : (a ++ x :: b) ++ e :: h = a ++ x :: (b ++ e :: h) := by simp
        rw [this, List.map_append] at hw
        exact hw.tail
      obtain ⟨_, o2, ho2, _, _, _, _, g6, _⟩ := hwx
      have hox : o2 = x.o := by have := hop x hx; rw [ho2] at this; injection this
      subst hox
      rcases g6 e.s (List.mem_map.2 ⟨e, by simp, rfl⟩) with hp | ⟨q, hq, hap⟩
      · exact hn (closed_pre hc hp hcx)
      · have : q = e.o := by rw [heo] at hq; injection hq with hq; exact hq.symm
        subst this
        exact (Oper.apart_spec hap).2.2 t hxt htl
    · rcases List.mem_cons.1 hx1 with rfl | hx1
      · exact hn hcx
      · exact hex ⟨x, hx1, hxt⟩
end

/-! ### what is known of what is listed and not yet done -/
def WEnt (P : Program) (G : Nat) (ws : List Watch) (e : Ent) : Prop :=
  (e.wn = false ∧ e.v = undef) ∨ (e.wn = true ∧ opKind e.o.op = 0 ∧ ∃ M n M' n', aquiet P G e.Ti M n e.o.op = some (e.v, M', n')) ∨ (e.wn = true ∧ opKind e.o.op = 1 ∧ Watch.rd e.s.i e.o.op e.Ti e.v ∈ ws) ∨
  (e.wn = true ∧ opKind e.o.op = 2 ∧ ∃ vs M, Watch.new e.s.i e.n vs ∈ ws ∧ aquiet P G e.Ti M e.n e.o.op = some (e.v, M.set e.n (.cells false vs), e.n + 1))
def isNew (e : Ent) : Prop := e.wn = true ∧ opKind e.o.op = 2

theorem WEnt.mono {P : Program} {G : Nat} {ws ws' : List Watch} {e : Ent} (h : WEnt P G ws e) (hs : ∀ x ∈ ws, x ∈ ws') : WEnt P G ws' e := by
  rcases h with h | h | ⟨h1, h2, h3⟩ | ⟨h1, h2, vs, M, h3, h4⟩
  · exact .inl h
  · exact .inr (.inl h)
  · exact .inr (.inr (.inl ⟨h1, h2, hs _ h3⟩))
  · exact .inr (.inr (.inr ⟨h1, h2, vs, M, hs _ h3, h4⟩))

/-- The next thing is an effect, or the end. -/
def Head (ops : Array Oper) (T : Tr Value) : List PStep → Prop
  | [] => True
  | s :: _ => ∃ o, ops[s.i]? = some o ∧ wantedA ops o T = some true ∧ Nat.beq s.kind 3 = true

section
variable {call : Fr → Option Res} {P : Program} {X : Exts} {G : Nat} {dk : Bool} {rnd : Option Nat} {nt : Nat} {ops : Array Oper} {T0 : Tr Value}

theorem head_ok {rest : List PStep} {T : Tr Value} {ds : List Deferred} {up : FrameMode} {M : Tr Blk} {nx : Nat} {ws : List Watch} {lm : Nat} {r : RR} (hh : Head ops T rest) (h : vdraw call P X G dk rnd nt ops T0 rest T ds up M nx ws lm = some r) : ∀ x ∈ ws, watchOk P G lm M x = true := by
  rw [← List.all_eq_true]
  cases rest with
  | nil =>
    simp only [vdraw] at h
    cases hw : ws.all (watchOk P G lm M) with
    | true => rfl
    | false => rw [hw] at h; simp at h
  | cons s rest =>
    obtain ⟨o, h1, h2, h3⟩ := hh
    simp only [vdraw, h1, h2, h3] at h
    cases hw : ws.all (watchOk P G lm M) with
    | true => rfl
    | false => rw [hw] at h; simp at h

theorem adv (ds : List Deferred) (up : FrameMode) (lm : Nat) (r : RR) : ∀ (rest : List PStep) (hist : List Ent) (M : Tr Blk) (nx : Nat) (ws : List Watch), WF ops (rest.reverse ++ hist.map (·.s)) → HT ops nt T0 hist →
    vdraw call P X G dk rnd nt ops T0 rest (tmpsOf T0 hist) ds up M nx ws lm = some r →
    ∃ (q : List Ent) (rest2 : List PStep) (M2 : Tr Blk) (nx2 : Nat) (ws2 : List Watch), rest = (q.map (·.s)).reverse ++ rest2 ∧ HT ops nt T0 (q ++ hist) ∧ vdraw call P X G dk rnd nt ops T0 rest2 (tmpsOf T0 (q ++ hist)) ds up M2 nx2 ws2 lm = some r ∧
      Head ops (tmpsOf T0 (q ++ hist)) rest2 ∧ (∀ x ∈ ws, x ∈ ws2) ∧ nx ≤ nx2 ∧ (∀ k, k < nx → M2.get k = M.get k) ∧ (∀ k, M2.get k ≠ none → M.get k ≠ none ∨ (nx ≤ k ∧ k < nx2)) ∧
      (∀ e ∈ q, WEnt P G ws2 e ∧ (isNew e → nx ≤ e.n ∧ e.n < nx2)) ∧ (∀ e ∈ q, ∀ e' ∈ q, isNew e → isNew e' → e.n = e'.n → e.s.i = e'.s.i)
  | [], hist, M, nx, ws, hw, ht, h => ⟨[], [], M, nx, ws, by simp, ht, h, trivial, fun x hx => hx, Nat.le_refl _, fun k _ => rfl, fun k hk => .inl hk, by simp, by simp⟩
  | s :: rest, hist, M, nx, ws, hw, ht, h => by
    have h0 := h
    have hw' : WF ops (rest.reverse ++ s :: hist.map (·.s)) := by simpa using hw
    have hws : WF ops (s :: hist.map (·.s)) := hw'.tail
    simp only [vdraw] at h
    split at h
    · cases h
    · rename_i o ho
      -- one quiet operation is listed
      have go : ∀ (e : Ent) (M1 : Tr Blk) (nx1 : Nat) (ws1 : List Watch), e.s = s → e.o = o → e.Ti = restr (o.looksAt ops) (tmpsOf T0 hist) → wantedA ops o (tmpsOf T0 hist) = some e.wn → (∀ d, o.dst = some d → d < nt) →
          vdraw call P X G dk rnd nt ops T0 rest (tmpsOf T0 (e :: hist)) ds up M1 nx1 ws1 lm = some r → (∀ x ∈ ws, x ∈ ws1) → nx ≤ nx1 → (∀ k, k < nx → M1.get k = M.get k) → (∀ k, M1.get k ≠ none → M.get k ≠ none ∨ (nx ≤ k ∧ k < nx1)) →
          WEnt P G ws1 e → (isNew e → nx ≤ e.n ∧ e.n < nx1) → ∃ (q : List Ent) (rest2 : List PStep) (M2 : Tr Blk) (nx2 : Nat) (ws2 : List Watch), s :: rest = (q.map (·.s)).reverse ++ rest2 ∧ HT ops nt T0 (q ++ hist) ∧ vdraw call P X G dk rnd nt ops T0 rest2 (tmpsOf T0 (q ++ hist)) ds up M2 nx2 ws2 lm = some r ∧
            Head ops (tmpsOf T0 (q ++ hist)) rest2 ∧ (∀ x ∈ ws, x ∈ ws2) ∧ nx ≤ nx2 ∧ (∀ k, k < nx → M2.get k = M.get k) ∧ (∀ k, M2.get k ≠ none → M.get k ≠ none ∨ (nx ≤ k ∧ k < nx2)) ∧
            (∀ e ∈ q, WEnt P G ws2 e ∧ (isNew e → nx ≤ e.n ∧ e.n < nx2)) ∧ (∀ e ∈ q, ∀ e' ∈ q, isNew e → isNew e' → e.n = e'.n → e.s.i = e'.s.i) := by
        intro e M1 nx1 ws1 es eo eT ewn ed hv k1 k2 k3 k4 k5 k6
        have ht1 : HT ops nt T0 (e :: hist) := ⟨ht, by rw [es, eo]; exact ho, by rw [eo]; exact ed, by rw [eo]; exact eT, by rw [eo]; exact ewn⟩
        obtain ⟨q, rest2, M2, nx2, ws2, g1, g2, g3, g4, g5, g6, g7, g8, g9, g10⟩ := adv ds up lm r rest (e :: hist) M1 nx1 ws1 (by rw [List.map_cons, es]; exact hw') ht1 hv
        have hap : (q ++ [e]) ++ hist = q ++ e :: hist := by simp
        refine ⟨q ++ [e], rest2, M2, nx2, ws2, by simp [g1, es], by rw [hap]; exact g2, by rw [hap]; exact g3, by rw [hap]; exact g4, fun x hx => g5 x (k1 x hx), Nat.le_trans k2 g6, fun k hk => (g7 k (Nat.lt_of_lt_of_le hk k2)).trans (k3 k hk), fun k hk => ?_, fun x hx => ?_, fun x hx x' hx' n1 n2 hxx => ?_⟩
        · rcases g8 k hk with h1 | h1
          · rcases k4 k h1 with h2 | h2
            · exact .inl h2
            · exact .inr ⟨h2.1, Nat.lt_of_lt_of_le h2.2 g6⟩
          · exact .inr ⟨Nat.le_trans k2 h1.1, h1.2⟩
        · rcases List.mem_append.1 hx with hx | hx
          · exact ⟨(g9 x hx).1, fun hn => ⟨Nat.le_trans k2 ((g9 x hx).2 hn).1, ((g9 x hx).2 hn).2⟩⟩
          · simp at hx; subst hx
            exact ⟨k5.mono g5, fun hn => ⟨(k6 hn).1, Nat.lt_of_lt_of_le (k6 hn).2 g6⟩⟩
        · rcases List.mem_append.1 hx with hx1 | hx1 <;> rcases List.mem_append.1 hx' with hx2 | hx2
          · exact g10 x hx1 x' hx2 n1 n2 hxx
          · rw [List.mem_singleton] at hx2; subst hx2
            have a1 := ((g9 x hx1).2 n1).1
            have a2 := (k6 n2).2
            omega
          · rw [List.mem_singleton] at hx1; subst hx1
            have a1 := ((g9 x' hx2).2 n2).1
            have a2 := (k6 n1).2
            omega
          · rw [List.mem_singleton] at hx1 hx2; rw [hx1, hx2]
      split at h
      · -- not wanted
        rename_i hwa
        split at h
        · rename_i T' hT'
          obtain ⟨p1, p2⟩ := putT_some hT'
          refine go { s, o, v := undef, Ti := restr (o.looksAt ops) (tmpsOf T0 hist), wn := false, n := nx } M nx ws rfl rfl rfl hwa p1 ?_ (fun x hx => hx) (Nat.le_refl _) (fun k _ => rfl) (fun k hk => .inl hk) (.inl ⟨rfl, rfl⟩) (fun hn => by cases hn.1)
          rw [p2] at h
          exact h
        · cases h
      · rename_i hwa
        split at h
        · -- quiet
          rename_i hk
          split at h
          · rename_i v M1 nx1 hq
            split at h
            · rename_i T' ws1 hT' hws1
              obtain ⟨p1, p2⟩ := putT_some hT'
              rw [p2] at h
              obtain ⟨_, o', ho', hkind, _⟩ := hws
              have : o' = o := by rw [ho] at ho'; injection ho' with ho'; exact ho'.symm
              subst this
              rw [hkind] at hk hws1
              rcases opKind_le (op := o'.op) with k0 | k1 | k2 | k3
              · obtain ⟨rfl, rfl, _⟩ := aquiet_k0 k0 hq
                rw [k0] at hws1
                simp only [addWatch, Option.some.injEq] at hws1; subst hws1
                exact go { s, o := o', v, Ti := restr (o'.looksAt ops) (tmpsOf T0 hist), wn := true, n := nx1 } M1 nx1 ws rfl rfl rfl hwa p1 h (fun x hx => hx) (Nat.le_refl _) (fun k _ => rfl) (fun k hk => .inl hk) (.inr (.inl ⟨rfl, k0, _, _, _, _, hq⟩)) (fun hn => by have := hn.2; simp only at this; omega)
              · obtain ⟨rfl, rfl, _⟩ := aquiet_k1 k1 hq
                rw [k1] at hws1
                simp only [addWatch, Option.some.injEq] at hws1; subst hws1
                exact go { s, o := o', v, Ti := restr (o'.looksAt ops) (tmpsOf T0 hist), wn := true, n := nx1 } M1 nx1 _ rfl rfl rfl hwa p1 h (fun x hx => List.mem_cons_of_mem _ hx) (Nat.le_refl _) (fun k _ => rfl) (fun k hk => .inl hk) (.inr (.inr (.inl ⟨rfl, k1, by simp⟩))) (fun hn => by have := hn.2; simp only at this; omega)
              · obtain ⟨x, rfl, rfl, hall⟩ := aquiet_k2 k2 hq
                rw [k2] at hws1
                simp only [addWatch, Tr.get_set_same] at hws1
                split at hws1
                · rename_i vs hx
                  simp only [Option.some.injEq] at hx hws1; subst hx; subst hws1
                  exact go { s, o := o', v, Ti := restr (o'.looksAt ops) (tmpsOf T0 hist), wn := true, n := nx } (M.set nx (.cells false vs)) (nx + 1) _ rfl rfl rfl hwa p1 h (fun x hx => List.mem_cons_of_mem _ hx) (Nat.le_succ _) (fun k hk => Tr.get_set_ne _ _ (by omega))
                    (fun k hk => by
                      by_cases e : k = nx
                      · exact .inr (by omega)
                      · rw [Tr.get_set_ne _ _ e] at hk; exact .inl hk) (.inr (.inr (.inr ⟨rfl, k2, vs, M, by simp, hq⟩))) (fun hn => ⟨Nat.le_refl _, Nat.lt_succ_self _⟩)
                · cases hws1
              · rw [k3] at hk; cases hk
            · cases h
          · cases h
        · -- an effect
          rename_i hk
          exact ⟨[], s :: rest, M, nx, ws, by simp, ht, h0, ⟨o, ho, hwa, hk⟩, fun x hx => hx, Nat.le_refl _, fun k _ => rfl, fun k hk => .inl hk, by simp, by simp⟩
      · cases h
end
end Go.Proofs.YtjbanjpklgpenaaGreatDoor.Vm
