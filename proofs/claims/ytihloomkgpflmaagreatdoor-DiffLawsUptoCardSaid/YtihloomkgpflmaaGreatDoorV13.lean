/-
  THE ABSTRACT INTERPRETER, part 15: numbers of blocks that are forgotten can be given anew.
  THE ABSTRACT INTERPRETER, part 16: told answers of appends, and of rows with room.
  THE ABSTRACT INTERPRETER, part 17: a row that grows from round to round keeps one number; frames that turn blocks; told answers of appends of structs.
  THE ABSTRACT INTERPRETER, part 18: calls that turn blocks, with told answers.
  THE ABSTRACT INTERPRETER, part 19: nil slices as rows without cells.
  THE ABSTRACT INTERPRETER, part 20: what blocks hold is frozen, too.
  THE ABSTRACT INTERPRETER, part 21: from what a function answers (PureOk) to a call in a world whose cells are the arguments'.
-/
import Derived.Test.YtihloomkgpflmaaGreatDoorV12
set_option linter.unusedSimpArgs false
set_option linter.unusedVariables false
namespace Go.Proofs.YtihloomkgpflmaaGreatDoor.Vm

/-- A value that shows blocks of numbers below n alone. -/
inductive Blw (n : Nat) : Value → Prop
  | nl {v : Value} (h : Nl v) : Blw n v
  | slice {b o k c : Nat} (h : b / 256 < n) : Blw n (.slice (some ⟨b, o, none⟩) k c)
  | ptr {b o : Nat} (h : b / 256 < n) : Blw n (.pointer (some ⟨b, o, none⟩))
def Iota.cut (ι : Iota) (n : Nat) : Iota := ⟨fun b => if b / 256 < n then ι.loc b else none, ι.fz⟩
theorem Iota.cut_lt {ι : Iota} {n b : Nat} (h : b / 256 < n) : (ι.cut n) b = ι b := by
  show (if b / 256 < n then ι.loc b else none) = ι.loc b
  rw [if_pos h]
theorem Iota.cut_some {ι : Iota} {n b : Nat} {l : Loc} (h : (ι.cut n) b = some l) : b / 256 < n ∧ ι b = some l := by
  have h' : (if b / 256 < n then ι.loc b else none) = some l := h
  split at h'
  · rename_i hb; exact ⟨hb, h'⟩
  · cases h'
theorem Blw.move {ι : Iota} {n : Nat} {v u : Value} (h : Blw n v) (hv : VR ι v u) : VR (ι.cut n) v u := by
  cases h with
  | nl h => exact h.move hv (fun _ _ h => h)
  | slice h =>
    cases hv with
    | sl _ _ hι hg hb => exact .sl _ _ (by rw [Iota.cut_lt h]; exact hι) hg hb
    | slg _ _ _ hι hg hb h0 hn ho hcc hC => exact .slg _ _ _ (by rw [Iota.cut_lt h]; exact hι) hg hb h0 hn ho hcc hC
    | sle _ _ hι hg hb => exact .sle _ _ (by rw [Iota.cut_lt h]; exact hι) hg hb
  | ptr h =>
    cases hv with
    | ptr hι => exact .ptr (by rw [Iota.cut_lt h]; exact hι)
theorem Blw.moveL {ι : Iota} {n : Nat} : ∀ {xs ys : List Value}, (∀ v ∈ xs, Blw n v) → VRL ι xs ys → VRL (ι.cut n) xs ys
  | _, _, _, .nil => .nil
  | _, _, h, .cons hv t => .cons ((h _ List.mem_cons_self).move hv) (Blw.moveL (fun v hv => h v (List.mem_cons_of_mem _ hv)) t)

/-- A block of cells that show such blocks alone. -/
def Blk.Blw (n : Nat) (x : Blk) : Prop := ∃ vs, x.vals = some vs ∧ ∀ v ∈ vs, Vm.Blw n v
theorem PT.cut {P : Program} {G : Nat} {tabs : List (Nat × List Value)} {fr : Fr} {n : Nat} {v : Value} (hG : G ≤ n) (hT : ∀ t v, fr.T.get t = some v → Blw n v) (hM : ∀ k x, fr.M.get k = some x → x.Blw n) (hds : fr.ds = []) (hmode : fr.mode = .run) (hdk : fr.dk = false) (hrnd : fr.rnd = none) (g : PT P G tabs { fr with nx := n } v) : PT P G tabs fr v := by
  intro w0 hl ι b a mode cs w todo st
  have hR : R w0 (ι.cut n) fr.M w := by
    have h := st.rel
    refine ⟨?_, fun b b' l l' h1 h2 => h.uniq b b' l l' (Iota.cut_some h1).2 (Iota.cut_some h2).2, fun b x l hm hi => ?_, fun b b' x x' l l' hm hm' hd hd' h1 h2 => h.inj b b' x x' l l' hm hm' hd hd' (Iota.cut_some h1).2 (Iota.cut_some h2).2,
      fun b x l hm hw hi => h.own b x l hm hw (Iota.cut_some hi).2, h.size, h.old, h.os, h.output, h.tape, fun a v ha => ⟨(h.fz a v ha).1, fun b x l hm hw hi => (h.fz a v ha).2 b x l hm hw (Iota.cut_some hi).2⟩⟩
    · intro b l h1
      exact h.kinds b l (Iota.cut_some h1).2
    · obtain ⟨o, h1, h2⟩ := h.live b x l hm (Iota.cut_some hi).2
      refine ⟨o, h1, ?_⟩
      obtain ⟨vs, hv, hb⟩ := hM _ _ hm
      cases h2 with
      | dead => simp [Blk.vals] at hv
      | cells hg h => simp [Blk.vals] at hv; subst hv; exact .cells hg (Blw.moveL hb h)
      | grow hb' hg ha hp h hc => simp [Blk.vals] at hv; subst hv; exact .grow hb' hg ha hp (Blw.moveL hb h) hc
      | frz ha hp h => simp [Blk.vals] at hv; subst hv; exact .frz ha hp (Blw.moveL hb h)
      | map => simp [Blk.vals] at hv
      | defs => simp [Blk.vals] at hv
      | loop => simp [Blk.vals] at hv
  refine g w0 hl (ι.cut n) b a mode cs w todo ⟨hR, fun k hk => ?_, ⟨st.fm.fn, ⟨st.fm.tm.1, fun t x hx => ?_⟩, ?_, ?_, st.fm.kind, ?_, ?_⟩, fun c hc => ?_, fun e => absurd hrnd e, st.td⟩
  · have := st.gok k hk
    rw [Iota.cut_lt (by omega)]
    exact this
  · obtain ⟨u, h1, h2⟩ := st.fm.tm.2 t x hx
    exact ⟨u, h1, (hT t x hx).move h2⟩
  · have := st.fm.ds
    rw [hds] at this
    show DRL _ fr.ds a.defers
    rw [hds]
    cases hd : a.defers with
    | nil => exact .nil
    | cons x y => rw [hd] at this; cases this
  · have := st.fm.mode
    rw [hmode] at this
    show MR _ fr.mode mode
    rw [hmode]
    cases this
    exact .run
  · have := st.fm.rnd
    rw [hrnd] at this
    show RndR _ fr.rnd b.roundOf
    rw [hrnd]
    cases hb : b.roundOf with
    | none => trivial
    | some r => rw [hb] at this; exact this.elim
  · intro hd
    have hd' : fr.dk = true := hd
    rw [hdk] at hd'; cases hd'
  · show (if c / 256 < n then ι.loc c else none) = none
    rw [if_neg]
    have hc' : n ≤ c / 256 := hc
    omega
end Go.Proofs.YtihloomkgpflmaaGreatDoor.Vm

namespace Go.Proofs.YtihloomkgpflmaaGreatDoor.Vm
theorem app_row {P : Program} {t e : TypeId} {M M' : Tr Blk} {nx x y k n c c2 : Nat} {vs news : List Value} (ht : P.underlying t = some (.slice e)) (hi : (P.info? e).map (fun i => (i.size, i.zero.map (·.cells.size))) = some (1, some 1)) (hy : M.get (y / 256) = some (.cells false news)) (hn : news.length = n + 1) (h1 : news.all (·.oneCell') = true)
    (hx : M.get (x / 256) = some (.cells false vs)) (hx0 : x % 256 = 0) (hk : k + (n + 1) ≤ c) (hv : k + (n + 1) ≤ vs.length) (hM : M.set (x / 256) (.cells false (splice vs k news)) = M') :
    aAppend P M nx t (.slice (some ⟨x, 0, none⟩) k c) (.slice (some ⟨y, 0, none⟩) (n + 1) c2) = some (.slice (some ⟨x, 0, none⟩) (k + (n + 1)) c, M', nx) := by
  obtain ⟨i, hi1, hi2⟩ := Option.map_eq_some_iff.1 hi
  have hs : i.size = 1 := congrArg Prod.fst hi2
  have hz : i.zero.map (·.cells.size) = some 1 := congrArg Prod.snd hi2
  obtain ⟨z, hz1, hz2⟩ := Option.map_eq_some_iff.1 hz
  have hc : Vm.cut news 0 (n + 1) = some news := by
    have e1 : (news.drop 0).take (n + 1) = news := by rw [List.drop_zero, ← hn, List.take_length]
    have e2 : Nat.ble (0 + (n + 1)) news.length = true := by rw [Nat.ble_eq, hn]; omega
    simp only [Vm.cut, e1, e2, h1, Bool.and_self, cond_true]
  have c1 : Nat.ble (k + (n + 1)) c = true := by rw [Nat.ble_eq]; exact hk
  have c2' : Nat.ble k c = true := by rw [Nat.ble_eq]; omega
  have c3 : Nat.ble (k + news.length) vs.length = true := by rw [Nat.ble_eq, hn]; exact hv
  have c4 : (Nat.blt 0 1 && Nat.blt 1 256 && Nat.beq 1 1) = true := rfl
  have c5 : (Nat.beq 0 0 || Nat.beq 0 1) = true := rfl
  simp only [aAppend, ht, hi1, hz1, hs, hz2, c4, cond_true, hy, Blk.vals, Nat.mul_one, hc, aAppendTo, hx, hx0, c1, c2', c5, Bool.and_self, Nat.zero_add, Blk.put, c3, hM]
/-- .. with room. -/
theorem make_room {P : Program} {t e : TypeId} {M M' : Tr Blk} {nx l n : Nat} (ht : P.underlying t = some (.slice e)) (hi' : (P.info? e).map (fun i => (i.bytes, i.size)) = some (8, 1)) (hz : aZero P e = some (.int .u64 (.ofNat 0))) (hl : l ≤ n) (hn : 8 * n ≤ 281474976710656) (hM : M.set nx (.cells false ((List.replicate n 0).map fun x => Value.int .u64 (.ofNat x))) = M') :
    aMakeSlice P M nx t (.int .i64 (.ofNat l)) (.int .i64 (.ofNat n)) = some (.slice (some ⟨256 * nx, 0, none⟩) l n, M', nx + 1) := by
  have h := make_row (M := M) (nx := nx) ht hi' hz hn hM
  obtain ⟨i, hi, hbs⟩ := Option.map_eq_some_iff.1 hi'
  have h2 : Nat.ble n n = true := by rw [Nat.ble_eq]; exact Nat.le_refl _
  have h3 : Nat.ble l n = true := by rw [Nat.ble_eq]; exact hl
  simp only [aMakeSlice, ht, hi, hz, h2] at h
  simp only [aMakeSlice, ht, hi, hz, h3]
  obtain ⟨hc, h⟩ := cond_some h
  simp only [Prod.mk.injEq] at h
  rw [hc, h.2.1]
  rfl
end Go.Proofs.YtihloomkgpflmaaGreatDoor.Vm

namespace Go.Proofs.YtihloomkgpflmaaGreatDoor.Vm

/-! ### block k is called n from here on -/
def Iota.mv (ι : Iota) (n k : Nat) : Iota := ⟨fun b => if b / 256 < n then ι.loc b else if b / 256 = n then ι.loc (256 * k + b % 256) else none, ι.fz⟩
/-- What block a is called beforehand. -/
def mvn (n k a : Nat) : Option Nat := if a < n then some a else if a = n then some k else none
theorem Iota.mv_of {ι : Iota} {n k b m : Nat} (h : mvn n k (b / 256) = some m) : (ι.mv n k) b = ι (256 * m + b % 256) := by
  show (if b / 256 < n then ι.loc b else if b / 256 = n then ι.loc (256 * k + b % 256) else none) = ι.loc (256 * m + b % 256)
  unfold mvn at h
  split at h
  · rename_i hb
    simp at h; subst h
    rw [if_pos hb]
    congr 1; omega
  · rename_i hb
    split at h
    · rename_i hc
      simp at h; subst h
      rw [if_neg hb, if_pos hc]
    · cases h
theorem Iota.mv_some {ι : Iota} {n k b : Nat} {l : Loc} (h : (ι.mv n k) b = some l) : ∃ m, mvn n k (b / 256) = some m ∧ ι (256 * m + b % 256) = some l := by
  have h' : (if b / 256 < n then ι.loc b else if b / 256 = n then ι.loc (256 * k + b % 256) else none) = some l := h
  unfold mvn
  split at h'
  · rename_i hb
    exact ⟨_, if_pos hb, by rw [show 256 * (b / 256) + b % 256 = b by omega]; exact h'⟩
  · rename_i hb
    split at h'
    · rename_i hc
      exact ⟨k, by rw [if_neg hb, if_pos hc], h'⟩
    · cases h'
theorem mvn_inj {n k a b m : Nat} (hk : n ≤ k) (ha : mvn n k a = some m) (hb : mvn n k b = some m) : a = b := by
  unfold mvn at ha hb
  split at ha <;> split at hb <;> simp at ha hb
  · omega
  · omega
  · omega
  · omega
/-- A value by its new and its old name. -/
inductive Mv (n k : Nat) : Value → Value → Prop
  | nl {v : Value} (h : Nl v) : Mv n k v v
  | slice {b m o i c : Nat} (h : mvn n k (b / 256) = some m) : Mv n k (.slice (some ⟨b, o, none⟩) i c) (.slice (some ⟨256 * m + b % 256, o, none⟩) i c)
  | ptr {b m o : Nat} (h : mvn n k (b / 256) = some m) : Mv n k (.pointer (some ⟨b, o, none⟩)) (.pointer (some ⟨256 * m + b % 256, o, none⟩))
theorem Mv.move {ι : Iota} {n k : Nat} {v v0 u : Value} (h : Mv n k v v0) (hv : VR ι v0 u) : VR (ι.mv n k) v u := by
  cases h with
  | nl h => exact h.move hv (fun _ _ h => h)
  | slice h =>
    rename_i b m o i c
    have e : (256 * m + b % 256) % 256 = b % 256 := by omega
    cases hv with
    | sl _ _ hι hg hb => exact .sl _ _ (by rw [Iota.mv_of h]; exact hι) hg (by omega)
    | slg _ _ _ hι hg hb h0 hn ho hcc hC => exact .slg _ _ _ (by rw [Iota.mv_of h]; exact hι) hg (by omega) h0 hn (by rw [← e]; exact ho) hcc hC
    | sle _ _ hι hg hb => exact .sle _ _ (by rw [Iota.mv_of h]; exact hι) hg (by omega)
  | ptr h =>
    cases hv with
    | ptr hι => exact .ptr (by rw [Iota.mv_of h]; exact hι)
/-- Lists of values. -/
inductive MvL (n k : Nat) : List Value → List Value → Prop
  | nil : MvL n k [] []
  | cons {v v0 : Value} {xs ys : List Value} (h : Mv n k v v0) (t : MvL n k xs ys) : MvL n k (v :: xs) (v0 :: ys)
theorem MvL.same {n k : Nat} : ∀ {xs : List Value}, (∀ v ∈ xs, Nl v) → MvL n k xs xs
  | [], _ => .nil
  | _ :: _, h => .cons (.nl (h _ List.mem_cons_self)) (MvL.same fun v hv => h v (List.mem_cons_of_mem _ hv))
theorem MvL.move {ι : Iota} {n k : Nat} : ∀ {xs xs0 ys : List Value}, MvL n k xs xs0 → VRL ι xs0 ys → VRL (ι.mv n k) xs ys
  | _, _, _, .nil, .nil => .nil
  | _, _, _, .cons h t, .cons hv tv => .cons (h.move hv) (MvL.move t tv)
/-- A block by its new and its old contents. -/
inductive MvB (n k : Nat) : Blk → Blk → Prop
  | cells {ro : Bool} {xs ys : List Value} (h : MvL n k xs ys) : MvB n k (.cells ro xs) (.cells ro ys)
  | grow {xs ys : List Value} (h : MvL n k xs ys) : MvB n k (.grow xs) (.grow ys)
  | frz {xs ys : List Value} (h : MvL n k xs ys) : MvB n k (.frz xs) (.frz ys)
theorem PT.mv {P : Program} {G : Nat} {tabs : List (Nat × List Value)} {fr : Fr} {n k nx : Nat} {T2 : Tr Value} {M2 : Tr Blk} {v : Value} (hG : G ≤ n) (hk : n ≤ k) (hnx : n + 1 ≤ nx) (hT : ∀ t v, T2.get t = some v → ∃ v0, fr.T.get t = some v0 ∧ Mv n k v v0) (hM : ∀ a x, M2.get a = some x → ∃ m x0, mvn n k a = some m ∧ fr.M.get m = some x0 ∧ MvB n k x x0)
    (hds : fr.ds = []) (hmode : fr.mode = .run) (hdk : fr.dk = false) (hrnd : fr.rnd = none) (g : PT P G tabs { fr with T := T2, M := M2, nx := nx } v) : PT P G tabs fr v := by
  intro w0 hl ι b a mode cs w todo st
  have look : ∀ {b : Nat} {x : Blk} {l : Loc}, M2.get (b / 256) = some x → (ι.mv n k) b = some l → ∃ m x0, mvn n k (b / 256) = some m ∧ fr.M.get ((256 * m + b % 256) / 256) = some x0 ∧ MvB n k x x0 ∧ ι (256 * m + b % 256) = some l := by
    intro b x l hm hi
    obtain ⟨m, x0, h1, h2, h3⟩ := hM _ _ hm
    obtain ⟨m', h4, h5⟩ := Iota.mv_some hi
    rw [h1] at h4; simp at h4; subst h4
    exact ⟨m, x0, h1, by rw [show (256 * m + b % 256) / 256 = m by omega]; exact h2, h3, h5⟩
  have hR : R w0 (ι.mv n k) M2 w := by
    have h := st.rel
    refine ⟨?_, fun b b' l l' h1 h2 he => ?_, fun b x l hm hi => ?_, fun b b' x x' l l' hm hm' hd hd' h1 h2 he => ?_,
      fun b x l hm hw hi => ?_, h.size, h.old, h.os, h.output, h.tape, fun a v ha => ⟨(h.fz a v ha).1, fun b x l hm hw hi => ?_⟩⟩
    · intro b l h1
      obtain ⟨m, _, h5⟩ := Iota.mv_some h1
      have := h.kinds _ _ h5
      simpa [show (256 * m + b % 256) % 256 = b % 256 by omega] using this
    · obtain ⟨m, q1, q2⟩ := Iota.mv_some h1
      obtain ⟨m', q3, q4⟩ := Iota.mv_some h2
      rw [← he, q1] at q3
      simp at q3; subst q3
      have := h.uniq _ _ _ _ q2 q4 (by omega)
      omega
    · obtain ⟨m, x0, h1, h2, h3, h4⟩ := look hm hi
      obtain ⟨o, g1, g2⟩ := h.live _ x0 l h2 h4
      refine ⟨o, g1, ?_⟩
      have e : (256 * m + b % 256) % 256 = b % 256 := by omega
      cases h3 with
      | cells h3 =>
        cases g2 with
        | cells hg g2 => exact .cells hg (h3.move g2)
      | grow h3 =>
        cases g2 with
        | grow hb hg ha hp g2 hc => exact .grow (by omega) hg ha hp (h3.move g2) (by rw [← e]; exact hc)
      | frz h3 =>
        cases g2 with
        | frz ha hp g2 => exact .frz ha hp (h3.move g2)
    · obtain ⟨m, x0, q1, q2, q3, q4⟩ := look hm h1
      obtain ⟨m', x0', r1, r2, r3, r4⟩ := look hm' h2
      have := h.inj _ _ x0 x0' l l' q2 r2 (by cases q3 <;> rfl) (by cases r3 <;> rfl) q4 r4 he
      have hmm : m = m' := by omega
      subst hmm
      have := mvn_inj hk q1 r1
      omega
    · obtain ⟨m, x0, q1, q2, q3, q4⟩ := look hm hi
      exact h.own _ x0 l q2 (by cases q3 <;> exact hw) q4
    · obtain ⟨m, x0, q1, q2, q3, q4⟩ := look hm hi
      exact (h.fz a v ha).2 _ x0 l q2 (by cases q3 <;> exact hw) q4
  refine g w0 hl (ι.mv n k) b a mode cs w todo ⟨hR, fun g hg => ?_, ⟨st.fm.fn, ⟨st.fm.tm.1, fun t x hx => ?_⟩, ?_, ?_, st.fm.kind, ?_, ?_⟩, fun c hc => ?_, fun e => absurd hrnd e, st.td⟩
  · have hg' : g < n := by omega
    have h1 : mvn n k (256 * g / 256) = some g := by
      rw [show 256 * g / 256 = g by omega]; unfold mvn; rw [if_pos hg']
    rw [Iota.mv_of h1, show 256 * g + 256 * g % 256 = 256 * g by omega]
    exact st.gok g hg
  · obtain ⟨v0, h1, h2⟩ := hT t x hx
    obtain ⟨u, h3, h4⟩ := st.fm.tm.2 t v0 h1
    exact ⟨u, h3, h2.move h4⟩
  · have := st.fm.ds
    rw [hds] at this
    show DRL _ fr.ds a.defers
    rw [hds]
    cases hd : a.defers with
    | nil => exact .nil
    | cons x y => rw [hd] at this; cases this
  · have := st.fm.mode
    rw [hmode] at this
    show MR _ fr.mode mode
    rw [hmode]
    cases this
    exact .run
  · have := st.fm.rnd
    rw [hrnd] at this
    show RndR _ fr.rnd b.roundOf
    rw [hrnd]
    cases hb : b.roundOf with
    | none => trivial
    | some r => rw [hb] at this; exact this.elim
  · intro hd
    have hd' : fr.dk = true := hd
    rw [hdk] at hd'; cases hd'
  · have hc' : nx ≤ c / 256 := hc
    cases hq : (ι.mv n k) c with
    | none => rfl
    | some l =>
      obtain ⟨m, h1, _⟩ := Iota.mv_some hq
      unfold mvn at h1
      rw [if_neg (by omega), if_neg (by omega)] at h1
      cases h1

/-! ### appends of structs to rows that grow -/
theorem cut_all {vs : List Value} (h : vs.all (·.oneCell') = true) : Vm.cut vs 0 vs.length = some vs := by
  have e1 : (vs.drop 0).take vs.length = vs := by rw [List.drop_zero, List.take_length]
  have e2 : Nat.ble (0 + vs.length) vs.length = true := by rw [Nat.ble_eq]; omega
  simp only [Vm.cut, e1, e2, h, Bool.and_self, cond_true]
/-- To nothing. -/
theorem app_first {P : Program} {t e : TypeId} {M M' : Tr Blk} {nx y c2 sz bytes : Nat} {news : List Value} (ht : P.underlying t = some (.slice e)) (hi : (P.info? e).map (fun i => (i.size, i.bytes, i.zero.map (·.cells.size))) = some (sz, bytes, some sz)) (h0 : 0 < sz) (h256 : sz < 256) (hy : M.get (y / 256) = some (.cells false news)) (hn : news.length = sz) (h1 : news.all (·.oneCell') = true)
    (hb : bytes ≤ 140737488355328) (hM : M.set nx (.grow news) = M') :
    aAppend P M nx t (.slice none 0 0) (.slice (some ⟨y, 0, none⟩) 1 c2) = some (.slice (some ⟨256 * nx + sz, 0, none⟩) 1 1, M', nx + 1) := by
  obtain ⟨i, hi1, hi2⟩ := Option.map_eq_some_iff.1 hi
  have hs : i.size = sz := congrArg Prod.fst hi2
  have hbs : i.bytes = bytes := congrArg (fun p => p.2.1) hi2
  have hz : i.zero.map (·.cells.size) = some sz := congrArg (fun p => p.2.2) hi2
  obtain ⟨z, hz1, hz2⟩ := Option.map_eq_some_iff.1 hz
  have hc : Vm.cut news 0 ((0 + 1) * sz) = some news := by
    have := cut_all h1
    rw [hn] at this
    rw [Nat.zero_add, Nat.one_mul]; exact this
  have c4 : (Nat.blt 0 sz && Nat.blt sz 256 && Nat.beq sz sz) = true := by simp [Nat.blt_eq, h0, h256]
  have c5 : (Nat.ble ((0 + 1) * bytes) 140737488355328 && Nat.ble (0 + 1) 1000000000) = true := by
    rw [Nat.zero_add, Nat.one_mul, Bool.and_eq_true, Nat.ble_eq]; exact ⟨hb, rfl⟩
  simp only [aAppend, ht, hi1, hz1, hs, hz2, c4, cond_true, hy, Blk.vals, hc, aAppendTo, hbs, c5, hM]
/-- To a row that grows. -/
theorem app_next {P : Program} {t e : TypeId} {M M' : Tr Blk} {nx x y k c2 sz bytes : Nat} {vs news : List Value} (ht : P.underlying t = some (.slice e)) (hi : (P.info? e).map (fun i => (i.size, i.bytes, i.zero.map (·.cells.size))) = some (sz, bytes, some sz)) (h0 : 0 < sz) (h256 : sz < 256) (hy : M.get (y / 256) = some (.cells false news)) (hn : news.length = sz) (h1 : news.all (·.oneCell') = true)
    (hx : M.get (x / 256) = some (.grow vs)) (hx0 : x % 256 = sz) (hk : 0 < k) (hv : vs.length = k * sz) (hv1 : vs.all (·.oneCell') = true) (hb : (k + 1) * bytes ≤ 140737488355328) (hb2 : k + 1 ≤ 1000000000) (hM : (M.set (x / 256) .dead).set nx (.grow (vs ++ news)) = M') :
    aAppend P M nx t (.slice (some ⟨x, 0, none⟩) k k) (.slice (some ⟨y, 0, none⟩) 1 c2) = some (.slice (some ⟨256 * nx + sz, 0, none⟩) (k + 1) (k + 1), M', nx + 1) := by
  obtain ⟨i, hi1, hi2⟩ := Option.map_eq_some_iff.1 hi
  have hs : i.size = sz := congrArg Prod.fst hi2
  have hbs : i.bytes = bytes := congrArg (fun p => p.2.1) hi2
  have hz : i.zero.map (·.cells.size) = some sz := congrArg (fun p => p.2.2) hi2
  obtain ⟨z, hz1, hz2⟩ := Option.map_eq_some_iff.1 hz
  have hc : Vm.cut news 0 ((0 + 1) * sz) = some news := by
    have := cut_all h1
    rw [hn] at this
    rw [Nat.zero_add, Nat.one_mul]; exact this
  have hcv : Vm.cut vs 0 (k * sz) = some vs := by rw [← hv]; exact cut_all hv1
  have c4 : (Nat.blt 0 sz && Nat.blt sz 256 && Nat.beq sz sz) = true := by simp [Nat.blt_eq, h0, h256]
  have c5 : (Nat.ble (k + (0 + 1)) k && Nat.ble k k && (Nat.beq (x % 256) 0 || Nat.beq (x % 256) sz)) = false := by
    have : Nat.ble (k + (0 + 1)) k = false := by
      cases h : Nat.ble (k + (0 + 1)) k with
      | false => rfl
      | true => rw [Nat.ble_eq] at h; omega
    rw [this]; rfl
  have c6 : (Nat.beq (x % 256) sz && Nat.blt 0 k && Nat.ble ((k + (0 + 1)) * bytes) 140737488355328 && Nat.ble (k + (0 + 1)) 1000000000 && Nat.blt k (k + (0 + 1))) = true := by
    simp only [Nat.zero_add, Bool.and_eq_true, Nat.ble_eq, Nat.blt_eq, Nat.beq_eq]
    exact ⟨⟨⟨⟨hx0, hk⟩, hb⟩, hb2⟩, by omega⟩
  simp only [aAppend, ht, hi1, hz1, hs, hz2, c4, cond_true, hy, Blk.vals, hc, aAppendTo, hx, c5, hcv, hbs, c6, hM, Nat.zero_add]

/-! ### values are what they are -/
theorem veqA_self {f : Value → Value → Bool} : ∀ {xs : List Value}, (∀ v ∈ xs, f v v = true) → veqA f xs xs = true
  | [], _ => rfl
  | x :: xs, h => by
    unfold veqA
    rw [h x List.mem_cons_self, veqA_self fun v hv => h v (List.mem_cons_of_mem _ hv)]
    rfl
/-- Values without fractions, with so many steps of looking into them. -/
def plainV : Nat → Value → Bool
  | 0, _ => false
  | n + 1, v => match v with
    | .bool _ | .int _ _ | .string _ | .pointer none | .slice none _ _ | .map none | .nilFunc | .nilIface => true
    | .iface _ v => plainV n v
    | .agg xs => xs.toList.all (plainV n)
    | .tuple xs => xs.toList.all (plainV n)
    | .func _ xs ys => xs.toList.all (plainV n) && ys.toList.all (plainV n)
    | _ => false
theorem veq_self : ∀ (n : Nat) (v : Value), plainV n v = true → veq n v v = true
  | 0, _, h => by cases h
  | n + 1, v, h => by
    have ih := veq_self n
    have ihl : ∀ xs : List Value, xs.all (plainV n) = true → veqA (veq n) xs xs = true := fun xs h => veqA_self fun v hv => ih v (List.all_eq_true.1 h v hv)
    unfold plainV at h
    unfold veq
    split at h
    · simp
    · rename_i k z
      cases z <;> simp [eqI]
    · simp
    · simp [veqAddr]
    · simp [veqAddr]
    · simp
    · simp
    · simp
    · simp [ih _ h]
    · exact ihl _ h
    · exact ihl _ h
    · simp only [Bool.and_eq_true] at h
      simp [ihl _ h.1, ihl _ h.2]
    · cases h
theorem plainV_mono : ∀ (n : Nat) (v : Value), plainV n v = true → plainV (n + 1) v = true
  | 0, _, h => by cases h
  | n + 1, v, h => by
    have ih := plainV_mono n
    have ihl : ∀ xs : List Value, xs.all (plainV n) = true → xs.all (plainV (n + 1)) = true := fun xs hx => List.all_eq_true.2 fun y hy => ih y (List.all_eq_true.1 hx y hy)
    unfold plainV at h ⊢
    split at h <;> simp_all
theorem plainV_le {n m : Nat} (h : n ≤ m) {v : Value} (hv : plainV n v = true) : plainV m v = true := by
  induction h with
  | refl => exact hv
  | step _ ih => exact plainV_mono _ _ ih
end Go.Proofs.YtihloomkgpflmaaGreatDoor.Vm

namespace Go.Proofs.YtihloomkgpflmaaGreatDoor.Vm
section
variable {P : Program} {G : Nat} {tabs : List (Nat × List Value)} {X : Exts} {F : Known}
/-- The frame comes to r. -/
def ST (P : Program) (G : Nat) (tabs : List (Nat × List Value)) (fr : Fr) (r : Res) : Prop := ∀ w0, Laid G tabs w0 → SoundT P G w0 fr r
theorem ST.orun (e : Env P G tabs X F) : ∀ (n : Nat) {fr fr' : Fr} {as : List Ans} {os : List Ob} {r : Res}, orun P X G n fr as = some (fr', os) → Obs P F os → ST P G tabs fr' r → ST P G tabs fr r
  | 0, fr, fr', as, os, r, h, _, g => by
    simp only [Vm.orun, Option.some.injEq, Prod.mk.injEq] at h
    obtain ⟨rfl, _⟩ := h
    exact g
  | n + 1, fr, fr', as, os, r, h, ho, g => by
    unfold Vm.orun at h
    split at h
    · rename_i fr1 os1 as1 hs
      split at h
      · rename_i fr2 os2 hr
        simp at h
        obtain ⟨rfl, rfl⟩ := h
        obtain ⟨h1, h2⟩ := Obs.append ho
        exact fun w0 hl => (ostep_ok e hs h1 w0 hl).sound (ST.orun e n hr h2 g w0 hl)
      · cases h
    · cases h
/-- What a frame knows may be forgotten. -/
theorem ST.weaken {fr : Fr} {T2 : Tr Value} {M2 : Tr Blk} {r : Res} (hT : ∀ t v, T2.get t = some v → fr.T.get t = some v) (hM : ∀ n x, M2.get n = some x → fr.M.get n = some x) (g : ST P G tabs { fr with T := T2, M := M2 } r) : ST P G tabs fr r := by
  intro w0 hl ι b a mode cs w todo st
  have h := st.rel
  obtain ⟨κ, w', p1, p2⟩ := g w0 hl ι b a mode cs w todo ⟨⟨h.kinds, h.uniq, fun b x l hm hi => h.live b x l (hM _ _ hm) hi, fun b b' x x' l l' hm hm' hd hd' h1 h2 he => h.inj b b' x x' l l' (hM _ _ hm) (hM _ _ hm') hd hd' h1 h2 he, fun b x l hm hw hi => h.own b x l (hM _ _ hm) hw hi, h.size, h.old, h.os, h.output, h.tape, fun a v ha => ⟨(h.fz a v ha).1, fun b x l hm hw hi => (h.fz a v ha).2 b x l (hM _ _ hm) hw hi⟩⟩,
    st.gok, ⟨st.fm.fn, ⟨st.fm.tm.1, fun t x hx => st.fm.tm.2 t x (hT t x hx)⟩, st.fm.ds, st.fm.mode, st.fm.kind, st.fm.rnd, st.fm.up⟩, st.fresh, st.rc, st.td⟩
  refine ⟨κ, w', ⟨p1.ext, fun b l h1 h2 => ?_, fun n hn => ?_, p1.le, p1.rel, fun c hc hf => p1.frame c hc fun b x l hm hi => hf b x l (hM _ _ hm) hi, p1.size, fun a v ha => ?_⟩, p2⟩
  · obtain ⟨q1, q2⟩ := p1.new b l h1 h2
    refine ⟨q1, ?_⟩
    rcases q2 with e | ⟨b', x', l', e1, e2, e3⟩
    · exact .inl e
    · exact .inr ⟨b', x', l', hM _ _ e1, e2, e3⟩
  · rcases p1.dom n hn with e | e
    · refine .inl fun he => e ?_
      cases hq : M2.get n with
      | none => rfl
      | some x => rw [hM _ _ hq] at he; cases he
    · exact .inr e
  · rcases p1.fzn a v ha with e | e | ⟨e0, b', x', l', e1, e2, e3⟩
    · exact .inl e
    · exact .inr (.inl e)
    · exact .inr (.inr ⟨e0, b', x', l', hM _ _ e1, e2, e3⟩)
theorem ST.done (e : Env P G tabs X F) {fr : Fr} {r : Res} (h : fstep (fun _ => none) P X.bare G fr = .done r) : ST P G tabs fr r := by
  intro w0 hl
  have hx := (e.xok w0 hl).bare
  exact (fstep_sound (call := fun _ => none) hx e.fok (draws e.mixed hx e.fok) (fun _ _ h => by cases h) fr).2 _ h
/-- Some steps with told answers; some temporaries are kept, and all blocks. -/
noncomputable def walkS (P : Program) (X : Exts) (G n : Nat) (fr : Fr) (aa : List Ans) (ts : List Nat) : Option (Fr × List Ob) := match orun P X G n fr aa with
  | some (fr', os) => (match pickT fr'.T ts with
    | some l => some ({ fr' with T := mkT l }, os)
    | none => none)
  | none => none
theorem ST.walk (e : Env P G tabs X F) {n : Nat} {fr fr2 : Fr} {aa : List Ans} {ts : List Nat} {os : List Ob} {r : Res} (h : walkS P X G n fr aa ts = some (fr2, os)) (ho : Obs P F os) (g : ST P G tabs fr2 r) : ST P G tabs fr r := by
  unfold walkS at h
  split at h
  · rename_i fr' os' hr
    split at h
    · rename_i l hl
      simp at h
      obtain ⟨rfl, rfl⟩ := h
      exact ST.orun e n hr ho (ST.weaken (T2 := mkT l) (M2 := fr'.M) (fun t v hv => pickT_mem hl t v (mkT_get l t v hv)) (fun _ _ h => h) g)
    · cases h
  · cases h
/-- .. to the end. -/
noncomputable def endsS (P : Program) (X : Exts) (G n : Nat) (fr : Fr) (aa : List Ans) : Option (Res × List Ob) := match orun P X G n fr aa with
  | some (fr2, os) => (match fstep (fun _ => none) P X.bare G fr2 with
    | .done r => some (r, os)
    | _ => none)
  | none => none
theorem ST.ends (e : Env P G tabs X F) {n : Nat} {fr : Fr} {aa : List Ans} {os : List Ob} {r : Res} (h : endsS P X G n fr aa = some (r, os)) (ho : Obs P F os) : ST P G tabs fr r := by
  unfold endsS at h
  split at h
  · rename_i fr2 os' hr
    split at h
    · rename_i r' hd
      simp at h
      obtain ⟨rfl, rfl⟩ := h
      exact ST.orun e n hr ho (ST.done e hd)
    · cases h
  · cases h
/-- Of the blocks that are left some may be forgotten; numbers that are free then may be given anew by the caller. -/
theorem ST.leave {fr : Fr} {v : Value} {up : FrameMode} {M M2 : Tr Blk} {nx : Nat} (hM : ∀ n x, M2.get n = some x → M.get n = some x) (g : ST P G tabs fr (.ret v up M nx)) : ST P G tabs fr (.ret v up M2 nx) := by
  intro w0 hl ι b a mode cs w todo st
  obtain ⟨κ, w', p1, p2⟩ := g w0 hl ι b a mode cs w todo st
  have h := p1.rel
  refine ⟨κ, w', ⟨p1.ext, p1.new, fun n hn => p1.dom n fun he => ?_, p1.le, ⟨h.kinds, h.uniq, fun b x l hm hi => h.live b x l (hM _ _ hm) hi, fun b b' x x' l l' hm hm' hd hd' h1 h2 he => h.inj b b' x x' l l' (hM _ _ hm) (hM _ _ hm') hd hd' h1 h2 he, fun b x l hm hw hi => h.own b x l (hM _ _ hm) hw hi, h.size, h.old, h.os, h.output, h.tape, fun a v ha => ⟨(h.fz a v ha).1, fun b x l hm hw hi => (h.fz a v ha).2 b x l (hM _ _ hm) hw hi⟩⟩, p1.frame, p1.size, p1.fzn⟩, ?_⟩
  · apply hn
    show M2.get n = none
    cases hq : M2.get n with
    | none => rfl
    | some x =>
      have he' : M.get n = none := he
      rw [hM _ _ hq] at he'; cases he'
  · generalize fr.dk = dk at p2 ⊢
    generalize fr.rnd = rnd at p2 ⊢
    cases p2 with
    | ret hr hs ha hfn hres hv hcs => exact .ret hr hs ha hfn hres hv hcs
    | round hr hs hv => exact .round hr hs hv
theorem StOk.of {f : FuncId} {as : List Value} {M M' : Tr Blk} {nx nx' : Nat} {fr : Fr} {v : Value} (hfr : enterFr P f as false .run M nx = some fr) (h : ST P G tabs fr (.ret v .run M' nx')) : StOk P G tabs f as M nx v M' nx' :=
  fun w0 hl => ⟨fr, hfr, (h w0 hl).sound⟩
end
theorem load_new {P : Program} {M : Tr Blk} {nx o : Nat} {t : TypeId} {vs : List Value} {v : Value} (h : aAgg P t = some false) (hv : vs[o]? = some v) : aLoad P (M.set nx (.cells false vs)) t (.pointer (some ⟨256 * nx, o, none⟩)) = some v := by
  have hm : (M.set nx (.cells false vs)).get (256 * nx / 256) = some (.cells false vs) := by
    rw [show 256 * nx / 256 = nx by omega, Tr.get_set_same]
  exact load_own hm rfl h hv
end Go.Proofs.YtihloomkgpflmaaGreatDoor.Vm

namespace Go.Proofs.YtihloomkgpflmaaGreatDoor.Vm
/-- Lists of values, some nil slices of the first told as rows without cells in the second. -/
inductive NilL : List Value → List Value → Prop
  | nil : NilL [] []
  | same {v : Value} {xs ys : List Value} (t : NilL xs ys) : NilL (v :: xs) (v :: ys)
  | none {xs ys : List Value} (t : NilL xs ys) : NilL (.slice .none 0 0 :: xs) (mkDat 0 [] :: ys)
theorem NilL.rel {ι : Iota} : ∀ {xs ys us : List Value}, NilL xs ys → VRL ι xs us → VRL ι ys us
  | _, _, _, .nil, .nil => .nil
  | _, _, _, .same t, .cons hv tv => .cons hv (NilL.rel t tv)
  | _, _, _, .none t, .cons hv tv => by
    refine .cons ?_ (NilL.rel t tv)
    cases hv
    exact .dat0 _
/-- A block, told so. -/
inductive NilB : Blk → Blk → Prop
  | same {x : Blk} : NilB x x
  | cells {ro : Bool} {xs ys : List Value} (h : NilL xs ys) : NilB (.cells ro xs) (.cells ro ys)
theorem PT.nils {P : Program} {G : Nat} {tabs : List (Nat × List Value)} {fr : Fr} {M2 : Tr Blk} {v : Value} (hM : ∀ k x2, M2.get k = some x2 → ∃ x, fr.M.get k = some x ∧ NilB x x2) (g : PT P G tabs { fr with M := M2 } v) : PT P G tabs fr v := by
  intro w0 hl ι b a mode cs w todo st
  have h := st.rel
  have hR : R w0 ι M2 w := by
    refine ⟨h.kinds, h.uniq, fun b x l hm hi => ?_, fun b b' x x' l l' hm hm' hd hd' h1 h2 he => ?_, fun b x l hm hw hi => ?_, h.size, h.old, h.os, h.output, h.tape, fun a v ha => ⟨(h.fz a v ha).1, fun b x l hm hw hi => ?_⟩⟩
    · obtain ⟨y, q1, q2⟩ := hM _ _ hm
      obtain ⟨o, g1, g2⟩ := h.live b y l q1 hi
      refine ⟨o, g1, ?_⟩
      cases q2 with
      | same => exact g2
      | cells hn =>
        cases g2 with
        | cells hg g2 => exact .cells hg (hn.rel g2)
    · obtain ⟨y, q1, q2⟩ := hM _ _ hm
      obtain ⟨y', q1', q2'⟩ := hM _ _ hm'
      exact h.inj b b' y y' l l' q1 q1' (by cases q2 with | same => exact hd | cells => rfl) (by cases q2' with | same => exact hd' | cells => rfl) h1 h2 he
    · obtain ⟨y, q1, q2⟩ := hM _ _ hm
      exact h.own b y l q1 (by cases q2 with | same => exact hw | cells => exact hw) hi
    · obtain ⟨y, q1, q2⟩ := hM _ _ hm
      exact (h.fz a v ha).2 b y l q1 (by cases q2 with | same => exact hw | cells => exact hw) hi
  exact g w0 hl ι b a mode cs w todo ⟨hR, st.gok, ⟨st.fm.fn, st.fm.tm, st.fm.ds, st.fm.mode, st.fm.kind, st.fm.rnd, st.fm.up⟩, st.fresh, st.rc, st.td⟩
theorem nice_slice {b o n c : Nat} : veq 1000000 (.slice (some ⟨b, o, none⟩) n c) (.slice (some ⟨b, o, none⟩) n c) = true := by
  simp [veq, veqAddr]
/-- What a struct with a row of the call's own is by its contents: the row stands last. -/
theorem frz_last {M : Tr Blk} {b n c : Nat} {x : Blk} {vs pre : List Value} (hm : M.get (b / 256) = some x) (hx : x.mine = true) (hv : x.vals = some vs) (hc : n ≤ c) : Frz M .nil (.agg ⟨pre ++ [.slice (some ⟨b, 0, none⟩) n c]⟩) (.agg ⟨pre ++ [mkDat n vs]⟩) := by
  refine .agg ?_
  induction pre with
  | nil =>
    refine .cons (.slice vs.length hm ⟨x, hm, hx, fun x2 h2 => by simp [Tr.get_nil] at h2⟩ hv hc ?_) .nil
    rw [List.drop_zero, List.take_length]
    exact FrzL.same
  | cons p pre ih => exact .cons .same ih
theorem frz_none {M : Tr Blk} {pre : List Value} : Frz M .nil (.agg ⟨pre ++ [.slice none 0 0]⟩) (.agg ⟨pre ++ [mkDat 0 []]⟩) := by
  refine .agg ?_
  induction pre with
  | nil => exact .cons .nil .nil
  | cons p pre ih => exact .cons .same ih
end Go.Proofs.YtihloomkgpflmaaGreatDoor.Vm

namespace Go.Proofs.YtihloomkgpflmaaGreatDoor.Vm
/-- What is left of blocks: as they were, frozen, or with frozen contents. -/
def LeftF (M M2 : Tr Blk) : Prop := ∀ n x2, M2.get n = some x2 → ∃ x, M.get n = some x ∧ (x2 = x ∨ x.fzn = some x2 ∨ ∃ ro vs vs', x = .cells ro vs ∧ x2 = .cells ro vs' ∧ FrzL M M2 vs vs')
theorem LeftF.wr {M M2 : Tr Blk} {x x2 : Blk} (h : x2 = x ∨ x.fzn = some x2 ∨ ∃ ro vs vs', x = .cells ro vs ∧ x2 = .cells ro vs' ∧ FrzL M M2 vs vs') (hw : x2.wr = true) : x.wr = true := by
  rcases h with rfl | h | ⟨ro, vs, vs', rfl, rfl, _⟩
  · exact hw
  · rw [(Blk.fzn_mine h).2.1] at hw; cases hw
  · exact hw
theorem LeftF.mine {M M2 : Tr Blk} {x x2 : Blk} (h : x2 = x ∨ x.fzn = some x2 ∨ ∃ ro vs vs', x = .cells ro vs ∧ x2 = .cells ro vs' ∧ FrzL M M2 vs vs') (hw : x2.mine = true) : x.mine = true := by
  rcases h with rfl | h | ⟨ro, vs, vs', rfl, rfl, _⟩
  · exact hw
  · exact (Blk.fzn_mine h).1
  · exact hw
theorem LeftF.live {M M2 : Tr Blk} {x x2 : Blk} (h : x2 = x ∨ x.fzn = some x2 ∨ ∃ ro vs vs', x = .cells ro vs ∧ x2 = .cells ro vs' ∧ FrzL M M2 vs vs') (hw : x2.isDead = false) : x.isDead = false := by
  rcases h with rfl | h | ⟨ro, vs, vs', rfl, rfl, _⟩
  · exact hw
  · exact Blk.live_of_mine (Blk.fzn_mine h).1
  · rfl
theorem freezeF_R {w0 : World} {κ : Iota} {M M2 : Tr Blk} {w : World} (hR : R w0 κ M w) (hl : LeftF M M2) : R w0 (κ.freeze M M2 w) M2 w := by
  have hex : Ext κ (κ.freeze M M2 w) := ⟨fun _ _ h => h, fun _ _ h => .inl h⟩
  refine ⟨hR.kinds, hR.uniq, fun b x l hm hi => ?_, fun b b' x x' l l' hm hm' hd hd' hi hi' e => ?_, fun b x l hm hw hi => ?_, hR.size, hR.old, hR.os, hR.output, hR.tape, fun a v ha => ⟨?_, fun b x l hm hw hi => ?_⟩⟩
  · obtain ⟨y, h1, h2⟩ := hl _ _ hm
    obtain ⟨o, g1, g2⟩ := hR.live b y l h1 hi
    refine ⟨o, g1, ?_⟩
    rcases h2 with rfl | h2 | ⟨ro, vs, vs', rfl, rfl, h3⟩
    · exact g2.mono hex
    · exact (g2.fzn h2).mono hex
    · cases g2 with
      | cells hg g2 => exact .cells hg (h3.relL hR g2)
  · obtain ⟨y, h1, h2⟩ := hl _ _ hm
    obtain ⟨y', h1', h2'⟩ := hl _ _ hm'
    exact hR.inj b b' y y' l l' h1 h1' (LeftF.live h2 hd) (LeftF.live h2' hd') hi hi' e
  · obtain ⟨y, h1, h2⟩ := hl _ _ hm
    exact hR.own b y l h1 (LeftF.mine h2 hw) hi
  · rcases ha with h | ⟨b, l, _, _, _, h⟩
    · exact (hR.fz a v h).1
    · exact h
  · obtain ⟨y, h1, h2⟩ := hl _ _ hm
    have hy := LeftF.wr h2 hw
    rcases ha with h | ⟨bd, ld, ⟨xd, g1, g2, g3⟩, g4, g5, _⟩
    · exact (hR.fz a v h).2 b y l h1 hy hi
    · intro e
      have := hR.inj b bd y xd l ld h1 g1 (Blk.live_of_mine (Blk.mine_of_wr hy)) (Blk.live_of_mine g2) hi g4 (by omega)
      subst this
      have := g3 x hm
      rw [hw] at this; cases this
theorem PT.frz {P : Program} {G : Nat} {tabs : List (Nat × List Value)} {fr : Fr} {T2 : Tr Value} {M2 : Tr Blk} {v : Value} (hT : ∀ t v', T2.get t = some v' → ∃ v, fr.T.get t = some v ∧ Frz fr.M M2 v v') (hl : LeftF fr.M M2) (g : PT P G tabs { fr with T := T2, M := M2 } v) : PT P G tabs fr v := by
  intro w0 hlaid ι b a mode cs w todo st
  have hex : Ext ι (ι.freeze fr.M M2 w) := ⟨fun _ _ h => h, fun _ _ h => .inl h⟩
  have hR := freezeF_R st.rel hl
  obtain ⟨μ, w2, q0, q1, q2, q3⟩ := g w0 hlaid (ι.freeze fr.M M2 w) b a mode cs w todo ⟨hR, fun g hg => hex _ _ (st.gok g hg),
    ⟨st.fm.fn, ⟨st.fm.tm.1, fun t x hx => by
      obtain ⟨y, h1, h2⟩ := hT t x hx
      obtain ⟨u, h3, h4⟩ := st.fm.tm.2 t y h1
      exact ⟨u, h3, h2.rel st.rel h4⟩⟩, st.fm.ds.mono hex, st.fm.mode.mono hex, st.fm.kind, st.fm.rnd.mono hex, st.fm.up.mono hex⟩,
    fun c hc => st.fresh c hc, st.rc, st.td⟩
  refine ⟨μ, w2, q0, fun a z hz => q1 a z (.inl hz), fun a z hz => ?_, q3⟩
  rcases q2 a z hz with e | e
  · rcases e with e | ⟨b', l, ⟨x, g1, g2, g3⟩, g4, g5, _⟩
    · exact .inl e
    · right
      have := st.rel.own b' x l g1 g2 g4
      omega
  · exact .inr e
/-- An append to nothing, of a frozen row of cells. -/
theorem app_dat {P : Program} {t e : TypeId} {M M' : Tr Blk} {nx n : Nat} {cs : List Value} {bytes : Nat} (ht : P.underlying t = some (.slice e)) (hi : (P.info? e).map (fun i => (i.size, i.bytes, i.zero.map (·.cells.size))) = some (1, bytes, some 1)) (hn : cs.length = n + 1) (h1 : cs.all (·.oneCell') = true) (hb : (n + 1) * bytes ≤ 140737488355328) (hb2 : n + 1 ≤ 1000000000) (hM : M.set nx (.grow cs) = M') :
    aAppend P M nx t (.slice none 0 0) (mkDat (n + 1) cs) = some (.slice (some ⟨256 * nx + 1, 0, none⟩) (n + 1) (n + 1), M', nx + 1) := by
  obtain ⟨i, hi1, hi2⟩ := Option.map_eq_some_iff.1 hi
  have hs : i.size = 1 := congrArg Prod.fst hi2
  have hbs : i.bytes = bytes := congrArg (fun p => p.2.1) hi2
  have hz : i.zero.map (·.cells.size) = some 1 := congrArg (fun p => p.2.2) hi2
  obtain ⟨z, hz1, hz2⟩ := Option.map_eq_some_iff.1 hz
  have hc : Vm.cut cs 0 (n + 1) = some cs := by
    have := cut_all h1
    rwa [hn] at this
  have c4 : (Nat.blt 0 1 && Nat.blt 1 256 && Nat.beq 1 1) = true := rfl
  have c5 : (Nat.ble ((n + 1) * bytes) 140737488355328 && Nat.ble (n + 1) 1000000000) = true := by
    rw [Bool.and_eq_true, Nat.ble_eq, Nat.ble_eq]; exact ⟨hb, hb2⟩
  simp only [aAppend, ht, hi1, hz1, hs, hz2, c4, cond_true, datOf, Nat.mul_one, hc, aAppendTo, hbs, c5, hM]
theorem app_none {P : Program} {t e : TypeId} {M : Tr Blk} {nx : Nat} {cs : List Value} {bytes : Nat} (ht : P.underlying t = some (.slice e)) (hi : (P.info? e).map (fun i => (i.size, i.bytes, i.zero.map (·.cells.size))) = some (1, bytes, some 1)) :
    aAppend P M nx t (.slice none 0 0) (mkDat 0 cs) = some (.slice none 0 0, M, nx) := by
  obtain ⟨i, hi1, hi2⟩ := Option.map_eq_some_iff.1 hi
  have hs : i.size = 1 := congrArg Prod.fst hi2
  have hz : i.zero.map (·.cells.size) = some 1 := congrArg (fun p => p.2.2) hi2
  obtain ⟨z, hz1, hz2⟩ := Option.map_eq_some_iff.1 hz
  have c4 : (Nat.blt 0 1 && Nat.blt 1 256 && Nat.beq 1 1) = true := rfl
  have c6 : Nat.ble 0 0 = true := rfl
  simp only [aAppend, ht, hi1, hz1, hs, hz2, c4, cond_true, datOf, c6]
end Go.Proofs.YtihloomkgpflmaaGreatDoor.Vm

namespace Go.Proofs.YtihloomkgpflmaaGreatDoor.Vm
/-- All cells of a world. -/
abbrev cellsW (W : World) : Addr → Value → Prop := fun a z => W.cell? a = some z
theorem call_of_pure {P : Program} {G : Nat} {tabs : List (Nat × List Value)} {f : FuncId} {args : List Value} {t : Bool} (h : PureOk P G tabs f args (.bool t)) {W : World} (hl : Laid G tabs W)
    {bs : Array Value} (ha : VRL (iotaZ G (cellsW W)) args bs.toList) : Calls P f bs W fun e W' => e = .returned (.bool t) ∧ W'.os = W.os ∧ W'.output = W.output ∧ W.heap.size ≤ W'.heap.size ∧ (∀ i, i < W.heap.size → W'.heap[i]? = W.heap[i]?) ∧ W'.tape = W.tape := by
  intro cs
  obtain ⟨_, _, fr, hfr, hps⟩ := h
  obtain ⟨b, a, e1, e2, e3, e4, e5, e6, e7⟩ := enterFr_rel (ι := iotaZ G (cellsW W)) (cs := cs) hfr ha (fun x => by cases x)
  simp only [Bool.false_eq_true, if_false] at e1
  obtain ⟨κ, w', p1, _, _, p2⟩ := hps W hl (iotaZ G (cellsW W)) b a .run cs W (by rw [e3]; exact R_startZ hl fun _ _ h => h) GOk_iotaZ e2 (by rw [e4]; exact FreshU_iotaZ)
  cases p2 with
  | ret hr0 hs hads hfn hres hv hcs =>
    rename_i u a2 todo2 fn cs'
    rw [e5] at hcs
    simp only [UpTo] at hcs
    subst hcs
    cases hv
    have hbk : b.kind = .normal := by have := e2.kind; rw [e5] at this; simpa using this
    refine ⟨.returned (.bool t), w', atM b a2 todo2 .returning, ⟨rfl, p1.os, p1.output, p1.size, p1.old, p1.tape⟩, ?_, e7, ⟨rfl, hads, hbk, fn, hfn, hres⟩⟩
    rw [e1]
    exact hs
  | round hr0 => exact absurd e6 hr0
end Go.Proofs.YtihloomkgpflmaaGreatDoor.Vm
