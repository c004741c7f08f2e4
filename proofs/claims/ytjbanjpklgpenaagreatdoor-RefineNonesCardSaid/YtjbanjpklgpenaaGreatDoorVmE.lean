/-
  THE ABSTRACT INTERPRETER, part E: slicing, building, comparing with nil, conversions, what a call of len, max, min comes to.
-/
import Derived.Test.YtjbanjpklgpenaaGreatDoorVmD
namespace Go.Proofs.YtjbanjpklgpenaaGreatDoor.Vm

/-! ### slices -/
/-- A bound of a slice expression, at most y. -/
def bnd (x : Option Value) (d y : Nat) : Option Nat := match x with
  | none => some d
  | some (.int _ (.ofNat m)) => bif Nat.ble m y then some m else none
  | _ => none
theorem run_bnd {ι : Iota} {x u : Value} {d y m : Nat} {P : Program} {w : World} {code : BoundsCode} (hx : VR ι x u) (h : bnd (some x) d y = some m) {y' : Nat} (hy : y ≤ y') : m ≤ y ∧ (Instr.sliceBound u y' code).run P w = .ok m w := by
  cases hx <;> simp only [bnd, reduceCtorEq] at h
  case int k n =>
    cases n with
    | negSucc n => simp at h
    | ofNat n =>
      simp only at h
      cases hb : Nat.ble n y with
      | false => rw [hb] at h; simp at h
      | true =>
        rw [hb] at h; simp at h; subst h
        rw [Nat.ble_eq] at hb
        refine ⟨hb, ?_⟩
        have h1 : (0 : Int) ≤ (n : Int) ∧ (n : Int) ≤ (y' : Int) := by omega
        simp [Instr.sliceBound, asIntOf, h1]

inductive OptR (ι : Iota) : Option Value → Option Value → Prop
  | none : OptR ι none none
  | some {v u : Value} (h : VR ι v u) : OptR ι (some v) (some u)

/-- x[lo:hi]: the bounds of a slice of length n and capacity c (at least c). -/
theorem run_bounds {ι : Iota} {lo hi lo' hi' : Option Value} {n c l h c' : Nat} {P : Program} {w : World} (b : Bool) (hlo : OptR ι lo lo') (hhi : OptR ι hi hi') (h1 : bnd hi n c = some h) (h2 : bnd lo 0 h = some l) (hc : c ≤ c') (hn : n ≤ c) :
    l ≤ h ∧ h ≤ c ∧ (Instr.sliceBounds b n c' lo' hi' none).run P w = .ok (l, h, c') w := by
  cases hhi with
  | none =>
    simp [bnd] at h1; subst h1
    cases hlo with
    | none => simp [bnd] at h2; subst h2; exact ⟨Nat.zero_le _, hn, by simp [Instr.sliceBounds]⟩
    | some hv =>
      obtain ⟨g1, g2⟩ := run_bnd (P := P) (w := w) (code := .sliceB) hv h2 (Nat.le_refl n)
      exact ⟨g1, hn, by simp [Instr.sliceBounds, g2]⟩
  | some hu =>
    obtain ⟨k1, k2⟩ := run_bnd (P := P) (w := w) (code := (if b then .sliceAcap else .sliceAlen)) hu h1 hc
    cases hlo with
    | none => simp [bnd] at h2; subst h2; exact ⟨Nat.zero_le _, k1, by simp [Instr.sliceBounds, k2]⟩
    | some hv =>
      obtain ⟨g1, g2⟩ := run_bnd (P := P) (w := w) (code := .sliceB) hv h2 (Nat.le_refl h)
      exact ⟨g1, k1, by simp [Instr.sliceBounds, k2, g2]⟩

def aSlice (P : Program) (t : TypeId) (x : Value) (lo hi : Option Value) : Option Value := match P.underlying t, x with
  | some (.slice elem), .slice a n c => (match Nat.ble n c, bnd hi n c with
    | true, some h => (match bnd lo 0 h, aSize P elem with
      | some l, some sz => (match a with
        | none => some (.slice none (h - l) (c - l))
        | some ⟨b, o, none⟩ => (match b % 256, Nat.beq l c with
          | 0, true => some (.slice (some ⟨b, o, none⟩) (h - l) (c - l))
          | 0, false => some (.slice (some ⟨b, o + l * sz, none⟩) (h - l) (c - l))
          | _ + 1, true => some (.slice (some ⟨b, o, none⟩) 0 0)
          | k + 1, false => bif Nat.beq (k + 1) sz then some (.slice (some ⟨b, o + l * sz, none⟩) (h - l) (c - l)) else none)
        | _ => none)
      | _, _ => none)
    | _, _ => none)
  | some .string, .string s => (match bnd hi s.size s.size with
    | some h => (match bnd lo 0 h with
      | some l => some (.string ⟨((s.data.toList.drop l).take (h - l)).toArray⟩)
      | none => none)
    | none => none)
  | some (.array len elem), .pointer (some ⟨b, o, none⟩) => (match bnd hi len len with
    | some h => (match bnd lo 0 h, aSize P elem, b % 256 with
      | some l, some sz, 0 => (match Nat.beq l len with
        | true => some (.slice (some ⟨b, o, none⟩) (h - l) (len - l))
        | false => some (.slice (some ⟨b, o + l * sz, none⟩) (h - l) (len - l)))
      | _, _, _ => none)
    | none => none)
  | _, _ => none

theorem extract_str (s : ByteArray) (l h : Nat) : s.extract l h = ⟨((s.data.toList.drop l).take (h - l)).toArray⟩ := by
  apply ByteArray.ext
  rw [ByteArray.data_extract]
  apply Array.ext'
  rw [Array.toList_extract, List.extract_eq_take_drop]

theorem beq_false_ne {a b : Nat} (h : Nat.beq a b = false) : a ≠ b := fun e => by rw [e] at h; simp [Nat.beq_refl] at h

/-- Iotas put blocks of a kind where their numbers say. -/
def Kinds (ι : Iota) : Prop := ∀ b l, ι b = some l → (l.gr = none ↔ b % 256 = 0)

theorem run_aSlice {ι : Iota} {P : Program} {t : TypeId} {x u v : Value} {lo hi lo' hi' : Option Value} (hk : Kinds ι) (hx : VR ι x u) (hlo : OptR ι lo lo') (hhi : OptR ι hi hi') (h : aSlice P t x lo hi = some v) : Comes1 P ι (Instr.sliceAt t u lo' hi' none) v := by
  unfold aSlice at h
  split at h
  · rename_i elem a n c hu
    split at h
    · rename_i hh hn hb
      rw [Nat.ble_eq] at hn
      split at h
      · rename_i l sz hl hs
        have plain : ∀ (base : Option Addr) (c' : Nat) (w : World), c ≤ c' → (l ≤ hh ∧ hh ≤ c) ∧ (Instr.sliceAt t (.slice base n c') lo' hi' none).run P w = .ok (.slice (if c' = l then base else base.map (·.add (l * sz))) (hh - l) (c' - l)) w := by
          intro base c' w hc
          obtain ⟨g1, g2, g3⟩ := run_bounds (P := P) (w := w) true hlo hhi hb hl hc hn
          exact ⟨⟨g1, g2⟩, by simp [Instr.sliceAt, Instr.slice, run_underlying hu, g3, run_aSize hs]⟩
        split at h
        · simp at h; subst h
          cases hx with
          | sl0 => exact ⟨_, .sl0 _ _, fun w => by rw [(plain none c w (Nat.le_refl _)).2]; simp⟩
        · rename_i b o
          split at h
          · rename_i hb0 hlc
            simp at h; subst h
            have e := Nat.eq_of_beq_eq_true hlc
            cases hx with
            | sl n c hι hg hb => exact ⟨_, .sl _ _ hι hg hb, fun w => by rw [(plain _ c w (Nat.le_refl _)).2]; simp [e]⟩
            | slg n c C hι hg hb => exact absurd hb0 hb
            | sle a c hι hg hbb => exact absurd hb0 hbb
          · rename_i hb0 hlc
            simp at h; subst h
            have e := beq_false_ne hlc
            cases hx with
            | sl n c hι hg hb => exact ⟨_, .sl _ _ hι hg hb, fun w => by rw [(plain _ c w (Nat.le_refl _)).2, if_neg (by omega)]; simp [add_none]⟩
            | slg n c C hι hg hb => exact absurd hb0 hb
            | sle a c hι hg hbb => exact absurd hb0 hbb
          · rename_i k hb0 hlc
            simp at h; subst h
            have e := Nat.eq_of_beq_eq_true hlc
            subst e
            cases hx with
            | sl n c hι hg hb => omega
            | slg n c C hι hg hb h0 hn' ho hc hC =>
              rename_i l0 base cap e
              have hr := plain (some ⟨l0.blk, base + o, none⟩) C
              have hw := (hr default (by omega)).1
              refine ⟨.slice (some (if C = l then ⟨l0.blk, base + o, none⟩ else (⟨l0.blk, base + o, none⟩ : Addr).add (l * sz))) 0 (C - l), .sle _ _ hι hg hb, fun w => ?_⟩
              rw [(hr w (by omega)).2]
              rw [show hh - l = 0 by omega]
              split <;> simp
            | sle a c hι hg hbb =>
              rename_i l0 g
              have hr := plain (some a) c
              have hw := (hr default (by omega)).1
              refine ⟨.slice (some (if c = 0 then a else a.add (0 * sz))) 0 (c - 0), .sle _ _ hι hg hbb, fun w => ?_⟩
              rw [(hr w (by omega)).2]
              rw [show hh - 0 = 0 by omega]
              split <;> simp
          · rename_i k hb0 hlc
            have e := beq_false_ne hlc
            cases hs' : Nat.beq (k + 1) sz with
            | false => rw [hs'] at h; simp at h
            | true =>
              rw [hs'] at h; simp at h; subst h
              have es := Nat.eq_of_beq_eq_true hs'
              cases hx with
              | sl n c hι hg hb => omega
              | slg n c C hι hg hb h0 hn' ho hc hC =>
                rename_i l0 base cap e0
                have hr := plain (some ⟨l0.blk, base + o, none⟩) C
                have hw := (hr default (by omega)).1
                have hsz : sz = b % 256 := by omega
                refine ⟨.slice (some ⟨l0.blk, base + (o + l * sz), none⟩) (hh - l) (C - l), .slg (e := e0 + l) _ _ _ hι hg hb (by omega) (by omega) (by rw [ho, hsz, Nat.add_mul]) (by omega) (by omega), fun w => ?_⟩
                rw [(hr w (by omega)).2, if_neg (by omega)]
                simp [add_none, Nat.add_assoc]
              | sle a c hι hg hb =>
                have hw := (plain (some a) c default (by omega)).1
                omega
        · cases h
      · cases h
    · cases h
  · rename_i s hu
    split at h
    · rename_i hh hb
      split at h
      · rename_i l hl
        simp at h; subst h
        cases hx
        refine ⟨_, .str _, fun w => ?_⟩
        obtain ⟨g1, g2, g3⟩ := run_bounds (P := P) (w := w) false hlo hhi hb hl (Nat.le_refl _) (Nat.le_refl _)
        simp [Instr.sliceAt, Instr.slice, run_underlying hu, g3, extract_str]
      · cases h
    · cases h
  · rename_i len elem b o hu
    split at h
    · rename_i hh hb
      split at h
      · rename_i l sz hl hs hb0
        cases hx with
        | ptr hι =>
          rename_i l0
          have hg : l0.gr = none := (hk _ _ hι).2 hb0
          have hoff : ∀ o, l0.off o = o := fun o => by unfold Loc.off; rw [hg]
          have run : ∀ w, (Instr.sliceAt t (.pointer (some ⟨l0.blk, l0.off o, none⟩)) lo' hi' none).run P w = .ok (.slice (some (if len = l then ⟨l0.blk, o, none⟩ else ⟨l0.blk, o + l * sz, none⟩)) (hh - l) (len - l)) w := fun w => by
            obtain ⟨g1, g2, g3⟩ := run_bounds (P := P) (w := w) false hlo hhi hb hl (Nat.le_refl _) (Nat.le_refl _)
            simp [Instr.sliceAt, run_underlying hu, Instr.sureAddr, g3, run_aSize hs, hoff, add_none]
          split at h
          · rename_i hlc
            have e := Nat.eq_of_beq_eq_true hlc
            simp at h; subst h
            exact ⟨_, .sl _ _ hι hg hb0, fun w => by rw [run w, if_pos e.symm]⟩
          · rename_i hlc
            have e := beq_false_ne hlc
            simp at h; subst h
            exact ⟨_, .sl _ _ hι hg hb0, fun w => by rw [run w, if_neg (fun x => e x.symm)]⟩
      · cases h
    · cases h
  · cases h
/-! ### building -/
/-- x[lo:hi:mx] of a slice. -/
def aSlice3 (P : Program) (t : TypeId) (x : Value) (lo hi : Option Value) (mx : Value) : Option Value := match P.underlying t, x, hi with
  | some (.slice elem), .slice a n c, some _ => (match Nat.ble n c, bnd (some mx) c c with
    | true, some m => (match bnd hi n m with
      | some h => (match bnd lo 0 h, aSize P elem with
        | some l, some sz => (match a with
          | none => some (.slice none (h - l) (m - l))
          | some ⟨b, o, none⟩ => (match b % 256, Nat.beq l m with
            | 0, true => some (.slice (some ⟨b, o, none⟩) (h - l) (m - l))
            | 0, false => some (.slice (some ⟨b, o + l * sz, none⟩) (h - l) (m - l))
            | _ + 1, true => some (.slice (some ⟨b, o, none⟩) 0 0)
            | k + 1, false => bif Nat.beq (k + 1) sz then some (.slice (some ⟨b, o + l * sz, none⟩) (h - l) (m - l)) else none)
          | _ => none)
        | _, _ => none)
      | none => none)
    | _, _ => none)
  | _, _, _ => none
theorem run_aSlice3 {ι : Iota} {P : Program} {t : TypeId} {x u v mx mx' : Value} {lo hi lo' hi' : Option Value} (hx : VR ι x u) (hlo : OptR ι lo lo') (hhi : OptR ι hi hi') (hm : VR ι mx mx') (h : aSlice3 P t x lo hi mx = some v) : Comes1 P ι (Instr.sliceAt t u lo' hi' (some mx')) v := by
  unfold aSlice3 at h
  split at h
  · rename_i elem a n c hv hu
    split at h
    · rename_i m hn hb
      rw [Nat.ble_eq] at hn
      split at h
      · rename_i hh hb2
        split at h
        · rename_i l sz hl hs
          cases hhi with
          | some hhv =>
            rename_i hv'
            have plain : ∀ (base : Option Addr) (c' : Nat) (w : World), c ≤ c' → (l ≤ hh ∧ hh ≤ m ∧ m ≤ c) ∧ (Instr.sliceAt t (.slice base n c') lo' (some hv') (some mx')).run P w = .ok (.slice (if m = l then base else base.map (·.add (l * sz))) (hh - l) (m - l)) w := by
              intro base c' w hc
              obtain ⟨g1, g2⟩ := run_bnd (P := P) (w := w) (code := .slice3Acap) hm hb hc
              obtain ⟨g3, g4⟩ := run_bnd (P := P) (w := w) (code := .slice3B) hhv hb2 (Nat.le_refl m)
              cases hlo with
              | none =>
                simp [bnd] at hl; subst hl
                exact ⟨⟨Nat.zero_le _, g3, g1⟩, by simp [Instr.sliceAt, Instr.slice, Instr.sliceBounds, run_underlying hu, g2, g4, run_aSize hs]⟩
              | some hlv =>
                obtain ⟨g5, g6⟩ := run_bnd (P := P) (w := w) (code := .slice3C) hlv hl (Nat.le_refl hh)
                exact ⟨⟨g5, g3, g1⟩, by simp [Instr.sliceAt, Instr.slice, Instr.sliceBounds, run_underlying hu, g2, g4, g6, run_aSize hs]⟩
            split at h
            · simp at h; subst h
              cases hx with
              | sl0 => exact ⟨_, .sl0 _ _, fun w => by rw [(plain none c w (Nat.le_refl _)).2]; simp⟩
            · rename_i b o
              split at h
              · rename_i hb0 hlc
                simp at h; subst h
                have e := Nat.eq_of_beq_eq_true hlc
                cases hx with
                | sl n c hι hg hb => exact ⟨_, .sl _ _ hι hg hb, fun w => by rw [(plain _ c w (Nat.le_refl _)).2]; simp [e]⟩
                | slg n c C hι hg hb => exact absurd hb0 hb
                | sle a c hι hg hbb => exact absurd hb0 hbb
              · rename_i hb0 hlc
                simp at h; subst h
                have e := beq_false_ne hlc
                cases hx with
                | sl n c hι hg hb => exact ⟨_, .sl _ _ hι hg hb, fun w => by rw [(plain _ c w (Nat.le_refl _)).2, if_neg (by omega)]; simp [add_none]⟩
                | slg n c C hι hg hb => exact absurd hb0 hb
                | sle a c hι hg hbb => exact absurd hb0 hbb
              · rename_i k hb0 hlc
                simp at h; subst h
                have e := Nat.eq_of_beq_eq_true hlc
                subst e
                cases hx with
                | sl n c hι hg hb => omega
                | slg n c C hι hg hb h0 hn' ho hc hC =>
                  rename_i l0 base cap e
                  have hr := plain (some ⟨l0.blk, base + o, none⟩) C
                  have hw := (hr default (by omega)).1
                  refine ⟨.slice (some ⟨l0.blk, base + o, none⟩) 0 (l - l), .sle _ _ hι hg hb, fun w => ?_⟩
                  rw [(hr w (by omega)).2]
                  rw [show hh - l = 0 by omega]
                  simp
                | sle a c hι hg hbb =>
                  rename_i l0 g
                  have hr := plain (some a) c
                  have hw := (hr default (by omega)).1
                  refine ⟨.slice (some a) 0 (l - l), .sle _ _ hι hg hbb, fun w => ?_⟩
                  rw [(hr w (by omega)).2]
                  rw [show hh - l = 0 by omega]
                  simp
              · rename_i k hb0 hlc
                have e := beq_false_ne hlc
                cases hs' : Nat.beq (k + 1) sz with
                | false => rw [hs'] at h; simp at h
                | true =>
                  rw [hs'] at h; simp at h; subst h
                  have es := Nat.eq_of_beq_eq_true hs'
                  cases hx with
                  | sl n c hι hg hb => omega
                  | slg n c C hι hg hb h0 hn' ho hc hC =>
                    rename_i l0 base cap e0
                    have hr := plain (some ⟨l0.blk, base + o, none⟩) C
                    have hw := (hr default (by omega)).1
                    have hsz : sz = b % 256 := by omega
                    refine ⟨.slice (some ⟨l0.blk, base + (o + l * sz), none⟩) (hh - l) (m - l), .slg (e := e0 + l) _ _ _ hι hg hb (by omega) (by omega) (by rw [ho, hsz, Nat.add_mul]) (Nat.le_refl _) (by omega), fun w => ?_⟩
                    rw [(hr w (by omega)).2, if_neg (by omega)]
                    simp [add_none, Nat.add_assoc]
                  | sle a c hι hg hb =>
                    have hw := (plain (some a) c default (by omega)).1
                    omega
            · cases h
        · cases h
      · cases h
    · cases h
  · cases h

theorem VRL.foldSet {ι : Iota} (off : Nat) : ∀ {as bs : List Value}, VRL ι as bs → ∀ (j : Nat) (xs ys : Array Value), VRL ι xs.toList ys.toList →
    VRL ι ((as.zipIdx j).foldl (fun cs (c, j) => cs.setIfInBounds (off + j) c) xs).toList ((bs.zipIdx j).foldl (fun cs (c, j) => cs.setIfInBounds (off + j) c) ys).toList
  | _, _, .nil, j, xs, ys, h => h
  | _, _, .cons hv t, j, xs, ys, h => by
    simp only [List.zipIdx_cons, List.foldl_cons]
    refine VRL.foldSet off t (j + 1) _ _ ?_
    rw [Array.toList_setIfInBounds, Array.toList_setIfInBounds]
    exact h.set _ hv

inductive PartsR (ι : Iota) : List (Nat × Value) → List (Nat × Value) → Prop
  | nil : PartsR ι [] []
  | cons {i : Nat} {v u : Value} {xs ys : List (Nat × Value)} (h : VR ι v u) (t : PartsR ι xs ys) : PartsR ι ((i, v) :: xs) ((i, u) :: ys)

theorem fill_rel {ι : Iota} (place : Nat → Option (Nat × Nat)) : ∀ {ps qs : List (Nat × Value)}, PartsR ι ps qs → ∀ (xs ys cells : Array Value), VRL ι xs.toList ys.toList → Instr.fill place xs ps = some cells →
    ∃ cells', Instr.fill place ys qs = some cells' ∧ VRL ι cells.toList cells'.toList
  | _, _, .nil, xs, ys, cells, h, e => by
    simp [Instr.fill] at e; subst e
    exact ⟨ys, by simp [Instr.fill], h⟩
  | _, _, .cons (i := i) (v := v) (u := u) hv t, xs, ys, cells, h, e => by
    unfold Instr.fill at e ⊢
    cases hp : place i with
    | none => rw [hp] at e; simp at e
    | some p =>
      obtain ⟨off, size⟩ := p
      rw [hp] at e
      simp only at e ⊢
      have hlen : v.cells.size = u.cells.size := by have := hv.cells.length; simpa using this
      have hlen2 : xs.size = ys.size := by have := h.length; simpa using this
      rw [← hlen, ← hlen2]
      split at e
      · cases e
      · rename_i hc
        rw [if_neg hc]
        rw [← Array.foldl_toList] at e ⊢
        rw [Array.toList_zipIdx] at e ⊢
        exact fill_rel place t _ _ cells (VRL.foldSet off hv.cells 0 xs ys h) e

def aBuild (P : Program) (t : TypeId) (parts : List (Nat × Value)) : Option Value := match aZero P t, P.built t parts with
  | some _, some cells => some (.agg cells)
  | _, _ => none
theorem run_aBuild {ι : Iota} {P : Program} {t : TypeId} {ps : List (Nat × Value)} {qs : Array (Nat × Value)} {v : Value} (hp : PartsR ι ps qs.toList) (h : aBuild P t ps = some v) : Comes1 P ι (Instr.build t qs) v := by
  unfold aBuild at h
  split at h
  · rename_i z cells hz hb
    simp at h; subst h
    unfold aZero at hz
    unfold Program.built at hb
    split at hb
    · rename_i it n e hi hu
      split at hb
      · rename_i z' ie hz' hie
        simp only [hi, hz'] at hz
        cases hc : okc z' with
        | false => rw [hc] at hz; simp at hz
        | true =>
          obtain ⟨cells', h1, h2⟩ := fill_rel _ hp z'.cells z'.cells cells (okc_self z' hc).cells hb
          refine ⟨.agg cells', .agg h2, fun w => run_build w t qs cells' ?_⟩
          unfold Program.built
          simp only [hi, hu, hz', hie]
          exact h1
      · cases hb
    · rename_i it fields hi hu
      split at hb
      · rename_i z' places hz' hie
        simp only [hi, hz'] at hz
        cases hc : okc z' with
        | false => rw [hc] at hz; simp at hz
        | true =>
          obtain ⟨cells', h1, h2⟩ := fill_rel _ hp z'.cells z'.cells cells (okc_self z' hc).cells hb
          refine ⟨.agg cells', .agg h2, fun w => run_build w t qs cells' ?_⟩
          unfold Program.built
          simp only [hi, hu, hz', hie]
          exact h1
      · cases hb
    · cases hb
  · cases h
end Go.Proofs.YtjbanjpklgpenaaGreatDoor.Vm
