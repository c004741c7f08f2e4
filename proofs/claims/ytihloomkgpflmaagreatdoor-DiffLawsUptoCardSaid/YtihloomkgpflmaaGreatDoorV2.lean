/-
  THE ABSTRACT INTERPRETER, part E: slicing, building, comparing with nil, conversions, what a call of len, max, min comes to.
  THE ABSTRACT INTERPRETER, part F: what is left of the operations that look at no memory; all of them in one function.
  THE ABSTRACT INTERPRETER, part G: one function for all operations that look at no memory.
-/
import Derived.Test.YtihloomkgpflmaaGreatDoorV1
set_option linter.unusedSimpArgs false
set_option linter.unusedVariables false
namespace Go.Proofs.YtihloomkgpflmaaGreatDoor.Vm

/-! ### slices -/
/-- A bound of a slice expression, at most y. -/
def bnd (x : Option Value) (d y : Nat) : Option Nat := match x with
  | none => some d
  | some (.int _ (.ofNat m)) => bif Nat.ble m y then some m else none
  | _ => none
theorem run_bnd {ι : Iota} {x u : Value} {d y m : Nat} {P : Program} {w : World} {code : BoundsCode} (hx : VR ι x u) (h : bnd (some x) d y = some m) {y' : Nat} (hy : y ≤ y') : m ≤ y ∧ (Instr.sliceBound u y' code).run P w = .ok m w := by
  cases hx <;> simp only [bnd, reduceCtorEq] at h
  case int k n =>
    cases n with
    | negSucc n => simp at h
    | ofNat n =>
      simp only at h
      cases hb : Nat.ble n y with
      | false => rw [hb] at h; simp at h
      | true =>
        rw [hb] at h; simp at h; subst h
        rw [Nat.ble_eq] at hb
        refine ⟨hb, ?_⟩
        have h1 : (0 : Int) ≤ (n : Int) ∧ (n : Int) ≤ (y' : Int) := by omega
        simp [Instr.sliceBound, asIntOf, h1]

inductive OptR (ι : Iota) : Option Value → Option Value → Prop
  | none : OptR ι none none
  | some {v u : Value} (h : VR ι v u) : OptR ι (some v) (some u)

/-- x[lo:hi]: the bounds of a slice of length n and capacity c (at least c). -/
theorem run_bounds {ι : Iota} {lo hi lo' hi' : Option Value} {n c l h c' : Nat} {P : Program} {w : World} (b : Bool) (hlo : OptR ι lo lo') (hhi : OptR ι hi hi') (h1 : bnd hi n c = some h) (h2 : bnd lo 0 h = some l) (hc : c ≤ c') (hn : n ≤ c) :
    l ≤ h ∧ h ≤ c ∧ (Instr.sliceBounds b n c' lo' hi' none).run P w = .ok (l, h, c') w := by
  cases hhi with
  | none =>
    simp [bnd] at h1; subst h1
    cases hlo with
    | none => simp [bnd] at h2; subst h2; exact ⟨Nat.zero_le _, hn, by simp [Instr.sliceBounds]⟩
    | some hv =>
      obtain ⟨g1, g2⟩ := run_bnd (P := P) (w := w) (code := .sliceB) hv h2 (Nat.le_refl n)
      exact ⟨g1, hn, by simp [Instr.sliceBounds, g2]⟩
  | some hu =>
    obtain ⟨k1, k2⟩ := run_bnd (P := P) (w := w) (code := (if b then .sliceAcap else .sliceAlen)) hu h1 hc
    cases hlo with
    | none => simp [bnd] at h2; subst h2; exact ⟨Nat.zero_le _, k1, by simp [Instr.sliceBounds, k2]⟩
    | some hv =>
      obtain ⟨g1, g2⟩ := run_bnd (P := P) (w := w) (code := .sliceB) hv h2 (Nat.le_refl h)
      exact ⟨g1, k1, by simp [Instr.sliceBounds, k2, g2]⟩

def aSlice (P : Program) (t : TypeId) (x : Value) (lo hi : Option Value) : Option Value := match P.underlying t, x with
  | some (.slice elem), .slice a n c => (match Nat.ble n c, bnd hi n c with
    | true, some h => (match bnd lo 0 h, aSize P elem with
      | some l, some sz => (match a with
        | none => some (.slice none (h - l) (c - l))
        | some ⟨b, o, none⟩ => (match b % 256, Nat.beq l c with
          | 0, true => some (.slice (some ⟨b, o, none⟩) (h - l) (c - l))
          | 0, false => some (.slice (some ⟨b, o + l * sz, none⟩) (h - l) (c - l))
          | _ + 1, true => some (.slice (some ⟨b, o, none⟩) 0 0)
          | k + 1, false => bif Nat.beq (k + 1) sz then some (.slice (some ⟨b, o + l * sz, none⟩) (h - l) (c - l)) else none)
        | _ => none)
      | _, _ => none)
    | _, _ => none)
  | some .string, .string s => (match bnd hi s.size s.size with
    | some h => (match bnd lo 0 h with
      | some l => some (.string ⟨((s.data.toList.drop l).take (h - l)).toArray⟩)
      | none => none)
    | none => none)
  | some (.array len elem), .pointer (some ⟨b, o, none⟩) => (match bnd hi len len with
    | some h => (match bnd lo 0 h, aSize P elem, b % 256 with
      | some l, some sz, 0 => (match Nat.beq l len with
        | true => some (.slice (some ⟨b, o, none⟩) (h - l) (len - l))
        | false => some (.slice (some ⟨b, o + l * sz, none⟩) (h - l) (len - l)))
      | _, _, _ => none)
    | none => none)
  | some (.slice elem), x => (match datOf x with
    | some (n, cs) => (match bnd hi n n with
      | some h => (match bnd lo 0 h, aSize P elem with
        | some l, some sz => some (mkDat (h - l) (cs.drop (l * sz)))
        | _, _ => none)
      | none => none)
    | none => none)
  | _, _ => none

theorem extract_str (s : ByteArray) (l h : Nat) : s.extract l h = ⟨((s.data.toList.drop l).take (h - l)).toArray⟩ := by
  apply ByteArray.ext
  rw [ByteArray.data_extract]
  apply Array.ext'
  rw [Array.toList_extract, List.extract_eq_take_drop]

theorem beq_false_ne {a b : Nat} (h : Nat.beq a b = false) : a ≠ b := fun e => by rw [e] at h; simp [Nat.beq_refl] at h

/-- Iotas put blocks of a kind where their numbers say. -/
def Kinds (ι : Iota) : Prop := ∀ b l, ι b = some l → (l.gr = none ↔ b % 256 = 0)

theorem run_aSlice {ι : Iota} {P : Program} {t : TypeId} {x u v : Value} {lo hi lo' hi' : Option Value} (hk : Kinds ι) (hx : VR ι x u) (hlo : OptR ι lo lo') (hhi : OptR ι hi hi') (h : aSlice P t x lo hi = some v) : Comes1 P ι (Instr.sliceAt t u lo' hi' none) v := by
  unfold aSlice at h
  split at h
  · rename_i elem a n c hu
    split at h
    · rename_i hh hn hb
      rw [Nat.ble_eq] at hn
      split at h
      · rename_i l sz hl hs
        have plain : ∀ (base : Option Addr) (c' : Nat) (w : World), c ≤ c' → (l ≤ hh ∧ hh ≤ c) ∧ (Instr.sliceAt t (.slice base n c') lo' hi' none).run P w = .ok (.slice (if c' = l then base else base.map (·.add (l * sz))) (hh - l) (c' - l)) w := by
          intro base c' w hc
          obtain ⟨g1, g2, g3⟩ := run_bounds (P := P) (w := w) true hlo hhi hb hl hc hn
          exact ⟨⟨g1, g2⟩, by simp [Instr.sliceAt, Instr.slice, run_underlying hu, g3, run_aSize hs]⟩
        split at h
        · simp at h; subst h
          cases hx with
          | sl0 => exact ⟨_, .sl0 _ _, fun w => by rw [(plain none c w (Nat.le_refl _)).2]; simp⟩
        · rename_i b o
          split at h
          · rename_i hb0 hlc
            simp at h; subst h
            have e := Nat.eq_of_beq_eq_true hlc
            cases hx with
            | sl n c hι hg hb => exact ⟨_, .sl _ _ hι hg hb, fun w => by rw [(plain _ c w (Nat.le_refl _)).2]; simp [e]⟩
            | slg n c C hι hg hb => exact absurd hb0 hb
            | sle a c hι hg hbb => exact absurd hb0 hbb
          · rename_i hb0 hlc
            simp at h; subst h
            have e := beq_false_ne hlc
            cases hx with
            | sl n c hι hg hb => exact ⟨_, .sl _ _ hι hg hb, fun w => by rw [(plain _ c w (Nat.le_refl _)).2, if_neg (by omega)]; simp [add_none]⟩
            | slg n c C hι hg hb => exact absurd hb0 hb
            | sle a c hι hg hbb => exact absurd hb0 hbb
          · rename_i k hb0 hlc
            simp at h; subst h
            have e := Nat.eq_of_beq_eq_true hlc
            subst e
            cases hx with
            | sl n c hι hg hb => omega
            | slg n c C hι hg hb h0 hn' ho hc hC =>
              rename_i l0 base cap e
              have hr := plain (some ⟨l0.blk, base + o, none⟩) C
              have hw := (hr default (by omega)).1
              refine ⟨.slice (some (if C = l then ⟨l0.blk, base + o, none⟩ else (⟨l0.blk, base + o, none⟩ : Addr).add (l * sz))) 0 (C - l), .sle _ _ hι hg hb, fun w => ?_⟩
              rw [(hr w (by omega)).2]
              rw [show hh - l = 0 by omega]
              split <;> simp
            | sle a c hι hg hbb =>
              rename_i l0 g
              have hr := plain (some a) c
              have hw := (hr default (by omega)).1
              refine ⟨.slice (some (if c = 0 then a else a.add (0 * sz))) 0 (c - 0), .sle _ _ hι hg hbb, fun w => ?_⟩
              rw [(hr w (by omega)).2]
              rw [show hh - 0 = 0 by omega]
              split <;> simp
          · rename_i k hb0 hlc
            have e := beq_false_ne hlc
            cases hs' : Nat.beq (k + 1) sz with
            | false => rw [hs'] at h; simp at h
            | true =>
              rw [hs'] at h; simp at h; subst h
              have es := Nat.eq_of_beq_eq_true hs'
              cases hx with
              | sl n c hι hg hb => omega
              | slg n c C hι hg hb h0 hn' ho hc hC =>
                rename_i l0 base cap e0
                have hr := plain (some ⟨l0.blk, base + o, none⟩) C
                have hw := (hr default (by omega)).1
                have hsz : sz = b % 256 := by omega
                refine ⟨.slice (some ⟨l0.blk, base + (o + l * sz), none⟩) (hh - l) (C - l), .slg (e := e0 + l) _ _ _ hι hg hb (by omega) (by omega) (by rw [ho, hsz, Nat.add_mul]) (by omega) (by omega), fun w => ?_⟩
                rw [(hr w (by omega)).2, if_neg (by omega)]
                simp [add_none, Nat.add_assoc]
              | sle a c hι hg hb =>
                have hw := (plain (some a) c default (by omega)).1
                omega
        · cases h
      · cases h
    · cases h
  · rename_i s hu
    split at h
    · rename_i hh hb
      split at h
      · rename_i l hl
        simp at h; subst h
        cases hx
        refine ⟨_, .str _, fun w => ?_⟩
        obtain ⟨g1, g2, g3⟩ := run_bounds (P := P) (w := w) false hlo hhi hb hl (Nat.le_refl _) (Nat.le_refl _)
        simp [Instr.sliceAt, Instr.slice, run_underlying hu, g3, extract_str]
      · cases h
    · cases h
  · rename_i len elem b o hu
    split at h
    · rename_i hh hb
      split at h
      · rename_i l sz hl hs hb0
        cases hx with
        | ptr hι =>
          rename_i l0
          have hg : l0.gr = none := (hk _ _ hι).2 hb0
          have hoff : ∀ o, l0.off o = o := fun o => by unfold Loc.off; rw [hg]
          have run : ∀ w, (Instr.sliceAt t (.pointer (some ⟨l0.blk, l0.off o, none⟩)) lo' hi' none).run P w = .ok (.slice (some (if len = l then ⟨l0.blk, o, none⟩ else ⟨l0.blk, o + l * sz, none⟩)) (hh - l) (len - l)) w := fun w => by
            obtain ⟨g1, g2, g3⟩ := run_bounds (P := P) (w := w) false hlo hhi hb hl (Nat.le_refl _) (Nat.le_refl _)
            simp [Instr.sliceAt, run_underlying hu, Instr.sureAddr, g3, run_aSize hs, hoff, add_none]
          split at h
          · rename_i hlc
            have e := Nat.eq_of_beq_eq_true hlc
            simp at h; subst h
            exact ⟨_, .sl _ _ hι hg hb0, fun w => by rw [run w, if_pos e.symm]⟩
          · rename_i hlc
            have e := beq_false_ne hlc
            simp at h; subst h
            exact ⟨_, .sl _ _ hι hg hb0, fun w => by rw [run w, if_neg (fun x => e x.symm)]⟩
      · cases h
    · cases h
  · rename_i elem hu _
    split at h
    · rename_i n cs hd
      split at h
      · rename_i hh hb
        split at h
        · rename_i l sz hl hs
          simp at h; subst h
          rcases datOf_spec hd hx with ⟨b, o, zs, c, rfl, hc, hz, hv⟩ | ⟨rfl, hu0⟩
          · have run : ∀ w, (l ≤ hh ∧ hh ≤ n) ∧ (Instr.sliceAt t (.slice (some ⟨b, o, none⟩) n c) lo' hi' none).run P w = .ok (.slice (some (if c = l then ⟨b, o, none⟩ else ⟨b, o + l * sz, none⟩)) (hh - l) (c - l)) w := fun w => by
              obtain ⟨g1, g2, g3⟩ := run_bounds (P := P) (w := w) true hlo hhi hb hl hc (Nat.le_refl _)
              exact ⟨⟨g1, g2⟩, by simp [Instr.sliceAt, Instr.slice, run_underlying hu, g3, run_aSize hs, add_none]; split <;> rfl⟩
            have hlh := (run default).1
            by_cases hcl : c = l
            · have h0 : hh - l = 0 := by omega
              refine ⟨.slice (some ⟨b, o, none⟩) (hh - l) (c - l), ?_, fun w => by rw [(run w).2, if_pos hcl]⟩
              rw [h0]
              exact .datE _ _ _
            · refine ⟨.slice (some ⟨b, o + l * sz, none⟩) (hh - l) (c - l), .dat _ _ (by omega) (fun i z hi => ?_) (hv.drop (l * sz)), fun w => by rw [(run w).2, if_neg hcl]⟩
              rw [List.getElem?_drop] at hi
              have := hz _ _ hi
              rwa [Nat.add_assoc]
          · have hb0 : ∀ (base : Option Addr) (c : Nat) (w : World), (l = 0 ∧ hh = 0) ∧ (Instr.sliceAt t (.slice base 0 c) lo' hi' none).run P w = .ok (.slice (if c = 0 then base else base.map (·.add 0)) 0 c) w := fun base c w => by
              obtain ⟨g1, g2, g3⟩ := run_bounds (P := P) (w := w) (c' := c) true hlo hhi hb hl (Nat.zero_le _) (Nat.le_refl _)
              obtain rfl : l = 0 := by omega
              obtain rfl : hh = 0 := by omega
              exact ⟨⟨rfl, rfl⟩, by simp [Instr.sliceAt, Instr.slice, run_underlying hu, g3, run_aSize hs]⟩
            obtain ⟨rfl, rfl⟩ := (hb0 none 0 default).1
            rcases hu0 with rfl | ⟨a, c, rfl⟩
            · exact ⟨_, .dat0 _, fun w => by rw [(hb0 _ _ w).2]; simp⟩
            · exact ⟨.slice (some (if c = 0 then a else a.add 0)) 0 c, .datE _ _ _, fun w => by rw [(hb0 _ _ w).2]; split <;> simp⟩
        · cases h
      · cases h
    · cases h
  · cases h
/-! ### building -/
/-- x[lo:hi:mx] of a slice. -/
def aSlice3 (P : Program) (t : TypeId) (x : Value) (lo hi : Option Value) (mx : Value) : Option Value := match P.underlying t, x, hi with
  | some (.slice elem), .slice a n c, some _ => (match Nat.ble n c, bnd (some mx) c c with
    | true, some m => (match bnd hi n m with
      | some h => (match bnd lo 0 h, aSize P elem with
        | some l, some sz => (match a with
          | none => some (.slice none (h - l) (m - l))
          | some ⟨b, o, none⟩ => (match b % 256, Nat.beq l m with
            | 0, true => some (.slice (some ⟨b, o, none⟩) (h - l) (m - l))
            | 0, false => some (.slice (some ⟨b, o + l * sz, none⟩) (h - l) (m - l))
            | _ + 1, true => some (.slice (some ⟨b, o, none⟩) 0 0)
            | k + 1, false => bif Nat.beq (k + 1) sz then some (.slice (some ⟨b, o + l * sz, none⟩) (h - l) (m - l)) else none)
          | _ => none)
        | _, _ => none)
      | none => none)
    | _, _ => none)
  | some (.slice elem), x, some _ => (match datOf x with
    | some (n, cs) => (match bnd (some mx) n n with
      | some m => (match bnd hi n m with
        | some h => (match bnd lo 0 h, aSize P elem with
          | some l, some sz => some (mkDat (h - l) (cs.drop (l * sz)))
          | _, _ => none)
        | none => none)
      | none => none)
    | none => none)
  | _, _, _ => none
theorem run_aSlice3 {ι : Iota} {P : Program} {t : TypeId} {x u v mx mx' : Value} {lo hi lo' hi' : Option Value} (hx : VR ι x u) (hlo : OptR ι lo lo') (hhi : OptR ι hi hi') (hm : VR ι mx mx') (h : aSlice3 P t x lo hi mx = some v) : Comes1 P ι (Instr.sliceAt t u lo' hi' (some mx')) v := by
  unfold aSlice3 at h
  split at h
  · rename_i elem a n c hv hu
    split at h
    · rename_i m hn hb
      rw [Nat.ble_eq] at hn
      split at h
      · rename_i hh hb2
        split at h
        · rename_i l sz hl hs
          cases hhi with
          | some hhv =>
            rename_i hv'
            have plain : ∀ (base : Option Addr) (c' : Nat) (w : World), c ≤ c' → (l ≤ hh ∧ hh ≤ m ∧ m ≤ c) ∧ (Instr.sliceAt t (.slice base n c') lo' (some hv') (some mx')).run P w = .ok (.slice (if m = l then base else base.map (·.add (l * sz))) (hh - l) (m - l)) w := by
              intro base c' w hc
              obtain ⟨g1, g2⟩ := run_bnd (P := P) (w := w) (code := .slice3Acap) hm hb hc
              obtain ⟨g3, g4⟩ := run_bnd (P := P) (w := w) (code := .slice3B) hhv hb2 (Nat.le_refl m)
              cases hlo with
              | none =>
                simp [bnd] at hl; subst hl
                exact ⟨⟨Nat.zero_le _, g3, g1⟩, by simp [Instr.sliceAt, Instr.slice, Instr.sliceBounds, run_underlying hu, g2, g4, run_aSize hs]⟩
              | some hlv =>
                obtain ⟨g5, g6⟩ := run_bnd (P := P) (w := w) (code := .slice3C) hlv hl (Nat.le_refl hh)
                exact ⟨⟨g5, g3, g1⟩, by simp [Instr.sliceAt, Instr.slice, Instr.sliceBounds, run_underlying hu, g2, g4, g6, run_aSize hs]⟩
            split at h
            · simp at h; subst h
              cases hx with
              | sl0 => exact ⟨_, .sl0 _ _, fun w => by rw [(plain none c w (Nat.le_refl _)).2]; simp⟩
            · rename_i b o
              split at h
              · rename_i hb0 hlc
                simp at h; subst h
                have e := Nat.eq_of_beq_eq_true hlc
                cases hx with
                | sl n c hι hg hb => exact ⟨_, .sl _ _ hι hg hb, fun w => by rw [(plain _ c w (Nat.le_refl _)).2]; simp [e]⟩
                | slg n c C hι hg hb => exact absurd hb0 hb
                | sle a c hι hg hbb => exact absurd hb0 hbb
              · rename_i hb0 hlc
                simp at h; subst h
                have e := beq_false_ne hlc
                cases hx with
                | sl n c hι hg hb => exact ⟨_, .sl _ _ hι hg hb, fun w => by rw [(plain _ c w (Nat.le_refl _)).2, if_neg (by omega)]; simp [add_none]⟩
                | slg n c C hι hg hb => exact absurd hb0 hb
                | sle a c hι hg hbb => exact absurd hb0 hbb
              · rename_i k hb0 hlc
                simp at h; subst h
                have e := Nat.eq_of_beq_eq_true hlc
                subst e
                cases hx with
                | sl n c hι hg hb => omega
                | slg n c C hι hg hb h0 hn' ho hc hC =>
                  rename_i l0 base cap e
                  have hr := plain (some ⟨l0.blk, base + o, none⟩) C
                  have hw := (hr default (by omega)).1
                  refine ⟨.slice (some ⟨l0.blk, base + o, none⟩) 0 (l - l), .sle _ _ hι hg hb, fun w => ?_⟩
                  rw [(hr w (by omega)).2]
                  rw [show hh - l = 0 by omega]
                  simp
                | sle a c hι hg hbb =>
                  rename_i l0 g
                  have hr := plain (some a) c
                  have hw := (hr default (by omega)).1
                  refine ⟨.slice (some a) 0 (l - l), .sle _ _ hι hg hbb, fun w => ?_⟩
                  rw [(hr w (by omega)).2]
                  rw [show hh - l = 0 by omega]
                  simp
              · rename_i k hb0 hlc
                have e := beq_false_ne hlc
                cases hs' : Nat.beq (k + 1) sz with
                | false => rw [hs'] at h; simp at h
                | true =>
                  rw [hs'] at h; simp at h; subst h
                  have es := Nat.eq_of_beq_eq_true hs'
                  cases hx with
                  | sl n c hι hg hb => omega
                  | slg n c C hι hg hb h0 hn' ho hc hC =>
                    rename_i l0 base cap e0
                    have hr := plain (some ⟨l0.blk, base + o, none⟩) C
                    have hw := (hr default (by omega)).1
                    have hsz : sz = b % 256 := by omega
                    refine ⟨.slice (some ⟨l0.blk, base + (o + l * sz), none⟩) (hh - l) (m - l), .slg (e := e0 + l) _ _ _ hι hg hb (by omega) (by omega) (by rw [ho, hsz, Nat.add_mul]) (Nat.le_refl _) (by omega), fun w => ?_⟩
                    rw [(hr w (by omega)).2, if_neg (by omega)]
                    simp [add_none, Nat.add_assoc]
                  | sle a c hι hg hb =>
                    have hw := (plain (some a) c default (by omega)).1
                    omega
            · cases h
        · cases h
      · cases h
    · cases h
  · rename_i elem _ hu _
    split at h
    · rename_i n cs hd
      split at h
      · rename_i m hb
        split at h
        · rename_i hh hb2
          split at h
          · rename_i l sz hl hs
            simp at h; subst h
            cases hhi with
            | some hhv =>
              rename_i hv'
              have run : ∀ (base : Option Addr) (c : Nat) (w : World), n ≤ c → (l ≤ hh ∧ hh ≤ m ∧ m ≤ n) ∧ (Instr.sliceAt t (.slice base n c) lo' (some hv') (some mx')).run P w = .ok (.slice (if m = l then base else base.map (·.add (l * sz))) (hh - l) (m - l)) w := by
                intro base c w hc
                obtain ⟨g1, g2⟩ := run_bnd (P := P) (w := w) (code := .slice3Acap) hm hb hc
                obtain ⟨g3, g4⟩ := run_bnd (P := P) (w := w) (code := .slice3B) hhv hb2 (Nat.le_refl m)
                cases hlo with
                | none =>
                  simp [bnd] at hl; subst hl
                  exact ⟨⟨Nat.zero_le _, g3, g1⟩, by simp [Instr.sliceAt, Instr.slice, Instr.sliceBounds, run_underlying hu, g2, g4, run_aSize hs]⟩
                | some hlv =>
                  obtain ⟨g5, g6⟩ := run_bnd (P := P) (w := w) (code := .slice3C) hlv hl (Nat.le_refl hh)
                  exact ⟨⟨g5, g3, g1⟩, by simp [Instr.sliceAt, Instr.slice, Instr.sliceBounds, run_underlying hu, g2, g4, g6, run_aSize hs]⟩
              rcases datOf_spec hd hx with ⟨b, o, zs, c, rfl, hc, hz, hv⟩ | ⟨rfl, hu0⟩
              · have hw := (run (some ⟨b, o, none⟩) c default hc).1
                by_cases hml : m = l
                · have h0 : hh - l = 0 := by omega
                  refine ⟨.slice (some ⟨b, o, none⟩) (hh - l) (m - l), ?_, fun w => by rw [(run _ c w hc).2, if_pos hml]⟩
                  rw [h0]
                  exact .datE _ _ _
                · refine ⟨.slice (some ⟨b, o + l * sz, none⟩) (hh - l) (m - l), .dat _ _ (by omega) (fun i z hi => ?_) (hv.drop (l * sz)), fun w => by rw [(run _ c w hc).2, if_neg hml]; simp [add_none]⟩
                  rw [List.getElem?_drop] at hi
                  have := hz _ _ hi
                  rwa [Nat.add_assoc]
              · have hw := (run none 0 default (Nat.le_refl _)).1
                have h1 : m = l := by omega
                have h2 : hh - l = 0 := by omega
                have h3 : m - l = 0 := by omega
                rcases hu0 with rfl | ⟨a, c, rfl⟩
                · refine ⟨.slice none 0 0, ?_, fun w => by rw [(run _ _ w (Nat.zero_le _)).2, if_pos h1, h2, h3]⟩
                  rw [h2]
                  exact .dat0 _
                · refine ⟨.slice (some a) 0 0, ?_, fun w => by rw [(run _ _ w (Nat.zero_le _)).2, if_pos h1, h2, h3]⟩
                  rw [h2]
                  exact .datE _ _ _
          · cases h
        · cases h
      · cases h
    · cases h
  · cases h

theorem VRL.foldSet {ι : Iota} (off : Nat) : ∀ {as bs : List Value}, VRL ι as bs → ∀ (j : Nat) (xs ys : Array Value), VRL ι xs.toList ys.toList →
    VRL ι ((as.zipIdx j).foldl (fun cs (c, j) => cs.setIfInBounds (off + j) c) xs).toList ((bs.zipIdx j).foldl (fun cs (c, j) => cs.setIfInBounds (off + j) c) ys).toList
  | _, _, .nil, j, xs, ys, h => h
  | _, _, .cons hv t, j, xs, ys, h => by
    simp only [List.zipIdx_cons, List.foldl_cons]
    refine VRL.foldSet off t (j + 1) _ _ ?_
    rw [Array.toList_setIfInBounds, Array.toList_setIfInBounds]
    exact h.set _ hv

inductive PartsR (ι : Iota) : List (Nat × Value) → List (Nat × Value) → Prop
  | nil : PartsR ι [] []
  | cons {i : Nat} {v u : Value} {xs ys : List (Nat × Value)} (h : VR ι v u) (t : PartsR ι xs ys) : PartsR ι ((i, v) :: xs) ((i, u) :: ys)

theorem fill_rel {ι : Iota} (place : Nat → Option (Nat × Nat)) : ∀ {ps qs : List (Nat × Value)}, PartsR ι ps qs → ∀ (xs ys cells : Array Value), VRL ι xs.toList ys.toList → Instr.fill place xs ps = some cells →
    ∃ cells', Instr.fill place ys qs = some cells' ∧ VRL ι cells.toList cells'.toList
  | _, _, .nil, xs, ys, cells, h, e => by
    simp [Instr.fill] at e; subst e
    exact ⟨ys, by simp [Instr.fill], h⟩
  | _, _, .cons (i := i) (v := v) (u := u) hv t, xs, ys, cells, h, e => by
    unfold Instr.fill at e ⊢
    cases hp : place i with
    | none => rw [hp] at e; simp at e
    | some p =>
      obtain ⟨off, size⟩ := p
      rw [hp] at e
      simp only at e ⊢
      have hlen : v.cells.size = u.cells.size := by have := hv.cells.length; simpa using this
      have hlen2 : xs.size = ys.size := by have := h.length; simpa using this
      rw [← hlen, ← hlen2]
      split at e
      · cases e
      · rename_i hc
        rw [if_neg hc]
        rw [← Array.foldl_toList] at e ⊢
        rw [Array.toList_zipIdx] at e ⊢
        exact fill_rel place t _ _ cells (VRL.foldSet off hv.cells 0 xs ys h) e

def aBuild (P : Program) (t : TypeId) (parts : List (Nat × Value)) : Option Value := match aZero P t, P.built t parts with
  | some _, some cells => some (.agg cells)
  | _, _ => none
theorem run_aBuild {ι : Iota} {P : Program} {t : TypeId} {ps : List (Nat × Value)} {qs : Array (Nat × Value)} {v : Value} (hp : PartsR ι ps qs.toList) (h : aBuild P t ps = some v) : Comes1 P ι (Instr.build t qs) v := by
  unfold aBuild at h
  split at h
  · rename_i z cells hz hb
    simp at h; subst h
    unfold aZero at hz
    unfold Program.built at hb
    split at hb
    · rename_i it n e hi hu
      split at hb
      · rename_i z' ie hz' hie
        simp only [hi, hz'] at hz
        cases hc : okc z' with
        | false => rw [hc] at hz; simp at hz
        | true =>
          obtain ⟨cells', h1, h2⟩ := fill_rel _ hp z'.cells z'.cells cells (okc_self z' hc).cells hb
          refine ⟨.agg cells', .agg h2, fun w => run_build w t qs cells' ?_⟩
          unfold Program.built
          simp only [hi, hu, hz', hie]
          exact h1
      · cases hb
    · rename_i it fields hi hu
      split at hb
      · rename_i z' places hz' hie
        simp only [hi, hz'] at hz
        cases hc : okc z' with
        | false => rw [hc] at hz; simp at hz
        | true =>
          obtain ⟨cells', h1, h2⟩ := fill_rel _ hp z'.cells z'.cells cells (okc_self z' hc).cells hb
          refine ⟨.agg cells', .agg h2, fun w => run_build w t qs cells' ?_⟩
          unfold Program.built
          simp only [hi, hu, hz', hie]
          exact h1
      · cases hb
    · cases hb
  · cases h
end Go.Proofs.YtihloomkgpflmaaGreatDoor.Vm

namespace Go.Proofs.YtihloomkgpflmaaGreatDoor.Vm

/-! ### against nil, bools -/
def aEq (P : Program) (t : TypeId) (cst : Bool) (x y : Value) : Option Bool := match P.underlying t, x, y with
  | some .bool, .bool a, .bool b => some (a == b)
  | some (.interface _), .nilIface, .iface _ _ => some false
  | some (.interface _), .iface _ _, .nilIface => some false
  | some (.interface _), .nilIface, .nilIface => bif cst then some true else none
  | some (.pointer _), .pointer none, .pointer b => some b.isNone
  | some (.pointer _), .pointer (some _), .pointer none => some false
  | some (.slice _), .slice none _ _, .slice b _ _ => some b.isNone
  | some (.slice _), .slice (some _) _ _, .slice none _ _ => some false
  | some (.func _ _ _), .nilFunc, .nilFunc => some true
  | some (.func _ _ _), .nilFunc, .func f _ _ => bif plainFn f then some false else none
  | some (.func _ _ _), .func f _ _, .nilFunc => bif plainFn f then some false else none
  | _, _, _ => none

theorem run_aEqIn {ι : Iota} {P : Program} {t : TypeId} {cst : Bool} {x y u z : Value} {b : Bool} (hx : VR ι x u) (hy : VR ι y z) (h : aEq P t cst x y = some b) (w : World) (d : Nat) : (Op.equalIn (d + 1) t u z).run P w = .ok b w := by
  unfold aEq at h
  unfold Op.equalIn
  split at h
  · rename_i hu; cases hx; cases hy; simp at h; subst h; rw [Sem.run_bind, run_underlying hu]; simp
  · rename_i hu; cases hx; cases hy; simp at h; subst h; rw [Sem.run_bind, run_underlying hu]; simp
  · rename_i hu; cases hx; cases hy; simp at h; subst h; rw [Sem.run_bind, run_underlying hu]; simp
  · rename_i hu; cases hx; cases hy; cases cst <;> simp at h; subst h; rw [Sem.run_bind, run_underlying hu]; simp
  · rename_i hu; cases hx; simp at h; subst h; cases hy <;> (rw [Sem.run_bind, run_underlying hu]; simp)
  · rename_i hu; cases hx; cases hy; simp at h; subst h; rw [Sem.run_bind, run_underlying hu]; simp
  · rename_i hu; cases hx; simp at h; subst h; cases hy <;> (rw [Sem.run_bind, run_underlying hu]; simp)
  · rename_i hu; cases hy; simp at h; subst h; cases hx <;> (rw [Sem.run_bind, run_underlying hu]; simp)
  · rename_i hu; cases hx; cases hy; simp at h; subst h; rw [Sem.run_bind, run_underlying hu]; simp
  · rename_i f _ _ hu
    cases hp : plainFn f with
    | false => rw [hp] at h; simp at h
    | true =>
      rw [hp] at h
      cases hx; simp at h; subst h
      cases hy <;> first | (simp [plainFn] at hp; done) | (rw [Sem.run_bind, run_underlying hu]; simp)
  · rename_i f _ _ hu
    cases hp : plainFn f with
    | false => rw [hp] at h; simp at h
    | true =>
      rw [hp] at h
      cases hy; simp at h; subst h
      cases hx <;> first | (simp [plainFn] at hp; done) | (rw [Sem.run_bind, run_underlying hu]; simp)
  · cases h
theorem run_aEq {ι : Iota} {P : Program} {t : TypeId} {cst : Bool} {x y u z : Value} {b : Bool} (hx : VR ι x u) (hy : VR ι y z) (h : aEq P t cst x y = some b) (w : World) : (Op.equal t u z).run P w = .ok b w :=
  run_aEqIn hx hy h w 9999

def isConst : Operand → Bool
  | .const _ => true
  | _ => false

def aBin (P : Program) (op : BinOp) (t : TypeId) (cst : Bool) (x y : Value) : Option Value := match x, y with
  | .int k a, .int k' b => (match op with
    | .shl => aShift .shl k a b
    | .shr => aShift .shr k a b
    | op => bif decide (k = k') then aInt op k a b else none)
  | .string a, .string b => aStr op a b
  | x, y => (match op with
    | .eql => (match aEq P t cst x y with
      | some b => some (.bool b)
      | none => none)
    | .neq => (match aEq P t cst x y with
      | some b => some (.bool !b)
      | none => none)
    | _ => none)

theorem aInt_simple {op : BinOp} {k : IntKind} {a b : Int} {v : Value} (h : aInt op k a b = some v) : simple v = true := by
  cases op <;> simp only [aInt, Option.some.injEq, reduceCtorEq] at h <;> first | (subst h; rfl) | skip
  case quo => cases hb : eqI b 0 <;> rw [hb] at h <;> simp at h; subst h; rfl
  case rem => cases hb : eqI b 0 <;> rw [hb] at h <;> simp at h; subst h; rfl
  all_goals (split at h <;> simp at h; subst h; rfl)
theorem aShift_simple {op : BinOp} {k : IntKind} {a b : Int} {v : Value} (h : aShift op k a b = some v) : simple v = true := by
  cases b with
  | negSucc n => simp [aShift] at h
  | ofNat n => cases op <;> simp [aShift] at h <;> (subst h; rfl)

theorem eqGuard_ok {ι : Iota} {P : Program} {op : BinOp} {t : TypeId} {p q : Operand} {x y u z : Value} {b : Bool} (hx : VR ι x u) (hy : VR ι y z) (hb : aEq P t (isConst p || isConst q) x y = some b) (w : World) : (eqGuard op t p q u z).run P w = .ok () w := by
  unfold eqGuard
  unfold aEq at hb
  cases op <;> first | rfl | skip
  all_goals
    split at hb <;> first | cases hb; done | skip
    all_goals (cases hx <;> cases hy <;> first | rfl | skip)
    all_goals (cases p <;> cases q <;> first | rfl | (simp [isConst] at hb))

theorem run_aBin {ι : Iota} {P : Program} {op : BinOp} {t : TypeId} {p q : Operand} {x y u z v : Value} (hx : VR ι x u) (hy : VR ι y z) (h : aBin P op t (isConst p || isConst q) x y = some v) (w : World) :
    VR ι v v ∧ (do eqGuard op t p q u z; binOp op t u z).run P w = .ok v w := by
  unfold aBin at h
  split at h
  · rename_i k a k' b
    cases hx; cases hy
    have hg : (eqGuard op t p q (.int k a) (.int k' b)).run P w = .ok () w := by
      unfold eqGuard; split <;> rfl
    rw [Sem.run_bind, hg]
    split at h
    · exact ⟨simple_self _ (aShift_simple h), run_aShift _ _ _ _ _ _ _ h P w⟩
    · exact ⟨simple_self _ (aShift_simple h), run_aShift _ _ _ _ _ _ _ h P w⟩
    · by_cases hk : k = k'
      · subst hk
        simp at h
        exact ⟨simple_self _ (aInt_simple h), run_aInt _ _ _ _ _ _ h P w⟩
      · simp [hk] at h
  · rename_i a b
    cases hx; cases hy
    have hg : (eqGuard op t p q (.string a) (.string b)).run P w = .ok () w := by
      unfold eqGuard; split <;> rfl
    rw [Sem.run_bind, hg]
    obtain ⟨h1, h2⟩ := run_aStr _ _ _ _ h P w
    refine ⟨simple_self _ h1, ?_⟩
    cases op <;> exact h2
  · rename_i h1 h2
    have key : ∀ b, aEq P t (isConst p || isConst q) x y = some b → (eqGuard op t p q u z).run P w = .ok () w ∧ (binOp .eql t u z).run P w = .ok (.bool b) w ∧ (binOp .neq t u z).run P w = .ok (.bool !b) w := by
      intro b hb
      have hr := run_aEq hx hy hb w
      refine ⟨eqGuard_ok hx hy hb w, ?_, ?_⟩
      · unfold aEq at hb
        split at hb <;> first | cases hb; done | skip
        all_goals (cases hx <;> cases hy <;> first | (simp only [binOp, Sem.run_bind, hr]; rfl) | (simp at hb))
      · unfold aEq at hb
        split at hb <;> first | cases hb; done | skip
        all_goals (cases hx <;> cases hy <;> first | (simp only [binOp, Sem.run_bind, hr]; rfl) | (simp at hb))
    split at h
    · split at h
      · rename_i b hb
        simp at h; subst h
        obtain ⟨k1, k2, k3⟩ := key b hb
        rw [Sem.run_bind, k1]
        exact ⟨.bool _, k2⟩
      · cases h
    · split at h
      · rename_i b hb
        simp at h; subst h
        obtain ⟨k1, k2, k3⟩ := key b hb
        rw [Sem.run_bind, k1]
        exact ⟨.bool _, k3⟩
      · cases h
    · cases h

/-! ### conversions, assertions -/
def aConv (P : Program) (src dst : TypeId) (x : Value) : Option Value := match P.underlying src, P.underlying dst, x with
  | some _, some (.int k), .int _ n => some (.int k (wrapI k n))
  | some _, some .string, .string s => some (.string s)
  | _, _, _ => none
theorem run_aConv {ι : Iota} {P : Program} {src dst : TypeId} {x u v : Value} (hx : VR ι x u) (h : aConv P src dst x = some v) (w : World) : VR ι v v ∧ (convert src dst u).run P w = .ok v w := by
  unfold aConv at h
  split at h
  · rename_i d k k' n h1 h2
    cases hx
    simp at h; subst h
    refine ⟨.int _ _, ?_⟩
    rw [wrapI_eq]
    unfold convert
    simp only [Sem.run_bind, run_underlying h1, run_underlying h2, Result.andThen_ok]
    cases d <;> rfl
  · rename_i d s h1 h2
    cases hx
    simp at h; subst h
    refine ⟨.str _, ?_⟩
    unfold convert
    simp only [Sem.run_bind, run_underlying h1, run_underlying h2, Result.andThen_ok]
    cases d <;> rfl
  · cases h

def aAssert (P : Program) (x : Value) (asserted : TypeId) (ok : Bool) : Option Value := match P.underlying asserted, x, ok with
  | some (.interface _), _, _ => none
  | some _, .iface t v, true => bif Nat.beq t asserted then some (.tuple #[v, .bool true]) else (match aZero P asserted with
    | some z => some (.tuple #[z, .bool false])
    | none => none)
  | some _, .nilIface, true => (match aZero P asserted with
    | some z => some (.tuple #[z, .bool false])
    | none => none)
  | some _, .iface t v, false => bif Nat.beq t asserted then some v else none
  | _, _, _ => none
theorem run_aAssert {ι : Iota} {P : Program} {xt asserted : TypeId} {ok : Bool} {x u v : Value} (hx : VR ι x u) (h : aAssert P x asserted ok = some v) : Comes1 P ι (Instr.typeAssert u xt asserted ok) v := by
  unfold aAssert at h
  split at h
  · cases h
  · rename_i d t y hd hu
    cases hx with
    | iface _ hv =>
      rename_i z
      cases hb : Nat.beq t asserted with
      | true =>
        rw [hb] at h; simp at h; subst h
        have e := Nat.eq_of_beq_eq_true hb
        subst e
        refine ⟨.tuple #[z, .bool true], .tuple (.cons hv (.cons (.bool _) .nil)), fun w => ?_⟩
        unfold Instr.typeAssert
        simp only [Sem.run_bind, run_underlying hu, Result.andThen_ok]
        cases d <;> first | (exact (hd _ rfl).elim) | simp
      | false =>
        rw [hb] at h; simp at h
        split at h
        · rename_i z0 hz
          simp at h; subst h
          have e := beq_false_ne hb
          refine ⟨.tuple #[z0, .bool false], .tuple (.cons (okc_self _ (run_aZero hz default).1) (.cons (.bool _) .nil)), fun w => ?_⟩
          unfold Instr.typeAssert
          simp only [Sem.run_bind, run_underlying hu, Result.andThen_ok]
          cases d <;> first | (exact (hd _ rfl).elim) | simp [e, (run_aZero hz w).2]
        · cases h
  · rename_i d hd hu
    cases hx
    split at h
    · rename_i z0 hz
      simp at h; subst h
      refine ⟨.tuple #[z0, .bool false], .tuple (.cons (okc_self _ (run_aZero hz default).1) (.cons (.bool _) .nil)), fun w => ?_⟩
      unfold Instr.typeAssert
      simp only [Sem.run_bind, run_underlying hu, Result.andThen_ok]
      cases d <;> first | (exact (hd _ rfl).elim) | simp [(run_aZero hz w).2]
    · cases h
  · rename_i d t y hd hu
    cases hx with
    | iface _ hv =>
      rename_i z
      cases hb : Nat.beq t asserted with
      | true =>
        rw [hb] at h; simp at h; subst h
        have e := Nat.eq_of_beq_eq_true hb
        subst e
        refine ⟨z, hv, fun w => ?_⟩
        unfold Instr.typeAssert
        simp only [Sem.run_bind, run_underlying hu, Result.andThen_ok]
        cases d <;> first | (exact (hd _ rfl).elim) | simp
      | false => rw [hb] at h; simp at h
  · cases h

/-! ### len, max, min -/
def aLen (P : Program) (t : TypeId) (x : Value) : Option Value := match P.underlying t, x with
  | some .string, .string s => some (.int .i64 (.ofNat s.data.toList.length))
  | some (.slice _), .slice _ n _ => some (.int .i64 (.ofNat n))
  | some (.array n _), _ => some (.int .i64 (.ofNat n))
  | some (.slice _), x => (match datOf x with
    | some (n, _) => some (.int .i64 (.ofNat n))
    | none => none)
  | _, _ => none
theorem run_aLen {ι : Iota} {P : Program} {t ty : TypeId} {x u v : Value} (hx : VR ι x u) (h : aLen P t x = some v) (w : World) : VR ι v v ∧ (Builtin.len_ #[t] ty #[u]).run P w = .ok v w := by
  unfold aLen at h
  split at h
  · rename_i s hu; cases hx; simp at h; subst h
    exact ⟨.int _ _, by simp [Builtin.len_, run_underlying hu, goInt]⟩
  · rename_i hu; simp at h; subst h
    exact ⟨.int _ _, by cases hx <;> simp [Builtin.len_, run_underlying hu, goInt]⟩
  · rename_i hu; simp at h; subst h
    exact ⟨.int _ _, by simp [Builtin.len_, run_underlying hu, goInt]⟩
  · rename_i hu _
    split at h
    · rename_i n cs hd
      simp at h; subst h
      refine ⟨.int _ _, ?_⟩
      rcases datOf_spec hd hx with ⟨b, o, zs, c, rfl, _⟩ | ⟨rfl, rfl | ⟨a, c, rfl⟩⟩ <;> simp [Builtin.len_, run_underlying hu, goInt]
    · cases h
  · cases h

def aMax : List Value → Option Value
  | [.int k x, .int _ y] => some (.int k (bif ltI x y then y else x))
  | _ => none
def aMin : List Value → Option Value
  | [.int k x, .int _ y] => some (.int k (bif ltI y x then y else x))
  | _ => none
theorem run_aMax {ι : Iota} {P : Program} {ts : Array TypeId} {ty : TypeId} {xs : List Value} {ys : Array Value} {v : Value} (hx : VRL ι xs ys.toList) (h : aMax xs = some v) (w : World) : VR ι v v ∧ (Builtin.max_ ts ty ys).run P w = .ok v w := by
  unfold aMax at h
  split at h
  · rename_i k x k' y
    simp at h; subst h
    generalize hys : ys.toList = l at hx
    cases hx with
    | cons h1 t => cases t with
      | cons h2 t2 =>
        cases t2; cases h1; cases h2
        refine ⟨.int _ _, ?_⟩
        unfold Builtin.max_
        rw [hys]
        simp only [List.foldlM_cons, List.foldlM_nil, Sem.run_bind, Builtin.max2, Sem.run_pure, Result.andThen_ok, ltI_eq]
        by_cases hlt : x < y
        · simp [hlt]
        · simp [hlt]
  · cases h
theorem run_aMin {ι : Iota} {P : Program} {ts : Array TypeId} {ty : TypeId} {xs : List Value} {ys : Array Value} {v : Value} (hx : VRL ι xs ys.toList) (h : aMin xs = some v) (w : World) : VR ι v v ∧ (Builtin.min_ ts ty ys).run P w = .ok v w := by
  unfold aMin at h
  split at h
  · rename_i k x k' y
    simp at h; subst h
    generalize hys : ys.toList = l at hx
    cases hx with
    | cons h1 t => cases t with
      | cons h2 t2 =>
        cases t2; cases h1; cases h2
        refine ⟨.int _ _, ?_⟩
        unfold Builtin.min_
        rw [hys]
        simp only [List.foldlM_cons, List.foldlM_nil, Sem.run_bind, Builtin.min2, Sem.run_pure, Result.andThen_ok, ltI_eq]
        by_cases hlt : y < x
        · simp [hlt]
        · simp [hlt]
  · cases h
end Go.Proofs.YtihloomkgpflmaaGreatDoor.Vm

namespace Go.Proofs.YtihloomkgpflmaaGreatDoor.Vm

noncomputable def getvs (G : Nat) (T : Tr Value) : List Operand → Option (List Value)
  | [] => some []
  | x :: xs => match getv G T x with
    | some v => (match getvs G T xs with
      | some vs => some (v :: vs)
      | none => none)
    | none => none
noncomputable def getps (G : Nat) (T : Tr Value) : List (Nat × Operand) → Option (List (Nat × Value))
  | [] => some []
  | (i, x) :: xs => match getv G T x with
    | some v => (match getps G T xs with
      | some vs => some ((i, v) :: vs)
      | none => none)
    | none => none
/-- An operand that may be left out: some none, if it is. -/
noncomputable def geto (G : Nat) (T : Tr Value) : Option Operand → Option (Option Value)
  | none => some none
  | some x => match getv G T x with
    | some v => some (some v)
    | none => none

section
variable {ι : Iota} {G : Nat} {T : Tr Value} {ρ : Operand → Value}
theorem getvs_rel (h : TR ι G T ρ) : ∀ (xs : List Operand) {vs : List Value}, getvs G T xs = some vs → VRL ι vs (xs.map ρ)
  | [], vs, e => by simp [getvs] at e; subst e; exact .nil
  | x :: xs, vs, e => by
    unfold getvs at e
    split at e
    · rename_i v hv
      split at e
      · rename_i ws hw
        simp at e; subst e
        exact .cons (h x v hv) (getvs_rel h xs hw)
      · cases e
    · cases e
theorem getps_rel (h : TR ι G T ρ) : ∀ (xs : List (Nat × Operand)) {vs : List (Nat × Value)}, getps G T xs = some vs → PartsR ι vs (xs.map fun p => (p.1, ρ p.2))
  | [], vs, e => by simp [getps] at e; subst e; exact .nil
  | (i, x) :: xs, vs, e => by
    unfold getps at e
    split at e
    · rename_i v hv
      split at e
      · rename_i ws hw
        simp at e; subst e
        exact .cons (h x v hv) (getps_rel h xs hw)
      · cases e
    · cases e
theorem geto_rel (h : TR ι G T ρ) (x : Option Operand) {v : Option Value} (e : geto G T x = some v) : OptR ι v (x.map ρ) := by
  unfold geto at e
  split at e
  · simp at e; subst e; exact .none
  · rename_i x
    split at e
    · rename_i v' hv
      simp at e; subst e
      exact .some (h _ _ hv)
    · cases e
end

noncomputable def apure (P : Program) (G : Nat) (T : Tr Value) (op : Op) : Option Value := match op with
  | .move x => getv G T x
  | .assign x => getv G T x
  | .pick c a b => (match getv G T c with
    | some (.bool true) => getv G T a
    | some (.bool false) => getv G T b
    | _ => none)
  | .binOp op t x y _ => (match getv G T x, getv G T y with
    | some a, some b => aBin P op t (isConst x || isConst y) a b
    | _, _ => none)
  | .unOp op _ x => (match getv G T x with
    | some a => aUn op a
    | none => none)
  | .convert s d x => (match getv G T x with
    | some a => aConv P s d a
    | none => none)
  | .makeInterface t x => (match P.underlying t, getv G T x with
    | some (.interface _), _ => none
    | some _, some v => some (.iface t v)
    | _, _ => none)
  | .makeFunc fn first cap => (match plainFn fn, getvs G T first.toList, getvs G T cap.toList with
    | true, some xs, some ys => some (.func fn xs.toArray ys.toArray)
    | _, _, _ => none)
  | .fieldAddr s x f => (match getv G T x with
    | some a => aFieldAddr P s a f
    | none => none)
  | .field t x f => (match getv G T x with
    | some a => aField P t a f
    | none => none)
  | .indexAddr t x i => (match getv G T x, getv G T i with
    | some a, some b => aIndexAddr P t a b
    | _, _ => none)
  | .index t x i => (match getv G T x, getv G T i with
    | some a, some b => aIndex P t a b
    | _, _ => none)
  | .extract x i => (match getv G T x with
    | some a => aExtract a i
    | none => none)
  | .build t parts => (match getps G T parts.toList with
    | some ps => aBuild P t ps
    | none => none)
  | .slice t x lo hi none => (match getv G T x, geto G T lo, geto G T hi with
    | some a, some l, some h => aSlice P t a l h
    | _, _, _ => none)
  | .slice t x lo hi (some mx) => (match getv G T x, geto G T lo, geto G T hi, getv G T mx with
    | some a, some l, some h, some m => aSlice3 P t a l h m
    | _, _, _, _ => none)
  | .nilCheck x => (match getv G T x with
    | some (.pointer (some a)) => some (.pointer (some a))
    | some (.iface t v) => some (.iface t v)
    | some (.func (.func f) a b) => some (.func (.func f) a b)
    | some v => (match fptrOf v with
      | some _ => some v
      | none => none)
    | _ => none)
  | .typeAssert x _ t ok => (match getv G T x with
    | some a => aAssert P a t ok
    | none => none)
  | .call c => (match c.callee, c.argTypes.toList, getvs G T c.args.toList with
    | .builtin .len, [t], some [x] => aLen P t x
    | .builtin .max, _, some xs => aMax xs
    | .builtin .min, _, some xs => aMin xs
    | _, _, _ => none)
  | _ => none

theorem run_apure {P : Program} {ι : Iota} {G : Nat} {T : Tr Value} {ρ : Operand → Value} (hk : Kinds ι) (hT : TR ι G T ρ) (o : Oper) {v : Value} (h : apure P G T o.op = some v) :
    ∃ u, VR ι v u ∧ ∀ w, (execOp ρ o).run P w = .ok (.value u) w := by
  obtain ⟨dst, op, type, pos, after, guard⟩ := o
  have lift : ∀ {s : Sem Value}, Comes1 P ι s v → ∃ u, VR ι v u ∧ ∀ w, (s >>= fun x => pure (Next.value x) : Sem Next).run P w = .ok (.value u) w := by
    rintro s ⟨u, h1, h2⟩
    exact ⟨u, h1, fun w => by rw [Sem.run_bind, h2 w]; rfl⟩
  have lift' : ∀ {s : Sem Value}, (∀ w, VR ι v v ∧ s.run P w = .ok v w) → ∃ u, VR ι v u ∧ ∀ w, (s >>= fun x => pure (Next.value x) : Sem Next).run P w = .ok (.value u) w :=
    fun hs => lift ⟨v, (hs default).1, fun w => (hs w).2⟩
  unfold apure at h
  simp only at h
  split at h
  case h_1 => rename_i x; exact ⟨ρ x, hT _ _ h, fun w => rfl⟩
  case h_2 => rename_i x; exact ⟨ρ x, hT _ _ h, fun w => rfl⟩
  case h_3 =>
    rename_i c a b
    split at h
    · rename_i hc
      have := hT _ _ hc
      generalize hρ : ρ c = z at this
      cases this
      exact ⟨ρ a, hT _ _ h, fun w => by simp [execOp, hρ, asBool]⟩
    · rename_i hc
      have := hT _ _ hc
      generalize hρ : ρ c = z at this
      cases this
      exact ⟨ρ b, hT _ _ h, fun w => by simp [execOp, hρ, asBool]⟩
    · cases h
  case h_4 =>
    rename_i op t x y yt
    split at h
    · rename_i a b ha hb
      exact lift' (fun w => run_aBin (hT _ _ ha) (hT _ _ hb) h w)
    · cases h
  case h_5 =>
    rename_i op t x
    split at h
    · rename_i a ha
      exact lift' (fun w => run_aUn op (hT _ _ ha) h P w)
    · cases h
  case h_6 =>
    rename_i s d x
    split at h
    · rename_i a ha
      exact lift' (fun w => run_aConv (hT _ _ ha) h w)
    · cases h
  case h_7 =>
    rename_i t x
    split at h
    · cases h
    · rename_i d a hd hu ha
      simp at h; subst h
      refine lift ⟨.iface t (ρ x), .iface t (hT _ _ ha), fun w => ?_⟩
      unfold Instr.makeInterface
      rw [Sem.run_bind, run_underlying hu]
      cases d <;> first | (exact (hd _ rfl).elim) | rfl
    · cases h
  case h_8 =>
    rename_i fn first cap
    split at h
    · rename_i xs ys hf h1 h2
      simp at h; subst h
      refine lift ⟨.func fn (first.map ρ) (cap.map ρ), .func hf ?_ ?_, fun w => rfl⟩
      · rw [Array.toList_map]; exact getvs_rel hT _ h1
      · rw [Array.toList_map]; exact getvs_rel hT _ h2
    · cases h
  case h_9 =>
    rename_i s x f
    split at h
    · rename_i a ha
      exact lift (run_aFieldAddr (hT _ _ ha) h)
    · cases h
  case h_10 =>
    rename_i s x f
    split at h
    · rename_i a ha
      exact lift (run_aField (hT _ _ ha) h)
    · cases h
  case h_11 =>
    rename_i t x i
    split at h
    · rename_i a b ha hb
      exact lift (run_aIndexAddr (hT _ _ ha) (hT _ _ hb) h)
    · cases h
  case h_12 =>
    rename_i t x i
    split at h
    · rename_i a b ha hb
      exact lift (run_aIndex (hT _ _ ha) (hT _ _ hb) h)
    · cases h
  case h_13 =>
    rename_i x i
    split at h
    · rename_i a ha
      exact lift (run_aExtract (hT _ _ ha) h)
    · cases h
  case h_14 =>
    rename_i t parts
    split at h
    · rename_i ps hp
      refine lift (run_aBuild ?_ h)
      rw [Array.toList_map]
      exact getps_rel hT _ hp
    · cases h
  case h_15 =>
    rename_i t x lo hi
    split at h
    · rename_i a l hh ha hl hb
      exact lift (run_aSlice hk (hT _ _ ha) (geto_rel hT _ hl) (geto_rel hT _ hb) h)
    · cases h
  case h_16 =>
    rename_i t x lo hi mx
    split at h
    · rename_i a l hh m ha hl hb hm
      exact lift (run_aSlice3 (hT _ _ ha) (geto_rel hT _ hl) (geto_rel hT _ hb) (hT _ _ hm) h)
    · cases h
  case h_17 =>
    rename_i x
    split at h
    · rename_i a ha
      simp at h; subst h
      have := hT _ _ ha
      refine ⟨ρ x, this, fun w => ?_⟩
      generalize hρ : ρ x = z at this
      cases this
      simp [execOp, hρ]
    · rename_i t y ha
      simp at h; subst h
      have := hT _ _ ha
      refine ⟨ρ x, this, fun w => ?_⟩
      generalize hρ : ρ x = z at this
      cases this
      simp [execOp, hρ]
    · rename_i f a b ha
      simp at h; subst h
      have := hT _ _ ha
      refine ⟨ρ x, this, fun w => ?_⟩
      generalize hρ : ρ x = z at this
      cases this
      simp [execOp, hρ]
    · rename_i y _ _ _ ha
      split at h
      · rename_i cs hc
        simp at h; subst h
        have := hT _ _ ha
        refine ⟨ρ x, this, fun w => ?_⟩
        obtain ⟨b, o, zs, hz, _⟩ := fptrOf_spec hc this
        simp [execOp, hz]
      · cases h
    · cases h
  case h_18 =>
    rename_i x xt t ok
    split at h
    · rename_i a ha
      exact lift (run_aAssert (hT _ _ ha) h)
    · cases h
  case h_19 =>
    rename_i c
    split at h
    · rename_i t x hc ht hx
      have hl := getvs_rel hT _ hx
      have e1 : c.argTypes = #[t] := by rw [← ht]
      have e2 : ∃ u, c.args.map ρ = #[u] ∧ VR ι x u := by
        rw [← Array.toList_map] at hl
        generalize hz : (c.args.map ρ).toList = l at hl
        cases hl with
        | cons h1 t1 =>
          cases t1
          exact ⟨_, by rw [← hz], h1⟩
      obtain ⟨u, e2, e3⟩ := e2
      have hr := fun w => run_aLen (ty := type) e3 h w
      refine ⟨v, (hr default).1, fun w => ?_⟩
      simp only [execOp, resolve, hc, e1, e2, Sem.run_bind, Sem.run_pure, Result.andThen_ok, invoke, builtin, (hr w).2]
    · rename_i xs hc hx
      have hl := getvs_rel hT _ hx
      rw [← Array.toList_map] at hl
      have hr := fun w => run_aMax (P := P) (ts := c.argTypes) (ty := type) hl h w
      refine ⟨v, (hr default).1, fun w => ?_⟩
      simp only [execOp, resolve, hc, Sem.run_bind, Sem.run_pure, Result.andThen_ok, invoke, builtin, (hr w).2]
    · rename_i xs hc hx
      have hl := getvs_rel hT _ hx
      rw [← Array.toList_map] at hl
      have hr := fun w => run_aMin (P := P) (ts := c.argTypes) (ty := type) hl h w
      refine ⟨v, (hr default).1, fun w => ?_⟩
      simp only [execOp, resolve, hc, Sem.run_bind, Sem.run_pure, Result.andThen_ok, invoke, builtin, (hr w).2]
    · cases h
  case h_20 => cases h
end Go.Proofs.YtihloomkgpflmaaGreatDoor.Vm
