/-
  THE ABSTRACT INTERPRETER, part D: operations that look at no memory.
-/
import Derived.Test.YtjbanjpklgpenaaGreatDoorVmC
namespace Go.Proofs.YtjbanjpklgpenaaGreatDoor.Vm

/-- 'v' is what the operation comes to, whatever the heap. -/
def Comes1 (P : Program) (ι : Iota) (s : Sem Value) (v : Value) : Prop := ∃ u, VR ι v u ∧ ∀ w, s.run P w = .ok u w

def aSize (P : Program) (t : TypeId) : Option Nat := match P.info? t with
  | some i => some i.size
  | none => none
theorem run_aSize {P : Program} {t : TypeId} {n : Nat} (h : aSize P t = some n) (w : World) : (sizeOf t).run P w = .ok n w := by
  unfold aSize at h
  split at h
  · rename_i i hi; simp at h; subst h; simp [sizeOf, typeInfo, hi]
  · cases h
def aAgg (P : Program) (t : TypeId) : Option Bool := match P.underlying t with
  | some (.struct _) | some (.array _ _) => some true
  | some _ => some false
  | none => none
theorem run_aAgg {P : Program} {t : TypeId} {b : Bool} (h : aAgg P t = some b) (w : World) : (isAgg t).run P w = .ok b w := by
  unfold aAgg at h
  unfold isAgg
  split at h
  · rename_i hu; simp at h; subst h; rw [Sem.run_bind, run_underlying hu]; rfl
  · rename_i hu; simp at h; subst h; rw [Sem.run_bind, run_underlying hu]; rfl
  · rename_i d h1 h2 hu; simp at h; subst h; rw [Sem.run_bind, run_underlying hu]
    cases d <;> first | rfl | exact (h1 _ rfl).elim | exact (h2 _ _ rfl).elim
  · cases h
def aZero (P : Program) (t : TypeId) : Option Value := match P.info? t with
  | some i => (match i.zero with
    | some z => bif okc z then some z else none
    | none => none)
  | none => none
theorem run_aZero {P : Program} {t : TypeId} {v : Value} (h : aZero P t = some v) (w : World) : okc v = true ∧ (zeroValue t).run P w = .ok v w := by
  unfold aZero at h
  split at h
  · rename_i i hi
    split at h
    · rename_i z hz
      cases hc : okc z with
      | false => rw [hc] at h; simp at h
      | true => rw [hc] at h; simp at h; subst h; exact ⟨hc, by simp [zeroValue, typeInfo, hi, hz]⟩
    · cases h
  · cases h

theorem add_none (b o n : Nat) : (⟨b, o, none⟩ : Addr).add n = ⟨b, o + n, none⟩ := by
  unfold Addr.add
  split
  · subst_vars; rfl
  · rfl
theorem Loc.off_add (l : Loc) (o n : Nat) : l.off o + n = l.off (o + n) := by
  unfold Loc.off; split <;> omega

/-! ### parts of values -/
def aExtract (v : Value) (i : Nat) : Option Value := match v with
  | .tuple vs => vs.toList[i]?
  | _ => none
theorem run_aExtract {ι : Iota} {x u v : Value} {i : Nat} {P : Program} (hx : VR ι x u) (h : aExtract x i = some v) : Comes1 P ι (Instr.extract u i) v := by
  cases hx <;> simp only [aExtract, reduceCtorEq] at h
  case tuple xs ys hl =>
    obtain ⟨z, hz, hv⟩ := hl.get h
    refine ⟨z, hv, fun w => ?_⟩
    rw [Array.getElem?_toList] at hz
    simp [Instr.extract, hz]

def aPart (P : Program) (t : TypeId) (cs : List Value) (off : Nat) : Option Value := match aAgg P t with
  | some true => (match aSize P t with
    | some n => some (.agg ((cs.drop off).take n).toArray)
    | none => none)
  | some false => cs[off]?
  | none => none
theorem run_aPart {ι : Iota} {P : Program} {t : TypeId} {xs : List Value} {ys : Array Value} {off : Nat} {v : Value} (hl : VRL ι xs ys.toList) (h : aPart P t xs off = some v) : Comes1 P ι (part t ys off) v := by
  unfold aPart at h
  split at h
  · rename_i ha
    split at h
    · rename_i n hn
      simp at h; subst h
      refine ⟨.agg (ys.extract off (off + n)), ?_, fun w => ?_⟩
      · refine .agg ?_
        rw [Array.toList_extract, List.extract_eq_take_drop]
        rw [show off + n - off = n by omega]
        exact (hl.drop off).take n
      · simp [part, run_aAgg ha, run_aSize hn]
    · cases h
  · rename_i ha
    obtain ⟨z, hz, hv⟩ := hl.get h
    refine ⟨z, hv, fun w => ?_⟩
    rw [Array.getElem?_toList] at hz
    simp [part, run_aAgg ha, hz]
  · cases h

def aField (P : Program) (t : TypeId) (v : Value) (f : Nat) : Option Value := match P.underlying t with
  | some (.struct fields) => (match fields.toList[f]?, v with
    | some fl, .agg cs => aPart P fl.type cs.toList fl.offset
    | _, _ => none)
  | _ => none
theorem run_aField {ι : Iota} {P : Program} {t : TypeId} {x u v : Value} {f : Nat} (hx : VR ι x u) (h : aField P t x f = some v) : Comes1 P ι (Instr.field t u f) v := by
  unfold aField at h
  split at h
  · rename_i fields hu
    split at h
    · rename_i fl cs hf
      rw [Array.getElem?_toList] at hf
      cases hx with
      | agg hl =>
        obtain ⟨z, hz, hr⟩ := run_aPart hl h
        exact ⟨z, hz, fun w => by simp [Instr.field, run_underlying hu, hf, asAgg, hr w]⟩
    · cases h
  · cases h

def aFieldAddr (P : Program) (s : TypeId) (v : Value) (f : Nat) : Option Value := match P.underlying s with
  | some (.struct fields) => (match fields.toList[f]? with
    | some fl => (match aSize P fl.type, v with
      | some (_ + 1), .pointer (some ⟨b, o, none⟩) => some (.pointer (some ⟨b, o + fl.offset, none⟩))
      | _, _ => none)
    | none => none)
  | _ => none
theorem run_aFieldAddr {ι : Iota} {P : Program} {s : TypeId} {x u v : Value} {f : Nat} (hx : VR ι x u) (h : aFieldAddr P s x f = some v) : Comes1 P ι (Instr.fieldAt s u f) v := by
  unfold aFieldAddr at h
  split at h
  · rename_i fields hu
    split at h
    · rename_i fl hf
      rw [Array.getElem?_toList] at hf
      split at h
      · rename_i m b o hs
        simp at h; subst h
        cases hx with
        | ptr hl =>
          rename_i l
          refine ⟨.pointer (some ⟨l.blk, l.off (o + fl.offset), none⟩), .ptr hl, fun w => ?_⟩
          simp [Instr.fieldAt, run_underlying hu, hf, Instr.sureAddr, fieldPlace, run_aSize hs, add_none, Loc.off_add]
      · cases h
    · cases h
  · cases h

/-- Is a number an index below n? -/
def idx (x : Int) (n : Nat) : Option Nat := match x with
  | .ofNat m => bif Nat.blt m n then some m else none
  | .negSucc _ => none
theorem idx_spec {x : Int} {n m : Nat} (h : idx x n = some m) : x = (m : Int) ∧ m < n := by
  cases x with
  | ofNat k =>
    simp only [idx] at h
    cases hb : Nat.blt k n with
    | false => rw [hb] at h; simp at h
    | true => rw [hb] at h; simp at h; subst h; exact ⟨rfl, by simpa [Nat.blt_eq] using hb⟩
  | negSucc k => simp [idx] at h

def aIndexAddr (P : Program) (t : TypeId) (x i : Value) : Option Value := match i with
  | .int _ n => (match P.underlying t, x with
    | some (.array len elem), .pointer (some ⟨b, o, none⟩) => (match idx n len, aSize P elem with
      | some m, some sz => some (.pointer (some ⟨b, o + m * sz, none⟩))
      | _, _ => none)
    | some (.slice elem), .slice (some ⟨b, o, none⟩) len _ => (match idx n len, aSize P elem with
      | some m, some sz => some (.pointer (some ⟨b, o + m * sz, none⟩))
      | _, _ => none)
    | _, _ => none)
  | _ => none
theorem run_aIndexAddr {ι : Iota} {P : Program} {t : TypeId} {x u i j v : Value} (hx : VR ι x u) (hi : VR ι i j) (h : aIndexAddr P t x i = some v) : Comes1 P ι (Instr.indexAt t u j) v := by
  unfold aIndexAddr at h
  split at h
  · rename_i k n
    cases hi
    split at h
    · rename_i len elem b o hu
      split at h
      · rename_i m sz hm hs
        simp at h; subst h
        obtain ⟨rfl, hlt⟩ := idx_spec hm
        cases hx with
        | ptr hl =>
          rename_i l
          refine ⟨.pointer (some ⟨l.blk, l.off (o + m * sz), none⟩), .ptr hl, fun w => ?_⟩
          have h1 : (0 : Int) ≤ (m : Int) ∧ (m : Int) < (len : Int) := by omega
          simp only [Instr.indexAt, asIntOf, Sem.run_bind, Sem.run_pure, Result.andThen_ok, run_underlying hu, Instr.sureAddr, h1, and_self, if_true, run_aSize hs, add_none, Loc.off_add]
          simp
      · cases h
    · rename_i elem b o len c hu
      split at h
      · rename_i m sz hm hs
        simp at h; subst h
        obtain ⟨rfl, hlt⟩ := idx_spec hm
        have h1 : (0 : Int) ≤ (m : Int) ∧ (m : Int) < (len : Int) := by omega
        cases hx with
        | sl n c hl hg hb =>
          rename_i l
          refine ⟨.pointer (some ⟨l.blk, l.off (o + m * sz), none⟩), .ptr hl, fun w => ?_⟩
          have ho : l.off (o + m * sz) = o + m * sz := by unfold Loc.off; rw [hg]
          simp only [Instr.indexAt, asIntOf, Sem.run_bind, Sem.run_pure, Result.andThen_ok, run_underlying hu, h1, and_self, if_true, run_aSize hs, add_none, ho]
          simp
        | slg n c C hl hg hb h0 hn ho' hc hC =>
          rename_i l base cap e
          refine ⟨.pointer (some ⟨l.blk, l.off (o + m * sz), none⟩), .ptr hl, fun w => ?_⟩
          have ho : l.off (o + m * sz) = base + o + m * sz := by unfold Loc.off; rw [hg]; simp; omega
          simp only [Instr.indexAt, asIntOf, Sem.run_bind, Sem.run_pure, Result.andThen_ok, run_underlying hu, h1, and_self, if_true, run_aSize hs, add_none, ho]
          simp
        | sle a c hl hg hb => exact absurd hlt (by omega)
      · cases h
    · cases h
  · cases h

def aIndex (P : Program) (t : TypeId) (x i : Value) : Option Value := match i with
  | .int _ n => (match P.underlying t, x with
    | some (.array len elem), .agg cs => (match idx n len, aSize P elem with
      | some m, some sz => aPart P elem cs.toList (m * sz)
      | _, _ => none)
    | some .string, .string s => (match idx n s.size with
      | some m => (match s.data.toList[m]? with
        | some b => some (.int .u8 (.ofNat b.toNat))
        | none => none)
      | none => none)
    | _, _ => none)
  | _ => none
theorem run_aIndex {ι : Iota} {P : Program} {t : TypeId} {x u i j v : Value} (hx : VR ι x u) (hi : VR ι i j) (h : aIndex P t x i = some v) : Comes1 P ι (Instr.index t u j) v := by
  unfold aIndex at h
  split at h
  · rename_i k n
    cases hi
    split at h
    · rename_i len elem cs hu
      split at h
      · rename_i m sz hm hs
        obtain ⟨rfl, hlt⟩ := idx_spec hm
        cases hx with
        | agg hl =>
          obtain ⟨z, hz, hr⟩ := run_aPart hl h
          have h1 : (0 : Int) ≤ (m : Int) ∧ (m : Int) < (len : Int) := by omega
          refine ⟨z, hz, fun w => ?_⟩
          simp only [Instr.index, asIntOf, Sem.run_bind, Sem.run_pure, Result.andThen_ok, run_underlying hu, h1, and_self, if_true, run_aSize hs, Int.toNat_natCast, hr w]
      · cases h
    · rename_i s hu
      split at h
      · rename_i m hm
        obtain ⟨rfl, hlt⟩ := idx_spec hm
        split at h
        · rename_i b hb
          simp at h; subst h
          cases hx
          refine ⟨_, .int _ _, fun w => ?_⟩
          have h1 : (0 : Int) ≤ (m : Int) := by omega
          have h2 : s[m]? = some b := by
            rw [ByteArray.getElem?_lt' s m hlt]
            rw [Array.getElem?_toList] at hb
            have : s.data[m]? = some s[m] := by
              rw [Array.getElem?_eq_getElem (by exact hlt)]; rfl
            rw [this] at hb; exact hb
          simp only [Instr.index, asIntOf, Sem.run_bind, Sem.run_pure, Result.andThen_ok, run_underlying hu, h1, if_true, Int.toNat_natCast, h2]
        · cases h
      · cases h
    · cases h
  · cases h
end Go.Proofs.YtjbanjpklgpenaaGreatDoor.Vm
