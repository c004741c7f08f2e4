/-
  WALKS OVER THE REFERENCES' NUMBERS: what they take with them.
  surdref01.norm: a number without noughts at the top.
  surdref01's at and Add.
  surdref01's Sub.
  surdref01's Cmp.
  surdref01's Mul and Zero.
  surdref01's Shl.
  surdref01's Of: the digits of some limbs.
  WHAT IS KNOWN OF THE REFERENCES' RECKONING: norm, at, Add, Sub, Cmp, Mul, Zero, Shl, Of.
-/
import Derived.Test.YtihloomkgpflmaaGreatDoorProg
import Derived.Test.YtihloomkgpflmaaGreatDoorV12
import Derived.KernelRfl
import Derived.Test.YtihloomkgpflmaaGreatDoorV13
set_option linter.unusedSimpArgs false
set_option linter.unusedVariables false
namespace Go.Proofs.YtihloomkgpflmaaGreatDoor
open Go.Proofs.YtihloomkgpflmaaGreatDoor.Vm

abbrev u64 (n : Nat) : Value := .int .u64 (.ofNat n)
abbrev i64 (n : Nat) : Value := .int .i64 (.ofNat n)
/-- A row of numbers. -/
abbrev natV (l : List Nat) : Value := mkDat l.length (l.map u64)
noncomputable abbrev PP := Tryz.prog
abbrev GG : Nat := 4
noncomputable abbrev XX : Exts := X0
theorem nl_nat (l : List Nat) : Nl (natV l) := ⟨3, by simp [natV, nl]⟩
theorem mixed : PP.follows .mixedOrders = true := by kernel_rfl
theorem fok : FOk PP := FOk_of (by kernel_rfl)
theorem envOf {tabs : List (Nat × List Value)} {F : Known} (h : F.Ok PP GG tabs) : Env PP GG tabs XX F := ⟨mixed, fok, fun _ _ => X0_ok, h⟩

/-- A row of numbers of 64 bits, of a length that is one. -/
def Row (l : List Nat) : Prop := l.length < 9223372036854775808 ∧ ∀ x ∈ l, x < 18446744073709551616
def decU : List Value → Option (List Nat)
  | [] => some []
  | .int .u64 (.ofNat n) :: r => (match decU r with
    | some l => some (n :: l)
    | none => none)
  | _ => none
/-- A row, read. -/
def decN : Value → Option (List Nat)
  | .func (.yield n) ⟨[.agg ⟨cs⟩]⟩ ⟨[]⟩ => (match decU cs with
    | some l => if l.length = n then some l else none
    | none => none)
  | _ => none
theorem decU_map : ∀ l : List Nat, decU (l.map u64) = some l
  | [] => rfl
  | x :: l => by simp [decU, decU_map l]
theorem decU_spec : ∀ {cs : List Value} {l : List Nat}, decU cs = some l → cs = l.map u64
  | [], l, h => by simp [decU] at h; subst h; rfl
  | v :: r, l, h => by
    unfold decU at h
    split at h
    · rename_i h1; cases h1
    · rename_i n r' h1
      injection h1 with h2 h3
      subst h2; subst h3
      split at h
      · rename_i l' hl
        simp at h; subst h
        rw [decU_spec hl]; rfl
      · cases h
    · cases h
@[simp] theorem decN_nat (l : List Nat) : decN (natV l) = some l := by simp [decN, decU_map]
theorem decN_spec {v : Value} {l : List Nat} (h : decN v = some l) : v = natV l := by
  unfold decN at h
  split at h
  · rename_i n cs
    split at h
    · rename_i l' hl
      split at h
      · rename_i hn
        simp at h; subst h
        rw [decU_spec hl, ← hn]
      · cases h
    · cases h
  · cases h
end Go.Proofs.YtihloomkgpflmaaGreatDoor

namespace Go.Proofs.YtihloomkgpflmaaGreatDoor
open Go.Proofs.YtihloomkgpflmaaGreatDoor.Vm
variable {tabs : List (Nat × List Value)}
theorem uNum : PP.underlying 34 = some (.slice 59) := by kernel_rfl
theorem sU64 : aSize PP 59 = some 1 := by kernel_rfl
theorem gU64 : aAgg PP 59 = some false := by kernel_rfl
/-- How many digits there are below the noughts at the top of the first k. -/
def top (l : List Nat) : Nat → Nat
  | 0 => 0
  | k + 1 => if l[k]? = some 0 then top l k else k + 1
theorem top_le (l : List Nat) : ∀ k, top l k ≤ k
  | 0 => Nat.le_refl _
  | k + 1 => by unfold top; split; have := top_le l k; omega; omega
def norm (l : List Nat) : List Nat := l.take (top l l.length)

namespace Norm
noncomputable def frH (l : List Nat) (k : Nat) : Fr := { onto PP XX GG 7 (door PP 41 [natV []] .nil GG) [] with T := mkT [(0, natV l), (3, i64 k)], M := mkM [] }
theorem p0 (l : List Nat) (M : Tr Blk) : walk PP XX GG 7 (door PP 41 [natV l] M GG) [] [0, 3] [] = some (frH l l.length, []) := by kernel_rfl
theorem pA (l : List Nat) (k x : Nat) : walk PP XX GG 9 (frH l k) [.go, .val (.bool true), .go, .go, .go, .val (i64 (k-1)), .val (mkPtr ((l.map u64).drop (k-1))), .val (u64 x), .val (.bool true), .go, .go, .val (i64 (k-1))] [0, 3] [] =
  some (frH l (k-1), [.bin .gtr 3 true (i64 k) (i64 0) (.bool true), .bin .sub 3 true (i64 k) (i64 1) (i64 (k-1)), .idxA 34 (natV l) (i64 (k-1)) (mkPtr ((l.map u64).drop (k-1))), .load .nil 59 (mkPtr ((l.map u64).drop (k-1))) (u64 x), .bin .eql 59 true (u64 x) (u64 0) (.bool true), .bin .sub 3 true (i64 k) (i64 1) (i64 (k-1))]) := by kernel_rfl
noncomputable def frE (l : List Nat) (k : Nat) : Fr := { onto PP XX GG 8 (frH [] 0) [.go, .val (.bool false), .go, .go, .go, .go, .go, .val (mkDat 0 [])] with T := mkT [(2, mkDat k (l.map u64))], M := mkM [] }
theorem pC (l : List Nat) : walk PP XX GG 8 (frH l 0) [.go, .val (.bool false), .go, .go, .go, .go, .go, .val (mkDat 0 (l.map u64))] [2] [] =
  some (frE l 0, [.bin .gtr 3 true (i64 0) (i64 0) (.bool false), .slice3 34 (natV l) none (some (i64 0)) (i64 0) (mkDat 0 (l.map u64))]) := by kernel_rfl
theorem pB (l : List Nat) (k x : Nat) : walk PP XX GG 8 (frH l k) [.go, .val (.bool true), .go, .go, .go, .val (i64 (k-1)), .val (mkPtr ((l.map u64).drop (k-1))), .val (u64 x), .val (.bool false), .go, .go, .go, .go, .val (mkDat k (l.map u64))] [2] [] =
  some (frE l k, [.bin .gtr 3 true (i64 k) (i64 0) (.bool true), .bin .sub 3 true (i64 k) (i64 1) (i64 (k-1)), .idxA 34 (natV l) (i64 (k-1)) (mkPtr ((l.map u64).drop (k-1))), .load .nil 59 (mkPtr ((l.map u64).drop (k-1))) (u64 x), .bin .eql 59 true (u64 x) (u64 0) (.bool false), .slice3 34 (natV l) none (some (i64 k)) (i64 k) (mkDat k (l.map u64))]) := by kernel_rfl
theorem pE (l : List Nat) (k : Nat) : fstep (fun _ => none) PP XX.bare GG (frE l k) = .done (.ret (mkDat k (l.map u64)) .run (mkM []) GG) := by kernel_rfl
theorem end_ok (l : List Nat) (k : Nat) (hk : k ≤ l.length) : PT PP GG tabs (frE l k) (natV (l.take k)) := by
  refine PT.ret' (envOf Known.none_ok) (pE l k) (by kernel_rfl) (by kernel_rfl) ?_
  have : natV (l.take k) = mkDat k ((l.map u64).take k) := by simp [natV, List.map_take, hk]
  rw [this]
  exact Frz.cut _ _ k
theorem head_ok (l : List Nat) (hb : l.length < 9223372036854775808) : ∀ k, k ≤ l.length → PT PP GG tabs (frH l k) (natV (l.take (top l k)))
  | 0, _ => PT.walk (envOf Known.none_ok) (pC l) ⟨gtr_f (by omega), slice3_dat uNum sU64 (by omega)⟩ (end_ok l 0 (by omega))
  | k + 1, hk => by
    obtain ⟨x, hx⟩ : ∃ x, l[k]? = some x := ⟨l[k], by simp⟩
    have hx' : ((l.map u64).drop k)[0]? = some (u64 x) := by simp [hx]
    unfold top
    by_cases h0 : x = 0
    · subst h0
      rw [if_pos hx]
      exact PT.walk (envOf Known.none_ok) (pA l (k + 1) 0) ⟨gtr_t (by omega), sub_i64 (by omega) (by omega), idx_dat uNum sU64 (by omega), load_ptr gU64 hx', eql_t rfl, sub_i64 (by omega) (by omega)⟩ (head_ok l hb k (by omega))
    · rw [if_neg (by rw [hx]; simpa using h0)]
      exact PT.walk (envOf Known.none_ok) (pB l (k + 1) x) ⟨gtr_t (by omega), sub_i64 (by omega) (by omega), idx_dat uNum sU64 (by omega), load_ptr gU64 hx', eql_f h0, slice3_dat uNum sU64 hk⟩ (end_ok l (k + 1) hk)
end Norm
theorem norm_ok (l : List Nat) (hb : l.length < 9223372036854775808) : PureOk PP GG tabs 41 [natV l] (natV (norm l)) := by
  refine PureOk.of (fr := door PP 41 [natV l] (Mof tabs) GG) ?_ (nl_nat _) (by kernel_rfl) (PT.walk (envOf Known.none_ok) (Norm.p0 l _) trivial (Norm.head_ok l hb _ (Nat.le_refl _)))
  intro x hx; simp at hx; subst hx; exact nl_nat l
#print axioms norm_ok
end Go.Proofs.YtihloomkgpflmaaGreatDoor

namespace Go.Proofs.YtihloomkgpflmaaGreatDoor
open Go.Proofs.YtihloomkgpflmaaGreatDoor.Vm
variable {tabs : List (Nat × List Value)}
theorem nl_int {k : IntKind} {z : Int} : Nl (.int k z) := ⟨1, rfl⟩
theorem iU64 : (PP.info? 59).map (fun i => (i.bytes, i.size)) = some (8, 1) := by kernel_rfl
theorem zU64 : aZero PP 59 = some (u64 0) := by kernel_rfl

/-! ### at -/
/-- A digit, or 0. -/
def dig (l : List Nat) (i : Nat) : Nat := l[i]?.getD 0
namespace At
theorem p1 (l : List Nat) (i x : Nat) (M : Tr Blk) : ends PP XX GG 9 (door PP 114 [natV l, i64 i] M GG) [.go, .go, .go, .go, .val (.bool true), .go, .go, .val (mkPtr ((l.map u64).drop i)), .val (u64 x)] [4] [] =
  some (u64 x, mkM [], [.bin .lss 3 false (i64 i) (i64 l.length) (.bool true), .idxA 34 (natV l) (i64 i) (mkPtr ((l.map u64).drop i)), .load M 59 (mkPtr ((l.map u64).drop i)) (u64 x)]) := by kernel_rfl
theorem p2 (l : List Nat) (i : Nat) (M : Tr Blk) : ends PP XX GG 10 (door PP 114 [natV l, i64 i] M GG) [.go, .go, .go, .go, .val (.bool false)] [4] [] =
  some (u64 0, mkM [], [.bin .lss 3 false (i64 i) (i64 l.length) (.bool false)]) := by kernel_rfl
end At
theorem at_ok (l : List Nat) (i : Nat) : PureOk PP GG tabs 114 [natV l, i64 i] (u64 (dig l i)) := by
  refine PureOk.of (fr := door PP 114 [natV l, i64 i] (Mof tabs) GG) ?_ nl_int (by kernel_rfl) ?_
  · intro x hx
    simp at hx
    rcases hx with rfl | rfl
    · exact nl_nat l
    · exact nl_int
  · by_cases h : i < l.length
    · have hx : l[i]? = some l[i] := by simp
      have e : dig l i = l[i] := by simp [dig, hx]
      rw [e]
      exact PT.ends (envOf Known.none_ok) (At.p1 l i l[i] _) ⟨lss_t h, idx_dat uNum sU64 h, load_ptr gU64 (by simp [hx])⟩ .same
    · have e : dig l i = 0 := by simp [dig, List.getElem?_eq_none (by omega : l.length ≤ i)]
      rw [e]
      exact PT.ends (envOf Known.none_ok) (At.p2 l i _) (lss_f (by omega)) .same

/-! ### what is known of norm and at -/
def eNorm : List Value → Option Value
  | [a] => (match decN a with
    | some l => if l.length < 9223372036854775808 then some (natV (norm l)) else none
    | none => none)
  | _ => none
def eAt : List Value → Option Value
  | [a, .int .i64 (.ofNat i)] => (match decN a with
    | some l => some (u64 (dig l i))
    | none => none)
  | _ => none
noncomputable def F1 : Known := (Known.none.add 41 eNorm).add 114 eAt
theorem F1_ok : F1.Ok PP GG tabs := by
  refine Known.add_ok (Known.add_ok Known.none_ok fun aa v h => ?_) fun aa v h => ?_
  · unfold eNorm at h
    split at h
    · split at h
      · rename_i a l hl
        split at h
        · rename_i hb
          simp at h; subst h
          rw [decN_spec hl]
          exact norm_ok l hb
        · cases h
      · cases h
    · cases h
  · unfold eAt at h
    split at h
    · split at h
      · rename_i _ a i _ l hl
        simp at h; subst h
        rw [decN_spec hl]
        exact at_ok l i
      · cases h
    · cases h
theorem F1_at (l : List Nat) (i : Nat) (M : Tr Blk) (nx : Nat) : F1.sm 114 [natV l, i64 i] M nx = some (u64 (dig l i), M, nx) :=
  sm_plain (by simp [frz_dat, frz_int]) (by simp [offs_dat, offs_int]) (by simp [F1, Known.add, eAt])

theorem eNorm_nat (l : List Nat) (h : l.length < 9223372036854775808) : eNorm [natV l] = some (natV (norm l)) := by
  have e : decN (natV l) = some l := decN_nat l
  unfold eNorm
  split
  · rename_i a ha
    injection ha with ha _
    subst ha
    rw [e]
    simp only [h, if_true]
  · rename_i hn; exact absurd rfl (hn _)
theorem F1_norm (l : List Nat) {M M' : Tr Blk} {x c nx : Nat} (hm : M.get (x / 256) = some (.cells false (l.map u64))) (hc : l.length ≤ c) (hl : l.length < 9223372036854775808) (hM : M.set (x / 256) (.frz (l.map u64)) = M') : F1.sm 41 [.slice (some ⟨x, 0, none⟩) l.length c] M nx = some (natV (norm l), M', nx) :=
  sm_own hm hc (eNorm_nat l hl) hM

/-! ### Add -/
/-- Digits of 32 bits. -/
def Digs (l : List Nat) : Prop := ∀ x ∈ l, x < 4294967296
theorem Digs.dig {l : List Nat} (h : Digs l) (i : Nat) : dig l i < 4294967296 := by
  unfold Go.Proofs.YtihloomkgpflmaaGreatDoor.dig
  cases hx : l[i]? with
  | none => simp
  | some x => simp; exact h x (List.mem_of_getElem? hx)
def addC (a b : List Nat) : Nat → Nat
  | 0 => 0
  | i + 1 => (dig a i + dig b i + addC a b i) / 4294967296
theorem addC_le {a b : List Nat} (ha : Digs a) (hb : Digs b) : ∀ i, addC a b i ≤ 1
  | 0 => by simp [addC]
  | i + 1 => by
    have := addC_le ha hb i
    have := ha.dig i
    have := hb.dig i
    unfold addC; omega
def addO (a b : List Nat) (i : Nat) : List Nat := (List.range i).map fun j => (dig a j + dig b j + addC a b j) % 4294967296
def addN (a b : List Nat) : List Nat := norm (addO a b (max a.length b.length + 1))

namespace Add
abbrev outV (n : Nat) : Value := .slice (some ⟨256 * 4, 0, none⟩) n n
noncomputable abbrev row (o : List Nat) : Tr Blk := mkM [(4, .cells false (o.map u64))]
noncomputable def frH (a b o : List Nat) (m i c : Nat) : Fr := { onto PP XX GG 18 (door PP 99 [natV [], natV []] .nil GG) [.go, .go, .go, .go, .go, .go, .go, .val (.bool true), .go, .go, .go, .go, .val (i64 1), .mem (outV 1) (row [0]) (GG + 1)] with T := mkT [(0, natV a), (1, natV b), (5, i64 m), (6, outV (m+1)), (7, u64 c), (8, i64 i)], M := row o }
theorem q1 (a b : List Nat) : walk PP XX GG 18 (door PP 99 [natV a, natV b] .nil GG) [.go, .go, .go, .go, .go, .go, .go, .val (.bool true), .go, .go, .go, .go, .val (i64 (b.length+1)), .mem (outV (b.length+1)) (row (List.replicate (b.length + 1) 0)) (GG + 1)] [0, 1, 5, 6, 7, 8] [4] =
  some (frH a b (List.replicate (b.length + 1) 0) b.length 0 0, [.bin .gtr 3 false (i64 b.length) (i64 a.length) (.bool true), .bin .add 3 true (i64 b.length) (i64 1) (i64 (b.length + 1)), .make .nil GG 34 (i64 (b.length+1)) (i64 (b.length+1)) (outV (b.length+1)) (row (List.replicate (b.length + 1) 0)) (GG + 1)]) := by kernel_rfl
theorem q2 (a b : List Nat) : walk PP XX GG 18 (door PP 99 [natV a, natV b] .nil GG) [.go, .go, .go, .go, .go, .go, .go, .val (.bool false), .go, .val (i64 (a.length+1)), .mem (outV (a.length+1)) (row (List.replicate (a.length + 1) 0)) (GG + 1)] [0, 1, 5, 6, 7, 8] [4] =
  some (frH a b (List.replicate (a.length + 1) 0) a.length 0 0, [.bin .gtr 3 false (i64 b.length) (i64 a.length) (.bool false), .bin .add 3 true (i64 a.length) (i64 1) (i64 (a.length + 1)), .make .nil GG 34 (i64 (a.length+1)) (i64 (a.length+1)) (outV (a.length+1)) (row (List.replicate (a.length + 1) 0)) (GG + 1)]) := by kernel_rfl
theorem q3 (a b o : List Nat) (m i c x y : Nat) : walk PP XX GG 15 (frH a b o m i c) [.go, .go, .val (.bool true), .go, .go, .pure (u64 x), .go, .go, .pure (u64 y), .val (u64 (x+y)), .go, .val (u64 (x+y+c)), .go,   .go, .go, .go, .val (u64 ((x+y+c)%4294967296)), .val (.pointer (some ⟨256 * 4, i, none⟩)), .mem undef (row (o.set i ((x+y+c)%4294967296))) (GG + 1), .go, .val (u64 ((x+y+c)/4294967296)), .go, .go, .val (i64 (i+1)), .go] [0, 1, 5, 6, 7, 8] [4] =
  some (frH a b (o.set i ((x+y+c)%4294967296)) m (i+1) ((x+y+c)/4294967296), [.bin .leq 3 false (i64 i) (i64 m) (.bool true), .call 114 [natV a, i64 i] (row o) (GG + 1) (u64 x) (row o) (GG + 1), .call 114 [natV b, i64 i] (row o) (GG + 1) (u64 y) (row o) (GG + 1),
    .bin .add 59 false (u64 x) (u64 y) (u64 (x+y)), .bin .add 59 false (u64 (x+y)) (u64 c) (u64 (x+y+c)), .bin .rem 59 true (u64 (x+y+c)) (u64 4294967296) (u64 ((x+y+c)%4294967296)), .idxA 34 (outV (m+1)) (i64 i) (.pointer (some ⟨256 * 4, i, none⟩)),
    .sto (row o) 59 (.pointer (some ⟨256 * 4, i, none⟩)) (u64 ((x+y+c)%4294967296)) (row (o.set i ((x+y+c)%4294967296))), .bin .quo 59 true (u64 (x+y+c)) (u64 4294967296) (u64 ((x+y+c)/4294967296)), .bin .add 3 true (i64 i) (i64 1) (i64 (i+1))]) := by kernel_rfl
theorem q4 (a b o : List Nat) (m i c : Nat) (r : List Nat) : ends PP XX GG 8 (frH a b o m i c) [.go, .go, .val (.bool false), .go, .mem (natV r) (mkM [(4, .frz (o.map u64))]) (GG + 1), .go] [4] [] =
  some (natV r, mkM [], [.bin .leq 3 false (i64 i) (i64 m) (.bool false), .call 41 [outV (m+1)] (row o) (GG + 1) (natV r) (mkM [(4, .frz (o.map u64))]) (GG + 1)]) := by kernel_rfl
theorem addO_length (a b : List Nat) (i : Nat) : (addO a b i).length = i := by simp [addO]
/-- The row after i digits. -/
abbrev mid (a b : List Nat) (m i : Nat) : List Nat := addO a b i ++ List.replicate (m + 1 - i) 0
theorem mid_length (a b : List Nat) {m i : Nat} (h : i ≤ m + 1) : (mid a b m i).length = m + 1 := by simp [mid, addO_length]; omega
theorem mid_set (a b : List Nat) {m i : Nat} (h : i ≤ m) : (mid a b m i).set i ((dig a i + dig b i + addC a b i) % 4294967296) = mid a b m (i + 1) := by
  have e : m + 1 - i = (m + 1 - (i + 1)) + 1 := by omega
  unfold mid
  rw [e, List.replicate_succ, List.set_append_right _ _ (by rw [addO_length]; omega), addO_length, Nat.sub_self, List.set_cons_zero]
  have : addO a b (i + 1) = addO a b i ++ [(dig a i + dig b i + addC a b i) % 4294967296] := by simp [addO, List.range_succ]
  rw [this]; simp
theorem loop_ok {a b : List Nat} (ha : Digs a) (hb : Digs b) {m : Nat} (hm : m + 2 < 9223372036854775808) : ∀ d i, i + d = m + 1 → PT PP GG tabs (frH a b (mid a b m i) m i (addC a b i)) (natV (norm (addO a b (m + 1))))
  | 0, i, h => by
    have hi : i = m + 1 := by omega
    subst hi
    have e : mid a b m (m + 1) = addO a b (m + 1) := by simp [mid]
    rw [e]
    have hl := addO_length a b (m + 1)
    refine PT.ends (envOf F1_ok) (q4 a b _ m (m + 1) _ (norm (addO a b (m + 1)))) ⟨leq_f (by omega), ?_⟩ .same
    have := F1_norm (addO a b (m + 1)) (M := row (addO a b (m + 1))) (M' := mkM [(4, .frz ((addO a b (m + 1)).map u64))]) (x := 256 * 4) (c := m + 1) (nx := GG + 1) (by rfl) (by omega) (by omega) (by rfl)
    rw [hl] at this
    exact this
  | d + 1, i, h => by
    have h1 := ha.dig i
    have h2 := hb.dig i
    have h3 := addC_le ha hb i
    have := q3 a b (mid a b m i) m i (addC a b i) (dig a i) (dig b i)
    rw [mid_set a b (by omega)] at this
    refine PT.walk (envOf F1_ok) this ⟨leq_t (by omega), F1_at _ _ _ _, F1_at _ _ _ _, add_u64' (by omega), add_u64' (by omega), rem_of (by omega), idx_own uNum sU64 (by omega), ?_, quo_of (.inr rfl) (by omega) (.inr ⟨rfl, by omega⟩), add_i64 (by omega)⟩ (loop_ok ha hb hm d (i + 1) (by omega))
    refine sto_own (vs := (mid a b m i).map u64) (by rfl) sU64 (by rw [List.length_map, mid_length a b (by omega)]; omega) ?_
    rw [← mid_set a b (by omega)]
    show _ = mkM [(4, .cells false (((mid a b m i).set i ((dig a i + dig b i + addC a b i) % 4294967296)).map u64))]
    rw [List.map_set]
    rfl
end Add
theorem add_ok {a b : List Nat} (ha : Digs a) (hb : Digs b) (hla : a.length ≤ 35184372088000) (hlb : b.length ≤ 35184372088000) : PureOk PP GG tabs 99 [natV a, natV b] (natV (addN a b)) := by
  refine PureOk.of' ?_ (nl_nat _) (by kernel_rfl) ?_
  · intro x hx
    simp at hx
    rcases hx with rfl | rfl <;> exact nl_nat _
  · unfold addN
    by_cases h : a.length < b.length
    · rw [Nat.max_eq_right (by omega)]
      refine PT.walk (envOf F1_ok) (Add.q1 a b) ⟨gtr_t h, add_i64 (by omega), make_row uNum iU64 zU64 (by omega) (by rfl)⟩ ?_
      exact Add.loop_ok ha hb (by omega) (b.length + 1) 0 (by omega)
    · rw [Nat.max_eq_left (by omega)]
      refine PT.walk (envOf F1_ok) (Add.q2 a b) ⟨gtr_f (by omega), add_i64 (by omega), make_row uNum iU64 zU64 (by omega) (by rfl)⟩ ?_
      exact Add.loop_ok ha hb (by omega) (a.length + 1) 0 (by omega)
#print axioms add_ok
end Go.Proofs.YtihloomkgpflmaaGreatDoor

namespace Go.Proofs.YtihloomkgpflmaaGreatDoor
open Go.Proofs.YtihloomkgpflmaaGreatDoor.Vm
variable {tabs : List (Nat × List Value)}
theorem nice_int (k : IntKind) (n : Nat) : veq 1000000 (.int k (.ofNat n)) (.int k (.ofNat n)) = true := by
  simp [veq, eqI]
/-! ### Sub -/
def subC (a b : List Nat) : Nat → Nat
  | 0 => 0
  | i + 1 => 1 - (dig a i + 4294967296 - dig b i - subC a b i) / 4294967296
theorem subC_le (a b : List Nat) : ∀ i, subC a b i ≤ 1
  | 0 => by simp [subC]
  | i + 1 => by unfold subC; omega
def subO (a b : List Nat) (i : Nat) : List Nat := (List.range i).map fun j => (dig a j + 4294967296 - dig b j - subC a b j) % 4294967296
def subN (a b : List Nat) : List Nat := norm (subO a b a.length)

namespace Sub
abbrev outV (n : Nat) : Value := .slice (some ⟨256 * 4, 0, none⟩) n n
noncomputable abbrev row (o : List Nat) : Tr Blk := mkM [(4, .cells false (o.map u64))]
noncomputable def frH (a b o : List Nat) (i c : Nat) : Fr := { onto PP XX GG 11 (door PP 102 [natV [], natV []] .nil GG) [.go, .go, .go, .mem (outV 0) (row []) (GG + 1)] with T := mkT [(0, natV a), (1, natV b), (5, outV a.length), (6, u64 c), (13, i64 a.length), (14, i64 i)], M := row o }
theorem q1 (a b : List Nat) : walk PP XX GG 11 (door PP 102 [natV a, natV b] .nil GG) [.go, .go, .go, .mem (outV a.length) (row (List.replicate a.length 0)) (GG + 1)] [0, 1, 5, 6, 13, 14] [4] =
  some (frH a b (List.replicate a.length 0) 0 0, [.make .nil GG 34 (i64 a.length) (i64 a.length) (outV a.length) (row (List.replicate a.length 0)) (GG + 1)]) := by kernel_rfl
abbrev d (x y c : Nat) : Nat := x + 4294967296 - y - c
theorem q3 (a b o : List Nat) (i c x y : Nat) : walk PP XX GG 17 (frH a b o i c) [.val (.bool true), .go, .go, .go, .go, .val (mkPtr ((a.map u64).drop i)), .val (u64 x), .val (u64 (x + 4294967296)), .go, .go, .go, .pure (u64 y), .val (u64 (x + 4294967296 - y)), .val (u64 (d x y c)), .go, .go, .go, .go, .val (u64 (d x y c % 4294967296)), .val (.pointer (some ⟨256 * 4, i, none⟩)), .mem undef (row (o.set i (d x y c % 4294967296))) (GG + 1), .go, .val (u64 (d x y c / 4294967296)), .val (u64 (1 - d x y c / 4294967296)), .go, .val (i64 (i+1)), .go] [0, 1, 5, 6, 13, 14] [4] =
  some (frH a b (o.set i (d x y c % 4294967296)) (i+1) (1 - d x y c / 4294967296), [.bin .lss 3 false (i64 i) (i64 a.length) (.bool true), .idxA 34 (natV a) (i64 i) (mkPtr ((a.map u64).drop i)), .load (row o) 59 (mkPtr ((a.map u64).drop i)) (u64 x), .nice (u64 x), .bin .add 59 true (u64 x) (u64 4294967296) (u64 (x + 4294967296)),
    .call 114 [natV b, i64 i] (row o) (GG + 1) (u64 y) (row o) (GG + 1), .bin .sub 59 false (u64 (x + 4294967296)) (u64 y) (u64 (x + 4294967296 - y)), .bin .sub 59 false (u64 (x + 4294967296 - y)) (u64 c) (u64 (d x y c)), .bin .rem 59 true (u64 (d x y c)) (u64 4294967296) (u64 (d x y c % 4294967296)),
    .idxA 34 (outV a.length) (i64 i) (.pointer (some ⟨256 * 4, i, none⟩)), .sto (row o) 59 (.pointer (some ⟨256 * 4, i, none⟩)) (u64 (d x y c % 4294967296)) (row (o.set i (d x y c % 4294967296))), .bin .quo 59 true (u64 (d x y c)) (u64 4294967296) (u64 (d x y c / 4294967296)), .bin .sub 59 true (u64 1) (u64 (d x y c / 4294967296)) (u64 (1 - d x y c / 4294967296)), .bin .add 3 true (i64 i) (i64 1) (i64 (i+1))]) := by kernel_rfl
theorem q4 (a b o : List Nat) (i c : Nat) (r : List Nat) : ends PP XX GG 8 (frH a b o i c) [.val (.bool false), .go, .mem (natV r) (mkM [(4, .frz (o.map u64))]) (GG + 1), .go] [4] [] =
  some (natV r, mkM [], [.bin .lss 3 false (i64 i) (i64 a.length) (.bool false), .call 41 [outV a.length] (row o) (GG + 1) (natV r) (mkM [(4, .frz (o.map u64))]) (GG + 1)]) := by kernel_rfl
theorem subO_length (a b : List Nat) (i : Nat) : (subO a b i).length = i := by simp [subO]
abbrev mid (a b : List Nat) (i : Nat) : List Nat := subO a b i ++ List.replicate (a.length - i) 0
theorem mid_length (a b : List Nat) {i : Nat} (h : i ≤ a.length) : (mid a b i).length = a.length := by simp [mid, subO_length]; omega
theorem mid_set (a b : List Nat) {i : Nat} (h : i < a.length) : (mid a b i).set i (d (dig a i) (dig b i) (subC a b i) % 4294967296) = mid a b (i + 1) := by
  have e : a.length - i = (a.length - (i + 1)) + 1 := by omega
  unfold mid
  rw [e, List.replicate_succ, List.set_append_right _ _ (by rw [subO_length]; omega), subO_length, Nat.sub_self, List.set_cons_zero]
  have : subO a b (i + 1) = subO a b i ++ [d (dig a i) (dig b i) (subC a b i) % 4294967296] := by simp [subO, List.range_succ, d]
  rw [this]; simp
theorem loop_ok {a b : List Nat} (ha : Digs a) (hb : Digs b) (hm : a.length + 2 < 9223372036854775808) : ∀ k i, i + k = a.length → PT PP GG tabs (frH a b (mid a b i) i (subC a b i)) (natV (norm (subO a b a.length)))
  | 0, i, h => by
    have hi : i = a.length := by omega
    subst hi
    have e : mid a b a.length = subO a b a.length := by simp [mid]
    rw [e]
    have hl := subO_length a b a.length
    refine PT.ends (envOf F1_ok) (q4 a b _ a.length _ (norm (subO a b a.length))) ⟨lss_f (by omega), ?_⟩ .same
    have := F1_norm (subO a b a.length) (M := row (subO a b a.length)) (M' := mkM [(4, .frz ((subO a b a.length).map u64))]) (x := 256 * 4) (c := a.length) (nx := GG + 1) (by rfl) (by omega) (by omega) (by rfl)
    rw [hl] at this
    exact this
  | k + 1, i, h => by
    have hx : a[i]? = some (dig a i) := by simp [dig, List.getElem?_eq_getElem (show i < a.length by omega)]
    have h1 := ha.dig i
    have h2 := hb.dig i
    have h3 := subC_le a b i
    have := q3 a b (mid a b i) i (subC a b i) (dig a i) (dig b i)
    rw [mid_set a b (by omega)] at this
    refine PT.walk (envOf F1_ok) this ⟨lss_t (by omega), idx_dat uNum sU64 (by omega), load_ptr gU64 (by simp [hx]), nice_int _ _, add_u64' (by omega), F1_at _ _ _ _, sub_u64' (by omega) (by omega), sub_u64' (by omega) (by omega), rem_of (by omega), idx_own uNum sU64 (by omega), ?_, quo_of (.inr rfl) (by omega) (.inr ⟨rfl, by unfold d; omega⟩), sub_u64' (by unfold d; omega) (by omega), add_i64 (by omega)⟩ (loop_ok ha hb hm k (i + 1) (by omega))
    refine sto_own (vs := (mid a b i).map u64) (by rfl) sU64 (by rw [List.length_map, mid_length a b (by omega)]; omega) ?_
    rw [← mid_set a b (by omega)]
    show _ = mkM [(4, .cells false (((mid a b i).set i (d (dig a i) (dig b i) (subC a b i) % 4294967296)).map u64))]
    rw [List.map_set]
    rfl
end Sub
theorem sub_ok {a b : List Nat} (ha : Digs a) (hb : Digs b) (hla : a.length ≤ 35184372088000) : PureOk PP GG tabs 102 [natV a, natV b] (natV (subN a b)) := by
  refine PureOk.of' ?_ (nl_nat _) (by kernel_rfl) ?_
  · intro x hx
    simp at hx
    rcases hx with rfl | rfl <;> exact nl_nat _
  · unfold subN
    refine PT.walk (envOf F1_ok) (Sub.q1 a b) (make_row uNum iU64 zU64 (by omega) (by rfl)) ?_
    exact Sub.loop_ok ha hb (by omega) a.length 0 (by omega)
#print axioms sub_ok
end Go.Proofs.YtihloomkgpflmaaGreatDoor

namespace Go.Proofs.YtihloomkgpflmaaGreatDoor
open Go.Proofs.YtihloomkgpflmaaGreatDoor.Vm
variable {tabs : List (Nat × List Value)}
/-- Of digits the first k, from the top. -/
def cmpD (a b : List Nat) : Nat → Int
  | 0 => 0
  | k + 1 => if dig a k < dig b k then .negSucc 0 else if dig b k < dig a k then 1 else cmpD a b k
def cmpN (a b : List Nat) : Int := if a.length = b.length then cmpD a b a.length else if a.length < b.length then .negSucc 0 else 1
/-- One less, as an int. -/
def less1 : Nat → Value
  | 0 => .int .i64 (.negSucc 0)
  | k + 1 => i64 k
theorem less1_of (n : Nat) (h : n < 9223372036854775808) {t : TypeId} {c : Bool} : aBin PP .sub t c (i64 n) (i64 1) = some (less1 n) := by
  cases n with
  | zero => rfl
  | succ k => exact sub_i64 (by omega) (by omega)
theorem geq_m {t : TypeId} {c : Bool} : aBin PP .geq t c (.int .i64 (.negSucc 0)) (i64 0) = some (.bool false) := rfl

namespace Cmp
abbrev pa (a : List Nat) (k : Nat) : Value := mkPtr ((a.map u64).drop k)
noncomputable def frC (a b : List Nat) (v : Value) : Fr := { onto PP XX GG 12 (door PP 101 [natV [], natV []] .nil GG) [.go, .go, .go, .go, .go, .val (.bool false), .go, .go, .val (i64 0), .go] with T := mkT [(0, natV a), (1, natV b), (5, v)], M := mkM [] }
theorem q0 (a b : List Nat) (v : Value) : walk PP XX GG 12 (door PP 101 [natV a, natV b] .nil GG) [.go, .go, .go, .go, .go, .val (.bool false), .go, .go, .val v, .go] [0, 1, 5] [] =
  some (frC a b v, [.bin .neq 3 false (i64 a.length) (i64 b.length) (.bool false), .bin .sub 3 true (i64 a.length) (i64 1) v]) := by kernel_rfl
theorem q1 (a b : List Nat) : ends PP XX GG 13 (door PP 101 [natV a, natV b] .nil GG) [.go, .go, .go, .go, .go, .val (.bool true), .go, .go, .go, .go, .val (.bool true)] [4] [] =
  some (.int .i64 (.negSucc 0), mkM [], [.bin .neq 3 false (i64 a.length) (i64 b.length) (.bool true), .bin .lss 3 false (i64 a.length) (i64 b.length) (.bool true)]) := by kernel_rfl
theorem q2 (a b : List Nat) : ends PP XX GG 14 (door PP 101 [natV a, natV b] .nil GG) [.go, .go, .go, .go, .go, .val (.bool true), .go, .go, .go, .go, .val (.bool false)] [4] [] =
  some (i64 1, mkM [], [.bin .neq 3 false (i64 a.length) (i64 b.length) (.bool true), .bin .lss 3 false (i64 a.length) (i64 b.length) (.bool false)]) := by kernel_rfl
theorem q3 (a b : List Nat) (v : Value) : ends PP XX GG 8 (frC a b v) [.go, .val (.bool false), .go] [4] [] = some (i64 0, mkM [], [.bin .geq 3 true v (i64 0) (.bool false)]) := by kernel_rfl
theorem q4 (a b : List Nat) (k x y : Nat) : ends PP XX GG 14 (frC a b (i64 k)) [.go, .val (.bool true), .go, .go, .val (pa a k), .val (u64 x), .go, .go, .val (pa b k), .val (u64 y), .val (.bool true), .go] [4] [] =
  some (.int .i64 (.negSucc 0), mkM [], [.bin .geq 3 true (i64 k) (i64 0) (.bool true), .idxA 34 (natV a) (i64 k) (pa a k), .load (mkM []) 59 (pa a k) (u64 x), .nice (u64 x), .idxA 34 (natV b) (i64 k) (pa b k), .load (mkM []) 59 (pa b k) (u64 y), .nice (u64 y), .bin .lss 59 false (u64 x) (u64 y) (.bool true)]) := by kernel_rfl
theorem q5 (a b : List Nat) (k x y : Nat) : ends PP XX GG 18 (frC a b (i64 k)) [.go, .val (.bool true), .go, .go, .val (pa a k), .val (u64 x), .go, .go, .val (pa b k), .val (u64 y), .val (.bool false), .go, .go, .val (pa a k), .val (u64 x), .go, .go, .val (pa b k), .val (u64 y), .val (.bool true), .go] [4] [] =
  some (i64 1, mkM [], [.bin .geq 3 true (i64 k) (i64 0) (.bool true), .idxA 34 (natV a) (i64 k) (pa a k), .load (mkM []) 59 (pa a k) (u64 x), .nice (u64 x), .idxA 34 (natV b) (i64 k) (pa b k), .load (mkM []) 59 (pa b k) (u64 y), .nice (u64 y), .bin .lss 59 false (u64 x) (u64 y) (.bool false),
    .idxA 34 (natV a) (i64 k) (pa a k), .load (mkM []) 59 (pa a k) (u64 x), .nice (u64 x), .idxA 34 (natV b) (i64 k) (pa b k), .load (mkM []) 59 (pa b k) (u64 y), .nice (u64 y), .bin .gtr 59 false (u64 x) (u64 y) (.bool true)]) := by kernel_rfl
theorem q6 (a b : List Nat) (k x y : Nat) (w : Value) : walk PP XX GG 19 (frC a b (i64 k)) [.go, .val (.bool true), .go, .go, .val (pa a k), .val (u64 x), .go, .go, .val (pa b k), .val (u64 y), .val (.bool false), .go, .go, .val (pa a k), .val (u64 x), .go, .go, .val (pa b k), .val (u64 y), .val (.bool false), .go, .val w, .go] [0, 1, 5] [] =
  some (frC a b w, [.bin .geq 3 true (i64 k) (i64 0) (.bool true), .idxA 34 (natV a) (i64 k) (pa a k), .load (mkM []) 59 (pa a k) (u64 x), .nice (u64 x), .idxA 34 (natV b) (i64 k) (pa b k), .load (mkM []) 59 (pa b k) (u64 y), .nice (u64 y), .bin .lss 59 false (u64 x) (u64 y) (.bool false),
    .idxA 34 (natV a) (i64 k) (pa a k), .load (mkM []) 59 (pa a k) (u64 x), .nice (u64 x), .idxA 34 (natV b) (i64 k) (pa b k), .load (mkM []) 59 (pa b k) (u64 y), .nice (u64 y), .bin .gtr 59 false (u64 x) (u64 y) (.bool false), .bin .sub 3 true (i64 k) (i64 1) w]) := by kernel_rfl
theorem loop_ok {a b : List Nat} (hl : a.length = b.length) (hm : a.length < 9223372036854775808) : ∀ k, k ≤ a.length → PT PP GG tabs (frC a b (less1 k)) (.int .i64 (cmpD a b k))
  | 0, _ => PT.ends (envOf F1_ok) (q3 a b _) geq_m .same
  | k + 1, h => by
    have hx : ((a.map u64).drop k)[0]? = some (u64 (dig a k)) := by simp [dig, List.getElem?_eq_getElem (show k < a.length by omega)]
    have hy : ((b.map u64).drop k)[0]? = some (u64 (dig b k)) := by simp [dig, List.getElem?_eq_getElem (show k < b.length by omega)]
    show PT PP GG tabs (frC a b (i64 k)) _
    unfold cmpD
    by_cases h1 : dig a k < dig b k
    · rw [if_pos h1]
      exact PT.ends (envOf F1_ok) (q4 a b k (dig a k) (dig b k)) ⟨geq_t (by omega), idx_dat uNum sU64 (by omega), load_ptr gU64 hx, nice_int _ _, idx_dat uNum sU64 (by omega), load_ptr gU64 hy, nice_int _ _, lss_t h1⟩ .same
    · rw [if_neg h1]
      by_cases h2 : dig b k < dig a k
      · rw [if_pos h2]
        exact PT.ends (envOf F1_ok) (q5 a b k (dig a k) (dig b k)) ⟨geq_t (by omega), idx_dat uNum sU64 (by omega), load_ptr gU64 hx, nice_int _ _, idx_dat uNum sU64 (by omega), load_ptr gU64 hy, nice_int _ _, lss_f (by omega), idx_dat uNum sU64 (by omega), load_ptr gU64 hx, nice_int _ _, idx_dat uNum sU64 (by omega), load_ptr gU64 hy, nice_int _ _, gtr_t h2⟩ .same
      · rw [if_neg h2]
        exact PT.walk (envOf F1_ok) (q6 a b k (dig a k) (dig b k) (less1 k)) ⟨geq_t (by omega), idx_dat uNum sU64 (by omega), load_ptr gU64 hx, nice_int _ _, idx_dat uNum sU64 (by omega), load_ptr gU64 hy, nice_int _ _, lss_f (by omega), idx_dat uNum sU64 (by omega), load_ptr gU64 hx, nice_int _ _, idx_dat uNum sU64 (by omega), load_ptr gU64 hy, nice_int _ _, gtr_f (by omega), less1_of k (by omega)⟩ (loop_ok hl hm k (by omega))
end Cmp
theorem cmp_ok (a b : List Nat) (hm : a.length < 9223372036854775808) : PureOk PP GG tabs 101 [natV a, natV b] (.int .i64 (cmpN a b)) := by
  refine PureOk.of' ?_ nl_int (by kernel_rfl) ?_
  · intro x hx
    simp at hx
    rcases hx with rfl | rfl <;> exact nl_nat _
  · unfold cmpN
    by_cases h : a.length = b.length
    · rw [if_pos h]
      exact PT.walk (envOf F1_ok) (Cmp.q0 a b (less1 a.length)) ⟨neq_f h, less1_of _ hm⟩ (Cmp.loop_ok h hm a.length (Nat.le_refl _))
    · rw [if_neg h]
      by_cases h2 : a.length < b.length
      · rw [if_pos h2]
        exact PT.ends (envOf F1_ok) (Cmp.q1 a b) ⟨neq_t h, lss_t h2⟩ .same
      · rw [if_neg h2]
        exact PT.ends (envOf F1_ok) (Cmp.q2 a b) ⟨neq_t h, lss_f (by omega)⟩ .same
#print axioms cmp_ok
end Go.Proofs.YtihloomkgpflmaaGreatDoor

namespace Go.Proofs.YtihloomkgpflmaaGreatDoor
open Go.Proofs.YtihloomkgpflmaaGreatDoor.Vm
variable {tabs : List (Nat × List Value)}
/-! ### Zero -/
theorem isZero_q (l : List Nat) (b : Bool) : ends PP XX GG 5 (door PP 17 [natV l] .nil GG) [.go, .go, .go, .val (.bool b), .go] [2] [] = some (.bool b, mkM [], [.bin .eql 3 true (i64 l.length) (i64 0) (.bool b)]) := by kernel_rfl
theorem zero_ok (l : List Nat) : PureOk PP GG tabs 17 [natV l] (.bool (decide (l.length = 0))) := by
  refine PureOk.of' ?_ ⟨1, rfl⟩ (by kernel_rfl) ?_
  · intro x hx; simp at hx; subst hx; exact nl_nat l
  · by_cases h : l.length = 0
    · rw [decide_eq_true h]; exact PT.ends (envOf F1_ok) (isZero_q l true) (eql_t h) .same
    · rw [decide_eq_false h]; exact PT.ends (envOf F1_ok) (isZero_q l false) (eql_f h) .same

/-! ### Mul -/
/-- Of the row behind k steps of the inner loop: the digits, the carry. -/
def mulI (x : Nat) (b : List Nat) (i : Nat) (o : List Nat) : Nat → List Nat × Nat
  | 0 => (o, 0)
  | k + 1 => ((mulI x b i o k).1.set (i + k) ((x * dig b k + dig (mulI x b i o k).1 (i + k) + (mulI x b i o k).2) % 4294967296), (x * dig b k + dig (mulI x b i o k).1 (i + k) + (mulI x b i o k).2) / 4294967296)
def mulO (a b : List Nat) : Nat → List Nat
  | 0 => List.replicate (a.length + b.length + 1) 0
  | i + 1 => (mulI (dig a i) b i (mulO a b i) b.length).1.set (i + b.length) (mulI (dig a i) b i (mulO a b i) b.length).2
def mulN (a b : List Nat) : List Nat := norm (mulO a b a.length)
theorem Digs.set {l : List Nat} (h : Digs l) {i x : Nat} (hx : x < 4294967296) : Digs (l.set i x) := by
  intro y hy
  rcases List.mem_or_eq_of_mem_set hy with e | e
  · exact h y e
  · rw [e]; exact hx
theorem mul_bound {x y z c : Nat} (hx : x < 4294967296) (hy : y < 4294967296) (hz : z < 4294967296) (hc : c < 4294967296) : x * y < 18446744073709551616 ∧ x * y + z < 18446744073709551616 ∧ x * y + z + c < 18446744073709551616 := by
  have h1 : x * y ≤ 4294967295 * 4294967295 := Nat.mul_le_mul (by omega) (by omega)
  omega
theorem mulI_ok {x : Nat} {b : List Nat} {i : Nat} {o : List Nat} (hx : x < 4294967296) (hb : Digs b) (ho : Digs o) : ∀ k, Digs (mulI x b i o k).1 ∧ (mulI x b i o k).2 < 4294967296 ∧ (mulI x b i o k).1.length = o.length
  | 0 => ⟨ho, by simp [mulI], rfl⟩
  | k + 1 => by
    obtain ⟨h1, h2, h3⟩ := mulI_ok (i := i) hx hb ho k
    have hb' := mul_bound hx (hb.dig k) (h1.dig (i + k)) h2
    refine ⟨h1.set (Nat.mod_lt _ (by omega)), ?_, by simp [mulI, h3]⟩
    show (x * dig b k + dig (mulI x b i o k).1 (i + k) + (mulI x b i o k).2) / 4294967296 < 4294967296
    omega
theorem mulO_ok {a b : List Nat} (ha : Digs a) (hb : Digs b) : ∀ i, Digs (mulO a b i) ∧ (mulO a b i).length = a.length + b.length + 1
  | 0 => ⟨fun x hx => by have := List.eq_of_mem_replicate hx; omega, by simp [mulO]⟩
  | i + 1 => by
    obtain ⟨h1, h2⟩ := mulO_ok ha hb i
    obtain ⟨h3, h4, h5⟩ := mulI_ok (i := i) (ha.dig i) hb h1 b.length
    exact ⟨h3.set h4, by simp [mulO, h5, h2]⟩

namespace Mul
abbrev outV (n : Nat) : Value := .slice (some ⟨256 * 4, 0, none⟩) n n
noncomputable abbrev row (o : List Nat) : Tr Blk := mkM [(4, .cells false (o.map u64))]
abbrev at' (i : Nat) : Value := .pointer (some ⟨256 * 4, i, none⟩)
abbrev pa (a : List Nat) (k : Nat) : Value := mkPtr ((a.map u64).drop k)
noncomputable def frO (a b o : List Nat) (w i : Nat) : Fr := { onto PP XX GG 9 (door PP 106 [natV [], natV []] .nil GG) [.go, .go, .go, .go, .go, .val (i64 0), .val (i64 1), .mem (outV 1) (row [0]) (GG+1)] with T := mkT [(0, natV a), (1, natV b), (5, outV w), (19, natV a), (20, i64 a.length), (21, i64 i)], M := row o }
noncomputable def frI (a b o : List Nat) (w i x c k : Nat) : Fr := { onto PP XX GG 16 (frO [0] [] [0] 1 0) [.val (.bool true), .go, .val (mkPtr [u64 0]), .val (u64 0), .go, .go, .go, .go, .go] with T := mkT [(0, natV a), (1, natV b), (5, outV w), (6, i64 i), (7, u64 x), (8, u64 c), (19, natV a), (20, i64 a.length), (21, i64 i), (26, natV b), (27, i64 b.length), (28, i64 k)], M := row o }
theorem q0 (a b : List Nat) (m w : Nat) : walk PP XX GG 9 (door PP 106 [natV a, natV b] .nil GG) [.go, .go, .go, .go, .go, .val (i64 m), .val (i64 w), .mem (outV w) (row (List.replicate w 0)) (GG+1)] [0, 1, 5, 19, 20, 21] [4] =
  some (frO a b (List.replicate w 0) w 0, [.bin .add 3 false (i64 a.length) (i64 b.length) (i64 m), .bin .add 3 true (i64 m) (i64 1) (i64 w), .make .nil GG 34 (i64 w) (i64 w) (outV w) (row (List.replicate w 0)) (GG+1)]) := by kernel_rfl
theorem q1 (a b o : List Nat) (w i x : Nat) : walk PP XX GG 16 (frO a b o w i) [.val (.bool true), .go, .val (pa a i), .val (u64 x), .go, .go, .go, .go, .go] [0, 1, 5, 6, 7, 8, 19, 20, 21, 26, 27, 28] [4] =
  some (frI a b o w i x 0 0, [.bin .lss 3 false (i64 i) (i64 a.length) (.bool true), .idxA 34 (natV a) (i64 i) (pa a i), .load (row o) 59 (pa a i) (u64 x)]) := by kernel_rfl
theorem q2 (a b o : List Nat) (w i x c k y z m s d : Nat) : walk PP XX GG 17 (frI a b o w i x c k) [.val (.bool true), .go, .val (pa b k), .val (u64 y), .go, .go, .go, .go, .val (u64 m), .go, .go, .go, .val (i64 (i+k)), .val (at' (i+k)), .val (u64 z), .val (u64 s), .go, .val (u64 d), .go, .go, .go, .go, .val (i64 (i+k)), .go, .val (u64 (d % 4294967296)), .val (at' (i+k)), .mem undef (row (o.set (i+k) (d % 4294967296))) (GG + 1), .go, .val (u64 (d / 4294967296)), .go, .val (i64 (k+1)), .go] [0, 1, 5, 6, 7, 8, 19, 20, 21, 26, 27, 28] [4] =
  some (frI a b (o.set (i+k) (d % 4294967296)) w i x (d / 4294967296) (k+1), [.bin .lss 3 false (i64 k) (i64 b.length) (.bool true), .idxA 34 (natV b) (i64 k) (pa b k), .load (row o) 59 (pa b k) (u64 y), .bin .mul 59 false (u64 x) (u64 y) (u64 m), .bin .add 3 false (i64 i) (i64 k) (i64 (i+k)), .idxA 34 (outV w) (i64 (i+k)) (at' (i+k)), .load (row o) 59 (at' (i+k)) (u64 z),
    .bin .add 59 false (u64 m) (u64 z) (u64 s), .bin .add 59 false (u64 s) (u64 c) (u64 d), .bin .add 3 false (i64 i) (i64 k) (i64 (i+k)), .bin .rem 59 true (u64 d) (u64 4294967296) (u64 (d % 4294967296)), .idxA 34 (outV w) (i64 (i+k)) (at' (i+k)), .sto (row o) 59 (at' (i+k)) (u64 (d % 4294967296)) (row (o.set (i+k) (d % 4294967296))), .bin .quo 59 true (u64 d) (u64 4294967296) (u64 (d / 4294967296)), .bin .add 3 true (i64 k) (i64 1) (i64 (k+1))]) := by kernel_rfl
theorem q3 (a b o : List Nat) (w i x c k m : Nat) : walk PP XX GG 9 (frI a b o w i x c k) [.val (.bool false), .go, .go, .go, .go, .val (i64 m), .go, .val (at' m), .mem undef (row (o.set m c)) (GG + 1), .val (i64 (i+1)), .go] [0, 1, 5, 19, 20, 21] [4] =
  some (frO a b (o.set m c) w (i+1), [.bin .lss 3 false (i64 k) (i64 b.length) (.bool false), .bin .add 3 false (i64 i) (i64 b.length) (i64 m), .idxA 34 (outV w) (i64 m) (at' m), .sto (row o) 59 (at' m) (u64 c) (row (o.set m c)), .bin .add 3 true (i64 i) (i64 1) (i64 (i+1))]) := by kernel_rfl
theorem q4 (a b o : List Nat) (w i : Nat) (r : List Nat) : ends PP XX GG 8 (frO a b o w i) [.val (.bool false), .go, .mem (natV r) (mkM [(4, .frz (o.map u64))]) (GG + 1), .go] [4] [] =
  some (natV r, mkM [], [.bin .lss 3 false (i64 i) (i64 a.length) (.bool false), .call 41 [outV w] (row o) (GG + 1) (natV r) (mkM [(4, .frz (o.map u64))]) (GG + 1)]) := by kernel_rfl
theorem sto_row {o : List Nat} {j d : Nat} (h : j < o.length) : aStore PP (row o) 59 (at' j) (u64 d) = some (row (o.set j d)) := by
  refine sto_own (vs := o.map u64) (by rfl) sU64 (by rw [List.length_map]; exact h) ?_
  show _ = mkM [(4, .cells false ((o.set j d).map u64))]
  rw [List.map_set]
  rfl
theorem load_row {o : List Nat} {j : Nat} (h : j < o.length) : aLoad PP (row o) 59 (at' j) = some (u64 (dig o j)) :=
  load_own (y := .cells false (o.map u64)) (vs := o.map u64) (by rfl) rfl gU64 (by simp [dig, List.getElem?_eq_getElem h])
theorem dig_of {a : List Nat} {k : Nat} (h : k < a.length) : ((a.map u64).drop k)[0]? = some (u64 (dig a k)) := by simp [dig, List.getElem?_eq_getElem h]
theorem inner_ok {a b o : List Nat} {w i x : Nat} {v : Value} (hx : x < 4294967296) (hb : Digs b) (ho : Digs o) (hw : o.length = w) (hi : i + b.length < w) (hm : w < 9223372036854775000)
    (g : PT PP GG tabs (frO a b ((mulI x b i o b.length).1.set (i + b.length) (mulI x b i o b.length).2) w (i + 1)) v) : ∀ d k, k + d = b.length → PT PP GG tabs (frI a b (mulI x b i o k).1 w i x (mulI x b i o k).2 k) v
  | 0, k, h => by
    have hk : k = b.length := by omega
    subst hk
    have hl := (mulI_ok (i := i) hx hb ho b.length).2.2
    exact PT.walk (envOf F1_ok) (q3 a b _ w i x _ b.length (i + b.length)) ⟨lss_f (by omega), add_i64 (by omega), idx_own uNum sU64 (by omega), sto_row (by omega), add_i64 (by omega)⟩ g
  | d + 1, k, h => by
    obtain ⟨h1, h2, hl⟩ := mulI_ok (i := i) hx hb ho k
    obtain ⟨b1, b2, b3⟩ := mul_bound hx (hb.dig k) (h1.dig (i + k)) h2
    exact PT.walk (envOf F1_ok) (q2 a b _ w i x _ k (dig b k) (dig (mulI x b i o k).1 (i + k)) (x * dig b k) (x * dig b k + dig (mulI x b i o k).1 (i + k)) (x * dig b k + dig (mulI x b i o k).1 (i + k) + (mulI x b i o k).2))
      ⟨lss_t (by omega), idx_dat uNum sU64 (by omega), load_ptr gU64 (dig_of (by omega)), mul_u64' b1, add_i64 (by omega), idx_own uNum sU64 (by omega), load_row (by omega), add_u64' b2, add_u64' b3, add_i64 (by omega), rem_of (by omega), idx_own uNum sU64 (by omega), sto_row (by omega), quo_of (.inr rfl) (by omega) (.inr ⟨rfl, b3⟩), add_i64 (by omega)⟩
      (inner_ok hx hb ho hw hi hm g d (k + 1) (by omega))
theorem outer_ok {a b : List Nat} (ha : Digs a) (hb : Digs b) (hm : a.length + b.length + 1 < 9223372036854775000) : ∀ d i, i + d = a.length → PT PP GG tabs (frO a b (mulO a b i) (a.length + b.length + 1) i) (natV (mulN a b))
  | 0, i, h => by
    have hi : i = a.length := by omega
    subst hi
    obtain ⟨_, hl⟩ := mulO_ok ha hb a.length
    refine PT.ends (envOf F1_ok) (q4 a b _ _ a.length (mulN a b)) ⟨lss_f (by omega), ?_⟩ .same
    have := F1_norm (mulO a b a.length) (M := row (mulO a b a.length)) (M' := mkM [(4, .frz ((mulO a b a.length).map u64))]) (x := 256 * 4) (c := a.length + b.length + 1) (nx := GG + 1) (by rfl) (by omega) (by omega) (by rfl)
    rw [hl] at this
    exact this
  | d + 1, i, h => by
    obtain ⟨ho, hl⟩ := mulO_ok ha hb i
    exact PT.walk (envOf F1_ok) (q1 a b _ _ i (dig a i)) ⟨lss_t (by omega), idx_dat uNum sU64 (by omega), load_ptr gU64 (dig_of (by omega))⟩
      (inner_ok (ha.dig i) hb ho hl (by omega) hm (outer_ok ha hb hm d (i + 1) (by omega)) b.length 0 (by omega))
end Mul
theorem mul_ok {a b : List Nat} (ha : Digs a) (hb : Digs b) (hla : a.length + b.length ≤ 35184372088000) : PureOk PP GG tabs 106 [natV a, natV b] (natV (mulN a b)) := by
  refine PureOk.of' ?_ (nl_nat _) (by kernel_rfl) ?_
  · intro x hx
    simp at hx
    rcases hx with rfl | rfl <;> exact nl_nat _
  · exact PT.walk (envOf F1_ok) (Mul.q0 a b (a.length + b.length) (a.length + b.length + 1)) ⟨add_i64 (by omega), add_i64 (by omega), make_row uNum iU64 zU64 (by omega) (by rfl)⟩ (Mul.outer_ok ha hb (by omega) a.length 0 (by omega))
#print axioms mul_ok
end Go.Proofs.YtihloomkgpflmaaGreatDoor

namespace Go.Proofs.YtihloomkgpflmaaGreatDoor
open Go.Proofs.YtihloomkgpflmaaGreatDoor.Vm
variable {tabs : List (Nat × List Value)}
theorem shl_u64 {t : TypeId} {c : Bool} {x r : Nat} (hr : r ≤ 64) (h : x * 2 ^ r < 18446744073709551616) : aBin PP .shl t c (u64 x) (i64 r) = some (u64 (x * 2 ^ r)) := by
  have h1 : Nat.ble r IntKind.u64.bits = true := by rw [Nat.ble_eq]; exact hr
  have h2 : Int.mul (Int.ofNat x) (pow2 r) = Int.ofNat (x * 2 ^ r) := rfl
  show aShift .shl .u64 (Int.ofNat x) (Int.ofNat r) = _
  simp only [aShift, h1, cond_true, h2, keep_u64, Nat.mod_eq_of_lt h]
/-- Of the row behind i digits. -/
def shlO (a : List Nat) (s : Nat) : Nat → List Nat
  | 0 => List.replicate (a.length + s / 32 + 1) 0
  | i + 1 => ((shlO a s i).set (i + s / 32) (dig (shlO a s i) (i + s / 32) + dig a i * 2 ^ (s % 32) % 4294967296)).set (i + s / 32 + 1) (dig a i * 2 ^ (s % 32) / 4294967296)
def shlN (a : List Nat) (s : Nat) : List Nat := if a.length = 0 then [] else norm (shlO a s a.length)
theorem dig_set_self {l : List Nat} {i x : Nat} (h : i < l.length) : dig (l.set i x) i = x := by simp [dig, h]
theorem shl_parts {x r : Nat} (hx : x < 4294967296) (hr : r < 32) : x * 2 ^ r < 18446744073709551616 ∧ x * 2 ^ r / 4294967296 < 2 ^ r ∧ x * 2 ^ r % 4294967296 + 2 ^ r ≤ 4294967296 ∧ 2 ^ r ≤ 4294967296 := by
  have e : (4294967296 : Nat) = 2 ^ r * 2 ^ (32 - r) := by
    rw [← Nat.pow_add]
    have : r + (32 - r) = 32 := by omega
    rw [this]
  have hp : 0 < 2 ^ r := Nat.pos_of_ne_zero (by simp)
  have hq : 0 < 2 ^ (32 - r) := Nat.pos_of_ne_zero (by simp)
  have h2 : 2 ^ r ≤ 4294967296 := by rw [e]; exact Nat.le_mul_of_pos_right _ hq
  have h1 : x * 2 ^ r < 4294967296 * 2 ^ r := Nat.mul_lt_mul_of_pos_right hx hp
  refine ⟨?_, ?_, ?_, h2⟩
  · have : 4294967296 * 2 ^ r ≤ 4294967296 * 4294967296 := Nat.mul_le_mul_left _ h2
    omega
  · rw [Nat.div_lt_iff_lt_mul (by omega)]
    rw [Nat.mul_comm (2 ^ r)]; exact h1
  · have h3 : x * 2 ^ r % 4294967296 = 2 ^ r * (x % 2 ^ (32 - r)) := by
      rw [e, Nat.mul_comm x, Nat.mul_mod_mul_left]
    have h4 : x % 2 ^ (32 - r) + 1 ≤ 2 ^ (32 - r) := Nat.mod_lt _ hq
    have h5 : 2 ^ r * (x % 2 ^ (32 - r) + 1) ≤ 2 ^ r * 2 ^ (32 - r) := Nat.mul_le_mul_left _ h4
    rw [h3]
    rw [← e, Nat.mul_add, Nat.mul_one] at h5
    exact h5
theorem shlO_ok {a : List Nat} (ha : Digs a) (s : Nat) : ∀ i, i ≤ a.length → (shlO a s i).length = a.length + s / 32 + 1 ∧ Digs (shlO a s i) ∧ dig (shlO a s i) (i + s / 32) < 2 ^ (s % 32)
  | 0, _ => ⟨by simp [shlO], fun x hx => by have := List.eq_of_mem_replicate hx; omega, by
      have : dig (shlO a s 0) (0 + s / 32) = 0 := by
        simp only [shlO, dig, List.getElem?_replicate]
        split <;> rfl
      rw [this]; exact Nat.pos_of_ne_zero (by simp)⟩
  | i + 1, h => by
    obtain ⟨h1, h2, h3⟩ := shlO_ok ha s i (by omega)
    obtain ⟨p1, p2, p3, p4⟩ := shl_parts (ha.dig i) (Nat.mod_lt s (by omega : 0 < 32))
    refine ⟨by simp [shlO, h1], (h2.set (by omega)).set (by omega), ?_⟩
    have e : i + 1 + s / 32 = i + s / 32 + 1 := by omega
    rw [e]
    simp only [shlO]
    rw [dig_set_self (by simp [h1]; omega)]
    exact p2

namespace Shl
open Go.Proofs.YtihloomkgpflmaaGreatDoor.Mul (outV row at' pa sto_row load_row dig_of)
noncomputable def frS (a o : List Nat) (s w i : Nat) : Fr := { onto PP XX GG 16 (door PP 100 [natV [0], i64 0] .nil GG) [.go, .go, .go, .val (.bool false), .go, .go, .go, .val (i64 0), .val (i64 0), .val (i64 1), .mem (outV 1) (row [0]) (GG + 1), .go, .go, .val (i64 0), .go, .go, .go, .go] with T := mkT [(0, natV a), (1, i64 s), (5, outV w), (6, i64 (s % 32)), (21, natV a), (22, i64 a.length), (23, i64 i)], M := row o }
theorem q0 (a : List Nat) (s m w : Nat) : walk PP XX GG 16 (door PP 100 [natV a, i64 s] .nil GG) [.go, .go, .go, .val (.bool false), .go, .go, .go, .val (i64 (s/32)), .val (i64 m), .val (i64 w), .mem (outV w) (row (List.replicate w 0)) (GG + 1), .go, .go, .val (i64 (s % 32)), .go, .go, .go, .go] [0, 1, 5, 6, 21, 22, 23] [4] =
  some (frS a (List.replicate w 0) s w 0, [.bin .eql 3 true (i64 a.length) (i64 0) (.bool false), .bin .quo 3 true (i64 s) (i64 32) (i64 (s / 32)), .bin .add 3 false (i64 a.length) (i64 (s / 32)) (i64 m), .bin .add 3 true (i64 m) (i64 1) (i64 w), .make .nil GG 34 (i64 w) (i64 w) (outV w) (row (List.replicate w 0)) (GG + 1), .bin .rem 3 true (i64 s) (i64 32) (i64 (s % 32))]) := by kernel_rfl
theorem q1 (a : List Nat) (s : Nat) : ends PP XX GG 9 (door PP 100 [natV a, i64 s] .nil GG) [.go, .go, .go, .val (.bool true), .go] [4] [] = some (.slice none 0 0, mkM [], [.bin .eql 3 true (i64 a.length) (i64 0) (.bool true)]) := by kernel_rfl
theorem q2 (a o : List Nat) (s w i x j v z l y : Nat) : walk PP XX GG 15 (frS a o s w i) [.val (.bool true), .go, .val (pa a i), .val (u64 x), .go, .go,   .go, .go, .go, .val (i64 (s/32)), .val (i64 j), .val (at' j), .val (u64 z), .go, .go, .val (u64 v), .val (u64 l), .val (u64 y), .val (at' j), .mem undef (row (o.set j y)) (GG+1), .go, .go, .go, .val (i64 (s/32)), .val (i64 j), .val (i64 (j+1)), .go, .go, .val (u64 v), .val (u64 (v/4294967296)), .val (at' (j+1)), .mem undef (row ((o.set j y).set (j+1) (v/4294967296))) (GG+1), .val (i64 (i+1)), .go] [0, 1, 5, 6, 21, 22, 23] [4] =
  some (frS a ((o.set j y).set (j+1) (v/4294967296)) s w (i+1), [.bin .lss 3 false (i64 i) (i64 a.length) (.bool true), .idxA 34 (natV a) (i64 i) (pa a i), .load (row o) 59 (pa a i) (u64 x), .bin .quo 3 true (i64 s) (i64 32) (i64 (s / 32)), .bin .add 3 false (i64 i) (i64 (s / 32)) (i64 j), .idxA 34 (outV w) (i64 j) (at' j), .load (row o) 59 (at' j) (u64 z), .nice (u64 z),
    .bin .shl 59 false (u64 x) (i64 (s % 32)) (u64 v), .bin .rem 59 true (u64 v) (u64 4294967296) (u64 l), .bin .add 59 false (u64 z) (u64 l) (u64 y), .idxA 34 (outV w) (i64 j) (at' j), .sto (row o) 59 (at' j) (u64 y) (row (o.set j y)), .bin .quo 3 true (i64 s) (i64 32) (i64 (s / 32)), .bin .add 3 false (i64 i) (i64 (s / 32)) (i64 j), .bin .add 3 true (i64 j) (i64 1) (i64 (j + 1)),
    .bin .shl 59 false (u64 x) (i64 (s % 32)) (u64 v), .bin .quo 59 true (u64 v) (u64 4294967296) (u64 (v / 4294967296)), .idxA 34 (outV w) (i64 (j + 1)) (at' (j + 1)), .sto (row (o.set j y)) 59 (at' (j + 1)) (u64 (v / 4294967296)) (row ((o.set j y).set (j + 1) (v / 4294967296))), .bin .add 3 true (i64 i) (i64 1) (i64 (i + 1))]) := by kernel_rfl
theorem q3 (a o : List Nat) (s w i : Nat) (r : List Nat) : ends PP XX GG 8 (frS a o s w i) [.val (.bool false), .go, .mem (natV r) (mkM [(4, .frz (o.map u64))]) (GG + 1), .go] [4] [] =
  some (natV r, mkM [], [.bin .lss 3 false (i64 i) (i64 a.length) (.bool false), .call 41 [outV w] (row o) (GG + 1) (natV r) (mkM [(4, .frz (o.map u64))]) (GG + 1)]) := by kernel_rfl
theorem loop_ok {a : List Nat} (ha : Digs a) {s : Nat} (hs : s < 9223372036854775808) (hm : a.length + s / 32 + 2 < 9223372036854775808) : ∀ d i, i + d = a.length → PT PP GG tabs (frS a (shlO a s i) s (a.length + s / 32 + 1) i) (natV (norm (shlO a s a.length)))
  | 0, i, h => by
    have hi : i = a.length := by omega
    subst hi
    obtain ⟨hl, _, _⟩ := shlO_ok ha s a.length (Nat.le_refl _)
    refine PT.ends (envOf F1_ok) (q3 a _ s _ a.length (norm (shlO a s a.length))) ⟨lss_f (by omega), ?_⟩ .same
    have := F1_norm (shlO a s a.length) (M := row (shlO a s a.length)) (M' := mkM [(4, .frz ((shlO a s a.length).map u64))]) (x := 256 * 4) (c := a.length + s / 32 + 1) (nx := GG + 1) (by rfl) (by omega) (by omega) (by rfl)
    rw [hl] at this
    exact this
  | d + 1, i, h => by
    obtain ⟨hl, hd, h3⟩ := shlO_ok ha s i (by omega)
    obtain ⟨p1, p2, p3, p4⟩ := shl_parts (ha.dig i) (Nat.mod_lt s (by omega : 0 < 32))
    have hr : s % 32 < 32 := Nat.mod_lt s (by omega)
    exact PT.walk (envOf F1_ok) (q2 a (shlO a s i) s (a.length + s / 32 + 1) i (dig a i) (i + s / 32) (dig a i * 2 ^ (s % 32)) (dig (shlO a s i) (i + s / 32)) (dig a i * 2 ^ (s % 32) % 4294967296) (dig (shlO a s i) (i + s / 32) + dig a i * 2 ^ (s % 32) % 4294967296))
      ⟨lss_t (by omega), idx_dat uNum sU64 (by omega), load_ptr gU64 (dig_of (by omega)), quo_of (.inl rfl) (by omega) (.inl hs), add_i64 (by omega), idx_own uNum sU64 (by omega), load_row (by omega), nice_int _ _, shl_u64 (by omega) p1, rem_of (by omega), add_u64' (by omega), idx_own uNum sU64 (by omega), sto_row (by omega), quo_of (.inl rfl) (by omega) (.inl hs), add_i64 (by omega), add_i64 (by omega), shl_u64 (by omega) p1, quo_of (.inr rfl) (by omega) (.inr ⟨rfl, p1⟩), idx_own uNum sU64 (by omega), sto_row (by simp [hl]; omega), add_i64 (by omega)⟩
      (loop_ok ha hs hm d (i + 1) (by omega))
end Shl
theorem shl_ok {a : List Nat} (ha : Digs a) {s : Nat} (hs : s < 9223372036854775808) (hla : a.length + s / 32 ≤ 35184372088000) : PureOk PP GG tabs 100 [natV a, i64 s] (natV (shlN a s)) := by
  refine PureOk.of' ?_ (nl_nat _) (by kernel_rfl) ?_
  · intro x hx
    simp at hx
    rcases hx with rfl | rfl
    · exact nl_nat _
    · exact nl_int
  · unfold shlN
    by_cases h : a.length = 0
    · rw [if_pos h]
      exact PT.ends (envOf F1_ok) (Shl.q1 a s) (eql_t h) .nil
    · rw [if_neg h]
      exact PT.walk (envOf F1_ok) (Shl.q0 a s (a.length + s / 32) (a.length + s / 32 + 1)) ⟨eql_f h, quo_of (.inl rfl) (by omega) (.inl hs), add_i64 (by omega), add_i64 (by omega), make_row uNum iU64 zU64 (by omega) (by rfl), rem_of (by omega)⟩ (Shl.loop_ok ha hs (by omega) a.length 0 (by omega))
#print axioms shl_ok
end Go.Proofs.YtihloomkgpflmaaGreatDoor

namespace Go.Proofs.YtihloomkgpflmaaGreatDoor
open Go.Proofs.YtihloomkgpflmaaGreatDoor.Vm
variable {tabs : List (Nat × List Value)}
theorem iU64' : (PP.info? 59).map (fun i => (i.size, i.zero.map (·.cells.size))) = some (1, some 1) := by kernel_rfl
def ofO (a : List Nat) (i : Nat) : List Nat := (List.range i).flatMap fun j => [dig a j % 4294967296, dig a j / 4294967296]
def ofN (a : List Nat) : List Nat := norm (ofO a a.length)
theorem ofO_length (a : List Nat) : ∀ i, (ofO a i).length = 2 * i
  | 0 => rfl
  | i + 1 => by
    have : ofO a (i + 1) = ofO a i ++ [dig a i % 4294967296, dig a i / 4294967296] := by simp [ofO, List.range_succ]
    rw [this]; simp [ofO_length a i]; omega
namespace Of
open Go.Proofs.YtihloomkgpflmaaGreatDoor.Mul (row pa dig_of)
abbrev outC (n c : Nat) : Value := .slice (some ⟨256 * 4, 0, none⟩) n c
noncomputable abbrev row2 (o : List Nat) (l h : Nat) : Tr Blk := mkM [(4, .cells false (o.map u64)), (4 + 1, .cells false [u64 l, u64 h])]
noncomputable def frF (a o : List Nat) (k w i : Nat) : Fr := { onto PP XX GG 9 (door PP 16 [natV [0]] .nil GG) [.go, .go, .go, .val (i64 2), .mem (outC 0 2) (row [0, 0]) (GG + 1), .go, .go, .go, .go] with T := mkT [(3, outC k w), (10, natV a), (11, i64 a.length), (12, i64 i)], M := row o }
theorem q0 (a : List Nat) (w : Nat) : walk PP XX GG 9 (door PP 16 [natV a] .nil GG) [.go, .go, .go, .val (i64 w), .mem (outC 0 w) (row (List.replicate w 0)) (GG + 1), .go, .go, .go, .go] [3, 10, 11, 12] [4] =
  some (frF a (List.replicate w 0) 0 w 0, [.bin .mul 3 true (i64 2) (i64 a.length) (i64 w), .make .nil GG 34 (i64 0) (i64 w) (outC 0 w) (row (List.replicate w 0)) (GG + 1)]) := by kernel_rfl
theorem q1 (a o o' : List Nat) (k w i x l h : Nat) : walk PP XX GG 13 (frF a o k w i) [.val (.bool true), .val (pa a i), .val (u64 x), .go, .go, .go, .val (u64 l), .go, .val (u64 h), .go, .mem (outC (k+2) w) (row2 o' l h) (GG + 2), .go, .val (i64 (i+1)), .go] [3, 10, 11, 12] [4] =
  some ({ frF a o' (k+2) w (i+1) with nx := GG + 2 }, [.bin .lss 3 false (i64 i) (i64 a.length) (.bool true), .idxA 23 (natV a) (i64 i) (pa a i), .load (row o) 59 (pa a i) (u64 x), .bin .rem 59 true (u64 x) (u64 4294967296) (u64 l), .bin .quo 59 true (u64 x) (u64 4294967296) (u64 h),
    .app (row2 o l h) (GG + 2) 34 (outC k w) (.slice (some ⟨256 * (4 + 1), 0, none⟩) 2 2) (outC (k+2) w) (row2 o' l h) (GG + 2), .bin .add 3 true (i64 i) (i64 1) (i64 (i+1))]) := by kernel_rfl
theorem q2 (a o : List Nat) (k w i : Nat) (r : List Nat) : ends PP XX GG 8 (frF a o k w i) [.val (.bool false), .go, .mem (natV r) (mkM [(4, .frz (o.map u64))]) (GG + 1), .go] [2] [] =
  some (natV r, mkM [], [.bin .lss 3 false (i64 i) (i64 a.length) (.bool false), .call 41 [outC k w] (row o) (GG + 1) (natV r) (mkM [(4, .frz (o.map u64))]) (GG + 1)]) := by kernel_rfl
theorem q3 (a o : List Nat) (k w i : Nat) : ({ ({ frF a o k w i with nx := GG + 2 } : Fr) with nx := GG + 1 } : Fr) = frF a o k w i := by kernel_rfl
theorem uLimbs : PP.underlying 23 = some (.slice 59) := by kernel_rfl
abbrev mid (a : List Nat) (i : Nat) : List Nat := ofO a i ++ List.replicate (2 * a.length - 2 * i) 0
theorem mid_length (a : List Nat) {i : Nat} (h : i ≤ a.length) : (mid a i).length = 2 * a.length := by simp [mid, ofO_length]; omega
theorem mid_next (a : List Nat) {i : Nat} (h : i < a.length) : splice ((mid a i).map u64) (2 * i) [u64 (dig a i % 4294967296), u64 (dig a i / 4294967296)] = (mid a (i + 1)).map u64 := by
  have e : 2 * a.length - 2 * i = (2 * a.length - 2 * (i + 1)) + 2 := by omega
  have e2 : ofO a (i + 1) = ofO a i ++ [dig a i % 4294967296, dig a i / 4294967296] := by simp [ofO, List.range_succ]
  have hl := ofO_length a i
  unfold splice mid
  rw [e, e2, List.replicate_succ, List.replicate_succ]
  simp [List.drop_append, hl]
theorem loop_ok {a : List Nat} (ha : ∀ i, dig a i < 18446744073709551616) (hm : 2 * a.length < 9223372036854775000) : ∀ d i, i + d = a.length → PT PP GG tabs (frF a (mid a i) (2 * i) (2 * a.length) i) (natV (ofN a))
  | 0, i, h => by
    have hi : i = a.length := by omega
    subst hi
    have e : mid a a.length = ofO a a.length := by simp [mid]
    rw [e]
    have hl := ofO_length a a.length
    refine PT.ends (envOf F1_ok) (q2 a _ _ _ a.length (ofN a)) ⟨lss_f (by omega), ?_⟩ .same
    have := F1_norm (ofO a a.length) (M := row (ofO a a.length)) (M' := mkM [(4, .frz ((ofO a a.length).map u64))]) (x := 256 * 4) (c := 2 * a.length) (nx := GG + 1) (by rfl) (by omega) (by omega) (by rfl)
    rw [hl] at this
    exact this
  | d + 1, i, h => by
    refine PT.walk (envOf F1_ok) (q1 a (mid a i) (mid a (i + 1)) (2 * i) (2 * a.length) i (dig a i) (dig a i % 4294967296) (dig a i / 4294967296)) ⟨lss_t (by omega), idx_dat uLimbs sU64 (by omega), load_ptr gU64 (dig_of (by omega)), rem_of (by omega), ?_, ?_, add_i64 (by omega)⟩ ?_
    · exact quo_of (.inr rfl) (by omega) (.inr ⟨rfl, ha i⟩)
    · refine app_row (vs := (mid a i).map u64) (news := [u64 (dig a i % 4294967296), u64 (dig a i / 4294967296)]) uNum iU64' (by rfl) rfl rfl (by rfl) rfl (by omega) (by rw [List.length_map, mid_length a (by omega)]; omega) ?_
      rw [mid_next a (by omega)]
      rfl
    · refine PT.cut (n := GG + 1) (by omega) ?_ ?_ (by kernel_rfl) (by kernel_rfl) (by kernel_rfl) (by kernel_rfl) ?_
      · intro t v hv
        have := mkT_get [(3, outC (2 * i + 2) (2 * a.length)), (10, natV a), (11, i64 a.length), (12, i64 (i + 1))] t v hv
        simp only [List.mem_cons, List.not_mem_nil, or_false, Prod.mk.injEq] at this
        rcases this with ⟨_, rfl⟩ | ⟨_, rfl⟩ | ⟨_, rfl⟩ | ⟨_, rfl⟩
        · exact .slice (by decide)
        · exact .nl (nl_nat _)
        · exact .nl nl_int
        · exact .nl nl_int
      · intro t x hx
        have := mkM_get [(4, .cells false ((mid a (i + 1)).map u64))] t x hx
        simp only [List.mem_cons, List.not_mem_nil, or_false, Prod.mk.injEq] at this
        obtain ⟨_, rfl⟩ := this
        refine ⟨_, rfl, fun v hv => ?_⟩
        obtain ⟨y, _, rfl⟩ := List.mem_map.1 hv
        exact .nl nl_int
      · rw [q3]
        exact loop_ok ha hm d (i + 1) (by omega)
end Of
theorem dig_lt {a : List Nat} (h : ∀ x ∈ a, x < 18446744073709551616) (i : Nat) : dig a i < 18446744073709551616 := by
  unfold dig
  cases hx : a[i]? with
  | none => simp
  | some x => simp; exact h x (List.mem_of_getElem? hx)
theorem of_ok {a : List Nat} (ha : ∀ x ∈ a, x < 18446744073709551616) (hl : a.length ≤ 17592186044000) : PureOk PP GG tabs 16 [natV a] (natV (ofN a)) := by
  refine PureOk.of' ?_ (nl_nat _) (by kernel_rfl) ?_
  · intro x hx
    simp at hx
    subst hx
    exact nl_nat _
  · refine PT.walk (envOf F1_ok) (Of.q0 a (2 * a.length)) ⟨mul_i64 (by omega), make_room uNum iU64 zU64 (by omega) (by omega) (by rfl)⟩ ?_
    have := Of.loop_ok (tabs := tabs) (dig_lt ha) (by omega) a.length 0 (by omega)
    simpa [Of.mid, ofO] using this
theorem ofO_digs {a : List Nat} (ha : ∀ x ∈ a, x < 18446744073709551616) (i : Nat) : Digs (ofO a i) := by
  intro x hx
  obtain ⟨j, _, hj⟩ := List.mem_flatMap.1 hx
  have := dig_lt ha j
  simp at hj
  rcases hj with rfl | rfl <;> omega
#print axioms of_ok
end Go.Proofs.YtihloomkgpflmaaGreatDoor

namespace Go.Proofs.YtihloomkgpflmaaGreatDoor
open Go.Proofs.YtihloomkgpflmaaGreatDoor.Vm
variable {tabs : List (Nat × List Value)}
/-- A function of one row, of two, of a row and a number: where c holds it answers r. -/
def e1 (c : List Nat → Bool) (r : List Nat → Value) : List Value → Option Value
  | [a] => (match decN a with
    | some x => bif c x then some (r x) else none
    | none => none)
  | _ => none
def e2 (c : List Nat → List Nat → Bool) (r : List Nat → List Nat → Value) : List Value → Option Value
  | [a, b] => (match decN a, decN b with
    | some x, some y => bif c x y then some (r x y) else none
    | _, _ => none)
  | _ => none
def e3 (c : List Nat → Nat → Bool) (r : List Nat → Nat → Value) : List Value → Option Value
  | [a, .int .i64 (.ofNat n)] => (match decN a with
    | some x => bif c x n then some (r x n) else none
    | none => none)
  | _ => none
theorem e1_ok {f : FuncId} {c : List Nat → Bool} {r : List Nat → Value} (h : ∀ x, c x = true → PureOk PP GG tabs f [natV x] (r x)) : ∀ aa v, e1 c r aa = some v → PureOk PP GG tabs f aa v := by
  intro aa v hv
  unfold e1 at hv
  split at hv
  · split at hv
    · rename_i x hx
      obtain ⟨hc, hv⟩ := cond_some hv
      subst hv
      rw [decN_spec hx]
      exact h x hc
    · cases hv
  · cases hv
theorem e2_ok {f : FuncId} {c : List Nat → List Nat → Bool} {r : List Nat → List Nat → Value} (h : ∀ x y, c x y = true → PureOk PP GG tabs f [natV x, natV y] (r x y)) : ∀ aa v, e2 c r aa = some v → PureOk PP GG tabs f aa v := by
  intro aa v hv
  unfold e2 at hv
  split at hv
  · split at hv
    · rename_i x y hx hy
      obtain ⟨hc, hv⟩ := cond_some hv
      subst hv
      rw [decN_spec hx, decN_spec hy]
      exact h x y hc
    · cases hv
  · cases hv
theorem e3_ok {f : FuncId} {c : List Nat → Nat → Bool} {r : List Nat → Nat → Value} (h : ∀ x n, c x n = true → PureOk PP GG tabs f [natV x, i64 n] (r x n)) : ∀ aa v, e3 c r aa = some v → PureOk PP GG tabs f aa v := by
  intro aa v hv
  unfold e3 at hv
  split at hv
  · split at hv
    · rename_i x hx
      obtain ⟨hc, hv⟩ := cond_some hv
      subst hv
      rw [decN_spec hx]
      exact h x _ hc
    · cases hv
  · cases hv
def digsB (l : List Nat) : Bool := l.all fun x => decide (x < 4294967296)
theorem digsB_of {l : List Nat} : digsB l = true ↔ Digs l := by simp [digsB, Digs]
def le (n m : Nat) : Bool := decide (n ≤ m)
noncomputable def F2 : Known :=
  ((((((F1.add 99 (e2 (fun a b => digsB a && digsB b && le a.length 17592186044000 && le b.length 17592186044000) fun a b => natV (addN a b))).add
    102 (e2 (fun a b => digsB a && digsB b && le a.length 17592186044000) fun a b => natV (subN a b))).add
    101 (e2 (fun a _ => le a.length 17592186044000) fun a b => .int .i64 (cmpN a b))).add
    106 (e2 (fun a b => digsB a && digsB b && le (a.length + b.length) 17592186044000) fun a b => natV (mulN a b))).add
    17 (e1 (fun _ => true) fun a => .bool (decide (a.length = 0)))).add
    100 (e3 (fun a n => digsB a && le (a.length + n) 17592186044000) fun a n => natV (shlN a n))).add
    16 (e1 (fun a => (a.all fun x => decide (x < 18446744073709551616)) && le a.length 17592186044000) fun a => natV (ofN a))
theorem F2_ok : F2.Ok PP GG tabs := by
  unfold F2
  refine Known.add_ok (Known.add_ok (Known.add_ok (Known.add_ok (Known.add_ok (Known.add_ok (Known.add_ok F1_ok ?_) ?_) ?_) ?_) ?_) ?_) ?_
  · refine e2_ok fun a b h => ?_
    simp only [Bool.and_eq_true, digsB_of, le, decide_eq_true_eq] at h
    exact add_ok h.1.1.1 h.1.1.2 (by omega) (by omega)
  · refine e2_ok fun a b h => ?_
    simp only [Bool.and_eq_true, digsB_of, le, decide_eq_true_eq] at h
    exact sub_ok h.1.1 h.1.2 (by omega)
  · refine e2_ok fun a b h => ?_
    simp only [le, decide_eq_true_eq] at h
    exact cmp_ok a b (by omega)
  · refine e2_ok fun a b h => ?_
    simp only [Bool.and_eq_true, digsB_of, le, decide_eq_true_eq] at h
    exact mul_ok h.1.1 h.1.2 (by omega)
  · exact e1_ok fun a _ => zero_ok a
  · refine e3_ok fun a n h => ?_
    simp only [Bool.and_eq_true, digsB_of, le, decide_eq_true_eq] at h
    exact shl_ok h.1 (by omega) (by omega)
  · refine e1_ok fun a h => ?_
    simp only [Bool.and_eq_true, List.all_eq_true, le, decide_eq_true_eq] at h
    exact of_ok h.1 (by omega)

theorem e1_nat {c : List Nat → Bool} {r : List Nat → Value} {x : List Nat} (h : c x = true) : e1 c r [natV x] = some (r x) := by
  have e : decN (natV x) = some x := decN_nat x
  show (match decN (natV x) with | some x => bif c x then some (r x) else none | none => none) = _
  rw [e]
  show (bif c x then some (r x) else none) = _
  rw [h]; rfl
theorem e2_nat {c : List Nat → List Nat → Bool} {r : List Nat → List Nat → Value} {x y : List Nat} (h : c x y = true) : e2 c r [natV x, natV y] = some (r x y) := by
  have e : decN (natV x) = some x := decN_nat x
  have e' : decN (natV y) = some y := decN_nat y
  show (match decN (natV x), decN (natV y) with | some x, some y => bif c x y then some (r x y) else none | _, _ => none) = _
  rw [e, e']
  show (bif c x y then some (r x y) else none) = _
  rw [h]; rfl
theorem e3_nat {c : List Nat → Nat → Bool} {r : List Nat → Nat → Value} {x : List Nat} {n : Nat} (h : c x n = true) : e3 c r [natV x, i64 n] = some (r x n) := by
  have e : decN (natV x) = some x := decN_nat x
  show (match decN (natV x) with | some x => bif c x n then some (r x n) else none | none => none) = _
  rw [e]
  show (bif c x n then some (r x n) else none) = _
  rw [h]; rfl
theorem F2_Of {a : List Nat} (ha : ∀ x ∈ a, x < 18446744073709551616) (hl : a.length ≤ 17592186044000) : F2 16 [natV a] = some (natV (ofN a)) := by
  have : F2 16 [natV a] = e1 (fun a => (a.all fun x => decide (x < 18446744073709551616)) && le a.length 17592186044000) (fun a => natV (ofN a)) [natV a] := rfl
  rw [this]
  refine e1_nat ?_
  simp only [Bool.and_eq_true, List.all_eq_true, le, decide_eq_true_eq]
  exact ⟨ha, hl⟩
end Go.Proofs.YtihloomkgpflmaaGreatDoor
