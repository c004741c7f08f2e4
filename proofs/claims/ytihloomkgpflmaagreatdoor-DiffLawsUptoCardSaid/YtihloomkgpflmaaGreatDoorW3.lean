/-
  surdref01's Gcd and Len, surdref07's Make, Sign and Cmp (of a number and itself).
  surdref07's Sign and Cmp (of a number and itself), surdref15's arity, Nodes, Depth, right, large, Check.
  surdref15's Nodes, Depth, right, large, Check.
  surdref15's right, large, Check.
-/
import Derived.Test.YtihloomkgpflmaaGreatDoorW2
set_option linter.unusedSimpArgs false
set_option linter.unusedVariables false
namespace Go.Proofs.YtihloomkgpflmaaGreatDoor
open Go.Proofs.YtihloomkgpflmaaGreatDoor.Vm
variable {tabs : List (Nat × List Value)}
/-- A call that turns nothing, its arguments frozen already. -/
theorem pureCall {F : Known} {f : FuncId} {aa : List Value} {v : Value} {M : Tr Blk} {nx : Nat} (h1 : aa.map (frzV 12 M) = aa) (h2 : aa.flatMap (offs 12 M) = []) (h : F f aa = some v) : F.sm f aa M nx = some (v, M, nx) := sm_plain h1 h2 h
theorem pair_inj : ∀ x y : List Nat × List Nat, [natV x.1, natV x.2] = [natV y.1, natV y.2] → x = y := by
  rintro ⟨a, b⟩ ⟨c, d⟩ h
  simp only [List.cons.injEq, and_true] at h
  rw [natV_inj h.1, natV_inj h.2]
theorem one_inj : ∀ x y : List Nat, [natV x] = [natV y] → x = y := by
  intro a b h
  simp only [List.cons.injEq, and_true] at h
  exact natV_inj h
/-- Numbers: digits, none of them 0 at the top, not too many. -/
structure Num (l : List Nat) : Prop where
  digs : Digs l
  nrm : Nrm l
  len : l.length ≤ 1099511627776
noncomputable def F3 : Known := F2.add 44 (eI (fun x : List Nat × List Nat => [natV x.1, natV x.2]) (fun x => Num x.1 ∧ Num x.2 ∧ x.1 ≠ [] ∧ x.2 ≠ []) fun x => .tuple ⟨[natV (quoN x.1 x.2), natV (remN x.1 x.2)]⟩)
theorem F3_ok : F3.Ok PP GG tabs := by
  refine Known.add_ok F2_ok (eI_ok fun x h => ?_)
  obtain ⟨h1, h2, h3, h4⟩ := h
  exact div_ok h1.digs h2.digs h2.nrm (val_pos h2.nrm h4) (by have := h1.len; omega) (by have := h2.len; omega) (List.length_pos_iff.2 h3)
theorem two_frz {a b : List Nat} {M : Tr Blk} : ([natV a, natV b]).map (frzV 12 M) = [natV a, natV b] := by simp [frz_dat]
theorem two_offs {a b : List Nat} {M : Tr Blk} : ([natV a, natV b]).flatMap (offs 12 M) = [] := by simp [offs_dat]
theorem one_frz {a : List Nat} {M : Tr Blk} : ([natV a]).map (frzV 12 M) = [natV a] := by simp [frz_dat]
theorem one_offs {a : List Nat} {M : Tr Blk} : ([natV a]).flatMap (offs 12 M) = [] := by simp [offs_dat]
theorem div_call {a b : List Nat} (h1 : Num a) (h2 : Num b) (h3 : a ≠ []) (h4 : b ≠ []) {M : Tr Blk} {nx : Nat} : F3.sm 44 [natV a, natV b] M nx = some (.tuple ⟨[natV (quoN a b), natV (remN a b)]⟩, M, nx) :=
  pureCall two_frz two_offs ((add_same).trans (eI_of (x := (a, b)) pair_inj ⟨h1, h2, h3, h4⟩))
theorem zero_call' {F : Known} (hF : ∀ a, F 17 [natV a] = some (.bool (decide (a.length = 0)))) {a : List Nat} {b : Bool} (h : decide (a.length = 0) = b) {M : Tr Blk} {nx : Nat} : F.sm 17 [natV a] M nx = some (.bool b, M, nx) :=
  pureCall one_frz one_offs (by rw [hF a, h])
theorem F2_zero (a : List Nat) : F2 17 [natV a] = some (.bool (decide (a.length = 0))) := by
  have : F2 17 [natV a] = e1 (fun _ => true) (fun a => .bool (decide (a.length = 0))) [natV a] := rfl
  rw [this]
  exact e1_nat rfl
theorem F3_zero (a : List Nat) : F3 17 [natV a] = some (.bool (decide (a.length = 0))) := (add_other rfl).trans (F2_zero a)

namespace Gcd
noncomputable def frH (a b : List Nat) : Fr := { onto PP XX GG 5 (door PP 43 [natV [], natV []] .nil GG) [] with T := mkT [(0, natV a), (1, natV b)], M := mkM [] }
theorem q0 (a b : List Nat) : walk PP XX GG 5 (door PP 43 [natV a, natV b] .nil GG) [] [0, 1] [] = some (frH a b, []) := by kernel_rfl
theorem q1 (a b q r : List Nat) : walk PP XX GG 11 (frH a b) [.go, .pure (.bool false), .go, .go, .go, .pure (.tuple ⟨[natV q, natV r]⟩)] [0, 1] [] = some (frH b r, [.call 17 [natV b] (mkM []) 4 (.bool false) (mkM []) 4, .call 44 [natV a, natV b] (mkM []) 4 (.tuple ⟨[natV q, natV r]⟩) (mkM []) 4]) := by kernel_rfl
theorem q2 (a b : List Nat) : ends PP XX GG 8 (frH a b) [.go, .pure (.bool true), .go, .go, .go] [4] [] = some (natV a, mkM [], [.call 17 [natV b] (mkM []) 4 (.bool true) (mkM []) 4]) := by kernel_rfl
theorem loop_ok : ∀ (n : Nat) {a b : List Nat}, Num a → Num b → a ≠ [] → val b < n → PT PP GG tabs (frH a b) (natV (gcdF n a b))
  | 0, a, b, _, _, _, h => by omega
  | n + 1, a, b, ha, hb, hne, h => by
    unfold gcdF
    by_cases hl : b.length = 0
    · rw [if_pos hl]
      exact PT.ends (envOf F3_ok) (q2 a b) (zero_call' F3_zero (decide_eq_true hl)) .same
    · rw [if_neg hl]
      have hbne : b ≠ [] := fun e => hl (by rw [e]; rfl)
      have hr := divR_ok ha.digs hb.digs hb.nrm (val_pos hb.nrm hbne) a.length
      have hrl := length_le_of_val hb.digs hr.nrm (Nat.le_of_lt hr.lt)
      refine PT.walk (envOf F3_ok) (q1 a b (quoN a b) (remN a b)) ⟨zero_call' F3_zero (decide_eq_false hl), div_call ha hb hne hbne⟩ ?_
      exact loop_ok n hb ⟨hr.digs, hr.nrm, by have := hb.len; unfold remN; omega⟩ hbne (by have := hr.lt; unfold remN; omega)
end Gcd
theorem gcd_ok {a b : List Nat} (ha : Num a) (hb : Num b) (hne : a ≠ []) : PureOk PP GG tabs 43 [natV a, natV b] (natV (gcdN a b)) := by
  refine PureOk.of' ?_ (nl_nat _) (by kernel_rfl) ?_
  · intro x hx
    simp at hx
    rcases hx with rfl | rfl <;> exact nl_nat _
  · exact PT.walk (envOf F3_ok) (Gcd.q0 a b) trivial (Gcd.loop_ok _ ha hb hne (Nat.lt_succ_self _))
theorem gcd_num {a b : List Nat} (ha : Num a) (hb : Num b) (hne : a ≠ []) : Num (gcdN a b) ∧ gcdN a b ≠ [] := by
  have h : ∀ (n : Nat) {a b : List Nat}, Num a → Num b → val b < n → (gcdF n a b).length ≤ 1099511627776 := by
    intro n
    induction n with
    | zero => intro a b _ _ h; omega
    | succ n ih =>
      intro a b ha hb h
      unfold gcdF
      split
      · exact ha.len
      · rename_i hl
        have hbne : b ≠ [] := fun e => hl (by rw [e]; rfl)
        have hr := divR_ok ha.digs hb.digs hb.nrm (val_pos hb.nrm hbne) a.length
        have hrl := length_le_of_val hb.digs hr.nrm (Nat.le_of_lt hr.lt)
        exact ih hb ⟨hr.digs, hr.nrm, by have := hb.len; unfold remN; omega⟩ (by have := hr.lt; unfold remN; omega)
  obtain ⟨h1, h2, h3⟩ := gcdF_ok (val b + 1) ha.digs hb.digs ha.nrm hb.nrm (Nat.lt_succ_self _)
  exact ⟨⟨h1, h2, h _ ha hb (Nat.lt_succ_self _)⟩, h3 hne⟩

/-! ### Len -/
namespace Len
noncomputable def frH (m v : Nat) : Fr := { onto PP XX GG 14 (door PP 95 [natV [1]] .nil GG) [.go, .go, .go, .val (.bool false), .go, .go, .val (i64 0), .val (i64 0), .go, .go, .go, .go, .val (i64 0), .val (mkPtr [u64 1]), .val (u64 1)] with T := mkT [(3, i64 m), (4, u64 v)], M := mkM [] }
theorem q0 (l : List Nat) (v x : Nat) : walk PP XX GG 14 (door PP 95 [natV l] .nil GG) [.go, .go, .go, .val (.bool false), .go, .go, .val (i64 (l.length - 1)), .val (i64 v), .go, .go, .go, .go, .val (i64 (l.length - 1)), .val (mkPtr ((l.map u64).drop (l.length - 1))), .val (u64 x)] [3, 4] [] = some (frH v x, [.bin .eql 3 true (i64 l.length) (i64 0) (.bool false), .bin .sub 3 true (i64 l.length) (i64 1) (i64 (l.length - 1)), .bin .mul 3 true (i64 32) (i64 (l.length - 1)) (i64 v), .bin .sub 3 true (i64 l.length) (i64 1) (i64 (l.length - 1)), .idxA 34 (natV l) (i64 (l.length - 1)) (mkPtr (List.drop (l.length - 1) (List.map u64 l))), .load (mkM []) 59 (mkPtr (List.drop (l.length - 1) (List.map u64 l))) (u64 x)]) := by kernel_rfl
theorem q1 (l : List Nat) : ends PP XX GG 9 (door PP 95 [natV l] .nil GG) [.go, .go, .go, .val (.bool true)] [2] [] = some (i64 0, mkM [], [.bin .eql 3 true (i64 l.length) (i64 0) (.bool true)]) := by kernel_rfl
theorem q2 (m v m2 v2 : Nat) : walk PP XX GG 11 (frH m v) [.go, .val (.bool true), .go, .val (i64 m2), .go, .go, .val (u64 v2), .go] [3, 4] [] = some (frH m2 v2, [.bin .gtr 59 true (u64 v) (u64 0) (.bool true), .bin .add 3 true (i64 m) (i64 1) (i64 m2), .bin .quo 59 true (u64 v) (u64 2) (u64 v2)]) := by kernel_rfl
theorem q3 (m v : Nat) : ends PP XX GG 8 (frH m v) [.go, .val (.bool false), .go, .go] [2] [] = some (i64 m, mkM [], [.bin .gtr 59 true (u64 v) (u64 0) (.bool false)]) := by kernel_rfl
theorem loop_ok : ∀ (n m v : Nat), v < 2 ^ n → m + n < 9223372036854775808 → v < 18446744073709551616 → PT PP GG tabs (frH m v) (i64 (m + bitsF n v))
  | 0, m, v, hv, hm, _ => by
    have : v = 0 := by simpa using hv
    subst this
    exact PT.ends (envOf F3_ok) (q3 m 0) (gtr_f (Nat.le_refl _)) .same
  | n + 1, m, v, hv, hm, h64 => by
    unfold bitsF
    by_cases h0 : v = 0
    · subst h0
      rw [if_pos rfl]
      exact PT.ends (envOf F3_ok) (q3 m 0) (gtr_f (Nat.le_refl _)) .same
    · rw [if_neg h0, ← Nat.add_assoc, Nat.add_right_comm]
      refine PT.walk (envOf F3_ok) (q2 m v (m + 1) (v / 2)) ⟨gtr_t (by omega), add_i64 (by omega), quo_of (.inr rfl) (by omega) (.inr ⟨rfl, h64⟩)⟩ ?_
      exact loop_ok n (m + 1) (v / 2) (by rw [Nat.pow_succ] at hv; omega) (by omega) (by omega)
end Len
theorem bits_le : ∀ (n v : Nat), bitsF n v ≤ n
  | 0, _ => Nat.le_refl _
  | n + 1, v => by unfold bitsF; split; omega; have := bits_le n (v / 2); omega
theorem bitsF_of : ∀ (n m v : Nat), v < 2 ^ n → bitsF (n + m) v = bitsF n v
  | 0, m, v, h => by
    have : v = 0 := by simpa using h
    subst this
    cases m <;> simp [bitsF]
  | n + 1, m, v, h => by
    have e : n + 1 + m = (n + m) + 1 := by omega
    rw [e]
    unfold bitsF
    split
    · rfl
    · rw [bitsF_of n m (v / 2) (by rw [Nat.pow_succ] at h; omega)]
theorem len_ok {l : List Nat} (h : Num l) : PureOk PP GG tabs 95 [natV l] (i64 (lenN l)) := by
  refine PureOk.of' ?_ nl_int (by kernel_rfl) ?_
  · intro x hx
    simp at hx
    subst hx; exact nl_nat _
  · have hl := h.len
    unfold lenN
    by_cases h0 : l.length = 0
    · rw [if_pos h0]
      exact PT.ends (envOf F3_ok) (Len.q1 l) (eql_t h0) .same
    · rw [if_neg h0]
      have hd := h.digs.dig (l.length - 1)
      refine PT.walk (envOf F3_ok) (Len.q0 l (32 * (l.length - 1)) (dig l (l.length - 1))) ⟨eql_f h0, sub_i64 (by omega) (by omega), mul_i64 (by omega), sub_i64 (by omega) (by omega), idx_dat uNum sU64 (by omega), load_ptr gU64 (Mul.dig_of (by omega))⟩ ?_
      exact Len.loop_ok 64 _ _ (by have : (2:Nat) ^ 64 = 18446744073709551616 := rfl; omega) (by omega) (by omega)

/-! ### what is known so far -/
noncomputable def F4 : Known :=
  ((F3.add 43 (eI (fun x : List Nat × List Nat => [natV x.1, natV x.2]) (fun x => Num x.1 ∧ Num x.2 ∧ x.1 ≠ []) fun x => natV (gcdN x.1 x.2))).add
    95 (eI (fun x : List Nat => [natV x]) Num fun x => i64 (lenN x))).add
    42 (eI (fun x : Nat => [i64 x]) (fun x => x < 9223372036854775808) fun x => natV (intN x))
theorem F4_ok : F4.Ok PP GG tabs :=
  Known.add_ok (Known.add_ok (Known.add_ok F3_ok (eI_ok fun x h => gcd_ok h.1 h.2.1 h.2.2)) (eI_ok fun x h => len_ok h)) (eI_ok fun x h => int_ok x h)
theorem F4_zero (a : List Nat) : F4 17 [natV a] = some (.bool (decide (a.length = 0))) := (add_other rfl).trans ((add_other rfl).trans ((add_other rfl).trans (F3_zero a)))
theorem F4_div {a b : List Nat} (h1 : Num a) (h2 : Num b) (h3 : a ≠ []) (h4 : b ≠ []) {M : Tr Blk} {nx : Nat} : F4.sm 44 [natV a, natV b] M nx = some (.tuple ⟨[natV (quoN a b), natV (remN a b)]⟩, M, nx) :=
  pureCall two_frz two_offs ((add_other rfl).trans ((add_other rfl).trans ((add_other rfl).trans ((add_same).trans (eI_of (x := (a, b)) pair_inj ⟨h1, h2, h3, h4⟩)))))
theorem F4_gcd {a b : List Nat} (h1 : Num a) (h2 : Num b) (h3 : a ≠ []) {M : Tr Blk} {nx : Nat} : F4.sm 43 [natV a, natV b] M nx = some (natV (gcdN a b), M, nx) :=
  pureCall two_frz two_offs ((add_other rfl).trans ((add_other rfl).trans ((add_same).trans (eI_of (x := (a, b)) pair_inj ⟨h1, h2, h3⟩))))
theorem F4_len {a : List Nat} (h1 : Num a) {M : Tr Blk} {nx : Nat} : F4.sm 95 [natV a] M nx = some (i64 (lenN a), M, nx) :=
  pureCall one_frz one_offs ((add_other rfl).trans ((add_same).trans (eI_of one_inj h1)))
theorem F4_int {x : Nat} (h : x < 9223372036854775808) {M : Tr Blk} {nx : Nat} : F4.sm 42 [i64 x] M nx = some (natV (intN x), M, nx) :=
  pureCall (by simp [frz_int]) (by simp [offs_int]) ((add_same).trans (eI_of (fun x y h => by simp only [List.cons.injEq, Value.int.injEq, and_true, true_and] at h; exact Int.ofNat.inj h) h))

/-! ### Make -/
namespace Make
theorem q1 (s : Bool) (a b r : List Nat) : ends PP XX GG 9 (door PP 18 [.bool s, natV a, natV b] .nil GG) [.go, .go, .pure (.bool true), .pure (natV r), .go, .go] [6] [4] = some (.agg ⟨[.bool false, .slice none 0 0, natV r]⟩, mkM [(4, .cells false [.bool false, .slice none 0 0, natV r])], [.call 17 [natV a] (mkM [(4, .cells false [.bool false, .slice none 0 0, .slice none 0 0])]) 5 (.bool true) (mkM [(4, .cells false [.bool false, .slice none 0 0, .slice none 0 0])]) 5, .call 42 [i64 1] (mkM [(4, .cells false [.bool false, .slice none 0 0, .slice none 0 0])]) 5 (natV r) (mkM [(4, .cells false [.bool false, .slice none 0 0, .slice none 0 0])]) 5]) := by kernel_rfl
theorem q2 (s : Bool) (a b g q r q2 r2 : List Nat) : ends PP XX GG 16 (door PP 18 [.bool s, natV a, natV b] .nil GG) [.go, .go, .pure (.bool false), .go, .go, .pure (natV g), .go, .go, .go, .pure (.tuple ⟨[natV q, natV r]⟩), .go, .go, .go, .go, .go, .go, .pure (.tuple ⟨[natV q2, natV r2]⟩)] [6] [4] = some (rV s q q2, mkM [(4, .cells false [.bool s, natV q, natV q2])], [.call 17 [natV a] (mkM [(4, .cells false [.bool false, .slice none 0 0, .slice none 0 0])]) 5 (.bool false) (mkM [(4, .cells false [.bool false, .slice none 0 0, .slice none 0 0])]) 5, .call 43 [natV a, natV b] (mkM [(4, .cells false [.bool false, .slice none 0 0, .slice none 0 0])]) 5 (natV g) (mkM [(4, .cells false [.bool false, .slice none 0 0, .slice none 0 0])]) 5, .call 44 [natV a, natV g] (mkM [(4, .cells false [.bool false, .slice none 0 0, .slice none 0 0])]) 5 (.tuple ⟨[natV q, natV r]⟩) (mkM [(4, .cells false [.bool false, .slice none 0 0, .slice none 0 0])]) 5, .call 44 [natV b, natV g] (mkM [(4, .cells false [.bool false, .slice none 0 0, .slice none 0 0])]) 5 (.tuple ⟨[natV q2, natV r2]⟩) (mkM [(4, .cells false [.bool false, .slice none 0 0, .slice none 0 0])]) 5]) := by kernel_rfl
end Make
/-- A rational as a value. -/
abbrev rat (x : Bool × List Nat × List Nat) : Value := rV x.1 x.2.1 x.2.2
theorem nl_rat (s : Bool) (a b : List Nat) : Nl (rV s a b) := ⟨4, by simp [nl]⟩
theorem make_ok {s : Bool} {a b : List Nat} (ha : Num a) (hb : Num b) (hne : b ≠ []) : PureOk PP GG tabs 18 [.bool s, natV a, natV b] (rat (mkR s a b)) := by
  refine PureOk.of' ?_ (nl_rat _ _ _) (by kernel_rfl) ?_
  · intro x hx
    simp at hx
    rcases hx with rfl | rfl | rfl
    · exact ⟨1, rfl⟩
    · exact nl_nat _
    · exact nl_nat _
  · unfold mkR
    by_cases h0 : a.length = 0
    · rw [if_pos h0]
      refine PT.endsV (envOf F4_ok) (Make.q1 s a b (intN 1)) ⟨zero_call' F4_zero (decide_eq_true h0), F4_int (by omega)⟩ ?_ (nl_rat _ _ _)
      rfl
    · rw [if_neg h0]
      have hane : a ≠ [] := fun e => h0 (by rw [e]; rfl)
      obtain ⟨g1, g2⟩ := gcd_num ha hb hane
      exact PT.ends (envOf F4_ok) (Make.q2 s a b (gcdN a b) (quoN a (gcdN a b)) (remN a (gcdN a b)) (quoN b (gcdN a b)) (remN b (gcdN a b))) ⟨zero_call' F4_zero (decide_eq_false h0), F4_gcd ha hb hane, F4_div ha g1 hane g2, F4_div hb g1 hne g2⟩ .same
#print axioms make_ok
end Go.Proofs.YtihloomkgpflmaaGreatDoor

namespace Go.Proofs.YtihloomkgpflmaaGreatDoor
open Go.Proofs.YtihloomkgpflmaaGreatDoor.Vm
variable {tabs : List (Nat × List Value)}
/-- The number of blocks goes back behind a round that kept none of its own. -/
theorem back {fr : Fr} {v : Value} (n m : Nat) (l : List (Nat × Value)) (hT : fr.T = mkT l) (hM : fr.M = .nil) (hl : ∀ p ∈ l, Nl p.2) (hG : GG ≤ n) (hn : fr.nx = n) (hds : fr.ds = []) (hmode : fr.mode = .run) (hdk : fr.dk = false) (hrnd : fr.rnd = none) (g : PT PP GG tabs fr v) : PT PP GG tabs { fr with nx := m } v := by
  refine PT.cut (n := n) hG ?_ ?_ hds hmode hdk hrnd ?_
  · intro t v hv
    have hv' : fr.T.get t = some v := hv
    rw [hT] at hv'
    exact .nl (hl _ (mkT_get l t v hv'))
  · intro t x hx
    have hx' : fr.M.get t = some x := hx
    rw [hM, Tr.get_nil] at hx'; cases hx'
  · have e : ({ ({ fr with nx := m } : Fr) with nx := n } : Fr) = fr := by
      cases fr
      simp only at hn
      subst hn
      rfl
    rw [e]
    exact g
theorem frz_bool (n : Nat) (M : Tr Blk) (b : Bool) : frzV n M (.bool b) = .bool b := by cases n <;> rfl
theorem offs_bool (n : Nat) (M : Tr Blk) (b : Bool) : offs n M (.bool b) = [] := by cases n <;> rfl
theorem frz_Rd (M : Tr Blk) (d : Rd) : frzV 12 M d.val = d.val := by kernel_rfl
theorem offs_Rd (M : Tr Blk) (d : Rd) : offs 12 M d.val = [] := by kernel_rfl
theorem frz_Nd (M : Tr Blk) (d : Nd) : frzV 12 M d.val = d.val := by kernel_rfl
theorem offs_Nd (M : Tr Blk) (d : Nd) : offs 12 M d.val = [] := by kernel_rfl
theorem frz_rat (M : Tr Blk) (s : Bool) (a b : List Nat) : frzV 12 M (rV s a b) = rV s a b := by kernel_rfl
theorem offs_rat (M : Tr Blk) (s : Bool) (a b : List Nat) : offs 12 M (rV s a b) = [] := by kernel_rfl
/-- A call of a function of one tree. -/
theorem er_call {F : Known} {f : FuncId} {e : Er} {v : Value} (h : F f [e.nd.val] = some v) {M : Tr Blk} {nx : Nat} : F.sm f [e.nd.val] M nx = some (v, M, nx) :=
  pureCall (by simp [frz_Rd]) (by simp [offs_Rd]) h
theorem ex_call {F : Known} {f : FuncId} {e : Ex} {v : Value} (h : F f [e.nd.val] = some v) {M : Tr Blk} {nx : Nat} : F.sm f [e.nd.val] M nx = some (v, M, nx) :=
  pureCall (by simp [frz_Nd]) (by simp [offs_Nd]) h
theorem er_inj1 : ∀ x y : Er, [x.nd.val] = [y.nd.val] → x = y := by
  intro x y h
  simp only [List.cons.injEq, and_true] at h
  exact Er.inj x y h
theorem ex_inj1 : ∀ x y : Ex, [x.nd.val] = [y.nd.val] → x = y := by
  intro x y h
  simp only [List.cons.injEq, and_true] at h
  exact Ex.inj x y h
/-- What is known of a function of trees for the parts of a tree. -/
theorem parts_call {F : Known} {f : FuncId} {l : List Er} {r : Er → Value} {x : Er} (hx : x ∈ l) {M : Tr Blk} {nx : Nat} : (F.add f (eI (fun x : Er => [x.nd.val]) (fun x => x ∈ l) r)).sm f [x.nd.val] M nx = some (r x, M, nx) :=
  er_call (add_same.trans (eI_of er_inj1 hx))
theorem eparts_call {F : Known} {f : FuncId} {l : List Ex} {r : Ex → Value} {x : Ex} (hx : x ∈ l) {M : Tr Blk} {nx : Nat} : (F.add f (eI (fun x : Ex => [x.nd.val]) (fun x => x ∈ l) r)).sm f [x.nd.val] M nx = some (r x, M, nx) :=
  ex_call (add_same.trans (eI_of ex_inj1 hx))
theorem er_size {l : List Er} {x : Er} (hx : x ∈ l) (o : Int) (n : Bool) (a b : List Nat) (bd : Bool) : SizeOf.sizeOf x < SizeOf.sizeOf (Er.mk o n a b bd l) := by
  have := List.sizeOf_lt_of_mem hx
  simp only [Er.mk.sizeOf_spec]; omega
theorem ex_size {l : List Ex} {x : Ex} (hx : x ∈ l) (o : Int) (n : Bool) (a b : List Nat) : SizeOf.sizeOf x < SizeOf.sizeOf (Ex.mk o n a b l) := by
  have := List.sizeOf_lt_of_mem hx
  simp only [Ex.mk.sizeOf_spec]; omega
/-- A node of the references' trees. -/
abbrev eV (o : Int) (n : Bool) (a b : List Nat) (bad : Bool) (k : Nat) (cs : List Value) : Value := .agg ⟨[.int .i64 o, .bool n, natV a, natV b, .bool bad, mkDat k cs]⟩

/-! ### Sign and Cmp -/
namespace Sign
theorem q1 (s : Bool) (a b : List Nat) : ends PP XX GG 9 (door PP 105 [rV s a b] .nil GG) [.go, .go, .go, .go, .pure (.bool true)] [2] [] = some (i64 0, mkM [], [.call 17 [natV a] (mkM [(4, .cells false [.bool s, natV a, natV b])]) 5 (.bool true) (mkM [(4, .cells false [.bool s, natV a, natV b])]) 5]) := by kernel_rfl
theorem q2 (a b : List Nat) : ends PP XX GG 14 (door PP 105 [rV true a b] .nil GG) [.go, .go, .go, .go, .pure (.bool false)] [2] [] = some (.int .i64 (.negSucc 0), mkM [], [.call 17 [natV a] (mkM [(4, .cells false [.bool true, natV a, natV b])]) 5 (.bool false) (mkM [(4, .cells false [.bool true, natV a, natV b])]) 5]) := by kernel_rfl
theorem q3 (a b : List Nat) : ends PP XX GG 15 (door PP 105 [rV false a b] .nil GG) [.go, .go, .go, .go, .pure (.bool false)] [2] [] = some (i64 1, mkM [], [.call 17 [natV a] (mkM [(4, .cells false [.bool false, natV a, natV b])]) 5 (.bool false) (mkM [(4, .cells false [.bool false, natV a, natV b])]) 5]) := by kernel_rfl
end Sign
def signR (s : Bool) (a : List Nat) : Int := if a.length = 0 then 0 else if s then .negSucc 0 else 1
theorem sign_ok (s : Bool) (a b : List Nat) : PureOk PP GG tabs 105 [rV s a b] (.int .i64 (signR s a)) := by
  refine PureOk.of' ?_ nl_int (by kernel_rfl) ?_
  · intro x hx
    simp at hx
    subst hx; exact nl_rat _ _ _
  · unfold signR
    by_cases h0 : a.length = 0
    · rw [if_pos h0]
      exact PT.ends (envOf F4_ok) (Sign.q1 s a b) (zero_call' F4_zero (decide_eq_true h0)) .same
    · rw [if_neg h0]
      cases s with
      | true => exact PT.ends (envOf F4_ok) (Sign.q2 a b) (zero_call' F4_zero (decide_eq_false h0)) .same
      | false => exact PT.ends (envOf F4_ok) (Sign.q3 a b) (zero_call' F4_zero (decide_eq_false h0)) .same
noncomputable def F5 : Known := F4.add 105 (eI (fun x : Bool × List Nat × List Nat => [rV x.1 x.2.1 x.2.2]) (fun _ => True) fun x => .int .i64 (signR x.1 x.2.1))
theorem F5_ok : F5.Ok PP GG tabs := Known.add_ok F4_ok (eI_ok fun x _ => sign_ok _ _ _)
theorem rat_inj : ∀ x y : Bool × List Nat × List Nat, [rV x.1 x.2.1 x.2.2] = [rV y.1 y.2.1 y.2.2] → x = y := by
  rintro ⟨s, a, b⟩ ⟨s', a', b'⟩ h
  simp only [List.cons.injEq, and_true, Value.agg.injEq, Array.mk.injEq, Value.bool.injEq] at h
  obtain ⟨h1, h2, h3⟩ := h
  rw [h1, natV_inj h2, natV_inj h3]
theorem F5_sign {s : Bool} {a b : List Nat} {M : Tr Blk} {nx : Nat} : F5.sm 105 [rV s a b] M nx = some (.int .i64 (signR s a), M, nx) :=
  pureCall (by simp [frz_rat]) (by simp [offs_rat]) (add_same.trans (eI_of (x := (s, a, b)) rat_inj trivial))
theorem F5_mul {a b : List Nat} (ha : Digs a) (hb : Digs b) (h : a.length + b.length ≤ 17592186044000) {M : Tr Blk} {nx : Nat} : F5.sm 106 [natV a, natV b] M nx = some (natV (mulN a b), M, nx) :=
  pureCall two_frz two_offs ((add_other rfl).trans ((add_other rfl).trans ((add_other rfl).trans ((add_other rfl).trans ((add_other rfl).trans (by
    have : F2 106 [natV a, natV b] = e2 (fun a b => digsB a && digsB b && le (a.length + b.length) 17592186044000) (fun a b => natV (mulN a b)) [natV a, natV b] := rfl
    rw [this]
    exact e2_nat (by simp only [Bool.and_eq_true, digsB_of, le, decide_eq_true_eq]; exact ⟨⟨ha, hb⟩, h⟩)))))))
theorem F5_cmp {a b : List Nat} (h1 : a.length ≤ 17592186044000) {M : Tr Blk} {nx : Nat} : F5.sm 101 [natV a, natV b] M nx = some (.int .i64 (cmpN a b), M, nx) :=
  pureCall two_frz two_offs ((add_other rfl).trans ((add_other rfl).trans ((add_other rfl).trans ((add_other rfl).trans ((add_other rfl).trans (by
    have : F2 101 [natV a, natV b] = e2 (fun a _ => le a.length 17592186044000) (fun a b => .int .i64 (cmpN a b)) [natV a, natV b] := rfl
    rw [this]
    exact e2_nat (by simp only [le, decide_eq_true_eq]; exact h1)))))))
theorem mulN_length {a b : List Nat} (ha : Digs a) (hb : Digs b) : (mulN a b).length ≤ a.length + b.length + 1 := by
  have h1 := norm_length (mulO a b a.length)
  have h2 := (mulO_ok ha hb a.length).2
  unfold mulN; omega
namespace RCmp
theorem q1 (s : Bool) (a b m : List Nat) (z : Int) (v : Value) : ends PP XX GG 10 (door PP 90 [rV s a b, rV s a b] .nil GG) [.go, .go, .go, .go, .go, .pure (.int .i64 z), .pure (.int .i64 z), .val (.bool false), .go, .go, .go, .go, .go, .go, .go, .go, .go, .pure (.int .i64 z), .pure (natV m), .pure (natV m), .pure (i64 0), .val v] [4] [] = some (v, mkM [], [.nice (.agg ⟨[.bool s, natV a, natV b]⟩), .nice (.agg ⟨[.bool s, natV a, natV b]⟩), .call 105 [.agg ⟨[.bool s, natV a, natV b]⟩] (mkM [(4, .cells false [.bool s, natV a, natV b]), (5, .cells false [.bool s, natV a, natV b])]) 6 (.int .i64 z) (mkM [(4, .cells false [.bool s, natV a, natV b]), (5, .cells false [.bool s, natV a, natV b])]) 6, .call 105 [.agg ⟨[.bool s, natV a, natV b]⟩] (mkM [(4, .cells false [.bool s, natV a, natV b]), (5, .cells false [.bool s, natV a, natV b])]) 6 (.int .i64 z) (mkM [(4, .cells false [.bool s, natV a, natV b]), (5, .cells false [.bool s, natV a, natV b])]) 6, .bin .neq 3 false (.int .i64 z) (.int .i64 z) (.bool false), .nice (.agg ⟨[.bool s, natV a, natV b]⟩), .nice (natV a), .nice (natV b), .nice (natV a), .nice (natV b), .call 105 [.agg ⟨[.bool s, natV a, natV b]⟩] (mkM [(4, .cells false [.bool s, natV a, natV b]), (5, .cells false [.bool s, natV a, natV b])]) 6 (.int .i64 z) (mkM [(4, .cells false [.bool s, natV a, natV b]), (5, .cells false [.bool s, natV a, natV b])]) 6, .call 106 [natV a, natV b] (mkM [(4, .cells false [.bool s, natV a, natV b]), (5, .cells false [.bool s, natV a, natV b])]) 6 (natV m) (mkM [(4, .cells false [.bool s, natV a, natV b]), (5, .cells false [.bool s, natV a, natV b])]) 6, .call 106 [natV a, natV b] (mkM [(4, .cells false [.bool s, natV a, natV b]), (5, .cells false [.bool s, natV a, natV b])]) 6 (natV m) (mkM [(4, .cells false [.bool s, natV a, natV b]), (5, .cells false [.bool s, natV a, natV b])]) 6, .call 101 [natV m, natV m] (mkM [(4, .cells false [.bool s, natV a, natV b]), (5, .cells false [.bool s, natV a, natV b])]) 6 (i64 0) (mkM [(4, .cells false [.bool s, natV a, natV b]), (5, .cells false [.bool s, natV a, natV b])]) 6, .bin .mul 3 false (.int .i64 z) (i64 0) v]) := by kernel_rfl
end RCmp
theorem rcmp_ok {s : Bool} {a b : List Nat} (ha : Num a) (hb : Num b) : PureOk PP GG tabs 90 [rV s a b, rV s a b] (i64 0) := by
  refine PureOk.of' ?_ nl_int (by kernel_rfl) ?_
  · intro x hx
    simp at hx
    subst hx; exact nl_rat _ _ _
  · have hl := mulN_length ha.digs hb.digs
    have := ha.len
    have := hb.len
    have hn : veq 1000000 (rV s a b) (rV s a b) = true := okV_nice (n := 4) (by omega) (okV_agg (n := 3) (by
      have h1 := okV_nat a 0
      have h2 := okV_nat b 0
      have h3 : okV 3 (.bool s) = true := rfl
      simp only [Nat.zero_add] at h1 h2
      simp [h1, h2, h3]))
    have hna : ∀ a : List Nat, veq 1000000 (natV a) (natV a) = true := fun a => okV_nice (n := 3) (by omega) (okV_nat a 0)
    have hc : cmpN (mulN a b) (mulN a b) = 0 := cmpN_self _
    have hcmp := F5_cmp (a := mulN a b) (b := mulN a b) (by omega) (M := mkM [(4, .cells false [.bool s, natV a, natV b]), (4 + 1, .cells false [.bool s, natV a, natV b])]) (nx := 4 + 2)
    rw [hc] at hcmp
    refine PT.ends (envOf F5_ok) (RCmp.q1 s a b (mulN a b) (signR s a) (i64 0)) ⟨hn, hn, F5_sign, F5_sign, ?_, hn, hna a, hna b, hna a, hna b, F5_sign, F5_mul ha.digs hb.digs (by omega), F5_mul ha.digs hb.digs (by omega), hcmp, ?_⟩ .same
    · unfold signR; split
      · rfl
      · split <;> rfl
    · unfold signR; split
      · rfl
      · split <;> rfl

/-! ### arity -/
namespace Arity
theorem q1 (z : Int) : ends PP XX GG 10 (door PP 94 [.int .i64 z] .nil GG) [.go, .go, .val (.bool true)] [2] [] = some (.int .i64 (.negSucc 0), mkM [], [.bin .lss 3 true (.int .i64 z) (i64 0) (.bool true)]) := by kernel_rfl
theorem q2 (z : Int) : ends PP XX GG 10 (door PP 94 [.int .i64 z] .nil GG) [.go, .go, .val (.bool false), .go, .go, .val (.bool true)] [2] [] = some (.int .i64 (.negSucc 0), mkM [], [.bin .lss 3 true (.int .i64 z) (i64 0) (.bool false), .bin .gtr 3 true (.int .i64 z) (i64 15) (.bool true)]) := by kernel_rfl
theorem runs : (List.range 16).all (fun k => match vrun PP XX GG 60 (door PP 94 [i64 k] .nil GG) with
  | some (.ret (.int .i64 z) .run _ _) => decide (z = arityZ k)
  | _ => false) = true := by kernel_rfl
end Arity
theorem bin_lss {z : Int} {w : Nat} {t : TypeId} {c : Bool} {b : Bool} (h : decide (z < w) = b) : aBin PP .lss t c (.int .i64 z) (i64 w) = some (.bool b) := by
  subst h
  rw [aBin_int (by simp) (by simp)]
  cases z with
  | ofNat n =>
    simp only [aInt, ltI]
    congr 2
    by_cases h : n < w
    · have h2 : ((n : Int) < (w : Int)) := by omega
      simp [h, h2]
    · have h2 : ¬ ((n : Int) < (w : Int)) := by omega
      simp [h2]
      cases hb : Nat.blt n w with
      | false => rfl
      | true => rw [Nat.blt_eq] at hb; omega
  | negSucc n =>
    have h2 : (Int.negSucc n < (w : Int)) := by omega
    simp [aInt, ltI, h2]
theorem bin_gtr {z : Int} {w : Nat} {t : TypeId} {c : Bool} {b : Bool} (h : decide ((w : Int) < z) = b) : aBin PP .gtr t c (.int .i64 z) (i64 w) = some (.bool b) := by
  subst h
  rw [aBin_int (by simp) (by simp)]
  cases z with
  | ofNat n =>
    simp only [aInt, ltI]
    congr 2
    by_cases h : w < n
    · have h2 : ((w : Int) < (n : Int)) := by omega
      simp [h, h2]
    · have h2 : ¬ ((w : Int) < (n : Int)) := by omega
      simp [h2]
      cases hb : Nat.blt w n with
      | false => rfl
      | true => rw [Nat.blt_eq] at hb; omega
  | negSucc n =>
    have h2 : ¬ ((w : Int) < Int.negSucc n) := by omega
    simp [aInt, ltI, h2]
theorem bin_eql {z y : Int} {t : TypeId} {c : Bool} {b : Bool} (h : decide (z = y) = b) : aBin PP .eql t c (.int .i64 z) (.int .i64 y) = some (.bool b) := by
  subst h
  rw [aBin_int (by simp) (by simp)]
  simp only [aInt]
  congr 2
  rw [eqI_eq, Bool.eq_iff_iff]
  simp
theorem bin_neq {z y : Int} {t : TypeId} {c : Bool} {b : Bool} (h : decide (z ≠ y) = b) : aBin PP .neq t c (.int .i64 z) (.int .i64 y) = some (.bool b) := by
  subst h
  rw [aBin_int (by simp) (by simp)]
  simp only [aInt]
  congr 2
  rw [eqI_eq]
  by_cases h : z = y
  · subst h; simp
  · simp [h]
theorem arity_ok (z : Int) : PureOk PP GG tabs 94 [.int .i64 z] (.int .i64 (arityZ z)) := by
  by_cases hr : z < 0 ∨ 15 < z
  · refine PureOk.of' ?_ nl_int (by kernel_rfl) ?_
    · intro x hx
      simp at hx
      subst hx; exact nl_int
    · have e : arityZ z = .negSucc 0 := by unfold arityZ; rw [if_pos hr]; rfl
      rw [e]
      by_cases h0 : z < 0
      · exact PT.ends (envOf F4_ok) (Arity.q1 z) (bin_lss (w := 0) (decide_eq_true h0)) .same
      · exact PT.ends (envOf F4_ok) (Arity.q2 z) ⟨bin_lss (w := 0) (decide_eq_false h0), bin_gtr (w := 15) (decide_eq_true (by omega))⟩ .same
  · obtain ⟨k, rfl⟩ : ∃ k : Nat, z = k := ⟨z.toNat, by omega⟩
    have hk : k < 16 := by omega
    have h := List.all_eq_true.1 Arity.runs k (List.mem_range.2 hk)
    refine PureOk.of' ?_ nl_int (by kernel_rfl) ?_
    · intro x hx
      simp at hx
      subst hx; exact nl_int
    · split at h
      · rename_i v M nx hv
        have h := of_decide_eq_true h
        subst h
        refine PT.done (up := .run) (M := M) (nx := nx) (fun w0 hl => ?_) (by kernel_rfl) (by kernel_rfl) .same
        have hx : XOk PP GG w0 XX := X0_ok
        exact vrun_sound hx fok (draws mixed hx fok) 60 _ _ hv
      · cases h
end Go.Proofs.YtihloomkgpflmaaGreatDoor

namespace Go.Proofs.YtihloomkgpflmaaGreatDoor
open Go.Proofs.YtihloomkgpflmaaGreatDoor.Vm
variable {tabs : List (Nat × List Value)}
/-- The head of a loop over a tree's parts. -/
theorem nl_Er (l : List Er) (n : Nat) : Nl (mkDat n (erL l)) := okV_nl (okV_dat (okLr l))
theorem nl_Ex (l : List Ex) (n : Nat) : Nl (mkDat n (exL l)) := okV_nl (okV_dat (okL l))
theorem rnodesL_mem {l : List Er} {a : Er} (h : a ∈ l) : a.nodes ≤ rnodesL l := by
  induction l with
  | nil => cases h
  | cons b l ih =>
    unfold rnodesL
    rcases List.mem_cons.1 h with e | e
    · subst e; omega
    · have := ih e; omega
theorem rnodesL_take (l : List Er) (i : Nat) (h : i < l.length) : rnodesL (l.take (i + 1)) = rnodesL (l.take i) + (l[i]).nodes := by
  induction l generalizing i with
  | nil => simp at h
  | cons b l ih =>
    cases i with
    | zero => simp [rnodesL]
    | succ i =>
      simp only [List.take_succ_cons, rnodesL, List.getElem_cons_succ, ih i (by simpa using h)]
      omega
theorem rnodesL_take_le (l : List Er) : ∀ i, rnodesL (l.take i) ≤ rnodesL l := by
  induction l with
  | nil => intro i; simp
  | cons b l ih =>
    intro i
    cases i with
    | zero => simp [rnodesL]
    | succ i => simp only [List.take_succ_cons, rnodesL]; have := ih i; omega
theorem len_nodes (l : List Er) : l.length ≤ rnodesL l := by
  induction l with
  | nil => simp
  | cons b l ih =>
    have : 1 ≤ b.nodes := by cases b; simp [Er.nodes]
    simp only [List.length_cons, rnodesL]; omega

namespace Nodes
noncomputable def frH (l : List Er) (s i : Nat) : Fr := { onto PP XX GG 9 (door PP 96 [eV 0 false [] [] false 0 []] .nil GG) [] with T := mkT [(3, i64 s), (7, mkDat l.length (erL l)), (8, i64 l.length), (9, i64 i)], M := .nil }
theorem q0 (o : Int) (n : Bool) (a b : List Nat) (bd : Bool) (l : List Er) : walk PP XX GG 9 (door PP 96 [eV o n a b bd l.length (erL l)] .nil GG) [] [3, 7, 8, 9] [] = some (frH l 1 0, []) := by kernel_rfl
theorem q1 (l : List Er) (a : Rd) (s i k s2 i2 : Nat) : walk PP XX GG 13 (frH l s i) [.val (.bool true), .val (erP l i), .val a.val, .go, .go, .go, .go, .pure (i64 k), .val (i64 s2), .go, .val (i64 i2), .go] [3, 7, 8, 9] [] = some ({ frH l s2 i2 with nx := 4 + 2 }, [.bin .lss 3 false (i64 i) (i64 l.length) (.bool true), .idxA 37 (mkDat l.length (erL l)) (i64 i) (mkPtr (List.drop (i * 6) (erL l))), .load (mkM []) 39 (mkPtr (List.drop (i * 6) (erL l))) (.agg ⟨[.int .i64 a.op, .bool a.neg, natV a.nn, natV a.dd, .bool a.bad, mkDat a.n a.cs]⟩), .call 96 [.agg ⟨[.int .i64 a.op, .bool a.neg, natV a.nn, natV a.dd, .bool a.bad, mkDat a.n a.cs]⟩] (mkM [(5, .cells false [.int .i64 a.op, .bool a.neg, natV a.nn, natV a.dd, .bool a.bad, mkDat a.n a.cs])]) 6 (i64 k) (mkM [(5, .cells false [.int .i64 a.op, .bool a.neg, natV a.nn, natV a.dd, .bool a.bad, mkDat a.n a.cs])]) 6, .bin .add 3 false (i64 s) (i64 k) (i64 s2), .bin .add 3 true (i64 i) (i64 1) (i64 i2)]) := by kernel_rfl
theorem q2 (l : List Er) (s i : Nat) : ends PP XX GG 8 (frH l s i) [.val (.bool false), .go, .go] [2] [] = some (i64 s, mkM [], [.bin .lss 3 false (i64 i) (i64 l.length) (.bool false)]) := by kernel_rfl
theorem loop_ok {F : Known} (hF : F.Ok PP GG tabs) {l : List Er} (hc : ∀ x ∈ l, ∀ (M : Tr Blk) (nx : Nat), F.sm 96 [x.nd.val] M nx = some (i64 x.nodes, M, nx)) (hm : rnodesL l + 1 < 9223372036854775808) : ∀ d i, i + d = l.length → PT PP GG tabs (frH l (rnodesL (l.take i) + 1) i) (i64 (rnodesL l + 1))
  | 0, i, h => by
    have e : l.take i = l := List.take_of_length_le (by omega)
    rw [e]
    exact PT.ends (envOf hF) (q2 l _ i) (lss_f (by omega)) .same
  | d + 1, i, h => by
    have hi : i < l.length := by omega
    have e := rnodesL_take l i hi
    have e2 := rnodesL_take_le l (i + 1)
    have e3 := len_nodes l
    refine PT.walk (envOf hF) (q1 l (l[i]).nd (rnodesL (l.take i) + 1) i (l[i]).nodes (rnodesL (l.take (i + 1)) + 1) (i + 1)) ⟨lss_t hi, idx_er hi, load_er hi, hc _ (List.getElem_mem hi) _ _, ?_, add_i64 (by omega)⟩ ?_
    · rw [e, Nat.add_right_comm]; exact add_i64 (by omega)
    · refine back (4 + 1) _ [(3, i64 (rnodesL (l.take (i + 1)) + 1)), (7, mkDat l.length (erL l)), (8, i64 l.length), (9, i64 (i + 1))] rfl rfl ?_ (by decide) (by kernel_rfl) (by kernel_rfl) (by kernel_rfl) (by kernel_rfl) (by kernel_rfl) (loop_ok hF hc hm d (i + 1) (by omega))
      intro p hp
      simp only [List.mem_cons, List.not_mem_nil, or_false] at hp
      rcases hp with rfl | rfl | rfl | rfl
      · exact nl_int
      · exact nl_Er l _
      · exact nl_int
      · exact nl_int
end Nodes
theorem nodes_ok : ∀ e : Er, e.nodes < 9223372036854775808 → PureOk PP GG tabs 96 [e.nd.val] (i64 e.nodes)
  | .mk o n a b bd l, h => by
    have hm : rnodesL l + 1 < 9223372036854775808 := by simpa [Er.nodes] using h
    have ih : ∀ x ∈ l, PureOk PP GG tabs 96 [x.nd.val] (i64 x.nodes) := fun x hx => nodes_ok x (by have := rnodesL_mem hx; omega)
    refine PureOk.of' ?_ nl_int (by kernel_rfl) ?_
    · intro x hx
      simp only [List.mem_cons, List.not_mem_nil, or_false] at hx
      subst hx; exact Er.nl _
    · have hF : (F4.add 96 (eI (fun x : Er => [x.nd.val]) (fun x => x ∈ l) fun x => i64 x.nodes)).Ok PP GG tabs := Known.add_ok F4_ok (eI_ok fun x hx => ih x hx)
      refine PT.walk (envOf hF) (Nodes.q0 o n a b bd l) trivial ?_
      have := Nodes.loop_ok hF (l := l) (fun x hx M nx => parts_call hx) hm l.length 0 (by omega)
      simpa [Er.nodes, rnodesL] using this
  termination_by e => SizeOf.sizeOf e
  decreasing_by exact er_size hx _ _ _ _ _

/-! ### Depth -/
theorem rhighL_take (l : List Er) (i : Nat) (h : i < l.length) : rhighL (l.take (i + 1)) = max (rhighL (l.take i)) (l[i]).high := by
  induction l generalizing i with
  | nil => simp at h
  | cons b l ih =>
    cases i with
    | zero => simp [rhighL]
    | succ i =>
      simp only [List.take_succ_cons, rhighL, List.getElem_cons_succ, ih i (by simpa using h)]
      omega
theorem rhighL_take_le (l : List Er) : ∀ i, rhighL (l.take i) ≤ rhighL l := by
  induction l with
  | nil => intro i; simp
  | cons b l ih =>
    intro i
    cases i with
    | zero => simp [rhighL]
    | succ i => simp only [List.take_succ_cons, rhighL]; have := ih i; omega
theorem high_nodes : ∀ e : Er, e.high ≤ e.nodes
  | .mk o n a b bd l => by
    have : ∀ m : List Er, (∀ x ∈ m, x.high ≤ x.nodes) → rhighL m ≤ rnodesL m := by
      intro m hm
      induction m with
      | nil => simp [rhighL]
      | cons b m ih =>
        have h1 := hm b List.mem_cons_self
        have h2 := ih fun x hx => hm x (List.mem_cons_of_mem _ hx)
        simp only [rhighL, rnodesL]; omega
    have := this l fun x hx => high_nodes x
    simp only [Er.high, Er.nodes]; omega
  termination_by e => SizeOf.sizeOf e
  decreasing_by exact er_size hx _ _ _ _ _
namespace Depth
noncomputable def frH (l : List Er) (s i : Nat) : Fr := { onto PP XX GG 9 (door PP 97 [eV 0 false [] [] false 0 []] .nil GG) [] with T := mkT [(3, i64 s), (8, mkDat l.length (erL l)), (9, i64 l.length), (10, i64 i)], M := .nil }
theorem q0 (o : Int) (n : Bool) (a b : List Nat) (bd : Bool) (l : List Er) : walk PP XX GG 9 (door PP 97 [eV o n a b bd l.length (erL l)] .nil GG) [] [3, 8, 9, 10] [] = some (frH l 0 0, []) := by kernel_rfl
theorem q1 (l : List Er) (a : Rd) (s i k i2 : Nat) : walk PP XX GG 18 (frH l s i) [.val (.bool true), .val (erP l i), .val a.val, .go, .go, .go, .pure (i64 k), .go, .go, .go, .val (.bool true), .go, .go, .val (i64 i2), .go] [3, 8, 9, 10] [] = some ({ frH l k i2 with nx := 4 + 2 }, [.bin .lss 3 false (i64 i) (i64 l.length) (.bool true), .idxA 37 (mkDat l.length (erL l)) (i64 i) (mkPtr (List.drop (i * 6) (erL l))), .load (mkM []) 39 (mkPtr (List.drop (i * 6) (erL l))) (.agg ⟨[.int .i64 a.op, .bool a.neg, natV a.nn, natV a.dd, .bool a.bad, mkDat a.n a.cs]⟩), .call 97 [.agg ⟨[.int .i64 a.op, .bool a.neg, natV a.nn, natV a.dd, .bool a.bad, mkDat a.n a.cs]⟩] (mkM [(5, .cells false [.int .i64 a.op, .bool a.neg, natV a.nn, natV a.dd, .bool a.bad, mkDat a.n a.cs])]) 6 (i64 k) (mkM [(5, .cells false [.int .i64 a.op, .bool a.neg, natV a.nn, natV a.dd, .bool a.bad, mkDat a.n a.cs])]) 6, .bin .gtr 3 false (i64 k) (i64 s) (.bool true), .bin .add 3 true (i64 i) (i64 1) (i64 i2)]) := by kernel_rfl
theorem q1' (l : List Er) (a : Rd) (s i k i2 : Nat) : walk PP XX GG 18 (frH l s i) [.val (.bool true), .val (erP l i), .val a.val, .go, .go, .go, .pure (i64 k), .go, .go, .go, .val (.bool false), .val (i64 i2), .go] [3, 8, 9, 10] [] = some ({ frH l s i2 with nx := 4 + 2 }, [.bin .lss 3 false (i64 i) (i64 l.length) (.bool true), .idxA 37 (mkDat l.length (erL l)) (i64 i) (mkPtr (List.drop (i * 6) (erL l))), .load (mkM []) 39 (mkPtr (List.drop (i * 6) (erL l))) (.agg ⟨[.int .i64 a.op, .bool a.neg, natV a.nn, natV a.dd, .bool a.bad, mkDat a.n a.cs]⟩), .call 97 [.agg ⟨[.int .i64 a.op, .bool a.neg, natV a.nn, natV a.dd, .bool a.bad, mkDat a.n a.cs]⟩] (mkM [(5, .cells false [.int .i64 a.op, .bool a.neg, natV a.nn, natV a.dd, .bool a.bad, mkDat a.n a.cs])]) 6 (i64 k) (mkM [(5, .cells false [.int .i64 a.op, .bool a.neg, natV a.nn, natV a.dd, .bool a.bad, mkDat a.n a.cs])]) 6, .bin .gtr 3 false (i64 k) (i64 s) (.bool false), .bin .add 3 true (i64 i) (i64 1) (i64 i2)]) := by kernel_rfl
theorem q2 (l : List Er) (s i s2 : Nat) : ends PP XX GG 8 (frH l s i) [.val (.bool false), .go, .val (i64 s2), .go] [2] [] = some (i64 s2, mkM [], [.bin .lss 3 false (i64 i) (i64 l.length) (.bool false), .bin .add 3 true (i64 s) (i64 1) (i64 s2)]) := by kernel_rfl
theorem loop_ok {F : Known} (hF : F.Ok PP GG tabs) {l : List Er} (hc : ∀ x ∈ l, ∀ (M : Tr Blk) (nx : Nat), F.sm 97 [x.nd.val] M nx = some (i64 x.high, M, nx)) (hm : rhighL l + 1 < 9223372036854775808) (hm2 : l.length + 1 < 9223372036854775808) : ∀ d i, i + d = l.length → PT PP GG tabs (frH l (rhighL (l.take i)) i) (i64 (rhighL l + 1))
  | 0, i, h => by
    have e : l.take i = l := List.take_of_length_le (by omega)
    rw [e]
    exact PT.ends (envOf hF) (q2 l _ i _) ⟨lss_f (by omega), add_i64 (by omega)⟩ .same
  | d + 1, i, h => by
    have hi : i < l.length := by omega
    have e := rhighL_take l i hi
    have next := loop_ok hF hc hm hm2 d (i + 1) (by omega)
    by_cases hg : rhighL (l.take i) < (l[i]).high
    · rw [e, Nat.max_eq_right (by omega)] at next
      refine PT.walk (envOf hF) (q1 l (l[i]).nd _ i (l[i]).high (i + 1)) ⟨lss_t hi, idx_er hi, load_er hi, hc _ (List.getElem_mem hi) _ _, gtr_t hg, add_i64 (by omega)⟩ ?_
      refine back (4 + 1) _ [(3, i64 (l[i]).high), (8, mkDat l.length (erL l)), (9, i64 l.length), (10, i64 (i + 1))] rfl rfl ?_ (by decide) (by kernel_rfl) (by kernel_rfl) (by kernel_rfl) (by kernel_rfl) (by kernel_rfl) next
      intro p hp
      simp only [List.mem_cons, List.not_mem_nil, or_false] at hp
      rcases hp with rfl | rfl | rfl | rfl
      · exact nl_int
      · exact nl_Er l _
      · exact nl_int
      · exact nl_int
    · rw [e, Nat.max_eq_left (by omega)] at next
      refine PT.walk (envOf hF) (q1' l (l[i]).nd _ i (l[i]).high (i + 1)) ⟨lss_t hi, idx_er hi, load_er hi, hc _ (List.getElem_mem hi) _ _, gtr_f (by omega), add_i64 (by omega)⟩ ?_
      refine back (4 + 1) _ [(3, i64 (rhighL (l.take i))), (8, mkDat l.length (erL l)), (9, i64 l.length), (10, i64 (i + 1))] rfl rfl ?_ (by decide) (by kernel_rfl) (by kernel_rfl) (by kernel_rfl) (by kernel_rfl) (by kernel_rfl) next
      intro p hp
      simp only [List.mem_cons, List.not_mem_nil, or_false] at hp
      rcases hp with rfl | rfl | rfl | rfl
      · exact nl_int
      · exact nl_Er l _
      · exact nl_int
      · exact nl_int
end Depth
theorem depth_ok : ∀ e : Er, e.nodes < 9223372036854775808 → PureOk PP GG tabs 97 [e.nd.val] (i64 e.high)
  | .mk o n a b bd l, h => by
    have hm : rnodesL l + 1 < 9223372036854775808 := by simpa [Er.nodes] using h
    have hh := high_nodes (.mk o n a b bd l)
    simp only [Er.high, Er.nodes] at hh
    have hl := len_nodes l
    have ih : ∀ x ∈ l, PureOk PP GG tabs 97 [x.nd.val] (i64 x.high) := fun x hx => depth_ok x (by have := rnodesL_mem hx; omega)
    refine PureOk.of' ?_ nl_int (by kernel_rfl) ?_
    · intro x hx
      simp only [List.mem_cons, List.not_mem_nil, or_false] at hx
      subst hx; exact Er.nl _
    · have hF : (F4.add 97 (eI (fun x : Er => [x.nd.val]) (fun x => x ∈ l) fun x => i64 x.high)).Ok PP GG tabs := Known.add_ok F4_ok (eI_ok fun x hx => ih x hx)
      refine PT.walk (envOf hF) (Depth.q0 o n a b bd l) trivial ?_
      have := Depth.loop_ok hF (l := l) (fun x hx M nx => parts_call hx) (by omega) (by omega) l.length 0 (by omega)
      simpa [Er.high, rhighL] using this
  termination_by e => SizeOf.sizeOf e
  decreasing_by exact er_size hx _ _ _ _ _
#print axioms depth_ok
end Go.Proofs.YtihloomkgpflmaaGreatDoor

namespace Go.Proofs.YtihloomkgpflmaaGreatDoor
open Go.Proofs.YtihloomkgpflmaaGreatDoor.Vm
variable {tabs : List (Nat × List Value)}
/-- Trees whose numbers are numbers. -/
inductive Fine : Er → Prop
  | mk {o : Int} {n : Bool} {a b : List Nat} {bd : Bool} {l : List Er} (ha : Num a) (hb : Num b) (h : ∀ x ∈ l, Fine x) : Fine (.mk o n a b bd l)
noncomputable def F6 : Known := F4.add 94 (eI (fun z : Int => [.int .i64 z]) (fun _ => True) fun z => .int .i64 (arityZ z))
theorem F6_ok : F6.Ok PP GG tabs := Known.add_ok F4_ok (eI_ok fun z _ => arity_ok z)
theorem int_inj1 : ∀ x y : Int, [Value.int .i64 x] = [Value.int .i64 y] → x = y := by
  intro x y h
  simpa using h
theorem arity_call {F : Known} (hF : ∀ z, F 94 [.int .i64 z] = some (.int .i64 (arityZ z))) {z : Int} {M : Tr Blk} {nx : Nat} : F.sm 94 [.int .i64 z] M nx = some (.int .i64 (arityZ z), M, nx) :=
  pureCall (by simp [frz_int]) (by simp [offs_int]) (hF z)
theorem F6_arity (z : Int) : F6 94 [.int .i64 z] = some (.int .i64 (arityZ z)) := add_same.trans (eI_of int_inj1 trivial)
theorem F6_len {a : List Nat} (h : Num a) : F6 95 [natV a] = some (i64 (lenN a)) :=
  (add_other rfl).trans ((add_other rfl).trans (add_same.trans (eI_of one_inj h)))
theorem len_call {F : Known} {a : List Nat} (hF : F 95 [natV a] = some (i64 (lenN a))) {M : Tr Blk} {nx : Nat} : F.sm 95 [natV a] M nx = some (i64 (lenN a), M, nx) := pureCall one_frz one_offs hF
theorem nice_nat (a : List Nat) : veq 1000000 (natV a) (natV a) = true := okV_nice (n := 3) (by omega) (okV_nat a 0)
theorem nice_er {l : List Er} {n : Nat} (h : rhighL l ≤ 400000) : veq 1000000 (mkDat n (erL l)) (mkDat n (erL l)) = true := okV_nice (by omega) (okV_dat (okLr l))
theorem nice_ex {l : List Ex} {n : Nat} (h : highL l ≤ 400000) : veq 1000000 (mkDat n (exL l)) (mkDat n (exL l)) = true := okV_nice (by omega) (okV_dat (okL l))
theorem nice_bool (b : Bool) : veq 1000000 (.bool b) (.bool b) = true := okV_nice (n := 1) (by omega) rfl
theorem nice_i (z : Int) : veq 1000000 (.int .i64 z) (.int .i64 z) = true := okV_nice (n := 1) (by omega) rfl

namespace Right
noncomputable def frH (l : List Er) (i : Nat) : Fr := { onto PP XX GG 12 (door PP 25 [eV 1 false [] [] false 0 []] .nil GG) [.go, .go, .go, .go, .go, .go, .go, .go, .go, .go, .pure (i64 0), .val (.bool false), .go, .go, .go, .go, .go, .pure (i64 0), .val (.bool false), .go, .go, .go, .go, .go, .pure (i64 0), .val (.bool false)] with T := mkT [(31, mkDat l.length (erL l)), (32, i64 l.length), (33, i64 i)], M := .nil }
theorem q1 (o : Int) (n : Bool) (a b : List Nat) (k : Nat) (cs : List Value) : ends PP XX GG 9 (door PP 25 [eV o n a b true k cs] .nil GG) [] [2] [] = some (.bool false, mkM [], [.nice (.bool true)]) := by kernel_rfl
theorem q2 (o : Int) (n : Bool) (a b : List Nat) (k : Nat) (cs : List Value) (z : Int) : ends PP XX GG 9 (door PP 25 [eV o n a b false k cs] .nil GG) [.go, .go, .go, .go, .go, .go, .go, .go, .go, .go, .pure (.int .i64 z), .val (.bool true)] [2] [] = some (.bool false, mkM [], [.nice (.bool false), .nice (.int .i64 o), .nice (mkDat k cs), .call 94 [.int .i64 o] (mkM [(4, .cells false [.int .i64 o, .bool n, natV a, natV b, .bool false, mkDat k cs])]) 5 (.int .i64 z) (mkM [(4, .cells false [.int .i64 o, .bool n, natV a, natV b, .bool false, mkDat k cs])]) 5, .bin .neq 3 false (.int .i64 z) (i64 k) (.bool true)]) := by kernel_rfl
theorem q3 (o : Int) (n : Bool) (a b : List Nat) (k : Nat) (cs : List Value) (z : Int) (x : Nat) : ends PP XX GG 9 (door PP 25 [eV o n a b false k cs] .nil GG) [.go, .go, .go, .go, .go, .go, .go, .go, .go, .go, .pure (.int .i64 z), .val (.bool false), .go, .go, .go, .go, .go, .pure (i64 x), .val (.bool true)] [2] [] = some (.bool false, mkM [], [.nice (.bool false), .nice (.int .i64 o), .nice (mkDat k cs), .call 94 [.int .i64 o] (mkM [(4, .cells false [.int .i64 o, .bool n, natV a, natV b, .bool false, mkDat k cs])]) 5 (.int .i64 z) (mkM [(4, .cells false [.int .i64 o, .bool n, natV a, natV b, .bool false, mkDat k cs])]) 5, .bin .neq 3 false (.int .i64 z) (i64 k) (.bool false), .nice (natV a), .call 95 [natV a] (mkM [(4, .cells false [.int .i64 o, .bool n, natV a, natV b, .bool false, mkDat k cs])]) 5 (i64 x) (mkM [(4, .cells false [.int .i64 o, .bool n, natV a, natV b, .bool false, mkDat k cs])]) 5, .bin .gtr 3 true (i64 x) (i64 67108864) (.bool true)]) := by kernel_rfl
theorem q4 (o : Int) (n : Bool) (a b : List Nat) (k : Nat) (cs : List Value) (z : Int) (x y : Nat) : ends PP XX GG 9 (door PP 25 [eV o n a b false k cs] .nil GG) [.go, .go, .go, .go, .go, .go, .go, .go, .go, .go, .pure (.int .i64 z), .val (.bool false), .go, .go, .go, .go, .go, .pure (i64 x), .val (.bool false), .go, .go, .go, .go, .go, .pure (i64 y), .val (.bool true)] [2] [] = some (.bool false, mkM [], [.nice (.bool false), .nice (.int .i64 o), .nice (mkDat k cs), .call 94 [.int .i64 o] (mkM [(4, .cells false [.int .i64 o, .bool n, natV a, natV b, .bool false, mkDat k cs])]) 5 (.int .i64 z) (mkM [(4, .cells false [.int .i64 o, .bool n, natV a, natV b, .bool false, mkDat k cs])]) 5, .bin .neq 3 false (.int .i64 z) (i64 k) (.bool false), .nice (natV a), .call 95 [natV a] (mkM [(4, .cells false [.int .i64 o, .bool n, natV a, natV b, .bool false, mkDat k cs])]) 5 (i64 x) (mkM [(4, .cells false [.int .i64 o, .bool n, natV a, natV b, .bool false, mkDat k cs])]) 5, .bin .gtr 3 true (i64 x) (i64 67108864) (.bool false), .nice (natV b), .call 95 [natV b] (mkM [(4, .cells false [.int .i64 o, .bool n, natV a, natV b, .bool false, mkDat k cs])]) 5 (i64 y) (mkM [(4, .cells false [.int .i64 o, .bool n, natV a, natV b, .bool false, mkDat k cs])]) 5, .bin .gtr 3 true (i64 y) (i64 67108864) (.bool true)]) := by kernel_rfl
theorem q5 (o : Int) (n : Bool) (a b : List Nat) (l : List Er) (z : Int) (x y : Nat) : walk PP XX GG 12 (door PP 25 [eV o n a b false l.length (erL l)] .nil GG) [.go, .go, .go, .go, .go, .go, .go, .go, .go, .go, .pure (.int .i64 z), .val (.bool false), .go, .go, .go, .go, .go, .pure (i64 x), .val (.bool false), .go, .go, .go, .go, .go, .pure (i64 y), .val (.bool false)] [31, 32, 33] [] = some (frH l 0, [.nice (.bool false), .nice (.int .i64 o), .nice (mkDat l.length (erL l)), .call 94 [.int .i64 o] (mkM [(4, .cells false [.int .i64 o, .bool n, natV a, natV b, .bool false, mkDat l.length (erL l)])]) 5 (.int .i64 z) (mkM [(4, .cells false [.int .i64 o, .bool n, natV a, natV b, .bool false, mkDat l.length (erL l)])]) 5, .bin .neq 3 false (.int .i64 z) (i64 l.length) (.bool false), .nice (natV a), .call 95 [natV a] (mkM [(4, .cells false [.int .i64 o, .bool n, natV a, natV b, .bool false, mkDat l.length (erL l)])]) 5 (i64 x) (mkM [(4, .cells false [.int .i64 o, .bool n, natV a, natV b, .bool false, mkDat l.length (erL l)])]) 5, .bin .gtr 3 true (i64 x) (i64 67108864) (.bool false), .nice (natV b), .call 95 [natV b] (mkM [(4, .cells false [.int .i64 o, .bool n, natV a, natV b, .bool false, mkDat l.length (erL l)])]) 5 (i64 y) (mkM [(4, .cells false [.int .i64 o, .bool n, natV a, natV b, .bool false, mkDat l.length (erL l)])]) 5, .bin .gtr 3 true (i64 y) (i64 67108864) (.bool false)]) := by kernel_rfl
theorem q6 (l : List Er) (a : Rd) (i i2 : Nat) : walk PP XX GG 16 (frH l i) [.val (.bool true), .val (erP l i), .val a.val, .go, .go, .go, .pure (.bool true), .go, .val (i64 i2), .go] [31, 32, 33] [] = some ({ frH l i2 with nx := 4 + 2 }, [.bin .lss 3 false (i64 i) (i64 l.length) (.bool true), .idxA 37 (mkDat l.length (erL l)) (i64 i) (mkPtr (List.drop (i * 6) (erL l))), .load (mkM []) 39 (mkPtr (List.drop (i * 6) (erL l))) (.agg ⟨[.int .i64 a.op, .bool a.neg, natV a.nn, natV a.dd, .bool a.bad, mkDat a.n a.cs]⟩), .call 25 [.agg ⟨[.int .i64 a.op, .bool a.neg, natV a.nn, natV a.dd, .bool a.bad, mkDat a.n a.cs]⟩] (mkM [(5, .cells false [.int .i64 a.op, .bool a.neg, natV a.nn, natV a.dd, .bool a.bad, mkDat a.n a.cs])]) 6 (.bool true) (mkM [(5, .cells false [.int .i64 a.op, .bool a.neg, natV a.nn, natV a.dd, .bool a.bad, mkDat a.n a.cs])]) 6, .bin .add 3 true (i64 i) (i64 1) (i64 i2)]) := by kernel_rfl
theorem q7 (l : List Er) (a : Rd) (i : Nat) : ends PP XX GG 15 (frH l i) [.val (.bool true), .val (erP l i), .val a.val, .go, .go, .go, .pure (.bool false), .go, .go] [2] [] = some (.bool false, mkM [], [.bin .lss 3 false (i64 i) (i64 l.length) (.bool true), .idxA 37 (mkDat l.length (erL l)) (i64 i) (mkPtr (List.drop (i * 6) (erL l))), .load (mkM []) 39 (mkPtr (List.drop (i * 6) (erL l))) (.agg ⟨[.int .i64 a.op, .bool a.neg, natV a.nn, natV a.dd, .bool a.bad, mkDat a.n a.cs]⟩), .call 25 [.agg ⟨[.int .i64 a.op, .bool a.neg, natV a.nn, natV a.dd, .bool a.bad, mkDat a.n a.cs]⟩] (mkM [(5, .cells false [.int .i64 a.op, .bool a.neg, natV a.nn, natV a.dd, .bool a.bad, mkDat a.n a.cs])]) 6 (.bool false) (mkM [(5, .cells false [.int .i64 a.op, .bool a.neg, natV a.nn, natV a.dd, .bool a.bad, mkDat a.n a.cs])]) 6]) := by kernel_rfl
theorem q8 (l : List Er) (i : Nat) : ends PP XX GG 8 (frH l i) [.val (.bool false), .go] [2] [] = some (.bool true, mkM [], [.bin .lss 3 false (i64 i) (i64 l.length) (.bool false)]) := by kernel_rfl
theorem loop_ok {F : Known} (hF : F.Ok PP GG tabs) {l : List Er} (hc : ∀ x ∈ l, ∀ (M : Tr Blk) (nx : Nat), F.sm 25 [x.nd.val] M nx = some (.bool x.right, M, nx)) (hm : l.length + 1 < 9223372036854775808) : ∀ d i, i + d = l.length → PT PP GG tabs (frH l i) (.bool (rrightL (l.drop i)))
  | 0, i, h => by
    have e : l.drop i = [] := List.drop_of_length_le (by omega)
    rw [e]
    exact PT.ends (envOf hF) (q8 l i) (lss_f (by omega)) .same
  | d + 1, i, h => by
    have hi : i < l.length := by omega
    have e : l.drop i = l[i] :: l.drop (i + 1) := List.drop_eq_getElem_cons hi
    rw [e]
    unfold rrightL
    cases hr : (l[i]).right with
    | true =>
      have hcc := hc _ (List.getElem_mem hi)
      rw [hr] at hcc
      refine PT.walk (envOf hF) (q6 l (l[i]).nd i (i + 1)) ⟨lss_t hi, idx_er hi, load_er hi, hcc _ _, add_i64 (by omega)⟩ ?_
      refine back (4 + 1) _ [(31, mkDat l.length (erL l)), (32, i64 l.length), (33, i64 (i + 1))] rfl rfl ?_ (by decide) (by kernel_rfl) (by kernel_rfl) (by kernel_rfl) (by kernel_rfl) (by kernel_rfl) (by rw [Bool.true_and]; exact loop_ok hF hc hm d (i + 1) (by omega))
      intro p hp
      simp only [List.mem_cons, List.not_mem_nil, or_false] at hp
      rcases hp with rfl | rfl | rfl
      · exact nl_Er l _
      · exact nl_int
      · exact nl_int
    | false =>
      have hcc := hc _ (List.getElem_mem hi)
      rw [hr] at hcc
      exact PT.ends (envOf hF) (q7 l (l[i]).nd i) ⟨lss_t hi, idx_er hi, load_er hi, hcc _ _⟩ .same
end Right
theorem right_ok : ∀ e : Er, Fine e → e.high ≤ 400000 → e.nodes < 9223372036854775808 → PureOk PP GG tabs 25 [e.nd.val] (.bool e.right)
  | .mk o n a b bd l, hf, hh, h => by
    have hm : rnodesL l + 1 < 9223372036854775808 := by simpa [Er.nodes] using h
    have hh' : rhighL l + 1 ≤ 400000 := by simpa [Er.high] using hh
    have hl := len_nodes l
    obtain ⟨ha, hb, hp⟩ : Num a ∧ Num b ∧ ∀ x ∈ l, Fine x := by cases hf; exact ⟨‹_›, ‹_›, ‹_›⟩
    have ih : ∀ x ∈ l, PureOk PP GG tabs 25 [x.nd.val] (.bool x.right) := fun x hx => right_ok x (hp x hx) (by have := rhighL_mem hx; omega) (by have := rnodesL_mem hx; omega)
    refine PureOk.of' ?_ ⟨1, rfl⟩ (by kernel_rfl) ?_
    · intro x hx
      simp only [List.mem_cons, List.not_mem_nil, or_false] at hx
      subst hx; exact Er.nl _
    · have hF : (F6.add 25 (eI (fun x : Er => [x.nd.val]) (fun x => x ∈ l) fun x => .bool x.right)).Ok PP GG tabs := Known.add_ok F6_ok (eI_ok fun x hx => ih x hx)
      have hA : ∀ z, (F6.add 25 (eI (fun x : Er => [x.nd.val]) (fun x => x ∈ l) fun x => .bool x.right)) 94 [.int .i64 z] = some (.int .i64 (arityZ z)) := fun z => (add_other rfl).trans (F6_arity z)
      have hL : ∀ {a}, Num a → (F6.add 25 (eI (fun x : Er => [x.nd.val]) (fun x => x ∈ l) fun x => .bool x.right)) 95 [natV a] = some (i64 (lenN a)) := fun h => (add_other rfl).trans (F6_len h)
      show PT PP GG tabs (door PP 25 [eV o n a b bd l.length (erL l)] .nil GG) _
      unfold Er.right rightB
      cases bd with
      | true => exact PT.ends (envOf hF) (Right.q1 o n a b _ _) (nice_bool _) .same
      | false =>
        by_cases h1 : arityZ o = l.length
        · by_cases h2 : lenN a ≤ 67108864
          · by_cases h3 : lenN b ≤ 67108864
            · refine PT.walk (envOf hF) (Right.q5 o n a b l (arityZ o) (lenN a) (lenN b)) ⟨nice_bool _, nice_i _, nice_er (by omega), arity_call hA, bin_neq (decide_eq_false (fun hn => hn h1)), nice_nat a, len_call (hL ha), gtr_f h2, nice_nat b, len_call (hL hb), gtr_f h3⟩ ?_
              have := Right.loop_ok hF (l := l) (fun x hx M nx => parts_call hx) (by omega) l.length 0 (by omega)
              simpa [h1, h2, h3] using this
            · have e : (!false && (decide (arityZ o = l.length) && (decide (lenN a ≤ 67108864) && decide (lenN b ≤ 67108864))) && rrightL l) = false := by simp [h3]
              rw [e]
              exact PT.ends (envOf hF) (Right.q4 o n a b l.length (erL l) (arityZ o) (lenN a) (lenN b)) ⟨nice_bool _, nice_i _, nice_er (by omega), arity_call hA, bin_neq (decide_eq_false (fun hn => hn h1)), nice_nat a, len_call (hL ha), gtr_f h2, nice_nat b, len_call (hL hb), gtr_t (by omega)⟩ .same
          · have e : (!false && (decide (arityZ o = l.length) && (decide (lenN a ≤ 67108864) && decide (lenN b ≤ 67108864))) && rrightL l) = false := by simp [h2]
            rw [e]
            exact PT.ends (envOf hF) (Right.q3 o n a b l.length (erL l) (arityZ o) (lenN a)) ⟨nice_bool _, nice_i _, nice_er (by omega), arity_call hA, bin_neq (decide_eq_false (fun hn => hn h1)), nice_nat a, len_call (hL ha), gtr_t (by omega)⟩ .same
        · have e : (!false && (decide (arityZ o = l.length) && (decide (lenN a ≤ 67108864) && decide (lenN b ≤ 67108864))) && rrightL l) = false := by simp [h1]
          rw [e]
          exact PT.ends (envOf hF) (Right.q2 o n a b l.length (erL l) (arityZ o)) ⟨nice_bool _, nice_i _, nice_er (by omega), arity_call hA, bin_neq (decide_eq_true h1)⟩ .same
  termination_by e => SizeOf.sizeOf e
  decreasing_by exact er_size hx _ _ _ _ _

/-! ### large, Check -/
namespace Large
theorem q1 (d : Rd) (s : Nat) : ends PP XX GG 5 (door PP 26 [d.val] .nil GG) [.go, .go, .go, .pure (i64 s), .val (.bool true), .go, .go, .go] [2] [] = some (.bool true, mkM [], [.call 96 [.agg ⟨[.int .i64 d.op, .bool d.neg, natV d.nn, natV d.dd, .bool d.bad, mkDat d.n d.cs]⟩] (mkM [(4, .cells false [.int .i64 d.op, .bool d.neg, natV d.nn, natV d.dd, .bool d.bad, mkDat d.n d.cs])]) 5 (i64 s) (mkM [(4, .cells false [.int .i64 d.op, .bool d.neg, natV d.nn, natV d.dd, .bool d.bad, mkDat d.n d.cs])]) 5, .bin .gtr 3 true (i64 s) (i64 4000) (.bool true)]) := by kernel_rfl
theorem q2 (d : Rd) (s k : Nat) (b : Bool) : ends PP XX GG 5 (door PP 26 [d.val] .nil GG) [.go, .go, .go, .pure (i64 s), .val (.bool false), .go, .go, .pure (i64 k), .val (.bool b), .go, .go] [2] [] = some (.bool b, mkM [], [.call 96 [.agg ⟨[.int .i64 d.op, .bool d.neg, natV d.nn, natV d.dd, .bool d.bad, mkDat d.n d.cs]⟩] (mkM [(4, .cells false [.int .i64 d.op, .bool d.neg, natV d.nn, natV d.dd, .bool d.bad, mkDat d.n d.cs])]) 5 (i64 s) (mkM [(4, .cells false [.int .i64 d.op, .bool d.neg, natV d.nn, natV d.dd, .bool d.bad, mkDat d.n d.cs])]) 5, .bin .gtr 3 true (i64 s) (i64 4000) (.bool false), .call 97 [.agg ⟨[.int .i64 d.op, .bool d.neg, natV d.nn, natV d.dd, .bool d.bad, mkDat d.n d.cs]⟩] (mkM [(4, .cells false [.int .i64 d.op, .bool d.neg, natV d.nn, natV d.dd, .bool d.bad, mkDat d.n d.cs])]) 5 (i64 k) (mkM [(4, .cells false [.int .i64 d.op, .bool d.neg, natV d.nn, natV d.dd, .bool d.bad, mkDat d.n d.cs])]) 5, .bin .gtr 3 true (i64 k) (i64 200) (.bool b)]) := by kernel_rfl
theorem c1 (d : Rd) : ends PP XX GG 9 (door PP 14 [d.val] .nil GG) [.go, .go, .go, .pure (.bool false), .go, .go] [2] [] = some (i64 152, mkM [], [.call 25 [.agg ⟨[.int .i64 d.op, .bool d.neg, natV d.nn, natV d.dd, .bool d.bad, mkDat d.n d.cs]⟩] (mkM [(4, .cells false [.int .i64 d.op, .bool d.neg, natV d.nn, natV d.dd, .bool d.bad, mkDat d.n d.cs])]) 5 (.bool false) (mkM [(4, .cells false [.int .i64 d.op, .bool d.neg, natV d.nn, natV d.dd, .bool d.bad, mkDat d.n d.cs])]) 5]) := by kernel_rfl
theorem c2 (d : Rd) : ends PP XX GG 14 (door PP 14 [d.val] .nil GG) [.go, .go, .go, .pure (.bool true), .go, .go, .pure (.bool true), .go] [2] [] = some (i64 151, mkM [], [.call 25 [.agg ⟨[.int .i64 d.op, .bool d.neg, natV d.nn, natV d.dd, .bool d.bad, mkDat d.n d.cs]⟩] (mkM [(4, .cells false [.int .i64 d.op, .bool d.neg, natV d.nn, natV d.dd, .bool d.bad, mkDat d.n d.cs])]) 5 (.bool true) (mkM [(4, .cells false [.int .i64 d.op, .bool d.neg, natV d.nn, natV d.dd, .bool d.bad, mkDat d.n d.cs])]) 5, .call 26 [.agg ⟨[.int .i64 d.op, .bool d.neg, natV d.nn, natV d.dd, .bool d.bad, mkDat d.n d.cs]⟩] (mkM [(4, .cells false [.int .i64 d.op, .bool d.neg, natV d.nn, natV d.dd, .bool d.bad, mkDat d.n d.cs])]) 5 (.bool true) (mkM [(4, .cells false [.int .i64 d.op, .bool d.neg, natV d.nn, natV d.dd, .bool d.bad, mkDat d.n d.cs])]) 5]) := by kernel_rfl
theorem c3 (d : Rd) : ends PP XX GG 15 (door PP 14 [d.val] .nil GG) [.go, .go, .go, .pure (.bool true), .go, .go, .pure (.bool false), .go] [2] [] = some (i64 0, mkM [], [.call 25 [.agg ⟨[.int .i64 d.op, .bool d.neg, natV d.nn, natV d.dd, .bool d.bad, mkDat d.n d.cs]⟩] (mkM [(4, .cells false [.int .i64 d.op, .bool d.neg, natV d.nn, natV d.dd, .bool d.bad, mkDat d.n d.cs])]) 5 (.bool true) (mkM [(4, .cells false [.int .i64 d.op, .bool d.neg, natV d.nn, natV d.dd, .bool d.bad, mkDat d.n d.cs])]) 5, .call 26 [.agg ⟨[.int .i64 d.op, .bool d.neg, natV d.nn, natV d.dd, .bool d.bad, mkDat d.n d.cs]⟩] (mkM [(4, .cells false [.int .i64 d.op, .bool d.neg, natV d.nn, natV d.dd, .bool d.bad, mkDat d.n d.cs])]) 5 (.bool false) (mkM [(4, .cells false [.int .i64 d.op, .bool d.neg, natV d.nn, natV d.dd, .bool d.bad, mkDat d.n d.cs])]) 5]) := by kernel_rfl
end Large
noncomputable def F7 : Known := (F6.add 96 (eI (fun x : Er => [x.nd.val]) (fun x => x.nodes < 9223372036854775808) fun x => i64 x.nodes)).add 97 (eI (fun x : Er => [x.nd.val]) (fun x => x.nodes < 9223372036854775808) fun x => i64 x.high)
theorem F7_ok : F7.Ok PP GG tabs := Known.add_ok (Known.add_ok F6_ok (eI_ok fun x h => nodes_ok x h)) (eI_ok fun x h => depth_ok x h)
theorem large_ok {e : Er} (h : e.nodes < 9223372036854775808) : PureOk PP GG tabs 26 [e.nd.val] (.bool e.large) := by
  refine PureOk.of' ?_ ⟨1, rfl⟩ (by kernel_rfl) ?_
  · intro x hx
    simp only [List.mem_cons, List.not_mem_nil, or_false] at hx
    subst hx; exact Er.nl _
  · have h1 : ∀ (M : Tr Blk) (nx : Nat), F7.sm 96 [e.nd.val] M nx = some (i64 e.nodes, M, nx) := fun M nx => er_call ((add_other rfl).trans (add_same.trans (eI_of er_inj1 h)))
    have h2 : ∀ (M : Tr Blk) (nx : Nat), F7.sm 97 [e.nd.val] M nx = some (i64 e.high, M, nx) := fun M nx => er_call (add_same.trans (eI_of er_inj1 h))
    have hh := high_nodes e
    unfold Er.large
    by_cases hn : 4000 < e.nodes
    · rw [decide_eq_true hn, Bool.true_or]
      exact PT.ends (envOf F7_ok) (Large.q1 e.nd e.nodes) ⟨h1 _ _, gtr_t hn⟩ .same
    · rw [decide_eq_false hn, Bool.false_or]
      refine PT.ends (envOf F7_ok) (Large.q2 e.nd e.nodes e.high _) ⟨h1 _ _, gtr_f (by omega), h2 _ _, ?_⟩ .same
      by_cases hd : 200 < e.high
      · rw [decide_eq_true hd]; exact gtr_t hd
      · rw [decide_eq_false hd]; exact gtr_f (by omega)
/-- A tree of the references that is not out of bounds here. -/
structure Fair (e : Er) : Prop where
  fine : Fine e
  high : e.high ≤ 400000
  nodes : e.nodes < 9223372036854775808
noncomputable def F8 : Known := (F7.add 25 (eI (fun x : Er => [x.nd.val]) Fair fun x => .bool x.right)).add 26 (eI (fun x : Er => [x.nd.val]) Fair fun x => .bool x.large)
theorem F8_ok : F8.Ok PP GG tabs := Known.add_ok (Known.add_ok F7_ok (eI_ok fun x h => right_ok x h.fine h.high h.nodes)) (eI_ok fun x h => large_ok h.nodes)
theorem check_ok {e : Er} (h : Fair e) : PureOk PP GG tabs 14 [e.nd.val] (i64 e.check) := by
  refine PureOk.of' ?_ nl_int (by kernel_rfl) ?_
  · intro x hx
    simp only [List.mem_cons, List.not_mem_nil, or_false] at hx
    subst hx; exact Er.nl _
  · have h1 : ∀ (M : Tr Blk) (nx : Nat), F8.sm 25 [e.nd.val] M nx = some (.bool e.right, M, nx) := fun M nx => er_call ((add_other rfl).trans (add_same.trans (eI_of er_inj1 h)))
    have h2 : ∀ (M : Tr Blk) (nx : Nat), F8.sm 26 [e.nd.val] M nx = some (.bool e.large, M, nx) := fun M nx => er_call (add_same.trans (eI_of er_inj1 h))
    unfold Er.check
    cases hr : e.right with
    | false =>
      rw [hr] at h1
      exact PT.ends (envOf F8_ok) (Large.c1 e.nd) (h1 _ _) .same
    | true =>
      rw [hr] at h1
      cases hl : e.large with
      | true =>
        rw [hl] at h2
        exact PT.ends (envOf F8_ok) (Large.c2 e.nd) ⟨h1 _ _, h2 _ _⟩ .same
      | false =>
        rw [hl] at h2
        exact PT.ends (envOf F8_ok) (Large.c3 e.nd) ⟨h1 _ _, h2 _ _⟩ .same
#print axioms check_ok
end Go.Proofs.YtihloomkgpflmaaGreatDoor
