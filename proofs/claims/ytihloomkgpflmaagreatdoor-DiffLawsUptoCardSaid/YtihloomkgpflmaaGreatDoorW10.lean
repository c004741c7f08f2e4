/-
  surdlaw28.lawful: the error of a law of two trees, and its tree.
  The program's nat.trim, math/bits.Len64, nat.Length, diff.laws.
  diff.own: a tree in new memory is the same tree.
  diff.own answers the tree itself.
-/
import Derived.Test.YtihloomkgpflmaaGreatDoorW9
import Derived.Test.YtihloomkgpflmaaGreatDoorV13
set_option linter.unusedSimpArgs false
set_option linter.unusedVariables false
namespace Go.Proofs.YtihloomkgpflmaaGreatDoor
open Go.Proofs.YtihloomkgpflmaaGreatDoor.Vm
variable {tabs : List (Nat × List Value)}
/-- A tree that is not too large, so many steps up. -/
structure Up (k : Nat) (t : Er) : Prop where
  fine : Fine t
  high : t.high ≤ 1000 + k
  nodes : t.nodes + 1 ≤ 10000 * 2 ^ k
theorem Up.mono {t : Er} (h : Up 0 t) (k : Nat) : Up k t := by
  have h1 : 2 ^ 0 ≤ 2 ^ k := Nat.pow_le_pow_right (by omega) (by omega)
  have h2 : 10000 * 2 ^ 0 ≤ 10000 * 2 ^ k := Nat.mul_le_mul_left _ h1
  exact ⟨h.fine, by have := h.high; omega, Nat.le_trans h.nodes h2⟩
theorem num_nil : Num [] := ⟨fun x hx => (by cases hx), fun k hk => (by cases hk), Nat.zero_le _⟩
theorem num_one {k : Nat} (h0 : k ≠ 0) (h : k < 4294967296) : Num [k] := by
  refine ⟨fun x hx => ?_, fun j hj => ?_, by simp⟩
  · simp only [List.mem_cons, List.not_mem_nil, or_false] at hx
    subst hx; exact h
  · simp only [List.length_cons, List.length_nil] at hj
    have hj0 : j = 0 := by omega
    subst hj0
    exact h0
theorem Up.un {k : Nat} {o : Int} {a : Er} (h : Up k a) : Up (k + 1) (Er.un o a) := by
  refine ⟨.mk num_nil num_nil (fun x hx => (by simp only [List.mem_cons, List.not_mem_nil, or_false] at hx; subst hx; exact h.fine)), ?_, ?_⟩
  · have := h.high; simp [Er.un, Er.high, rhighL]; omega
  · have := h.nodes
    have hp : 0 < 2 ^ k := Nat.pow_pos (by omega)
    simp only [Er.un, Er.nodes, rnodesL, Nat.pow_succ]; omega
theorem Up.bin {k : Nat} {o : Int} {a b : Er} (h : Up k a) (g : Up k b) : Up (k + 1) (Er.bin o a b) := by
  refine ⟨.mk num_nil num_nil (fun x hx => (by simp only [List.mem_cons, List.not_mem_nil, or_false] at hx; rcases hx with rfl | rfl; exact h.fine; exact g.fine)), ?_, ?_⟩
  · have := h.high; have := g.high; simp [Er.bin, Er.high, rhighL]; omega
  · have := h.nodes; have := g.nodes
    simp only [Er.bin, Er.nodes, rnodesL, Nat.pow_succ]; omega
theorem Up.num1 (k : Nat) : Up k (Er.num 1) := Up.mono ⟨.mk (num_one (by omega) (by omega)) (num_one (by omega) (by omega)) (fun x hx => (by cases hx)), by decide, by decide⟩ k
theorem Up.num2 (k : Nat) : Up k (Er.num 2) := Up.mono ⟨.mk (num_one (by omega) (by omega)) (num_one (by omega) (by omega)) (fun x hx => (by cases hx)), by decide, by decide⟩ k
theorem Up.pi (k : Nat) : Up k Er.pi := Up.mono ⟨.mk num_nil num_nil (fun x hx => (by cases hx)), by decide, by decide⟩ k
theorem lawR_up {a b : Er} (ha : Up 0 a) (hb : Up 0 b) : ∀ i, i < 30 → Up 9 (lawR i a b)
  | 0, _ => by
    simp only [lawR]
    repeat first | exact ha.mono _ | exact hb.mono _ | exact Up.num1 _ | exact Up.num2 _ | exact Up.pi _ | apply Up.bin | apply Up.un
  | 1, _ => by
    simp only [lawR]
    repeat first | exact ha.mono _ | exact hb.mono _ | exact Up.num1 _ | exact Up.num2 _ | exact Up.pi _ | apply Up.bin | apply Up.un
  | 2, _ => by
    simp only [lawR]
    repeat first | exact ha.mono _ | exact hb.mono _ | exact Up.num1 _ | exact Up.num2 _ | exact Up.pi _ | apply Up.bin | apply Up.un
  | 3, _ => by
    simp only [lawR]
    repeat first | exact ha.mono _ | exact hb.mono _ | exact Up.num1 _ | exact Up.num2 _ | exact Up.pi _ | apply Up.bin | apply Up.un
  | 4, _ => by
    simp only [lawR]
    repeat first | exact ha.mono _ | exact hb.mono _ | exact Up.num1 _ | exact Up.num2 _ | exact Up.pi _ | apply Up.bin | apply Up.un
  | 5, _ => by
    simp only [lawR]
    repeat first | exact ha.mono _ | exact hb.mono _ | exact Up.num1 _ | exact Up.num2 _ | exact Up.pi _ | apply Up.bin | apply Up.un
  | 6, _ => by
    simp only [lawR]
    repeat first | exact ha.mono _ | exact hb.mono _ | exact Up.num1 _ | exact Up.num2 _ | exact Up.pi _ | apply Up.bin | apply Up.un
  | 7, _ => by
    simp only [lawR]
    repeat first | exact ha.mono _ | exact hb.mono _ | exact Up.num1 _ | exact Up.num2 _ | exact Up.pi _ | apply Up.bin | apply Up.un
  | 8, _ => by
    simp only [lawR]
    repeat first | exact ha.mono _ | exact hb.mono _ | exact Up.num1 _ | exact Up.num2 _ | exact Up.pi _ | apply Up.bin | apply Up.un
  | 9, _ => by
    simp only [lawR]
    repeat first | exact ha.mono _ | exact hb.mono _ | exact Up.num1 _ | exact Up.num2 _ | exact Up.pi _ | apply Up.bin | apply Up.un
  | 10, _ => by
    simp only [lawR]
    repeat first | exact ha.mono _ | exact hb.mono _ | exact Up.num1 _ | exact Up.num2 _ | exact Up.pi _ | apply Up.bin | apply Up.un
  | 11, _ => by
    simp only [lawR]
    repeat first | exact ha.mono _ | exact hb.mono _ | exact Up.num1 _ | exact Up.num2 _ | exact Up.pi _ | apply Up.bin | apply Up.un
  | 12, _ => by
    simp only [lawR]
    repeat first | exact ha.mono _ | exact hb.mono _ | exact Up.num1 _ | exact Up.num2 _ | exact Up.pi _ | apply Up.bin | apply Up.un
  | 13, _ => by
    simp only [lawR]
    repeat first | exact ha.mono _ | exact hb.mono _ | exact Up.num1 _ | exact Up.num2 _ | exact Up.pi _ | apply Up.bin | apply Up.un
  | 14, _ => by
    simp only [lawR]
    repeat first | exact ha.mono _ | exact hb.mono _ | exact Up.num1 _ | exact Up.num2 _ | exact Up.pi _ | apply Up.bin | apply Up.un
  | 15, _ => by
    simp only [lawR]
    repeat first | exact ha.mono _ | exact hb.mono _ | exact Up.num1 _ | exact Up.num2 _ | exact Up.pi _ | apply Up.bin | apply Up.un
  | 16, _ => by
    simp only [lawR]
    repeat first | exact ha.mono _ | exact hb.mono _ | exact Up.num1 _ | exact Up.num2 _ | exact Up.pi _ | apply Up.bin | apply Up.un
  | 17, _ => by
    simp only [lawR]
    repeat first | exact ha.mono _ | exact hb.mono _ | exact Up.num1 _ | exact Up.num2 _ | exact Up.pi _ | apply Up.bin | apply Up.un
  | 18, _ => by
    simp only [lawR]
    repeat first | exact ha.mono _ | exact hb.mono _ | exact Up.num1 _ | exact Up.num2 _ | exact Up.pi _ | apply Up.bin | apply Up.un
  | 19, _ => by
    simp only [lawR]
    repeat first | exact ha.mono _ | exact hb.mono _ | exact Up.num1 _ | exact Up.num2 _ | exact Up.pi _ | apply Up.bin | apply Up.un
  | 20, _ => by
    simp only [lawR]
    repeat first | exact ha.mono _ | exact hb.mono _ | exact Up.num1 _ | exact Up.num2 _ | exact Up.pi _ | apply Up.bin | apply Up.un
  | 21, _ => by
    simp only [lawR]
    repeat first | exact ha.mono _ | exact hb.mono _ | exact Up.num1 _ | exact Up.num2 _ | exact Up.pi _ | apply Up.bin | apply Up.un
  | 22, _ => by
    simp only [lawR]
    repeat first | exact ha.mono _ | exact hb.mono _ | exact Up.num1 _ | exact Up.num2 _ | exact Up.pi _ | apply Up.bin | apply Up.un
  | 23, _ => by
    simp only [lawR]
    repeat first | exact ha.mono _ | exact hb.mono _ | exact Up.num1 _ | exact Up.num2 _ | exact Up.pi _ | apply Up.bin | apply Up.un
  | 24, _ => by
    simp only [lawR]
    repeat first | exact ha.mono _ | exact hb.mono _ | exact Up.num1 _ | exact Up.num2 _ | exact Up.pi _ | apply Up.bin | apply Up.un
  | 25, _ => by
    simp only [lawR]
    repeat first | exact ha.mono _ | exact hb.mono _ | exact Up.num1 _ | exact Up.num2 _ | exact Up.pi _ | apply Up.bin | apply Up.un
  | 26, _ => by
    simp only [lawR]
    repeat first | exact ha.mono _ | exact hb.mono _ | exact Up.num1 _ | exact Up.num2 _ | exact Up.pi _ | apply Up.bin | apply Up.un
  | 27, _ => by
    simp only [lawR]
    repeat first | exact ha.mono _ | exact hb.mono _ | exact Up.num1 _ | exact Up.num2 _ | exact Up.pi _ | apply Up.bin | apply Up.un
  | 28, _ => by
    simp only [lawR]
    repeat first | exact ha.mono _ | exact hb.mono _ | exact Up.num1 _ | exact Up.num2 _ | exact Up.pi _ | apply Up.bin | apply Up.un
  | 29, _ => by
    simp only [lawR]
    repeat first | exact ha.mono _ | exact hb.mono _ | exact Up.num1 _ | exact Up.num2 _ | exact Up.pi _ | apply Up.bin | apply Up.un
  | n + 30, h => by omega
theorem Up.fair {t : Er} {k : Nat} (hk : k ≤ 9) (h : Up k t) : Fair t := by
  have h1 := h.nodes
  have h2 : 2 ^ k ≤ 2 ^ 9 := Nat.pow_le_pow_right (by omega) hk
  have h3 : 10000 * 2 ^ k ≤ 10000 * 2 ^ 9 := Nat.mul_le_mul_left _ h2
  have h4 : 10000 * 2 ^ 9 = 5120000 := rfl
  exact ⟨h.fine, by have := h.high; omega, by omega⟩
theorem check_small {t : Er} (h : Fair t) (hc : t.check = 0) : Up 0 t := by
  unfold Er.check at hc
  split at hc
  · split at hc
    · cases hc
    · rename_i hl
      simp only [Er.large, Bool.or_eq_true, decide_eq_true_eq, not_or] at hl
      exact ⟨h.fine, by omega, by have : 10000 * 2 ^ 0 = 10000 := rfl
                                  omega⟩
  · cases hc
def Er.zero : Er := .mk 0 false [] [] false []
/-- The tree and the error of a law of two trees. -/
def lawfulR (i : Int) (a b : Er) : Er × Nat :=
  if i < 0 ∨ 30 ≤ i then (Er.zero, 1) else if a.check ≠ 0 then (Er.zero, a.check) else if b.check ≠ 0 then (Er.zero, b.check) else (lawR i.toNat a b, (lawR i.toNat a b).check)
theorem bin_geq {z : Int} {w : Nat} {t : TypeId} {c : Bool} {b : Bool} (h : decide ((w : Int) ≤ z) = b) : aBin PP .geq t c (.int .i64 z) (i64 w) = some (.bool b) := by
  have h2 := bin_lss (z := z) (w := w) (t := t) (c := c) rfl
  rw [aBin_int (by simp) (by simp)] at h2 ⊢
  simp only [aInt, Option.some.injEq, Value.bool.injEq] at h2 ⊢
  rw [h2, ← h]
  by_cases hz : z < w
  · have : ¬ ((w : Int) ≤ z) := by omega
    simp [hz, this]
  · have : ((w : Int) ≤ z) := by omega
    simp [hz, this]
noncomputable def FL (i : Nat) : Known := (Known.none.add 14 (eI (fun x : Er => [x.nd.val]) Fair fun x => i64 x.check)).add 15 (eI (fun x : Er × Er => [i64 i, x.1.nd.val, x.2.nd.val]) (fun x => i < 30 ∧ x.1.high ≤ 400000 ∧ x.2.high ≤ 400000) fun x => (lawR i x.1 x.2).nd.val)
theorem FL_ok (i : Nat) : (FL i).Ok PP GG tabs := Known.add_ok (Known.add_ok Known.none_ok (eI_ok fun x h => check_ok h)) (eI_ok fun x h => lawR_ok h.2.1 h.2.2 i h.1)
theorem law_inj (i : Nat) : ∀ x y : Er × Er, [i64 i, x.1.nd.val, x.2.nd.val] = [i64 i, y.1.nd.val, y.2.nd.val] → x = y := by
  intro x y h
  simp only [List.cons.injEq, true_and, and_true] at h
  exact er_inj2 x y (by simp only [List.cons.injEq, and_true]; exact h)
theorem FL_check {i : Nat} {t : Er} (h : Fair t) {M : Tr Blk} {nx : Nat} : (FL i).sm 14 [t.nd.val] M nx = some (i64 t.check, M, nx) := er_call ((add_other rfl).trans (add_same.trans (eI_of er_inj1 h)))
theorem FL_law {i : Nat} {a b : Er} (hi : i < 30) (ha : a.high ≤ 400000) (hb : b.high ≤ 400000) {M : Tr Blk} {nx : Nat} : (FL i).sm 15 [i64 i, a.nd.val, b.nd.val] M nx = some ((lawR i a b).nd.val, M, nx) :=
  pureCall (by simp [frz_Rd, frz_int]) (by simp [offs_Rd, offs_int]) (add_same.trans (eI_of (x := (a, b)) (law_inj i) ⟨hi, ha, hb⟩))
namespace Lawful
abbrev zE : List Value := [i64 0, .bool false, .slice none 0 0, .slice none 0 0, .bool false, .slice none 0 0]
theorem q1 (i : Int) (a b : Rd) : ends PP XX GG 9 (door PP 6 [.int .i64 i, a.val, b.val] .nil GG) [.go, .go, .go, .go, .go, .val (.bool true)] [6, 7] [4 + 2] = some (.tuple ⟨[.agg ⟨zE⟩, i64 1]⟩, mkM [(4 + 2, .cells false zE)], [.bin .lss 3 true (.int .i64 i) (i64 0) (.bool true)]) := by kernel_rfl
theorem q2 (i : Int) (a b : Rd) : ends PP XX GG 9 (door PP 6 [.int .i64 i, a.val, b.val] .nil GG) [.go, .go, .go, .go, .go, .val (.bool false), .go, .go, .val (.bool true)] [6, 7] [4 + 2] = some (.tuple ⟨[.agg ⟨zE⟩, i64 1]⟩, mkM [(4 + 2, .cells false zE)], [.bin .lss 3 true (.int .i64 i) (i64 0) (.bool false), .bin .geq 3 true (.int .i64 i) (i64 30) (.bool true)]) := by kernel_rfl
theorem q3 (i c : Nat) (a b : Rd) : ends PP XX GG 21 (door PP 6 [i64 i, a.val, b.val] .nil GG) [.go, .go, .go, .go, .go, .val (.bool false), .go, .go, .val (.bool false), .go, .go, .pure (i64 c), .go, .go, .val (.bool false), .go, .val (.bool true)] [6, 7] [4 + 2] = some (.tuple ⟨[.agg ⟨zE⟩, i64 c]⟩, mkM [(4 + 2, .cells false zE)], [.bin .lss 3 true (i64 i) (i64 0) (.bool false), .bin .geq 3 true (i64 i) (i64 30) (.bool false), .call 14 [a.val] (mkM [(4, .cells false a.cells), (5, .cells false b.cells), (6, .cells false [i64 0, .bool false, .slice none 0 0, .slice none 0 0, .bool false, .slice none 0 0])]) 7 (i64 c) (mkM [(4, .cells false a.cells), (5, .cells false b.cells), (6, .cells false [i64 0, .bool false, .slice none 0 0, .slice none 0 0, .bool false, .slice none 0 0])]) 7, .bin .eql 3 true (i64 c) (i64 0) (.bool false), .bin .neq 3 true (i64 c) (i64 0) (.bool true)]) := by kernel_rfl
theorem q4 (i c c2 : Nat) (a b : Rd) : ends PP XX GG 21 (door PP 6 [i64 i, a.val, b.val] .nil GG) [.go, .go, .go, .go, .go, .val (.bool false), .go, .go, .val (.bool false), .go, .go, .pure (i64 c), .go, .go, .val (.bool true), .go, .pure (i64 c2), .go, .go, .val (.bool true)] [6, 7] [4 + 2] = some (.tuple ⟨[.agg ⟨zE⟩, i64 c2]⟩, mkM [(4 + 2, .cells false zE)], [.bin .lss 3 true (i64 i) (i64 0) (.bool false), .bin .geq 3 true (i64 i) (i64 30) (.bool false), .call 14 [a.val] (mkM [(4, .cells false a.cells), (5, .cells false b.cells), (6, .cells false [i64 0, .bool false, .slice none 0 0, .slice none 0 0, .bool false, .slice none 0 0])]) 7 (i64 c) (mkM [(4, .cells false a.cells), (5, .cells false b.cells), (6, .cells false [i64 0, .bool false, .slice none 0 0, .slice none 0 0, .bool false, .slice none 0 0])]) 7, .bin .eql 3 true (i64 c) (i64 0) (.bool true), .call 14 [b.val] (mkM [(4, .cells false a.cells), (5, .cells false b.cells), (6, .cells false [i64 0, .bool false, .slice none 0 0, .slice none 0 0, .bool false, .slice none 0 0])]) 7 (i64 c2) (mkM [(4, .cells false a.cells), (5, .cells false b.cells), (6, .cells false [i64 0, .bool false, .slice none 0 0, .slice none 0 0, .bool false, .slice none 0 0])]) 7, .bin .neq 3 true (i64 c2) (i64 0) (.bool true)]) := by kernel_rfl
theorem q5 (i c c2 c3 : Nat) (a b t : Rd) : ends PP XX GG 24 (door PP 6 [i64 i, a.val, b.val] .nil GG) [.go, .go, .go, .go, .go, .val (.bool false), .go, .go, .val (.bool false), .go, .go, .pure (i64 c), .go, .go, .val (.bool true), .go, .pure (i64 c2), .go, .go, .val (.bool false), .go, .go, .go, .pure t.val, .go, .go, .go, .go, .pure (i64 c3), .go, .go] [6, 7] [4 + 2] = some (.tuple ⟨[t.val, i64 c3]⟩, mkM [(4 + 2, .cells false t.cells)], [.bin .lss 3 true (i64 i) (i64 0) (.bool false), .bin .geq 3 true (i64 i) (i64 30) (.bool false), .call 14 [a.val] (mkM [(4, .cells false a.cells), (5, .cells false b.cells), (6, .cells false [i64 0, .bool false, .slice none 0 0, .slice none 0 0, .bool false, .slice none 0 0])]) 7 (i64 c) (mkM [(4, .cells false a.cells), (5, .cells false b.cells), (6, .cells false [i64 0, .bool false, .slice none 0 0, .slice none 0 0, .bool false, .slice none 0 0])]) 7, .bin .eql 3 true (i64 c) (i64 0) (.bool true), .call 14 [b.val] (mkM [(4, .cells false a.cells), (5, .cells false b.cells), (6, .cells false [i64 0, .bool false, .slice none 0 0, .slice none 0 0, .bool false, .slice none 0 0])]) 7 (i64 c2) (mkM [(4, .cells false a.cells), (5, .cells false b.cells), (6, .cells false [i64 0, .bool false, .slice none 0 0, .slice none 0 0, .bool false, .slice none 0 0])]) 7, .bin .neq 3 true (i64 c2) (i64 0) (.bool false), .call 15 [i64 i, a.val, b.val] (mkM [(4, .cells false a.cells), (5, .cells false b.cells), (6, .cells false [i64 0, .bool false, .slice none 0 0, .slice none 0 0, .bool false, .slice none 0 0])]) 7 (t.val) (mkM [(4, .cells false a.cells), (5, .cells false b.cells), (6, .cells false [i64 0, .bool false, .slice none 0 0, .slice none 0 0, .bool false, .slice none 0 0])]) 7, .nice (t.val), .nice (t.val), .call 14 [t.val] (mkM [(4, .cells false a.cells), (5, .cells false b.cells), (6, .cells false [i64 0, .bool false, .slice none 0 0, .slice none 0 0, .bool false, .slice none 0 0]), (7, .cells false t.cells)]) 8 (i64 c3) (mkM [(4, .cells false a.cells), (5, .cells false b.cells), (6, .cells false [i64 0, .bool false, .slice none 0 0, .slice none 0 0, .bool false, .slice none 0 0]), (7, .cells false t.cells)]) 8]) := by kernel_rfl
theorem zfrz (M : Tr Blk) (c : Nat) : Frz M .nil (.tuple ⟨[.agg ⟨zE⟩, i64 c]⟩) (.tuple ⟨[Er.zero.nd.val, i64 c]⟩) := .tuple (.cons (.agg (.cons .same (.cons .same (.cons .nil (.cons .nil (.cons .same (.cons .nil .nil))))))) (.cons .same .nil))
end Lawful
theorem nl_pair {v : Value} {c : Int} (h : Nl v) : Nl (.tuple ⟨[v, .int .i64 c]⟩) := by
  obtain ⟨n, hn⟩ := h
  cases n with
  | zero => cases hn
  | succ n =>
    have h2 : nl (n + 1) (.int .i64 c) = true := rfl
    exact ⟨n + 2, by
      show ([v, Value.int .i64 c]).all (nl (n + 1)) = true
      simp only [List.all_cons, List.all_nil, hn, h2, Bool.and_self]⟩
theorem lawful_ok {i : Int} {a b : Er} (ha : Fair a) (hb : Fair b) : PureOk PP GG tabs 6 [.int .i64 i, a.nd.val, b.nd.val] (.tuple ⟨[(lawfulR i a b).1.nd.val, i64 (lawfulR i a b).2]⟩) := by
  refine PureOk.of' ?_ (nl_pair (Er.nl _)) (by kernel_rfl) ?_
  · intro x hx
    simp only [List.mem_cons, List.not_mem_nil, or_false] at hx
    rcases hx with rfl | rfl | rfl
    · exact nl_int
    · exact Er.nl _
    · exact Er.nl _
  · unfold lawfulR
    by_cases h0 : i < 0 ∨ 30 ≤ i
    · rw [if_pos h0]
      by_cases h1 : i < 0
      · exact PT.ends (envOf Known.none_ok) (Lawful.q1 i a.nd b.nd) (bin_lss (w := 0) (decide_eq_true h1)) (Lawful.zfrz _ _)
      · exact PT.ends (envOf Known.none_ok) (Lawful.q2 i a.nd b.nd) ⟨bin_lss (w := 0) (decide_eq_false h1), bin_geq (w := 30) (decide_eq_true (by omega))⟩ (Lawful.zfrz _ _)
    · rw [if_neg h0]
      obtain ⟨k, rfl⟩ : ∃ k : Nat, i = k := ⟨i.toNat, by omega⟩
      have hk : k < 30 := by omega
      have hz : aBin PP .lss 3 true (i64 k) (i64 0) = some (.bool false) := lss_f (Nat.zero_le _)
      have hz2 : aBin PP .geq 3 true (i64 k) (i64 30) = some (.bool false) := geq_f hk
      by_cases ha0 : a.check = 0
      · by_cases hb0 : b.check = 0
        · rw [if_neg (fun h => h ha0), if_neg (fun h => h hb0)]
          have hu := lawR_up (check_small ha ha0) (check_small hb hb0) k hk
          have hf := hu.fair (by omega)
          have hn := okV_nice (n := 2 * (lawR k a b).high + 4) (by have := hu.high; omega) (lawR k a b).ok
          exact PT.ends (envOf (FL_ok k)) (Lawful.q5 k a.check b.check (lawR k a b).check a.nd b.nd (lawR k a b).nd) ⟨hz, hz2, FL_check ha, eql_t ha0, FL_check hb, bin_neq (decide_eq_false (by rw [hb0]; simp)), FL_law hk ha.high hb.high, hn, hn, FL_check hf⟩ .same
        · rw [if_neg (fun h => h ha0), if_pos hb0]
          exact PT.ends (envOf (FL_ok k)) (Lawful.q4 k a.check b.check a.nd b.nd) ⟨hz, hz2, FL_check ha, eql_t ha0, FL_check hb, bin_neq (decide_eq_true (fun h => hb0 (Int.ofNat.inj h)))⟩ (Lawful.zfrz _ _)
      · rw [if_pos ha0]
        exact PT.ends (envOf (FL_ok k)) (Lawful.q3 k a.check a.nd b.nd) ⟨hz, hz2, FL_check ha, eql_f ha0, bin_neq (decide_eq_true (fun h => ha0 (Int.ofNat.inj h)))⟩ (Lawful.zfrz _ _)
end Go.Proofs.YtihloomkgpflmaaGreatDoor

namespace Go.Proofs.YtihloomkgpflmaaGreatDoor
open Go.Proofs.YtihloomkgpflmaaGreatDoor.Vm
variable {tabs : List (Nat × List Value)}
theorem uNat : PP.underlying 24 = some (.slice 59) := by kernel_rfl
theorem slice_dat {P : Program} {t e : TypeId} {n k : Nat} {j : IntKind} {cs : List Value} (ht : P.underlying t = some (.slice e)) (hs : aSize P e = some 1) (hk : k ≤ n) : aSlice P t (mkDat n cs) none (some (.int j (.ofNat k))) = some (mkDat k cs) := by
  have h1 : Nat.ble k n = true := by rw [Nat.ble_eq]; exact hk
  simp [aSlice, ht, hs, datOf, h1, bnd]
namespace Trim
noncomputable def frH (l : List Nat) (k : Nat) : Fr := { onto PP XX GG 5 (door PP 120 [natV []] .nil GG) [] with T := mkT [(0, mkDat k (l.map u64))], M := .nil }
theorem q0 (l : List Nat) : walk PP XX GG 5 (door PP 120 [natV l] .nil GG) [] [0] [] = some (frH l l.length, []) := by kernel_rfl
theorem q1 (l : List Nat) (k x : Nat) : walk PP XX GG 9 (frH l k) [.go, .go, .val (.bool true), .go, .go, .go, .go, .val (i64 (k-1)), .val (mkPtr ((l.map u64).drop (k-1))), .val (u64 x), .val (.bool true), .go, .go, .go, .go, .val (i64 (k-1)), .val (mkDat (k-1) (l.map u64)), .go] [0] [] = some (frH l (k-1), [.bin .gtr 3 true (i64 k) (i64 0) (.bool true), .bin .sub 3 true (i64 k) (i64 1) (i64 (k - 1)), .idxA 24 (mkDat k (List.map u64 l)) (i64 (k - 1)) (mkPtr (List.drop (k - 1) (List.map u64 l))), .load (mkM []) 59 (mkPtr (List.drop (k - 1) (List.map u64 l))) (u64 x), .bin .eql 59 true (u64 x) (u64 0) (.bool true), .bin .sub 3 true (i64 k) (i64 1) (i64 (k - 1)), .slice 24 (mkDat k (List.map u64 l)) none (some (i64 (k - 1))) (mkDat (k - 1) (List.map u64 l))]) := by kernel_rfl
theorem q2 (l : List Nat) (k x : Nat) : ends PP XX GG 8 (frH l k) [.go, .go, .val (.bool true), .go, .go, .go, .go, .val (i64 (k-1)), .val (mkPtr ((l.map u64).drop (k-1))), .val (u64 x), .val (.bool false), .go, .go, .go] [2] [] = some (mkDat k (l.map u64), mkM [], [.bin .gtr 3 true (i64 k) (i64 0) (.bool true), .bin .sub 3 true (i64 k) (i64 1) (i64 (k - 1)), .idxA 24 (mkDat k (List.map u64 l)) (i64 (k - 1)) (mkPtr (List.drop (k - 1) (List.map u64 l))), .load (mkM []) 59 (mkPtr (List.drop (k - 1) (List.map u64 l))) (u64 x), .bin .eql 59 true (u64 x) (u64 0) (.bool false)]) := by kernel_rfl
theorem q3 (l : List Nat) (k : Nat) : ends PP XX GG 8 (frH l k) [.go, .go, .val (.bool false), .go, .go, .go, .go] [2] [] = some (mkDat k (l.map u64), mkM [], [.bin .gtr 3 true (i64 k) (i64 0) (.bool false)]) := by kernel_rfl
theorem cutF (l : List Nat) (k : Nat) (hk : k ≤ l.length) (M : Tr Blk) : Frz M .nil (mkDat k (l.map u64)) (natV (l.take k)) := by
  have : natV (l.take k) = mkDat k ((l.map u64).take k) := by simp [natV, List.map_take, hk]
  rw [this]
  exact Frz.cut _ _ k
theorem head_ok (l : List Nat) (hb : l.length < 9223372036854775808) : ∀ k, k ≤ l.length → PT PP GG tabs (frH l k) (natV (l.take (top l k)))
  | 0, _ => PT.ends (envOf Known.none_ok) (q3 l 0) (gtr_f (by omega)) (cutF l 0 (by omega) _)
  | k + 1, hk => by
    obtain ⟨x, hx⟩ : ∃ x, l[k]? = some x := ⟨l[k], by simp⟩
    have hx' : ((l.map u64).drop k)[0]? = some (u64 x) := by simp [hx]
    unfold top
    by_cases h0 : x = 0
    · subst h0
      rw [if_pos hx]
      exact PT.walk (envOf Known.none_ok) (q1 l (k + 1) 0) ⟨gtr_t (by omega), sub_i64 (by omega) (by omega), idx_dat uNat sU64 (by omega), load_ptr gU64 hx', eql_t rfl, sub_i64 (by omega) (by omega), slice_dat uNat sU64 (by omega)⟩ (head_ok l hb k (by omega))
    · rw [if_neg (by rw [hx]; simpa using h0)]
      exact PT.ends (envOf Known.none_ok) (q2 l (k + 1) x) ⟨gtr_t (by omega), sub_i64 (by omega) (by omega), idx_dat uNat sU64 (by omega), load_ptr gU64 hx', eql_f h0⟩ (cutF l (k + 1) hk _)
end Trim
theorem trim_ok (l : List Nat) (hb : l.length < 9223372036854775808) : PureOk PP GG tabs 120 [natV l] (natV (norm l)) := by
  refine PureOk.of' ?_ (nl_nat _) (by kernel_rfl) (PT.walk (envOf Known.none_ok) (Trim.q0 l) trivial (Trim.head_ok l hb _ (Nat.le_refl _)))
  intro x hx; simp at hx; subst hx; exact nl_nat l

/-! ### Len64 -/
def len8 : ByteArray := ⟨#[0, 1, 2, 2, 3, 3, 3, 3, 4, 4, 4, 4, 4, 4, 4, 4, 5, 5, 5, 5, 5, 5, 5, 5, 5, 5, 5, 5, 5, 5, 5, 5, 6, 6, 6, 6, 6, 6, 6, 6, 6, 6, 6, 6, 6, 6, 6, 6, 6, 6, 6, 6, 6, 6, 6, 6, 6, 6, 6, 6, 6, 6, 6, 6, 7, 7, 7, 7, 7, 7, 7, 7, 7, 7, 7, 7, 7, 7, 7, 7, 7, 7, 7, 7, 7, 7, 7, 7, 7, 7, 7, 7, 7, 7, 7, 7, 7, 7, 7, 7, 7, 7, 7, 7, 7, 7, 7, 7, 7, 7, 7, 7, 7, 7, 7, 7, 7, 7, 7, 7, 7, 7, 7, 7, 7, 7, 7, 7, 8, 8, 8, 8, 8, 8, 8, 8, 8, 8, 8, 8, 8, 8, 8, 8, 8, 8, 8, 8, 8, 8, 8, 8, 8, 8, 8, 8, 8, 8, 8, 8, 8, 8, 8, 8, 8, 8, 8, 8, 8, 8, 8, 8, 8, 8, 8, 8, 8, 8, 8, 8, 8, 8, 8, 8, 8, 8, 8, 8, 8, 8, 8, 8, 8, 8, 8, 8, 8, 8, 8, 8, 8, 8, 8, 8, 8, 8, 8, 8, 8, 8, 8, 8, 8, 8, 8, 8, 8, 8, 8, 8, 8, 8, 8, 8, 8, 8, 8, 8, 8, 8, 8, 8, 8, 8, 8, 8, 8, 8, 8, 8, 8, 8, 8, 8, 8, 8, 8, 8, 8, 8, 8, 8, 8, 8, 8, 8]⟩
theorem shr_u64 {t : TypeId} {c : Bool} {x r : Nat} (hr : r ≤ 64) (h : x < 18446744073709551616) : aBin PP .shr t c (u64 x) (u64 r) = some (u64 (x / 2 ^ r)) := by
  have h1 : Nat.ble r IntKind.u64.bits = true := by rw [Nat.ble_eq]; exact hr
  have h3 : x / 2 ^ r < 18446744073709551616 := Nat.lt_of_le_of_lt (Nat.div_le_self _ _) h
  show aShift .shr .u64 (Int.ofNat x) (Int.ofNat r) = _
  have h2 : Int.fdiv (Int.ofNat x) (pow2 r) = Int.ofNat (x / 2 ^ r) := by
    show Int.fdiv (x : Int) ((2 ^ r : Nat) : Int) = ((x / 2 ^ r : Nat) : Int)
    rw [Int.fdiv_eq_ediv_of_nonneg _ (Int.natCast_nonneg _)]
    rfl
  simp only [aShift, h1, cond_true, h2]
theorem geq_n {x y : Nat} {t : TypeId} {c b : Bool} (h : decide (y ≤ x) = b) : aBin PP .geq t c (u64 x) (u64 y) = some (.bool b) := by
  subst h
  by_cases hx : y ≤ x
  · rw [decide_eq_true hx]; exact geq_t hx
  · rw [decide_eq_false hx]; exact geq_f (by omega)
theorem tab_ok : (List.range 256).all (fun x => match aIndex PP 9 (.string len8) (.int .u8 (.ofNat x)) with
  | some (.int .u8 z) => decide (z = .ofNat (bitsN x))
  | _ => false) = true := by kernel_rfl
theorem tab_of {x : Nat} (h : x < 256) : aIndex PP 9 (.string len8) (.int .u8 (.ofNat x)) = some (.int .u8 (.ofNat (bitsN x))) := by
  have h1 := List.all_eq_true.1 tab_ok x (List.mem_range.2 h)
  split at h1
  · rename_i z hz
    have h2 := of_decide_eq_true h1
    subst h2
    exact hz
  · cases h1
theorem conv_u8 {x : Nat} (h : x < 256) : aConv PP 59 5 (u64 x) = some (.int .u8 (.ofNat x)) := by
  have h1 := List.all_eq_true.1 (show (List.range 256).all (fun x => match aConv PP 59 5 (u64 x) with
    | some (.int .u8 z) => decide (z = .ofNat x)
    | _ => false) = true by kernel_rfl) x (List.mem_range.2 h)
  split at h1
  · rename_i z hz
    have h2 := of_decide_eq_true h1
    subst h2
    exact hz
  · cases h1
theorem conv_8 {x : Nat} (h : x < 256) : aConv PP 5 3 (.int .u8 (.ofNat x)) = some (i64 x) := by
  have h1 := List.all_eq_true.1 (show (List.range 256).all (fun x => match aConv PP 5 3 (.int .u8 (.ofNat x)) with
    | some (.int .i64 z) => decide (z = .ofNat x)
    | _ => false) = true by kernel_rfl) x (List.mem_range.2 h)
  split at h1
  · rename_i z hz
    have h2 := of_decide_eq_true h1
    subst h2
    exact hz
  · cases h1
namespace Len64
noncomputable def fr2 (x m : Nat) : Fr := { onto PP XX GG 9 (door PP 136 [u64 0] .nil GG) [.go, .go, .val (.bool false)] with T := mkT [(0, u64 x), (2, i64 m)], M := .nil }
noncomputable def fr3 (x m : Nat) : Fr := { onto PP XX GG 5 (fr2 0 0) [.go, .val (.bool false)] with T := mkT [(0, u64 x), (2, i64 m)], M := .nil }
noncomputable def fr4 (x m : Nat) : Fr := { onto PP XX GG 4 (fr3 0 0) [.go, .val (.bool false)] with T := mkT [(0, u64 x), (2, i64 m)], M := .nil }
theorem a1 (x y : Nat) : walk PP XX GG 11 (door PP 136 [u64 x] .nil GG) [.go, .go, .val (.bool true), .go, .val (u64 y), .go, .go] [0, 2] [] = some (fr2 y 32, [.bin .geq 59 true (u64 x) (u64 4294967296) (.bool true), .bin .shr 59 true (u64 x) (u64 32) (u64 y)]) := by kernel_rfl
theorem a2 (x : Nat) : walk PP XX GG 9 (door PP 136 [u64 x] .nil GG) [.go, .go, .val (.bool false)] [0, 2] [] = some (fr2 x 0, [.bin .geq 59 true (u64 x) (u64 4294967296) (.bool false)]) := by kernel_rfl
theorem b1 (x m y m2 : Nat) : walk PP XX GG 7 (fr2 x m) [.go, .val (.bool true), .go, .val (u64 y), .go, .go, .val (i64 m2), .go] [0, 2] [] = some (fr3 y m2, [.bin .geq 59 true (u64 x) (u64 65536) (.bool true), .bin .shr 59 true (u64 x) (u64 16) (u64 y), .bin .add 3 true (i64 m) (i64 16) (i64 m2)]) := by kernel_rfl
theorem b2 (x m : Nat) : walk PP XX GG 5 (fr2 x m) [.go, .val (.bool false)] [0, 2] [] = some (fr3 x m, [.bin .geq 59 true (u64 x) (u64 65536) (.bool false)]) := by kernel_rfl
theorem c1 (x m y m2 : Nat) : walk PP XX GG 6 (fr3 x m) [.go, .val (.bool true), .go, .val (u64 y), .go, .go, .val (i64 m2), .go] [0, 2] [] = some (fr4 y m2, [.bin .geq 59 true (u64 x) (u64 256) (.bool true), .bin .shr 59 true (u64 x) (u64 8) (u64 y), .bin .add 3 true (i64 m) (i64 8) (i64 m2)]) := by kernel_rfl
theorem c2 (x m : Nat) : walk PP XX GG 4 (fr3 x m) [.go, .val (.bool false)] [0, 2] [] = some (fr4 x m, [.bin .geq 59 true (u64 x) (u64 256) (.bool false)]) := by kernel_rfl
theorem d1 (x m t r : Nat) : ends PP XX GG 2 (fr4 x m) [.go, .go, .val (.int .u8 (.ofNat x)), .val (.int .u8 (.ofNat t)), .val (i64 t), .val (i64 r), .go] [2] [] = some (i64 r, mkM [], [.conv 59 5 (u64 x) (.int .u8 (.ofNat x)), .idx 9 (.string len8) (.int .u8 (.ofNat x)) (.int .u8 (.ofNat t)), .conv 5 3 (.int .u8 (.ofNat t)) (i64 t), .bin .add 3 false (i64 m) (i64 t) (i64 r)]) := by kernel_rfl
theorem bits8 {x : Nat} (h : x < 256) : bitsN x ≤ 8 ∧ (0 < x → 0 < bitsN x) := by
  have h2 : bitsN x = bitsF 8 x := by
    unfold bitsN
    exact bitsF_of 8 56 x (by have : (2 : Nat) ^ 8 = 256 := rfl
                              omega)
  refine ⟨by rw [h2]; exact bits_le 8 x, fun h0 => ?_⟩
  rw [h2]
  unfold bitsF
  rw [if_neg (by omega)]
  omega
theorem d_ok {x m : Nat} (h : x < 256) (hm : m ≤ 56) : PT PP GG tabs (fr4 x m) (i64 (m + bitsN x)) := by
  have h8 := (bits8 h).1
  exact PT.ends (envOf Known.none_ok) (d1 x m (bitsN x) (m + bitsN x)) ⟨conv_u8 h, tab_of h, conv_8 (by omega), add_i64 (by omega)⟩ .same
def s3 (x m : Nat) : Nat := if 256 ≤ x then m + 8 + bitsN (x / 2 ^ 8) else m + bitsN x
def s2 (x m : Nat) : Nat := if 65536 ≤ x then s3 (x / 2 ^ 16) (m + 16) else s3 x m
def s1 (x : Nat) : Nat := if 4294967296 ≤ x then s2 (x / 2 ^ 32) 32 else s2 x 0
theorem c_ok {x m : Nat} (h : x < 65536) (hm : m ≤ 48) : PT PP GG tabs (fr3 x m) (i64 (s3 x m)) := by
  unfold s3
  by_cases hx : 256 ≤ x
  · rw [if_pos hx]
    have e : x / 2 ^ 8 = x / 256 := rfl
    exact PT.walk (envOf Known.none_ok) (c1 x m (x / 2 ^ 8) (m + 8)) ⟨geq_n (decide_eq_true hx), shr_u64 (by omega) (by omega), add_i64 (by omega)⟩ (d_ok (by rw [e]; omega) (by omega))
  · rw [if_neg hx]
    exact PT.walk (envOf Known.none_ok) (c2 x m) (geq_n (decide_eq_false hx)) (d_ok (by omega) (by omega))
theorem b_ok {x m : Nat} (h : x < 4294967296) (hm : m ≤ 32) : PT PP GG tabs (fr2 x m) (i64 (s2 x m)) := by
  unfold s2
  by_cases hx : 65536 ≤ x
  · rw [if_pos hx]
    have e : x / 2 ^ 16 = x / 65536 := rfl
    exact PT.walk (envOf Known.none_ok) (b1 x m (x / 2 ^ 16) (m + 16)) ⟨geq_n (decide_eq_true hx), shr_u64 (by omega) (by omega), add_i64 (by omega)⟩ (c_ok (by rw [e]; omega) (by omega))
  · rw [if_neg hx]
    exact PT.walk (envOf Known.none_ok) (b2 x m) (geq_n (decide_eq_false hx)) (c_ok (by omega) (by omega))
theorem s3_spec {x m : Nat} (h : x < 65536) : s3 x m ≤ m + 16 ∧ (0 < x → 0 < s3 x m) := by
  unfold s3
  have e : x / 2 ^ 8 = x / 256 := rfl
  split
  · have := bits8 (x := x / 2 ^ 8) (by rw [e]; omega); omega
  · have := bits8 (x := x) (by omega)
    exact ⟨by omega, fun h => by have := this.2 h; omega⟩
theorem s2_spec {x m : Nat} (h : x < 4294967296) : s2 x m ≤ m + 32 ∧ (0 < x → 0 < s2 x m) := by
  unfold s2
  have e : x / 2 ^ 16 = x / 65536 := rfl
  split
  · have := s3_spec (x := x / 2 ^ 16) (m := m + 16) (by rw [e]; omega)
    exact ⟨by omega, fun h => this.2 (by rw [e]; omega)⟩
  · have := s3_spec (x := x) (m := m) (by omega)
    exact ⟨by omega, this.2⟩
theorem s1_spec {x : Nat} (h : x < 18446744073709551616) : s1 x ≤ 64 ∧ (0 < x → 0 < s1 x) := by
  unfold s1
  have e : x / 2 ^ 32 = x / 4294967296 := rfl
  split
  · have := s2_spec (x := x / 2 ^ 32) (m := 32) (by rw [e]; omega)
    exact ⟨by omega, fun h => this.2 (by rw [e]; omega)⟩
  · have := s2_spec (x := x) (m := 0) (by omega)
    exact ⟨by omega, this.2⟩
end Len64
theorem len64_ok {x : Nat} (h : x < 18446744073709551616) : PureOk PP GG tabs 136 [u64 x] (i64 (Len64.s1 x)) := by
  refine PureOk.of' ?_ nl_int (by kernel_rfl) ?_
  · intro y hy
    simp only [List.mem_cons, List.not_mem_nil, or_false] at hy
    subst hy; exact nl_int
  · unfold Len64.s1
    by_cases hx : 4294967296 ≤ x
    · rw [if_pos hx]
      have e : x / 2 ^ 32 = x / 4294967296 := rfl
      exact PT.walk (envOf Known.none_ok) (Len64.a1 x (x / 2 ^ 32)) ⟨geq_n (decide_eq_true hx), shr_u64 (by omega) h⟩ (Len64.b_ok (by rw [e]; omega) (by omega))
    · rw [if_neg hx]
      exact PT.walk (envOf Known.none_ok) (Len64.a2 x) (geq_n (decide_eq_false hx)) (Len64.b_ok (by omega) (by omega))

/-! ### Length -/
def lenP (l : List Nat) : Nat := if (norm l).length = 0 then 0 else 64 * ((norm l).length - 1) + Len64.s1 (dig (norm l) ((norm l).length - 1))
noncomputable def FN : Known := (Known.none.add 120 (eI (fun x : List Nat => [natV x]) (fun x => x.length < 9223372036854775808) fun x => natV (norm x))).add 136 (eI (fun x : Nat => [u64 x]) (fun x => x < 18446744073709551616) fun x => i64 (Len64.s1 x))
theorem FN_ok : FN.Ok PP GG tabs := Known.add_ok (Known.add_ok Known.none_ok (eI_ok fun x h => trim_ok x h)) (eI_ok fun x h => len64_ok h)
theorem FN_trim {l : List Nat} (h : l.length < 9223372036854775808) {M : Tr Blk} {nx : Nat} : FN.sm 120 [natV l] M nx = some (natV (norm l), M, nx) := pureN ((add_other rfl).trans (add_same.trans (eI_of one_inj h)))
theorem FN_len {x : Nat} (h : x < 18446744073709551616) {M : Tr Blk} {nx : Nat} : FN.sm 136 [u64 x] M nx = some (i64 (Len64.s1 x), M, nx) :=
  pureCall (by simp [frz_int]) (by simp [offs_int]) (add_same.trans (eI_of (fun x y h => by simp only [List.cons.injEq, Value.int.injEq, and_true, true_and] at h; exact Int.ofNat.inj h) h))
namespace Length
theorem q1 (l r : List Nat) : ends PP XX GG 11 (door PP 116 [natV l] .nil GG) [.go, .go, .pure (natV r), .go, .go, .go, .val (.bool true)] [2] [] = some (i64 0, mkM [], [.call 120 [natV l] (mkM []) 4 (natV r) (mkM []) 4, .bin .eql 3 true (i64 r.length) (i64 0) (.bool true)]) := by kernel_rfl
theorem q2 (l r : List Nat) (a b x t z : Nat) : ends PP XX GG 12 (door PP 116 [natV l] .nil GG) [.go, .go, .pure (natV r), .go, .go, .go, .val (.bool false), .go, .go, .val (i64 a), .val (i64 b), .go, .go, .go, .val (i64 a), .val (mkPtr ((r.map u64).drop a)), .val (u64 x), .pure (i64 t), .val (i64 z), .go] [2] [] = some (i64 z, mkM [], [.call 120 [natV l] (mkM []) 4 (natV r) (mkM []) 4, .bin .eql 3 true (i64 r.length) (i64 0) (.bool false), .bin .sub 3 true (i64 r.length) (i64 1) (i64 a), .bin .mul 3 true (i64 64) (i64 a) (i64 b), .bin .sub 3 true (i64 r.length) (i64 1) (i64 a), .idxA 24 (natV r) (i64 a) (mkPtr (List.drop a (List.map u64 r))), .load (mkM []) 59 (mkPtr (List.drop a (List.map u64 r))) (u64 x), .call 136 [u64 x] (mkM []) 4 (i64 t) (mkM []) 4, .bin .add 3 false (i64 b) (i64 t) (i64 z)]) := by kernel_rfl
end Length
theorem dig_mem {l : List Nat} {i : Nat} (h : i < l.length) : dig l i ∈ l := by
  unfold dig; rw [List.getElem?_eq_getElem h]; simp
theorem norm_mem {l : List Nat} {x : Nat} (h : x ∈ norm l) : x ∈ l := List.mem_of_mem_take h
theorem length_ok {l : List Nat} (hd : ∀ x ∈ l, x < 18446744073709551616) (hl : l.length ≤ 1048576) : PureOk PP GG tabs 116 [natV l] (i64 (lenP l)) := by
  refine PureOk.of' ?_ nl_int (by kernel_rfl) ?_
  · intro y hy
    simp only [List.mem_cons, List.not_mem_nil, or_false] at hy
    subst hy; exact nl_nat _
  · have hn := norm_length l
    unfold lenP
    by_cases h0 : (norm l).length = 0
    · rw [if_pos h0]
      exact PT.ends (envOf FN_ok) (Length.q1 l (norm l)) ⟨FN_trim (by omega), eql_t h0⟩ .same
    · rw [if_neg h0]
      have hx := hd _ (norm_mem (dig_mem (l := norm l) (i := (norm l).length - 1) (by omega)))
      have hs := (Len64.s1_spec hx).1
      exact PT.ends (envOf FN_ok) (Length.q2 l (norm l) ((norm l).length - 1) (64 * ((norm l).length - 1)) (dig (norm l) ((norm l).length - 1)) _ _) ⟨FN_trim (by omega), eql_f h0, sub_i64 (by omega) (by omega), mul_i64 (by omega), sub_i64 (by omega) (by omega), idx_dat uNat sU64 (by omega), load_ptr gU64 (Mul.dig_of (by omega)), FN_len hx, add_i64 (by omega)⟩ .same
theorem lenP_le {l : List Nat} (hd : ∀ x ∈ l, x < 18446744073709551616) (hl : l.length ≤ 1048576) : lenP l ≤ 67108864 ∧ (0 < lenP l ↔ 0 < (norm l).length) := by
  have hn := norm_length l
  unfold lenP
  split
  · omega
  · rename_i h0
    have hx := hd _ (norm_mem (dig_mem (l := norm l) (i := (norm l).length - 1) (by omega)))
    have hs := Len64.s1_spec hx
    have hz := norm_nrm l ((norm l).length - 1) (by omega)
    have := hs.2 (by omega)
    omega

/-! ### the closures -/
noncomputable def lawsV : Value := mkDat 30 ((List.range 30).map fun i => .func (.func (fnX i)) ⟨[]⟩ ⟨capX i⟩)
theorem nl_laws : Nl lawsV := ⟨9, by kernel_rfl⟩
theorem laws_ok : PureOk PP GG tabs 19 [] lawsV := by
  refine pure_run (n := 600) (fun x hx => by cases hx) nl_laws (by kernel_rfl) (by kernel_rfl) (by kernel_rfl) (by kernel_rfl)
end Go.Proofs.YtihloomkgpflmaaGreatDoor

namespace Go.Proofs.YtihloomkgpflmaaGreatDoor
open Go.Proofs.YtihloomkgpflmaaGreatDoor.Vm
variable {tabs : List (Nat × List Value)}
theorem iEx : (PP.info? 31).map (fun i => (i.size, i.bytes, i.zero.map (·.cells.size))) = some (5, 88, some 5) := by kernel_rfl
theorem iU8 : (PP.info? 59).map (fun i => (i.size, i.bytes, i.zero.map (·.cells.size))) = some (1, 8, some 1) := by kernel_rfl
theorem exL_one (r : Ex) : exL [r] = r.nd.cells := by simp [exL]
theorem exL_snoc (m : List Ex) (r : Ex) : exL (m ++ [r]) = exL m ++ r.nd.cells := by rw [exL_append, exL_one]
theorem nl_xcells (l : List Ex) : ∀ v ∈ exL l, Nl v := fun v hv => okV_nl (List.all_eq_true.1 (okL l) v hv)
theorem xcells_one (l : List Ex) : (exL l).all (·.oneCell') = true := by
  refine List.all_eq_true.2 fun v hv => ?_
  induction l with
  | nil => simp [exL] at hv
  | cons r l ih =>
    simp only [exL, List.mem_append] at hv
    rcases hv with h | h
    · simp only [Nd.cells, List.mem_cons, List.not_mem_nil, or_false] at h
      rcases h with rfl | rfl | rfl | rfl | rfl <;> rfl
    · exact ih h
theorem u_one (l : List Nat) : (l.map u64).all (·.oneCell') = true := List.all_eq_true.2 fun v hv => by
  obtain ⟨x, _, rfl⟩ := List.mem_map.1 hv; rfl
namespace Own
abbrev zeroX : List Value := [i64 0, .bool false, .slice none 0 0, .slice none 0 0, .slice none 0 0]
abbrev rA (k n : Nat) : Value := .slice (some ⟨256 * k + 1, 0, none⟩) n n
abbrev pt (k : Nat) : Value := .pointer (some ⟨256 * k, 0, none⟩)
abbrev xc (o : Int) (n : Bool) (a b : List Nat) (l : List Ex) : List Value := [.int .i64 o, .bool n, natV a, natV b, mkDat l.length (exL l)]
noncomputable abbrev MA1 (o : Int) (n : Bool) (a b : List Nat) (l : List Ex) : Tr Blk := mkM [(4, .cells false (xc o n a b l)), (4 + 1, .cells false zeroX), (4 + 2, .cells false [.bool false, .slice none 0 0]), (4 + 3, .grow (a.map u64))]
noncomputable abbrev MB1 (o : Int) (n : Bool) (a b : List Nat) (l : List Ex) : Tr Blk := mkM [(4, .cells false (xc o n a b l)), (4 + 1, .cells false zeroX), (4 + 2, .cells false [.bool n, natV a]), (4 + 3, .cells false zeroX), (4 + 4, .grow (b.map u64))]
noncomputable def frB : Fr := onto PP XX GG 5 (door PP 21 [xV 0 false [] [] 0 []] .nil GG) [.go, .go, .go, .go, .go, .go, .go, .go, .go, .go, .go, .pure (.slice none 0 0), .go, .go]
/-- Ahead of the second region. -/
noncomputable def frP (o : Int) (n : Bool) (a b : List Nat) (l : List Ex) : Fr := { frB with T := mkT [(1, pt 4), (2, pt (4 + 1)), (3, pt (4 + 2))], M := mkM [(4, .cells false (xc o n a b l)), (4 + 1, .cells false zeroX), (4 + 2, .cells false [.bool n, natV a])], nx := 4 + 3 }
noncomputable def frP0 (o : Int) (n : Bool) (a b : List Nat) (l : List Ex) : Fr := { frB with T := mkT [(1, pt 4), (2, pt (4 + 1)), (3, pt (4 + 2))], M := mkM [(4, .cells false (xc o n a b l)), (4 + 1, .cells false zeroX), (4 + 2, .cells false [.bool n, .slice none 0 0])], nx := 4 + 3 }
noncomputable def frP1 (o : Int) (n : Bool) (a b : List Nat) (l : List Ex) : Fr := { frB with T := mkT [(1, pt 4), (2, pt (4 + 1)), (3, pt (4 + 2))], M := mkM [(4, .cells false (xc o n a b l)), (4 + 1, .cells false zeroX), (4 + 2, .cells false [.bool n, rA (4 + 3) a.length]), (4 + 3, .grow (a.map u64))], nx := 4 + 4 }
theorem a0 (o : Int) (n : Bool) (a b : List Nat) (l : List Ex) : walk PP XX GG 5 (door PP 21 [xV o n a b l.length (exL l)] .nil GG) [.go, .go, .go, .go, .go, .go, .go, .go, .go, .go, .go, .pure (.slice none 0 0), .go, .go] [1, 2, 3] [4, 4 + 1, 4 + 2] = some (frP0 o n a b l, [.nice (.bool n), .nice (natV a), .niceL [.bool false, .slice none 0 0], .load (mkM [(4, .cells false [.int .i64 o, .bool n, natV a, natV b, mkDat l.length (exL l)]), (5, .cells false [i64 0, .bool false, .slice none 0 0, .slice none 0 0, .slice none 0 0]), (6, .cells false [.bool false, .slice none 0 0])]) 24 (.pointer (some (⟨1024, 2, none⟩))) (natV a), .load (mkM [(4, .cells false [.int .i64 o, .bool n, natV a, natV b, mkDat l.length (exL l)]), (5, .cells false [i64 0, .bool false, .slice none 0 0, .slice none 0 0, .slice none 0 0]), (6, .cells false [.bool false, .slice none 0 0])]) 4 (.pointer (some (⟨1024, 1, none⟩))) (.bool n), .app (mkM [(4, .cells false [.int .i64 o, .bool n, natV a, natV b, mkDat l.length (exL l)]), (5, .cells false [i64 0, .bool false, .slice none 0 0, .slice none 0 0, .slice none 0 0]), (6, .cells false [.bool false, .slice none 0 0])]) 7 24 (.slice none 0 0) (natV a) (.slice none 0 0) (mkM [(4, .cells false [.int .i64 o, .bool n, natV a, natV b, mkDat l.length (exL l)]), (5, .cells false [i64 0, .bool false, .slice none 0 0, .slice none 0 0, .slice none 0 0]), (6, .cells false [.bool false, .slice none 0 0])]) 7, .load (mkM [(4, .cells false [.int .i64 o, .bool n, natV a, natV b, mkDat l.length (exL l)]), (5, .cells false [i64 0, .bool false, .slice none 0 0, .slice none 0 0, .slice none 0 0]), (6, .cells false [.bool false, .slice none 0 0])]) 4 (.pointer (some (⟨1024, 1, none⟩))) (.bool n)]) := by kernel_rfl
theorem a1 (o : Int) (n : Bool) (a b : List Nat) (l : List Ex) : walk PP XX GG 5 (door PP 21 [xV o n a b l.length (exL l)] .nil GG) [.go, .go, .go, .go, .go, .go, .go, .go, .go, .go, .go, .mem (rA (4 + 3) a.length) (MA1 o n a b l) (4 + 4), .go, .go] [1, 2, 3] [4, 4 + 1, 4 + 2, 4 + 3] = some (frP1 o n a b l, [.nice (.bool n), .nice (natV a), .niceL [.bool false, .slice none 0 0], .load (mkM [(4, .cells false [.int .i64 o, .bool n, natV a, natV b, mkDat l.length (exL l)]), (5, .cells false [i64 0, .bool false, .slice none 0 0, .slice none 0 0, .slice none 0 0]), (6, .cells false [.bool false, .slice none 0 0])]) 24 (.pointer (some (⟨1024, 2, none⟩))) (natV a), .load (mkM [(4, .cells false [.int .i64 o, .bool n, natV a, natV b, mkDat l.length (exL l)]), (5, .cells false [i64 0, .bool false, .slice none 0 0, .slice none 0 0, .slice none 0 0]), (6, .cells false [.bool false, .slice none 0 0])]) 4 (.pointer (some (⟨1024, 1, none⟩))) (.bool n), .app (mkM [(4, .cells false [.int .i64 o, .bool n, natV a, natV b, mkDat l.length (exL l)]), (5, .cells false [i64 0, .bool false, .slice none 0 0, .slice none 0 0, .slice none 0 0]), (6, .cells false [.bool false, .slice none 0 0])]) 7 24 (.slice none 0 0) (natV a) (.slice (some (⟨1793, 0, none⟩)) a.length a.length) (mkM [(4, .cells false [.int .i64 o, .bool n, natV a, natV b, mkDat l.length (exL l)]), (5, .cells false [i64 0, .bool false, .slice none 0 0, .slice none 0 0, .slice none 0 0]), (6, .cells false [.bool false, .slice none 0 0]), (7, .grow (List.map u64 a))]) 8, .kept (mkM [(4, .cells false [.int .i64 o, .bool n, natV a, natV b, mkDat l.length (exL l)]), (5, .cells false [i64 0, .bool false, .slice none 0 0, .slice none 0 0, .slice none 0 0]), (6, .cells false [.bool false, .slice none 0 0]), (7, .grow (List.map u64 a))]) 6 [.bool false, .slice none 0 0], .load (mkM [(4, .cells false [.int .i64 o, .bool n, natV a, natV b, mkDat l.length (exL l)]), (5, .cells false [i64 0, .bool false, .slice none 0 0, .slice none 0 0, .slice none 0 0]), (6, .cells false [.bool false, .slice none 0 0]), (7, .grow (List.map u64 a))]) 4 (.pointer (some (⟨1024, 1, none⟩))) (.bool n)]) := by kernel_rfl
noncomputable def frL : Fr := onto PP XX GG 6 (frP 0 false [] [] []) [.go, .go, .go, .go, .go, .go, .go, .pure (.slice none 0 0), .go, .go, .go, .go, .go]
abbrev T0 (l : List Ex) (k i : Nat) : List (Nat × Value) := [(2, pt (4 + 1)), (4, pt k), (27, mkDat l.length (exL l)), (28, i64 l.length), (29, i64 i)]
noncomputable def frQ0 (o : Int) (n : Bool) (a : List Nat) (l : List Ex) : Fr := { frL with T := mkT (T0 l (4 + 3) 0), M := mkM [(4 + 1, .cells false zeroX), (4 + 3, .cells false [.int .i64 o, .bool n, natV a, .slice none 0 0, .slice none 0 0])], nx := 4 + 4 }
noncomputable def frQ1 (o : Int) (n : Bool) (a b : List Nat) (l : List Ex) : Fr := { frL with T := mkT (T0 l (4 + 3) 0), M := mkM [(4 + 1, .cells false zeroX), (4 + 3, .cells false [.int .i64 o, .bool n, natV a, rA (4 + 4) b.length, .slice none 0 0]), (4 + 4, .grow (b.map u64))], nx := 4 + 5 }
theorem c0 (o : Int) (n : Bool) (a b : List Nat) (l : List Ex) : walk PP XX GG 6 (frP o n a b l) [.go, .go, .go, .go, .go, .go, .go, .pure (.slice none 0 0), .go, .go, .go, .go, .go] [2, 4, 27, 28, 29] [4 + 1, 4 + 3] = some (frQ0 o n a l, [.nice (.int .i64 o), .nice (.agg ⟨[.bool n, natV a]⟩), .nice (natV b), .niceL [i64 0, .bool false, .slice none 0 0, .slice none 0 0, .slice none 0 0], .load (mkM [(4, .cells false [.int .i64 o, .bool n, natV a, natV b, mkDat l.length (exL l)]), (5, .cells false [i64 0, .bool false, .slice none 0 0, .slice none 0 0, .slice none 0 0]), (6, .cells false [.bool n, natV a]), (7, .cells false [i64 0, .bool false, .slice none 0 0, .slice none 0 0, .slice none 0 0])]) 24 (.pointer (some (⟨1024, 3, none⟩))) (natV b), .load (mkM [(4, .cells false [.int .i64 o, .bool n, natV a, natV b, mkDat l.length (exL l)]), (5, .cells false [i64 0, .bool false, .slice none 0 0, .slice none 0 0, .slice none 0 0]), (6, .cells false [.bool n, natV a]), (7, .cells false [i64 0, .bool false, .slice none 0 0, .slice none 0 0, .slice none 0 0])]) 26 (.pointer (some (⟨1536, 0, none⟩))) (.agg ⟨[.bool n, natV a]⟩), .load (mkM [(4, .cells false [.int .i64 o, .bool n, natV a, natV b, mkDat l.length (exL l)]), (5, .cells false [i64 0, .bool false, .slice none 0 0, .slice none 0 0, .slice none 0 0]), (6, .cells false [.bool n, natV a]), (7, .cells false [i64 0, .bool false, .slice none 0 0, .slice none 0 0, .slice none 0 0])]) 22 (.pointer (some (⟨1024, 0, none⟩))) (.int .i64 o), .app (mkM [(4, .cells false [.int .i64 o, .bool n, natV a, natV b, mkDat l.length (exL l)]), (5, .cells false [i64 0, .bool false, .slice none 0 0, .slice none 0 0, .slice none 0 0]), (6, .cells false [.bool n, natV a]), (7, .cells false [i64 0, .bool false, .slice none 0 0, .slice none 0 0, .slice none 0 0])]) 8 24 (.slice none 0 0) (natV b) (.slice none 0 0) (mkM [(4, .cells false [.int .i64 o, .bool n, natV a, natV b, mkDat l.length (exL l)]), (5, .cells false [i64 0, .bool false, .slice none 0 0, .slice none 0 0, .slice none 0 0]), (6, .cells false [.bool n, natV a]), (7, .cells false [i64 0, .bool false, .slice none 0 0, .slice none 0 0, .slice none 0 0])]) 8, .load (mkM [(4, .cells false [.int .i64 o, .bool n, natV a, natV b, mkDat l.length (exL l)]), (5, .cells false [i64 0, .bool false, .slice none 0 0, .slice none 0 0, .slice none 0 0]), (6, .cells false [.bool n, natV a]), (7, .cells false [i64 0, .bool false, .slice none 0 0, .slice none 0 0, .slice none 0 0])]) 26 (.pointer (some (⟨1536, 0, none⟩))) (.agg ⟨[.bool n, natV a]⟩), .load (mkM [(4, .cells false [.int .i64 o, .bool n, natV a, natV b, mkDat l.length (exL l)]), (5, .cells false [i64 0, .bool false, .slice none 0 0, .slice none 0 0, .slice none 0 0]), (6, .cells false [.bool n, natV a]), (7, .cells false [i64 0, .bool false, .slice none 0 0, .slice none 0 0, .slice none 0 0])]) 22 (.pointer (some (⟨1024, 0, none⟩))) (.int .i64 o)]) := by kernel_rfl
theorem c1 (o : Int) (n : Bool) (a b : List Nat) (l : List Ex) : walk PP XX GG 6 (frP o n a b l) [.go, .go, .go, .go, .go, .go, .go, .mem (rA (4 + 4) b.length) (MB1 o n a b l) (4 + 5), .go, .go, .go, .go, .go] [2, 4, 27, 28, 29] [4 + 1, 4 + 3, 4 + 4] = some (frQ1 o n a b l, [.nice (.int .i64 o), .nice (.agg ⟨[.bool n, natV a]⟩), .nice (natV b), .niceL [i64 0, .bool false, .slice none 0 0, .slice none 0 0, .slice none 0 0], .load (mkM [(4, .cells false [.int .i64 o, .bool n, natV a, natV b, mkDat l.length (exL l)]), (5, .cells false [i64 0, .bool false, .slice none 0 0, .slice none 0 0, .slice none 0 0]), (6, .cells false [.bool n, natV a]), (7, .cells false [i64 0, .bool false, .slice none 0 0, .slice none 0 0, .slice none 0 0])]) 24 (.pointer (some (⟨1024, 3, none⟩))) (natV b), .load (mkM [(4, .cells false [.int .i64 o, .bool n, natV a, natV b, mkDat l.length (exL l)]), (5, .cells false [i64 0, .bool false, .slice none 0 0, .slice none 0 0, .slice none 0 0]), (6, .cells false [.bool n, natV a]), (7, .cells false [i64 0, .bool false, .slice none 0 0, .slice none 0 0, .slice none 0 0])]) 26 (.pointer (some (⟨1536, 0, none⟩))) (.agg ⟨[.bool n, natV a]⟩), .load (mkM [(4, .cells false [.int .i64 o, .bool n, natV a, natV b, mkDat l.length (exL l)]), (5, .cells false [i64 0, .bool false, .slice none 0 0, .slice none 0 0, .slice none 0 0]), (6, .cells false [.bool n, natV a]), (7, .cells false [i64 0, .bool false, .slice none 0 0, .slice none 0 0, .slice none 0 0])]) 22 (.pointer (some (⟨1024, 0, none⟩))) (.int .i64 o), .app (mkM [(4, .cells false [.int .i64 o, .bool n, natV a, natV b, mkDat l.length (exL l)]), (5, .cells false [i64 0, .bool false, .slice none 0 0, .slice none 0 0, .slice none 0 0]), (6, .cells false [.bool n, natV a]), (7, .cells false [i64 0, .bool false, .slice none 0 0, .slice none 0 0, .slice none 0 0])]) 8 24 (.slice none 0 0) (natV b) (.slice (some (⟨2049, 0, none⟩)) b.length b.length) (mkM [(4, .cells false [.int .i64 o, .bool n, natV a, natV b, mkDat l.length (exL l)]), (5, .cells false [i64 0, .bool false, .slice none 0 0, .slice none 0 0, .slice none 0 0]), (6, .cells false [.bool n, natV a]), (7, .cells false [i64 0, .bool false, .slice none 0 0, .slice none 0 0, .slice none 0 0]), (8, .grow (List.map u64 b))]) 9, .kept (mkM [(4, .cells false [.int .i64 o, .bool n, natV a, natV b, mkDat l.length (exL l)]), (5, .cells false [i64 0, .bool false, .slice none 0 0, .slice none 0 0, .slice none 0 0]), (6, .cells false [.bool n, natV a]), (7, .cells false [i64 0, .bool false, .slice none 0 0, .slice none 0 0, .slice none 0 0]), (8, .grow (List.map u64 b))]) 7 [i64 0, .bool false, .slice none 0 0, .slice none 0 0, .slice none 0 0], .load (mkM [(4, .cells false [.int .i64 o, .bool n, natV a, natV b, mkDat l.length (exL l)]), (5, .cells false [i64 0, .bool false, .slice none 0 0, .slice none 0 0, .slice none 0 0]), (6, .cells false [.bool n, natV a]), (7, .cells false [i64 0, .bool false, .slice none 0 0, .slice none 0 0, .slice none 0 0]), (8, .grow (List.map u64 b))]) 26 (.pointer (some (⟨1536, 0, none⟩))) (.agg ⟨[.bool n, natV a]⟩), .load (mkM [(4, .cells false [.int .i64 o, .bool n, natV a, natV b, mkDat l.length (exL l)]), (5, .cells false [i64 0, .bool false, .slice none 0 0, .slice none 0 0, .slice none 0 0]), (6, .cells false [.bool n, natV a]), (7, .cells false [i64 0, .bool false, .slice none 0 0, .slice none 0 0, .slice none 0 0]), (8, .grow (List.map u64 b))]) 22 (.pointer (some (⟨1024, 0, none⟩))) (.int .i64 o)]) := by kernel_rfl
/-- The loop's head. -/
noncomputable def frH (o : Int) (n : Bool) (p q : List Nat) (l : List Ex) : Fr := { frL with T := mkT (T0 l (4 + 2) 0), M := mkM [(4 + 1, .cells false zeroX), (4 + 2, .cells false [.int .i64 o, .bool n, natV p, natV q, .slice none 0 0])], nx := 4 + 3 }
noncomputable def frH3 (o : Int) (n : Bool) (p q : List Nat) (l : List Ex) : Fr := { frL with T := mkT (T0 l (4 + 3) 0), M := mkM [(4 + 1, .cells false zeroX), (4 + 3, .cells false [.int .i64 o, .bool n, natV p, natV q, .slice none 0 0])], nx := 4 + 4 }
noncomputable def frH4 (o : Int) (n : Bool) (p q : List Nat) (l : List Ex) : Fr := { frL with T := mkT (T0 l (4 + 3) 0), M := mkM [(4 + 1, .cells false zeroX), (4 + 3, .cells false [.int .i64 o, .bool n, natV p, natV q, .slice none 0 0])], nx := 4 + 5 }
abbrev rowV (i : Nat) : Value := .slice (some ⟨256 * (4 + 3) + 5, 0, none⟩) i i
noncomputable def frK (o : Int) (n : Bool) (p q : List Nat) (l : List Ex) (m : List Ex) (i : Nat) : Fr := { frL with T := mkT (T0 l (4 + 2) i), M := mkM [(4 + 1, .cells false zeroX), (4 + 2, .cells false [.int .i64 o, .bool n, natV p, natV q, rowV i]), (4 + 3, .grow (exL m))], nx := 4 + 4 }
noncomputable abbrev M1 (o : Int) (n : Bool) (p q : List Nat) (a r : Nd) : Tr Blk := mkM [(4 + 1, .cells false zeroX), (4 + 2, .cells false [.int .i64 o, .bool n, natV p, natV q, .slice none 0 0]), (4 + 3, .cells false a.cells), (4 + 4, .cells false r.cells), (4 + 5, .grow r.cells)]
noncomputable abbrev M2 (o : Int) (n : Bool) (p q : List Nat) (a r : Nd) (m : List Ex) (i : Nat) : Tr Blk := mkM [(4 + 1, .cells false zeroX), (4 + 2, .cells false [.int .i64 o, .bool n, natV p, natV q, rowV i]), (4 + 3, .dead), (4 + 4, .cells false a.cells), (4 + 5, .cells false r.cells), (4 + 6, .grow (exL m ++ r.cells))]
noncomputable def frK1 (o : Int) (n : Bool) (p q : List Nat) (l : List Ex) (r : Nd) : Fr := { frL with T := mkT (T0 l (4 + 2) 1), M := mkM [(4 + 1, .cells false zeroX), (4 + 2, .cells false [.int .i64 o, .bool n, natV p, natV q, .slice (some ⟨256 * (4 + 5) + 5, 0, none⟩) 1 1]), (4 + 5, .grow r.cells)], nx := 4 + 6 }
noncomputable def frK2 (o : Int) (n : Bool) (p q : List Nat) (l : List Ex) (m : List Ex) (r : Nd) (i : Nat) : Fr := { frL with T := mkT (T0 l (4 + 2) i), M := mkM [(4 + 1, .cells false zeroX), (4 + 2, .cells false [.int .i64 o, .bool n, natV p, natV q, .slice (some ⟨256 * (4 + 6) + 5, 0, none⟩) i i]), (4 + 6, .grow (exL m ++ r.cells))], nx := 4 + 7 }
theorem b1 (o : Int) (n : Bool) (p q : List Nat) (l : List Ex) (a r : Nd) : walk PP XX GG 13 (frH o n p q l) [.val (.bool true), .val (exP l 0), .val a.val, .go, .go, .go, .go, .go, .pure r.val, .go, .mem (.slice (some ⟨256 * (4 + 5) + 5, 0, none⟩) 1 1) (M1 o n p q a r) (4 + 6), .go, .go, .val (i64 1), .go] [2, 4, 27, 28, 29] [4 + 1, 4 + 2, 4 + 5] = some (frK1 o n p q l r, [.bin .lss 3 false (i64 0) (i64 l.length) (.bool true), .idxA 29 (mkDat l.length (exL l)) (i64 0) (mkPtr (List.drop (0 * 5) (exL l))), .load (mkM [(5, .cells false [i64 0, .bool false, .slice none 0 0, .slice none 0 0, .slice none 0 0]), (6, .cells false [.int .i64 o, .bool n, natV p, natV q, .slice none 0 0])]) 31 (mkPtr (List.drop (0 * 5) (exL l))) (a.val), .nice (.slice none 0 0), .nice (a.val), .call 21 [a.val] (mkM [(5, .cells false [i64 0, .bool false, .slice none 0 0, .slice none 0 0, .slice none 0 0]), (6, .cells false [.int .i64 o, .bool n, natV p, natV q, .slice none 0 0]), (7, .cells false a.cells)]) 8 (r.val) (mkM [(5, .cells false [i64 0, .bool false, .slice none 0 0, .slice none 0 0, .slice none 0 0]), (6, .cells false [.int .i64 o, .bool n, natV p, natV q, .slice none 0 0]), (7, .cells false a.cells)]) 8, .niceL r.cells, .load (mkM [(5, .cells false [i64 0, .bool false, .slice none 0 0, .slice none 0 0, .slice none 0 0]), (6, .cells false [.int .i64 o, .bool n, natV p, natV q, .slice none 0 0]), (7, .cells false a.cells), (8, .cells false r.cells)]) 29 (.pointer (some (⟨1536, 4, none⟩))) (.slice none 0 0), .app (mkM [(5, .cells false [i64 0, .bool false, .slice none 0 0, .slice none 0 0, .slice none 0 0]), (6, .cells false [.int .i64 o, .bool n, natV p, natV q, .slice none 0 0]), (7, .cells false a.cells), (8, .cells false r.cells)]) 9 29 (.slice none 0 0) (.slice (some (⟨2048, 0, none⟩)) 1 1) (.slice (some (⟨2309, 0, none⟩)) 1 1) (mkM [(5, .cells false [i64 0, .bool false, .slice none 0 0, .slice none 0 0, .slice none 0 0]), (6, .cells false [.int .i64 o, .bool n, natV p, natV q, .slice none 0 0]), (7, .cells false a.cells), (8, .cells false r.cells), (9, .grow r.cells)]) 10, .bin .add 3 true (i64 0) (i64 1) (i64 1)]) := by kernel_rfl
theorem b2 (o : Int) (n : Bool) (p q : List Nat) (l : List Ex) (a r : Nd) (m : List Ex) (i i2 : Nat) : walk PP XX GG 13 (frK o n p q l m i) [.val (.bool true), .val (exP l i), .val a.val, .go, .go, .go, .go, .go, .pure r.val, .go, .mem (.slice (some ⟨256 * (4 + 6) + 5, 0, none⟩) i2 i2) (M2 o n p q a r m i) (4 + 7), .go, .go, .val (i64 i2), .go] [2, 4, 27, 28, 29] [4 + 1, 4 + 2, 4 + 6] = some (frK2 o n p q l m r i2, [.bin .lss 3 false (i64 i) (i64 l.length) (.bool true), .idxA 29 (mkDat l.length (exL l)) (i64 i) (mkPtr (List.drop (i * 5) (exL l))), .load (mkM [(5, .cells false [i64 0, .bool false, .slice none 0 0, .slice none 0 0, .slice none 0 0]), (6, .cells false [.int .i64 o, .bool n, natV p, natV q, .slice (some (⟨1797, 0, none⟩)) i i]), (7, .grow (exL m))]) 31 (mkPtr (List.drop (i * 5) (exL l))) (a.val), .nice (.slice (some (⟨1797, 0, none⟩)) i i), .nice (a.val), .call 21 [a.val] (mkM [(5, .cells false [i64 0, .bool false, .slice none 0 0, .slice none 0 0, .slice none 0 0]), (6, .cells false [.int .i64 o, .bool n, natV p, natV q, .slice (some (⟨1797, 0, none⟩)) i i]), (7, .grow (exL m)), (8, .cells false a.cells)]) 9 (r.val) (mkM [(5, .cells false [i64 0, .bool false, .slice none 0 0, .slice none 0 0, .slice none 0 0]), (6, .cells false [.int .i64 o, .bool n, natV p, natV q, .slice (some (⟨1797, 0, none⟩)) i i]), (7, .grow (exL m)), (8, .cells false a.cells)]) 9, .niceL r.cells, .load (mkM [(5, .cells false [i64 0, .bool false, .slice none 0 0, .slice none 0 0, .slice none 0 0]), (6, .cells false [.int .i64 o, .bool n, natV p, natV q, .slice (some (⟨1797, 0, none⟩)) i i]), (7, .grow (exL m)), (8, .cells false a.cells), (9, .cells false r.cells)]) 29 (.pointer (some (⟨1536, 4, none⟩))) (.slice (some (⟨1797, 0, none⟩)) i i), .app (mkM [(5, .cells false [i64 0, .bool false, .slice none 0 0, .slice none 0 0, .slice none 0 0]), (6, .cells false [.int .i64 o, .bool n, natV p, natV q, .slice (some (⟨1797, 0, none⟩)) i i]), (7, .grow (exL m)), (8, .cells false a.cells), (9, .cells false r.cells)]) 10 29 (.slice (some (⟨1797, 0, none⟩)) i i) (.slice (some (⟨2304, 0, none⟩)) 1 1) (.slice (some (⟨2565, 0, none⟩)) i2 i2) (mkM [(5, .cells false [i64 0, .bool false, .slice none 0 0, .slice none 0 0, .slice none 0 0]), (6, .cells false [.int .i64 o, .bool n, natV p, natV q, .slice (some (⟨1797, 0, none⟩)) i i]), (7, Blk.dead), (8, .cells false a.cells), (9, .cells false r.cells), (10, .grow (exL m ++ r.cells))]) 11, .bin .add 3 true (i64 i) (i64 1) (i64 i2)]) := by kernel_rfl
theorem b3 (o : Int) (n : Bool) (p q : List Nat) (l : List Ex) : ends PP XX GG 8 (frH o n p q l) [.val (.bool false), .go, .go] [2] [4 + 1] = some (.agg ⟨[.int .i64 o, .bool n, natV p, natV q, .slice none 0 0]⟩, mkM [(4 + 1, .cells false [.int .i64 o, .bool n, natV p, natV q, .slice none 0 0])], [.bin .lss 3 false (i64 0) (i64 l.length) (.bool false)]) := by kernel_rfl
theorem b4 (o : Int) (n : Bool) (p q : List Nat) (l : List Ex) (m : List Ex) (i : Nat) : ends PP XX GG 8 (frK o n p q l m i) [.val (.bool false), .go, .go] [2] [4 + 1, 4 + 3] = some (.agg ⟨[.int .i64 o, .bool n, natV p, natV q, rowV i]⟩, mkM [(4 + 1, .cells false [.int .i64 o, .bool n, natV p, natV q, rowV i]), (4 + 3, .grow (exL m))], [.bin .lss 3 false (i64 i) (i64 l.length) (.bool false)]) := by kernel_rfl
end Own
end Go.Proofs.YtihloomkgpflmaaGreatDoor

namespace Go.Proofs.YtihloomkgpflmaaGreatDoor
open Go.Proofs.YtihloomkgpflmaaGreatDoor.Vm
variable {tabs : List (Nat × List Value)}
namespace Own
theorem zero_mv {n k : Nat} : MvB n k (.cells false zeroX) (.cells false zeroX) := by
  refine .cells (MvL.same fun v hv => ?_)
  simp only [zeroX, List.mem_cons, List.not_mem_nil, or_false] at hv
  rcases hv with rfl | rfl | rfl | rfl | rfl <;> exact ⟨1, rfl⟩
theorem cutP (o : Int) (n : Bool) (a b : List Nat) (l : List Ex) : ({ ({ frP1 o n a b l with T := (frP o n a b l).T, M := (frP o n a b l).M } : Fr) with T := (frP o n a b l).T, M := (frP o n a b l).M, nx := 4 + 3 } : Fr) = frP o n a b l := by kernel_rfl
theorem cutP0 (o : Int) (n : Bool) (b : List Nat) (l : List Ex) : ({ frP0 o n [] b l with M := (frP o n [] b l).M } : Fr) = frP o n [] b l := by kernel_rfl
theorem cutQ0 (o : Int) (n : Bool) (a : List Nat) (l : List Ex) : ({ frQ0 o n a l with M := (frH3 o n a [] l).M } : Fr) = frH3 o n a [] l := by kernel_rfl
theorem cutQ1 (o : Int) (n : Bool) (a b : List Nat) (l : List Ex) : ({ frQ1 o n a b l with T := (frH4 o n a b l).T, M := (frH4 o n a b l).M } : Fr) = frH4 o n a b l := by kernel_rfl
theorem cutH3 (o : Int) (n : Bool) (a b : List Nat) (l : List Ex) : ({ frH3 o n a b l with T := (frH o n a b l).T, M := (frH o n a b l).M, nx := 4 + 3 } : Fr) = frH o n a b l := by kernel_rfl
theorem cutH4 (o : Int) (n : Bool) (a b : List Nat) (l : List Ex) : ({ frH4 o n a b l with T := (frH o n a b l).T, M := (frH o n a b l).M, nx := 4 + 3 } : Fr) = frH o n a b l := by kernel_rfl
theorem cut1 (o : Int) (n : Bool) (p q : List Nat) (l : List Ex) (r : Ex) : ({ frK1 o n p q l r.nd with T := (frK o n p q l [r] 1).T, M := (frK o n p q l [r] 1).M, nx := 4 + 4 } : Fr) = frK o n p q l [r] 1 := by kernel_rfl
theorem cut2 (o : Int) (n : Bool) (p q : List Nat) (l : List Ex) (m : List Ex) (r : Ex) (i : Nat) : ({ frK2 o n p q l m r.nd i with T := (frK o n p q l (m ++ [r]) i).T, M := (frK o n p q l (m ++ [r]) i).M, nx := 4 + 4 } : Fr) = frK o n p q l (m ++ [r]) i := by kernel_rfl
theorem T_mv {l : List Ex} {i n k m m2 : Nat} {T : Tr Value} (hT : T = mkT (T0 l m2 i)) (h1 : mvn n k (256 * (4 + 1) / 256) = some (4 + 1)) (h2 : mvn n k (256 * m / 256) = some m2) : ∀ t v, (mkT (T0 l m i)).get t = some v → ∃ v0, T.get t = some v0 ∧ Mv n k v v0 := by
  subst hT
  refine Tree.pick_T fun p hp => ?_
  simp only [List.mem_cons, List.not_mem_nil, or_false] at hp
  rcases hp with rfl | rfl | rfl | rfl | rfl
  · refine ⟨pt (4 + 1), rfl, ?_⟩
    have := Mv.ptr (n := n) (k := k) (b := 256 * (4 + 1)) (o := 0) h1
    exact this
  · refine ⟨pt m2, by kernel_rfl, ?_⟩
    have := Mv.ptr (n := n) (k := k) (b := 256 * m) (o := 0) h2
    rwa [show 256 * m2 + 256 * m % 256 = 256 * m2 by omega] at this
  · exact ⟨mkDat l.length (exL l), by kernel_rfl, .nl (nl_Ex l _)⟩
  · exact ⟨i64 l.length, by kernel_rfl, .nl nl_int⟩
  · exact ⟨i64 i, by kernel_rfl, .nl nl_int⟩
theorem mv1 {o : Int} {n : Bool} {p q : List Nat} {l : List Ex} {r : Ex} {v : Value} (g : PT PP GG tabs (frK o n p q l [r] 1) v) : PT PP GG tabs (frK1 o n p q l r.nd) v := by
  refine PT.mv (n := 4 + 3) (k := 4 + 5) (nx := 4 + 4) (T2 := (frK o n p q l [r] 1).T) (M2 := (frK o n p q l [r] 1).M) (by decide) (by decide) (by decide) (T_mv (m := 4 + 2) (m2 := 4 + 2) rfl (by decide) (by decide)) (Tree.pick_M ?_) (by kernel_rfl) (by kernel_rfl) (by kernel_rfl) (by kernel_rfl) (by rw [cut1]; exact g)
  intro x hx
  simp only [List.mem_cons, List.not_mem_nil, or_false] at hx
  rcases hx with rfl | rfl | rfl
  · exact ⟨4 + 1, _, rfl, rfl, zero_mv⟩
  · exact ⟨4 + 2, _, rfl, rfl, .cells (.cons (.nl nl_int) (.cons (.nl ⟨1, rfl⟩) (.cons (.nl (nl_nat _)) (.cons (.nl (nl_nat _)) (.cons (.slice (m := 4 + 5) (by decide)) .nil)))))⟩
  · refine ⟨4 + 5, _, rfl, rfl, .grow ?_⟩
    rw [exL_one]
    exact MvL.same fun v hv => nl_xcells [r] v (by rw [exL_one]; exact hv)
theorem mv2 {o : Int} {n : Bool} {p q : List Nat} {l : List Ex} {m : List Ex} {r : Ex} {i : Nat} {v : Value} (g : PT PP GG tabs (frK o n p q l (m ++ [r]) i) v) : PT PP GG tabs (frK2 o n p q l m r.nd i) v := by
  refine PT.mv (n := 4 + 3) (k := 4 + 6) (nx := 4 + 4) (T2 := (frK o n p q l (m ++ [r]) i).T) (M2 := (frK o n p q l (m ++ [r]) i).M) (by decide) (by decide) (by decide) (T_mv (m := 4 + 2) (m2 := 4 + 2) rfl (by decide) (by decide)) (Tree.pick_M ?_) (by kernel_rfl) (by kernel_rfl) (by kernel_rfl) (by kernel_rfl) (by rw [cut2]; exact g)
  intro x hx
  simp only [List.mem_cons, List.not_mem_nil, or_false] at hx
  rcases hx with rfl | rfl | rfl
  · exact ⟨4 + 1, _, rfl, rfl, zero_mv⟩
  · exact ⟨4 + 2, _, rfl, rfl, .cells (.cons (.nl nl_int) (.cons (.nl ⟨1, rfl⟩) (.cons (.nl (nl_nat _)) (.cons (.nl (nl_nat _)) (.cons (.slice (m := 4 + 6) (by decide)) .nil)))))⟩
  · refine ⟨4 + 6, _, rfl, rfl, .grow ?_⟩
    rw [← exL_snoc]
    exact MvL.same fun v hv => nl_xcells _ v hv
theorem H_mv {o : Int} {n : Bool} {p q : List Nat} : MvB (4 + 2) (4 + 3) (.cells false [.int .i64 o, .bool n, natV p, natV q, .slice none 0 0]) (.cells false [.int .i64 o, .bool n, natV p, natV q, .slice none 0 0]) :=
  .cells (.cons (.nl nl_int) (.cons (.nl ⟨1, rfl⟩) (.cons (.nl (nl_nat _)) (.cons (.nl (nl_nat _)) (.cons (.nl ⟨1, rfl⟩) .nil)))))
theorem H_M {o : Int} {n : Bool} {p q : List Nat} {M : Tr Blk} (hM : M = mkM [(4 + 1, .cells false zeroX), (4 + 3, .cells false [.int .i64 o, .bool n, natV p, natV q, .slice none 0 0])]) : ∀ a x, (mkM [(4 + 1, .cells false zeroX), (4 + 2, .cells false [.int .i64 o, .bool n, natV p, natV q, .slice none 0 0])]).get a = some x → ∃ m x0, mvn (4 + 2) (4 + 3) a = some m ∧ M.get m = some x0 ∧ MvB (4 + 2) (4 + 3) x x0 := by
  subst hM
  refine Tree.pick_M fun x hx => ?_
  simp only [List.mem_cons, List.not_mem_nil, or_false] at hx
  rcases hx with rfl | rfl
  · exact ⟨4 + 1, _, rfl, rfl, zero_mv⟩
  · exact ⟨4 + 3, _, rfl, rfl, H_mv⟩
theorem mvH3 {o : Int} {n : Bool} {p q : List Nat} {l : List Ex} {v : Value} (g : PT PP GG tabs (frH o n p q l) v) : PT PP GG tabs (frH3 o n p q l) v :=
  PT.mv (n := 4 + 2) (k := 4 + 3) (nx := 4 + 3) (T2 := (frH o n p q l).T) (M2 := (frH o n p q l).M) (by decide) (by decide) (by decide) (T_mv (m := 4 + 2) (m2 := 4 + 3) rfl (by decide) (by decide)) (H_M rfl) (by kernel_rfl) (by kernel_rfl) (by kernel_rfl) (by kernel_rfl) (by rw [cutH3]; exact g)
theorem mvH4 {o : Int} {n : Bool} {p q : List Nat} {l : List Ex} {v : Value} (g : PT PP GG tabs (frH o n p q l) v) : PT PP GG tabs (frH4 o n p q l) v :=
  PT.mv (n := 4 + 2) (k := 4 + 3) (nx := 4 + 3) (T2 := (frH o n p q l).T) (M2 := (frH o n p q l).M) (by decide) (by decide) (by decide) (T_mv (m := 4 + 2) (m2 := 4 + 3) rfl (by decide) (by decide)) (H_M rfl) (by kernel_rfl) (by kernel_rfl) (by kernel_rfl) (by kernel_rfl) (by rw [cutH4]; exact g)
theorem loopK {F : Known} (hF : F.Ok PP GG tabs) {o : Int} {n : Bool} {p q : List Nat} {l : List Ex} (hc : ∀ x ∈ l, ∀ (M : Tr Blk) (nx : Nat), F.sm 21 [x.nd.val] M nx = some (x.nd.val, M, nx)) (hm : l.length ≤ 1000000) (hh : highL l ≤ 400000) : ∀ d i, 0 < i → i + d = l.length → PT PP GG tabs (frK o n p q l (l.take i) i) (xV o n p q l.length (exL l))
  | 0, i, h0, h => by
    have e : l.take i = l := List.take_of_length_le (by omega)
    have e2 : i = l.length := by omega
    rw [e]
    subst e2
    refine PT.ends (envOf hF) (b4 o n p q l l l.length) (lss_f (by omega)) ?_
    exact frz_last (pre := [.int .i64 o, .bool n, natV p, natV q]) (x := .grow (exL l)) (by rfl) rfl rfl (Nat.le_refl _)
  | d + 1, i, h0, h => by
    have hi : i < l.length := by omega
    have e : l.take (i + 1) = l.take i ++ [l[i]] := by rw [List.take_add_one, List.getElem?_eq_getElem hi]; rfl
    have next := loopK hF hc hm hh (o := o) (n := n) (p := p) (q := q) d (i + 1) (by omega) (by omega)
    rw [e] at next
    have hx := List.getElem_mem hi
    have hxl := highL_mem hx
    refine PT.walk (envOf hF) (b2 o n p q l (l[i]).nd (l[i]).nd (l.take i) i (i + 1)) ⟨lss_t hi, idx_ex hi, load_ex hi, nice_slice, okV_nice (by omega) (l[i]).ok, hc _ hx _ _, niceL_of (by omega) (l[i]).okC, (by show aLoad _ _ _ _ = _; kernel_rfl), ?_, add_i64 (by omega)⟩ (mv2 next)
    refine app_next (sz := 5) (bytes := 88) uExs iEx (by decide) (by decide) (y := 256 * (4 + 5)) (news := (l[i]).nd.cells) (by rfl) rfl ?_ (x := 256 * (4 + 3) + 5) (vs := exL (l.take i)) (by rfl) (by decide) h0 ?_ (xcells_one _) (by omega) (by omega) (by rfl)
    · have := xcells_one [l[i]]
      rw [exL_one] at this
      exact this
    · rw [exL_length, List.length_take, Nat.min_eq_left (by omega)]
theorem loopH {F : Known} (hF : F.Ok PP GG tabs) {o : Int} {n : Bool} {p q : List Nat} {l : List Ex} (hc : ∀ x ∈ l, ∀ (M : Tr Blk) (nx : Nat), F.sm 21 [x.nd.val] M nx = some (x.nd.val, M, nx)) (hm : l.length ≤ 1000000) (hh : highL l ≤ 400000) : PT PP GG tabs (frH o n p q l) (xV o n p q l.length (exL l)) := by
  cases l with
  | nil => exact PT.ends (envOf hF) (b3 o n p q []) (lss_f (Nat.le_refl _)) (frz_none (pre := [.int .i64 o, .bool n, natV p, natV q]))
  | cons a r =>
    have hi : 0 < (a :: r).length := by simp
    have next := loopK hF hc hm hh (o := o) (n := n) (p := p) (q := q) r.length 1 (by omega) (by simp; omega)
    have e : (a :: r).take 1 = [a] := by simp
    rw [e] at next
    have hx : a ∈ a :: r := List.mem_cons_self
    have hxl := highL_mem hx
    refine PT.walk (envOf hF) (b1 o n p q (a :: r) a.nd a.nd) ⟨lss_t hi, idx_ex hi, load_ex hi, (by rfl), okV_nice (by omega) a.ok, hc _ hx _ _, niceL_of (by omega) a.okC, (by show aLoad _ _ _ _ = _; kernel_rfl), ?_, add_i64 (by omega)⟩ (mv1 next)
    refine app_first (sz := 5) (bytes := 88) uExs iEx (by decide) (by decide) (y := 256 * (4 + 4)) (news := a.nd.cells) (by rfl) rfl ?_ (by decide) (by rfl)
    have := xcells_one [a]
    rw [exL_one] at this
    exact this
end Own
end Go.Proofs.YtihloomkgpflmaaGreatDoor
