/-
  diff.Law.
  PLAIN: what the program's look at a tree says, and what the references say of its tree.
  THE LAW'S FUNCTION: true of every pair of trees.
-/
import Derived.Test.YtihloomkgpflmaaGreatDoorW11
import Derived.Test.YtihloomkgpflmaaGreatDoorW5
set_option linter.unusedSimpArgs false
set_option linter.unusedVariables false
namespace Go.Proofs.YtihloomkgpflmaaGreatDoor
open Go.Proofs.YtihloomkgpflmaaGreatDoor.Vm
/-- A tree of the program that is not too large, so many steps up. -/
structure UpX (k : Nat) (t : Ex) : Prop where
  good : Good t
  high : t.high ≤ 1000 + k
  nodes : t.nodes + 1 ≤ 10000 * 2 ^ k
theorem UpX.mono {t : Ex} (h : UpX 0 t) (k : Nat) : UpX k t := by
  have h1 : 2 ^ 0 ≤ 2 ^ k := Nat.pow_le_pow_right (by omega) (by omega)
  have h2 : 10000 * 2 ^ 0 ≤ 10000 * 2 ^ k := Nat.mul_le_mul_left _ h1
  exact ⟨h.good, by have := h.high; omega, Nat.le_trans h.nodes h2⟩
theorem good_args {o : Int} (ho : -9223372036854775808 ≤ o ∧ o < 9223372036854775808) {l : List Ex} (hl : l.length ≤ 1000000) (h : ∀ x ∈ l, Good x) : Good (.mk o false [] [] l) :=
  .mk ho (Nat.zero_le _) (Nat.zero_le _) (fun x hx => (by cases hx)) (fun x hx => (by cases hx)) hl h
theorem good_num {k : Nat} (hk : k < 18446744073709551616) : Good (Ex.num k) := by
  refine .mk ⟨by decide, by decide⟩ (by simp) (by simp) (fun x hx => ?_) (fun x hx => ?_) (Nat.zero_le _) (fun x hx => (by cases hx))
  · simp only [List.mem_cons, List.not_mem_nil, or_false] at hx; subst hx; exact hk
  · simp only [List.mem_cons, List.not_mem_nil, or_false] at hx; subst hx; decide
theorem UpX.un {k : Nat} {o : Int} (ho : -9223372036854775808 ≤ o ∧ o < 9223372036854775808) {a : Ex} (h : UpX k a) : UpX (k + 1) (Ex.un o a) := by
  refine ⟨good_args ho (by simp) (fun x hx => (by simp only [List.mem_cons, List.not_mem_nil, or_false] at hx; subst hx; exact h.good)), ?_, ?_⟩
  · have := h.high; simp [Ex.un, Ex.high, highL]; omega
  · have := h.nodes
    have hp : 0 < 2 ^ k := Nat.pow_pos (by omega)
    simp only [Ex.un, Ex.nodes, nodesL, Nat.pow_succ]; omega
theorem UpX.bin {k : Nat} {o : Int} (ho : -9223372036854775808 ≤ o ∧ o < 9223372036854775808) {a b : Ex} (h : UpX k a) (g : UpX k b) : UpX (k + 1) (Ex.bin o a b) := by
  refine ⟨good_args ho (by simp) (fun x hx => (by simp only [List.mem_cons, List.not_mem_nil, or_false] at hx; rcases hx with rfl | rfl; exact h.good; exact g.good)), ?_, ?_⟩
  · have := h.high; have := g.high; simp [Ex.bin, Ex.high, highL]; omega
  · have := h.nodes; have := g.nodes
    simp only [Ex.bin, Ex.nodes, nodesL, Nat.pow_succ]; omega
theorem UpX.num1 (k : Nat) : UpX k (Ex.num 1) := UpX.mono ⟨good_num (by decide), by decide, by decide⟩ k
theorem UpX.num2 (k : Nat) : UpX k (Ex.num 2) := UpX.mono ⟨good_num (by decide), by decide, by decide⟩ k
theorem UpX.pi (k : Nat) : UpX k Ex.pi := UpX.mono ⟨good_args (by decide) (Nat.zero_le _) (fun x hx => (by cases hx)), by decide, by decide⟩ k
theorem lawX_up {a b : Ex} (ha : UpX 0 a) (hb : UpX 0 b) : ∀ i, i < 30 → UpX 9 (lawX i a b)
  | 0, _ => by
    simp only [lawX]
    repeat first | exact ha.mono _ | exact hb.mono _ | exact UpX.num1 _ | exact UpX.num2 _ | exact UpX.pi _ | apply UpX.bin (by decide) | apply UpX.un (by decide)
  | 1, _ => by
    simp only [lawX]
    repeat first | exact ha.mono _ | exact hb.mono _ | exact UpX.num1 _ | exact UpX.num2 _ | exact UpX.pi _ | apply UpX.bin (by decide) | apply UpX.un (by decide)
  | 2, _ => by
    simp only [lawX]
    repeat first | exact ha.mono _ | exact hb.mono _ | exact UpX.num1 _ | exact UpX.num2 _ | exact UpX.pi _ | apply UpX.bin (by decide) | apply UpX.un (by decide)
  | 3, _ => by
    simp only [lawX]
    repeat first | exact ha.mono _ | exact hb.mono _ | exact UpX.num1 _ | exact UpX.num2 _ | exact UpX.pi _ | apply UpX.bin (by decide) | apply UpX.un (by decide)
  | 4, _ => by
    simp only [lawX]
    repeat first | exact ha.mono _ | exact hb.mono _ | exact UpX.num1 _ | exact UpX.num2 _ | exact UpX.pi _ | apply UpX.bin (by decide) | apply UpX.un (by decide)
  | 5, _ => by
    simp only [lawX]
    repeat first | exact ha.mono _ | exact hb.mono _ | exact UpX.num1 _ | exact UpX.num2 _ | exact UpX.pi _ | apply UpX.bin (by decide) | apply UpX.un (by decide)
  | 6, _ => by
    simp only [lawX]
    repeat first | exact ha.mono _ | exact hb.mono _ | exact UpX.num1 _ | exact UpX.num2 _ | exact UpX.pi _ | apply UpX.bin (by decide) | apply UpX.un (by decide)
  | 7, _ => by
    simp only [lawX]
    repeat first | exact ha.mono _ | exact hb.mono _ | exact UpX.num1 _ | exact UpX.num2 _ | exact UpX.pi _ | apply UpX.bin (by decide) | apply UpX.un (by decide)
  | 8, _ => by
    simp only [lawX]
    repeat first | exact ha.mono _ | exact hb.mono _ | exact UpX.num1 _ | exact UpX.num2 _ | exact UpX.pi _ | apply UpX.bin (by decide) | apply UpX.un (by decide)
  | 9, _ => by
    simp only [lawX]
    repeat first | exact ha.mono _ | exact hb.mono _ | exact UpX.num1 _ | exact UpX.num2 _ | exact UpX.pi _ | apply UpX.bin (by decide) | apply UpX.un (by decide)
  | 10, _ => by
    simp only [lawX]
    repeat first | exact ha.mono _ | exact hb.mono _ | exact UpX.num1 _ | exact UpX.num2 _ | exact UpX.pi _ | apply UpX.bin (by decide) | apply UpX.un (by decide)
  | 11, _ => by
    simp only [lawX]
    repeat first | exact ha.mono _ | exact hb.mono _ | exact UpX.num1 _ | exact UpX.num2 _ | exact UpX.pi _ | apply UpX.bin (by decide) | apply UpX.un (by decide)
  | 12, _ => by
    simp only [lawX]
    repeat first | exact ha.mono _ | exact hb.mono _ | exact UpX.num1 _ | exact UpX.num2 _ | exact UpX.pi _ | apply UpX.bin (by decide) | apply UpX.un (by decide)
  | 13, _ => by
    simp only [lawX]
    repeat first | exact ha.mono _ | exact hb.mono _ | exact UpX.num1 _ | exact UpX.num2 _ | exact UpX.pi _ | apply UpX.bin (by decide) | apply UpX.un (by decide)
  | 14, _ => by
    simp only [lawX]
    repeat first | exact ha.mono _ | exact hb.mono _ | exact UpX.num1 _ | exact UpX.num2 _ | exact UpX.pi _ | apply UpX.bin (by decide) | apply UpX.un (by decide)
  | 15, _ => by
    simp only [lawX]
    repeat first | exact ha.mono _ | exact hb.mono _ | exact UpX.num1 _ | exact UpX.num2 _ | exact UpX.pi _ | apply UpX.bin (by decide) | apply UpX.un (by decide)
  | 16, _ => by
    simp only [lawX]
    repeat first | exact ha.mono _ | exact hb.mono _ | exact UpX.num1 _ | exact UpX.num2 _ | exact UpX.pi _ | apply UpX.bin (by decide) | apply UpX.un (by decide)
  | 17, _ => by
    simp only [lawX]
    repeat first | exact ha.mono _ | exact hb.mono _ | exact UpX.num1 _ | exact UpX.num2 _ | exact UpX.pi _ | apply UpX.bin (by decide) | apply UpX.un (by decide)
  | 18, _ => by
    simp only [lawX]
    repeat first | exact ha.mono _ | exact hb.mono _ | exact UpX.num1 _ | exact UpX.num2 _ | exact UpX.pi _ | apply UpX.bin (by decide) | apply UpX.un (by decide)
  | 19, _ => by
    simp only [lawX]
    repeat first | exact ha.mono _ | exact hb.mono _ | exact UpX.num1 _ | exact UpX.num2 _ | exact UpX.pi _ | apply UpX.bin (by decide) | apply UpX.un (by decide)
  | 20, _ => by
    simp only [lawX]
    repeat first | exact ha.mono _ | exact hb.mono _ | exact UpX.num1 _ | exact UpX.num2 _ | exact UpX.pi _ | apply UpX.bin (by decide) | apply UpX.un (by decide)
  | 21, _ => by
    simp only [lawX]
    repeat first | exact ha.mono _ | exact hb.mono _ | exact UpX.num1 _ | exact UpX.num2 _ | exact UpX.pi _ | apply UpX.bin (by decide) | apply UpX.un (by decide)
  | 22, _ => by
    simp only [lawX]
    repeat first | exact ha.mono _ | exact hb.mono _ | exact UpX.num1 _ | exact UpX.num2 _ | exact UpX.pi _ | apply UpX.bin (by decide) | apply UpX.un (by decide)
  | 23, _ => by
    simp only [lawX]
    repeat first | exact ha.mono _ | exact hb.mono _ | exact UpX.num1 _ | exact UpX.num2 _ | exact UpX.pi _ | apply UpX.bin (by decide) | apply UpX.un (by decide)
  | 24, _ => by
    simp only [lawX]
    repeat first | exact ha.mono _ | exact hb.mono _ | exact UpX.num1 _ | exact UpX.num2 _ | exact UpX.pi _ | apply UpX.bin (by decide) | apply UpX.un (by decide)
  | 25, _ => by
    simp only [lawX]
    repeat first | exact ha.mono _ | exact hb.mono _ | exact UpX.num1 _ | exact UpX.num2 _ | exact UpX.pi _ | apply UpX.bin (by decide) | apply UpX.un (by decide)
  | 26, _ => by
    simp only [lawX]
    repeat first | exact ha.mono _ | exact hb.mono _ | exact UpX.num1 _ | exact UpX.num2 _ | exact UpX.pi _ | apply UpX.bin (by decide) | apply UpX.un (by decide)
  | 27, _ => by
    simp only [lawX]
    repeat first | exact ha.mono _ | exact hb.mono _ | exact UpX.num1 _ | exact UpX.num2 _ | exact UpX.pi _ | apply UpX.bin (by decide) | apply UpX.un (by decide)
  | 28, _ => by
    simp only [lawX]
    repeat first | exact ha.mono _ | exact hb.mono _ | exact UpX.num1 _ | exact UpX.num2 _ | exact UpX.pi _ | apply UpX.bin (by decide) | apply UpX.un (by decide)
  | 29, _ => by
    simp only [lawX]
    repeat first | exact ha.mono _ | exact hb.mono _ | exact UpX.num1 _ | exact UpX.num2 _ | exact UpX.pi _ | apply UpX.bin (by decide) | apply UpX.un (by decide)
  | n + 30, h => by omega
theorem echeck_small {t : Ex} (h : Good t) (hc : t.check = 0) : UpX 0 t := by
  unfold Ex.check at hc
  split at hc
  · split at hc
    · cases hc
    · rename_i hl
      simp only [Bool.or_eq_true, decide_eq_true_eq, not_or] at hl
      exact ⟨h, by omega, by have : 10000 * 2 ^ 0 = 10000 := rfl
                             omega⟩
  · cases hc
theorem UpX.small {t : Ex} (h : UpX 9 t) : t.high ≤ 399999 ∧ t.nodes ≤ 9999999 := by
  have h1 := h.nodes
  have h4 : 10000 * 2 ^ 9 = 5120000 := rfl
  exact ⟨by have := h.high; omega, by omega⟩
def Ex.zero : Ex := .mk 0 false [] [] []
/-- The tree and the error of a law of two trees, as the program tells it. -/
def lawE (i : Int) (a b : Ex) : Ex × Nat :=
  if i < 0 ∨ 30 ≤ i then (Ex.zero, 1) else if a.check ≠ 0 then (Ex.zero, a.check) else if b.check ≠ 0 then (Ex.zero, b.check) else if (lawX i.toNat a b).check ≠ 0 then (Ex.zero, (lawX i.toNat a b).check) else (lawX i.toNat a b, 0)
noncomputable abbrev lawsL : List Value := (List.range 30).map fun i => .func (.func (fnX i)) ⟨[]⟩ ⟨capX i⟩
noncomputable def FD (k : Nat) : Known := (((Known.none.add (fnX k) (eI (fun x : Ex × Ex => x.1.nd.val :: x.2.nd.val :: capX k) (fun x => k < 30 ∧ x.1.high ≤ 400000 ∧ x.2.high ≤ 400000) fun x => (lawX k x.1 x.2).nd.val)).add 19 (eI (fun _ : Unit => []) (fun _ => True) fun _ => lawsV)).add 20 (eI (fun x : Ex => [x.nd.val]) (fun x => Good x ∧ x.high ≤ 399999 ∧ x.nodes ≤ 9999999) fun x => i64 x.check)).add 21 (eI (fun x : Ex => [x.nd.val]) (fun x => Good x ∧ x.high ≤ 400000) fun x => x.nd.val)
theorem FD_ok (k : Nat) : (FD k).Ok PP GG tabsD :=
  Known.add_ok (Known.add_ok (Known.add_ok (Known.add_ok Known.none_ok (eI_ok fun x h => lawX_ok h.2.1 h.2.2 k h.1)) (eI_ok fun _ _ => laws_ok)) (eI_ok fun x h => echeck_ok h.1 h.2.1 h.2.2)) (eI_ok fun x h => own_ok x h.1 h.2)
theorem FD_own {k : Nat} {t : Ex} (h : Good t) (hh : t.high ≤ 400000) {M : Tr Blk} {nx : Nat} : (FD k).sm 21 [t.nd.val] M nx = some (t.nd.val, M, nx) := ex_call (add_same.trans (eI_of ex_inj1 ⟨h, hh⟩))
theorem FD_check {k : Nat} {t : Ex} (h : Good t) (hh : t.high ≤ 399999) (hn : t.nodes ≤ 9999999) {M : Tr Blk} {nx : Nat} : (FD k).sm 20 [t.nd.val] M nx = some (i64 t.check, M, nx) := ex_call ((add_other rfl).trans (add_same.trans (eI_of ex_inj1 ⟨h, hh, hn⟩)))
theorem FD_laws {k : Nat} {M : Tr Blk} {nx : Nat} : (FD k).sm 19 [] M nx = some (mkDat 30 lawsL, M, nx) := pureCall rfl rfl ((add_other rfl).trans ((add_other rfl).trans (add_same.trans (eI_of (x := ()) (fun _ _ _ => rfl) trivial))))
theorem fnX_ne : ∀ k, k < 30 → Nat.beq (fnX k) 21 = false ∧ Nat.beq (fnX k) 20 = false ∧ Nat.beq (fnX k) 19 = false := of_decide_eq_true (by kernel_rfl)
theorem lawx_inj (k : Nat) : ∀ x y : Ex × Ex, x.1.nd.val :: x.2.nd.val :: capX k = y.1.nd.val :: y.2.nd.val :: capX k → x = y := by
  intro x y h
  simp only [List.cons.injEq, and_true] at h
  exact ex_inj2 x y (by simp only [List.cons.injEq, and_true]; exact h)
theorem cap_frz (M : Tr Blk) : ∀ k, k < 30 → (capX k).map (frzV 12 M) = capX k ∧ (capX k).flatMap (offs 12 M) = [] := by
  intro k hk
  unfold capX
  split <;> exact ⟨rfl, rfl⟩
theorem FD_law {k : Nat} {a b : Ex} (hk : k < 30) (ha : a.high ≤ 400000) (hb : b.high ≤ 400000) {M : Tr Blk} {nx : Nat} : (FD k).sm (fnX k) (a.nd.val :: b.nd.val :: capX k) M nx = some ((lawX k a b).nd.val, M, nx) :=
  pureCall (by simp only [List.map_cons, frz_Nd, (cap_frz M k hk).1]) (by simp only [List.flatMap_cons, offs_Nd, (cap_frz M k hk).2, List.nil_append]) ((add_other (fnX_ne k hk).1).trans ((add_other (fnX_ne k hk).2.1).trans ((add_other (fnX_ne k hk).2.2).trans (add_same.trans (eI_of (x := (a, b)) (lawx_inj k) ⟨hk, ha, hb⟩)))))
namespace DLw
theorem q1 (i : Int) (a b : Nd) (cs : List Value) : ends PP XX GG 11 (door PP 8 [.int .i64 i, a.val, b.val] .nil GG) [.go, .go, .go, .go, .pure (mkDat 30 cs), .go, .go, .val (.bool true), .go, .go, .go, .go, .go] [6, 7] [4 + 2] = some (.tuple ⟨[.agg ⟨Own.zeroX⟩, i64 1]⟩, mkM [(4 + 2, .cells false Own.zeroX)], [.call 19 [] (mkM [(4, .cells false a.cells), (5, .cells false b.cells), (6, .cells false [i64 0, .bool false, .slice none 0 0, .slice none 0 0, .slice none 0 0])]) 7 (mkDat 30 cs) (mkM [(4, .cells false a.cells), (5, .cells false b.cells), (6, .cells false [i64 0, .bool false, .slice none 0 0, .slice none 0 0, .slice none 0 0])]) 7, .bin .lss 3 true (.int .i64 i) (i64 0) (.bool true)]) := by kernel_rfl
theorem q2 (i : Int) (a b : Nd) (cs : List Value) : ends PP XX GG 11 (door PP 8 [.int .i64 i, a.val, b.val] .nil GG) [.go, .go, .go, .go, .pure (mkDat 30 cs), .go, .go, .val (.bool false), .go, .go, .go, .go, .val (.bool true), .go, .go, .go, .go] [6, 7] [4 + 2] = some (.tuple ⟨[.agg ⟨Own.zeroX⟩, i64 1]⟩, mkM [(4 + 2, .cells false Own.zeroX)], [.call 19 [] (mkM [(4, .cells false a.cells), (5, .cells false b.cells), (6, .cells false [i64 0, .bool false, .slice none 0 0, .slice none 0 0, .slice none 0 0])]) 7 (mkDat 30 cs) (mkM [(4, .cells false a.cells), (5, .cells false b.cells), (6, .cells false [i64 0, .bool false, .slice none 0 0, .slice none 0 0, .slice none 0 0])]) 7, .bin .lss 3 true (.int .i64 i) (i64 0) (.bool false), .bin .geq 3 false (.int .i64 i) (i64 30) (.bool true)]) := by kernel_rfl
theorem q3 (k c : Nat) (a b : Nd) (cs : List Value) : ends PP XX GG 31 (door PP 8 [i64 k, a.val, b.val] .nil GG) [.go, .go, .go, .go, .pure (mkDat 30 cs), .go, .go, .val (.bool false), .go, .go, .go, .go, .val (.bool false), .go, .go, .go, .go, .go, .go, .go, .go, .go, .go, .go, .go, .pure (i64 c), .go, .go, .val (.bool true), .go, .go, .go, .go] [6, 7] [4 + 2] = some (.tuple ⟨[.agg ⟨Own.zeroX⟩, i64 c]⟩, mkM [(4 + 2, .cells false Own.zeroX)], [.call 19 [] (mkM [(4, .cells false a.cells), (5, .cells false b.cells), (6, .cells false [i64 0, .bool false, .slice none 0 0, .slice none 0 0, .slice none 0 0])]) 7 (mkDat 30 cs) (mkM [(4, .cells false a.cells), (5, .cells false b.cells), (6, .cells false [i64 0, .bool false, .slice none 0 0, .slice none 0 0, .slice none 0 0])]) 7, .bin .lss 3 true (i64 k) (i64 0) (.bool false), .bin .geq 3 false (i64 k) (i64 30) (.bool false), .call 20 [a.val] (mkM [(4, .cells false a.cells), (5, .cells false b.cells), (6, .cells false [i64 0, .bool false, .slice none 0 0, .slice none 0 0, .slice none 0 0]), (7, .cells false [.int .i64 a.op, .bool a.neg, natV a.num, natV a.den, mkDat a.n a.cs, .int .i64 b.op, .bool b.neg, natV b.num, natV b.den, mkDat b.n b.cs]), (8, .cells false a.cells)]) 9 (i64 c) (mkM [(4, .cells false a.cells), (5, .cells false b.cells), (6, .cells false [i64 0, .bool false, .slice none 0 0, .slice none 0 0, .slice none 0 0]), (7, .cells false [.int .i64 a.op, .bool a.neg, natV a.num, natV a.den, mkDat a.n a.cs, .int .i64 b.op, .bool b.neg, natV b.num, natV b.den, mkDat b.n b.cs]), (8, .cells false a.cells)]) 9, .bin .neq 43 true (i64 c) (i64 0) (.bool true)]) := by kernel_rfl
theorem q4 (k c c2 : Nat) (a b : Nd) (cs : List Value) : ends PP XX GG 49 (door PP 8 [i64 k, a.val, b.val] .nil GG) [.go, .go, .go, .go, .pure (mkDat 30 cs), .go, .go, .val (.bool false), .go, .go, .go, .go, .val (.bool false), .go, .go, .go, .go, .go, .go, .go, .go, .go, .go, .go, .go, .pure (i64 c), .go, .go, .val (.bool false), .go, .go, .go, .go, .go, .go, .go, .go, .pure (i64 c2), .go, .go, .val (.bool true), .go, .go, .go, .go] [6, 7] [4 + 2] = some (.tuple ⟨[.agg ⟨Own.zeroX⟩, i64 c2]⟩, mkM [(4 + 2, .cells false Own.zeroX)], [.call 19 [] (mkM [(4, .cells false a.cells), (5, .cells false b.cells), (6, .cells false [i64 0, .bool false, .slice none 0 0, .slice none 0 0, .slice none 0 0])]) 7 (mkDat 30 cs) (mkM [(4, .cells false a.cells), (5, .cells false b.cells), (6, .cells false [i64 0, .bool false, .slice none 0 0, .slice none 0 0, .slice none 0 0])]) 7, .bin .lss 3 true (i64 k) (i64 0) (.bool false), .bin .geq 3 false (i64 k) (i64 30) (.bool false), .call 20 [a.val] (mkM [(4, .cells false a.cells), (5, .cells false b.cells), (6, .cells false [i64 0, .bool false, .slice none 0 0, .slice none 0 0, .slice none 0 0]), (7, .cells false [.int .i64 a.op, .bool a.neg, natV a.num, natV a.den, mkDat a.n a.cs, .int .i64 b.op, .bool b.neg, natV b.num, natV b.den, mkDat b.n b.cs]), (8, .cells false a.cells)]) 9 (i64 c) (mkM [(4, .cells false a.cells), (5, .cells false b.cells), (6, .cells false [i64 0, .bool false, .slice none 0 0, .slice none 0 0, .slice none 0 0]), (7, .cells false [.int .i64 a.op, .bool a.neg, natV a.num, natV a.den, mkDat a.n a.cs, .int .i64 b.op, .bool b.neg, natV b.num, natV b.den, mkDat b.n b.cs]), (8, .cells false a.cells)]) 9, .bin .neq 43 true (i64 c) (i64 0) (.bool false), .call 20 [b.val] (mkM [(4, .cells false a.cells), (5, .cells false b.cells), (6, .cells false [i64 0, .bool false, .slice none 0 0, .slice none 0 0, .slice none 0 0]), (7, .cells false [.int .i64 a.op, .bool a.neg, natV a.num, natV a.den, mkDat a.n a.cs, .int .i64 b.op, .bool b.neg, natV b.num, natV b.den, mkDat b.n b.cs]), (8, .cells false a.cells), (9, .cells false b.cells)]) 10 (i64 c2) (mkM [(4, .cells false a.cells), (5, .cells false b.cells), (6, .cells false [i64 0, .bool false, .slice none 0 0, .slice none 0 0, .slice none 0 0]), (7, .cells false [.int .i64 a.op, .bool a.neg, natV a.num, natV a.den, mkDat a.n a.cs, .int .i64 b.op, .bool b.neg, natV b.num, natV b.den, mkDat b.n b.cs]), (8, .cells false a.cells), (9, .cells false b.cells)]) 10, .bin .neq 43 true (i64 c2) (i64 0) (.bool true)]) := by kernel_rfl
noncomputable def frR (k : Nat) (a b : Nd) (cs : List Value) : Fr := { onto PP XX GG 56 (door PP 8 [i64 0, xV 0 false [] [] 0 [], xV 0 false [] [] 0 []] .nil GG) [.go, .go, .go, .go, .pure (mkDat 30 []), .go, .go, .val (.bool false), .go, .go, .go, .go, .val (.bool false), .go, .go, .go, .go, .go, .go, .go, .go, .go, .go, .go, .go, .pure (i64 0), .go, .go, .val (.bool false), .go, .go, .go, .go, .go, .go, .go, .go, .pure (i64 0), .go, .go, .val (.bool false), .go, .go, .go] with T := mkT [(0, i64 k), (4, .pointer (some ⟨256 * 4, 0, none⟩)), (5, .pointer (some ⟨256 * (4 + 1), 0, none⟩)), (6, .pointer (some ⟨256 * (4 + 2), 0, none⟩)), (8, mkDat 30 cs)], M := mkM [(4, .cells false a.cells), (4 + 1, .cells false b.cells), (4 + 2, .cells false Own.zeroX)] }
noncomputable def frS (e : Nd) : Fr := { onto PP XX GG 3 (frR 0 ⟨0, false, [], [], 0, []⟩ ⟨0, false, [], [], 0, []⟩ []) [.go, .go, .val (mkPtr []), .val (.func (.func 46) ⟨[]⟩ ⟨[]⟩), .go, .go, .go, .pure (xV 0 false [] [] 0 []), .go] with T := mkT [(6, .pointer (some ⟨256 * (4 + 2), 0, none⟩)), (12, .pointer (some ⟨256 * (4 + 6), 0, none⟩))], M := mkM [(4 + 2, .cells false Own.zeroX), (4 + 6, .cells false e.cells)] }
theorem q5 (k c c2 : Nat) (a b : Nd) (cs : List Value) : walk PP XX GG 56 (door PP 8 [i64 k, a.val, b.val] .nil GG) [.go, .go, .go, .go, .pure (mkDat 30 cs), .go, .go, .val (.bool false), .go, .go, .go, .go, .val (.bool false), .go, .go, .go, .go, .go, .go, .go, .go, .go, .go, .go, .go, .pure (i64 c), .go, .go, .val (.bool false), .go, .go, .go, .go, .go, .go, .go, .go, .pure (i64 c2), .go, .go, .val (.bool false), .go, .go, .go] [0, 4, 5, 6, 8] [4, 4 + 1, 4 + 2] = some (frR k a b cs, [.call 19 [] (mkM [(4, .cells false a.cells), (5, .cells false b.cells), (6, .cells false [i64 0, .bool false, .slice none 0 0, .slice none 0 0, .slice none 0 0])]) 7 (mkDat 30 cs) (mkM [(4, .cells false a.cells), (5, .cells false b.cells), (6, .cells false [i64 0, .bool false, .slice none 0 0, .slice none 0 0, .slice none 0 0])]) 7, .bin .lss 3 true (i64 k) (i64 0) (.bool false), .bin .geq 3 false (i64 k) (i64 30) (.bool false), .call 20 [a.val] (mkM [(4, .cells false a.cells), (5, .cells false b.cells), (6, .cells false [i64 0, .bool false, .slice none 0 0, .slice none 0 0, .slice none 0 0]), (7, .cells false [.int .i64 a.op, .bool a.neg, natV a.num, natV a.den, mkDat a.n a.cs, .int .i64 b.op, .bool b.neg, natV b.num, natV b.den, mkDat b.n b.cs]), (8, .cells false a.cells)]) 9 (i64 c) (mkM [(4, .cells false a.cells), (5, .cells false b.cells), (6, .cells false [i64 0, .bool false, .slice none 0 0, .slice none 0 0, .slice none 0 0]), (7, .cells false [.int .i64 a.op, .bool a.neg, natV a.num, natV a.den, mkDat a.n a.cs, .int .i64 b.op, .bool b.neg, natV b.num, natV b.den, mkDat b.n b.cs]), (8, .cells false a.cells)]) 9, .bin .neq 43 true (i64 c) (i64 0) (.bool false), .call 20 [b.val] (mkM [(4, .cells false a.cells), (5, .cells false b.cells), (6, .cells false [i64 0, .bool false, .slice none 0 0, .slice none 0 0, .slice none 0 0]), (7, .cells false [.int .i64 a.op, .bool a.neg, natV a.num, natV a.den, mkDat a.n a.cs, .int .i64 b.op, .bool b.neg, natV b.num, natV b.den, mkDat b.n b.cs]), (8, .cells false a.cells), (9, .cells false b.cells)]) 10 (i64 c2) (mkM [(4, .cells false a.cells), (5, .cells false b.cells), (6, .cells false [i64 0, .bool false, .slice none 0 0, .slice none 0 0, .slice none 0 0]), (7, .cells false [.int .i64 a.op, .bool a.neg, natV a.num, natV a.den, mkDat a.n a.cs, .int .i64 b.op, .bool b.neg, natV b.num, natV b.den, mkDat b.n b.cs]), (8, .cells false a.cells), (9, .cells false b.cells)]) 10, .bin .neq 43 true (i64 c2) (i64 0) (.bool false)]) := by kernel_rfl
theorem q7 (e : Nd) (c3 : Nat) : ends PP XX GG 7 (frS e) [.go, .pure (i64 c3), .go, .go, .val (.bool true), .go, .go, .go, .go] [6, 7] [4 + 2] = some (.tuple ⟨[.agg ⟨Own.zeroX⟩, i64 c3]⟩, mkM [(4 + 2, .cells false Own.zeroX)], [.call 20 [e.val] (mkM [(6, .cells false [i64 0, .bool false, .slice none 0 0, .slice none 0 0, .slice none 0 0]), (10, .cells false e.cells)]) 11 (i64 c3) (mkM [(6, .cells false [i64 0, .bool false, .slice none 0 0, .slice none 0 0, .slice none 0 0]), (10, .cells false e.cells)]) 11, .bin .neq 43 true (i64 c3) (i64 0) (.bool true)]) := by kernel_rfl
theorem q8 (e : Nd) (c3 : Nat) : ends PP XX GG 8 (frS e) [.go, .pure (i64 c3), .go, .go, .val (.bool false), .go, .pure e.val, .go, .go] [6, 7] [4 + 2] = some (.tuple ⟨[e.val, i64 0]⟩, mkM [(4 + 2, .cells false e.cells)], [.call 20 [e.val] (mkM [(6, .cells false [i64 0, .bool false, .slice none 0 0, .slice none 0 0, .slice none 0 0]), (10, .cells false e.cells)]) 11 (i64 c3) (mkM [(6, .cells false [i64 0, .bool false, .slice none 0 0, .slice none 0 0, .slice none 0 0]), (10, .cells false e.cells)]) 11, .bin .neq 43 true (i64 c3) (i64 0) (.bool false), .call 21 [e.val] (mkM [(6, .cells false [i64 0, .bool false, .slice none 0 0, .slice none 0 0, .slice none 0 0]), (10, .cells false e.cells)]) 11 (e.val) (mkM [(6, .cells false [i64 0, .bool false, .slice none 0 0, .slice none 0 0, .slice none 0 0]), (10, .cells false e.cells)]) 11]) := by kernel_rfl
noncomputable abbrev M0 (a b : Nd) : Tr Blk := mkM [(4, .cells false a.cells), (4 + 1, .cells false b.cells), (4 + 2, .cells false Own.zeroX)]
noncomputable abbrev M1 (a b : Nd) : Tr Blk := mkM [(4, .cells false a.cells), (4 + 1, .cells false b.cells), (4 + 2, .cells false Own.zeroX), (4 + 6, .cells false Own.zeroX)]
noncomputable abbrev M2 (a b e : Nd) : Tr Blk := mkM [(4, .cells false a.cells), (4 + 1, .cells false b.cells), (4 + 2, .cells false Own.zeroX), (4 + 6, .cells false e.cells)]
noncomputable abbrev ob (f k : Nat) (a b e : Nd) (cs cap : List Value) : List Ob := [.idxA 64 (mkDat 30 cs) (i64 k) (mkPtr (cs.drop k)), .load (M0 a b) 67 (mkPtr (cs.drop k)) (.func (.func f) ⟨[]⟩ ⟨cap⟩), .nice (.func (.func f) ⟨[]⟩ ⟨cap⟩), .nice a.val, .nice b.val, .niceL Own.zeroX, .load (M1 a b) 31 (.pointer (some ⟨256 * (4 + 1), 0, none⟩)) b.val, .load (M1 a b) 31 (.pointer (some ⟨256 * 4, 0, none⟩)) a.val, .call f (a.val :: b.val :: cap) (M1 a b) (4 + 7) e.val (M1 a b) (4 + 7)]
theorem q6 (k : Nat) (a b e : Nd) (cs cap : List Value) : ∀ i, i < 30 → walk PP XX GG 3 (frR k a b cs) [.go, .go, .val (mkPtr (cs.drop k)), .val (.func (.func (fnX i)) ⟨[]⟩ ⟨cap⟩), .go, .go, .go, .pure e.val, .go] [6, 12] [4 + 2, 4 + 6] = some (frS e, ob (fnX i) k a b e cs cap)
  | 0, _ => by kernel_rfl
  | 1, _ => by kernel_rfl
  | 2, _ => by kernel_rfl
  | 3, _ => by kernel_rfl
  | 4, _ => by kernel_rfl
  | 5, _ => by kernel_rfl
  | 6, _ => by kernel_rfl
  | 7, _ => by kernel_rfl
  | 8, _ => by kernel_rfl
  | 9, _ => by kernel_rfl
  | 10, _ => by kernel_rfl
  | 11, _ => by kernel_rfl
  | 12, _ => by kernel_rfl
  | 13, _ => by kernel_rfl
  | 14, _ => by kernel_rfl
  | 15, _ => by kernel_rfl
  | 16, _ => by kernel_rfl
  | 17, _ => by kernel_rfl
  | 18, _ => by kernel_rfl
  | 19, _ => by kernel_rfl
  | 20, _ => by kernel_rfl
  | 21, _ => by kernel_rfl
  | 22, _ => by kernel_rfl
  | 23, _ => by kernel_rfl
  | 24, _ => by kernel_rfl
  | 25, _ => by kernel_rfl
  | 26, _ => by kernel_rfl
  | 27, _ => by kernel_rfl
  | 28, _ => by kernel_rfl
  | 29, _ => by kernel_rfl
  | n + 30, h => by omega
end DLw
theorem drop_laws {k : Nat} (hk : k < 30) : lawsL.drop k = .func (.func (fnX k)) ⟨[]⟩ ⟨capX k⟩ :: lawsL.drop (k + 1) := by
  rw [List.drop_eq_getElem_cons (by simpa using hk)]
  simp
theorem nice_law : ∀ k, k < 30 → veq 1000000 (.func (.func (fnX k)) ⟨[]⟩ ⟨capX k⟩) (.func (.func (fnX k)) ⟨[]⟩ ⟨capX k⟩) = true := of_decide_eq_true (by kernel_rfl)
theorem u64t : PP.underlying 64 = some (.slice 67) := by kernel_rfl
theorem s67t : aSize PP 67 = some 1 := by kernel_rfl
theorem a67t : aAgg PP 67 = some false := by kernel_rfl
theorem zfrzX (M : Tr Blk) (c : Nat) : Frz M .nil (.tuple ⟨[.agg ⟨Own.zeroX⟩, i64 c]⟩) (.tuple ⟨[Ex.zero.nd.val, i64 c]⟩) := .tuple (.cons (.agg (.cons .same (.cons .same (.cons .nil (.cons .nil (.cons .nil .nil)))))) (.cons .same .nil))
theorem dlaw_ok {i : Int} {a b : Ex} (ha : Good a) (hb : Good b) (hah : a.high ≤ 399999) (hbh : b.high ≤ 399999) (han : a.nodes ≤ 9999999) (hbn : b.nodes ≤ 9999999) : PureOk PP GG tabsD 8 [.int .i64 i, a.nd.val, b.nd.val] (.tuple ⟨[(lawE i a b).1.nd.val, i64 (lawE i a b).2]⟩) := by
  refine PureOk.of' ?_ (nl_pair (Ex.nl _)) (by kernel_rfl) ?_
  · intro x hx
    simp only [List.mem_cons, List.not_mem_nil, or_false] at hx
    rcases hx with rfl | rfl | rfl
    · exact nl_int
    · exact Ex.nl _
    · exact Ex.nl _
  · unfold lawE
    by_cases h0 : i < 0 ∨ 30 ≤ i
    · rw [if_pos h0]
      by_cases h1 : i < 0
      · exact PT.ends (envOf (FD_ok 0)) (DLw.q1 i a.nd b.nd lawsL) ⟨FD_laws, bin_lss (w := 0) (decide_eq_true h1)⟩ (zfrzX _ _)
      · exact PT.ends (envOf (FD_ok 0)) (DLw.q2 i a.nd b.nd lawsL) ⟨FD_laws, bin_lss (w := 0) (decide_eq_false h1), bin_geq (w := 30) (decide_eq_true (by omega))⟩ (zfrzX _ _)
    · rw [if_neg h0]
      obtain ⟨k, rfl⟩ : ∃ k : Nat, i = k := ⟨i.toNat, by omega⟩
      have hk : k < 30 := by omega
      have hz : aBin PP .lss 3 true (i64 k) (i64 0) = some (.bool false) := lss_f (Nat.zero_le _)
      have hz2 : aBin PP .geq 3 false (i64 k) (i64 30) = some (.bool false) := geq_f hk
      by_cases ha0 : a.check = 0
      · by_cases hb0 : b.check = 0
        · rw [if_neg (fun h => h ha0), if_neg (fun h => h hb0)]
          have hu := lawX_up (echeck_small ha ha0) (echeck_small hb hb0) k hk
          have hs := hu.small
          have na := okV_nice (n := 2 * a.high + 4) (by omega) a.ok
          have nb := okV_nice (n := 2 * b.high + 4) (by omega) b.ok
          refine PT.walk (envOf (FD_ok k)) (DLw.q5 k a.check b.check a.nd b.nd lawsL) ⟨FD_laws, hz, hz2, FD_check ha hah han, bin_neq (decide_eq_false (by rw [ha0]; simp)), FD_check hb hbh hbn, bin_neq (decide_eq_false (by rw [hb0]; simp))⟩ ?_
          have hz0 : veqL 1000000 Own.zeroX Own.zeroX = true := by rfl
          have hld : aLoad PP (DLw.M0 a.nd b.nd) 67 (mkPtr (lawsL.drop k)) = some (.func (.func (fnX k)) ⟨[]⟩ ⟨capX k⟩) := load_ptr a67t (by rw [drop_laws hk]; rfl)
          refine PT.walk (envOf (FD_ok k)) (DLw.q6 k a.nd b.nd (lawX k a b).nd lawsL (capX k) k hk) ⟨idx_dat u64t s67t hk, hld, nice_law k hk, na, nb, hz0, (by show aLoad _ _ _ _ = _; kernel_rfl), (by show aLoad _ _ _ _ = _; kernel_rfl), FD_law hk (by omega) (by omega)⟩ ?_
          show PT PP GG tabsD _ (.tuple ⟨[(if (lawX k a b).check ≠ 0 then (Ex.zero, (lawX k a b).check) else (lawX k a b, 0)).1.nd.val, i64 (if (lawX k a b).check ≠ 0 then (Ex.zero, (lawX k a b).check) else (lawX k a b, 0)).2]⟩)
          by_cases hc : (lawX k a b).check = 0
          · rw [if_neg (fun h => h hc)]
            exact PT.ends (envOf (FD_ok k)) (DLw.q8 (lawX k a b).nd (lawX k a b).check) ⟨FD_check hu.good hs.1 hs.2, bin_neq (decide_eq_false (by rw [hc]; simp)), FD_own hu.good (by omega)⟩ .same
          · rw [if_pos hc]
            exact PT.ends (envOf (FD_ok k)) (DLw.q7 (lawX k a b).nd (lawX k a b).check) ⟨FD_check hu.good hs.1 hs.2, bin_neq (decide_eq_true (by simpa using hc))⟩ (zfrzX _ _)
        · rw [if_neg (fun h => h ha0), if_pos hb0]
          exact PT.ends (envOf (FD_ok k)) (DLw.q4 k a.check b.check a.nd b.nd lawsL) ⟨FD_laws, hz, hz2, FD_check ha hah han, bin_neq (decide_eq_false (by rw [ha0]; simp)), FD_check hb hbh hbn, bin_neq (decide_eq_true (by simpa using hb0))⟩ (zfrzX _ _)
      · rw [if_pos ha0]
        exact PT.ends (envOf (FD_ok k)) (DLw.q3 k a.check a.nd b.nd lawsL) ⟨FD_laws, hz, hz2, FD_check ha hah han, bin_neq (decide_eq_true (by simpa using ha0))⟩ (zfrzX _ _)
#print axioms dlaw_ok
end Go.Proofs.YtihloomkgpflmaaGreatDoor

namespace Go.Proofs.YtihloomkgpflmaaGreatDoor
open Go.Proofs.YtihloomkgpflmaaGreatDoor.Vm
theorem top_zero (l : List Nat) : ∀ k, k ≤ l.length → (top l k = 0 ↔ ∀ j, j < k → dig l j = 0)
  | 0, _ => by simp [top]
  | k + 1, h => by
    have hk : k < l.length := by omega
    have hg : l[k]? = some (l[k]) := List.getElem?_eq_getElem hk
    have hd : dig l k = l[k] := by simp [dig, hg]
    unfold top
    rw [hg]
    by_cases h0 : l[k] = 0
    · rw [if_pos (by rw [h0])]
      rw [top_zero l k (by omega)]
      constructor
      · intro hj j hjk
        by_cases hjk2 : j = k
        · subst hjk2; rw [hd]; exact h0
        · exact hj j (by omega)
      · intro hj j hjk; exact hj j (by omega)
    · rw [if_neg (by simpa using h0)]
      constructor
      · intro h1; omega
      · intro hj; exact absurd (hd.symm.trans (hj k (by omega))) h0
theorem norm_nil (l : List Nat) : (norm l).length = 0 ↔ ∀ x ∈ l, x = 0 := by
  have h1 : (norm l).length = top l l.length := by
    unfold norm; rw [List.length_take]; have := top_le l l.length; omega
  rw [h1, top_zero l l.length (Nat.le_refl _)]
  constructor
  · intro h x hx
    obtain ⟨j, hj, rfl⟩ := List.getElem_of_mem hx
    have := h j hj
    simpa [dig, List.getElem?_eq_getElem hj] using this
  · intro h j hj
    have := h _ (List.getElem_mem hj)
    simpa [dig, List.getElem?_eq_getElem hj] using this
theorem ofN_nil (l : List Nat) : (ofN l).length = 0 ↔ (topN l).length = 0 := by
  show (norm (ofO l l.length)).length = 0 ↔ (norm l).length = 0
  rw [norm_nil, norm_nil]
  constructor
  · intro h x hx
    obtain ⟨j, hj, rfl⟩ := List.getElem_of_mem hx
    have hd : dig l j = l[j] := by simp [dig, List.getElem?_eq_getElem hj]
    have h1 := h (dig l j % 4294967296) (by simp only [ofO, List.mem_flatMap, List.mem_range]; exact ⟨j, hj, by simp⟩)
    have h2 := h (dig l j / 4294967296) (by simp only [ofO, List.mem_flatMap, List.mem_range]; exact ⟨j, hj, by simp⟩)
    rw [hd] at h1 h2
    omega
  · intro h x hx
    simp only [ofO, List.mem_flatMap, List.mem_range] at hx
    obtain ⟨j, hj, hx⟩ := hx
    have hd : dig l j = l[j] := by simp [dig, List.getElem?_eq_getElem hj]
    have h0 := h _ (List.getElem_mem hj)
    rw [hd, h0] at hx
    simpa using hx
theorem bits_32 {v : Nat} (h : v < 4294967296) : bitsN v ≤ 32 := by
  unfold bitsN
  have := bitsF_of 32 32 v (by simpa using h)
  rw [show (64 : Nat) = 32 + 32 from rfl, this]
  exact bits_le 32 v
theorem lenN_le {l : List Nat} (h : Digs l) : lenN l ≤ 32 * l.length := by
  unfold lenN
  split
  · omega
  · have := bits_32 (h.dig (l.length - 1)); omega
theorem quo_num {a b : List Nat} (ha : Num a) (hb : Num b) (h0 : b ≠ []) : Num (quoN a b) :=
  ⟨quoN_digs ha.digs hb.digs hb.nrm (val_pos hb.nrm h0), norm_nrm _, Nat.le_trans (quoN_length a b) ha.len⟩
theorem mkR_num {s : Bool} {a b : List Nat} (ha : Num a) (hb : Num b) (h0 : b ≠ []) : (Num (mkR s a b).2.1 ∧ (mkR s a b).2.1.length ≤ a.length) ∧ (Num (mkR s a b).2.2 ∧ (mkR s a b).2.2.length ≤ b.length) := by
  unfold mkR
  have hbl : 1 ≤ b.length := List.length_pos_iff.2 h0
  split
  · refine ⟨⟨num_nil, by simp⟩, ?_, ?_⟩
    · have : intN 1 = [1] := by kernel_rfl
      rw [this]; exact num_one (by omega) (by omega)
    · have : intN 1 = [1] := by kernel_rfl
      rw [this]; exact hbl
  · rename_i hl
    have hne : a ≠ [] := by intro h; exact hl (by rw [h]; rfl)
    obtain ⟨g1, g2⟩ := gcd_num ha hb hne
    exact ⟨⟨quo_num ha g1 g2, quoN_length _ _⟩, ⟨quo_num hb g1 g2, quoN_length _ _⟩⟩
/-- A node of the program's and what the references make of it. -/
theorem node_ok {o : Int} {n : Bool} {a b : List Nat} {m : List Er} (ha : a.length ≤ 1048576) (hb : b.length ≤ 1048576) (ha2 : ∀ x ∈ a, x < 18446744073709551616) (hb2 : ∀ x ∈ b, x < 18446744073709551616) (hm : ∀ x ∈ m, Fine x) :
    Fine (treeN o n a b m) ∧ (treeN o n a b m).right = (shapeB o n a b m.length && rrightL m) ∧ (treeN o n a b m).high = rhighL m + 1 ∧ (treeN o n a b m).nodes = rnodesL m + 1 := by
  have na := ofN_num ha2 (by omega)
  have nb := ofN_num hb2 (by omega)
  have hla : (ofN a).length ≤ 2097152 := by
    have h1 := norm_length (ofO a a.length); have h2 := ofO_length a a.length
    unfold ofN; omega
  have hlb : (ofN b).length ≤ 2097152 := by
    have h1 := norm_length (ofO b b.length); have h2 := ofO_length b b.length
    unfold ofN; omega
  have l0 : lenN [] = 0 := rfl
  unfold treeN
  by_cases h0 : o = 0
  · rw [if_pos h0]
    by_cases h1 : (ofN b).length = 0
    · rw [if_pos h1]
      refine ⟨.mk num_nil num_nil hm, ?_, by simp [Er.high], by simp [Er.nodes]⟩
      have h2 := (ofN_nil b).1 h1
      simp only [Er.right, rightB, shapeB, if_pos h0]
      rw [decide_eq_false (p := 0 < (topN b).length) (by omega)]
      simp
    · rw [if_neg h1]
      have h2 : 0 < (topN b).length := Nat.pos_of_ne_zero fun h => h1 ((ofN_nil b).2 h)
      obtain ⟨⟨q1, q2⟩, q3, q4⟩ := mkR_num (s := n) na nb (fun h => h1 (by rw [h]; rfl))
      have w1 := lenN_le q1.digs
      have w2 := lenN_le q3.digs
      refine ⟨.mk q1 q3 hm, ?_, by simp [Er.high], by simp [Er.nodes]⟩
      simp only [Er.right, rightB, shapeB, if_pos h0]
      rw [decide_eq_true h2, decide_eq_true (p := lenN (mkR n (ofN a) (ofN b)).2.1 ≤ 67108864) (by omega), decide_eq_true (p := lenN (mkR n (ofN a) (ofN b)).2.2 ≤ 67108864) (by omega)]
      simp
  · rw [if_neg h0]
    refine ⟨.mk num_nil num_nil hm, ?_, by simp [Er.high], by simp [Er.nodes]⟩
    simp only [Er.right, rightB, shapeB, if_neg h0, l0]
    have e1 : decide (0 < a.length) = !decide (a.length = 0) := by by_cases h : a.length = 0 <;> simp [h, Nat.pos_iff_ne_zero]
    have e2 : decide (0 < b.length) = !decide (b.length = 0) := by by_cases h : b.length = 0 <;> simp [h, Nat.pos_iff_ne_zero]
    rw [e1, e2]
    cases decide (arityZ o = m.length) <;> cases n <;> cases decide (a.length = 0) <;> cases decide (b.length = 0) <;> simp
theorem tree_plain : ∀ e : Ex, Good e → Fine e.tree ∧ e.tree.right = e.look ∧ e.tree.high = e.high ∧ e.tree.nodes = e.nodes
  | .mk o n a b l, hg => by
    obtain ⟨h1, h2, h3, h4, h6⟩ : a.length ≤ 1048576 ∧ b.length ≤ 1048576 ∧ (∀ x ∈ a, x < 18446744073709551616) ∧ (∀ x ∈ b, x < 18446744073709551616) ∧ ∀ x ∈ l, Good x := by
      cases hg; exact ⟨‹_›, ‹_›, ‹_›, ‹_›, ‹_›⟩
    have hl : ∀ m : List Ex, (∀ x ∈ m, Fine x.tree ∧ x.tree.right = x.look ∧ x.tree.high = x.high ∧ x.tree.nodes = x.nodes) → (∀ x ∈ treeL m, Fine x) ∧ rrightL (treeL m) = lookL m ∧ rhighL (treeL m) = highL m ∧ rnodesL (treeL m) = nodesL m := by
      intro m hm
      induction m with
      | nil => exact ⟨fun x hx => by simp [treeL] at hx, rfl, rfl, rfl⟩
      | cons c m ih =>
        obtain ⟨i1, i2, i3, i4⟩ := ih fun x hx => hm x (List.mem_cons_of_mem _ hx)
        obtain ⟨c1, c2, c3, c4⟩ := hm c List.mem_cons_self
        refine ⟨fun x hx => ?_, by simp only [treeL, rrightL, lookL, c2, i2], by simp only [treeL, rhighL, highL, c3, i3], by simp only [treeL, rnodesL, nodesL, c4, i4]⟩
        simp only [treeL, List.mem_cons] at hx
        rcases hx with rfl | hx
        · exact c1
        · exact i1 x hx
    obtain ⟨i1, i2, i3, i4⟩ := hl l fun x hx => tree_plain x (h6 x hx)
    obtain ⟨t1, t2, t3, t4⟩ := node_ok (o := o) (n := n) h1 h2 h3 h4 i1
    rw [treeL_length, i2] at t2
    rw [i3] at t3
    rw [i4] at t4
    exact ⟨t1, t2, by simp only [Ex.tree, Ex.high]; exact t3, by simp only [Ex.tree, Ex.nodes]; exact t4⟩
  termination_by e => SizeOf.sizeOf e
  decreasing_by exact ex_size hx _ _ _ _
theorem check_same {e : Ex} (h : Good e) : e.tree.check = e.check := by
  obtain ⟨_, h2, h3, h4⟩ := tree_plain e h
  unfold Er.check Ex.check Er.large
  rw [h2, h3, h4]
theorem tree_fair {e : Ex} (h : Good e) (hh : e.high ≤ 400000) (hn : e.nodes ≤ 9999999) : Fair e.tree := by
  obtain ⟨h1, h2, h3, h4⟩ := tree_plain e h
  exact ⟨h1, by omega, by omega⟩
#print axioms check_same
#print axioms tree_fair
end Go.Proofs.YtihloomkgpflmaaGreatDoor

namespace Go.Proofs.YtihloomkgpflmaaGreatDoor
open Go.Proofs.YtihloomkgpflmaaGreatDoor.Vm
namespace DL
noncomputable abbrev MG (a b : Nd) : Tr Blk := mkM [(4, .cells false a.cells), (4 + 1, .cells false b.cells), (4 + 2, .frz (a.cells ++ b.cells))]
theorem q1 (i : Int) (a b : Nd) : ends PP XX GG 9 (door PP 3 [.int .i64 i, a.val, b.val] .nil GG) [.go, .go, .go, .go, .go, .go, .mem (.bool true) (MG a b) (4 + 3), .pure (.bool true), .go] [6] [] = some (.bool true, mkM [], [.call 4 [.slice (some (⟨1536, 0, none⟩)) 2 2] (mkM [(4, .cells false a.cells), (5, .cells false b.cells), (6, .cells false [.int .i64 a.op, .bool a.neg, natV a.num, natV a.den, mkDat a.n a.cs, .int .i64 b.op, .bool b.neg, natV b.num, natV b.den, mkDat b.n b.cs])]) 7 (.bool true) (mkM [(4, .cells false a.cells), (5, .cells false b.cells), (6, .frz [.int .i64 a.op, .bool a.neg, natV a.num, natV a.den, mkDat a.n a.cs, .int .i64 b.op, .bool b.neg, natV b.num, natV b.den, mkDat b.n b.cs])]) 7, .call 5 [] (mkM [(4, .cells false a.cells), (5, .cells false b.cells), (6, .frz [.int .i64 a.op, .bool a.neg, natV a.num, natV a.den, mkDat a.n a.cs, .int .i64 b.op, .bool b.neg, natV b.num, natV b.den, mkDat b.n b.cs])]) 7 (.bool true) (mkM [(4, .cells false a.cells), (5, .cells false b.cells), (6, .frz [.int .i64 a.op, .bool a.neg, natV a.num, natV a.den, mkDat a.n a.cs, .int .i64 b.op, .bool b.neg, natV b.num, natV b.den, mkDat b.n b.cs])]) 7]) := by kernel_rfl
theorem q2 (i : Int) (a b : Nd) (ta tb t : Rd) (c : Nat) : ends PP XX GG 18 (door PP 3 [.int .i64 i, a.val, b.val] .nil GG) [.go, .go, .go, .go, .go, .go, .mem (.bool false) (MG a b) (4 + 3), .go, .go, .go, .go, .pure ta.val, .pure tb.val, .pure (.tuple ⟨[t.val, i64 c]⟩), .go, .go, .go, .go, .go, .go, .go, .go, .pure (.tuple ⟨[xV 0 false [] [] 0 [], i64 c]⟩), .go, .go, .go, .go, .go, .go, .go, .val (.bool true), .go, .pure (i64 c), .go, .val (.bool true), .go, .go, .go, .go, .go, .go, .go, .go, .go, .go, .go, .go, .go, .go, .go, .go, .go, .go, .go, .pure (.bool true), .go, .go] [6] [] = some (.bool true, mkM [], [.call 4 [.slice (some (⟨1536, 0, none⟩)) 2 2] (mkM [(4, .cells false a.cells), (5, .cells false b.cells), (6, .cells false [.int .i64 a.op, .bool a.neg, natV a.num, natV a.den, mkDat a.n a.cs, .int .i64 b.op, .bool b.neg, natV b.num, natV b.den, mkDat b.n b.cs])]) 7 (.bool false) (mkM [(4, .cells false a.cells), (5, .cells false b.cells), (6, .frz [.int .i64 a.op, .bool a.neg, natV a.num, natV a.den, mkDat a.n a.cs, .int .i64 b.op, .bool b.neg, natV b.num, natV b.den, mkDat b.n b.cs])]) 7, .nice (a.val), .nice (b.val), .niceL [i64 0, .bool false, .slice none 0 0, .slice none 0 0, .bool false, .slice none 0 0], .load (mkM [(4, .cells false a.cells), (5, .cells false b.cells), (6, .frz [.int .i64 a.op, .bool a.neg, natV a.num, natV a.den, mkDat a.n a.cs, .int .i64 b.op, .bool b.neg, natV b.num, natV b.den, mkDat b.n b.cs]), (7, .cells false [i64 0, .bool false, .slice none 0 0, .slice none 0 0, .bool false, .slice none 0 0])]) 31 (.pointer (some (⟨1280, 0, none⟩))) (b.val), .load (mkM [(4, .cells false a.cells), (5, .cells false b.cells), (6, .frz [.int .i64 a.op, .bool a.neg, natV a.num, natV a.den, mkDat a.n a.cs, .int .i64 b.op, .bool b.neg, natV b.num, natV b.den, mkDat b.n b.cs]), (7, .cells false [i64 0, .bool false, .slice none 0 0, .slice none 0 0, .bool false, .slice none 0 0])]) 31 (.pointer (some (⟨1024, 0, none⟩))) (a.val), .call 7 [a.val] (mkM [(4, .cells false a.cells), (5, .cells false b.cells), (6, .frz [.int .i64 a.op, .bool a.neg, natV a.num, natV a.den, mkDat a.n a.cs, .int .i64 b.op, .bool b.neg, natV b.num, natV b.den, mkDat b.n b.cs]), (7, .cells false [i64 0, .bool false, .slice none 0 0, .slice none 0 0, .bool false, .slice none 0 0])]) 8 (ta.val) (mkM [(4, .cells false a.cells), (5, .cells false b.cells), (6, .frz [.int .i64 a.op, .bool a.neg, natV a.num, natV a.den, mkDat a.n a.cs, .int .i64 b.op, .bool b.neg, natV b.num, natV b.den, mkDat b.n b.cs]), (7, .cells false [i64 0, .bool false, .slice none 0 0, .slice none 0 0, .bool false, .slice none 0 0])]) 8, .load (mkM [(4, .cells false a.cells), (5, .cells false b.cells), (6, .frz [.int .i64 a.op, .bool a.neg, natV a.num, natV a.den, mkDat a.n a.cs, .int .i64 b.op, .bool b.neg, natV b.num, natV b.den, mkDat b.n b.cs]), (7, .cells false [i64 0, .bool false, .slice none 0 0, .slice none 0 0, .bool false, .slice none 0 0])]) 31 (.pointer (some (⟨1280, 0, none⟩))) (b.val), .call 7 [b.val] (mkM [(4, .cells false a.cells), (5, .cells false b.cells), (6, .frz [.int .i64 a.op, .bool a.neg, natV a.num, natV a.den, mkDat a.n a.cs, .int .i64 b.op, .bool b.neg, natV b.num, natV b.den, mkDat b.n b.cs]), (7, .cells false [i64 0, .bool false, .slice none 0 0, .slice none 0 0, .bool false, .slice none 0 0])]) 8 (tb.val) (mkM [(4, .cells false a.cells), (5, .cells false b.cells), (6, .frz [.int .i64 a.op, .bool a.neg, natV a.num, natV a.den, mkDat a.n a.cs, .int .i64 b.op, .bool b.neg, natV b.num, natV b.den, mkDat b.n b.cs]), (7, .cells false [i64 0, .bool false, .slice none 0 0, .slice none 0 0, .bool false, .slice none 0 0])]) 8, .call 6 [.int .i64 i, ta.val, tb.val] (mkM [(4, .cells false a.cells), (5, .cells false b.cells), (6, .frz [.int .i64 a.op, .bool a.neg, natV a.num, natV a.den, mkDat a.n a.cs, .int .i64 b.op, .bool b.neg, natV b.num, natV b.den, mkDat b.n b.cs]), (7, .cells false [i64 0, .bool false, .slice none 0 0, .slice none 0 0, .bool false, .slice none 0 0])]) 8 (.tuple ⟨[t.val, i64 c]⟩) (mkM [(4, .cells false a.cells), (5, .cells false b.cells), (6, .frz [.int .i64 a.op, .bool a.neg, natV a.num, natV a.den, mkDat a.n a.cs, .int .i64 b.op, .bool b.neg, natV b.num, natV b.den, mkDat b.n b.cs]), (7, .cells false [i64 0, .bool false, .slice none 0 0, .slice none 0 0, .bool false, .slice none 0 0])]) 8, .call 8 [.int .i64 i, a.val, b.val] (mkM [(4, .cells false a.cells), (5, .cells false b.cells), (6, .frz [.int .i64 a.op, .bool a.neg, natV a.num, natV a.den, mkDat a.n a.cs, .int .i64 b.op, .bool b.neg, natV b.num, natV b.den, mkDat b.n b.cs]), (7, .cells false t.cells)]) 8 (.tuple ⟨[.agg ⟨[i64 0, .bool false, mkDat 0 [], mkDat 0 [], mkDat 0 []]⟩, i64 c]⟩) (mkM [(4, .cells false a.cells), (5, .cells false b.cells), (6, .frz [.int .i64 a.op, .bool a.neg, natV a.num, natV a.den, mkDat a.n a.cs, .int .i64 b.op, .bool b.neg, natV b.num, natV b.den, mkDat b.n b.cs]), (7, .cells false t.cells)]) 8, .bin .neq 3 true (i64 c) (i64 0) (.bool true), .call 9 [i64 c] (mkM [(4, .cells false a.cells), (5, .cells false b.cells), (6, .frz [.int .i64 a.op, .bool a.neg, natV a.num, natV a.den, mkDat a.n a.cs, .int .i64 b.op, .bool b.neg, natV b.num, natV b.den, mkDat b.n b.cs]), (7, .cells false t.cells), (8, .cells false [i64 0, .bool false, mkDat 0 [], mkDat 0 [], mkDat 0 []])]) 9 (i64 c) (mkM [(4, .cells false a.cells), (5, .cells false b.cells), (6, .frz [.int .i64 a.op, .bool a.neg, natV a.num, natV a.den, mkDat a.n a.cs, .int .i64 b.op, .bool b.neg, natV b.num, natV b.den, mkDat b.n b.cs]), (7, .cells false t.cells), (8, .cells false [i64 0, .bool false, mkDat 0 [], mkDat 0 [], mkDat 0 []])]) 9, .bin .eql 3 false (i64 c) (i64 c) (.bool true), .call 5 [] (mkM [(4, .cells false a.cells), (5, .cells false b.cells), (6, .frz [.int .i64 a.op, .bool a.neg, natV a.num, natV a.den, mkDat a.n a.cs, .int .i64 b.op, .bool b.neg, natV b.num, natV b.den, mkDat b.n b.cs]), (7, .cells false t.cells), (8, .cells false [i64 0, .bool false, mkDat 0 [], mkDat 0 [], mkDat 0 []])]) 9 (.bool true) (mkM [(4, .cells false a.cells), (5, .cells false b.cells), (6, .frz [.int .i64 a.op, .bool a.neg, natV a.num, natV a.den, mkDat a.n a.cs, .int .i64 b.op, .bool b.neg, natV b.num, natV b.den, mkDat b.n b.cs]), (7, .cells false t.cells), (8, .cells false [i64 0, .bool false, mkDat 0 [], mkDat 0 [], mkDat 0 []])]) 9]) := by kernel_rfl
theorem q3 (i : Int) (a b e : Nd) (ta tb t : Rd) : ends PP XX GG 19 (door PP 3 [.int .i64 i, a.val, b.val] .nil GG) [.go, .go, .go, .go, .go, .go, .mem (.bool false) (MG a b) (4 + 3), .go, .go, .go, .go, .pure ta.val, .pure tb.val, .pure (.tuple ⟨[t.val, i64 0]⟩), .go, .go, .go, .go, .go, .go, .go, .go, .pure (.tuple ⟨[e.val, i64 0]⟩), .go, .go, .go, .go, .go, .go, .go, .go, .go, .pure (i64 0), .go, .go, .go, .go, .pure (.bool true), .go, .go, .pure (.bool true), .go, .go] [6] [] = some (.bool true, mkM [], [.call 4 [.slice (some (⟨1536, 0, none⟩)) 2 2] (mkM [(4, .cells false a.cells), (5, .cells false b.cells), (6, .cells false [.int .i64 a.op, .bool a.neg, natV a.num, natV a.den, mkDat a.n a.cs, .int .i64 b.op, .bool b.neg, natV b.num, natV b.den, mkDat b.n b.cs])]) 7 (.bool false) (mkM [(4, .cells false a.cells), (5, .cells false b.cells), (6, .frz [.int .i64 a.op, .bool a.neg, natV a.num, natV a.den, mkDat a.n a.cs, .int .i64 b.op, .bool b.neg, natV b.num, natV b.den, mkDat b.n b.cs])]) 7, .nice (a.val), .nice (b.val), .niceL [i64 0, .bool false, .slice none 0 0, .slice none 0 0, .bool false, .slice none 0 0], .load (mkM [(4, .cells false a.cells), (5, .cells false b.cells), (6, .frz [.int .i64 a.op, .bool a.neg, natV a.num, natV a.den, mkDat a.n a.cs, .int .i64 b.op, .bool b.neg, natV b.num, natV b.den, mkDat b.n b.cs]), (7, .cells false [i64 0, .bool false, .slice none 0 0, .slice none 0 0, .bool false, .slice none 0 0])]) 31 (.pointer (some (⟨1280, 0, none⟩))) (b.val), .load (mkM [(4, .cells false a.cells), (5, .cells false b.cells), (6, .frz [.int .i64 a.op, .bool a.neg, natV a.num, natV a.den, mkDat a.n a.cs, .int .i64 b.op, .bool b.neg, natV b.num, natV b.den, mkDat b.n b.cs]), (7, .cells false [i64 0, .bool false, .slice none 0 0, .slice none 0 0, .bool false, .slice none 0 0])]) 31 (.pointer (some (⟨1024, 0, none⟩))) (a.val), .call 7 [a.val] (mkM [(4, .cells false a.cells), (5, .cells false b.cells), (6, .frz [.int .i64 a.op, .bool a.neg, natV a.num, natV a.den, mkDat a.n a.cs, .int .i64 b.op, .bool b.neg, natV b.num, natV b.den, mkDat b.n b.cs]), (7, .cells false [i64 0, .bool false, .slice none 0 0, .slice none 0 0, .bool false, .slice none 0 0])]) 8 (ta.val) (mkM [(4, .cells false a.cells), (5, .cells false b.cells), (6, .frz [.int .i64 a.op, .bool a.neg, natV a.num, natV a.den, mkDat a.n a.cs, .int .i64 b.op, .bool b.neg, natV b.num, natV b.den, mkDat b.n b.cs]), (7, .cells false [i64 0, .bool false, .slice none 0 0, .slice none 0 0, .bool false, .slice none 0 0])]) 8, .load (mkM [(4, .cells false a.cells), (5, .cells false b.cells), (6, .frz [.int .i64 a.op, .bool a.neg, natV a.num, natV a.den, mkDat a.n a.cs, .int .i64 b.op, .bool b.neg, natV b.num, natV b.den, mkDat b.n b.cs]), (7, .cells false [i64 0, .bool false, .slice none 0 0, .slice none 0 0, .bool false, .slice none 0 0])]) 31 (.pointer (some (⟨1280, 0, none⟩))) (b.val), .call 7 [b.val] (mkM [(4, .cells false a.cells), (5, .cells false b.cells), (6, .frz [.int .i64 a.op, .bool a.neg, natV a.num, natV a.den, mkDat a.n a.cs, .int .i64 b.op, .bool b.neg, natV b.num, natV b.den, mkDat b.n b.cs]), (7, .cells false [i64 0, .bool false, .slice none 0 0, .slice none 0 0, .bool false, .slice none 0 0])]) 8 (tb.val) (mkM [(4, .cells false a.cells), (5, .cells false b.cells), (6, .frz [.int .i64 a.op, .bool a.neg, natV a.num, natV a.den, mkDat a.n a.cs, .int .i64 b.op, .bool b.neg, natV b.num, natV b.den, mkDat b.n b.cs]), (7, .cells false [i64 0, .bool false, .slice none 0 0, .slice none 0 0, .bool false, .slice none 0 0])]) 8, .call 6 [.int .i64 i, ta.val, tb.val] (mkM [(4, .cells false a.cells), (5, .cells false b.cells), (6, .frz [.int .i64 a.op, .bool a.neg, natV a.num, natV a.den, mkDat a.n a.cs, .int .i64 b.op, .bool b.neg, natV b.num, natV b.den, mkDat b.n b.cs]), (7, .cells false [i64 0, .bool false, .slice none 0 0, .slice none 0 0, .bool false, .slice none 0 0])]) 8 (.tuple ⟨[t.val, i64 0]⟩) (mkM [(4, .cells false a.cells), (5, .cells false b.cells), (6, .frz [.int .i64 a.op, .bool a.neg, natV a.num, natV a.den, mkDat a.n a.cs, .int .i64 b.op, .bool b.neg, natV b.num, natV b.den, mkDat b.n b.cs]), (7, .cells false [i64 0, .bool false, .slice none 0 0, .slice none 0 0, .bool false, .slice none 0 0])]) 8, .call 8 [.int .i64 i, a.val, b.val] (mkM [(4, .cells false a.cells), (5, .cells false b.cells), (6, .frz [.int .i64 a.op, .bool a.neg, natV a.num, natV a.den, mkDat a.n a.cs, .int .i64 b.op, .bool b.neg, natV b.num, natV b.den, mkDat b.n b.cs]), (7, .cells false t.cells)]) 8 (.tuple ⟨[e.val, i64 0]⟩) (mkM [(4, .cells false a.cells), (5, .cells false b.cells), (6, .frz [.int .i64 a.op, .bool a.neg, natV a.num, natV a.den, mkDat a.n a.cs, .int .i64 b.op, .bool b.neg, natV b.num, natV b.den, mkDat b.n b.cs]), (7, .cells false t.cells)]) 8, .call 9 [i64 0] (mkM [(4, .cells false a.cells), (5, .cells false b.cells), (6, .frz [.int .i64 a.op, .bool a.neg, natV a.num, natV a.den, mkDat a.n a.cs, .int .i64 b.op, .bool b.neg, natV b.num, natV b.den, mkDat b.n b.cs]), (7, .cells false t.cells), (8, .cells false e.cells)]) 9 (i64 0) (mkM [(4, .cells false a.cells), (5, .cells false b.cells), (6, .frz [.int .i64 a.op, .bool a.neg, natV a.num, natV a.den, mkDat a.n a.cs, .int .i64 b.op, .bool b.neg, natV b.num, natV b.den, mkDat b.n b.cs]), (7, .cells false t.cells), (8, .cells false e.cells)]) 9, .call 10 [e.val, t.val] (mkM [(4, .cells false a.cells), (5, .cells false b.cells), (6, .frz [.int .i64 a.op, .bool a.neg, natV a.num, natV a.den, mkDat a.n a.cs, .int .i64 b.op, .bool b.neg, natV b.num, natV b.den, mkDat b.n b.cs]), (7, .cells false t.cells), (8, .cells false e.cells)]) 9 (.bool true) (mkM [(4, .cells false a.cells), (5, .cells false b.cells), (6, .frz [.int .i64 a.op, .bool a.neg, natV a.num, natV a.den, mkDat a.n a.cs, .int .i64 b.op, .bool b.neg, natV b.num, natV b.den, mkDat b.n b.cs]), (7, .cells false t.cells), (8, .cells false e.cells)]) 9, .call 5 [] (mkM [(4, .cells false a.cells), (5, .cells false b.cells), (6, .frz [.int .i64 a.op, .bool a.neg, natV a.num, natV a.den, mkDat a.n a.cs, .int .i64 b.op, .bool b.neg, natV b.num, natV b.den, mkDat b.n b.cs]), (7, .cells false t.cells), (8, .cells false e.cells)]) 9 (.bool true) (mkM [(4, .cells false a.cells), (5, .cells false b.cells), (6, .frz [.int .i64 a.op, .bool a.neg, natV a.num, natV a.den, mkDat a.n a.cs, .int .i64 b.op, .bool b.neg, natV b.num, natV b.den, mkDat b.n b.cs]), (7, .cells false t.cells), (8, .cells false e.cells)]) 9]) := by kernel_rfl
end DL
theorem xhigh_nodes : ∀ e : Ex, e.high ≤ e.nodes
  | .mk o n a b l => by
    have hl : ∀ m : List Ex, (∀ x ∈ m, x.high ≤ x.nodes) → highL m ≤ nodesL m := by
      intro m hm
      induction m with
      | nil => exact Nat.le_refl _
      | cons c m ih =>
        have h1 := hm c List.mem_cons_self
        have h2 := ih fun x hx => hm x (List.mem_cons_of_mem _ hx)
        simp only [highL, nodesL]; omega
    have := hl l fun x hx => xhigh_nodes x
    simp only [Ex.high, Ex.nodes]; omega
  termination_by e => SizeOf.sizeOf e
  decreasing_by exact ex_size hx _ _ _ _
theorem law_join {i : Int} {a b : Ex} (ha : Good a) (hb : Good b) : ∃ (t : Er) (c : Nat) (e : Ex), lawfulR i a.tree b.tree = (t, c) ∧ lawE i a b = (e, c) ∧ (c ≠ 0 → e = Ex.zero) ∧ (c = 0 → Good e ∧ e.tree = t ∧ e.tree.right = true ∧ Fair e.tree) := by
  unfold lawfulR lawE
  rw [check_same ha, check_same hb]
  by_cases h0 : i < 0 ∨ 30 ≤ i
  · rw [if_pos h0, if_pos h0]
    exact ⟨_, _, _, rfl, rfl, fun _ => rfl, fun h => by cases h⟩
  · rw [if_neg h0, if_neg h0]
    by_cases h1 : a.check ≠ 0
    · rw [if_pos h1, if_pos h1]
      exact ⟨_, _, _, rfl, rfl, fun _ => rfl, fun h => absurd h h1⟩
    · rw [if_neg h1, if_neg h1]
      by_cases h2 : b.check ≠ 0
      · rw [if_pos h2, if_pos h2]
        exact ⟨_, _, _, rfl, rfl, fun _ => rfl, fun h => absurd h h2⟩
      · rw [if_neg h2, if_neg h2]
        have hk : i.toNat < 30 := by omega
        have hu := lawX_up (echeck_small ha (by omega)) (echeck_small hb (by omega)) _ hk
        rw [← law_tree a b _ hk, check_same hu.good]
        have hs := hu.small
        by_cases h3 : (lawX i.toNat a b).check ≠ 0
        · rw [if_pos h3]
          exact ⟨_, _, _, rfl, rfl, fun _ => rfl, fun h => absurd h h3⟩
        · rw [if_neg h3]
          have h4 : (lawX i.toNat a b).check = 0 := by omega
          rw [h4]
          refine ⟨_, _, _, rfl, rfl, fun h => absurd rfl h, fun _ => ⟨hu.good, rfl, ?_, tree_fair hu.good (by omega) hs.2⟩⟩
          rw [(tree_plain _ hu.good).2.1]
          unfold Ex.check at h4
          split at h4
          · assumption
          · cases h4
theorem not_great {a b : Ex} (h : ¬ b.cnt (a.cnt 10000) < 0) : a.nodes ≤ 10000 ∧ b.nodes ≤ 10000 := by
  have h1 := cnt_nodes b (a.cnt 10000) (by omega)
  have h2 := cnt_nodes a 10000 (by omega)
  omega
theorem pair_inj2 : ∀ x y : Ex × Ex, [mkDat 2 (exL [x.1, x.2])] = [mkDat 2 (exL [y.1, y.2])] → x = y := by
  rintro ⟨a, b⟩ ⟨c, d⟩ h
  simp only [List.cons.injEq, and_true] at h
  injection h with h6 h7 h8
  simp only [Array.mk.injEq, List.cons.injEq, Value.agg.injEq, and_true] at h7
  have := exL_inj [a, b] [c, d] rfl h7
  simp only [List.cons.injEq, and_true] at this
  rw [this.1, this.2]
theorem lawf_inj : ∀ x y : Int × Er × Er, [Value.int .i64 x.1, x.2.1.nd.val, x.2.2.nd.val] = [.int .i64 y.1, y.2.1.nd.val, y.2.2.nd.val] → x = y := by
  rintro ⟨i, a, b⟩ ⟨j, c, d⟩ h
  simp only [List.cons.injEq, and_true, Value.int.injEq, true_and] at h
  have := er_inj2 (a, b) (c, d) (by simp only [List.cons.injEq, and_true]; exact h.2)
  rw [h.1, this]
theorem dlaw_inj : ∀ x y : Int × Ex × Ex, [Value.int .i64 x.1, x.2.1.nd.val, x.2.2.nd.val] = [.int .i64 y.1, y.2.1.nd.val, y.2.2.nd.val] → x = y := by
  rintro ⟨i, a, b⟩ ⟨j, c, d⟩ h
  simp only [List.cons.injEq, and_true, Value.int.injEq, true_and] at h
  have := ex_inj2 (a, b) (c, d) (by simp only [List.cons.injEq, and_true]; exact h.2)
  rw [h.1, this]
theorem is_inj : ∀ x y : Ex, [x.nd.val, x.tree.nd.val] = [y.nd.val, y.tree.nd.val] → x = y := by
  intro x y h
  simp only [List.cons.injEq, and_true] at h
  exact Ex.inj x y h.1
noncomputable def FT : Known := ((((((Known.none.add 4 (eI (fun x : Ex × Ex => [mkDat 2 (exL [x.1, x.2])]) (fun x => Thin x.1 ∧ Thin x.2) fun x => .bool (decide (x.2.cnt (x.1.cnt 10000) < 0)))).add 7 (eI (fun x : Ex => [x.nd.val]) (fun x => Good x ∧ x.high ≤ 400000) fun x => x.tree.nd.val)).add 6 (eI (fun x : Int × Er × Er => [.int .i64 x.1, x.2.1.nd.val, x.2.2.nd.val]) (fun x => Fair x.2.1 ∧ Fair x.2.2) fun x => .tuple ⟨[(lawfulR x.1 x.2.1 x.2.2).1.nd.val, i64 (lawfulR x.1 x.2.1 x.2.2).2]⟩)).add 8 (eI (fun x : Int × Ex × Ex => [.int .i64 x.1, x.2.1.nd.val, x.2.2.nd.val]) (fun x => Good x.2.1 ∧ Good x.2.2 ∧ x.2.1.high ≤ 399999 ∧ x.2.2.high ≤ 399999 ∧ x.2.1.nodes ≤ 9999999 ∧ x.2.2.nodes ≤ 9999999) fun x => .tuple ⟨[(lawE x.1 x.2.1 x.2.2).1.nd.val, i64 (lawE x.1 x.2.1 x.2.2).2]⟩)).add 9 (eI (fun z : Int => [.int .i64 z]) (fun _ => True) fun z => .int .i64 z)).add 10 (eI (fun x : Ex => [x.nd.val, x.tree.nd.val]) (fun x => Good x ∧ x.tree.right = true ∧ Fair x.tree) fun _ => .bool true)).add 5 (eI (fun _ : Unit => []) (fun _ => True) fun _ => .bool true)
theorem FT_ok : FT.Ok PP GG tabsD :=
  Known.add_ok (Known.add_ok (Known.add_ok (Known.add_ok (Known.add_ok (Known.add_ok (Known.add_ok Known.none_ok (eI_ok fun x h => great_ok h.1 h.2)) (eI_ok fun x h => tree_ok x h.1 h.2)) (eI_ok fun x h => lawful_ok h.1 h.2)) (eI_ok fun x h => dlaw_ok h.1 h.2.1 h.2.2.1 h.2.2.2.1 h.2.2.2.2.1 h.2.2.2.2.2)) (eI_ok fun z _ => num_ok z)) (eI_ok fun x h => is_ok h.1 h.2.1 h.2.2)) (eI_ok fun _ _ => awake_ok)
theorem FT_awake {M : Tr Blk} {nx : Nat} : FT.sm 5 [] M nx = some (.bool true, M, nx) := pureCall rfl rfl (add_same.trans (eI_of (x := ()) (fun _ _ _ => rfl) trivial))
theorem FT_is {e : Ex} (h : Good e ∧ e.tree.right = true ∧ Fair e.tree) {M : Tr Blk} {nx : Nat} : FT.sm 10 [e.nd.val, e.tree.nd.val] M nx = some (.bool true, M, nx) :=
  pureCall (by simp [frz_Rd, frz_Nd]) (by simp [offs_Rd, offs_Nd]) ((add_other rfl).trans (add_same.trans (eI_of is_inj h)))
theorem FT_num {z : Int} {M : Tr Blk} {nx : Nat} : FT.sm 9 [.int .i64 z] M nx = some (.int .i64 z, M, nx) :=
  pureCall (by simp [frz_int]) (by simp [offs_int]) ((add_other rfl).trans ((add_other rfl).trans (add_same.trans (eI_of int_inj1 trivial))))
theorem FT_law {i : Int} {a b : Ex} (h : Good a ∧ Good b ∧ a.high ≤ 399999 ∧ b.high ≤ 399999 ∧ a.nodes ≤ 9999999 ∧ b.nodes ≤ 9999999) {M : Tr Blk} {nx : Nat} : FT.sm 8 [.int .i64 i, a.nd.val, b.nd.val] M nx = some (.tuple ⟨[(lawE i a b).1.nd.val, i64 (lawE i a b).2]⟩, M, nx) :=
  pureCall (by simp [frz_int, frz_Nd]) (by simp [offs_int, offs_Nd]) ((add_other rfl).trans ((add_other rfl).trans ((add_other rfl).trans (add_same.trans (eI_of (x := (i, a, b)) dlaw_inj h)))))
theorem FT_lawful {i : Int} {a b : Er} (h : Fair a ∧ Fair b) {M : Tr Blk} {nx : Nat} : FT.sm 6 [.int .i64 i, a.nd.val, b.nd.val] M nx = some (.tuple ⟨[(lawfulR i a b).1.nd.val, i64 (lawfulR i a b).2]⟩, M, nx) :=
  pureCall (by simp [frz_int, frz_Rd]) (by simp [offs_int, offs_Rd]) ((add_other rfl).trans ((add_other rfl).trans ((add_other rfl).trans ((add_other rfl).trans (add_same.trans (eI_of (x := (i, a, b)) lawf_inj h))))))
theorem FT_tree {a : Ex} (h : Good a ∧ a.high ≤ 400000) {M : Tr Blk} {nx : Nat} : FT.sm 7 [a.nd.val] M nx = some (a.tree.nd.val, M, nx) :=
  ex_call ((add_other rfl).trans ((add_other rfl).trans ((add_other rfl).trans ((add_other rfl).trans ((add_other rfl).trans (add_same.trans (eI_of ex_inj1 h)))))))
theorem sm_row1 {F : Known} {f : FuncId} {M M' : Tr Blk} {x n c nx : Nat} {vs : List Value} {v : Value} (hm : M.get (x / 256) = some (.cells false vs)) (hc : n ≤ c) (h1 : vs.map (frzV 11 M) = vs) (h2 : vs.flatMap (offs 11 M) = []) (hF : F f [mkDat n vs] = some v) (hM : M.set (x / 256) (.frz vs) = M') :
    F.sm f [.slice (some ⟨x, 0, none⟩) n c] M nx = some (v, M', nx) := by
  simp only [Known.sm, List.map_cons, List.map_nil, frz_rowV hm hc h1, hF, List.flatMap_cons, List.flatMap_nil, offs_rowV hm h2, List.append_nil, List.nil_append, offM, hm, Blk.fzn, hM]
theorem FT_great {a b : Ex} (ha : Thin a) (hb : Thin b) : FT.sm 4 [.slice (some ⟨256 * (4 + 2), 0, none⟩) 2 2] (mkM [(4, .cells false a.nd.cells), (4 + 1, .cells false b.nd.cells), (4 + 2, .cells false (a.nd.cells ++ b.nd.cells))]) (4 + 3) = some (.bool (decide (b.cnt (a.cnt 10000) < 0)), DL.MG a.nd b.nd, 4 + 3) := by
  refine sm_row1 (vs := a.nd.cells ++ b.nd.cells) (by kernel_rfl) (Nat.le_refl _) (by simp [frz_dat, frz_int, frz_bool]) (by simp [offs_dat, offs_int, offs_bool]) ?_ (by kernel_rfl)
  exact (add_other rfl).trans ((add_other rfl).trans ((add_other rfl).trans ((add_other rfl).trans ((add_other rfl).trans ((add_other rfl).trans (add_same.trans (eI_of (x := (a, b)) pair_inj2 ⟨ha, hb⟩)))))))
/-- The law holds: it answers true. -/
theorem difflaws_ok {i : Int} {a b : Ex} (ha : Thin a) (hb : Thin b) (hga : a.nodes ≤ 10000 → Good a) (hgb : b.nodes ≤ 10000 → Good b) (hna : Nl a.nd.val) (hnb : Nl b.nd.val) : PureOk PP GG tabsD 3 [.int .i64 i, a.nd.val, b.nd.val] (.bool true) := by
  refine PureOk.of' ?_ ⟨1, rfl⟩ (by kernel_rfl) ?_
  · intro x hx
    simp only [List.mem_cons, List.not_mem_nil, or_false] at hx
    rcases hx with rfl | rfl | rfl
    · exact nl_int
    · exact hna
    · exact hnb
  · have hgr := FT_great ha hb
    by_cases hg : b.cnt (a.cnt 10000) < 0
    · rw [decide_eq_true hg] at hgr
      exact PT.ends (envOf FT_ok) (DL.q1 i a.nd b.nd) ⟨hgr, FT_awake⟩ .same
    · rw [decide_eq_false hg] at hgr
      obtain ⟨hn1, hn2⟩ := not_great hg
      have ga := hga hn1
      have gb := hgb hn2
      have h1 := xhigh_nodes a
      have h2 := xhigh_nodes b
      have fa := tree_fair ga (by omega) (by omega)
      have fb := tree_fair gb (by omega) (by omega)
      have na := okV_nice (n := 2 * a.high + 4) (by omega) a.ok
      have nb := okV_nice (n := 2 * b.high + 4) (by omega) b.ok
      obtain ⟨t, c, e, j1, j2, j3, j4⟩ := law_join (i := i) ga gb
      have w1 := fun M nx => FT_lawful (i := i) ⟨fa, fb⟩ (M := M) (nx := nx)
      have w2 := fun M nx => FT_law (i := i) (a := a) (b := b) ⟨ga, gb, by omega, by omega, by omega, by omega⟩ (M := M) (nx := nx)
      rw [j1] at w1
      rw [j2] at w2
      have hz0 : veqL 1000000 Lawful.zE Lawful.zE = true := by rfl
      by_cases hc : c = 0
      · subst hc
        obtain ⟨k1, k2, k3, k4⟩ := j4 rfl
        subst k2
        exact PT.ends (envOf FT_ok) (DL.q3 i a.nd b.nd e.nd a.tree.nd b.tree.nd e.tree.nd) ⟨hgr, na, nb, hz0, (by show aLoad _ _ _ _ = _; kernel_rfl), (by show aLoad _ _ _ _ = _; kernel_rfl), FT_tree ⟨ga, by omega⟩, (by show aLoad _ _ _ _ = _; kernel_rfl), FT_tree ⟨gb, by omega⟩, w1 _ _, w2 _ _, FT_num, FT_is ⟨k1, k3, k4⟩, FT_awake⟩ .same
      · have k1 := j3 hc
        subst k1
        exact PT.ends (envOf FT_ok) (DL.q2 i a.nd b.nd a.tree.nd b.tree.nd t.nd c) ⟨hgr, na, nb, hz0, (by show aLoad _ _ _ _ = _; kernel_rfl), (by show aLoad _ _ _ _ = _; kernel_rfl), FT_tree ⟨ga, by omega⟩, (by show aLoad _ _ _ _ = _; kernel_rfl), FT_tree ⟨gb, by omega⟩, w1 _ _, w2 _ _, bin_neq (decide_eq_true (by simpa using hc)), FT_num, bin_eql (decide_eq_true rfl), FT_awake⟩ .same
#print axioms difflaws_ok
end Go.Proofs.YtihloomkgpflmaaGreatDoor
