/-
  THE THIRTY LAWS: the references' and the program's trees of them.
  surdlaw28's alike (of a tree and itself), is, num, count, great, lawful.
  surdlaw28's count, great, lawful.
-/
import Derived.Test.YtihloomkgpflmaaGreatDoorW6
import Derived.Test.YtihloomkgpflmaaGreatDoorW7
import Derived.Test.YtihloomkgpflmaaGreatDoorW8
set_option linter.unusedSimpArgs false
set_option linter.unusedVariables false
namespace Go.Proofs.YtihloomkgpflmaaGreatDoor
open Go.Proofs.YtihloomkgpflmaaGreatDoor.Vm
variable {tabs : List (Nat × List Value)}
/-- The references' tree of a law. -/
def lawR (i : Nat) (a b : Er) : Er := match i with
  | 0 => (Er.bin 4 (Er.bin 3 (Er.bin 5 (Er.un 13 a) (Er.un 13 a)) (Er.bin 5 (Er.un 14 a) (Er.un 14 a))) (Er.num 1))
  | 1 => (Er.bin 4 (Er.un 11 (Er.bin 3 a b)) (Er.bin 5 (Er.un 11 a) (Er.un 11 b)))
  | 2 => (Er.bin 4 (Er.un 12 (Er.un 11 a)) a)
  | 3 => (Er.bin 4 (Er.un 11 (Er.un 12 a)) a)
  | 4 => (Er.bin 4 (Er.un 10 (Er.bin 5 a a)) (Er.un 7 a))
  | 5 => (Er.bin 4 (Er.bin 5 (Er.un 10 a) (Er.un 10 a)) a)
  | 6 => (Er.bin 4 (Er.un 13 (Er.bin 3 a b)) (Er.bin 3 (Er.bin 5 (Er.un 13 a) (Er.un 14 b)) (Er.bin 5 (Er.un 14 a) (Er.un 13 b))))
  | 7 => (Er.bin 4 (Er.un 14 (Er.bin 3 a b)) (Er.bin 4 (Er.bin 5 (Er.un 14 a) (Er.un 14 b)) (Er.bin 5 (Er.un 13 a) (Er.un 13 b))))
  | 8 => (Er.bin 4 (Er.un 13 (Er.bin 5 (Er.num 2) a)) (Er.bin 5 (Er.bin 5 (Er.num 2) (Er.un 13 a)) (Er.un 14 a)))
  | 9 => (Er.bin 4 (Er.bin 5 (Er.bin 3 a b) (Er.bin 4 a b)) (Er.bin 4 (Er.bin 5 a a) (Er.bin 5 b b)))
  | 10 => (Er.bin 4 (Er.bin 3 (Er.bin 8 a b) (Er.bin 9 a b)) (Er.bin 3 a b))
  | 11 => (Er.bin 4 (Er.un 7 a) (Er.bin 9 a (Er.un 2 a)))
  | 12 => (Er.bin 4 (Er.un 12 (Er.bin 5 a a)) (Er.bin 5 (Er.num 2) (Er.un 12 (Er.un 7 a))))
  | 13 => (Er.bin 4 (Er.bin 5 (Er.bin 6 a b) b) a)
  | 14 => (Er.bin 4 (Er.un 15 (Er.bin 6 (Er.un 13 (Er.un 15 a)) (Er.un 14 (Er.un 15 a)))) (Er.un 15 a))
  | 15 => (Er.bin 4 (Er.un 13 (Er.bin 3 a (Er.bin 5 (Er.num 2) Er.pi))) (Er.un 13 a))
  | 16 => (Er.bin 3 (Er.un 14 (Er.bin 4 Er.pi a)) (Er.un 14 a))
  | 17 => (Er.bin 3 (Er.un 15 a) (Er.un 15 (Er.un 2 a)))
  | 18 => (Er.bin 4 (Er.bin 4 (Er.bin 4 (Er.bin 5 (Er.bin 3 a b) (Er.bin 3 a b)) (Er.bin 5 a a)) (Er.bin 5 (Er.bin 5 (Er.num 2) a) b)) (Er.bin 5 b b))
  | 19 => (Er.bin 4 (Er.un 10 (Er.bin 5 (Er.un 7 a) (Er.un 7 b))) (Er.bin 5 (Er.un 10 (Er.un 7 a)) (Er.un 10 (Er.un 7 b))))
  | 20 => (Er.bin 4 (Er.bin 5 (Er.un 11 a) (Er.un 11 (Er.un 2 a))) (Er.num 1))
  | 21 => (Er.bin 4 (Er.bin 6 (Er.un 13 a) (Er.un 14 a)) (Er.bin 6 (Er.un 13 (Er.bin 5 (Er.num 2) a)) (Er.bin 3 (Er.num 1) (Er.un 14 (Er.bin 5 (Er.num 2) a)))))
  | 22 => (Er.bin 4 (Er.un 12 (Er.bin 5 (Er.un 11 a) (Er.un 11 b))) (Er.bin 3 a b))
  | 23 => (Er.bin 4 (Er.un 10 (Er.un 11 a)) (Er.un 11 (Er.bin 6 a (Er.num 2))))
  | 24 => (Er.bin 4 (Er.bin 3 (Er.un 15 a) (Er.un 15 (Er.bin 6 (Er.num 1) a))) (Er.bin 6 (Er.bin 5 (Er.bin 6 Er.pi (Er.num 2)) a) (Er.un 7 a)))
  | 25 => (Er.bin 4 (Er.bin 9 a b) (Er.bin 6 (Er.bin 3 (Er.bin 3 a b) (Er.un 7 (Er.bin 4 a b))) (Er.num 2)))
  | 26 => (Er.bin 4 (Er.un 7 (Er.bin 5 a b)) (Er.bin 5 (Er.un 7 a) (Er.un 7 b)))
  | 27 => (Er.bin 4 (Er.un 14 (Er.bin 5 (Er.num 2) a)) (Er.bin 4 (Er.num 1) (Er.bin 5 (Er.bin 5 (Er.num 2) (Er.un 13 a)) (Er.un 13 a))))
  | 28 => (Er.bin 4 (Er.un 12 (Er.bin 6 a b)) (Er.bin 4 (Er.un 12 (Er.un 7 a)) (Er.un 12 (Er.un 7 b))))
  | _ => (Er.bin 4 (Er.bin 6 (Er.bin 5 a b) (Er.bin 5 b a)) (Er.num 1))
/-- The program's tree of a law. -/
def lawX (i : Nat) (a b : Ex) : Ex := match i with
  | 0 => (Ex.bin 4 (Ex.bin 3 (Ex.bin 5 (Ex.un 13 a) (Ex.un 13 a)) (Ex.bin 5 (Ex.un 14 a) (Ex.un 14 a))) (Ex.num 1))
  | 1 => (Ex.bin 4 (Ex.un 11 (Ex.bin 3 a b)) (Ex.bin 5 (Ex.un 11 a) (Ex.un 11 b)))
  | 2 => (Ex.bin 4 (Ex.un 12 (Ex.un 11 a)) a)
  | 3 => (Ex.bin 4 (Ex.un 11 (Ex.un 12 a)) a)
  | 4 => (Ex.bin 4 (Ex.un 10 (Ex.bin 5 a a)) (Ex.un 7 a))
  | 5 => (Ex.bin 4 (Ex.bin 5 (Ex.un 10 a) (Ex.un 10 a)) a)
  | 6 => (Ex.bin 4 (Ex.un 13 (Ex.bin 3 a b)) (Ex.bin 3 (Ex.bin 5 (Ex.un 13 a) (Ex.un 14 b)) (Ex.bin 5 (Ex.un 14 a) (Ex.un 13 b))))
  | 7 => (Ex.bin 4 (Ex.un 14 (Ex.bin 3 a b)) (Ex.bin 4 (Ex.bin 5 (Ex.un 14 a) (Ex.un 14 b)) (Ex.bin 5 (Ex.un 13 a) (Ex.un 13 b))))
  | 8 => (Ex.bin 4 (Ex.un 13 (Ex.bin 5 (Ex.num 2) a)) (Ex.bin 5 (Ex.bin 5 (Ex.num 2) (Ex.un 13 a)) (Ex.un 14 a)))
  | 9 => (Ex.bin 4 (Ex.bin 5 (Ex.bin 3 a b) (Ex.bin 4 a b)) (Ex.bin 4 (Ex.bin 5 a a) (Ex.bin 5 b b)))
  | 10 => (Ex.bin 4 (Ex.bin 3 (Ex.bin 8 a b) (Ex.bin 9 a b)) (Ex.bin 3 a b))
  | 11 => (Ex.bin 4 (Ex.un 7 a) (Ex.bin 9 a (Ex.un 2 a)))
  | 12 => (Ex.bin 4 (Ex.un 12 (Ex.bin 5 a a)) (Ex.bin 5 (Ex.num 2) (Ex.un 12 (Ex.un 7 a))))
  | 13 => (Ex.bin 4 (Ex.bin 5 (Ex.bin 6 a b) b) a)
  | 14 => (Ex.bin 4 (Ex.un 15 (Ex.bin 6 (Ex.un 13 (Ex.un 15 a)) (Ex.un 14 (Ex.un 15 a)))) (Ex.un 15 a))
  | 15 => (Ex.bin 4 (Ex.un 13 (Ex.bin 3 a (Ex.bin 5 (Ex.num 2) Ex.pi))) (Ex.un 13 a))
  | 16 => (Ex.bin 3 (Ex.un 14 (Ex.bin 4 Ex.pi a)) (Ex.un 14 a))
  | 17 => (Ex.bin 3 (Ex.un 15 a) (Ex.un 15 (Ex.un 2 a)))
  | 18 => (Ex.bin 4 (Ex.bin 4 (Ex.bin 4 (Ex.bin 5 (Ex.bin 3 a b) (Ex.bin 3 a b)) (Ex.bin 5 a a)) (Ex.bin 5 (Ex.bin 5 (Ex.num 2) a) b)) (Ex.bin 5 b b))
  | 19 => (Ex.bin 4 (Ex.un 10 (Ex.bin 5 (Ex.un 7 a) (Ex.un 7 b))) (Ex.bin 5 (Ex.un 10 (Ex.un 7 a)) (Ex.un 10 (Ex.un 7 b))))
  | 20 => (Ex.bin 4 (Ex.bin 5 (Ex.un 11 a) (Ex.un 11 (Ex.un 2 a))) (Ex.num 1))
  | 21 => (Ex.bin 4 (Ex.bin 6 (Ex.un 13 a) (Ex.un 14 a)) (Ex.bin 6 (Ex.un 13 (Ex.bin 5 (Ex.num 2) a)) (Ex.bin 3 (Ex.num 1) (Ex.un 14 (Ex.bin 5 (Ex.num 2) a)))))
  | 22 => (Ex.bin 4 (Ex.un 12 (Ex.bin 5 (Ex.un 11 a) (Ex.un 11 b))) (Ex.bin 3 a b))
  | 23 => (Ex.bin 4 (Ex.un 10 (Ex.un 11 a)) (Ex.un 11 (Ex.bin 6 a (Ex.num 2))))
  | 24 => (Ex.bin 4 (Ex.bin 3 (Ex.un 15 a) (Ex.un 15 (Ex.bin 6 (Ex.num 1) a))) (Ex.bin 6 (Ex.bin 5 (Ex.bin 6 Ex.pi (Ex.num 2)) a) (Ex.un 7 a)))
  | 25 => (Ex.bin 4 (Ex.bin 9 a b) (Ex.bin 6 (Ex.bin 3 (Ex.bin 3 a b) (Ex.un 7 (Ex.bin 4 a b))) (Ex.num 2)))
  | 26 => (Ex.bin 4 (Ex.un 7 (Ex.bin 5 a b)) (Ex.bin 5 (Ex.un 7 a) (Ex.un 7 b)))
  | 27 => (Ex.bin 4 (Ex.un 14 (Ex.bin 5 (Ex.num 2) a)) (Ex.bin 4 (Ex.num 1) (Ex.bin 5 (Ex.bin 5 (Ex.num 2) (Ex.un 13 a)) (Ex.un 13 a))))
  | 28 => (Ex.bin 4 (Ex.un 12 (Ex.bin 6 a b)) (Ex.bin 4 (Ex.un 12 (Ex.un 7 a)) (Ex.un 12 (Ex.un 7 b))))
  | _ => (Ex.bin 4 (Ex.bin 6 (Ex.bin 5 a b) (Ex.bin 5 b a)) (Ex.num 1))
/-- The function behind a law. -/
def fnX (i : Nat) : FuncId := match i with
  | 0 => 46
  | 1 => 53
  | 2 => 55
  | 3 => 57
  | 4 => 58
  | 5 => 61
  | 6 => 62
  | 7 => 63
  | 8 => 64
  | 9 => 65
  | 10 => 66
  | 11 => 67
  | 12 => 69
  | 13 => 70
  | 14 => 72
  | 15 => 74
  | 16 => 75
  | 17 => 76
  | 18 => 77
  | 19 => 78
  | 20 => 79
  | 21 => 80
  | 22 => 81
  | 23 => 82
  | 24 => 83
  | 25 => 84
  | 26 => 85
  | 27 => 86
  | 28 => 87
  | _ => 88
/-- What it bears with it. -/
noncomputable def capX (i : Nat) : List Value := match i with
  | 0 => []
  | 1 => []
  | 2 => []
  | 3 => []
  | 4 => []
  | 5 => []
  | 6 => []
  | 7 => []
  | 8 => []
  | 9 => []
  | 10 => []
  | 11 => []
  | 12 => []
  | 13 => []
  | 14 => []
  | 15 => [mkPtr Ex.pi.nd.cells]
  | 16 => [mkPtr Ex.pi.nd.cells]
  | 17 => []
  | 18 => []
  | 19 => []
  | 20 => []
  | 21 => []
  | 22 => []
  | 23 => []
  | 24 => [mkPtr Ex.pi.nd.cells]
  | 25 => []
  | 26 => []
  | 27 => []
  | 28 => []
  | _ => []
theorem lawR_ok {a b : Er} (ha : a.high ≤ 400000) (hb : b.high ≤ 400000) : ∀ i, i < 30 → PureOk PP GG tabs 15 [i64 i, a.nd.val, b.nd.val] (lawR i a b).nd.val
  | 0, _ => BR.r0_ok ha hb
  | 1, _ => BR.r1_ok ha hb
  | 2, _ => BR.r2_ok ha hb
  | 3, _ => BR.r3_ok ha hb
  | 4, _ => BR.r4_ok ha hb
  | 5, _ => BR.r5_ok ha hb
  | 6, _ => BR.r6_ok ha hb
  | 7, _ => BR.r7_ok ha hb
  | 8, _ => BR.r8_ok ha hb
  | 9, _ => BR.r9_ok ha hb
  | 10, _ => BR.r10_ok ha hb
  | 11, _ => BR.r11_ok ha hb
  | 12, _ => BR.r12_ok ha hb
  | 13, _ => BR.r13_ok ha hb
  | 14, _ => BR.r14_ok ha hb
  | 15, _ => BR.r15_ok ha hb
  | 16, _ => BR.r16_ok ha hb
  | 17, _ => BR.r17_ok ha hb
  | 18, _ => BR.r18_ok ha hb
  | 19, _ => BR.r19_ok ha hb
  | 20, _ => BR.r20_ok ha hb
  | 21, _ => BR.r21_ok ha hb
  | 22, _ => BR.r22_ok ha hb
  | 23, _ => BR.r23_ok ha hb
  | 24, _ => BR.r24_ok ha hb
  | 25, _ => BR.r25_ok ha hb
  | 26, _ => BR.r26_ok ha hb
  | 27, _ => BR.r27_ok ha hb
  | 28, _ => BR.r28_ok ha hb
  | 29, _ => BR.r29_ok ha hb
  | n + 30, h => by omega
theorem lawX_ok {a b : Ex} (ha : a.high ≤ 400000) (hb : b.high ≤ 400000) : ∀ i, i < 30 → PureOk PP GG tabs (fnX i) (a.nd.val :: b.nd.val :: capX i) (lawX i a b).nd.val
  | 0, _ => BX.x0_ok ha hb
  | 1, _ => BX.x1_ok ha hb
  | 2, _ => BX.x2_ok ha hb
  | 3, _ => BX.x3_ok ha hb
  | 4, _ => BX.x4_ok ha hb
  | 5, _ => BX.x5_ok ha hb
  | 6, _ => BX.x6_ok ha hb
  | 7, _ => BX.x7_ok ha hb
  | 8, _ => BX.x8_ok ha hb
  | 9, _ => BX.x9_ok ha hb
  | 10, _ => BX.x10_ok ha hb
  | 11, _ => BX.x11_ok ha hb
  | 12, _ => BX.x12_ok ha hb
  | 13, _ => BX.x13_ok ha hb
  | 14, _ => BX.x14_ok ha hb
  | 15, _ => BX.x15_ok ha hb
  | 16, _ => BX.x16_ok ha hb
  | 17, _ => BX.x17_ok ha hb
  | 18, _ => BX.x18_ok ha hb
  | 19, _ => BX.x19_ok ha hb
  | 20, _ => BX.x20_ok ha hb
  | 21, _ => BX.x21_ok ha hb
  | 22, _ => BX.x22_ok ha hb
  | 23, _ => BX.x23_ok ha hb
  | 24, _ => BX.x24_ok ha hb
  | 25, _ => BX.x25_ok ha hb
  | 26, _ => BX.x26_ok ha hb
  | 27, _ => BX.x27_ok ha hb
  | 28, _ => BX.x28_ok ha hb
  | 29, _ => BX.x29_ok ha hb
  | n + 30, h => by omega
theorem num1_tree : (Ex.num 1).tree = Er.num 1 := by kernel_rfl
theorem num2_tree : (Ex.num 2).tree = Er.num 2 := by kernel_rfl
theorem pi_tree : Ex.pi.tree = Er.pi := by kernel_rfl
theorem un_tree {o : Int} (h : o ≠ 0) (a : Ex) : (Ex.un o a).tree = Er.un o a.tree := by simp [Ex.tree, treeN, treeL, h]
theorem bin_tree {o : Int} (h : o ≠ 0) (a b : Ex) : (Ex.bin o a b).tree = Er.bin o a.tree b.tree := by simp [Ex.tree, treeN, treeL, h]
theorem law_tree (a b : Ex) : ∀ i, i < 30 → (lawX i a b).tree = lawR i a.tree b.tree
  | 0, _ => by simp only [lawX, lawR, num1_tree, num2_tree, pi_tree, un_tree (show (2 : Int) ≠ 0 by decide), un_tree (show (7 : Int) ≠ 0 by decide), un_tree (show (10 : Int) ≠ 0 by decide), un_tree (show (11 : Int) ≠ 0 by decide), un_tree (show (12 : Int) ≠ 0 by decide), un_tree (show (13 : Int) ≠ 0 by decide), un_tree (show (14 : Int) ≠ 0 by decide), un_tree (show (15 : Int) ≠ 0 by decide), bin_tree (show (3 : Int) ≠ 0 by decide), bin_tree (show (4 : Int) ≠ 0 by decide), bin_tree (show (5 : Int) ≠ 0 by decide), bin_tree (show (6 : Int) ≠ 0 by decide), bin_tree (show (8 : Int) ≠ 0 by decide), bin_tree (show (9 : Int) ≠ 0 by decide)]
  | 1, _ => by simp only [lawX, lawR, num1_tree, num2_tree, pi_tree, un_tree (show (2 : Int) ≠ 0 by decide), un_tree (show (7 : Int) ≠ 0 by decide), un_tree (show (10 : Int) ≠ 0 by decide), un_tree (show (11 : Int) ≠ 0 by decide), un_tree (show (12 : Int) ≠ 0 by decide), un_tree (show (13 : Int) ≠ 0 by decide), un_tree (show (14 : Int) ≠ 0 by decide), un_tree (show (15 : Int) ≠ 0 by decide), bin_tree (show (3 : Int) ≠ 0 by decide), bin_tree (show (4 : Int) ≠ 0 by decide), bin_tree (show (5 : Int) ≠ 0 by decide), bin_tree (show (6 : Int) ≠ 0 by decide), bin_tree (show (8 : Int) ≠ 0 by decide), bin_tree (show (9 : Int) ≠ 0 by decide)]
  | 2, _ => by simp only [lawX, lawR, num1_tree, num2_tree, pi_tree, un_tree (show (2 : Int) ≠ 0 by decide), un_tree (show (7 : Int) ≠ 0 by decide), un_tree (show (10 : Int) ≠ 0 by decide), un_tree (show (11 : Int) ≠ 0 by decide), un_tree (show (12 : Int) ≠ 0 by decide), un_tree (show (13 : Int) ≠ 0 by decide), un_tree (show (14 : Int) ≠ 0 by decide), un_tree (show (15 : Int) ≠ 0 by decide), bin_tree (show (3 : Int) ≠ 0 by decide), bin_tree (show (4 : Int) ≠ 0 by decide), bin_tree (show (5 : Int) ≠ 0 by decide), bin_tree (show (6 : Int) ≠ 0 by decide), bin_tree (show (8 : Int) ≠ 0 by decide), bin_tree (show (9 : Int) ≠ 0 by decide)]
  | 3, _ => by simp only [lawX, lawR, num1_tree, num2_tree, pi_tree, un_tree (show (2 : Int) ≠ 0 by decide), un_tree (show (7 : Int) ≠ 0 by decide), un_tree (show (10 : Int) ≠ 0 by decide), un_tree (show (11 : Int) ≠ 0 by decide), un_tree (show (12 : Int) ≠ 0 by decide), un_tree (show (13 : Int) ≠ 0 by decide), un_tree (show (14 : Int) ≠ 0 by decide), un_tree (show (15 : Int) ≠ 0 by decide), bin_tree (show (3 : Int) ≠ 0 by decide), bin_tree (show (4 : Int) ≠ 0 by decide), bin_tree (show (5 : Int) ≠ 0 by decide), bin_tree (show (6 : Int) ≠ 0 by decide), bin_tree (show (8 : Int) ≠ 0 by decide), bin_tree (show (9 : Int) ≠ 0 by decide)]
  | 4, _ => by simp only [lawX, lawR, num1_tree, num2_tree, pi_tree, un_tree (show (2 : Int) ≠ 0 by decide), un_tree (show (7 : Int) ≠ 0 by decide), un_tree (show (10 : Int) ≠ 0 by decide), un_tree (show (11 : Int) ≠ 0 by decide), un_tree (show (12 : Int) ≠ 0 by decide), un_tree (show (13 : Int) ≠ 0 by decide), un_tree (show (14 : Int) ≠ 0 by decide), un_tree (show (15 : Int) ≠ 0 by decide), bin_tree (show (3 : Int) ≠ 0 by decide), bin_tree (show (4 : Int) ≠ 0 by decide), bin_tree (show (5 : Int) ≠ 0 by decide), bin_tree (show (6 : Int) ≠ 0 by decide), bin_tree (show (8 : Int) ≠ 0 by decide), bin_tree (show (9 : Int) ≠ 0 by decide)]
  | 5, _ => by simp only [lawX, lawR, num1_tree, num2_tree, pi_tree, un_tree (show (2 : Int) ≠ 0 by decide), un_tree (show (7 : Int) ≠ 0 by decide), un_tree (show (10 : Int) ≠ 0 by decide), un_tree (show (11 : Int) ≠ 0 by decide), un_tree (show (12 : Int) ≠ 0 by decide), un_tree (show (13 : Int) ≠ 0 by decide), un_tree (show (14 : Int) ≠ 0 by decide), un_tree (show (15 : Int) ≠ 0 by decide), bin_tree (show (3 : Int) ≠ 0 by decide), bin_tree (show (4 : Int) ≠ 0 by decide), bin_tree (show (5 : Int) ≠ 0 by decide), bin_tree (show (6 : Int) ≠ 0 by decide), bin_tree (show (8 : Int) ≠ 0 by decide), bin_tree (show (9 : Int) ≠ 0 by decide)]
  | 6, _ => by simp only [lawX, lawR, num1_tree, num2_tree, pi_tree, un_tree (show (2 : Int) ≠ 0 by decide), un_tree (show (7 : Int) ≠ 0 by decide), un_tree (show (10 : Int) ≠ 0 by decide), un_tree (show (11 : Int) ≠ 0 by decide), un_tree (show (12 : Int) ≠ 0 by decide), un_tree (show (13 : Int) ≠ 0 by decide), un_tree (show (14 : Int) ≠ 0 by decide), un_tree (show (15 : Int) ≠ 0 by decide), bin_tree (show (3 : Int) ≠ 0 by decide), bin_tree (show (4 : Int) ≠ 0 by decide), bin_tree (show (5 : Int) ≠ 0 by decide), bin_tree (show (6 : Int) ≠ 0 by decide), bin_tree (show (8 : Int) ≠ 0 by decide), bin_tree (show (9 : Int) ≠ 0 by decide)]
  | 7, _ => by simp only [lawX, lawR, num1_tree, num2_tree, pi_tree, un_tree (show (2 : Int) ≠ 0 by decide), un_tree (show (7 : Int) ≠ 0 by decide), un_tree (show (10 : Int) ≠ 0 by decide), un_tree (show (11 : Int) ≠ 0 by decide), un_tree (show (12 : Int) ≠ 0 by decide), un_tree (show (13 : Int) ≠ 0 by decide), un_tree (show (14 : Int) ≠ 0 by decide), un_tree (show (15 : Int) ≠ 0 by decide), bin_tree (show (3 : Int) ≠ 0 by decide), bin_tree (show (4 : Int) ≠ 0 by decide), bin_tree (show (5 : Int) ≠ 0 by decide), bin_tree (show (6 : Int) ≠ 0 by decide), bin_tree (show (8 : Int) ≠ 0 by decide), bin_tree (show (9 : Int) ≠ 0 by decide)]
  | 8, _ => by simp only [lawX, lawR, num1_tree, num2_tree, pi_tree, un_tree (show (2 : Int) ≠ 0 by decide), un_tree (show (7 : Int) ≠ 0 by decide), un_tree (show (10 : Int) ≠ 0 by decide), un_tree (show (11 : Int) ≠ 0 by decide), un_tree (show (12 : Int) ≠ 0 by decide), un_tree (show (13 : Int) ≠ 0 by decide), un_tree (show (14 : Int) ≠ 0 by decide), un_tree (show (15 : Int) ≠ 0 by decide), bin_tree (show (3 : Int) ≠ 0 by decide), bin_tree (show (4 : Int) ≠ 0 by decide), bin_tree (show (5 : Int) ≠ 0 by decide), bin_tree (show (6 : Int) ≠ 0 by decide), bin_tree (show (8 : Int) ≠ 0 by decide), bin_tree (show (9 : Int) ≠ 0 by decide)]
  | 9, _ => by simp only [lawX, lawR, num1_tree, num2_tree, pi_tree, un_tree (show (2 : Int) ≠ 0 by decide), un_tree (show (7 : Int) ≠ 0 by decide), un_tree (show (10 : Int) ≠ 0 by decide), un_tree (show (11 : Int) ≠ 0 by decide), un_tree (show (12 : Int) ≠ 0 by decide), un_tree (show (13 : Int) ≠ 0 by decide), un_tree (show (14 : Int) ≠ 0 by decide), un_tree (show (15 : Int) ≠ 0 by decide), bin_tree (show (3 : Int) ≠ 0 by decide), bin_tree (show (4 : Int) ≠ 0 by decide), bin_tree (show (5 : Int) ≠ 0 by decide), bin_tree (show (6 : Int) ≠ 0 by decide), bin_tree (show (8 : Int) ≠ 0 by decide), bin_tree (show (9 : Int) ≠ 0 by decide)]
  | 10, _ => by simp only [lawX, lawR, num1_tree, num2_tree, pi_tree, un_tree (show (2 : Int) ≠ 0 by decide), un_tree (show (7 : Int) ≠ 0 by decide), un_tree (show (10 : Int) ≠ 0 by decide), un_tree (show (11 : Int) ≠ 0 by decide), un_tree (show (12 : Int) ≠ 0 by decide), un_tree (show (13 : Int) ≠ 0 by decide), un_tree (show (14 : Int) ≠ 0 by decide), un_tree (show (15 : Int) ≠ 0 by decide), bin_tree (show (3 : Int) ≠ 0 by decide), bin_tree (show (4 : Int) ≠ 0 by decide), bin_tree (show (5 : Int) ≠ 0 by decide), bin_tree (show (6 : Int) ≠ 0 by decide), bin_tree (show (8 : Int) ≠ 0 by decide), bin_tree (show (9 : Int) ≠ 0 by decide)]
  | 11, _ => by simp only [lawX, lawR, num1_tree, num2_tree, pi_tree, un_tree (show (2 : Int) ≠ 0 by decide), un_tree (show (7 : Int) ≠ 0 by decide), un_tree (show (10 : Int) ≠ 0 by decide), un_tree (show (11 : Int) ≠ 0 by decide), un_tree (show (12 : Int) ≠ 0 by decide), un_tree (show (13 : Int) ≠ 0 by decide), un_tree (show (14 : Int) ≠ 0 by decide), un_tree (show (15 : Int) ≠ 0 by decide), bin_tree (show (3 : Int) ≠ 0 by decide), bin_tree (show (4 : Int) ≠ 0 by decide), bin_tree (show (5 : Int) ≠ 0 by decide), bin_tree (show (6 : Int) ≠ 0 by decide), bin_tree (show (8 : Int) ≠ 0 by decide), bin_tree (show (9 : Int) ≠ 0 by decide)]
  | 12, _ => by simp only [lawX, lawR, num1_tree, num2_tree, pi_tree, un_tree (show (2 : Int) ≠ 0 by decide), un_tree (show (7 : Int) ≠ 0 by decide), un_tree (show (10 : Int) ≠ 0 by decide), un_tree (show (11 : Int) ≠ 0 by decide), un_tree (show (12 : Int) ≠ 0 by decide), un_tree (show (13 : Int) ≠ 0 by decide), un_tree (show (14 : Int) ≠ 0 by decide), un_tree (show (15 : Int) ≠ 0 by decide), bin_tree (show (3 : Int) ≠ 0 by decide), bin_tree (show (4 : Int) ≠ 0 by decide), bin_tree (show (5 : Int) ≠ 0 by decide), bin_tree (show (6 : Int) ≠ 0 by decide), bin_tree (show (8 : Int) ≠ 0 by decide), bin_tree (show (9 : Int) ≠ 0 by decide)]
  | 13, _ => by simp only [lawX, lawR, num1_tree, num2_tree, pi_tree, un_tree (show (2 : Int) ≠ 0 by decide), un_tree (show (7 : Int) ≠ 0 by decide), un_tree (show (10 : Int) ≠ 0 by decide), un_tree (show (11 : Int) ≠ 0 by decide), un_tree (show (12 : Int) ≠ 0 by decide), un_tree (show (13 : Int) ≠ 0 by decide), un_tree (show (14 : Int) ≠ 0 by decide), un_tree (show (15 : Int) ≠ 0 by decide), bin_tree (show (3 : Int) ≠ 0 by decide), bin_tree (show (4 : Int) ≠ 0 by decide), bin_tree (show (5 : Int) ≠ 0 by decide), bin_tree (show (6 : Int) ≠ 0 by decide), bin_tree (show (8 : Int) ≠ 0 by decide), bin_tree (show (9 : Int) ≠ 0 by decide)]
  | 14, _ => by simp only [lawX, lawR, num1_tree, num2_tree, pi_tree, un_tree (show (2 : Int) ≠ 0 by decide), un_tree (show (7 : Int) ≠ 0 by decide), un_tree (show (10 : Int) ≠ 0 by decide), un_tree (show (11 : Int) ≠ 0 by decide), un_tree (show (12 : Int) ≠ 0 by decide), un_tree (show (13 : Int) ≠ 0 by decide), un_tree (show (14 : Int) ≠ 0 by decide), un_tree (show (15 : Int) ≠ 0 by decide), bin_tree (show (3 : Int) ≠ 0 by decide), bin_tree (show (4 : Int) ≠ 0 by decide), bin_tree (show (5 : Int) ≠ 0 by decide), bin_tree (show (6 : Int) ≠ 0 by decide), bin_tree (show (8 : Int) ≠ 0 by decide), bin_tree (show (9 : Int) ≠ 0 by decide)]
  | 15, _ => by simp only [lawX, lawR, num1_tree, num2_tree, pi_tree, un_tree (show (2 : Int) ≠ 0 by decide), un_tree (show (7 : Int) ≠ 0 by decide), un_tree (show (10 : Int) ≠ 0 by decide), un_tree (show (11 : Int) ≠ 0 by decide), un_tree (show (12 : Int) ≠ 0 by decide), un_tree (show (13 : Int) ≠ 0 by decide), un_tree (show (14 : Int) ≠ 0 by decide), un_tree (show (15 : Int) ≠ 0 by decide), bin_tree (show (3 : Int) ≠ 0 by decide), bin_tree (show (4 : Int) ≠ 0 by decide), bin_tree (show (5 : Int) ≠ 0 by decide), bin_tree (show (6 : Int) ≠ 0 by decide), bin_tree (show (8 : Int) ≠ 0 by decide), bin_tree (show (9 : Int) ≠ 0 by decide)]
  | 16, _ => by simp only [lawX, lawR, num1_tree, num2_tree, pi_tree, un_tree (show (2 : Int) ≠ 0 by decide), un_tree (show (7 : Int) ≠ 0 by decide), un_tree (show (10 : Int) ≠ 0 by decide), un_tree (show (11 : Int) ≠ 0 by decide), un_tree (show (12 : Int) ≠ 0 by decide), un_tree (show (13 : Int) ≠ 0 by decide), un_tree (show (14 : Int) ≠ 0 by decide), un_tree (show (15 : Int) ≠ 0 by decide), bin_tree (show (3 : Int) ≠ 0 by decide), bin_tree (show (4 : Int) ≠ 0 by decide), bin_tree (show (5 : Int) ≠ 0 by decide), bin_tree (show (6 : Int) ≠ 0 by decide), bin_tree (show (8 : Int) ≠ 0 by decide), bin_tree (show (9 : Int) ≠ 0 by decide)]
  | 17, _ => by simp only [lawX, lawR, num1_tree, num2_tree, pi_tree, un_tree (show (2 : Int) ≠ 0 by decide), un_tree (show (7 : Int) ≠ 0 by decide), un_tree (show (10 : Int) ≠ 0 by decide), un_tree (show (11 : Int) ≠ 0 by decide), un_tree (show (12 : Int) ≠ 0 by decide), un_tree (show (13 : Int) ≠ 0 by decide), un_tree (show (14 : Int) ≠ 0 by decide), un_tree (show (15 : Int) ≠ 0 by decide), bin_tree (show (3 : Int) ≠ 0 by decide), bin_tree (show (4 : Int) ≠ 0 by decide), bin_tree (show (5 : Int) ≠ 0 by decide), bin_tree (show (6 : Int) ≠ 0 by decide), bin_tree (show (8 : Int) ≠ 0 by decide), bin_tree (show (9 : Int) ≠ 0 by decide)]
  | 18, _ => by simp only [lawX, lawR, num1_tree, num2_tree, pi_tree, un_tree (show (2 : Int) ≠ 0 by decide), un_tree (show (7 : Int) ≠ 0 by decide), un_tree (show (10 : Int) ≠ 0 by decide), un_tree (show (11 : Int) ≠ 0 by decide), un_tree (show (12 : Int) ≠ 0 by decide), un_tree (show (13 : Int) ≠ 0 by decide), un_tree (show (14 : Int) ≠ 0 by decide), un_tree (show (15 : Int) ≠ 0 by decide), bin_tree (show (3 : Int) ≠ 0 by decide), bin_tree (show (4 : Int) ≠ 0 by decide), bin_tree (show (5 : Int) ≠ 0 by decide), bin_tree (show (6 : Int) ≠ 0 by decide), bin_tree (show (8 : Int) ≠ 0 by decide), bin_tree (show (9 : Int) ≠ 0 by decide)]
  | 19, _ => by simp only [lawX, lawR, num1_tree, num2_tree, pi_tree, un_tree (show (2 : Int) ≠ 0 by decide), un_tree (show (7 : Int) ≠ 0 by decide), un_tree (show (10 : Int) ≠ 0 by decide), un_tree (show (11 : Int) ≠ 0 by decide), un_tree (show (12 : Int) ≠ 0 by decide), un_tree (show (13 : Int) ≠ 0 by decide), un_tree (show (14 : Int) ≠ 0 by decide), un_tree (show (15 : Int) ≠ 0 by decide), bin_tree (show (3 : Int) ≠ 0 by decide), bin_tree (show (4 : Int) ≠ 0 by decide), bin_tree (show (5 : Int) ≠ 0 by decide), bin_tree (show (6 : Int) ≠ 0 by decide), bin_tree (show (8 : Int) ≠ 0 by decide), bin_tree (show (9 : Int) ≠ 0 by decide)]
  | 20, _ => by simp only [lawX, lawR, num1_tree, num2_tree, pi_tree, un_tree (show (2 : Int) ≠ 0 by decide), un_tree (show (7 : Int) ≠ 0 by decide), un_tree (show (10 : Int) ≠ 0 by decide), un_tree (show (11 : Int) ≠ 0 by decide), un_tree (show (12 : Int) ≠ 0 by decide), un_tree (show (13 : Int) ≠ 0 by decide), un_tree (show (14 : Int) ≠ 0 by decide), un_tree (show (15 : Int) ≠ 0 by decide), bin_tree (show (3 : Int) ≠ 0 by decide), bin_tree (show (4 : Int) ≠ 0 by decide), bin_tree (show (5 : Int) ≠ 0 by decide), bin_tree (show (6 : Int) ≠ 0 by decide), bin_tree (show (8 : Int) ≠ 0 by decide), bin_tree (show (9 : Int) ≠ 0 by decide)]
  | 21, _ => by simp only [lawX, lawR, num1_tree, num2_tree, pi_tree, un_tree (show (2 : Int) ≠ 0 by decide), un_tree (show (7 : Int) ≠ 0 by decide), un_tree (show (10 : Int) ≠ 0 by decide), un_tree (show (11 : Int) ≠ 0 by decide), un_tree (show (12 : Int) ≠ 0 by decide), un_tree (show (13 : Int) ≠ 0 by decide), un_tree (show (14 : Int) ≠ 0 by decide), un_tree (show (15 : Int) ≠ 0 by decide), bin_tree (show (3 : Int) ≠ 0 by decide), bin_tree (show (4 : Int) ≠ 0 by decide), bin_tree (show (5 : Int) ≠ 0 by decide), bin_tree (show (6 : Int) ≠ 0 by decide), bin_tree (show (8 : Int) ≠ 0 by decide), bin_tree (show (9 : Int) ≠ 0 by decide)]
  | 22, _ => by simp only [lawX, lawR, num1_tree, num2_tree, pi_tree, un_tree (show (2 : Int) ≠ 0 by decide), un_tree (show (7 : Int) ≠ 0 by decide), un_tree (show (10 : Int) ≠ 0 by decide), un_tree (show (11 : Int) ≠ 0 by decide), un_tree (show (12 : Int) ≠ 0 by decide), un_tree (show (13 : Int) ≠ 0 by decide), un_tree (show (14 : Int) ≠ 0 by decide), un_tree (show (15 : Int) ≠ 0 by decide), bin_tree (show (3 : Int) ≠ 0 by decide), bin_tree (show (4 : Int) ≠ 0 by decide), bin_tree (show (5 : Int) ≠ 0 by decide), bin_tree (show (6 : Int) ≠ 0 by decide), bin_tree (show (8 : Int) ≠ 0 by decide), bin_tree (show (9 : Int) ≠ 0 by decide)]
  | 23, _ => by simp only [lawX, lawR, num1_tree, num2_tree, pi_tree, un_tree (show (2 : Int) ≠ 0 by decide), un_tree (show (7 : Int) ≠ 0 by decide), un_tree (show (10 : Int) ≠ 0 by decide), un_tree (show (11 : Int) ≠ 0 by decide), un_tree (show (12 : Int) ≠ 0 by decide), un_tree (show (13 : Int) ≠ 0 by decide), un_tree (show (14 : Int) ≠ 0 by decide), un_tree (show (15 : Int) ≠ 0 by decide), bin_tree (show (3 : Int) ≠ 0 by decide), bin_tree (show (4 : Int) ≠ 0 by decide), bin_tree (show (5 : Int) ≠ 0 by decide), bin_tree (show (6 : Int) ≠ 0 by decide), bin_tree (show (8 : Int) ≠ 0 by decide), bin_tree (show (9 : Int) ≠ 0 by decide)]
  | 24, _ => by simp only [lawX, lawR, num1_tree, num2_tree, pi_tree, un_tree (show (2 : Int) ≠ 0 by decide), un_tree (show (7 : Int) ≠ 0 by decide), un_tree (show (10 : Int) ≠ 0 by decide), un_tree (show (11 : Int) ≠ 0 by decide), un_tree (show (12 : Int) ≠ 0 by decide), un_tree (show (13 : Int) ≠ 0 by decide), un_tree (show (14 : Int) ≠ 0 by decide), un_tree (show (15 : Int) ≠ 0 by decide), bin_tree (show (3 : Int) ≠ 0 by decide), bin_tree (show (4 : Int) ≠ 0 by decide), bin_tree (show (5 : Int) ≠ 0 by decide), bin_tree (show (6 : Int) ≠ 0 by decide), bin_tree (show (8 : Int) ≠ 0 by decide), bin_tree (show (9 : Int) ≠ 0 by decide)]
  | 25, _ => by simp only [lawX, lawR, num1_tree, num2_tree, pi_tree, un_tree (show (2 : Int) ≠ 0 by decide), un_tree (show (7 : Int) ≠ 0 by decide), un_tree (show (10 : Int) ≠ 0 by decide), un_tree (show (11 : Int) ≠ 0 by decide), un_tree (show (12 : Int) ≠ 0 by decide), un_tree (show (13 : Int) ≠ 0 by decide), un_tree (show (14 : Int) ≠ 0 by decide), un_tree (show (15 : Int) ≠ 0 by decide), bin_tree (show (3 : Int) ≠ 0 by decide), bin_tree (show (4 : Int) ≠ 0 by decide), bin_tree (show (5 : Int) ≠ 0 by decide), bin_tree (show (6 : Int) ≠ 0 by decide), bin_tree (show (8 : Int) ≠ 0 by decide), bin_tree (show (9 : Int) ≠ 0 by decide)]
  | 26, _ => by simp only [lawX, lawR, num1_tree, num2_tree, pi_tree, un_tree (show (2 : Int) ≠ 0 by decide), un_tree (show (7 : Int) ≠ 0 by decide), un_tree (show (10 : Int) ≠ 0 by decide), un_tree (show (11 : Int) ≠ 0 by decide), un_tree (show (12 : Int) ≠ 0 by decide), un_tree (show (13 : Int) ≠ 0 by decide), un_tree (show (14 : Int) ≠ 0 by decide), un_tree (show (15 : Int) ≠ 0 by decide), bin_tree (show (3 : Int) ≠ 0 by decide), bin_tree (show (4 : Int) ≠ 0 by decide), bin_tree (show (5 : Int) ≠ 0 by decide), bin_tree (show (6 : Int) ≠ 0 by decide), bin_tree (show (8 : Int) ≠ 0 by decide), bin_tree (show (9 : Int) ≠ 0 by decide)]
  | 27, _ => by simp only [lawX, lawR, num1_tree, num2_tree, pi_tree, un_tree (show (2 : Int) ≠ 0 by decide), un_tree (show (7 : Int) ≠ 0 by decide), un_tree (show (10 : Int) ≠ 0 by decide), un_tree (show (11 : Int) ≠ 0 by decide), un_tree (show (12 : Int) ≠ 0 by decide), un_tree (show (13 : Int) ≠ 0 by decide), un_tree (show (14 : Int) ≠ 0 by decide), un_tree (show (15 : Int) ≠ 0 by decide), bin_tree (show (3 : Int) ≠ 0 by decide), bin_tree (show (4 : Int) ≠ 0 by decide), bin_tree (show (5 : Int) ≠ 0 by decide), bin_tree (show (6 : Int) ≠ 0 by decide), bin_tree (show (8 : Int) ≠ 0 by decide), bin_tree (show (9 : Int) ≠ 0 by decide)]
  | 28, _ => by simp only [lawX, lawR, num1_tree, num2_tree, pi_tree, un_tree (show (2 : Int) ≠ 0 by decide), un_tree (show (7 : Int) ≠ 0 by decide), un_tree (show (10 : Int) ≠ 0 by decide), un_tree (show (11 : Int) ≠ 0 by decide), un_tree (show (12 : Int) ≠ 0 by decide), un_tree (show (13 : Int) ≠ 0 by decide), un_tree (show (14 : Int) ≠ 0 by decide), un_tree (show (15 : Int) ≠ 0 by decide), bin_tree (show (3 : Int) ≠ 0 by decide), bin_tree (show (4 : Int) ≠ 0 by decide), bin_tree (show (5 : Int) ≠ 0 by decide), bin_tree (show (6 : Int) ≠ 0 by decide), bin_tree (show (8 : Int) ≠ 0 by decide), bin_tree (show (9 : Int) ≠ 0 by decide)]
  | 29, _ => by simp only [lawX, lawR, num1_tree, num2_tree, pi_tree, un_tree (show (2 : Int) ≠ 0 by decide), un_tree (show (7 : Int) ≠ 0 by decide), un_tree (show (10 : Int) ≠ 0 by decide), un_tree (show (11 : Int) ≠ 0 by decide), un_tree (show (12 : Int) ≠ 0 by decide), un_tree (show (13 : Int) ≠ 0 by decide), un_tree (show (14 : Int) ≠ 0 by decide), un_tree (show (15 : Int) ≠ 0 by decide), bin_tree (show (3 : Int) ≠ 0 by decide), bin_tree (show (4 : Int) ≠ 0 by decide), bin_tree (show (5 : Int) ≠ 0 by decide), bin_tree (show (6 : Int) ≠ 0 by decide), bin_tree (show (8 : Int) ≠ 0 by decide), bin_tree (show (9 : Int) ≠ 0 by decide)]
  | n + 30, h => by omega
end Go.Proofs.YtihloomkgpflmaaGreatDoor

namespace Go.Proofs.YtihloomkgpflmaaGreatDoor
open Go.Proofs.YtihloomkgpflmaaGreatDoor.Vm
variable {tabs : List (Nat × List Value)}
theorem wrap_id {z : Int} (h1 : -9223372036854775808 ≤ z) (h2 : z < 9223372036854775808) : wrapI .i64 z = z := by
  rw [wrapI_eq, wrap_i64]
  split <;> omega
theorem bin_sub {x y z : Int} {t : TypeId} {c : Bool} (hz : x - y = z) (h1 : -9223372036854775808 ≤ z) (h2 : z < 9223372036854775808) : aBin PP .sub t c (.int .i64 x) (.int .i64 y) = some (.int .i64 z) := by
  subst hz
  rw [aBin_int (by simp) (by simp)]
  have e : Int.sub x y = x - y := rfl
  simp only [aInt, e, wrap_id h1 h2]

/-! ### alike -/
theorem twice_inj : ∀ x y : Er, [x.nd.val, x.nd.val] = [y.nd.val, y.nd.val] → x = y := by
  intro x y h
  simp only [List.cons.injEq, and_true] at h
  exact Er.inj x y h.1
theorem rat_twice : ∀ x y : Bool × List Nat × List Nat, [rV x.1 x.2.1 x.2.2, rV x.1 x.2.1 x.2.2] = [rV y.1 y.2.1 y.2.2, rV y.1 y.2.1 y.2.2] → x = y := by
  intro x y h
  simp only [List.cons.injEq, and_true] at h
  exact rat_inj x y (by simp only [List.cons.injEq, and_true]; exact h.1)
noncomputable def F10 : Known := Known.none.add 90 (eI (fun x : Bool × List Nat × List Nat => [rV x.1 x.2.1 x.2.2, rV x.1 x.2.1 x.2.2]) (fun x => Num x.2.1 ∧ Num x.2.2) fun _ => i64 0)
theorem F10_ok : F10.Ok PP GG tabs := Known.add_ok Known.none_ok (eI_ok fun x h => rcmp_ok h.1 h.2)
namespace Alike
noncomputable def frB : Fr := onto PP XX GG 12 (door PP 22 [eV 1 false [] [] false 0 [], eV 1 false [] [] false 0 []] .nil GG) [.go, .go, .go, .go, .go, .go, .go, .val (.bool false), .go, .go, .go, .go, .go, .go, .go, .go, .go, .go, .go, .val (.bool false), .go, .go, .go, .go, .val (.bool false), .go, .go]
noncomputable def frH (o : Int) (n : Bool) (p q : List Nat) (l : List Er) (i : Nat) : Fr := { frB with T := mkT [(2, .pointer (some ⟨256 * 4, 0, none⟩)), (3, .pointer (some ⟨256 * (4 + 1), 0, none⟩)), (38, mkDat l.length (erL l)), (39, i64 l.length), (40, i64 i)], M := mkM [(4, .cells false [.int .i64 o, .bool n, natV p, natV q, .bool false, mkDat l.length (erL l)]), (4 + 1, .cells false [.int .i64 o, .bool n, natV p, natV q, .bool false, mkDat l.length (erL l)])] }
theorem q1 (o : Int) (n : Bool) (p q : List Nat) (l : List Er) : walk PP XX GG 12 (door PP 22 [eV o n p q false l.length (erL l), eV o n p q false l.length (erL l)] .nil GG) [.go, .go, .go, .go, .go, .go, .go, .val (.bool false), .go, .go, .go, .go, .go, .go, .go, .go, .go, .go, .go, .val (.bool false), .go, .go, .go, .go, .val (.bool false), .go, .go] [2, 3, 38, 39, 40] [4, 4 + 1] = some (frH o n p q l 0, [.bin .neq 3 false (.int .i64 o) (.int .i64 o) (.bool false), .bin .neq 3 false (i64 l.length) (i64 l.length) (.bool false), .bin .eql 3 true (.int .i64 o) (i64 0) (.bool false)]) := by kernel_rfl
theorem q2 (o : Int) (n : Bool) (p q : List Nat) (l : List Er) : walk PP XX GG 12 (door PP 22 [eV o n p q false l.length (erL l), eV o n p q false l.length (erL l)] .nil GG) [.go, .go, .go, .go, .go, .go, .go, .val (.bool false), .go, .go, .go, .go, .go, .go, .go, .go, .go, .go, .go, .val (.bool false), .go, .go, .go, .go, .val (.bool true), .go, .go, .go, .go, .go, .pure (i64 0), .val (.bool false), .go, .go] [2, 3, 38, 39, 40] [4, 4 + 1] = some (frH o n p q l 0, [.bin .neq 3 false (.int .i64 o) (.int .i64 o) (.bool false), .bin .neq 3 false (i64 l.length) (i64 l.length) (.bool false), .bin .eql 3 true (.int .i64 o) (i64 0) (.bool true), .call 90 [.agg ⟨[.bool n, natV p, natV q]⟩, .agg ⟨[.bool n, natV p, natV q]⟩] (mkM [(4, .cells false [.int .i64 o, .bool n, natV p, natV q, .bool false, mkDat l.length (erL l)]), (5, .cells false [.int .i64 o, .bool n, natV p, natV q, .bool false, mkDat l.length (erL l)])]) 6 (i64 0) (mkM [(4, .cells false [.int .i64 o, .bool n, natV p, natV q, .bool false, mkDat l.length (erL l)]), (5, .cells false [.int .i64 o, .bool n, natV p, natV q, .bool false, mkDat l.length (erL l)])]) 6, .bin .neq 3 true (i64 0) (i64 0) (.bool false)]) := by kernel_rfl
theorem q3 (o : Int) (n : Bool) (p q : List Nat) (l : List Er) (a : Rd) (i i2 : Nat) : walk PP XX GG 16 (frH o n p q l i) [.val (.bool true), .go, .go, .go, .go, .go, .val (erP l i), .val a.val, .go, .go, .go, .val (erP l i), .val a.val, .pure (.bool true), .go, .val (i64 i2), .go] [2, 3, 38, 39, 40] [4, 4 + 1] = some (frH o n p q l i2, [.bin .lss 3 false (i64 i) (i64 l.length) (.bool true), .nice (mkDat l.length (erL l)), .idxA 37 (mkDat l.length (erL l)) (i64 i) (mkPtr (List.drop (i * 6) (erL l))), .load (mkM [(4, .cells false [.int .i64 o, .bool n, natV p, natV q, .bool false, mkDat l.length (erL l)]), (5, .cells false [.int .i64 o, .bool n, natV p, natV q, .bool false, mkDat l.length (erL l)])]) 39 (mkPtr (List.drop (i * 6) (erL l))) (a.val), .nice (a.val), .nice (mkDat l.length (erL l)), .idxA 37 (mkDat l.length (erL l)) (i64 i) (mkPtr (List.drop (i * 6) (erL l))), .load (mkM [(4, .cells false [.int .i64 o, .bool n, natV p, natV q, .bool false, mkDat l.length (erL l)]), (5, .cells false [.int .i64 o, .bool n, natV p, natV q, .bool false, mkDat l.length (erL l)])]) 39 (mkPtr (List.drop (i * 6) (erL l))) (a.val), .nice (a.val), .call 22 [a.val, a.val] (mkM [(4, .cells false [.int .i64 o, .bool n, natV p, natV q, .bool false, mkDat l.length (erL l)]), (5, .cells false [.int .i64 o, .bool n, natV p, natV q, .bool false, mkDat l.length (erL l)])]) 6 (.bool true) (mkM [(4, .cells false [.int .i64 o, .bool n, natV p, natV q, .bool false, mkDat l.length (erL l)]), (5, .cells false [.int .i64 o, .bool n, natV p, natV q, .bool false, mkDat l.length (erL l)])]) 6, .bin .add 3 true (i64 i) (i64 1) (i64 i2)]) := by kernel_rfl
theorem q4 (o : Int) (n : Bool) (p q : List Nat) (l : List Er) (i : Nat) : ends PP XX GG 8 (frH o n p q l i) [.val (.bool false)] [4] [] = some (.bool true, mkM [], [.bin .lss 3 false (i64 i) (i64 l.length) (.bool false)]) := by kernel_rfl
theorem loop_ok {F : Known} (hF : F.Ok PP GG tabs) {o : Int} {n : Bool} {p q : List Nat} {l : List Er} (hc : ∀ x ∈ l, ∀ (M : Tr Blk) (nx : Nat), F.sm 22 [x.nd.val, x.nd.val] M nx = some (.bool true, M, nx)) (hm : l.length + 1 < 9223372036854775808) (hh : rhighL l ≤ 400000) : ∀ d i, i + d = l.length → PT PP GG tabs (frH o n p q l i) (.bool true)
  | 0, i, h => PT.ends (envOf hF) (q4 o n p q l i) (lss_f (by omega)) .same
  | d + 1, i, h => by
    have hi : i < l.length := by omega
    have hx := List.getElem_mem hi
    have hxr := rhighL_mem hx
    have hn := okV_nice (by omega) (l[i]).ok
    exact PT.walk (envOf hF) (q3 o n p q l (l[i]).nd i (i + 1)) ⟨lss_t hi, nice_er hh, idx_er hi, load_er hi, hn, nice_er hh, idx_er hi, load_er hi, hn, hc _ hx _ _, add_i64 (by omega)⟩ (loop_ok hF hc hm hh d (i + 1) (by omega))
end Alike
theorem right_parts {o : Int} {n : Bool} {p q : List Nat} {bd : Bool} {l : List Er} (h : (Er.mk o n p q bd l).right = true) : bd = false ∧ ∀ x ∈ l, x.right = true := by
  simp only [Er.right, rightB, Bool.and_eq_true] at h
  refine ⟨by simpa using h.1.1, ?_⟩
  have h2 := h.2
  clear h
  induction l with
  | nil => intro x hx; cases hx
  | cons b l ih =>
    intro x hx
    simp only [rrightL, Bool.and_eq_true] at h2
    rcases List.mem_cons.1 hx with e | e
    · subst e; exact h2.1
    · exact ih h2.2 x e
theorem alike_ok : ∀ t : Er, t.right = true → Fair t → PureOk PP GG tabs 22 [t.nd.val, t.nd.val] (.bool true)
  | .mk o n p q bd l, hr, hf => by
    obtain ⟨hbd, hrl⟩ := right_parts hr
    subst hbd
    have hm : rnodesL l + 1 < 9223372036854775808 := by simpa [Er.nodes] using hf.nodes
    have hh' : rhighL l + 1 ≤ 400000 := by simpa [Er.high] using hf.high
    have hl := len_nodes l
    obtain ⟨hp, hq, hfl⟩ : Num p ∧ Num q ∧ ∀ x ∈ l, Fine x := by have := hf.fine; cases this; exact ⟨‹_›, ‹_›, ‹_›⟩
    have ih : ∀ x ∈ l, PureOk PP GG tabs 22 [x.nd.val, x.nd.val] (.bool true) := fun x hx => alike_ok x (hrl x hx) ⟨hfl x hx, by have := rhighL_mem hx; omega, by have := rnodesL_mem hx; omega⟩
    refine PureOk.of' ?_ ⟨1, rfl⟩ (by kernel_rfl) ?_
    · intro x hx
      simp only [List.mem_cons, List.not_mem_nil, or_false] at hx
      rcases hx with rfl | rfl <;> exact Er.nl _
    · have hF : (F10.add 22 (eI (fun x : Er => [x.nd.val, x.nd.val]) (fun x => x ∈ l) fun _ => .bool true)).Ok PP GG tabs := Known.add_ok F10_ok (eI_ok fun x hx => ih x hx)
      have hc : ∀ x ∈ l, ∀ (M : Tr Blk) (nx : Nat), (F10.add 22 (eI (fun x : Er => [x.nd.val, x.nd.val]) (fun x => x ∈ l) fun _ => .bool true)).sm 22 [x.nd.val, x.nd.val] M nx = some (.bool true, M, nx) := fun x hx M nx => er_call2 (add_same.trans (eI_of twice_inj hx))
      show PT PP GG tabs (door PP 22 [eV o n p q false l.length (erL l), eV o n p q false l.length (erL l)] .nil GG) _
      have fin := Alike.loop_ok hF (o := o) (n := n) (p := p) (q := q) hc (by omega) (by omega) l.length 0 (by omega)
      by_cases h0 : o = 0
      · refine PT.walk (envOf hF) (Alike.q2 o n p q l) ⟨bin_neq (decide_eq_false (fun h => h rfl)), bin_neq (decide_eq_false (fun h => h rfl)), bin_eql (decide_eq_true h0), ?_, bin_neq (decide_eq_false (fun h => h rfl))⟩ fin
        exact pureCall (by simp [frz_rat]) (by simp [offs_rat]) ((add_other rfl).trans (add_same.trans (eI_of (x := (n, p, q)) rat_twice ⟨hp, hq⟩)))
      · exact PT.walk (envOf hF) (Alike.q1 o n p q l) ⟨bin_neq (decide_eq_false (fun h => h rfl)), bin_neq (decide_eq_false (fun h => h rfl)), bin_eql (decide_eq_false h0)⟩ fin
  termination_by e => SizeOf.sizeOf e
  decreasing_by exact er_size hx _ _ _ _ _

/-! ### is, num -/
namespace Is
theorem q1 (x : Nd) (t : Rd) : ends PP XX GG 7 (door PP 10 [x.val, t.val] .nil GG) [.go, .go, .go, .go, .pure t.val, .go, .go, .go, .go, .pure (.bool true), .go] [4] [] = some (.bool true, mkM [], [.call 7 [x.val] (mkM [(4, .cells false x.cells), (5, .cells false t.cells)]) 6 (t.val) (mkM [(4, .cells false x.cells), (5, .cells false t.cells)]) 6, .call 22 [t.val, t.val] (mkM [(4, .cells false x.cells), (5, .cells false t.cells), (6, .cells false t.cells)]) 7 (.bool true) (mkM [(4, .cells false x.cells), (5, .cells false t.cells), (6, .cells false t.cells)]) 7]) := by kernel_rfl
theorem q2 (z : Int) : ends PP XX GG 5 (door PP 9 [.int .i64 z] .nil GG) [] [2] [] = some (.int .i64 z, mkM [], []) := by kernel_rfl
end Is
theorem nodes_tree : ∀ e : Ex, e.tree.nodes = e.nodes
  | .mk o n a b l => by
    have h : ∀ m : List Ex, (∀ x ∈ m, x.tree.nodes = x.nodes) → rnodesL (treeL m) = nodesL m := by
      intro m hm
      induction m with
      | nil => rfl
      | cons b m ih =>
        simp only [treeL, rnodesL, nodesL]
        rw [hm b List.mem_cons_self, ih fun x hx => hm x (List.mem_cons_of_mem _ hx)]
    have h2 := h l fun x hx => nodes_tree x
    simp only [Ex.tree, treeN, Ex.nodes]
    split
    · split <;> simp [Er.nodes, h2]
    · simp [Er.nodes, h2]
  termination_by e => SizeOf.sizeOf e
  decreasing_by exact ex_size hx _ _ _ _
noncomputable def FIs (e : Ex) : Known := (Known.none.add 7 (eI (fun x : Ex => [x.nd.val]) (fun x => x = e) fun x => x.tree.nd.val)).add 22 (eI (fun x : Er => [x.nd.val, x.nd.val]) (fun x => x = e.tree) fun _ => .bool true)
theorem FIs_tree (e : Ex) : FIs e 7 [e.nd.val] = some e.tree.nd.val := (add_other rfl).trans (add_same.trans (eI_of (c := fun x => x = e) (r := fun x : Ex => x.tree.nd.val) ex_inj1 rfl))
theorem FIs_alike (e : Ex) : FIs e 22 [e.tree.nd.val, e.tree.nd.val] = some (.bool true) := add_same.trans (eI_of (c := fun x => x = e.tree) (r := fun _ : Er => .bool true) twice_inj rfl)
theorem is_ok {e : Ex} (hg : Good e) (hr : e.tree.right = true) (hf : Fair e.tree) : PureOk PP GG tabs 10 [e.nd.val, e.tree.nd.val] (.bool true) := by
  refine PureOk.of' ?_ ⟨1, rfl⟩ (by kernel_rfl) ?_
  · intro x hx
    simp only [List.mem_cons, List.not_mem_nil, or_false] at hx
    rcases hx with rfl | rfl
    · exact Ex.nl _
    · exact Er.nl _
  · have hF : (FIs e).Ok PP GG tabs :=
      Known.add_ok (Known.add_ok Known.none_ok (eI_ok fun x hx => by subst hx; exact tree_ok x hg (by have := hf.high; rw [tree_high] at this; exact this))) (eI_ok fun x hx => by subst hx; exact alike_ok _ hr hf)
    exact PT.ends (envOf hF) (Is.q1 e.nd e.tree.nd) ⟨ex_call (FIs_tree e), er_call2 (FIs_alike e)⟩ .same
theorem num_ok (z : Int) : PureOk PP GG tabs 9 [.int .i64 z] (.int .i64 z) := by
  refine PureOk.of' ?_ nl_int (by kernel_rfl) ?_
  · intro x hx
    simp only [List.mem_cons, List.not_mem_nil, or_false] at hx
    subst hx; exact nl_int
  · exact PT.ends (envOf Known.none_ok) (Is.q2 z) trivial .same
end Go.Proofs.YtihloomkgpflmaaGreatDoor

namespace Go.Proofs.YtihloomkgpflmaaGreatDoor
open Go.Proofs.YtihloomkgpflmaaGreatDoor.Vm
variable {tabs : List (Nat × List Value)}
theorem cnt_low : ∀ (e : Ex) (z : Int), -2 ≤ z → z ≤ 10000 → -3 ≤ e.cnt z ∧ e.cnt z < z
  | .mk o n a b l, z, h, h2 => by
    have hl : ∀ (m : List Ex), (∀ x ∈ m, ∀ w : Int, -2 ≤ w → w ≤ 10000 → -3 ≤ x.cnt w ∧ x.cnt w < w) → ∀ w : Int, -3 ≤ w → w ≤ 10000 → -3 ≤ cntL m w ∧ cntL m w ≤ w := by
      intro m
      induction m with
      | nil => intro _ w h h2; simp only [cntL]; omega
      | cons x m ih =>
        intro hm w h h2
        unfold cntL
        split
        · omega
        · have h3 := hm x List.mem_cons_self w (by omega) h2
          have h4 := ih (fun y hy => hm y (List.mem_cons_of_mem _ hy)) (x.cnt w) (by omega) (by omega)
          omega
    have h3 := hl l (fun x hx w hw hw2 => cnt_low x w hw hw2) (z - 1) (by omega) (by omega)
    simp only [Ex.cnt]; omega
  termination_by e => SizeOf.sizeOf e
  decreasing_by exact ex_size hx _ _ _ _
/-- What is left is right, if it is not below 0. -/
theorem cnt_nodes : ∀ (e : Ex) (z : Int), 0 ≤ e.cnt z → e.cnt z = z - e.nodes
  | .mk o n a b l, z, h => by
    have hl : ∀ (m : List Ex), (∀ x ∈ m, ∀ w : Int, 0 ≤ x.cnt w → x.cnt w = w - x.nodes) → ∀ w : Int, 0 ≤ cntL m w → cntL m w = w - nodesL m := by
      intro m
      induction m with
      | nil => intro _ w _; simp [cntL, nodesL]
      | cons x m ih =>
        intro hm w h
        unfold cntL at h ⊢
        split
        · rename_i hw
          rw [if_pos hw] at h; omega
        · rename_i hw
          rw [if_neg hw] at h
          have h4 := ih (fun y hy => hm y (List.mem_cons_of_mem _ hy)) (x.cnt w) h
          have h5 : 0 ≤ x.cnt w := by
            have : ∀ (m : List Ex) (w : Int), 0 ≤ cntL m w → 0 ≤ w := by
              intro m w hq
              cases m with
              | nil => exact hq
              | cons y m =>
                unfold cntL at hq
                split at hq <;> omega
            exact this m _ h
          have h6 := hm x List.mem_cons_self w h5
          simp only [nodesL]
          omega
    have h3 := hl l (fun x hx w hw => cnt_nodes x w hw) (z - 1) (by simpa [Ex.cnt] using h)
    simp only [Ex.cnt, Ex.nodes] at h ⊢
    omega
  termination_by e => SizeOf.sizeOf e
  decreasing_by exact ex_size hx _ _ _ _
theorem cntin_inj : ∀ x y : Ex × Int, [x.1.nd.val, Value.int .i64 x.2] = [y.1.nd.val, Value.int .i64 y.2] → x = y := by
  rintro ⟨a, z⟩ ⟨b, w⟩ h
  simp only [List.cons.injEq, Value.int.injEq, true_and, and_true] at h
  rw [Ex.inj a b h.1, h.2]
theorem cnt_call {F : Known} {f : FuncId} {e : Ex} {z : Int} {v : Value} (h : F f [e.nd.val, .int .i64 z] = some v) {M : Tr Blk} {nx : Nat} : F.sm f [e.nd.val, .int .i64 z] M nx = some (v, M, nx) := pureCall (by simp [frz_Nd, frz_int]) (by simp [offs_Nd, offs_int]) h
namespace Count
noncomputable def frH (l : List Ex) (z : Int) (i : Nat) : Fr := { onto PP XX GG 9 (door PP 11 [xV 0 false [] [] 0 [], .int .i64 0] .nil GG) [.go, .go, .go, .val (.int .i64 0), .go] with T := mkT [(1, .int .i64 z), (10, mkDat l.length (exL l)), (11, i64 l.length), (12, i64 i)], M := .nil }
theorem q0 (o : Int) (n : Bool) (a b : List Nat) (l : List Ex) (z z2 : Int) : walk PP XX GG 9 (door PP 11 [xV o n a b l.length (exL l), .int .i64 z] .nil GG) [.go, .go, .go, .val (.int .i64 z2), .go] [1, 10, 11, 12] [] = some (frH l z2 0, [.bin .sub 3 true (.int .i64 z) (i64 1) (.int .i64 z2)]) := by kernel_rfl
theorem q1 (l : List Ex) (z z2 : Int) (a : Nd) (i i2 : Nat) : walk PP XX GG 18 (frH l z i) [.val (.bool true), .val (exP l i), .val a.val, .go, .go, .go, .val (.bool false), .go, .go, .pure (.int .i64 z2), .go, .val (i64 i2), .go] [1, 10, 11, 12] [] = some ({ frH l z2 i2 with nx := 4 + 2 }, [.bin .lss 3 false (i64 i) (i64 l.length) (.bool true), .idxA 29 (mkDat l.length (exL l)) (i64 i) (mkPtr (List.drop (i * 5) (exL l))), .load (mkM []) 31 (mkPtr (List.drop (i * 5) (exL l))) (a.val), .bin .lss 3 true (.int .i64 z) (i64 0) (.bool false), .call 11 [a.val, .int .i64 z] (mkM [(5, .cells false a.cells)]) 6 (.int .i64 z2) (mkM [(5, .cells false a.cells)]) 6, .bin .add 3 true (i64 i) (i64 1) (i64 i2)]) := by kernel_rfl
theorem q2 (l : List Ex) (z : Int) (a : Nd) (i : Nat) : ends PP XX GG 16 (frH l z i) [.val (.bool true), .val (exP l i), .val a.val, .go, .go, .go, .val (.bool true), .go, .go] [4] [] = some (.int .i64 z, mkM [], [.bin .lss 3 false (i64 i) (i64 l.length) (.bool true), .idxA 29 (mkDat l.length (exL l)) (i64 i) (mkPtr (List.drop (i * 5) (exL l))), .load (mkM []) 31 (mkPtr (List.drop (i * 5) (exL l))) (a.val), .bin .lss 3 true (.int .i64 z) (i64 0) (.bool true)]) := by kernel_rfl
theorem q3 (l : List Ex) (z : Int) (i : Nat) : ends PP XX GG 8 (frH l z i) [.val (.bool false), .go] [4] [] = some (.int .i64 z, mkM [], [.bin .lss 3 false (i64 i) (i64 l.length) (.bool false)]) := by kernel_rfl
theorem loop_ok {F : Known} (hF : F.Ok PP GG tabs) {l : List Ex} (hc : ∀ x ∈ l, ∀ z : Int, -2 ≤ z → z ≤ 10000 → ∀ (M : Tr Blk) (nx : Nat), F.sm 11 [x.nd.val, .int .i64 z] M nx = some (.int .i64 (x.cnt z), M, nx)) (hm : l.length + 1 < 9223372036854775808) : ∀ d i (z : Int), i + d = l.length → -3 ≤ z → z ≤ 10000 → PT PP GG tabs (frH l z i) (.int .i64 (cntL (l.drop i) z))
  | 0, i, z, h, h1, h2 => by
    have e : l.drop i = [] := List.drop_of_length_le (by omega)
    rw [e]
    exact PT.ends (envOf hF) (q3 l z i) (lss_f (by omega)) .same
  | d + 1, i, z, h, h1, h2 => by
    have hi : i < l.length := by omega
    have hx := List.getElem_mem hi
    have e : l.drop i = l[i] :: l.drop (i + 1) := List.drop_eq_getElem_cons hi
    rw [e]
    unfold cntL
    by_cases hz : z < 0
    · rw [if_pos hz]
      exact PT.ends (envOf hF) (q2 l z (l[i]).nd i) ⟨lss_t hi, idx_ex hi, load_ex hi, bin_lss (w := 0) (decide_eq_true hz)⟩ .same
    · rw [if_neg hz]
      have hlow := cnt_low (l[i]) z (by omega) h2
      refine PT.walk (envOf hF) (q1 l z ((l[i]).cnt z) (l[i]).nd i (i + 1)) ⟨lss_t hi, idx_ex hi, load_ex hi, bin_lss (w := 0) (decide_eq_false hz), hc _ hx z (by omega) h2 _ _, add_i64 (by omega)⟩ ?_
      refine back (4 + 1) _ [(1, .int .i64 ((l[i]).cnt z)), (10, mkDat l.length (exL l)), (11, i64 l.length), (12, i64 (i + 1))] rfl rfl ?_ (by decide) (by kernel_rfl) (by kernel_rfl) (by kernel_rfl) (by kernel_rfl) (by kernel_rfl) (loop_ok hF hc hm d (i + 1) _ (by omega) (by omega) (by omega))
      intro p hp
      simp only [List.mem_cons, List.not_mem_nil, or_false] at hp
      rcases hp with rfl | rfl | rfl | rfl
      · exact nl_int
      · exact nl_Ex l _
      · exact nl_int
      · exact nl_int
end Count
/-- Rows that are not too long anywhere. -/
inductive Thin : Ex → Prop
  | mk {o : Int} {n : Bool} {a b : List Nat} {l : List Ex} (h : l.length + 1 < 9223372036854775808) (hp : ∀ x ∈ l, Thin x) : Thin (.mk o n a b l)
theorem count_ok : ∀ e : Ex, Thin e → ∀ z : Int, -2 ≤ z → z ≤ 10000 → PureOk PP GG tabs 11 [e.nd.val, .int .i64 z] (.int .i64 (e.cnt z))
  | .mk o n a b l, ht, z, h1, h2 => by
    obtain ⟨hl, hp⟩ : l.length + 1 < 9223372036854775808 ∧ ∀ x ∈ l, Thin x := by cases ht; exact ⟨‹_›, ‹_›⟩
    have ih : ∀ x ∈ l, ∀ w : Int, -2 ≤ w → w ≤ 10000 → PureOk PP GG tabs 11 [x.nd.val, .int .i64 w] (.int .i64 (x.cnt w)) := fun x hx w hw hw2 => count_ok x (hp x hx) w hw hw2
    refine PureOk.of' ?_ nl_int (by kernel_rfl) ?_
    · intro x hx
      simp only [List.mem_cons, List.not_mem_nil, or_false] at hx
      rcases hx with rfl | rfl
      · exact Ex.nl _
      · exact nl_int
    · have hF : (Known.none.add 11 (eI (fun x : Ex × Int => [x.1.nd.val, .int .i64 x.2]) (fun x => x.1 ∈ l ∧ -2 ≤ x.2 ∧ x.2 ≤ 10000) fun x => .int .i64 (x.1.cnt x.2))).Ok PP GG tabs := Known.add_ok Known.none_ok (eI_ok fun x hx => ih x.1 hx.1 x.2 hx.2.1 hx.2.2)
      refine PT.walk (envOf hF) (Count.q0 o n a b l z (z - 1)) (bin_sub rfl (by omega) (by omega)) ?_
      exact Count.loop_ok hF (fun x hx w hw hw2 M nx => cnt_call (add_same.trans (eI_of (x := (x, w)) cntin_inj ⟨hx, hw, hw2⟩))) hl l.length 0 (z - 1) (by omega) (by omega) (by omega)
  termination_by e => SizeOf.sizeOf e
  decreasing_by exact ex_size hx _ _ _ _
namespace Great
theorem q1 (l : List Ex) (a b : Nd) (z w : Int) (r : Bool) : ends PP XX GG 43 (door PP 4 [mkDat 2 (exL l)] .nil GG) [.go, .go, .go, .go, .go, .go, .val (exP l 0), .val a.val, .go, .go, .go, .go, .pure (.int .i64 z), .go, .go, .go, .go, .val (exP l 1), .val b.val, .go, .go, .go, .go, .pure (.int .i64 w), .go, .go, .go, .go, .go, .val (.bool r)] [2] [] = some (.bool r, mkM [], [.idxA 29 (mkDat 2 (exL l)) (i64 0) (mkPtr (List.drop (0 * 5) (exL l))), .load (mkM []) 31 (mkPtr (List.drop (0 * 5) (exL l))) (a.val), .call 11 [a.val, i64 10000] (mkM [(4, .cells false a.cells)]) 5 (.int .i64 z) (mkM [(4, .cells false a.cells)]) 5, .idxA 29 (mkDat 2 (exL l)) (i64 1) (mkPtr (List.drop (1 * 5) (exL l))), .load (mkM [(4, .cells false a.cells)]) 31 (mkPtr (List.drop (1 * 5) (exL l))) (b.val), .call 11 [b.val, .int .i64 z] (mkM [(4, .cells false a.cells), (5, .cells false b.cells)]) 6 (.int .i64 w) (mkM [(4, .cells false a.cells), (5, .cells false b.cells)]) 6, .bin .lss 3 true (.int .i64 w) (i64 0) (.bool r)]) := by kernel_rfl
end Great
theorem great_ok {a b : Ex} (ha : Thin a) (hb : Thin b) : PureOk PP GG tabs 4 [mkDat 2 (exL [a, b])] (.bool (decide (b.cnt (a.cnt 10000) < 0))) := by
  refine PureOk.of' ?_ ⟨1, rfl⟩ (by kernel_rfl) ?_
  · intro x hx
    simp only [List.mem_cons, List.not_mem_nil, or_false] at hx
    subst hx; exact nl_Ex [a, b] 2
  · have hF : (Known.none.add 11 (eI (fun x : Ex × Int => [x.1.nd.val, .int .i64 x.2]) (fun x => Thin x.1 ∧ -2 ≤ x.2 ∧ x.2 ≤ 10000) fun x => .int .i64 (x.1.cnt x.2))).Ok PP GG tabs := Known.add_ok Known.none_ok (eI_ok fun x hx => count_ok x.1 hx.1 x.2 hx.2.1 hx.2.2)
    have h1 := cnt_low a 10000 (by omega) (by omega)
    have hl := cnt_low b (a.cnt 10000)
    refine PT.ends (envOf hF) (Great.q1 [a, b] a.nd b.nd (a.cnt 10000) (b.cnt (a.cnt 10000)) _) ⟨idx_ex (by omega), load_ex (l := [a, b]) (i := 0) (by simp), cnt_call (add_same.trans (eI_of (x := (a, 10000)) cntin_inj ⟨ha, by show (-2 : Int) ≤ 10000; omega, by show (10000 : Int) ≤ 10000; omega⟩)), idx_ex (by omega), load_ex (l := [a, b]) (i := 1) (by simp), cnt_call (add_same.trans (eI_of (x := (b, a.cnt 10000)) cntin_inj ⟨hb, ?_, ?_⟩)), bin_lss (w := 0) rfl⟩ .same
    · show -2 ≤ a.cnt 10000
      have : ∀ (e : Ex) (z : Int), 0 ≤ z → -1 ≤ e.cnt z := by
        intro e
        induction e using Ex.rec (motive_2 := fun l => ∀ z : Int, -1 ≤ z → -1 ≤ cntL l z) with
        | mk o n a b l ih => intro z hz; simp only [Ex.cnt]; exact ih (z - 1) (by omega)
        | nil => rename_i z hz; simpa [cntL] using hz
        | cons x l ihx ihl =>
          rename_i z hz
          unfold cntL
          split
          · exact hz
          · exact ihl _ (ihx z (by omega))
      have := this a 10000 (by omega)
      omega
    · show a.cnt 10000 ≤ 10000
      omega
end Go.Proofs.YtihloomkgpflmaaGreatDoor
