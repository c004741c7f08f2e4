/-
  surdlaw15.Tree: the references' tree of a tree of the program.
  surdlaw15.Tree answers the tree.
-/
import Derived.Test.YtihloomkgpflmaaGreatDoorW3
import Derived.Test.YtihloomkgpflmaaGreatDoorV13
set_option linter.unusedSimpArgs false
set_option linter.unusedVariables false
namespace Go.Proofs.YtihloomkgpflmaaGreatDoor
open Go.Proofs.YtihloomkgpflmaaGreatDoor.Vm
variable {tabs : List (Nat × List Value)}
/-- A node of the program's trees. -/
abbrev xV (o : Int) (n : Bool) (a b : List Nat) (k : Nat) (cs : List Value) : Value := .agg ⟨[.int .i64 o, .bool n, natV a, natV b, mkDat k cs]⟩
theorem ofN_num {a : List Nat} (h : ∀ x ∈ a, x < 18446744073709551616) (hl : a.length ≤ 549755813888) : Num (ofN a) := by
  refine ⟨(ofO_digs h _).norm, norm_nrm _, ?_⟩
  have h1 := norm_length (ofO a a.length)
  have h2 := ofO_length a a.length
  unfold ofN; omega
theorem F8_F2 {f : FuncId} {aa : List Value} (h : (Nat.beq f 26 || (Nat.beq f 25 || (Nat.beq f 97 || (Nat.beq f 96 || (Nat.beq f 94 || (Nat.beq f 42 || (Nat.beq f 95 || (Nat.beq f 43 || Nat.beq f 44)))))))) = false) : F8 f aa = F2 f aa := by
  simp only [Bool.or_eq_false_iff] at h
  obtain ⟨h1, h2, h3, h4, h5, h6, h7, h8, h9⟩ := h
  exact (add_other h1).trans ((add_other h2).trans ((add_other h3).trans ((add_other h4).trans ((add_other h5).trans ((add_other h6).trans ((add_other h7).trans ((add_other h8).trans (add_other h9))))))))
theorem mk_inj : ∀ x y : Bool × List Nat × List Nat, [Value.bool x.1, natV x.2.1, natV x.2.2] = [Value.bool y.1, natV y.2.1, natV y.2.2] → x = y := by
  rintro ⟨s, a, b⟩ ⟨s', a', b'⟩ h
  simp only [List.cons.injEq, and_true, Value.bool.injEq] at h
  obtain ⟨h1, h2, h3⟩ := h
  rw [h1, natV_inj h2, natV_inj h3]
noncomputable def F9 : Known := F8.add 18 (eI (fun x : Bool × List Nat × List Nat => [.bool x.1, natV x.2.1, natV x.2.2]) (fun x => Num x.2.1 ∧ Num x.2.2 ∧ x.2.2 ≠ []) fun x => rat (mkR x.1 x.2.1 x.2.2))
theorem F9_ok : F9.Ok PP GG tabs := Known.add_ok F8_ok (eI_ok fun x h => make_ok h.1 h.2.1 h.2.2)
theorem F9_of {a : List Nat} (ha : ∀ x ∈ a, x < 18446744073709551616) (hl : a.length ≤ 17592186044000) : F9 16 [natV a] = some (natV (ofN a)) := (add_other rfl).trans ((F8_F2 rfl).trans (F2_Of ha hl))
theorem F9_zero (a : List Nat) : F9 17 [natV a] = some (.bool (decide (a.length = 0))) := (add_other rfl).trans ((F8_F2 rfl).trans (F2_zero a))
theorem F9_make {s : Bool} {a b : List Nat} (ha : Num a) (hb : Num b) (h : b ≠ []) : F9 18 [.bool s, natV a, natV b] = some (rat (mkR s a b)) := add_same.trans (eI_of (x := (s, a, b)) mk_inj ⟨ha, hb, h⟩)
theorem pureN {F : Known} {f : FuncId} {a : List Nat} {v : Value} (h : F f [natV a] = some v) {M : Tr Blk} {nx : Nat} : F.sm f [natV a] M nx = some (v, M, nx) := pureCall one_frz one_offs h
theorem pureB {F : Known} {f : FuncId} {s : Bool} {a b : List Nat} {v : Value} (h : F f [.bool s, natV a, natV b] = some v) {M : Tr Blk} {nx : Nat} : F.sm f [.bool s, natV a, natV b] M nx = some (v, M, nx) := pureCall (by simp [frz_dat, frz_bool]) (by simp [offs_dat, offs_bool]) h
theorem iEr : (PP.info? 39).map (fun i => (i.size, i.bytes, i.zero.map (·.cells.size))) = some (6, 96, some 6) := by kernel_rfl

namespace Tree
abbrev hd (x y : List Nat) : List Ans := [.go, .go, .go, .go, .go, .go, .go, .go, .go, .pure (natV x), .pure (natV y), .go, .go, .go, .go, .go, .go, .go, .go, .go]
noncomputable def frB : Fr := onto PP XX GG 16 (door PP 7 [xV 1 true [] [] 0 []] .nil GG) (hd [] [] ++ [.val (.bool false)])
abbrev p5 : Value := .pointer (some ⟨256 * (4 + 2), 0, none⟩)
abbrev p2 : Value := .pointer (some ⟨256 * (4 + 1), 0, none⟩)
abbrev zeroE : List Value := [i64 0, .bool false, .slice none 0 0, .slice none 0 0, .bool false, .slice none 0 0]
noncomputable def frH (o : Int) (n : Bool) (p q : List Nat) (bd : Bool) (l : List Ex) : Fr := { frB with T := mkT [(2, p2), (5, p5), (55, mkDat l.length (exL l)), (56, i64 l.length), (57, i64 0)], M := mkM [(4 + 1, .cells false zeroE), (4 + 2, .cells false [.int .i64 o, .bool n, natV p, natV q, .bool bd, .slice none 0 0])], nx := 4 + 3 }
noncomputable def fr0 (o : Int) (n : Bool) (bd : Bool) (l : List Ex) : Fr := { frB with T := mkT [(2, p2), (5, p5), (55, mkDat l.length (exL l)), (56, i64 l.length), (57, i64 0)], M := mkM [(4 + 1, .cells false zeroE), (4 + 2, .cells false [.int .i64 o, .bool n, .slice none 0 0, .slice none 0 0, .bool bd, .slice none 0 0])], nx := 4 + 3 }
abbrev rowV (i : Nat) : Value := .slice (some ⟨256 * (4 + 3) + 6, 0, none⟩) i i
noncomputable def frK (o : Int) (n : Bool) (p q : List Nat) (bd : Bool) (l : List Ex) (m : List Er) (i : Nat) : Fr := { frB with T := mkT [(2, p2), (5, p5), (55, mkDat l.length (exL l)), (56, i64 l.length), (57, i64 i)], M := mkM [(4 + 1, .cells false zeroE), (4 + 2, .cells false [.int .i64 o, .bool n, natV p, natV q, .bool bd, rowV i]), (4 + 3, .grow (erL m))], nx := 4 + 4 }
theorem a1 (o : Int) (n : Bool) (a b x y : List Nat) (l : List Ex) : walk PP XX GG 19 (door PP 7 [xV o n a b l.length (exL l)] .nil GG) (hd x y ++ [.val (.bool true), .go, .pure (.bool true)]) [2, 5, 55, 56, 57] [4 + 1, 4 + 2] = some (fr0 o false true l, [.nice (natV a), .nice (natV b), .call 16 [natV a] (mkM [(4, .cells false [.int .i64 o, .bool n, natV a, natV b, mkDat l.length (exL l)]), (5, .cells false [i64 0, .bool false, .slice none 0 0, .slice none 0 0, .bool false, .slice none 0 0])]) 6 (natV x) (mkM [(4, .cells false [.int .i64 o, .bool n, natV a, natV b, mkDat l.length (exL l)]), (5, .cells false [i64 0, .bool false, .slice none 0 0, .slice none 0 0, .bool false, .slice none 0 0])]) 6, .call 16 [natV b] (mkM [(4, .cells false [.int .i64 o, .bool n, natV a, natV b, mkDat l.length (exL l)]), (5, .cells false [i64 0, .bool false, .slice none 0 0, .slice none 0 0, .bool false, .slice none 0 0])]) 6 (natV y) (mkM [(4, .cells false [.int .i64 o, .bool n, natV a, natV b, mkDat l.length (exL l)]), (5, .cells false [i64 0, .bool false, .slice none 0 0, .slice none 0 0, .bool false, .slice none 0 0])]) 6, .bin .eql 22 true (.int .i64 o) (i64 0) (.bool true), .call 17 [natV y] (mkM [(4, .cells false [.int .i64 o, .bool n, natV a, natV b, mkDat l.length (exL l)]), (5, .cells false [i64 0, .bool false, .slice none 0 0, .slice none 0 0, .bool false, .slice none 0 0]), (6, .cells false [.int .i64 o, .bool false, .slice none 0 0, .slice none 0 0, .bool false, .slice none 0 0])]) 7 (.bool true) (mkM [(4, .cells false [.int .i64 o, .bool n, natV a, natV b, mkDat l.length (exL l)]), (5, .cells false [i64 0, .bool false, .slice none 0 0, .slice none 0 0, .bool false, .slice none 0 0]), (6, .cells false [.int .i64 o, .bool false, .slice none 0 0, .slice none 0 0, .bool false, .slice none 0 0])]) 7]) := by kernel_rfl
theorem a2 (o : Int) (n : Bool) (a b x y : List Nat) (l : List Ex) (s : Bool) (p q : List Nat) : walk PP XX GG 19 (door PP 7 [xV o n a b l.length (exL l)] .nil GG) (hd x y ++ [.val (.bool true), .go, .pure (.bool false), .go, .go, .go, .go, .go, .go, .pure (rV s p q)]) [2, 5, 55, 56, 57] [4 + 1, 4 + 2] = some (frH o s p q false l, [.nice (natV a), .nice (natV b), .call 16 [natV a] (mkM [(4, .cells false [.int .i64 o, .bool n, natV a, natV b, mkDat l.length (exL l)]), (5, .cells false [i64 0, .bool false, .slice none 0 0, .slice none 0 0, .bool false, .slice none 0 0])]) 6 (natV x) (mkM [(4, .cells false [.int .i64 o, .bool n, natV a, natV b, mkDat l.length (exL l)]), (5, .cells false [i64 0, .bool false, .slice none 0 0, .slice none 0 0, .bool false, .slice none 0 0])]) 6, .call 16 [natV b] (mkM [(4, .cells false [.int .i64 o, .bool n, natV a, natV b, mkDat l.length (exL l)]), (5, .cells false [i64 0, .bool false, .slice none 0 0, .slice none 0 0, .bool false, .slice none 0 0])]) 6 (natV y) (mkM [(4, .cells false [.int .i64 o, .bool n, natV a, natV b, mkDat l.length (exL l)]), (5, .cells false [i64 0, .bool false, .slice none 0 0, .slice none 0 0, .bool false, .slice none 0 0])]) 6, .bin .eql 22 true (.int .i64 o) (i64 0) (.bool true), .call 17 [natV y] (mkM [(4, .cells false [.int .i64 o, .bool n, natV a, natV b, mkDat l.length (exL l)]), (5, .cells false [i64 0, .bool false, .slice none 0 0, .slice none 0 0, .bool false, .slice none 0 0]), (6, .cells false [.int .i64 o, .bool false, .slice none 0 0, .slice none 0 0, .bool false, .slice none 0 0])]) 7 (.bool false) (mkM [(4, .cells false [.int .i64 o, .bool n, natV a, natV b, mkDat l.length (exL l)]), (5, .cells false [i64 0, .bool false, .slice none 0 0, .slice none 0 0, .bool false, .slice none 0 0]), (6, .cells false [.int .i64 o, .bool false, .slice none 0 0, .slice none 0 0, .bool false, .slice none 0 0])]) 7, .call 18 [.bool n, natV x, natV y] (mkM [(4, .cells false [.int .i64 o, .bool n, natV a, natV b, mkDat l.length (exL l)]), (5, .cells false [i64 0, .bool false, .slice none 0 0, .slice none 0 0, .bool false, .slice none 0 0]), (6, .cells false [.int .i64 o, .bool false, .slice none 0 0, .slice none 0 0, .bool false, .slice none 0 0])]) 7 (.agg ⟨[.bool s, natV p, natV q]⟩) (mkM [(4, .cells false [.int .i64 o, .bool n, natV a, natV b, mkDat l.length (exL l)]), (5, .cells false [i64 0, .bool false, .slice none 0 0, .slice none 0 0, .bool false, .slice none 0 0]), (6, .cells false [.int .i64 o, .bool false, .slice none 0 0, .slice none 0 0, .bool false, .slice none 0 0])]) 7]) := by kernel_rfl
theorem a3 (o : Int) (a b x y : List Nat) (l : List Ex) : walk PP XX GG 16 (door PP 7 [xV o true a b l.length (exL l)] .nil GG) (hd x y ++ [.val (.bool false)]) [2, 5, 55, 56, 57] [4 + 1, 4 + 2] = some (fr0 o false true l, [.nice (natV a), .nice (natV b), .call 16 [natV a] (mkM [(4, .cells false [.int .i64 o, .bool true, natV a, natV b, mkDat l.length (exL l)]), (5, .cells false [i64 0, .bool false, .slice none 0 0, .slice none 0 0, .bool false, .slice none 0 0])]) 6 (natV x) (mkM [(4, .cells false [.int .i64 o, .bool true, natV a, natV b, mkDat l.length (exL l)]), (5, .cells false [i64 0, .bool false, .slice none 0 0, .slice none 0 0, .bool false, .slice none 0 0])]) 6, .call 16 [natV b] (mkM [(4, .cells false [.int .i64 o, .bool true, natV a, natV b, mkDat l.length (exL l)]), (5, .cells false [i64 0, .bool false, .slice none 0 0, .slice none 0 0, .bool false, .slice none 0 0])]) 6 (natV y) (mkM [(4, .cells false [.int .i64 o, .bool true, natV a, natV b, mkDat l.length (exL l)]), (5, .cells false [i64 0, .bool false, .slice none 0 0, .slice none 0 0, .bool false, .slice none 0 0])]) 6, .bin .eql 22 true (.int .i64 o) (i64 0) (.bool false)]) := by kernel_rfl
theorem a4 (o : Int) (a b x y : List Nat) (l : List Ex) : walk PP XX GG 16 (door PP 7 [xV o false a b l.length (exL l)] .nil GG) (hd x y ++ [.val (.bool false), .go, .go, .go, .go, .go, .go, .go, .go, .go, .go, .val (.bool true)]) [2, 5, 55, 56, 57] [4 + 1, 4 + 2] = some (fr0 o false true l, [.nice (natV a), .nice (natV b), .call 16 [natV a] (mkM [(4, .cells false [.int .i64 o, .bool false, natV a, natV b, mkDat l.length (exL l)]), (5, .cells false [i64 0, .bool false, .slice none 0 0, .slice none 0 0, .bool false, .slice none 0 0])]) 6 (natV x) (mkM [(4, .cells false [.int .i64 o, .bool false, natV a, natV b, mkDat l.length (exL l)]), (5, .cells false [i64 0, .bool false, .slice none 0 0, .slice none 0 0, .bool false, .slice none 0 0])]) 6, .call 16 [natV b] (mkM [(4, .cells false [.int .i64 o, .bool false, natV a, natV b, mkDat l.length (exL l)]), (5, .cells false [i64 0, .bool false, .slice none 0 0, .slice none 0 0, .bool false, .slice none 0 0])]) 6 (natV y) (mkM [(4, .cells false [.int .i64 o, .bool false, natV a, natV b, mkDat l.length (exL l)]), (5, .cells false [i64 0, .bool false, .slice none 0 0, .slice none 0 0, .bool false, .slice none 0 0])]) 6, .bin .eql 22 true (.int .i64 o) (i64 0) (.bool false), .bin .gtr 3 true (i64 a.length) (i64 0) (.bool true)]) := by kernel_rfl
theorem a5 (o : Int) (a b x y : List Nat) (l : List Ex) (c : Bool) : walk PP XX GG 16 (door PP 7 [xV o false a b l.length (exL l)] .nil GG) (hd x y ++ [.val (.bool false), .go, .go, .go, .go, .go, .go, .go, .go, .go, .go, .val (.bool false), .go, .go, .go, .go, .go, .go, .val (.bool c)]) [2, 5, 55, 56, 57] [4 + 1, 4 + 2] = some (fr0 o false c l, [.nice (natV a), .nice (natV b), .call 16 [natV a] (mkM [(4, .cells false [.int .i64 o, .bool false, natV a, natV b, mkDat l.length (exL l)]), (5, .cells false [i64 0, .bool false, .slice none 0 0, .slice none 0 0, .bool false, .slice none 0 0])]) 6 (natV x) (mkM [(4, .cells false [.int .i64 o, .bool false, natV a, natV b, mkDat l.length (exL l)]), (5, .cells false [i64 0, .bool false, .slice none 0 0, .slice none 0 0, .bool false, .slice none 0 0])]) 6, .call 16 [natV b] (mkM [(4, .cells false [.int .i64 o, .bool false, natV a, natV b, mkDat l.length (exL l)]), (5, .cells false [i64 0, .bool false, .slice none 0 0, .slice none 0 0, .bool false, .slice none 0 0])]) 6 (natV y) (mkM [(4, .cells false [.int .i64 o, .bool false, natV a, natV b, mkDat l.length (exL l)]), (5, .cells false [i64 0, .bool false, .slice none 0 0, .slice none 0 0, .bool false, .slice none 0 0])]) 6, .bin .eql 22 true (.int .i64 o) (i64 0) (.bool false), .bin .gtr 3 true (i64 a.length) (i64 0) (.bool false), .bin .gtr 3 true (i64 b.length) (i64 0) (.bool c)]) := by kernel_rfl
/-- The blocks behind the first append, and behind a later one. -/
noncomputable abbrev M1 (o : Int) (n : Bool) (p q : List Nat) (bd : Bool) (a : Nd) (r : Rd) : Tr Blk := mkM [(4 + 1, .cells false zeroE), (4 + 2, .cells false [.int .i64 o, .bool n, natV p, natV q, .bool bd, .slice none 0 0]), (4 + 3, .cells false a.cells), (4 + 4, .cells false r.cells), (4 + 5, .grow r.cells)]
noncomputable abbrev M2 (o : Int) (n : Bool) (p q : List Nat) (bd : Bool) (a : Nd) (r : Rd) (m : List Er) (i : Nat) : Tr Blk := mkM [(4 + 1, .cells false zeroE), (4 + 2, .cells false [.int .i64 o, .bool n, natV p, natV q, .bool bd, rowV i]), (4 + 3, .dead), (4 + 4, .cells false a.cells), (4 + 5, .cells false r.cells), (4 + 6, .grow (erL m ++ r.cells))]
noncomputable def frK1 (o : Int) (n : Bool) (p q : List Nat) (bd : Bool) (l : List Ex) (r : Rd) : Fr := { frB with T := mkT [(2, p2), (5, p5), (55, mkDat l.length (exL l)), (56, i64 l.length), (57, i64 1)], M := mkM [(4 + 1, .cells false zeroE), (4 + 2, .cells false [.int .i64 o, .bool n, natV p, natV q, .bool bd, .slice (some ⟨256 * (4 + 5) + 6, 0, none⟩) 1 1]), (4 + 5, .grow r.cells)], nx := 4 + 6 }
noncomputable def frK2 (o : Int) (n : Bool) (p q : List Nat) (bd : Bool) (l : List Ex) (m : List Er) (r : Rd) (i : Nat) : Fr := { frB with T := mkT [(2, p2), (5, p5), (55, mkDat l.length (exL l)), (56, i64 l.length), (57, i64 i)], M := mkM [(4 + 1, .cells false zeroE), (4 + 2, .cells false [.int .i64 o, .bool n, natV p, natV q, .bool bd, .slice (some ⟨256 * (4 + 6) + 6, 0, none⟩) i i]), (4 + 6, .grow (erL m ++ r.cells))], nx := 4 + 7 }
theorem b1 (o : Int) (n : Bool) (p q : List Nat) (bd : Bool) (l : List Ex) (a : Nd) (r : Rd) : walk PP XX GG 13 (frH o n p q bd l) [.val (.bool true), .val (exP l 0), .val a.val, .go, .go, .go, .go, .go, .pure r.val, .go, .mem (.slice (some ⟨256 * (4 + 5) + 6, 0, none⟩) 1 1) (M1 o n p q bd a r) (4 + 6), .go, .go, .val (i64 1), .go] [2, 5, 55, 56, 57] [4 + 1, 4 + 2, 4 + 5] = some (frK1 o n p q bd l r, [.bin .lss 3 false (i64 0) (i64 l.length) (.bool true), .idxA 29 (mkDat l.length (exL l)) (i64 0) (mkPtr (List.drop (0 * 5) (exL l))), .load (mkM [(5, .cells false [i64 0, .bool false, .slice none 0 0, .slice none 0 0, .bool false, .slice none 0 0]), (6, .cells false [.int .i64 o, .bool n, natV p, natV q, .bool bd, .slice none 0 0])]) 31 (mkPtr (List.drop (0 * 5) (exL l))) (.agg ⟨[.int .i64 a.op, .bool a.neg, natV a.num, natV a.den, mkDat a.n a.cs]⟩), .nice (.slice none 0 0), .nice (.agg ⟨[.int .i64 a.op, .bool a.neg, natV a.num, natV a.den, mkDat a.n a.cs]⟩), .call 7 [.agg ⟨[.int .i64 a.op, .bool a.neg, natV a.num, natV a.den, mkDat a.n a.cs]⟩] (mkM [(5, .cells false [i64 0, .bool false, .slice none 0 0, .slice none 0 0, .bool false, .slice none 0 0]), (6, .cells false [.int .i64 o, .bool n, natV p, natV q, .bool bd, .slice none 0 0]), (7, .cells false [.int .i64 a.op, .bool a.neg, natV a.num, natV a.den, mkDat a.n a.cs])]) 8 (.agg ⟨[.int .i64 r.op, .bool r.neg, natV r.nn, natV r.dd, .bool r.bad, mkDat r.n r.cs]⟩) (mkM [(5, .cells false [i64 0, .bool false, .slice none 0 0, .slice none 0 0, .bool false, .slice none 0 0]), (6, .cells false [.int .i64 o, .bool n, natV p, natV q, .bool bd, .slice none 0 0]), (7, .cells false [.int .i64 a.op, .bool a.neg, natV a.num, natV a.den, mkDat a.n a.cs])]) 8, .niceL [.int .i64 r.op, .bool r.neg, natV r.nn, natV r.dd, .bool r.bad, mkDat r.n r.cs], .load (mkM [(5, .cells false [i64 0, .bool false, .slice none 0 0, .slice none 0 0, .bool false, .slice none 0 0]), (6, .cells false [.int .i64 o, .bool n, natV p, natV q, .bool bd, .slice none 0 0]), (7, .cells false [.int .i64 a.op, .bool a.neg, natV a.num, natV a.den, mkDat a.n a.cs]), (8, .cells false [.int .i64 r.op, .bool r.neg, natV r.nn, natV r.dd, .bool r.bad, mkDat r.n r.cs])]) 37 (.pointer (some (⟨1536, 5, none⟩))) (.slice none 0 0), .app (mkM [(5, .cells false [i64 0, .bool false, .slice none 0 0, .slice none 0 0, .bool false, .slice none 0 0]), (6, .cells false [.int .i64 o, .bool n, natV p, natV q, .bool bd, .slice none 0 0]), (7, .cells false [.int .i64 a.op, .bool a.neg, natV a.num, natV a.den, mkDat a.n a.cs]), (8, .cells false [.int .i64 r.op, .bool r.neg, natV r.nn, natV r.dd, .bool r.bad, mkDat r.n r.cs])]) 9 37 (.slice none 0 0) (.slice (some (⟨2048, 0, none⟩)) 1 1) (.slice (some (⟨2310, 0, none⟩)) 1 1) (mkM [(5, .cells false [i64 0, .bool false, .slice none 0 0, .slice none 0 0, .bool false, .slice none 0 0]), (6, .cells false [.int .i64 o, .bool n, natV p, natV q, .bool bd, .slice none 0 0]), (7, .cells false [.int .i64 a.op, .bool a.neg, natV a.num, natV a.den, mkDat a.n a.cs]), (8, .cells false [.int .i64 r.op, .bool r.neg, natV r.nn, natV r.dd, .bool r.bad, mkDat r.n r.cs]), (9, .grow [.int .i64 r.op, .bool r.neg, natV r.nn, natV r.dd, .bool r.bad, mkDat r.n r.cs])]) 10, .bin .add 3 true (i64 0) (i64 1) (i64 1)]) := by kernel_rfl
theorem b2 (o : Int) (n : Bool) (p q : List Nat) (bd : Bool) (l : List Ex) (a : Nd) (r : Rd) (m : List Er) (i i2 : Nat) : walk PP XX GG 13 (frK o n p q bd l m i) [.val (.bool true), .val (exP l i), .val a.val, .go, .go, .go, .go, .go, .pure r.val, .go, .mem (.slice (some ⟨256 * (4 + 6) + 6, 0, none⟩) i2 i2) (M2 o n p q bd a r m i) (4 + 7), .go, .go, .val (i64 i2), .go] [2, 5, 55, 56, 57] [4 + 1, 4 + 2, 4 + 6] = some (frK2 o n p q bd l m r i2, [.bin .lss 3 false (i64 i) (i64 l.length) (.bool true), .idxA 29 (mkDat l.length (exL l)) (i64 i) (mkPtr (List.drop (i * 5) (exL l))), .load (mkM [(5, .cells false [i64 0, .bool false, .slice none 0 0, .slice none 0 0, .bool false, .slice none 0 0]), (6, .cells false [.int .i64 o, .bool n, natV p, natV q, .bool bd, .slice (some (⟨1798, 0, none⟩)) i i]), (7, .grow (erL m))]) 31 (mkPtr (List.drop (i * 5) (exL l))) (.agg ⟨[.int .i64 a.op, .bool a.neg, natV a.num, natV a.den, mkDat a.n a.cs]⟩), .nice (.slice (some (⟨1798, 0, none⟩)) i i), .nice (.agg ⟨[.int .i64 a.op, .bool a.neg, natV a.num, natV a.den, mkDat a.n a.cs]⟩), .call 7 [.agg ⟨[.int .i64 a.op, .bool a.neg, natV a.num, natV a.den, mkDat a.n a.cs]⟩] (mkM [(5, .cells false [i64 0, .bool false, .slice none 0 0, .slice none 0 0, .bool false, .slice none 0 0]), (6, .cells false [.int .i64 o, .bool n, natV p, natV q, .bool bd, .slice (some (⟨1798, 0, none⟩)) i i]), (7, .grow (erL m)), (8, .cells false [.int .i64 a.op, .bool a.neg, natV a.num, natV a.den, mkDat a.n a.cs])]) 9 (.agg ⟨[.int .i64 r.op, .bool r.neg, natV r.nn, natV r.dd, .bool r.bad, mkDat r.n r.cs]⟩) (mkM [(5, .cells false [i64 0, .bool false, .slice none 0 0, .slice none 0 0, .bool false, .slice none 0 0]), (6, .cells false [.int .i64 o, .bool n, natV p, natV q, .bool bd, .slice (some (⟨1798, 0, none⟩)) i i]), (7, .grow (erL m)), (8, .cells false [.int .i64 a.op, .bool a.neg, natV a.num, natV a.den, mkDat a.n a.cs])]) 9, .niceL [.int .i64 r.op, .bool r.neg, natV r.nn, natV r.dd, .bool r.bad, mkDat r.n r.cs], .load (mkM [(5, .cells false [i64 0, .bool false, .slice none 0 0, .slice none 0 0, .bool false, .slice none 0 0]), (6, .cells false [.int .i64 o, .bool n, natV p, natV q, .bool bd, .slice (some (⟨1798, 0, none⟩)) i i]), (7, .grow (erL m)), (8, .cells false [.int .i64 a.op, .bool a.neg, natV a.num, natV a.den, mkDat a.n a.cs]), (9, .cells false [.int .i64 r.op, .bool r.neg, natV r.nn, natV r.dd, .bool r.bad, mkDat r.n r.cs])]) 37 (.pointer (some (⟨1536, 5, none⟩))) (.slice (some (⟨1798, 0, none⟩)) i i), .app (mkM [(5, .cells false [i64 0, .bool false, .slice none 0 0, .slice none 0 0, .bool false, .slice none 0 0]), (6, .cells false [.int .i64 o, .bool n, natV p, natV q, .bool bd, .slice (some (⟨1798, 0, none⟩)) i i]), (7, .grow (erL m)), (8, .cells false [.int .i64 a.op, .bool a.neg, natV a.num, natV a.den, mkDat a.n a.cs]), (9, .cells false [.int .i64 r.op, .bool r.neg, natV r.nn, natV r.dd, .bool r.bad, mkDat r.n r.cs])]) 10 37 (.slice (some (⟨1798, 0, none⟩)) i i) (.slice (some (⟨2304, 0, none⟩)) 1 1) (.slice (some (⟨2566, 0, none⟩)) i2 i2) (mkM [(5, .cells false [i64 0, .bool false, .slice none 0 0, .slice none 0 0, .bool false, .slice none 0 0]), (6, .cells false [.int .i64 o, .bool n, natV p, natV q, .bool bd, .slice (some (⟨1798, 0, none⟩)) i i]), (7, Blk.dead), (8, .cells false [.int .i64 a.op, .bool a.neg, natV a.num, natV a.den, mkDat a.n a.cs]), (9, .cells false [.int .i64 r.op, .bool r.neg, natV r.nn, natV r.dd, .bool r.bad, mkDat r.n r.cs]), (10, .grow (erL m ++ r.cells))]) 11, .bin .add 3 true (i64 i) (i64 1) (i64 i2)]) := by kernel_rfl
theorem b3 (o : Int) (n : Bool) (p q : List Nat) (bd : Bool) (l : List Ex) : ends PP XX GG 8 (frH o n p q bd l) [.val (.bool false), .go, .go] [2] [4 + 1] = some (.agg ⟨[.int .i64 o, .bool n, natV p, natV q, .bool bd, .slice none 0 0]⟩, mkM [(4 + 1, .cells false [.int .i64 o, .bool n, natV p, natV q, .bool bd, .slice none 0 0])], [.bin .lss 3 false (i64 0) (i64 l.length) (.bool false)]) := by kernel_rfl
theorem b4 (o : Int) (n : Bool) (p q : List Nat) (bd : Bool) (l : List Ex) (m : List Er) (i : Nat) : ends PP XX GG 8 (frK o n p q bd l m i) [.val (.bool false), .go, .go] [2] [4 + 1, 4 + 3] = some (.agg ⟨[.int .i64 o, .bool n, natV p, natV q, .bool bd, rowV i]⟩, mkM [(4 + 1, .cells false [.int .i64 o, .bool n, natV p, natV q, .bool bd, rowV i]), (4 + 3, .grow (erL m))], [.bin .lss 3 false (i64 i) (i64 l.length) (.bool false)]) := by kernel_rfl
end Tree
end Go.Proofs.YtihloomkgpflmaaGreatDoor

namespace Go.Proofs.YtihloomkgpflmaaGreatDoor
open Go.Proofs.YtihloomkgpflmaaGreatDoor.Vm
variable {tabs : List (Nat × List Value)}
theorem treeL_take (l : List Ex) (i : Nat) (h : i < l.length) : treeL (l.take (i + 1)) = treeL (l.take i) ++ [(l[i]).tree] := by
  induction l generalizing i with
  | nil => simp at h
  | cons b l ih =>
    cases i with
    | zero => simp [treeL]
    | succ i => simp only [List.take_succ_cons, treeL, List.getElem_cons_succ, ih i (by simpa using h), List.cons_append]
theorem treeL_length (l : List Ex) : (treeL l).length = l.length := by
  induction l with
  | nil => rfl
  | cons b l ih => simp [treeL, ih]
theorem erL_one (r : Er) : erL [r] = r.nd.cells := by simp [erL]
theorem erL_snoc (m : List Er) (r : Er) : erL (m ++ [r]) = erL m ++ r.nd.cells := by rw [erL_append, erL_one]
theorem nl_cells (l : List Er) : ∀ v ∈ erL l, Nl v := fun v hv => okV_nl (List.all_eq_true.1 (okLr l) v hv)
theorem cells_one (l : List Er) : (erL l).all (·.oneCell') = true := by
  refine List.all_eq_true.2 fun v hv => ?_
  induction l with
  | nil => simp [erL] at hv
  | cons r l ih =>
    simp only [erL, List.mem_append] at hv
    rcases hv with h | h
    · simp only [Rd.cells, List.mem_cons, List.not_mem_nil, or_false] at h
      rcases h with rfl | rfl | rfl | rfl | rfl | rfl <;> rfl
    · exact ih h
theorem niceL_of {vs : List Value} {n : Nat} (hn : n ≤ 1000000) (h : vs.all (okV n) = true) : veqL 1000000 vs vs = true := veqA_self fun v hv => okV_nice hn (List.all_eq_true.1 h v hv)
theorem nl_nilslice : Nl (.slice none 0 0) := ⟨1, rfl⟩

namespace Tree
theorem pick_M {l : List (Nat × Blk)} {M : Tr Blk} {n k : Nat} (h : ∀ p ∈ l, ∃ m x0, mvn n k p.1 = some m ∧ M.get m = some x0 ∧ MvB n k p.2 x0) : ∀ a x, (mkM l).get a = some x → ∃ m x0, mvn n k a = some m ∧ M.get m = some x0 ∧ MvB n k x x0 := fun a x hx => h (a, x) (mkM_get l a x hx)
theorem pick_T {l : List (Nat × Value)} {T : Tr Value} {n k : Nat} (h : ∀ p ∈ l, ∃ v0, T.get p.1 = some v0 ∧ Mv n k p.2 v0) : ∀ t v, (mkT l).get t = some v → ∃ v0, T.get t = some v0 ∧ Mv n k v v0 := fun t v hv => h (t, v) (mkT_get l t v hv)
theorem zero_mv {n k : Nat} : MvB n k (.cells false zeroE) (.cells false zeroE) := by
  refine .cells (MvL.same fun v hv => ?_)
  simp only [zeroE, List.mem_cons, List.not_mem_nil, or_false] at hv
  rcases hv with rfl | rfl | rfl | rfl | rfl | rfl <;> exact ⟨1, rfl⟩
theorem cut1 (o : Int) (n : Bool) (p q : List Nat) (bd : Bool) (l : List Ex) (r : Er) : ({ frK1 o n p q bd l r.nd with T := (frK o n p q bd l [r] 1).T, M := (frK o n p q bd l [r] 1).M, nx := 4 + 4 } : Fr) = frK o n p q bd l [r] 1 := by kernel_rfl
theorem cut2 (o : Int) (n : Bool) (p q : List Nat) (bd : Bool) (l : List Ex) (m : List Er) (r : Er) (i : Nat) : ({ frK2 o n p q bd l m r.nd i with T := (frK o n p q bd l (m ++ [r]) i).T, M := (frK o n p q bd l (m ++ [r]) i).M, nx := 4 + 4 } : Fr) = frK o n p q bd l (m ++ [r]) i := by kernel_rfl
theorem cut0 (o : Int) (n : Bool) (bd : Bool) (l : List Ex) : ({ fr0 o n bd l with M := (frH o n [] [] bd l).M } : Fr) = frH o n [] [] bd l := by kernel_rfl
theorem mv1 {o : Int} {n : Bool} {p q : List Nat} {bd : Bool} {l : List Ex} {r : Er} {v : Value} (g : PT PP GG tabs (frK o n p q bd l [r] 1) v) : PT PP GG tabs (frK1 o n p q bd l r.nd) v := by
  refine PT.mv (n := 4 + 3) (k := 4 + 5) (nx := 4 + 4) (T2 := (frK o n p q bd l [r] 1).T) (M2 := (frK o n p q bd l [r] 1).M) (by decide) (by decide) (by decide) (pick_T ?_) (pick_M ?_) (by kernel_rfl) (by kernel_rfl) (by kernel_rfl) (by kernel_rfl) (by rw [cut1]; exact g)
  · intro p hp
    simp only [List.mem_cons, List.not_mem_nil, or_false] at hp
    rcases hp with rfl | rfl | rfl | rfl | rfl
    · exact ⟨p2, rfl, .ptr (m := 4 + 1) (by decide)⟩
    · exact ⟨p5, rfl, .ptr (m := 4 + 2) (by decide)⟩
    · exact ⟨mkDat l.length (exL l), by kernel_rfl, .nl (nl_Ex l _)⟩
    · exact ⟨i64 l.length, by kernel_rfl, .nl nl_int⟩
    · exact ⟨i64 1, by kernel_rfl, .nl nl_int⟩
  · intro x hx
    simp only [List.mem_cons, List.not_mem_nil, or_false] at hx
    rcases hx with rfl | rfl | rfl
    · exact ⟨4 + 1, _, rfl, rfl, zero_mv⟩
    · exact ⟨4 + 2, _, rfl, rfl, .cells (.cons (.nl nl_int) (.cons (.nl ⟨1, rfl⟩) (.cons (.nl (nl_nat _)) (.cons (.nl (nl_nat _)) (.cons (.nl ⟨1, rfl⟩) (.cons (.slice (m := 4 + 5) (by decide)) .nil))))))⟩
    · refine ⟨4 + 5, _, rfl, rfl, .grow ?_⟩
      rw [erL_one]
      exact MvL.same fun v hv => nl_cells [r] v (by rw [erL_one]; exact hv)
theorem mv2 {o : Int} {n : Bool} {p q : List Nat} {bd : Bool} {l : List Ex} {m : List Er} {r : Er} {i : Nat} {v : Value} (g : PT PP GG tabs (frK o n p q bd l (m ++ [r]) i) v) : PT PP GG tabs (frK2 o n p q bd l m r.nd i) v := by
  refine PT.mv (n := 4 + 3) (k := 4 + 6) (nx := 4 + 4) (T2 := (frK o n p q bd l (m ++ [r]) i).T) (M2 := (frK o n p q bd l (m ++ [r]) i).M) (by decide) (by decide) (by decide) (pick_T ?_) (pick_M ?_) (by kernel_rfl) (by kernel_rfl) (by kernel_rfl) (by kernel_rfl) (by rw [cut2]; exact g)
  · intro p hp
    simp only [List.mem_cons, List.not_mem_nil, or_false] at hp
    rcases hp with rfl | rfl | rfl | rfl | rfl
    · exact ⟨p2, rfl, .ptr (m := 4 + 1) (by decide)⟩
    · exact ⟨p5, rfl, .ptr (m := 4 + 2) (by decide)⟩
    · exact ⟨mkDat l.length (exL l), by kernel_rfl, .nl (nl_Ex l _)⟩
    · exact ⟨i64 l.length, by kernel_rfl, .nl nl_int⟩
    · exact ⟨i64 i, by kernel_rfl, .nl nl_int⟩
  · intro x hx
    simp only [List.mem_cons, List.not_mem_nil, or_false] at hx
    rcases hx with rfl | rfl | rfl
    · exact ⟨4 + 1, _, rfl, rfl, zero_mv⟩
    · exact ⟨4 + 2, _, rfl, rfl, .cells (.cons (.nl nl_int) (.cons (.nl ⟨1, rfl⟩) (.cons (.nl (nl_nat _)) (.cons (.nl (nl_nat _)) (.cons (.nl ⟨1, rfl⟩) (.cons (.slice (m := 4 + 6) (by decide)) .nil))))))⟩
    · refine ⟨4 + 6, _, rfl, rfl, .grow ?_⟩
      rw [← erL_snoc]
      exact MvL.same fun v hv => nl_cells _ v hv
theorem end_none (o : Int) (n : Bool) (p q : List Nat) (bd : Bool) (M : Tr Blk) : Frz M .nil (.agg ⟨[.int .i64 o, .bool n, natV p, natV q, .bool bd, .slice none 0 0]⟩) (eV o n p q bd 0 []) := frz_none (pre := [.int .i64 o, .bool n, natV p, natV q, .bool bd])
theorem loopK {F : Known} (hF : F.Ok PP GG tabs) {o : Int} {n : Bool} {p q : List Nat} {bd : Bool} {l : List Ex} (hc : ∀ x ∈ l, ∀ (M : Tr Blk) (nx : Nat), F.sm 7 [x.nd.val] M nx = some (x.tree.nd.val, M, nx)) (hm : l.length ≤ 1000000) (hh : highL l ≤ 400000) (hr : ∀ x ∈ l, x.tree.high ≤ 400000) : ∀ d i, 0 < i → i + d = l.length → PT PP GG tabs (frK o n p q bd l (treeL (l.take i)) i) (eV o n p q bd l.length (erL (treeL l)))
  | 0, i, h0, h => by
    have e : l.take i = l := List.take_of_length_le (by omega)
    have e2 : i = l.length := by omega
    rw [e]
    subst e2
    refine PT.ends (envOf hF) (b4 o n p q bd l (treeL l) l.length) (lss_f (by omega)) ?_
    exact frz_last (pre := [.int .i64 o, .bool n, natV p, natV q, .bool bd]) (x := .grow (erL (treeL l))) (by rfl) rfl rfl (Nat.le_refl _)
  | d + 1, i, h0, h => by
    have hi : i < l.length := by omega
    have e := treeL_take l i hi
    have next := loopK hF hc hm hh hr (o := o) (n := n) (p := p) (q := q) (bd := bd) d (i + 1) (by omega) (by omega)
    rw [e] at next
    have hx := List.getElem_mem hi
    have hxl := highL_mem hx
    have hxr := hr _ hx
    refine PT.walk (envOf hF) (b2 o n p q bd l (l[i]).nd (l[i]).tree.nd (treeL (l.take i)) i (i + 1)) ⟨lss_t hi, idx_ex hi, load_ex hi, nice_slice, okV_nice (by omega) (l[i]).ok, hc _ hx _ _, niceL_of (by omega) (l[i]).tree.okC, (by show aLoad _ _ _ _ = _; kernel_rfl), ?_, add_i64 (by omega)⟩ (mv2 next)
    refine app_next (sz := 6) (bytes := 96) uErs iEr (by decide) (by decide) (y := 256 * (4 + 5)) (news := (l[i]).tree.nd.cells) (by rfl) rfl ?_ (x := 256 * (4 + 3) + 6) (vs := erL (treeL (l.take i))) (by rfl) (by decide) h0 ?_ (cells_one _) (by omega) (by omega) (by rfl)
    · have := cells_one [(l[i]).tree]
      rw [erL_one] at this
      exact this
    · rw [erL_length, treeL_length, List.length_take, Nat.min_eq_left (by omega)]
theorem loopH {F : Known} (hF : F.Ok PP GG tabs) {o : Int} {n : Bool} {p q : List Nat} {bd : Bool} {l : List Ex} (hc : ∀ x ∈ l, ∀ (M : Tr Blk) (nx : Nat), F.sm 7 [x.nd.val] M nx = some (x.tree.nd.val, M, nx)) (hm : l.length ≤ 1000000) (hh : highL l ≤ 400000) (hr : ∀ x ∈ l, x.tree.high ≤ 400000) : PT PP GG tabs (frH o n p q bd l) (eV o n p q bd l.length (erL (treeL l))) := by
  cases l with
  | nil => exact PT.ends (envOf hF) (b3 o n p q bd []) (lss_f (Nat.le_refl _)) (end_none _ _ _ _ _ _)
  | cons a r =>
    have hi : 0 < (a :: r).length := by simp
    have next := loopK hF hc hm hh hr (o := o) (n := n) (p := p) (q := q) (bd := bd) r.length 1 (by omega) (by simp; omega)
    have e : treeL ((a :: r).take 1) = [a.tree] := by simp [treeL]
    rw [e] at next
    have hx : a ∈ a :: r := List.mem_cons_self
    have hxl := highL_mem hx
    have hxr := hr _ hx
    refine PT.walk (envOf hF) (b1 o n p q bd (a :: r) a.nd a.tree.nd) ⟨lss_t hi, idx_ex hi, load_ex hi, ?_, okV_nice (by omega) a.ok, hc _ hx _ _, niceL_of (by omega) a.tree.okC, (by show aLoad _ _ _ _ = _; kernel_rfl), ?_, add_i64 (by omega)⟩ (mv1 next)
    · rfl
    · refine app_first (sz := 6) (bytes := 96) uErs iEr (by decide) (by decide) (y := 256 * (4 + 4)) (news := a.tree.nd.cells) (by rfl) rfl ?_ (by decide) (by rfl)
      have := cells_one [a.tree]
      rw [erL_one] at this
      exact this
theorem loop0 {F : Known} (hF : F.Ok PP GG tabs) {o : Int} {n : Bool} {bd : Bool} {l : List Ex} (hc : ∀ x ∈ l, ∀ (M : Tr Blk) (nx : Nat), F.sm 7 [x.nd.val] M nx = some (x.tree.nd.val, M, nx)) (hm : l.length ≤ 1000000) (hh : highL l ≤ 400000) (hr : ∀ x ∈ l, x.tree.high ≤ 400000) : PT PP GG tabs (fr0 o n bd l) (eV o n [] [] bd l.length (erL (treeL l))) := by
  refine PT.nils (M2 := (frH o n [] [] bd l).M) ?_ (by rw [cut0]; exact loopH hF hc hm hh hr)
  intro k x2 hx
  have hM : (frH o n [] [] bd l).M = mkM [(4 + 1, .cells false zeroE), (4 + 2, .cells false [.int .i64 o, .bool n, natV [], natV [], .bool bd, .slice none 0 0])] := by kernel_rfl
  rw [hM] at hx
  have := mkM_get [(4 + 1, .cells false zeroE), (4 + 2, .cells false [.int .i64 o, .bool n, natV [], natV [], .bool bd, .slice none 0 0])] k x2 hx
  simp only [List.mem_cons, List.not_mem_nil, or_false, Prod.mk.injEq] at this
  rcases this with ⟨rfl, rfl⟩ | ⟨rfl, rfl⟩
  · exact ⟨_, rfl, .same⟩
  · exact ⟨_, rfl, .cells (.same (.same (.none (.none (.same (.same .nil))))))⟩
end Tree
theorem tree_high : ∀ e : Ex, e.tree.high = e.high
  | .mk o n a b l => by
    have h : ∀ m : List Ex, (∀ x ∈ m, x.tree.high = x.high) → rhighL (treeL m) = highL m := by
      intro m hm
      induction m with
      | nil => rfl
      | cons b m ih =>
        simp only [treeL, rhighL, highL]
        rw [hm b List.mem_cons_self, ih fun x hx => hm x (List.mem_cons_of_mem _ hx)]
    have h2 := h l fun x hx => tree_high x
    simp only [Ex.tree, treeN, Ex.high]
    split
    · split <;> simp [Er.high, h2]
    · simp [Er.high, h2]
  termination_by e => SizeOf.sizeOf e
  decreasing_by exact ex_size hx _ _ _ _
theorem tree_ok : ∀ e : Ex, Good e → e.high ≤ 400000 → PureOk PP GG tabs 7 [e.nd.val] e.tree.nd.val
  | .mk o n a b l, hg, hh => by
    obtain ⟨hop, h1, h2, h3, h4, h5, h6⟩ : (-9223372036854775808 ≤ o ∧ o < 9223372036854775808) ∧ a.length ≤ 1048576 ∧ b.length ≤ 1048576 ∧ (∀ x ∈ a, x < 18446744073709551616) ∧ (∀ x ∈ b, x < 18446744073709551616) ∧ l.length ≤ 1000000 ∧ ∀ x ∈ l, Good x := by
      cases hg; exact ⟨‹_›, ‹_›, ‹_›, ‹_›, ‹_›, ‹_›, ‹_›⟩
    have hh' : highL l + 1 ≤ 400000 := by simpa [Ex.high] using hh
    have ih : ∀ x ∈ l, PureOk PP GG tabs 7 [x.nd.val] x.tree.nd.val := fun x hx => tree_ok x (h6 x hx) (by have := highL_mem hx; omega)
    refine PureOk.of' ?_ (Er.nl _) (by kernel_rfl) ?_
    · intro x hx
      simp only [List.mem_cons, List.not_mem_nil, or_false] at hx
      subst hx; exact Ex.nl _
    · have hF : (F9.add 7 (eI (fun x : Ex => [x.nd.val]) (fun x => x ∈ l) fun x => x.tree.nd.val)).Ok PP GG tabs := Known.add_ok F9_ok (eI_ok fun x hx => ih x hx)
      have hc : ∀ x ∈ l, ∀ (M : Tr Blk) (nx : Nat), (F9.add 7 (eI (fun x : Ex => [x.nd.val]) (fun x => x ∈ l) fun x => x.tree.nd.val)).sm 7 [x.nd.val] M nx = some (x.tree.nd.val, M, nx) := fun x hx M nx => eparts_call hx
      have hO : ∀ {a : List Nat}, (∀ x ∈ a, x < 18446744073709551616) → a.length ≤ 1048576 → (F9.add 7 (eI (fun x : Ex => [x.nd.val]) (fun x => x ∈ l) fun x => x.tree.nd.val)) 16 [natV a] = some (natV (ofN a)) := fun h1 h2 => (add_other rfl).trans (F9_of h1 (by omega))
      have hZ : ∀ a : List Nat, (F9.add 7 (eI (fun x : Ex => [x.nd.val]) (fun x => x ∈ l) fun x => x.tree.nd.val)) 17 [natV a] = some (.bool (decide (a.length = 0))) := fun a => (add_other rfl).trans (F9_zero a)
      have hr : ∀ x ∈ l, x.tree.high ≤ 400000 := fun x hx => by rw [tree_high]; have := highL_mem hx; omega
      have na := ofN_num h3 (by omega)
      have nb := ofN_num h4 (by omega)
      show PT PP GG tabs (door PP 7 [xV o n a b l.length (exL l)] .nil GG) (treeN o n a b (treeL l)).nd.val
      have tl : ∀ (s : Bool) (p q : List Nat) (bd : Bool), (Er.mk o s p q bd (treeL l)).nd.val = eV o s p q bd l.length (erL (treeL l)) := fun s p q bd => by
        show eV o s p q bd (treeL l).length (erL (treeL l)) = _
        rw [treeL_length]
      unfold treeN
      by_cases h0 : o = 0
      · rw [if_pos h0]
        by_cases hz : (ofN b).length = 0
        · rw [if_pos hz, tl]
          exact PT.walk (envOf hF) (Tree.a1 o n a b (ofN a) (ofN b) l) ⟨nice_nat _, nice_nat _, pureN (hO h3 h1), pureN (hO h4 h2), bin_eql (decide_eq_true h0), zero_call' hZ (decide_eq_true hz)⟩ (Tree.loop0 hF hc (by omega) (by omega) hr)
        · rw [if_neg hz, tl]
          have hne : ofN b ≠ [] := fun e => hz (by rw [e]; rfl)
          exact PT.walk (envOf hF) (Tree.a2 o n a b (ofN a) (ofN b) l _ _ _) ⟨nice_nat _, nice_nat _, pureN (hO h3 h1), pureN (hO h4 h2), bin_eql (decide_eq_true h0), zero_call' hZ (decide_eq_false hz), pureB ((add_other rfl).trans (F9_make na nb hne))⟩ (Tree.loopH hF hc (by omega) (by omega) hr)
      · rw [if_neg h0, tl]
        cases n with
        | true =>
          rw [Bool.true_or]
          exact PT.walk (envOf hF) (Tree.a3 o a b (ofN a) (ofN b) l) ⟨nice_nat _, nice_nat _, pureN (hO h3 h1), pureN (hO h4 h2), bin_eql (decide_eq_false h0)⟩ (Tree.loop0 hF hc (by omega) (by omega) hr)
        | false =>
          rw [Bool.false_or]
          by_cases ha : 0 < a.length
          · rw [decide_eq_true ha, Bool.true_or]
            exact PT.walk (envOf hF) (Tree.a4 o a b (ofN a) (ofN b) l) ⟨nice_nat _, nice_nat _, pureN (hO h3 h1), pureN (hO h4 h2), bin_eql (decide_eq_false h0), gtr_t ha⟩ (Tree.loop0 hF hc (by omega) (by omega) hr)
          · rw [decide_eq_false ha, Bool.false_or]
            refine PT.walk (envOf hF) (Tree.a5 o a b (ofN a) (ofN b) l (decide (0 < b.length))) ⟨nice_nat _, nice_nat _, pureN (hO h3 h1), pureN (hO h4 h2), bin_eql (decide_eq_false h0), gtr_f (by omega), ?_⟩ (Tree.loop0 hF hc (by omega) (by omega) hr)
            by_cases hb : 0 < b.length
            · rw [decide_eq_true hb]; exact gtr_t hb
            · rw [decide_eq_false hb]; exact gtr_f (by omega)
  termination_by e => SizeOf.sizeOf e
  decreasing_by exact ex_size hx _ _ _ _
#print axioms tree_ok
end Go.Proofs.YtihloomkgpflmaaGreatDoor
