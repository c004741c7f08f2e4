/-
  diff.own, joined.
  expr.shape: may a node be?
  expr.shape, joined.
  expr.look: it counts nodes through a pointer.
  expr.look and expr.Check.
  expr.look, joined; expr.Check.
  expr.Check.
-/
import Derived.Test.YtihloomkgpflmaaGreatDoorW10
import Derived.Test.YtihloomkgpflmaaGreatDoorW5
set_option linter.unusedSimpArgs false
set_option linter.unusedVariables false
namespace Go.Proofs.YtihloomkgpflmaaGreatDoor
open Go.Proofs.YtihloomkgpflmaaGreatDoor.Vm
variable {tabs : List (Nat × List Value)}
namespace Own
theorem nice_pair (n : Bool) (a : List Nat) : veq 1000000 (.agg ⟨[.bool n, natV a]⟩) (.agg ⟨[.bool n, natV a]⟩) = true := okV_nice (n := 4) (by omega) (okV_agg (n := 3) (by
  have h1 := okV_nat a 0
  have h3 : okV 3 (.bool n) = true := rfl
  simp only [Nat.zero_add] at h1
  simp [h1, h3]))
theorem P0 {o : Int} {n : Bool} {b : List Nat} {l : List Ex} {v : Value} (g : PT PP GG tabs (frP o n [] b l) v) : PT PP GG tabs (frP0 o n [] b l) v := by
  refine PT.nils (M2 := (frP o n [] b l).M) ?_ (by rw [cutP0]; exact g)
  intro k x2 hx
  have hM : (frP o n [] b l).M = mkM [(4, .cells false (xc o n [] b l)), (4 + 1, .cells false zeroX), (4 + 2, .cells false [.bool n, natV []])] := by kernel_rfl
  rw [hM] at hx
  have := mkM_get _ k x2 hx
  simp only [List.mem_cons, List.not_mem_nil, or_false, Prod.mk.injEq] at this
  rcases this with ⟨rfl, rfl⟩ | ⟨rfl, rfl⟩ | ⟨rfl, rfl⟩
  · exact ⟨_, rfl, .same⟩
  · exact ⟨_, rfl, .same⟩
  · exact ⟨_, rfl, .cells (.same (.none .nil))⟩
theorem Q0 {o : Int} {n : Bool} {a : List Nat} {l : List Ex} {v : Value} (g : PT PP GG tabs (frH3 o n a [] l) v) : PT PP GG tabs (frQ0 o n a l) v := by
  refine PT.nils (M2 := (frH3 o n a [] l).M) ?_ (by rw [cutQ0]; exact g)
  intro k x2 hx
  have hM : (frH3 o n a [] l).M = mkM [(4 + 1, .cells false zeroX), (4 + 3, .cells false [.int .i64 o, .bool n, natV a, natV [], .slice none 0 0])] := by kernel_rfl
  rw [hM] at hx
  have := mkM_get _ k x2 hx
  simp only [List.mem_cons, List.not_mem_nil, or_false, Prod.mk.injEq] at this
  rcases this with ⟨rfl, rfl⟩ | ⟨rfl, rfl⟩
  · exact ⟨_, rfl, .same⟩
  · exact ⟨_, rfl, .cells (.same (.same (.same (.none (.same .nil)))))⟩
theorem frz_row1 {M M2 : Tr Blk} {k n : Nat} {a : List Nat} (hm : M.get k = some (.grow (a.map u64))) (hn : n = a.length) (hx : ∀ x2, M2.get k = some x2 → x2.wr = false) : Frz M M2 (rA k n) (natV a) := by
  subst hn
  have e : (256 * k + 1) / 256 = k := by omega
  have := Frz.slice (M := M) (M2 := M2) (b := 256 * k + 1) (o := 0) (n := a.length) (c := a.length) a.length (x := .grow (a.map u64)) (vs := a.map u64) (cs := a.map u64) (by rw [e]; exact hm) ⟨_, by rw [e]; exact hm, rfl, by rw [e]; exact hx⟩ rfl (Nat.le_refl _) (by
    rw [List.drop_zero, List.take_of_length_le (by simp)]
    exact FrzL.same)
  exact this
theorem P1 {o : Int} {n : Bool} {a b : List Nat} {l : List Ex} {v : Value} (g : PT PP GG tabs (frP o n a b l) v) : PT PP GG tabs (frP1 o n a b l) v := by
  have hM : (frP o n a b l).M = mkM [(4, .cells false (xc o n a b l)), (4 + 1, .cells false zeroX), (4 + 2, .cells false [.bool n, natV a])] := by kernel_rfl
  refine PT.frz (T2 := (frP o n a b l).T) (M2 := (frP o n a b l).M) (fun t v hv => ⟨v, hv, .same⟩) ?_ ?_
  · intro k x2 hx
    rw [hM] at hx
    have := mkM_get _ k x2 hx
    simp only [List.mem_cons, List.not_mem_nil, or_false, Prod.mk.injEq] at this
    rcases this with ⟨rfl, rfl⟩ | ⟨rfl, rfl⟩ | ⟨rfl, rfl⟩
    · exact ⟨_, rfl, .inl rfl⟩
    · exact ⟨_, rfl, .inl rfl⟩
    · refine ⟨.cells false [.bool n, rA (4 + 3) a.length], by kernel_rfl, .inr (.inr ⟨false, _, _, rfl, rfl, .cons .same (.cons (frz_row1 (by kernel_rfl) rfl ?_) .nil)⟩)⟩
      intro x2 h2
      have hn : (frP o n a b l).M.get (4 + 3) = none := by kernel_rfl
      rw [hn] at h2; cases h2
  · refine PT.mv (n := 4 + 2) (k := 4 + 2) (nx := 4 + 3) (T2 := (frP o n a b l).T) (M2 := (frP o n a b l).M) (by decide) (by decide) (by decide) ?_ ?_ (by kernel_rfl) (by kernel_rfl) (by kernel_rfl) (by kernel_rfl) (by rw [cutP]; exact g)
    · have hT : (frP o n a b l).T = mkT [(1, pt 4), (2, pt (4 + 1)), (3, pt (4 + 2))] := by kernel_rfl
      show ∀ t v, (frP o n a b l).T.get t = some v → ∃ v0, (frP o n a b l).T.get t = some v0 ∧ _
      rw [hT]
      refine Tree.pick_T fun p hp => ?_
      simp only [List.mem_cons, List.not_mem_nil, or_false] at hp
      rcases hp with rfl | rfl | rfl
      · exact ⟨pt 4, rfl, .ptr (m := 4) (by decide)⟩
      · exact ⟨pt (4 + 1), rfl, .ptr (m := 4 + 1) (by decide)⟩
      · exact ⟨pt (4 + 2), rfl, .ptr (m := 4 + 2) (by decide)⟩
    · show ∀ k x, (frP o n a b l).M.get k = some x → ∃ m x0, _ ∧ (frP o n a b l).M.get m = some x0 ∧ _
      rw [hM]
      refine Tree.pick_M fun x hx => ?_
      simp only [List.mem_cons, List.not_mem_nil, or_false] at hx
      rcases hx with rfl | rfl | rfl
      · refine ⟨4, _, rfl, rfl, .cells (MvL.same fun v hv => ?_)⟩
        simp only [xc, List.mem_cons, List.not_mem_nil, or_false] at hv
        rcases hv with rfl | rfl | rfl | rfl | rfl
        · exact nl_int
        · exact ⟨1, rfl⟩
        · exact nl_nat _
        · exact nl_nat _
        · exact nl_Ex l _
      · exact ⟨4 + 1, _, rfl, rfl, zero_mv⟩
      · exact ⟨4 + 2, _, rfl, rfl, .cells (.cons (.nl ⟨1, rfl⟩) (.cons (.nl (nl_nat _)) .nil))⟩
theorem Q1 {o : Int} {n : Bool} {a b : List Nat} {l : List Ex} {v : Value} (g : PT PP GG tabs (frH4 o n a b l) v) : PT PP GG tabs (frQ1 o n a b l) v := by
  have hM : (frH4 o n a b l).M = mkM [(4 + 1, .cells false zeroX), (4 + 3, .cells false [.int .i64 o, .bool n, natV a, natV b, .slice none 0 0])] := by kernel_rfl
  refine PT.frz (T2 := (frH4 o n a b l).T) (M2 := (frH4 o n a b l).M) (fun t v hv => ⟨v, hv, .same⟩) ?_ (by rw [cutQ1]; exact g)
  intro k x2 hx
  rw [hM] at hx
  have := mkM_get _ k x2 hx
  simp only [List.mem_cons, List.not_mem_nil, or_false, Prod.mk.injEq] at this
  rcases this with ⟨rfl, rfl⟩ | ⟨rfl, rfl⟩
  · exact ⟨_, rfl, .inl rfl⟩
  · refine ⟨.cells false [.int .i64 o, .bool n, natV a, rA (4 + 4) b.length, .slice none 0 0], by kernel_rfl, .inr (.inr ⟨false, _, _, rfl, rfl, .cons .same (.cons .same (.cons .same (.cons (frz_row1 (by kernel_rfl) rfl ?_) (.cons .same .nil))))⟩)⟩
    intro x2 h2
    have hn : (frH4 o n a b l).M.get (4 + 4) = none := by kernel_rfl
    rw [hn] at h2; cases h2
theorem from_P {F : Known} (hF : F.Ok PP GG tabs) {o : Int} {n : Bool} {a b : List Nat} {l : List Ex} (hb : b.length ≤ 1048576) (hc : ∀ x ∈ l, ∀ (M : Tr Blk) (nx : Nat), F.sm 21 [x.nd.val] M nx = some (x.nd.val, M, nx)) (hm : l.length ≤ 1000000) (hh : highL l ≤ 400000) : PT PP GG tabs (frP o n a b l) (xV o n a b l.length (exL l)) := by
  have hz : veqL 1000000 zeroX zeroX = true := by rfl
  cases b with
  | nil =>
    refine PT.walk (envOf hF) (c0 o n a [] l) ⟨nice_i _, nice_pair n a, nice_nat _, hz, (by show aLoad _ _ _ _ = _; kernel_rfl), (by show aLoad _ _ _ _ = _; kernel_rfl), (by show aLoad _ _ _ _ = _; kernel_rfl), app_none uNat iU8, (by show aLoad _ _ _ _ = _; kernel_rfl), (by show aLoad _ _ _ _ = _; kernel_rfl)⟩ (Q0 (mvH3 (loopH hF hc hm hh)))
  | cons x r =>
    refine PT.walk (envOf hF) (c1 o n a (x :: r) l) ⟨nice_i _, nice_pair n a, nice_nat _, hz, (by show aLoad _ _ _ _ = _; kernel_rfl), (by show aLoad _ _ _ _ = _; kernel_rfl), (by show aLoad _ _ _ _ = _; kernel_rfl), ?_, (by show veqL 1000000 zeroX zeroX = true; exact hz), (by show aLoad _ _ _ _ = _; kernel_rfl), (by show aLoad _ _ _ _ = _; kernel_rfl)⟩ (Q1 (mvH4 (loopH hF hc hm hh)))
    exact app_dat (cs := (x :: r).map u64) (n := r.length) uNat iU8 (by simp) (u_one _) (by simp only [List.length_cons] at hb; omega) (by simp only [List.length_cons] at hb; omega) (by rfl)
end Own
theorem own_ok : ∀ e : Ex, Good e → e.high ≤ 400000 → PureOk PP GG tabs 21 [e.nd.val] e.nd.val
  | .mk o n a b l, hg, hh => by
    obtain ⟨h1, h2, h5, h6⟩ : a.length ≤ 1048576 ∧ b.length ≤ 1048576 ∧ l.length ≤ 1000000 ∧ ∀ x ∈ l, Good x := by
      cases hg; exact ⟨‹_›, ‹_›, ‹_›, ‹_›⟩
    have hh' : highL l + 1 ≤ 400000 := by simpa [Ex.high] using hh
    have ih : ∀ x ∈ l, PureOk PP GG tabs 21 [x.nd.val] x.nd.val := fun x hx => own_ok x (h6 x hx) (by have := highL_mem hx; omega)
    refine PureOk.of' ?_ (Ex.nl _) (by kernel_rfl) ?_
    · intro x hx
      simp only [List.mem_cons, List.not_mem_nil, or_false] at hx
      subst hx; exact Ex.nl _
    · have hF : (Known.none.add 21 (eI (fun x : Ex => [x.nd.val]) (fun x => x ∈ l) fun x => x.nd.val)).Ok PP GG tabs := Known.add_ok Known.none_ok (eI_ok fun x hx => ih x hx)
      have hc : ∀ x ∈ l, ∀ (M : Tr Blk) (nx : Nat), (Known.none.add 21 (eI (fun x : Ex => [x.nd.val]) (fun x => x ∈ l) fun x => x.nd.val)).sm 21 [x.nd.val] M nx = some (x.nd.val, M, nx) := fun x hx M nx => eparts_call hx
      have hz : veqL 1000000 [.bool false, .slice none 0 0] [.bool false, .slice none 0 0] = true := by rfl
      show PT PP GG tabs (door PP 21 [xV o n a b l.length (exL l)] .nil GG) (xV o n a b l.length (exL l))
      cases a with
      | nil =>
        refine PT.walk (envOf hF) (Own.a0 o n [] b l) ⟨nice_bool _, nice_nat _, hz, (by show aLoad _ _ _ _ = _; kernel_rfl), (by show aLoad _ _ _ _ = _; kernel_rfl), app_none uNat iU8, (by show aLoad _ _ _ _ = _; kernel_rfl)⟩ (Own.P0 (Own.from_P hF h2 hc h5 (by omega)))
      | cons x r =>
        refine PT.walk (envOf hF) (Own.a1 o n (x :: r) b l) ⟨nice_bool _, nice_nat _, hz, (by show aLoad _ _ _ _ = _; kernel_rfl), (by show aLoad _ _ _ _ = _; kernel_rfl), ?_, (by show veqL 1000000 [.bool false, .slice none 0 0] [.bool false, .slice none 0 0] = true; exact hz), (by show aLoad _ _ _ _ = _; kernel_rfl)⟩ (Own.P1 (Own.from_P hF h2 hc h5 (by omega)))
        exact app_dat (cs := (x :: r).map u64) (n := r.length) uNat iU8 (by simp) (u_one _) (by simp only [List.length_cons] at h1; omega) (by simp only [List.length_cons] at h1; omega) (by rfl)
  termination_by e => SizeOf.sizeOf e
  decreasing_by exact ex_size hx _ _ _ _
#print axioms own_ok
end Go.Proofs.YtihloomkgpflmaaGreatDoor

namespace Go.Proofs.YtihloomkgpflmaaGreatDoor
open Go.Proofs.YtihloomkgpflmaaGreatDoor.Vm
namespace Shape
noncomputable abbrev MR (R : List Value) : Tr Blk := mkM [(0, .cells true R)]
noncomputable abbrev dr (o : Int) (n : Bool) (a b : List Nat) (k : Nat) (cs R : List Value) : Fr := door PP 104 [xV o n a b k cs] (MR R) GG
theorem s1 (o : Int) (n : Bool) (a b : List Nat) (k : Nat) (cs R : List Value) : ends PP XX GG 9 (door PP 104 [xV o n a b k cs] (MR R) GG) [.go, .go, .go, .go, .val (.bool true)] [2] [] = some (.bool false, mkM [], [.nice (.int .i64 o), .bin .lss 22 true (.int .i64 o) (i64 0) (.bool true)]) := by kernel_rfl
theorem s2 (o : Int) (n : Bool) (a b : List Nat) (k : Nat) (cs R : List Value) : ends PP XX GG 9 (door PP 104 [xV o n a b k cs] (MR R) GG) [.go, .go, .go, .go, .val (.bool false), .go, .go, .go, .val (.bool true)] [2] [] = some (.bool false, mkM [], [.nice (.int .i64 o), .bin .lss 22 true (.int .i64 o) (i64 0) (.bool false), .nice (.int .i64 o), .bin .geq 3 true (.int .i64 o) (i64 16) (.bool true)]) := by kernel_rfl
theorem s3 (o : Int) (n : Bool) (a b : List Nat) (k : Nat) (cs R : List Value) (i r : Nat) : ends PP XX GG 9 (door PP 104 [xV o n a b k cs] (MR R) GG) [.go, .go, .go, .go, .val (.bool false), .go, .go, .go, .val (.bool false), .go, .go, .go, .go, .go, .go, .go, .val (.pointer (some ⟨0, i, none⟩)), .go, .val (i64 r), .val (.bool true)] [2] [] = some (.bool false, mkM [], [.nice (.int .i64 o), .bin .lss 22 true (.int .i64 o) (i64 0) (.bool false), .nice (.int .i64 o), .bin .geq 3 true (.int .i64 o) (i64 16) (.bool false), .nice (mkDat k cs), .nice (.int .i64 o), .idxA 114 (.pointer (some (⟨0, 0, none⟩))) (.int .i64 o) (.pointer (some (⟨0, i, none⟩))), .load (mkM [(0, .cells true R), (4, .cells false [.int .i64 o, .bool n, natV a, natV b, mkDat k cs])]) 3 (.pointer (some (⟨0, i + 2, none⟩))) (i64 r), .nice (i64 r), .bin .neq 3 false (i64 k) (i64 r) (.bool true)]) := by kernel_rfl
abbrev A3 (i r : Nat) : List Ans := [.go, .go, .go, .go, .val (.bool false), .go, .go, .go, .val (.bool false), .go, .go, .go, .go, .go, .go, .go, .val (.pointer (some ⟨0, i, none⟩)), .go, .val (i64 r), .val (.bool false), .go]
theorem s4 (o : Int) (n : Bool) (a b : List Nat) (k : Nat) (cs R : List Value) (i r x y : Nat) (c : Bool) : ends PP XX GG 21 (door PP 104 [xV o n a b k cs] (MR R) GG) (A3 i r ++ [.go, .go, .val (.bool true), .go, .go, .go, .go, .go, .go, .go, .pure (i64 x), .pure (i64 y), .go, .go, .go, .val (.bool false), .go, .go, .val (.bool false), .go, .go, .val (.bool c)]) [2] [] = some (.bool c, mkM [], [.nice (.int .i64 o), .bin .lss 22 true (.int .i64 o) (i64 0) (.bool false), .nice (.int .i64 o), .bin .geq 3 true (.int .i64 o) (i64 16) (.bool false), .nice (mkDat k cs), .nice (.int .i64 o), .idxA 114 (.pointer (some (⟨0, 0, none⟩))) (.int .i64 o) (.pointer (some (⟨0, i, none⟩))), .load (mkM [(0, .cells true R), (4, .cells false [.int .i64 o, .bool n, natV a, natV b, mkDat k cs])]) 3 (.pointer (some (⟨0, i + 2, none⟩))) (i64 r), .nice (i64 r), .bin .neq 3 false (i64 k) (i64 r) (.bool false), .bin .eql 22 true (.int .i64 o) (i64 0) (.bool true), .nice (natV a), .nice (natV b), .call 116 [natV a] (mkM [(0, .cells true R), (4, .cells false [.int .i64 o, .bool n, natV a, natV b, mkDat k cs])]) 5 (i64 x) (mkM [(0, .cells true R), (4, .cells false [.int .i64 o, .bool n, natV a, natV b, mkDat k cs])]) 5, .call 116 [natV b] (mkM [(0, .cells true R), (4, .cells false [.int .i64 o, .bool n, natV a, natV b, mkDat k cs])]) 5 (i64 y) (mkM [(0, .cells true R), (4, .cells false [.int .i64 o, .bool n, natV a, natV b, mkDat k cs])]) 5, .bin .gtr 3 true (i64 x) (i64 67108864) (.bool false), .bin .gtr 3 true (i64 y) (i64 67108864) (.bool false), .bin .gtr 3 true (i64 y) (i64 0) (.bool c)]) := by kernel_rfl
theorem s5 (o : Int) (n : Bool) (a b : List Nat) (k : Nat) (cs R : List Value) (i r : Nat) : ends PP XX GG 15 (door PP 104 [xV o n a b k cs] (MR R) GG) (A3 i r ++ [.go, .go, .val (.bool false), .go, .go, .go, .go, .go, .val (.bool false)]) [2] [] = some (.bool false, mkM [], [.nice (.int .i64 o), .bin .lss 22 true (.int .i64 o) (i64 0) (.bool false), .nice (.int .i64 o), .bin .geq 3 true (.int .i64 o) (i64 16) (.bool false), .nice (mkDat k cs), .nice (.int .i64 o), .idxA 114 (.pointer (some (⟨0, 0, none⟩))) (.int .i64 o) (.pointer (some (⟨0, i, none⟩))), .load (mkM [(0, .cells true R), (4, .cells false [.int .i64 o, .bool n, natV a, natV b, mkDat k cs])]) 3 (.pointer (some (⟨0, i + 2, none⟩))) (i64 r), .nice (i64 r), .bin .neq 3 false (i64 k) (i64 r) (.bool false), .bin .eql 22 true (.int .i64 o) (i64 0) (.bool false), .bin .eql 3 true (i64 a.length) (i64 0) (.bool false)]) := by kernel_rfl
theorem s6 (o : Int) (n : Bool) (a b : List Nat) (k : Nat) (cs R : List Value) (i r : Nat) : ends PP XX GG 15 (door PP 104 [xV o n a b k cs] (MR R) GG) (A3 i r ++ [.go, .go, .val (.bool false), .go, .go, .go, .go, .go, .val (.bool true), .go, .go, .go, .go, .go, .val (.bool false)]) [2] [] = some (.bool false, mkM [], [.nice (.int .i64 o), .bin .lss 22 true (.int .i64 o) (i64 0) (.bool false), .nice (.int .i64 o), .bin .geq 3 true (.int .i64 o) (i64 16) (.bool false), .nice (mkDat k cs), .nice (.int .i64 o), .idxA 114 (.pointer (some (⟨0, 0, none⟩))) (.int .i64 o) (.pointer (some (⟨0, i, none⟩))), .load (mkM [(0, .cells true R), (4, .cells false [.int .i64 o, .bool n, natV a, natV b, mkDat k cs])]) 3 (.pointer (some (⟨0, i + 2, none⟩))) (i64 r), .nice (i64 r), .bin .neq 3 false (i64 k) (i64 r) (.bool false), .bin .eql 22 true (.int .i64 o) (i64 0) (.bool false), .bin .eql 3 true (i64 a.length) (i64 0) (.bool true), .bin .eql 3 true (i64 b.length) (i64 0) (.bool false)]) := by kernel_rfl
theorem s7 (o : Int) (a b : List Nat) (k : Nat) (cs R : List Value) (i r : Nat) : ends PP XX GG 15 (door PP 104 [xV o true a b k cs] (MR R) GG) (A3 i r ++ [.go, .go, .val (.bool false), .go, .go, .go, .go, .go, .val (.bool true), .go, .go, .go, .go, .go, .val (.bool true)]) [2] [] = some (.bool false, mkM [], [.nice (.int .i64 o), .bin .lss 22 true (.int .i64 o) (i64 0) (.bool false), .nice (.int .i64 o), .bin .geq 3 true (.int .i64 o) (i64 16) (.bool false), .nice (mkDat k cs), .nice (.int .i64 o), .idxA 114 (.pointer (some (⟨0, 0, none⟩))) (.int .i64 o) (.pointer (some (⟨0, i, none⟩))), .load (mkM [(0, .cells true R), (4, .cells false [.int .i64 o, .bool true, natV a, natV b, mkDat k cs])]) 3 (.pointer (some (⟨0, i + 2, none⟩))) (i64 r), .nice (i64 r), .bin .neq 3 false (i64 k) (i64 r) (.bool false), .bin .eql 22 true (.int .i64 o) (i64 0) (.bool false), .bin .eql 3 true (i64 a.length) (i64 0) (.bool true), .bin .eql 3 true (i64 b.length) (i64 0) (.bool true)]) := by kernel_rfl
theorem s8 (o : Int) (a b : List Nat) (k : Nat) (cs R : List Value) (i r : Nat) : ends PP XX GG 15 (door PP 104 [xV o false a b k cs] (MR R) GG) (A3 i r ++ [.go, .go, .val (.bool false), .go, .go, .go, .go, .go, .val (.bool true), .go, .go, .go, .go, .go, .val (.bool true)]) [2] [] = some (.bool true, mkM [], [.nice (.int .i64 o), .bin .lss 22 true (.int .i64 o) (i64 0) (.bool false), .nice (.int .i64 o), .bin .geq 3 true (.int .i64 o) (i64 16) (.bool false), .nice (mkDat k cs), .nice (.int .i64 o), .idxA 114 (.pointer (some (⟨0, 0, none⟩))) (.int .i64 o) (.pointer (some (⟨0, i, none⟩))), .load (mkM [(0, .cells true R), (4, .cells false [.int .i64 o, .bool false, natV a, natV b, mkDat k cs])]) 3 (.pointer (some (⟨0, i + 2, none⟩))) (i64 r), .nice (i64 r), .bin .neq 3 false (i64 k) (i64 r) (.bool false), .bin .eql 22 true (.int .i64 o) (i64 0) (.bool false), .bin .eql 3 true (i64 a.length) (i64 0) (.bool true), .bin .eql 3 true (i64 b.length) (i64 0) (.bool true)]) := by kernel_rfl
end Shape
end Go.Proofs.YtihloomkgpflmaaGreatDoor

namespace Go.Proofs.YtihloomkgpflmaaGreatDoor
open Go.Proofs.YtihloomkgpflmaaGreatDoor.Vm
theorem weak_M {tabs : List (Nat × List Value)} {v : Value} (d : Fr) (M1 : Tr Blk) (h : ∀ k x2, d.M.get k = some x2 → M1.get k = some x2) (g : PT PP GG tabs d v) : PT PP GG tabs { d with M := M1 } v := by
  refine PT.weaken (T2 := d.T) (M2 := d.M) (fun t v hv => ⟨v, hv, .same⟩) (fun k x2 hx => ⟨x2, h k x2 hx, .inl rfl⟩) ?_
  have e : ({ ({ d with M := M1 } : Fr) with T := d.T, M := d.M } : Fr) = d := by cases d; rfl
  rw [e]; exact g
namespace Shape
theorem uRows : PP.underlying 114 = some (.array 16 113) := by kernel_rfl
theorem sRow : aSize PP 113 = some 3 := by kernel_rfl
theorem gInt : aAgg PP 3 = some false := by kernel_rfl
theorem idx_row {k : Nat} (h : k < 16) : aIndexAddr PP 114 (.pointer (some ⟨0, 0, none⟩)) (i64 k) = some (.pointer (some ⟨0, 0 + k * 3, none⟩)) := by
  have : Nat.blt k 16 = true := by rw [Nat.blt_eq]; exact h
  simp [aIndexAddr, uRows, sRow, idx, this]
def arN (k : Nat) : Nat := (arityZ k).toNat
theorem rows_ok : (List.range 16).all (fun k => match rowsCells[0 + k * 3 + 2]? with
  | some (.int .i64 z) => decide (z = .ofNat (arN k)) && decide (arityZ k = .ofNat (arN k))
  | _ => false) = true := by kernel_rfl
theorem row_of {k : Nat} (h : k < 16) : rowsCells[0 + k * 3 + 2]? = some (i64 (arN k)) ∧ arityZ k = arN k := by
  have h1 := List.all_eq_true.1 rows_ok k (List.mem_range.2 h)
  split at h1
  · rename_i z hz
    simp only [Bool.and_eq_true, decide_eq_true_eq] at h1
    obtain ⟨h2, h3⟩ := h1
    subst h2
    exact ⟨hz, h3⟩
  · cases h1
theorem load_row {k : Nat} (h : k < 16) (o : Int) (n : Bool) (a b : List Nat) (m : Nat) (cs : List Value) : aLoad PP (mkM [(0, .cells true rowsCells), (4, .cells false [.int .i64 o, .bool n, natV a, natV b, mkDat m cs])]) 3 (.pointer (some ⟨0, 0 + k * 3 + 2, none⟩)) = some (i64 (arN k)) :=
  load_own (by rfl) rfl gInt (row_of h).1
end Shape
noncomputable def FS : Known := Known.none.add 116 (eI (fun x : List Nat => [natV x]) (fun x => (∀ y ∈ x, y < 18446744073709551616) ∧ x.length ≤ 1048576) fun x => i64 (lenP x))
theorem FS_ok {tabs : List (Nat × List Value)} : FS.Ok PP GG tabs := Known.add_ok Known.none_ok (eI_ok fun x h => length_ok h.1 h.2)
theorem FS_len {l : List Nat} (h1 : ∀ y ∈ l, y < 18446744073709551616) (h2 : l.length ≤ 1048576) {M : Tr Blk} {nx : Nat} : FS.sm 116 [natV l] M nx = some (i64 (lenP l), M, nx) := pureN (add_same.trans (eI_of one_inj ⟨h1, h2⟩))
theorem shape_ok {o : Int} {n : Bool} {a b : List Nat} {l : List Ex} (h1 : a.length ≤ 1048576) (h2 : b.length ≤ 1048576) (h3 : ∀ x ∈ a, x < 18446744073709551616) (h4 : ∀ x ∈ b, x < 18446744073709551616) (hh : highL l ≤ 400000) : PureOk PP GG tabsD 104 [xV o n a b l.length (exL l)] (.bool (shapeB o n a b l.length)) := by
  refine PureOk.of (fr := { door PP 104 [xV o n a b l.length (exL l)] (Shape.MR rowsCells) GG with M := Mof tabsD }) ?_ ⟨1, rfl⟩ (by kernel_rfl) ?_
  · intro x hx
    simp only [List.mem_cons, List.not_mem_nil, or_false] at hx
    subst hx; exact Ex.nl (.mk o n a b l)
  · refine weak_M (door PP 104 [xV o n a b l.length (exL l)] (Shape.MR rowsCells) GG) (Mof tabsD) (fun k x2 hx => ?_) ?_
    · have hM : (door PP 104 [xV o n a b l.length (exL l)] (Shape.MR rowsCells) GG).M = Shape.MR rowsCells := by kernel_rfl
      rw [hM] at hx
      have := mkM_get _ k x2 hx
      simp only [List.mem_cons, List.not_mem_nil, or_false, Prod.mk.injEq] at this
      obtain ⟨rfl, rfl⟩ := this
      show (Mof tabsD).get 0 = some (.cells true rowsCells)
      kernel_rfl
    · unfold shapeB
      have ni := nice_i o
      have nd := nice_ex (n := l.length) hh
      by_cases ho : o < 0 ∨ 15 < o
      · have ea : arityZ o = -1 := by unfold arityZ; rw [if_pos ho]
        have ef : (decide (arityZ o = l.length) && (if o = 0 then decide (0 < (topN b).length) else (decide (a.length = 0) && (decide (b.length = 0) && !n)))) = false := by
          have : ¬ (arityZ o = l.length) := by rw [ea]; omega
          simp [this]
        rw [ef]
        by_cases h0 : o < 0
        · exact PT.ends (envOf FS_ok) (Shape.s1 o n a b l.length (exL l) rowsCells) ⟨ni, bin_lss (w := 0) (decide_eq_true h0)⟩ .same
        · exact PT.ends (envOf FS_ok) (Shape.s2 o n a b l.length (exL l) rowsCells) ⟨ni, bin_lss (w := 0) (decide_eq_false h0), ni, bin_geq (w := 16) (decide_eq_true (by omega))⟩ .same
      · obtain ⟨k, rfl⟩ : ∃ k : Nat, o = k := ⟨o.toNat, by omega⟩
        have hk : k < 16 := by omega
        obtain ⟨_, har⟩ := Shape.row_of hk
        have c1 : aBin PP .lss 22 true (.int .i64 (k : Int)) (i64 0) = some (.bool false) := bin_lss (w := 0) (decide_eq_false (by omega))
        have c2 : aBin PP .geq 3 true (.int .i64 (k : Int)) (i64 16) = some (.bool false) := bin_geq (w := 16) (decide_eq_false (by omega))
        have nr := nice_i (Int.ofNat (Shape.arN k))
        by_cases hl : l.length = Shape.arN k
        · have e1 : decide (arityZ (k : Int) = l.length) = true := decide_eq_true (by rw [har, hl])
          rw [e1, Bool.true_and]
          have c3 : aBin PP .neq 3 false (i64 l.length) (i64 (Shape.arN k)) = some (.bool false) := bin_neq (decide_eq_false (by rw [hl]; simp))
          by_cases h0 : (k : Int) = 0
          · rw [if_pos h0]
            have p1 := lenP_le h3 h1
            have p2 := lenP_le h4 h2
            refine PT.ends (envOf FS_ok) (Shape.s4 k n a b l.length (exL l) rowsCells (0 + k * 3) (Shape.arN k) (lenP a) (lenP b) (decide (0 < (topN b).length))) ⟨ni, c1, ni, c2, nd, ni, Shape.idx_row hk, Shape.load_row hk _ _ _ _ _ _, nr, c3, bin_eql (decide_eq_true h0), nice_nat a, nice_nat b, FS_len h3 h1, FS_len h4 h2, gtr_f p1.1, gtr_f p2.1, ?_⟩ .same
            have et : topN b = norm b := rfl
            rw [et]
            by_cases hb : 0 < (norm b).length
            · rw [decide_eq_true hb]; exact gtr_t (p2.2.2 hb)
            · rw [decide_eq_false hb]
              have : lenP b = 0 := by
                rcases Nat.eq_zero_or_pos (lenP b) with e | e
                · exact e
                · exact absurd (p2.2.1 e) hb
              rw [this]; exact gtr_f (Nat.le_refl _)
          · rw [if_neg h0]
            have c4 : aBin PP .eql 22 true (.int .i64 (k : Int)) (i64 0) = some (.bool false) := bin_eql (decide_eq_false h0)
            by_cases ha : a.length = 0
            · rw [decide_eq_true ha, Bool.true_and]
              by_cases hb : b.length = 0
              · rw [decide_eq_true hb, Bool.true_and]
                cases n with
                | true => exact PT.ends (envOf FS_ok) (Shape.s7 k a b l.length (exL l) rowsCells (0 + k * 3) (Shape.arN k)) ⟨ni, c1, ni, c2, nd, ni, Shape.idx_row hk, Shape.load_row hk _ _ _ _ _ _, nr, c3, c4, eql_t ha, eql_t hb⟩ .same
                | false => exact PT.ends (envOf FS_ok) (Shape.s8 k a b l.length (exL l) rowsCells (0 + k * 3) (Shape.arN k)) ⟨ni, c1, ni, c2, nd, ni, Shape.idx_row hk, Shape.load_row hk _ _ _ _ _ _, nr, c3, c4, eql_t ha, eql_t hb⟩ .same
              · rw [decide_eq_false hb, Bool.false_and]
                exact PT.ends (envOf FS_ok) (Shape.s6 k n a b l.length (exL l) rowsCells (0 + k * 3) (Shape.arN k)) ⟨ni, c1, ni, c2, nd, ni, Shape.idx_row hk, Shape.load_row hk _ _ _ _ _ _, nr, c3, c4, eql_t ha, eql_f hb⟩ .same
            · rw [decide_eq_false ha, Bool.false_and]
              exact PT.ends (envOf FS_ok) (Shape.s5 k n a b l.length (exL l) rowsCells (0 + k * 3) (Shape.arN k)) ⟨ni, c1, ni, c2, nd, ni, Shape.idx_row hk, Shape.load_row hk _ _ _ _ _ _, nr, c3, c4, eql_f ha⟩ .same
        · have e1 : decide (arityZ (k : Int) = l.length) = false := decide_eq_false (by rw [har]; omega)
          rw [e1, Bool.false_and]
          have c3 : aBin PP .neq 3 false (i64 l.length) (i64 (Shape.arN k)) = some (.bool true) := bin_neq (decide_eq_true (fun h => hl (Int.ofNat.inj h)))
          exact PT.ends (envOf FS_ok) (Shape.s3 k n a b l.length (exL l) rowsCells (0 + k * 3) (Shape.arN k)) ⟨ni, c1, ni, c2, nd, ni, Shape.idx_row hk, Shape.load_row hk _ _ _ _ _ _, nr, c3⟩ .same
#print axioms shape_ok
end Go.Proofs.YtihloomkgpflmaaGreatDoor

namespace Go.Proofs.YtihloomkgpflmaaGreatDoor
open Go.Proofs.YtihloomkgpflmaaGreatDoor.Vm
namespace Look
abbrev most : Nat := 4611686018427387903
abbrev pt (k o : Nat) : Value := .pointer (some ⟨256 * k, o, none⟩)
abbrev xc (o : Int) (n : Bool) (a b : List Nat) (l : List Ex) : List Value := [.int .i64 o, .bool n, natV a, natV b, mkDat l.length (exL l)]
abbrev hd (l : List Ex) (c c2 nx : Nat) (v : Value) (s : Bool) (M1 : Tr Blk) : List Ans := [.go, .go, .go, .go, .go, .val (i64 c), .val (i64 c2), .go, .mem undef M1 (nx + 1), .go, .go, .val (i64 c2), .go, .val (.bool false), .go, .go, .go, .val (.bool false), .go, .val v, .pure (.bool s), .go, .go, .go, .val (mkDat l.length (exL l)), .go, .go]
noncomputable def frB : Fr := onto PP XX GG 18 (door PP 89 [xV 0 false [] [] 0 [], i64 1, pt 7 0, i64 most] .nil 9) (hd [] 0 1 9 (xV 0 false [] [] 0 []) true .nil)
noncomputable def frL (l : List Ex) (deep pb : Nat) (s : Bool) (d i : Nat) (M : Tr Blk) (nx : Nat) : Fr := { frB with T := mkT [(1, i64 deep), (2, pt pb 0), (3, i64 most), (10, .bool s), (11, i64 d), (34, mkDat l.length (exL l)), (35, i64 l.length), (36, i64 i)], M := M, nx := nx }
theorem q0 (o : Int) (n : Bool) (a b : List Nat) (l : List Ex) (deep c c2 pb nx : Nat) (s : Bool) (M M1 : Tr Blk) : walkS PP XX GG 18 (door PP 89 [xV o n a b l.length (exL l), i64 deep, pt pb 0, i64 most] M nx) (hd l c c2 nx (xV o n a b l.length (exL l)) s M1) [1, 2, 3, 10, 11, 34, 35, 36] = some (frL l deep pb s 1 0 M1 (nx + 1), [.load (M.set nx (.cells false (xc o n a b l))) 3 (pt pb 0) (i64 c), .bin .add 3 true (i64 c) (i64 1) (i64 c2), .sto (M.set nx (.cells false (xc o n a b l))) 3 (pt pb 0) (i64 c2) M1, .load M1 3 (pt pb 0) (i64 c2), .bin .gtr 3 false (i64 c2) (i64 most) (.bool false), .bin .gtr 3 false (i64 deep) (i64 most) (.bool false), .load M1 31 (pt nx 0) (xV o n a b l.length (exL l)), .call 104 [xV o n a b l.length (exL l)] M1 (nx + 1) (.bool s) M1 (nx + 1), .load M1 29 (pt nx 4) (mkDat l.length (exL l))]) := by kernel_rfl
theorem q1 (l : List Ex) (deep deep2 pb d h h2 d2 i i2 nx nx3 : Nat) (r : Bool) (a : Nd) (M M2 M3 : Tr Blk) : walkS PP XX GG 17 (frL l deep pb true d i M nx) [.val (.bool true), .val (exP l i), .val a.val, .go, .mem undef M2 (nx + 1), .val a.val, .go, .val (i64 deep2), .go, .go, .mem (.tuple ⟨[.bool r, i64 h]⟩) M3 nx3, .go, .go, .go, .go, .go, .go, .go, .go, .go, .go, .go, .go, .val (i64 h2), .val (i64 d2), .go, .val (i64 i2), .go] [1, 2, 3, 10, 11, 34, 35, 36] = some (frL l deep pb r d2 i2 M3 nx3, [.bin .lss 3 false (i64 i) (i64 l.length) (.bool true), .idxA 29 (mkDat l.length (exL l)) (i64 i) (exP l i), .load M 31 (exP l i) a.val, .sto (M.set nx (.cells false Own.zeroX)) 31 (pt nx 0) a.val M2, .load M2 31 (pt nx 0) a.val, .bin .add 3 true (i64 deep) (i64 1) (i64 deep2), .call 89 [a.val, i64 deep2, pt pb 0, i64 most] M2 (nx + 1) (.tuple ⟨[.bool r, i64 h]⟩) M3 nx3, .bin .add 3 true (i64 h) (i64 1) (i64 h2), .mx [i64 d, i64 h2] (i64 d2), .bin .add 3 true (i64 i) (i64 1) (i64 i2)]) := by kernel_rfl
theorem q2 (l : List Ex) (deep deep2 pb d h h2 d2 i i2 nx nx3 : Nat) (r : Bool) (a : Nd) (M M2 M3 : Tr Blk) : walkS PP XX GG 17 (frL l deep pb false d i M nx) [.val (.bool true), .val (exP l i), .val a.val, .go, .mem undef M2 (nx + 1), .val a.val, .go, .val (i64 deep2), .go, .go, .mem (.tuple ⟨[.bool r, i64 h]⟩) M3 nx3, .go, .go, .go, .go, .go, .go, .go, .go, .go, .go, .go, .val (i64 h2), .val (i64 d2), .go, .val (i64 i2), .go] [1, 2, 3, 10, 11, 34, 35, 36] = some (frL l deep pb false d2 i2 M3 nx3, [.bin .lss 3 false (i64 i) (i64 l.length) (.bool true), .idxA 29 (mkDat l.length (exL l)) (i64 i) (exP l i), .load M 31 (exP l i) a.val, .sto (M.set nx (.cells false Own.zeroX)) 31 (pt nx 0) a.val M2, .load M2 31 (pt nx 0) a.val, .bin .add 3 true (i64 deep) (i64 1) (i64 deep2), .call 89 [a.val, i64 deep2, pt pb 0, i64 most] M2 (nx + 1) (.tuple ⟨[.bool r, i64 h]⟩) M3 nx3, .bin .add 3 true (i64 h) (i64 1) (i64 h2), .mx [i64 d, i64 h2] (i64 d2), .bin .add 3 true (i64 i) (i64 1) (i64 i2)]) := by kernel_rfl
theorem q3 (l : List Ex) (deep pb d i nx : Nat) (s : Bool) (M : Tr Blk) : endsS PP XX GG 8 (frL l deep pb s d i M nx) [.val (.bool false)] = some (.ret (.tuple ⟨[.bool s, i64 d]⟩) .run M nx, [.bin .lss 3 false (i64 i) (i64 l.length) (.bool false)]) := by kernel_rfl
end Look
end Go.Proofs.YtihloomkgpflmaaGreatDoor

namespace Go.Proofs.YtihloomkgpflmaaGreatDoor
open Go.Proofs.YtihloomkgpflmaaGreatDoor.Vm
theorem nodesL_mem {l : List Ex} {a : Ex} (h : a ∈ l) : a.nodes ≤ nodesL l := by
  induction l with
  | nil => cases h
  | cons b l ih =>
    unfold nodesL
    rcases List.mem_cons.1 h with e | e
    · subst e; omega
    · have := ih e; omega
theorem nodesL_take (l : List Ex) (i : Nat) (h : i < l.length) : nodesL (l.take (i + 1)) = nodesL (l.take i) + (l[i]).nodes := by
  induction l generalizing i with
  | nil => simp at h
  | cons b l ih =>
    cases i with
    | zero => simp [nodesL]
    | succ i =>
      simp only [List.take_succ_cons, nodesL, List.getElem_cons_succ, ih i (by simpa using h)]
      omega
theorem nodesL_take_le (l : List Ex) : ∀ i, nodesL (l.take i) ≤ nodesL l := by
  induction l with
  | nil => intro i; simp
  | cons b l ih =>
    intro i
    cases i with
    | zero => simp [nodesL]
    | succ i => simp only [List.take_succ_cons, nodesL]; have := ih i; omega
theorem highL_take (l : List Ex) (i : Nat) (h : i < l.length) : highL (l.take (i + 1)) = max (highL (l.take i)) (l[i]).high := by
  induction l generalizing i with
  | nil => simp at h
  | cons b l ih =>
    cases i with
    | zero => simp [highL]
    | succ i =>
      simp only [List.take_succ_cons, highL, List.getElem_cons_succ, ih i (by simpa using h)]
      omega
theorem highL_take_le (l : List Ex) : ∀ i, highL (l.take i) ≤ highL l := by
  induction l with
  | nil => intro i; simp
  | cons b l ih =>
    intro i
    cases i with
    | zero => simp [highL]
    | succ i => simp only [List.take_succ_cons, highL]; have := ih i; omega
theorem lookL_take (l : List Ex) (i : Nat) (h : i < l.length) : lookL (l.take (i + 1)) = (lookL (l.take i) && (l[i]).look) := by
  induction l generalizing i with
  | nil => simp at h
  | cons b l ih =>
    cases i with
    | zero => simp [lookL]
    | succ i =>
      simp only [List.take_succ_cons, lookL, List.getElem_cons_succ, ih i (by simpa using h), Bool.and_assoc]
theorem nodes_pos (e : Ex) : 1 ≤ e.nodes := by cases e; simp [Ex.nodes]
theorem xlen_nodes (l : List Ex) : l.length ≤ nodesL l := by
  induction l with
  | nil => simp
  | cons b l ih => have := nodes_pos b; simp only [List.length_cons, nodesL]; omega
namespace Look
theorem e256 (k : Nat) : 256 * k / 256 = k := by omega
theorem mx_of (d h : Nat) : aMax [i64 d, i64 h] = some (i64 (max d h)) := by
  cases hb : ltI (Int.ofNat d) (Int.ofNat h) with
  | true =>
    have h3 : Nat.blt d h = true := hb
    rw [Nat.blt_eq] at h3
    have : max d h = h := by omega
    rw [this]
    simp only [aMax, hb, cond_true]
  | false =>
    have h3 : Nat.blt d h = false := hb
    have h4 : ¬ d < h := fun hlt => by
      have h5 : Nat.blt d h = true := by rw [Nat.blt_eq]; exact hlt
      rw [h5] at h3; cases h3
    have : max d h = d := by omega
    rw [this]
    simp only [aMax, hb, cond_false]
theorem load_int {M : Tr Blk} {k : Nat} {z : Value} (h : M.get k = some (.cells false [z])) : aLoad PP M 3 (pt k 0) = some z := load_own (vs := [z]) (by rw [e256]; exact h) rfl Shape.gInt rfl
theorem load_nd2 {M : Tr Blk} {k : Nat} {a : Nd} (h : M.get k = some (.cells false a.cells)) : aLoad PP M 31 (pt k 0) = some a.val := by
  have h' : M.get (256 * k / 256) = some (.cells false a.cells) := by rw [e256]; exact h
  simp only [aLoad, h', Blk.vals, gEx, sEx]
  rfl
theorem gExs : aAgg PP 29 = some false := by kernel_rfl
theorem load_args {M : Tr Blk} {k : Nat} {a : Nd} (h : M.get k = some (.cells false a.cells)) : aLoad PP M 29 (pt k 4) = some (mkDat a.n a.cs) := load_own (vs := a.cells) (by rw [e256]; exact h) rfl gExs rfl
theorem sInt : aSize PP 3 = some 1 := by kernel_rfl
theorem sto_int {M : Tr Blk} {k : Nat} {z : Value} {w : Int} (h : M.get k = some (.cells false [z])) : aStore PP M 3 (pt k 0) (.int .i64 w) = some (M.set k (.cells false [.int .i64 w])) :=
  sto_own (vs := [z]) (by rw [e256]; exact h) sInt (by simp) (by rw [e256]; rfl)
theorem sto_nd {M : Tr Blk} {k : Nat} {a : Nd} (h : M.get k = some (.cells false Own.zeroX)) : aStore PP M 31 (pt k 0) a.val = some (M.set k (.cells false a.cells)) := by
  have h' : M.get (256 * k / 256) = some (.cells false Own.zeroX) := by rw [e256]; exact h
  have h1 : (Nat.beq (a.val).cells.toList.length 5 && (a.val).cells.toList.all (·.oneCell')) = true := by rfl
  have h2 : (Blk.cells false Own.zeroX).put 0 (a.val).cells.toList = some (.cells false a.cells) := by rfl
  simp only [aStore, e256, h, sEx, h1, h2]
/-- What is known of the parts of a tree. -/
noncomputable def eS (l : List Ex) : List Value → Tr Blk → Nat → Option (Value × Tr Blk × Nat)
  | [v, .int .i64 (.ofNat deep), .pointer (some ⟨pb, 0, none⟩), .int .i64 (.ofNat m)], M, nx => (match M.get (pb / 256) with
    | some (.cells false [.int .i64 (.ofNat c)]) => (open Classical in if h : (∃ x, x ∈ l ∧ x.nd.val = v ∧ deep + x.high ≤ 10000000 ∧ c + x.nodes ≤ 10000000) ∧ (m = most ∧ pb = 256 * (pb / 256) ∧ pb / 256 < nx ∧ ∀ k, nx ≤ k → M.get k = none) then
        some (.tuple ⟨[.bool h.1.choose.look, i64 h.1.choose.high]⟩, M.set (pb / 256) (.cells false [i64 (c + h.1.choose.nodes)]), nx + (2 * h.1.choose.nodes - 1)) else none)
    | _ => none)
  | _, _, _ => none
theorem eS_of {l : List Ex} {x : Ex} {deep pb c nx : Nat} {M : Tr Blk} (hx : x ∈ l) (hd : deep + x.high ≤ 10000000) (hc : c + x.nodes ≤ 10000000) (hm : M.get pb = some (.cells false [i64 c])) (hp : pb < nx) (hn : ∀ k, nx ≤ k → M.get k = none) :
    eS l [x.nd.val, i64 deep, pt pb 0, i64 most] M nx = some (.tuple ⟨[.bool x.look, i64 x.high]⟩, M.set pb (.cells false [i64 (c + x.nodes)]), nx + (2 * x.nodes - 1)) := by
  have hcond : (∃ y, y ∈ l ∧ y.nd.val = x.nd.val ∧ deep + y.high ≤ 10000000 ∧ c + y.nodes ≤ 10000000) ∧ (most = most ∧ 256 * pb = 256 * (256 * pb / 256) ∧ 256 * pb / 256 < nx ∧ ∀ k, nx ≤ k → M.get k = none) := ⟨⟨x, hx, rfl, hd, hc⟩, rfl, by rw [e256], by rw [e256]; exact hp, hn⟩
  have hm' : M.get (256 * pb / 256) = some (.cells false [i64 c]) := by rw [e256]; exact hm
  have hch : hcond.1.choose = x := Ex.inj _ _ hcond.1.choose_spec.2.1
  simp only [eS, hm']
  rw [dif_pos hcond, hch, e256]
end Look
/-- What is known where a part is looked at. -/
noncomputable def FLk (l : List Ex) : Known := (Known.none.add 104 (eI (fun x : Ex => [x.nd.val]) (fun x => Good x ∧ x.high ≤ 400000) fun x => match x with | .mk o n a b l => .bool (shapeB o n a b l.length))).addS 89 (Look.eS l)
theorem FLk_shape {l : List Ex} {o : Int} {n : Bool} {a b : List Nat} {m : List Ex} (hg : Good (.mk o n a b m)) (hh : (Ex.mk o n a b m).high ≤ 400000) {M : Tr Blk} {nx : Nat} : (FLk l).sm 104 [xV o n a b m.length (exL m)] M nx = some (.bool (shapeB o n a b m.length), M, nx) :=
  ex_call (F := FLk l) (e := .mk o n a b m) (add_same.trans (eI_of (x := Ex.mk o n a b m) ex_inj1 ⟨hg, hh⟩))
theorem FLk_look {l : List Ex} {aa : List Value} {M : Tr Blk} {nx : Nat} : (FLk l).sm 89 aa M nx = Look.eS l aa M nx := by
  have h1 : (FLk l).pf 89 (aa.map (frzV 12 M)) = none := rfl
  simp only [Known.sm, h1]
  rfl
end Go.Proofs.YtihloomkgpflmaaGreatDoor

namespace Go.Proofs.YtihloomkgpflmaaGreatDoor
open Go.Proofs.YtihloomkgpflmaaGreatDoor.Vm
namespace Look
/-- Of blocks M there are these left: below nx0 as they were but for the counter; nothing from nx on. -/
structure Inv (M0 : Tr Blk) (pb c nx0 : Nat) (M : Tr Blk) (nx : Nat) : Prop where
  low : ∀ k, k < nx0 → M.get k = (M0.set pb (.cells false [i64 c])).get k
  high : ∀ k, nx ≤ k → M.get k = none
  le : nx0 ≤ nx
  pb : pb < nx0
theorem Inv.cnt {M0 M : Tr Blk} {pb c nx0 nx : Nat} (h : Inv M0 pb c nx0 M nx) : M.get pb = some (.cells false [i64 c]) := by rw [h.low pb h.pb, Tr.get_set_same]
theorem ten_le : 10000000 ≤ most := Nat.le_of_ble_eq_true (by kernel_rfl)
theorem loop_ok {l : List Ex} (hF : (FLk l).Ok PP GG tabsD) {M0 : Tr Blk} {deep pb c0 nx0 : Nat} (hd : deep + highL l ≤ 9999999) (hc : c0 + nodesL l ≤ 10000000) (hh : highL l ≤ 400000) {r0 : Bool} : ∀ d i (M : Tr Blk) (nx : Nat), i + d = l.length → Inv M0 pb (c0 + nodesL (l.take i)) nx0 M nx →
    ∃ M', ST PP GG tabsD (frL l deep pb (r0 && lookL (l.take i)) (highL (l.take i) + 1) i M nx) (.ret (.tuple ⟨[.bool (r0 && lookL l), i64 (highL l + 1)]⟩) .run M' (nx + 2 * (nodesL l - nodesL (l.take i)))) ∧ Inv M0 pb (c0 + nodesL l) nx0 M' (nx + 2 * (nodesL l - nodesL (l.take i)))
  | 0, i, M, nx, h, hI => by
    have e : l.take i = l := List.take_of_length_le (by omega)
    rw [e] at hI ⊢
    refine ⟨M, ?_, ?_⟩
    · rw [Nat.sub_self, Nat.mul_zero, Nat.add_zero]
      exact ST.ends (envOf hF) (q3 l deep pb _ i nx _ M) (lss_f (by omega))
    · rw [Nat.sub_self, Nat.mul_zero, Nat.add_zero]; exact hI
  | d + 1, i, M, nx, h, hI => by
    have hi : i < l.length := by omega
    have hx := List.getElem_mem hi
    have hn := nodesL_take l i hi
    have hnl := nodesL_take_le l (i + 1)
    have hhx := highL_mem hx
    have hht := highL_take l i hi
    have hp := nodes_pos (l[i])
    have hlen := xlen_nodes l
    -- the blocks behind the store
    let M2 := (M.set nx (.cells false Own.zeroX)).set nx (.cells false (l[i]).nd.cells)
    have g2 : ∀ k, k ≠ nx → M2.get k = M.get k := fun k hk => by
      show ((M.set nx _).set nx _).get k = _
      rw [Tr.get_set_ne _ _ hk, Tr.get_set_ne _ _ hk]
    have g2' : M2.get nx = some (.cells false (l[i]).nd.cells) := Tr.get_set_same _ _ _
    have hpbnx : pb ≠ nx := by have := hI.pb; have := hI.le; omega
    have c2 : M2.get pb = some (.cells false [i64 (c0 + nodesL (l.take i))]) := by rw [g2 pb hpbnx]; exact hI.cnt
    let M3 := M2.set pb (.cells false [i64 (c0 + nodesL (l.take i) + (l[i]).nodes)])
    have hcall : eS l [(l[i]).nd.val, i64 (deep + 1), pt pb 0, i64 most] M2 (nx + 1) = some (.tuple ⟨[.bool (l[i]).look, i64 (l[i]).high]⟩, M3, nx + 1 + (2 * (l[i]).nodes - 1)) :=
      eS_of hx (by omega) (by omega) c2 (by have := hI.pb; have := hI.le; omega) (fun k hk => by rw [g2 k (by omega)]; exact hI.high k (by omega))
    have hI3 : Inv M0 pb (c0 + nodesL (l.take (i + 1))) nx0 M3 (nx + 1 + (2 * (l[i]).nodes - 1)) := by
      refine ⟨fun k hk => ?_, fun k hk => ?_, by have := hI.le; omega, hI.pb⟩
      · show (M2.set pb _).get k = _
        by_cases hkp : k = pb
        · subst hkp
          rw [Tr.get_set_same, Tr.get_set_same, hn, Nat.add_assoc]
        · rw [Tr.get_set_ne _ _ hkp, Tr.get_set_ne _ _ hkp, g2 k (by have := hI.le; omega), hI.low k hk, Tr.get_set_ne _ _ hkp]
      · show (M2.set pb _).get k = _
        have := hI.pb
        have := hI.le
        rw [Tr.get_set_ne _ _ (by omega), g2 k (by omega)]
        exact hI.high k (by omega)
    obtain ⟨M', s1, s2⟩ := loop_ok hF hd hc hh (r0 := r0) d (i + 1) M3 _ (by omega) hI3
    have en : nx + 1 + (2 * (l[i]).nodes - 1) + 2 * (nodesL l - nodesL (l.take (i + 1))) = nx + 2 * (nodesL l - nodesL (l.take i)) := by omega
    rw [en] at s1 s2
    refine ⟨M', ?_, s2⟩
    have emax : highL (l.take (i + 1)) + 1 = max (highL (l.take i) + 1) ((l[i]).high + 1) := by rw [hht]; omega
    rw [lookL_take l i hi, emax] at s1
    have obs : Obs PP (FLk l) [.bin .lss 3 false (i64 i) (i64 l.length) (.bool true), .idxA 29 (mkDat l.length (exL l)) (i64 i) (exP l i), .load M 31 (exP l i) (l[i]).nd.val, .sto (M.set nx (.cells false Own.zeroX)) 31 (pt nx 0) (l[i]).nd.val M2, .load M2 31 (pt nx 0) (l[i]).nd.val, .bin .add 3 true (i64 deep) (i64 1) (i64 (deep + 1)), .call 89 [(l[i]).nd.val, i64 (deep + 1), pt pb 0, i64 most] M2 (nx + 1) (.tuple ⟨[.bool (l[i]).look, i64 (l[i]).high]⟩) M3 (nx + 1 + (2 * (l[i]).nodes - 1)), .bin .add 3 true (i64 (l[i]).high) (i64 1) (i64 ((l[i]).high + 1)), .mx [i64 (highL (l.take i) + 1), i64 ((l[i]).high + 1)] (i64 (max (highL (l.take i) + 1) ((l[i]).high + 1))), .bin .add 3 true (i64 i) (i64 1) (i64 (i + 1))] :=
      ⟨lss_t hi, idx_ex hi, load_ex hi, sto_nd (Tr.get_set_same _ _ _), load_nd2 g2', add_i64 (by omega), FLk_look.trans hcall, add_i64 (by omega), mx_of _ _, add_i64 (by omega)⟩
    cases hs : (r0 && lookL (l.take i)) with
    | true =>
      have e1 : (r0 && (lookL (l.take i) && (l[i]).look)) = (l[i]).look := by rw [← Bool.and_assoc, hs, Bool.true_and]
      rw [e1] at s1
      exact ST.walk (envOf hF) (q1 l deep (deep + 1) pb _ _ _ _ i (i + 1) nx _ _ (l[i]).nd M M2 M3) obs s1
    | false =>
      have e1 : (r0 && (lookL (l.take i) && (l[i]).look)) = false := by rw [← Bool.and_assoc, hs, Bool.false_and]
      rw [e1] at s1
      exact ST.walk (envOf hF) (q2 l deep (deep + 1) pb _ _ _ _ i (i + 1) nx _ _ (l[i]).nd M M2 M3) obs s1
end Look
abbrev LookP (e : Ex) : Prop := ∀ (deep c pb nx : Nat) (M : Tr Blk), deep + e.high ≤ 10000000 → c + e.nodes ≤ 10000000 → pb < nx → M.get pb = some (.cells false [i64 c]) → (∀ k, nx ≤ k → M.get k = none) →
    StOk PP GG tabsD 89 [e.nd.val, i64 deep, Look.pt pb 0, i64 Look.most] M nx (.tuple ⟨[.bool e.look, i64 e.high]⟩) (M.set pb (.cells false [i64 (c + e.nodes)])) (nx + (2 * e.nodes - 1))
theorem look_known {l : List Ex} (hparts : ∀ x ∈ l, Good x) (hh' : highL l + 1 ≤ 400000) (IH : ∀ x ∈ l, x.high ≤ 400000 → LookP x) : (FLk l).Ok PP GG tabsD := by
  refine Known.addS_ok (Known.add_ok Known.none_ok (eI_ok fun x hx => ?_)) fun aa M nx v M' nx' hs => ?_
  · obtain ⟨hx1, hx2⟩ := hx
    cases hx1 with
    | mk hop hn hd hn2 hd2 ha h => exact shape_ok hn hd hn2 hd2 (by simp only [Ex.high] at hx2; omega)
  · unfold Look.eS at hs
    split at hs
    · rename_i v0 deep0 pb0 m0
      split at hs
      · rename_i c0 hc0
        split at hs
        · rename_i hq
          obtain ⟨⟨y, hy⟩, hq2, hq3, hq4, hq5⟩ := id hq
          have hcs := hq.1.choose_spec
          generalize hq.1.choose = z at hs hcs
          simp only [Option.some.injEq, Prod.mk.injEq] at hs
          obtain ⟨rfl, rfl, rfl⟩ := hs
          have := IH z hcs.1 (by have := highL_mem hcs.1; omega) deep0 c0 (pb0 / 256) nx M hcs.2.2.1 hcs.2.2.2 hq4 hc0 hq5
          rw [hcs.2.1] at this
          subst hq2
          unfold Look.pt at this
          rw [← hq3] at this
          exact this
        · cases hs
      · cases hs
    · cases hs
theorem look_step {o : Int} {n : Bool} {a b : List Nat} {l : List Ex} (hg : Good (.mk o n a b l)) (hh : (Ex.mk o n a b l).high ≤ 400000) (hF : (FLk l).Ok PP GG tabsD) : LookP (.mk o n a b l) := by
    intro deep c pb nx M hd hc hpb hm hn
    have hh' : highL l + 1 ≤ 400000 := by simpa [Ex.high] using hh
    have hd' : deep + (highL l + 1) ≤ 10000000 := by simpa [Ex.high] using hd
    have hc' : c + (nodesL l + 1) ≤ 10000000 := by simpa [Ex.nodes] using hc
    have hne : pb ≠ nx := by omega
    let M1 := (M.set nx (.cells false (Look.xc o n a b l))).set pb (.cells false [i64 (c + 1)])
    have g1 : (M.set nx (.cells false (Look.xc o n a b l))).get pb = some (.cells false [i64 c]) := by rw [Tr.get_set_ne _ _ hne]; exact hm
    have g1' : M1.get pb = some (.cells false [i64 (c + 1)]) := Tr.get_set_same _ _ _
    have g2 : M1.get nx = some (.cells false (Ex.mk o n a b l).nd.cells) := by
      show ((M.set nx _).set pb _).get nx = _
      rw [Tr.get_set_ne _ _ (Ne.symm hne), Tr.get_set_same]
      rfl
    have hI : Look.Inv M pb (c + 1 + nodesL (l.take 0)) nx M1 (nx + 1) := by
      refine ⟨fun k hk => ?_, fun k hk => ?_, by omega, hpb⟩
      · show ((M.set nx _).set pb _).get k = _
        by_cases hkp : k = pb
        · subst hkp
          rw [Tr.get_set_same, Tr.get_set_same]; rfl
        · rw [Tr.get_set_ne _ _ hkp, Tr.get_set_ne _ _ hkp, Tr.get_set_ne _ _ (by omega)]
      · show ((M.set nx _).set pb _).get k = _
        rw [Tr.get_set_ne _ _ (by omega), Tr.get_set_ne _ _ (by omega)]
        exact hn k (by omega)
    obtain ⟨M', s1, s2⟩ := Look.loop_ok hF (M0 := M) (deep := deep) (pb := pb) (c0 := c + 1) (nx0 := nx) (by omega) (by omega) (by omega) (r0 := shapeB o n a b l.length) l.length 0 M1 (nx + 1) (by omega) hI
    have e0 : nodesL (l.take 0) = 0 := rfl
    have e1 : lookL (l.take 0) = true := rfl
    have e2 : highL (l.take 0) = 0 := rfl
    rw [e0, e1, e2, Bool.and_true] at s1
    rw [e0] at s2
    have en : nx + 1 + 2 * (nodesL l - 0) = nx + (2 * (Ex.mk o n a b l).nodes - 1) := by simp only [Ex.nodes]; omega
    rw [en] at s1 s2
    refine StOk.of (fr := door PP 89 [xV o n a b l.length (exL l), i64 deep, Look.pt pb 0, i64 Look.most] M nx) (by kernel_rfl) ?_
    refine ST.walk (envOf hF) (Look.q0 o n a b l deep c (c + 1) pb nx (shapeB o n a b l.length) M M1) ⟨Look.load_int g1, add_i64 (by omega), Look.sto_int g1, Look.load_int g1', gtr_f (Nat.le_trans (by omega : c + 1 ≤ 10000000) Look.ten_le), gtr_f (Nat.le_trans (by omega : deep ≤ 10000000) Look.ten_le), Look.load_nd2 g2, FLk_shape hg hh, Look.load_args g2⟩ ?_
    refine ST.leave (M := M') (fun k x hx => ?_) s1
    by_cases hk : k < nx
    · rw [s2.low k hk]
      have : c + 1 + nodesL l = c + (Ex.mk o n a b l).nodes := by simp only [Ex.nodes]; omega
      rw [this]
      exact hx
    · rw [Tr.get_set_ne _ _ (by omega), hn k (by omega)] at hx
      cases hx
theorem look_ok : ∀ e : Ex, Good e → e.high ≤ 400000 → LookP e
  | .mk o n a b l, hg, hh => by
    have hh' : highL l + 1 ≤ 400000 := by simpa [Ex.high] using hh
    have hparts : ∀ x ∈ l, Good x := by cases hg; assumption
    exact look_step hg hh (look_known hparts hh' fun x hx hx2 => look_ok x (hparts x hx) hx2)
  termination_by e => SizeOf.sizeOf e
  decreasing_by exact ex_size hx _ _ _ _
#print axioms look_ok
end Go.Proofs.YtihloomkgpflmaaGreatDoor

namespace Go.Proofs.YtihloomkgpflmaaGreatDoor
open Go.Proofs.YtihloomkgpflmaaGreatDoor.Vm
namespace Ck
noncomputable abbrev MC (e : Nd) (c : Nat) : Tr Blk := mkM [(4, .cells false e.cells), (4 + 1, .cells false [i64 c])]
theorem q1 (e : Nd) (c h nx : Nat) : ends PP XX GG 14 (door PP 20 [e.val] .nil GG) [.go, .go, .go, .go, .go, .mem (.tuple ⟨[.bool false, i64 h]⟩) (MC e c) nx, .go, .go, .go, .go, .go, .go, .go, .go, .go] [2] [] = some (i64 152, mkM [], [.call 89 [e.val, i64 1, .pointer (some (⟨1280, 0, none⟩)), i64 4611686018427387903] (mkM [(4, .cells false e.cells), (5, .cells false [i64 0])]) 6 (.tuple ⟨[.bool false, i64 h]⟩) (mkM [(4, .cells false e.cells), (5, .cells false [i64 c])]) nx]) := by kernel_rfl
theorem q2 (e : Nd) (c h nx : Nat) : ends PP XX GG 17 (door PP 20 [e.val] .nil GG) [.go, .go, .go, .go, .go, .mem (.tuple ⟨[.bool true, i64 h]⟩) (MC e c) nx, .go, .go, .go, .go, .go, .go, .go, .go, .go, .val (.bool true), .go, .go, .go, .go] [2] [] = some (i64 151, mkM [], [.call 89 [e.val, i64 1, .pointer (some (⟨1280, 0, none⟩)), i64 4611686018427387903] (mkM [(4, .cells false e.cells), (5, .cells false [i64 0])]) 6 (.tuple ⟨[.bool true, i64 h]⟩) (mkM [(4, .cells false e.cells), (5, .cells false [i64 c])]) nx, .bin .gtr 3 true (i64 c) (i64 4000) (.bool true)]) := by kernel_rfl
theorem q3 (e : Nd) (c h nx : Nat) : ends PP XX GG 17 (door PP 20 [e.val] .nil GG) [.go, .go, .go, .go, .go, .mem (.tuple ⟨[.bool true, i64 h]⟩) (MC e c) nx, .go, .go, .go, .go, .go, .go, .go, .go, .go, .val (.bool false), .go, .go, .val (.bool true), .go, .go, .go] [2] [] = some (i64 151, mkM [], [.call 89 [e.val, i64 1, .pointer (some (⟨1280, 0, none⟩)), i64 4611686018427387903] (mkM [(4, .cells false e.cells), (5, .cells false [i64 0])]) 6 (.tuple ⟨[.bool true, i64 h]⟩) (mkM [(4, .cells false e.cells), (5, .cells false [i64 c])]) nx, .bin .gtr 3 true (i64 c) (i64 4000) (.bool false), .bin .gtr 3 true (i64 h) (i64 200) (.bool true)]) := by kernel_rfl
theorem q4 (e : Nd) (c h nx : Nat) : ends PP XX GG 19 (door PP 20 [e.val] .nil GG) [.go, .go, .go, .go, .go, .mem (.tuple ⟨[.bool true, i64 h]⟩) (MC e c) nx, .go, .go, .go, .go, .go, .go, .go, .go, .go, .val (.bool false), .go, .go, .val (.bool false), .go, .go, .go] [2] [] = some (i64 0, mkM [], [.call 89 [e.val, i64 1, .pointer (some (⟨1280, 0, none⟩)), i64 4611686018427387903] (mkM [(4, .cells false e.cells), (5, .cells false [i64 0])]) 6 (.tuple ⟨[.bool true, i64 h]⟩) (mkM [(4, .cells false e.cells), (5, .cells false [i64 c])]) nx, .bin .gtr 3 true (i64 c) (i64 4000) (.bool false), .bin .gtr 3 true (i64 h) (i64 200) (.bool false)]) := by kernel_rfl
end Ck
theorem mkM2_none {x y : Blk} (k : Nat) (h : 4 + 2 ≤ k) : (mkM [(4, x), (4 + 1, y)]).get k = none := by
  cases hk : (mkM [(4, x), (4 + 1, y)]).get k with
  | none => rfl
  | some b =>
    have := mkM_get _ _ _ hk
    simp only [List.mem_cons, Prod.mk.injEq, List.not_mem_nil, or_false] at this
    omega
theorem gtr_of {x y : Nat} {t : TypeId} : aBin PP .gtr t true (i64 x) (i64 y) = some (.bool (decide (y < x))) := by
  by_cases h : y < x
  · rw [decide_eq_true h]; exact gtr_t h
  · rw [decide_eq_false h]; exact gtr_f (by omega)
theorem echeck_ok {e : Ex} (hg : Good e) (hh : e.high ≤ 399999) (hn : e.nodes ≤ 9999999) : PureOk PP GG tabsD 20 [e.nd.val] (i64 e.check) := by
  refine PureOk.of' ?_ ⟨1, rfl⟩ (by kernel_rfl) ?_
  · intro x hx
    simp only [List.mem_cons, List.not_mem_nil, or_false] at hx
    subst hx; exact Ex.nl _
  · have hH : highL [e] = e.high := by simp [highL]
    have hF : (FLk [e]).Ok PP GG tabsD := look_known (fun x hx => by rw [List.mem_singleton.1 hx]; exact hg) (by rw [hH]; omega) (fun x hx hx2 => by rw [List.mem_singleton.1 hx] at hx2 ⊢; exact look_ok e hg hx2)
    have hcall : (FLk [e]).sm 89 [e.nd.val, i64 1, Look.pt (4 + 1) 0, i64 Look.most] (Ck.MC e.nd 0) (4 + 2) = some (.tuple ⟨[.bool e.look, i64 e.high]⟩, Ck.MC e.nd (0 + e.nodes), 4 + 2 + (2 * e.nodes - 1)) :=
      FLk_look.trans (Look.eS_of (List.mem_singleton.2 rfl) (by omega) (by omega) (by kernel_rfl) (by omega) (fun k hk => mkM2_none k hk))
    cases hl : e.look with
    | false =>
      rw [hl] at hcall
      have : e.check = 152 := by simp [Ex.check, hl]
      rw [this]
      exact PT.ends (envOf hF) (Ck.q1 e.nd (0 + e.nodes) e.high (4 + 2 + (2 * e.nodes - 1))) hcall .same
    | true =>
      rw [hl] at hcall
      by_cases h1 : 4000 < e.nodes
      · have : e.check = 151 := by simp [Ex.check, hl, h1]
        rw [this]
        exact PT.ends (envOf hF) (Ck.q2 e.nd (0 + e.nodes) e.high (4 + 2 + (2 * e.nodes - 1))) ⟨hcall, gtr_t (by omega)⟩ .same
      · by_cases h2 : 200 < e.high
        · have : e.check = 151 := by simp [Ex.check, hl, h2]
          rw [this]
          exact PT.ends (envOf hF) (Ck.q3 e.nd (0 + e.nodes) e.high (4 + 2 + (2 * e.nodes - 1))) ⟨hcall, gtr_f (by omega), gtr_t (by omega)⟩ .same
        · have : e.check = 0 := by simp [Ex.check, hl, h1, h2]
          rw [this]
          exact PT.ends (envOf hF) (Ck.q4 e.nd (0 + e.nodes) e.high (4 + 2 + (2 * e.nodes - 1))) ⟨hcall, gtr_f (by omega), gtr_f (by omega)⟩ .same
#print axioms echeck_ok
end Go.Proofs.YtihloomkgpflmaaGreatDoor
