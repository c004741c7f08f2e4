/-
  DiffLaws: WHATEVER THE MACHINE's START AND THE ARGUMENTS, A CALL RETURNS TRUE AND LEAVES ALL AS IT WAS; THE ROW AND ITS CARD (second form).
-/
import Derived.Test.YtihloomkgpflmaaGreatDoorW13
import Derived.Test.YtihloomkgpflmaaGreatDoorDlFacts
import Derived.Test.YtihloomkgpflmaaGreatDoorDlFacts2
import Derived.Test.YtihloomkgpflmaaGreatDoorRows
import Derived.Test.YtihloomkgpflmaaGreatDoorCards
import Derived.Test.YtihloomkgpflmaaGreatDoorTie
import Derived.ChangeSame
import Derived.ChangeVars
import Derived.JoinedOf
import Derived.RowKit
import Derived.RowKitTokens
import Derived.LaidLaws
import Derived.Stop.Joined
import Derived.SevenTiedAt
import Derived.Carry
import Derived.JoinedCond
import Derived.Deep.DeepHandedRow
set_option linter.unusedSimpArgs false
set_option linter.unusedVariables false
namespace Go.Proofs.YtihloomkgpflmaaGreatDoor
open Go.ChangeShapes Go.WideShapes Go.RowKit Go.Proofs.YtihloomkgpflmaaGreatDoor.Vm
theorem soft_own : ownKnob Tryz.prog.godebug = none := by kernel_rfl
theorem soft_laidOut : laidOutB Tryz.prog = true := by kernel_rfl
/-- What the row's condition gives a walk. -/
theorem soft_laid {W : World} (h : laidMetH Tryz.prog Rows.diffLawsUptoRow.laid W) : Laid GG tabsD W := by
  have h' : laidMet Tryz.prog [("math/bits.deBruijn64tab", Rows.laid_math_bits_deBruijn64tab), ("surd/expr.rows", Rows.laid_surd_expr_rows)] W := h
  obtain ⟨ps, h1, _, h3⟩ := h'
  have hp : ∀ b off, MemPlace.cell b off ∈ ps → ∃ c t, W.heap[b]? = some (.cells c t (0, 0)) := fun b off hb => (h3 b off hb).1
  intro n vs hm
  unfold tabsD at hm
  rcases List.mem_cons.1 hm with e | hm
  · injection e with e1 e2
    subst e1; subst e2
    refine ⟨by decide, by kernel_rfl, ?_⟩
    exact laid_cells (f := 5) (P := Tryz.prog) (n := "surd/expr.rows") (d := Rows.laid_surd_expr_rows) (t := 114) (by kernel_rfl) (by kernel_rfl) (by kernel_rfl) (by unfold rowsCells; simp) (by simp) h1 hp
  · have e := List.mem_singleton.1 hm
    injection e with e1 e2
    subst e1; subst e2
    refine ⟨by decide, by kernel_rfl, ?_⟩
    exact laid_cells (f := 5) (P := Tryz.prog) (n := "math/bits.deBruijn64tab") (d := Rows.laid_math_bits_deBruijn64tab) (t := 301) (by kernel_rfl) (by kernel_rfl) (by kernel_rfl) (by unfold bruijnCells; simp) (by simp) h1 hp
set_option maxRecDepth 100000 in
/-- An argument that is a tree, as it is read. -/
theorem arg_ex {H : Type} {enc : TypeId × Value → H} {W : World} {base : Nat} {v : Value} {d : DataW H} {p : List MemPlace} (hv : Value.okWide Tryz.prog W .any base 31 v) (h : DataW.Trod enc Tryz.prog W 0 (fun _ => true) true 31 v d p) (hb : Rows.uptoBulk d ≤ 1048576) :
    ∃ e : Ex, VR (iotaZ GG (cellsW W)) e.nd.val v ∧ Read e := by
  unfold Value.okWide at hv
  rw [show Tryz.prog.underlying 31 = _ from Rd.t31] at hv
  obtain ⟨cs, rfl, _, _⟩ := hv
  obtain ⟨fuel, hf⟩ := h
  obtain ⟨e, h1, h2⟩ := Rd.ex_ok fuel (x := (d, p)) hf hb
  exact ⟨e, .agg h1, h2⟩
/-- A world that meets the condition: the settled one, the two tables laid. -/
noncomputable def laidWorld (os : Os) : World :=
  let w0 := World.holding Tryz.prog os ⟨#[], #[], []⟩
  { w0 with heap := ((w0.heap.modify 1 fun
      | .cells _ t frozen => .cells bruijnCells.toArray t frozen
      | o => o).modify 0 fun
      | .cells _ t frozen => .cells rowsCells.toArray t frozen
      | o => o) }
noncomputable abbrev wArgs : Array Value := #[.int .i64 0, .agg #[.int .i64 0, .bool false, .slice none 0 0, .slice none 0 0, .slice none 0 0], .agg #[.int .i64 0, .bool false, .slice none 0 0, .slice none 0 0, .slice none 0 0]]
theorem laidWorld_met (os : Os) (args : Array Value) : laidMetH Tryz.prog Rows.diffLawsUptoRow.laid ((laidWorld os).forCall (fun _ _ => 0) ⟨#[], args, []⟩).memory :=
  laidMet_of_run' 5 (by kernel_rfl) (by kernel_rfl)
def zeroD {H : Type} : DataW H := .agg [.lit (.int .i64 0), .agg [.agg [.lit (.bool false), .nil], .nil], .nil]
theorem reads (os : Os) {H : Type} (enc : TypeId × Value → H) : DataW.whole enc Tryz.prog ((laidWorld os).forCall (fun _ _ => 0) ⟨#[], wArgs, []⟩).memory Tryz.f3.params.toList Rows.diffLawsSpec.vars false wArgs.toList 8 = some ([.lit (.int .i64 0), zeroD, zeroD], [], []) := by kernel_rfl
set_option maxRecDepth 100000 in
/-- WHAT IS SHOWN, FOR EVERY ARGUMENT AND EVERY WORLD THAT HOLDS THE TABLES. -/
theorem contract (H : Type) (enc : TypeId × Value → H) (W : World) (base : Nat) (args : Array Value) (ds gs : List (DataW H)) (before : List MemPlace)
    (hval0 : ∀ (j : Nat) t v, Tryz.f3.params[j]? = some t → args[j]? = some v → Value.okWide Tryz.prog W .any base t v)
    (hW : DataW.Whole enc Tryz.prog Tryz.f3.params.toList Rows.diffLawsSpec.vars false W args.toList ds gs before) (hL : laidMetH Tryz.prog Rows.diffLawsUptoRow.laid W) (hk : Rows.uptoSmall H (ds ++ gs) = true) :
    Calls Tryz.prog 3 args W fun e W' => ∃ v, e = .returned v ∧ Rows.diffLawsSpec.post enc Tryz.prog Tryz.f3 false true false false W args v W' := by
  have hW' := hW
  obtain ⟨p, q, hA0, hV0, rfl, hfz, hnd⟩ := hW
  have hA : DataW.TrodAll enc Tryz.prog W 0 (fun _ => true) true Tryz.f3.params.toList args.toList ds p := hA0
  have hV : DataW.TrodVars enc Tryz.prog W (fun _ => true) [] gs q := hV0
  rw [Tryz.params3] at hA hval0
  obtain ⟨v0, v1, v2, d0, d1, d2, p0, p1, p2, rfl, rfl, rfl, h0, h1, h2⟩ := trodAll_three hA
  obtain ⟨rfl, rfl⟩ : gs = [] ∧ q = [] := by
    cases gs with
    | nil => exact ⟨rfl, hV⟩
    | cons g r => exact absurd hV (by intro h; cases h)
  simp only [List.append_nil] at hW'
  have hbk : Rows.uptoBulkAll ([d0, d1, d2] ++ ([] : List (DataW H))) ≤ 1048576 := of_decide_eq_true hk
  simp only [List.append_nil, Rows.uptoBulkAll] at hbk
  have hv0 : Value.okWide Tryz.prog W .any base 3 v0 := hval0 0 3 v0 rfl rfl
  have hv1 : Value.okWide Tryz.prog W .any base 31 v1 := hval0 1 31 v1 rfl rfl
  have hv2 : Value.okWide Tryz.prog W .any base 31 v2 := hval0 2 31 v2 rfl rfl
  have hu : Tryz.prog.underlying 3 = some (.int .i64) := Rd.t3
  obtain ⟨i, rfl, rfl, rfl, hwf⟩ := open_int hu hv0 h0
  obtain ⟨a, va, ra⟩ := arg_ex hv1 h1 (by omega)
  obtain ⟨b, vb, rb⟩ := arg_ex hv2 h2 (by omega)
  have hlt : ∀ x ∈ ([] ++ p1 ++ p2 : List MemPlace), x.block < W.heap.size := fun x hx => by simpa using hW'.lt x hx
  have e1 : Rows.diffLawsSpec.fn H ([.lit (.int .i64 i), d1, d2] ++ []) = { results := [.lit (.bool true)], args := [.lit (.int .i64 i), d1, d2] } := by simp [Rows.diffLawsSpec]
  have pure := difflaws_ok (i := i) (Read.thin a ra) (Read.thin b rb) (fun h => Read.good a ra (by omega)) (fun h => Read.good b rb (by omega)) (Ex.nl a) (Ex.nl b)
  refine (call_of_pure pure (soft_laid hL) (bs := #[.int .i64 i, v1, v2]) (.cons (.int _ _) (.cons va (.cons vb .nil)))).mono fun e W' ⟨he, g1, g2, g3, g4, g5⟩ => ?_
  subst he
  have below : Below W.heap.size W W' := ⟨g1, g5, g2, g3, g4⟩
  refine ⟨_, rfl, [.lit (.int .i64 i), d1, d2], [], _, [], [] ++ (p1 ++ p2), [], hW', ?_, ?_, ?_, kept_of_old g1 g2 g4 _, fun h => by cases h⟩
  · rw [e1]; exact trodAll_mk1 (shut_bool Tryz.underlying4 true)
  · rw [e1, Tryz.params3]
    exact trodAll_mk3 (Below.trod (P := Tryz.prog) (t := 3) soft_laidOut (by kernel_rfl) (of_decide_eq_true (by kernel_rfl)) h0 below (fun x hx => (by cases hx)))
      (Below.trod (P := Tryz.prog) (t := 31) soft_laidOut (by kernel_rfl) (of_decide_eq_true (by kernel_rfl)) h1 below (fun x hx => hlt x (by simp [hx])))
      (Below.trod (P := Tryz.prog) (t := 31) soft_laidOut (by kernel_rfl) (of_decide_eq_true (by kernel_rfl)) h2 below (fun x hx => hlt x (by simp [hx])))
  · rw [e1]; rfl
set_option maxRecDepth 100000 in
theorem liftedUpto (os : Os) (started : os.Started) (H : Type) (enc : TypeId × Value → H) (F : Stop.Interp) :
    ReturnsInHanded {} Tryz.checked os 3 .any ((Rows.OpenSpec.upto Rows.diffLawsSpec).preRow enc Tryz.prog Tryz.f3 Rows.diffLawsUptoRow.domain false Rows.diffLawsUptoRow.laid) (((Rows.OpenSpec.upto Rows.diffLawsSpec).at F).post enc Tryz.prog Tryz.f3 false true false false) := by
  refine returnsInHanded_of_row (C := Tryz.checked) (s := Rows.OpenSpec.upto Rows.diffLawsSpec) soft_own started (by kernel_rfl) Tryz.func3
    (witness_row_at (enc := enc) (C := Tryz.checked) false (laidWorld os) wArgs rfl (by kernel_rfl) (by kernel_rfl) (by kernel_rfl)
      (OpenSpec.preRow_of_cond 8 (reads os enc) (by kernel_rfl) (fun k hk => by cases hk; kernel_rfl) (by kernel_rfl) (laidWorld_met os _))) ?_
  intro W base args ds gs before hval hW _ hcond _ hL _ _
  exact contract H enc W base args ds gs before hval hW hL (hcond _ rfl)
theorem saidUpto : Rows.DiffLawsUptoSaid :=
  OpenClaim.holds_of_cond 3 Tryz.f3 rfl rfl rfl rfl rfl rfl rfl ⟨rfl, rfl, rfl, rfl, rfl⟩ rfl rfl rfl rfl rfl (by kernel_rfl) Tryz.func3 Facts.all
    (of_decide_eq_true (by kernel_rfl)) (by unfold Func.isWrapper; rw [if_neg (of_decide_eq_false (by kernel_rfl))]; exact ⟨rfl, rfl⟩)
    (fun os started H enc _ F => by rw [OpenClaim.pre_eq_preRow]; exact liftedUpto os started H enc F)
theorem stand31 : Tryz.pinned.checked.prog.wantsStandIn 31 = false := by kernel_rfl
theorem stand3 : Tryz.pinned.checked.prog.wantsStandIn 3 = false := by kernel_rfl
theorem soft_card : Rows.DiffLawsUptoCardSaid :=
  Claim7.holds_tied_plain_at .later [] [.data, .data] true (true, "3c904584a8d475b515600ea7589bb77a13a852ba7dcbd9bd1d99317cc4af1edd") true
    saidUpto (fun _ h => by cases h) Facts.k0 (fun _ h => by cases h) diffLawsUpto_row_tie rfl ⟨rfl, rfl⟩ Facts.k1 rfl
    (fun f fn hf hfn => by
      obtain rfl : f = 3 := Option.some.inj (Facts.k4.symm.trans hf) |>.symm
      obtain rfl : fn = Tryz.f3 := (Option.some.inj (Tryz.func3.symm.trans hfn)).symm
      exact ⟨Facts.k2, fun j t ht => by
        rw [Tryz.params3] at ht
        match j, ht with
        | 0, ht =>
          have e : t = 3 := by simpa using ht.symm
          rw [e]; exact stand3
        | 1, ht =>
          have e : t = 31 := by simpa using ht.symm
          rw [e]; exact stand31
        | 2, ht =>
          have e : t = 31 := by simpa using ht.symm
          rw [e]; exact stand31
        | j + 3, ht => simp at ht⟩)
    Facts.k3
#print axioms soft_card
end Go.Proofs.YtihloomkgpflmaaGreatDoor
