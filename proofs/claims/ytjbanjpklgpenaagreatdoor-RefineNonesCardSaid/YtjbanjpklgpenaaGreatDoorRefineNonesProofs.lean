/-
  RefineNones: WHATEVER THE MACHINE's START, A CALL RETURNS TRUE AND LEAVES ALL AS IT WAS; THE ROW AND ITS CARD.
-/
import Derived.Test.YtjbanjpklgpenaaGreatDoorRefineNonesRun
import Derived.Test.YtjbanjpklgpenaaGreatDoorRefineNonesFacts
import Derived.Test.YtjbanjpklgpenaaGreatDoorRefineNonesFacts2
import Derived.Test.YtjbanjpklgpenaaGreatDoorRows
import Derived.Test.YtjbanjpklgpenaaGreatDoorCards
import Derived.Test.YtjbanjpklgpenaaGreatDoorTie
import Derived.ChangeSame
import Derived.ChangeVars
import Derived.JoinedOf
import Derived.RowKit
import Derived.RowKitTokens
import Derived.LaidLaws
import Derived.Stop.Joined
import Derived.Carry
import Derived.SevenTiedAt
namespace Go.Proofs.YtjbanjpklgpenaaGreatDoor
open Go.ChangeShapes Go.WideShapes Go.RowKit Vm

theorem soft_laidOut : laidOutB Tryz.prog = true := by kernel_rfl
theorem soft_own : ownKnob Tryz.prog.godebug = none := by kernel_rfl
theorem soft_mixed : Tryz.prog.follows .mixedOrders = true := by kernel_rfl
theorem soft_F : FOk Tryz.prog := FOk_of (by kernel_rfl)
theorem soft_X (w0 : World) : XOk Tryz.prog 4 w0 soft_ext := (XOk.know soft_mixed (XOk.know soft_mixed ((X0_ok.add (subX_ok fun args w => run_callFunc_extern Tryz.func227 (by kernel_rfl) (by kernel_rfl) (by kernel_rfl) (e := sub64E) (by kernel_rfl) args w)).add (addX_ok fun args w => run_callFunc_extern Tryz.func226 (by kernel_rfl) (by kernel_rfl) (by kernel_rfl) (e := add64E) (by kernel_rfl) args w)) ((X0_ok.add (subX_ok fun args w => run_callFunc_extern Tryz.func227 (by kernel_rfl) (by kernel_rfl) (by kernel_rfl) (e := sub64E) (by kernel_rfl) args w)).add (addX_ok fun args w => run_callFunc_extern Tryz.func226 (by kernel_rfl) (by kernel_rfl) (by kernel_rfl) (e := add64E) (by kernel_rfl) args w)) soft_F s1_ran) (XOk.know soft_mixed ((X0_ok.add (subX_ok fun args w => run_callFunc_extern Tryz.func227 (by kernel_rfl) (by kernel_rfl) (by kernel_rfl) (e := sub64E) (by kernel_rfl) args w)).add (addX_ok fun args w => run_callFunc_extern Tryz.func226 (by kernel_rfl) (by kernel_rfl) (by kernel_rfl) (e := add64E) (by kernel_rfl) args w)) ((X0_ok.add (subX_ok fun args w => run_callFunc_extern Tryz.func227 (by kernel_rfl) (by kernel_rfl) (by kernel_rfl) (e := sub64E) (by kernel_rfl) args w)).add (addX_ok fun args w => run_callFunc_extern Tryz.func226 (by kernel_rfl) (by kernel_rfl) (by kernel_rfl) (e := add64E) (by kernel_rfl) args w)) soft_F s1_ran) soft_F s2_ran)

/-- What the row's condition gives a walk. -/
theorem soft_laid {W : World} (h : laidMetH Tryz.prog Rows.refineNonesRow.laid W) : Laid 4 tabs W := by
  have h' : laidMet Tryz.prog [("math/bits.deBruijn64tab", Rows.laid_math_bits_deBruijn64tab), ("surd/expr.rows", Rows.laid_surd_expr_rows)] W := h
  obtain ⟨ps, h1, _, h3⟩ := h'
  have hp : ∀ b off, MemPlace.cell b off ∈ ps → ∃ c t, W.heap[b]? = some (.cells c t (0, 0)) := fun b off hb => (h3 b off hb).1
  intro n vs hm
  unfold tabs at hm
  rcases List.mem_cons.1 hm with e | hm
  · injection e with e1 e2
    subst e1; subst e2
    refine ⟨by omega, by kernel_rfl, ?_⟩
    exact laid_cells (f := 5) (P := Tryz.prog) (n := "math/bits.deBruijn64tab") (d := Rows.laid_math_bits_deBruijn64tab) (t := 208) (by kernel_rfl) (by kernel_rfl) (by kernel_rfl) (by unfold bruijnCells; simp) (by simp) h1 hp
  · have e := List.mem_singleton.1 hm
    injection e with e1 e2
    subst e1; subst e2
    refine ⟨by omega, by kernel_rfl, ?_⟩
    exact laid_cells (f := 5) (P := Tryz.prog) (n := "surd/expr.rows") (d := Rows.laid_surd_expr_rows) (t := 172) (by kernel_rfl) (by kernel_rfl) (by kernel_rfl) (by unfold rowsCells; simp) (by simp) h1 hp

theorem soft_any (v : Value) (W : World) (h : laidMetH Tryz.prog Rows.refineNonesRow.laid W) :
    Calls Tryz.prog 3 #[v] W fun e W' => e = .returned (.bool true) ∧ W'.os = W.os ∧ W'.output = W.output ∧ W.heap.size ≤ W'.heap.size ∧ (∀ i, i < W.heap.size → W'.heap[i]? = W.heap[i]?) ∧ W'.tape = W.tape :=
  call_of_run_any soft_mixed soft_X soft_F (ranR_eq soft_ran) (soft_laid h) (by rw [Tryz.func3]; intro fn e; cases e; exact of_decide_eq_true (by kernel_rfl))

/-- A world that meets the condition: the settled one, the two tables laid. -/
noncomputable def laidWorld (os : Os) : World :=
  let w0 := World.holding Tryz.prog os ⟨#[], #[], []⟩
  { w0 with heap := ((w0.heap.modify 1 fun
      | .cells _ t frozen => .cells bruijnCells.toArray t frozen
      | o => o).modify 0 fun
      | .cells _ t frozen => .cells rowsCells.toArray t frozen
      | o => o) }
theorem laidWorld_met (os : Os) (args : Array Value) : laidMetH Tryz.prog Rows.refineNonesRow.laid ((laidWorld os).forCall (fun _ _ => 0) ⟨#[], args, []⟩).memory :=
  laidMet_of_run' 5 (by kernel_rfl) (by kernel_rfl)

set_option maxRecDepth 100000 in
theorem soft_lifted (os : Os) (started : os.Started) (H : Type) (enc : TypeId × Value → H) :
    ReturnsInHanded {} Tryz.checked os 3 .any (fun w args => (Rows.refineNonesSpec.pre enc Tryz.prog Tryz.f3 [] false w args ∧ laidMetH Tryz.prog Rows.refineNonesRow.laid w) ∧ sizedMet enc Tryz.prog Tryz.f3 (OpenSpec.ofChange Rows.refineNonesSpec) false w args)
      (Rows.refineNonesSpec.post enc Tryz.prog Tryz.f3 false true false false) := by
  refine returnsInHanded_of_change_and (C := Tryz.checked) (X := fun w _ => laidMetH Tryz.prog Rows.refineNonesRow.laid w) (fun _ _ _ hh h => h.of_heap hh) soft_own started (by kernel_rfl) Tryz.func3
    (ChangeSpec.witness_at (enc := enc) (C := Tryz.checked) (os := os) (X := fun w _ => laidMetH Tryz.prog Rows.refineNonesRow.laid w) false (laidWorld os) #[.agg #[.int .i64 0, .bool false, .slice none 0 0, .slice none 0 0, .slice none 0 0]] 8 rfl (by kernel_rfl) (by kernel_rfl) (by kernel_rfl) (by kernel_rfl) (by kernel_rfl) (laidWorld_met os _)) ?_
  intro W base args ds gs before hval0 hW _ _ hL _
  have hW' := hW
  obtain ⟨p, q, hA0, hV0, rfl, hfz, hnd⟩ := hW
  have hA : DataW.TrodAll enc Tryz.prog W 0 (fun _ => true) true Tryz.f3.params.toList args.toList ds p := hA0
  have hV : DataW.TrodVars enc Tryz.prog W (fun _ => true) [] gs q := hV0
  rw [Tryz.params3] at hA
  obtain ⟨v0, d0, rfl, rfl, h0⟩ := trodAll_one hA
  clear hA0 hval0 hA
  obtain ⟨rfl, rfl⟩ : gs = [] ∧ q = [] := by
    cases gs with
    | nil => exact ⟨rfl, hV⟩
    | cons g r => exact absurd hV (by intro h; cases h)
  simp only [List.append_nil] at hW'
  have hlt : ∀ x ∈ p, x.block < W.heap.size := fun x hx => by simpa using hW'.lt x hx
  have e1 : Rows.refineNonesSpec.fn H ([d0] ++ []) = { results := [.lit (.bool true)], args := [d0] } := by simp [Rows.refineNonesSpec]
  refine (soft_any v0 W hL).mono fun e W' ⟨he, h1, h2, h3, h4, h5⟩ => ?_
  subst he
  refine ⟨_, rfl, [d0], [], _, [], p, [], hW', ?_, ?_, ?_, kept_of_old h1 h2 h4 _, fun h => by cases h⟩
  · rw [e1]; exact trodAll_mk1 (shut_bool Tryz.underlying4 true)
  · rw [e1, Tryz.params3]; exact trodAll_mk1 (Below.trod (P := Tryz.prog) (t := 31) soft_laidOut (by kernel_rfl) (of_decide_eq_true (by kernel_rfl)) h0 ⟨h1, h5, h2, h3, h4⟩ hlt)
  · rw [e1]; rfl

theorem soft_holds : Rows.RefineNonesSaid :=
  OpenClaim.holds_of_wide 3 Tryz.f3 rfl rfl rfl rfl rfl rfl rfl ⟨rfl, rfl, rfl, rfl, rfl⟩ rfl rfl rfl rfl rfl (by kernel_rfl) Tryz.func3 Facts.all
    (of_decide_eq_true (by kernel_rfl)) (by unfold Func.isWrapper; rw [if_neg (of_decide_eq_false (by kernel_rfl))]; exact ⟨rfl, rfl⟩)
    (fun os started H enc _ => soft_lifted os started H enc)

theorem soft_stand : Tryz.pinned.checked.prog.wantsStandIn 31 = false := by kernel_rfl
theorem soft_card : Rows.RefineNonesCardSaid :=
  Claim7.holds_tied_plain_at .later [] [.data, .data] true (true, "7fdfa4256c28e1adbef3a57cdc5f446db6bd8a658007e01d53afccf1e1c46100") true
    soft_holds (fun _ h => by cases h) Facts.k0 (fun _ h => by cases h) refineNones_row_tie rfl ⟨rfl, rfl⟩ Facts.k1 rfl
    (fun f fn hf hfn => by
      obtain rfl : f = 3 := Option.some.inj (Facts.k4.symm.trans hf) |>.symm
      obtain rfl : fn = Tryz.f3 := (Option.some.inj (Tryz.func3.symm.trans hfn)).symm
      exact ⟨Facts.k2, fun j t ht => by
        rw [Tryz.params3] at ht
        match j, ht with
        | 0, ht =>
          have e : t = 31 := by simpa using ht.symm
          rw [e]; exact soft_stand
        | j + 1, ht => simp at ht⟩)
    Facts.k3
#print axioms soft_card
end Go.Proofs.YtjbanjpklgpenaaGreatDoor
