/-
  THE BUILDERS OF TREES, the references' and the program's.
  THE TABLES THAT THE ROW OF DiffLaws LAYS.
  awake, the document's example: it answers true.
  What the laws' texts need: pi, the blocks behind the door.
-/
import Derived.Test.YtihloomkgpflmaaGreatDoorW4
import Derived.Test.YtihloomkgpflmaaGreatDoorV10
import Derived.Test.YtihloomkgpflmaaGreatDoorProg
import Derived.KernelRfl
set_option linter.unusedSimpArgs false
set_option linter.unusedVariables false
namespace Go.Proofs.YtihloomkgpflmaaGreatDoor
open Go.Proofs.YtihloomkgpflmaaGreatDoor.Vm
variable {tabs : List (Nat × List Value)}
theorem pure_run {f : FuncId} {aa : List Value} {v : Value} {n : Nat} (hna : ∀ x ∈ aa, Nl x) (hv : Nl v) (hfr : enterFr PP f aa false .run (Mof tabs) GG = some { door PP f aa .nil GG with M := Mof tabs }) (hdk : (door PP f aa .nil GG).dk = false) (hrnd : (door PP f aa .nil GG).rnd = none)
    (h : (vrun PP XX GG n (door PP f aa .nil GG)).map (fun r => match r with
      | .ret v0 .run M _ => some (frzV 12 M v0)
      | _ => none) = some (some v)) : PureOk PP GG tabs f aa v := by
  refine PureOk.of' hna hv hfr ?_
  cases hr : vrun PP XX GG n (door PP f aa .nil GG) with
  | none => rw [hr] at h; cases h
  | some r =>
    rw [hr] at h
    simp only [Option.map_some, Option.some.injEq] at h
    split at h
    · rename_i v0 M nx
      simp only [Option.some.injEq] at h
      subst h
      refine PT.done (up := .run) (M := M) (nx := nx) (fun w0 hl => ?_) hdk hrnd (frz_of M .nil 12 v0 hv (fun n _ x vs _ _ _ x2 h2 => by simp [Tr.get_nil] at h2))
      have hx : XOk PP GG w0 XX := X0_ok
      exact vrun_sound hx fok (draws mixed hx fok) n _ _ hr
    · cases h
theorem frz_er (M : Tr Blk) (n : Nat) (l : List Er) : (erL l).map (frzV n M) = erL l := by
  induction l with
  | nil => rfl
  | cons a l ih => simp only [erL, List.map_append, ih, Rd.cells, List.map_cons, List.map_nil, frz_int, frz_bool, frz_dat]
theorem offs_er (M : Tr Blk) (n : Nat) (l : List Er) : (erL l).flatMap (offs n M) = [] := by
  induction l with
  | nil => rfl
  | cons a l ih => simp [erL, ih, Rd.cells, offs_int, offs_bool, offs_dat]
theorem frz_ex (M : Tr Blk) (n : Nat) (l : List Ex) : (exL l).map (frzV n M) = exL l := by
  induction l with
  | nil => rfl
  | cons a l ih => simp only [exL, List.map_append, ih, Nd.cells, List.map_cons, List.map_nil, frz_int, frz_bool, frz_dat]
theorem offs_ex (M : Tr Blk) (n : Nat) (l : List Ex) : (exL l).flatMap (offs n M) = [] := by
  induction l with
  | nil => rfl
  | cons a l ih => simp [exL, ih, Nd.cells, offs_int, offs_bool, offs_dat]
theorem frz_rowV {M : Tr Blk} {x n c : Nat} {vs : List Value} (hm : M.get (x / 256) = some (.cells false vs)) (hc : n ≤ c) (h : vs.map (frzV 11 M) = vs) : frzV 12 M (.slice (some ⟨x, 0, none⟩) n c) = mkDat n vs := by
  have h1 : Nat.ble n c = true := by rw [Nat.ble_eq]; exact hc
  unfold frzV
  simp only [hm, Blk.mine, Blk.vals, h1, Bool.not_false, Bool.and_self, List.drop_zero]
  rw [h]
theorem offs_rowV {M : Tr Blk} {x n c : Nat} {vs : List Value} (hm : M.get (x / 256) = some (.cells false vs)) (h : vs.flatMap (offs 11 M) = []) : offs 12 M (.slice (some ⟨x, 0, none⟩) n c) = [x / 256] := by
  unfold offs
  simp only [hm, Blk.vals, List.drop_zero]
  rw [h]
/-- A known function of a number and a row of the call's own. -/
theorem sm_row {F : Known} {f : FuncId} {M M' : Tr Blk} {x n c nx : Nat} {vs : List Value} {z : Int} {v : Value} (hm : M.get (x / 256) = some (.cells false vs)) (hc : n ≤ c) (h1 : vs.map (frzV 11 M) = vs) (h2 : vs.flatMap (offs 11 M) = []) (hF : F f [.int .i64 z, mkDat n vs] = some v) (hM : M.set (x / 256) (.frz vs) = M') :
    F.sm f [.int .i64 z, .slice (some ⟨x, 0, none⟩) n c] M nx = some (v, M', nx) := by
  simp only [Known.sm, List.map_cons, List.map_nil, frz_int, frz_rowV hm hc h1, hF, List.flatMap_cons, List.flatMap_nil, offs_int, offs_rowV hm h2, List.append_nil, List.nil_append, offM, hm, Blk.fzn, hM]
theorem row_inj : ∀ x y : Int × List Er, [Value.int .i64 x.1, mkDat x.2.length (erL x.2)] = [Value.int .i64 y.1, mkDat y.2.length (erL y.2)] → x = y := by
  rintro ⟨o, l⟩ ⟨o', l'⟩ h
  simp only [List.cons.injEq, Value.int.injEq, true_and, and_true] at h
  obtain ⟨h1, h5⟩ := h
  injection h5 with h6 h7 h8
  injection h6 with h6
  simp only [Array.mk.injEq, List.cons.injEq, Value.agg.injEq, and_true] at h7
  rw [h1, erL_inj l l' h6 h7]
theorem xow_inj : ∀ x y : Int × List Ex, [Value.int .i64 x.1, mkDat x.2.length (exL x.2)] = [Value.int .i64 y.1, mkDat y.2.length (exL y.2)] → x = y := by
  rintro ⟨o, l⟩ ⟨o', l'⟩ h
  simp only [List.cons.injEq, Value.int.injEq, true_and, and_true] at h
  obtain ⟨h1, h5⟩ := h
  injection h5 with h6 h7 h8
  injection h6 with h6
  simp only [Array.mk.injEq, List.cons.injEq, Value.agg.injEq, and_true] at h7
  rw [h1, exL_inj l l' h6 h7]
theorem er_inj2 : ∀ x y : Er × Er, [x.1.nd.val, x.2.nd.val] = [y.1.nd.val, y.2.nd.val] → x = y := by
  rintro ⟨a, b⟩ ⟨c, d⟩ h
  simp only [List.cons.injEq, and_true] at h
  rw [Er.inj a c h.1, Er.inj b d h.2]
theorem ex_inj2 : ∀ x y : Ex × Ex, [x.1.nd.val, x.2.nd.val] = [y.1.nd.val, y.2.nd.val] → x = y := by
  rintro ⟨a, b⟩ ⟨c, d⟩ h
  simp only [List.cons.injEq, and_true] at h
  rw [Ex.inj a c h.1, Ex.inj b d h.2]
theorem er_call2 {F : Known} {f : FuncId} {a b : Er} {v : Value} (h : F f [a.nd.val, b.nd.val] = some v) {M : Tr Blk} {nx : Nat} : F.sm f [a.nd.val, b.nd.val] M nx = some (v, M, nx) := pureCall (by simp [frz_Rd]) (by simp [offs_Rd]) h
theorem ex_call2 {F : Known} {f : FuncId} {a b : Ex} {v : Value} (h : F f [a.nd.val, b.nd.val] = some v) {M : Tr Blk} {nx : Nat} : F.sm f [a.nd.val, b.nd.val] M nx = some (v, M, nx) := pureCall (by simp [frz_Nd]) (by simp [offs_Nd]) h
abbrev Er.un (o : Int) (a : Er) : Er := .mk o false [] [] false [a]
abbrev Er.bin (o : Int) (a b : Er) : Er := .mk o false [] [] false [a, b]
abbrev Er.num (k : Nat) : Er := .mk 0 false [k] [1] false []
abbrev Ex.un (o : Int) (a : Ex) : Ex := .mk o false [] [] [a]
abbrev Ex.bin (o : Int) (a b : Ex) : Ex := .mk o false [] [] [a, b]
abbrev Ex.num (k : Nat) : Ex := .mk 0 false [k] [1] []
abbrev Er.pi : Er := .mk 1 false [] [] false []
abbrev Ex.pi : Ex := .mk 1 false [] [] []
namespace BR
theorem n_w (o : Int) (k : Nat) (cs : List Value) : ends PP XX GG 5 (door PP 27 [.int .i64 o, mkDat k cs] .nil GG) [] [4] [4] = some (.agg ⟨[.int .i64 o, .bool false, .slice none 0 0, .slice none 0 0, .bool false, mkDat k cs]⟩, mkM [(4, .cells false [.int .i64 o, .bool false, .slice none 0 0, .slice none 0 0, .bool false, mkDat k cs])], []) := by kernel_rfl
theorem n_ok (o : Int) (l : List Er) : PureOk PP GG tabs 27 [.int .i64 o, mkDat l.length (erL l)] (Er.mk o false [] [] false l).nd.val := by
  refine PureOk.of' ?_ (Er.nl _) (by kernel_rfl) ?_
  · intro x hx
    simp only [List.mem_cons, List.not_mem_nil, or_false] at hx
    rcases hx with rfl | rfl
    · exact nl_int
    · exact nl_Er l _
  · exact PT.ends (envOf Known.none_ok) (n_w o l.length (erL l)) trivial (.agg (.cons .same (.cons .same (.cons .nil (.cons .nil (.cons .same (.cons .same .nil)))))))
noncomputable def F0 : Known := Known.none.add 27 (eI (fun x : Int × List Er => [.int .i64 x.1, mkDat x.2.length (erL x.2)]) (fun _ => True) fun x => (Er.mk x.1 false [] [] false x.2).nd.val)
theorem F0_ok : F0.Ok PP GG tabs := Known.add_ok Known.none_ok (eI_ok fun x _ => n_ok x.1 x.2)
theorem F0_n (o : Int) (l : List Er) : F0 27 [.int .i64 o, mkDat l.length (erL l)] = some (Er.mk o false [] [] false l).nd.val := add_same.trans (eI_of (x := (o, l)) row_inj trivial)
noncomputable abbrev MU (a : Rd) : Tr Blk := mkM [(4, .cells false a.cells), (4 + 1, .cells false [i64 0, .bool false, .slice none 0 0, .slice none 0 0, .bool false, .slice none 0 0]), (4 + 2, .frz a.cells)]
noncomputable abbrev MA (a b : Rd) : Tr Blk := mkM [(4, .cells false a.cells), (4 + 1, .cells false b.cells), (4 + 2, .cells false [i64 0, .bool false, .slice none 0 0, .slice none 0 0, .bool false, .slice none 0 0]), (4 + 3, .frz (a.cells ++ b.cells))]
theorem neg_w (a v : Rd) : ends PP XX GG 5 (door PP 38 [a.val] .nil GG) [.go, .go, .go, .go, .mem v.val (MU a) (4 + 3), .go] [2] [4 + 1] = some (v.val, mkM [(4 + 1, .cells false v.cells)], [.call 27 [i64 2, .slice (some (⟨1536, 0, none⟩)) 1 1] (mkM [(4, .cells false [.int .i64 a.op, .bool a.neg, natV a.nn, natV a.dd, .bool a.bad, mkDat a.n a.cs]), (5, .cells false [i64 0, .bool false, .slice none 0 0, .slice none 0 0, .bool false, .slice none 0 0]), (6, .cells false [.int .i64 a.op, .bool a.neg, natV a.nn, natV a.dd, .bool a.bad, mkDat a.n a.cs])]) 7 (.agg ⟨[.int .i64 v.op, .bool v.neg, natV v.nn, natV v.dd, .bool v.bad, mkDat v.n v.cs]⟩) (mkM [(4, .cells false [.int .i64 a.op, .bool a.neg, natV a.nn, natV a.dd, .bool a.bad, mkDat a.n a.cs]), (5, .cells false [i64 0, .bool false, .slice none 0 0, .slice none 0 0, .bool false, .slice none 0 0]), (6, .frz [.int .i64 a.op, .bool a.neg, natV a.nn, natV a.dd, .bool a.bad, mkDat a.n a.cs])]) 7]) := by kernel_rfl
theorem neg_ok (a : Er) : PureOk PP GG tabs 38 [a.nd.val] (Er.un 2 a).nd.val := by
  refine PureOk.of' ?_ (Er.nl _) (by kernel_rfl) ?_
  · intro x hx
    simp only [List.mem_cons, List.not_mem_nil, or_false] at hx
    subst hx
    exact Er.nl _
  · exact PT.ends (envOf F0_ok) (neg_w a.nd (Er.un 2 a).nd) (sm_row (vs := erL [a]) (by rfl) (Nat.le_refl _) (frz_er _ _ _) (offs_er _ _ _) (F0_n 2 [a]) (by rfl)) .same
theorem abs_w (a v : Rd) : ends PP XX GG 5 (door PP 37 [a.val] .nil GG) [.go, .go, .go, .go, .mem v.val (MU a) (4 + 3), .go] [2] [4 + 1] = some (v.val, mkM [(4 + 1, .cells false v.cells)], [.call 27 [i64 7, .slice (some (⟨1536, 0, none⟩)) 1 1] (mkM [(4, .cells false [.int .i64 a.op, .bool a.neg, natV a.nn, natV a.dd, .bool a.bad, mkDat a.n a.cs]), (5, .cells false [i64 0, .bool false, .slice none 0 0, .slice none 0 0, .bool false, .slice none 0 0]), (6, .cells false [.int .i64 a.op, .bool a.neg, natV a.nn, natV a.dd, .bool a.bad, mkDat a.n a.cs])]) 7 (.agg ⟨[.int .i64 v.op, .bool v.neg, natV v.nn, natV v.dd, .bool v.bad, mkDat v.n v.cs]⟩) (mkM [(4, .cells false [.int .i64 a.op, .bool a.neg, natV a.nn, natV a.dd, .bool a.bad, mkDat a.n a.cs]), (5, .cells false [i64 0, .bool false, .slice none 0 0, .slice none 0 0, .bool false, .slice none 0 0]), (6, .frz [.int .i64 a.op, .bool a.neg, natV a.nn, natV a.dd, .bool a.bad, mkDat a.n a.cs])]) 7]) := by kernel_rfl
theorem abs_ok (a : Er) : PureOk PP GG tabs 37 [a.nd.val] (Er.un 7 a).nd.val := by
  refine PureOk.of' ?_ (Er.nl _) (by kernel_rfl) ?_
  · intro x hx
    simp only [List.mem_cons, List.not_mem_nil, or_false] at hx
    subst hx
    exact Er.nl _
  · exact PT.ends (envOf F0_ok) (abs_w a.nd (Er.un 7 a).nd) (sm_row (vs := erL [a]) (by rfl) (Nat.le_refl _) (frz_er _ _ _) (offs_er _ _ _) (F0_n 7 [a]) (by rfl)) .same
theorem sqrt_w (a v : Rd) : ends PP XX GG 5 (door PP 36 [a.val] .nil GG) [.go, .go, .go, .go, .mem v.val (MU a) (4 + 3), .go] [2] [4 + 1] = some (v.val, mkM [(4 + 1, .cells false v.cells)], [.call 27 [i64 10, .slice (some (⟨1536, 0, none⟩)) 1 1] (mkM [(4, .cells false [.int .i64 a.op, .bool a.neg, natV a.nn, natV a.dd, .bool a.bad, mkDat a.n a.cs]), (5, .cells false [i64 0, .bool false, .slice none 0 0, .slice none 0 0, .bool false, .slice none 0 0]), (6, .cells false [.int .i64 a.op, .bool a.neg, natV a.nn, natV a.dd, .bool a.bad, mkDat a.n a.cs])]) 7 (.agg ⟨[.int .i64 v.op, .bool v.neg, natV v.nn, natV v.dd, .bool v.bad, mkDat v.n v.cs]⟩) (mkM [(4, .cells false [.int .i64 a.op, .bool a.neg, natV a.nn, natV a.dd, .bool a.bad, mkDat a.n a.cs]), (5, .cells false [i64 0, .bool false, .slice none 0 0, .slice none 0 0, .bool false, .slice none 0 0]), (6, .frz [.int .i64 a.op, .bool a.neg, natV a.nn, natV a.dd, .bool a.bad, mkDat a.n a.cs])]) 7]) := by kernel_rfl
theorem sqrt_ok (a : Er) : PureOk PP GG tabs 36 [a.nd.val] (Er.un 10 a).nd.val := by
  refine PureOk.of' ?_ (Er.nl _) (by kernel_rfl) ?_
  · intro x hx
    simp only [List.mem_cons, List.not_mem_nil, or_false] at hx
    subst hx
    exact Er.nl _
  · exact PT.ends (envOf F0_ok) (sqrt_w a.nd (Er.un 10 a).nd) (sm_row (vs := erL [a]) (by rfl) (Nat.le_refl _) (frz_er _ _ _) (offs_er _ _ _) (F0_n 10 [a]) (by rfl)) .same
theorem exp_w (a v : Rd) : ends PP XX GG 5 (door PP 34 [a.val] .nil GG) [.go, .go, .go, .go, .mem v.val (MU a) (4 + 3), .go] [2] [4 + 1] = some (v.val, mkM [(4 + 1, .cells false v.cells)], [.call 27 [i64 11, .slice (some (⟨1536, 0, none⟩)) 1 1] (mkM [(4, .cells false [.int .i64 a.op, .bool a.neg, natV a.nn, natV a.dd, .bool a.bad, mkDat a.n a.cs]), (5, .cells false [i64 0, .bool false, .slice none 0 0, .slice none 0 0, .bool false, .slice none 0 0]), (6, .cells false [.int .i64 a.op, .bool a.neg, natV a.nn, natV a.dd, .bool a.bad, mkDat a.n a.cs])]) 7 (.agg ⟨[.int .i64 v.op, .bool v.neg, natV v.nn, natV v.dd, .bool v.bad, mkDat v.n v.cs]⟩) (mkM [(4, .cells false [.int .i64 a.op, .bool a.neg, natV a.nn, natV a.dd, .bool a.bad, mkDat a.n a.cs]), (5, .cells false [i64 0, .bool false, .slice none 0 0, .slice none 0 0, .bool false, .slice none 0 0]), (6, .frz [.int .i64 a.op, .bool a.neg, natV a.nn, natV a.dd, .bool a.bad, mkDat a.n a.cs])]) 7]) := by kernel_rfl
theorem exp_ok (a : Er) : PureOk PP GG tabs 34 [a.nd.val] (Er.un 11 a).nd.val := by
  refine PureOk.of' ?_ (Er.nl _) (by kernel_rfl) ?_
  · intro x hx
    simp only [List.mem_cons, List.not_mem_nil, or_false] at hx
    subst hx
    exact Er.nl _
  · exact PT.ends (envOf F0_ok) (exp_w a.nd (Er.un 11 a).nd) (sm_row (vs := erL [a]) (by rfl) (Nat.le_refl _) (frz_er _ _ _) (offs_er _ _ _) (F0_n 11 [a]) (by rfl)) .same
theorem ln_w (a v : Rd) : ends PP XX GG 5 (door PP 35 [a.val] .nil GG) [.go, .go, .go, .go, .mem v.val (MU a) (4 + 3), .go] [2] [4 + 1] = some (v.val, mkM [(4 + 1, .cells false v.cells)], [.call 27 [i64 12, .slice (some (⟨1536, 0, none⟩)) 1 1] (mkM [(4, .cells false [.int .i64 a.op, .bool a.neg, natV a.nn, natV a.dd, .bool a.bad, mkDat a.n a.cs]), (5, .cells false [i64 0, .bool false, .slice none 0 0, .slice none 0 0, .bool false, .slice none 0 0]), (6, .cells false [.int .i64 a.op, .bool a.neg, natV a.nn, natV a.dd, .bool a.bad, mkDat a.n a.cs])]) 7 (.agg ⟨[.int .i64 v.op, .bool v.neg, natV v.nn, natV v.dd, .bool v.bad, mkDat v.n v.cs]⟩) (mkM [(4, .cells false [.int .i64 a.op, .bool a.neg, natV a.nn, natV a.dd, .bool a.bad, mkDat a.n a.cs]), (5, .cells false [i64 0, .bool false, .slice none 0 0, .slice none 0 0, .bool false, .slice none 0 0]), (6, .frz [.int .i64 a.op, .bool a.neg, natV a.nn, natV a.dd, .bool a.bad, mkDat a.n a.cs])]) 7]) := by kernel_rfl
theorem ln_ok (a : Er) : PureOk PP GG tabs 35 [a.nd.val] (Er.un 12 a).nd.val := by
  refine PureOk.of' ?_ (Er.nl _) (by kernel_rfl) ?_
  · intro x hx
    simp only [List.mem_cons, List.not_mem_nil, or_false] at hx
    subst hx
    exact Er.nl _
  · exact PT.ends (envOf F0_ok) (ln_w a.nd (Er.un 12 a).nd) (sm_row (vs := erL [a]) (by rfl) (Nat.le_refl _) (frz_er _ _ _) (offs_er _ _ _) (F0_n 12 [a]) (by rfl)) .same
theorem sin_w (a v : Rd) : ends PP XX GG 5 (door PP 31 [a.val] .nil GG) [.go, .go, .go, .go, .mem v.val (MU a) (4 + 3), .go] [2] [4 + 1] = some (v.val, mkM [(4 + 1, .cells false v.cells)], [.call 27 [i64 13, .slice (some (⟨1536, 0, none⟩)) 1 1] (mkM [(4, .cells false [.int .i64 a.op, .bool a.neg, natV a.nn, natV a.dd, .bool a.bad, mkDat a.n a.cs]), (5, .cells false [i64 0, .bool false, .slice none 0 0, .slice none 0 0, .bool false, .slice none 0 0]), (6, .cells false [.int .i64 a.op, .bool a.neg, natV a.nn, natV a.dd, .bool a.bad, mkDat a.n a.cs])]) 7 (.agg ⟨[.int .i64 v.op, .bool v.neg, natV v.nn, natV v.dd, .bool v.bad, mkDat v.n v.cs]⟩) (mkM [(4, .cells false [.int .i64 a.op, .bool a.neg, natV a.nn, natV a.dd, .bool a.bad, mkDat a.n a.cs]), (5, .cells false [i64 0, .bool false, .slice none 0 0, .slice none 0 0, .bool false, .slice none 0 0]), (6, .frz [.int .i64 a.op, .bool a.neg, natV a.nn, natV a.dd, .bool a.bad, mkDat a.n a.cs])]) 7]) := by kernel_rfl
theorem sin_ok (a : Er) : PureOk PP GG tabs 31 [a.nd.val] (Er.un 13 a).nd.val := by
  refine PureOk.of' ?_ (Er.nl _) (by kernel_rfl) ?_
  · intro x hx
    simp only [List.mem_cons, List.not_mem_nil, or_false] at hx
    subst hx
    exact Er.nl _
  · exact PT.ends (envOf F0_ok) (sin_w a.nd (Er.un 13 a).nd) (sm_row (vs := erL [a]) (by rfl) (Nat.le_refl _) (frz_er _ _ _) (offs_er _ _ _) (F0_n 13 [a]) (by rfl)) .same
theorem cos_w (a v : Rd) : ends PP XX GG 5 (door PP 32 [a.val] .nil GG) [.go, .go, .go, .go, .mem v.val (MU a) (4 + 3), .go] [2] [4 + 1] = some (v.val, mkM [(4 + 1, .cells false v.cells)], [.call 27 [i64 14, .slice (some (⟨1536, 0, none⟩)) 1 1] (mkM [(4, .cells false [.int .i64 a.op, .bool a.neg, natV a.nn, natV a.dd, .bool a.bad, mkDat a.n a.cs]), (5, .cells false [i64 0, .bool false, .slice none 0 0, .slice none 0 0, .bool false, .slice none 0 0]), (6, .cells false [.int .i64 a.op, .bool a.neg, natV a.nn, natV a.dd, .bool a.bad, mkDat a.n a.cs])]) 7 (.agg ⟨[.int .i64 v.op, .bool v.neg, natV v.nn, natV v.dd, .bool v.bad, mkDat v.n v.cs]⟩) (mkM [(4, .cells false [.int .i64 a.op, .bool a.neg, natV a.nn, natV a.dd, .bool a.bad, mkDat a.n a.cs]), (5, .cells false [i64 0, .bool false, .slice none 0 0, .slice none 0 0, .bool false, .slice none 0 0]), (6, .frz [.int .i64 a.op, .bool a.neg, natV a.nn, natV a.dd, .bool a.bad, mkDat a.n a.cs])]) 7]) := by kernel_rfl
theorem cos_ok (a : Er) : PureOk PP GG tabs 32 [a.nd.val] (Er.un 14 a).nd.val := by
  refine PureOk.of' ?_ (Er.nl _) (by kernel_rfl) ?_
  · intro x hx
    simp only [List.mem_cons, List.not_mem_nil, or_false] at hx
    subst hx
    exact Er.nl _
  · exact PT.ends (envOf F0_ok) (cos_w a.nd (Er.un 14 a).nd) (sm_row (vs := erL [a]) (by rfl) (Nat.le_refl _) (frz_er _ _ _) (offs_er _ _ _) (F0_n 14 [a]) (by rfl)) .same
theorem atan_w (a v : Rd) : ends PP XX GG 5 (door PP 40 [a.val] .nil GG) [.go, .go, .go, .go, .mem v.val (MU a) (4 + 3), .go] [2] [4 + 1] = some (v.val, mkM [(4 + 1, .cells false v.cells)], [.call 27 [i64 15, .slice (some (⟨1536, 0, none⟩)) 1 1] (mkM [(4, .cells false [.int .i64 a.op, .bool a.neg, natV a.nn, natV a.dd, .bool a.bad, mkDat a.n a.cs]), (5, .cells false [i64 0, .bool false, .slice none 0 0, .slice none 0 0, .bool false, .slice none 0 0]), (6, .cells false [.int .i64 a.op, .bool a.neg, natV a.nn, natV a.dd, .bool a.bad, mkDat a.n a.cs])]) 7 (.agg ⟨[.int .i64 v.op, .bool v.neg, natV v.nn, natV v.dd, .bool v.bad, mkDat v.n v.cs]⟩) (mkM [(4, .cells false [.int .i64 a.op, .bool a.neg, natV a.nn, natV a.dd, .bool a.bad, mkDat a.n a.cs]), (5, .cells false [i64 0, .bool false, .slice none 0 0, .slice none 0 0, .bool false, .slice none 0 0]), (6, .frz [.int .i64 a.op, .bool a.neg, natV a.nn, natV a.dd, .bool a.bad, mkDat a.n a.cs])]) 7]) := by kernel_rfl
theorem atan_ok (a : Er) : PureOk PP GG tabs 40 [a.nd.val] (Er.un 15 a).nd.val := by
  refine PureOk.of' ?_ (Er.nl _) (by kernel_rfl) ?_
  · intro x hx
    simp only [List.mem_cons, List.not_mem_nil, or_false] at hx
    subst hx
    exact Er.nl _
  · exact PT.ends (envOf F0_ok) (atan_w a.nd (Er.un 15 a).nd) (sm_row (vs := erL [a]) (by rfl) (Nat.le_refl _) (frz_er _ _ _) (offs_er _ _ _) (F0_n 15 [a]) (by rfl)) .same
theorem add_w (a b v : Rd) : ends PP XX GG 5 (door PP 29 [a.val, b.val] .nil GG) [.go, .go, .go, .go, .go, .go, .mem v.val (MA a b) (4 + 4), .go] [4] [4 + 2] = some (v.val, mkM [(4 + 2, .cells false v.cells)], [.call 27 [i64 3, .slice (some (⟨1792, 0, none⟩)) 2 2] (mkM [(4, .cells false [.int .i64 a.op, .bool a.neg, natV a.nn, natV a.dd, .bool a.bad, mkDat a.n a.cs]), (5, .cells false [.int .i64 b.op, .bool b.neg, natV b.nn, natV b.dd, .bool b.bad, mkDat b.n b.cs]), (6, .cells false [i64 0, .bool false, .slice none 0 0, .slice none 0 0, .bool false, .slice none 0 0]), (7, .cells false [.int .i64 a.op, .bool a.neg, natV a.nn, natV a.dd, .bool a.bad, mkDat a.n a.cs, .int .i64 b.op, .bool b.neg, natV b.nn, natV b.dd, .bool b.bad, mkDat b.n b.cs])]) 8 (.agg ⟨[.int .i64 v.op, .bool v.neg, natV v.nn, natV v.dd, .bool v.bad, mkDat v.n v.cs]⟩) (mkM [(4, .cells false [.int .i64 a.op, .bool a.neg, natV a.nn, natV a.dd, .bool a.bad, mkDat a.n a.cs]), (5, .cells false [.int .i64 b.op, .bool b.neg, natV b.nn, natV b.dd, .bool b.bad, mkDat b.n b.cs]), (6, .cells false [i64 0, .bool false, .slice none 0 0, .slice none 0 0, .bool false, .slice none 0 0]), (7, .frz [.int .i64 a.op, .bool a.neg, natV a.nn, natV a.dd, .bool a.bad, mkDat a.n a.cs, .int .i64 b.op, .bool b.neg, natV b.nn, natV b.dd, .bool b.bad, mkDat b.n b.cs])]) 8]) := by kernel_rfl
theorem add_ok (a b : Er) : PureOk PP GG tabs 29 [a.nd.val, b.nd.val] (Er.bin 3 a b).nd.val := by
  refine PureOk.of' ?_ (Er.nl _) (by kernel_rfl) ?_
  · intro x hx
    simp only [List.mem_cons, List.not_mem_nil, or_false] at hx
    rcases hx with rfl | rfl <;> exact Er.nl _
  · exact PT.ends (envOf F0_ok) (add_w a.nd b.nd (Er.bin 3 a b).nd) (sm_row (vs := erL [a, b]) (by rfl) (Nat.le_refl _) (frz_er _ _ _) (offs_er _ _ _) (F0_n 3 [a, b]) (by rfl)) .same
theorem sub_w (a b v : Rd) : ends PP XX GG 5 (door PP 28 [a.val, b.val] .nil GG) [.go, .go, .go, .go, .go, .go, .mem v.val (MA a b) (4 + 4), .go] [4] [4 + 2] = some (v.val, mkM [(4 + 2, .cells false v.cells)], [.call 27 [i64 4, .slice (some (⟨1792, 0, none⟩)) 2 2] (mkM [(4, .cells false [.int .i64 a.op, .bool a.neg, natV a.nn, natV a.dd, .bool a.bad, mkDat a.n a.cs]), (5, .cells false [.int .i64 b.op, .bool b.neg, natV b.nn, natV b.dd, .bool b.bad, mkDat b.n b.cs]), (6, .cells false [i64 0, .bool false, .slice none 0 0, .slice none 0 0, .bool false, .slice none 0 0]), (7, .cells false [.int .i64 a.op, .bool a.neg, natV a.nn, natV a.dd, .bool a.bad, mkDat a.n a.cs, .int .i64 b.op, .bool b.neg, natV b.nn, natV b.dd, .bool b.bad, mkDat b.n b.cs])]) 8 (.agg ⟨[.int .i64 v.op, .bool v.neg, natV v.nn, natV v.dd, .bool v.bad, mkDat v.n v.cs]⟩) (mkM [(4, .cells false [.int .i64 a.op, .bool a.neg, natV a.nn, natV a.dd, .bool a.bad, mkDat a.n a.cs]), (5, .cells false [.int .i64 b.op, .bool b.neg, natV b.nn, natV b.dd, .bool b.bad, mkDat b.n b.cs]), (6, .cells false [i64 0, .bool false, .slice none 0 0, .slice none 0 0, .bool false, .slice none 0 0]), (7, .frz [.int .i64 a.op, .bool a.neg, natV a.nn, natV a.dd, .bool a.bad, mkDat a.n a.cs, .int .i64 b.op, .bool b.neg, natV b.nn, natV b.dd, .bool b.bad, mkDat b.n b.cs])]) 8]) := by kernel_rfl
theorem sub_ok (a b : Er) : PureOk PP GG tabs 28 [a.nd.val, b.nd.val] (Er.bin 4 a b).nd.val := by
  refine PureOk.of' ?_ (Er.nl _) (by kernel_rfl) ?_
  · intro x hx
    simp only [List.mem_cons, List.not_mem_nil, or_false] at hx
    rcases hx with rfl | rfl <;> exact Er.nl _
  · exact PT.ends (envOf F0_ok) (sub_w a.nd b.nd (Er.bin 4 a b).nd) (sm_row (vs := erL [a, b]) (by rfl) (Nat.le_refl _) (frz_er _ _ _) (offs_er _ _ _) (F0_n 4 [a, b]) (by rfl)) .same
theorem mul_w (a b v : Rd) : ends PP XX GG 5 (door PP 30 [a.val, b.val] .nil GG) [.go, .go, .go, .go, .go, .go, .mem v.val (MA a b) (4 + 4), .go] [4] [4 + 2] = some (v.val, mkM [(4 + 2, .cells false v.cells)], [.call 27 [i64 5, .slice (some (⟨1792, 0, none⟩)) 2 2] (mkM [(4, .cells false [.int .i64 a.op, .bool a.neg, natV a.nn, natV a.dd, .bool a.bad, mkDat a.n a.cs]), (5, .cells false [.int .i64 b.op, .bool b.neg, natV b.nn, natV b.dd, .bool b.bad, mkDat b.n b.cs]), (6, .cells false [i64 0, .bool false, .slice none 0 0, .slice none 0 0, .bool false, .slice none 0 0]), (7, .cells false [.int .i64 a.op, .bool a.neg, natV a.nn, natV a.dd, .bool a.bad, mkDat a.n a.cs, .int .i64 b.op, .bool b.neg, natV b.nn, natV b.dd, .bool b.bad, mkDat b.n b.cs])]) 8 (.agg ⟨[.int .i64 v.op, .bool v.neg, natV v.nn, natV v.dd, .bool v.bad, mkDat v.n v.cs]⟩) (mkM [(4, .cells false [.int .i64 a.op, .bool a.neg, natV a.nn, natV a.dd, .bool a.bad, mkDat a.n a.cs]), (5, .cells false [.int .i64 b.op, .bool b.neg, natV b.nn, natV b.dd, .bool b.bad, mkDat b.n b.cs]), (6, .cells false [i64 0, .bool false, .slice none 0 0, .slice none 0 0, .bool false, .slice none 0 0]), (7, .frz [.int .i64 a.op, .bool a.neg, natV a.nn, natV a.dd, .bool a.bad, mkDat a.n a.cs, .int .i64 b.op, .bool b.neg, natV b.nn, natV b.dd, .bool b.bad, mkDat b.n b.cs])]) 8]) := by kernel_rfl
theorem mul_ok (a b : Er) : PureOk PP GG tabs 30 [a.nd.val, b.nd.val] (Er.bin 5 a b).nd.val := by
  refine PureOk.of' ?_ (Er.nl _) (by kernel_rfl) ?_
  · intro x hx
    simp only [List.mem_cons, List.not_mem_nil, or_false] at hx
    rcases hx with rfl | rfl <;> exact Er.nl _
  · exact PT.ends (envOf F0_ok) (mul_w a.nd b.nd (Er.bin 5 a b).nd) (sm_row (vs := erL [a, b]) (by rfl) (Nat.le_refl _) (frz_er _ _ _) (offs_er _ _ _) (F0_n 5 [a, b]) (by rfl)) .same
theorem quo_w (a b v : Rd) : ends PP XX GG 5 (door PP 39 [a.val, b.val] .nil GG) [.go, .go, .go, .go, .go, .go, .mem v.val (MA a b) (4 + 4), .go] [4] [4 + 2] = some (v.val, mkM [(4 + 2, .cells false v.cells)], [.call 27 [i64 6, .slice (some (⟨1792, 0, none⟩)) 2 2] (mkM [(4, .cells false [.int .i64 a.op, .bool a.neg, natV a.nn, natV a.dd, .bool a.bad, mkDat a.n a.cs]), (5, .cells false [.int .i64 b.op, .bool b.neg, natV b.nn, natV b.dd, .bool b.bad, mkDat b.n b.cs]), (6, .cells false [i64 0, .bool false, .slice none 0 0, .slice none 0 0, .bool false, .slice none 0 0]), (7, .cells false [.int .i64 a.op, .bool a.neg, natV a.nn, natV a.dd, .bool a.bad, mkDat a.n a.cs, .int .i64 b.op, .bool b.neg, natV b.nn, natV b.dd, .bool b.bad, mkDat b.n b.cs])]) 8 (.agg ⟨[.int .i64 v.op, .bool v.neg, natV v.nn, natV v.dd, .bool v.bad, mkDat v.n v.cs]⟩) (mkM [(4, .cells false [.int .i64 a.op, .bool a.neg, natV a.nn, natV a.dd, .bool a.bad, mkDat a.n a.cs]), (5, .cells false [.int .i64 b.op, .bool b.neg, natV b.nn, natV b.dd, .bool b.bad, mkDat b.n b.cs]), (6, .cells false [i64 0, .bool false, .slice none 0 0, .slice none 0 0, .bool false, .slice none 0 0]), (7, .frz [.int .i64 a.op, .bool a.neg, natV a.nn, natV a.dd, .bool a.bad, mkDat a.n a.cs, .int .i64 b.op, .bool b.neg, natV b.nn, natV b.dd, .bool b.bad, mkDat b.n b.cs])]) 8]) := by kernel_rfl
theorem quo_ok (a b : Er) : PureOk PP GG tabs 39 [a.nd.val, b.nd.val] (Er.bin 6 a b).nd.val := by
  refine PureOk.of' ?_ (Er.nl _) (by kernel_rfl) ?_
  · intro x hx
    simp only [List.mem_cons, List.not_mem_nil, or_false] at hx
    rcases hx with rfl | rfl <;> exact Er.nl _
  · exact PT.ends (envOf F0_ok) (quo_w a.nd b.nd (Er.bin 6 a b).nd) (sm_row (vs := erL [a, b]) (by rfl) (Nat.le_refl _) (frz_er _ _ _) (offs_er _ _ _) (F0_n 6 [a, b]) (by rfl)) .same
theorem int_w (k : Nat) (x y : List Nat) : ends PP XX GG 10 (door PP 98 [i64 k] .nil GG) [.go, .go, .val (.bool false), .go, .pure (natV x), .pure (natV y), .go, .go] [2] [4] = some (rV false x y, mkM [(4, .cells false [.bool false, natV x, natV y])], [.bin .lss 3 true (i64 k) (i64 0) (.bool false), .call 42 [i64 k] (mkM [(4, .cells false [.bool false, .slice none 0 0, .slice none 0 0])]) 5 (natV x) (mkM [(4, .cells false [.bool false, .slice none 0 0, .slice none 0 0])]) 5, .call 42 [i64 1] (mkM [(4, .cells false [.bool false, .slice none 0 0, .slice none 0 0])]) 5 (natV y) (mkM [(4, .cells false [.bool false, .slice none 0 0, .slice none 0 0])]) 5]) := by kernel_rfl
theorem rint_ok (k : Nat) (hk : k < 9223372036854775808) : PureOk PP GG tabs 98 [i64 k] (rV false (intN k) (intN 1)) := by
  refine PureOk.of' ?_ (nl_rat _ _ _) (by kernel_rfl) ?_
  · intro x hx
    simp only [List.mem_cons, List.not_mem_nil, or_false] at hx
    subst hx
    exact nl_int
  · exact PT.ends (envOf F4_ok) (int_w k (intN k) (intN 1)) ⟨lss_f (Nat.zero_le _), F4_int hk, F4_int (by omega)⟩ .same
noncomputable def FI : Known := Known.none.add 98 (eI (fun x : Nat => [i64 x]) (fun x => x < 9223372036854775808) fun x => rV false (intN x) (intN 1))
theorem FI_ok : FI.Ok PP GG tabs := Known.add_ok Known.none_ok (eI_ok fun x h => rint_ok x h)
theorem FI_int {x : Nat} (h : x < 9223372036854775808) {M : Tr Blk} {nx : Nat} : FI.sm 98 [i64 x] M nx = some (rV false (intN x) (intN 1), M, nx) :=
  pureCall (by simp [frz_int]) (by simp [offs_int]) (add_same.trans (eI_of (fun x y h => by simp only [List.cons.injEq, Value.int.injEq, and_true, true_and] at h; exact Int.ofNat.inj h) h))
theorem num_w (k : Nat) (x y : List Nat) : ends PP XX GG 5 (door PP 33 [i64 k] .nil GG) [.go, .go, .pure (rV false x y), .go, .go] [2] [4] = some (.agg ⟨[i64 0, .bool false, natV x, natV y, .bool false, .slice none 0 0]⟩, mkM [(4, .cells false [i64 0, .bool false, natV x, natV y, .bool false, .slice none 0 0])], [.call 98 [i64 k] (mkM [(4, .cells false [i64 0, .bool false, .slice none 0 0, .slice none 0 0, .bool false, .slice none 0 0])]) 5 (.agg ⟨[.bool false, natV x, natV y]⟩) (mkM [(4, .cells false [i64 0, .bool false, .slice none 0 0, .slice none 0 0, .bool false, .slice none 0 0])]) 5]) := by kernel_rfl
theorem num1_ok : PureOk PP GG tabs 33 [i64 1] (Er.num 1).nd.val := by
  refine PureOk.of' ?_ (Er.nl _) (by kernel_rfl) ?_
  · intro x hx
    simp only [List.mem_cons, List.not_mem_nil, or_false] at hx
    subst hx
    exact nl_int
  · exact PT.ends (envOf FI_ok) (num_w 1 [1] [1]) (FI_int (x := 1) (by omega)) (.agg (.cons .same (.cons .same (.cons .same (.cons .same (.cons .same (.cons .nil .nil)))))))
theorem num2_ok : PureOk PP GG tabs 33 [i64 2] (Er.num 2).nd.val := by
  refine PureOk.of' ?_ (Er.nl _) (by kernel_rfl) ?_
  · intro x hx
    simp only [List.mem_cons, List.not_mem_nil, or_false] at hx
    subst hx
    exact nl_int
  · exact PT.ends (envOf FI_ok) (num_w 2 [2] [1]) (FI_int (x := 2) (by omega)) (.agg (.cons .same (.cons .same (.cons .same (.cons .same (.cons .same (.cons .nil .nil)))))))
noncomputable def F1 : Known := (((((((((((((F0.add 38 (eI (fun x : Er => [x.nd.val]) (fun _ => True) fun x => (Er.un 2 x).nd.val)).add 37 (eI (fun x : Er => [x.nd.val]) (fun _ => True) fun x => (Er.un 7 x).nd.val)).add 36 (eI (fun x : Er => [x.nd.val]) (fun _ => True) fun x => (Er.un 10 x).nd.val)).add 34 (eI (fun x : Er => [x.nd.val]) (fun _ => True) fun x => (Er.un 11 x).nd.val)).add 35 (eI (fun x : Er => [x.nd.val]) (fun _ => True) fun x => (Er.un 12 x).nd.val)).add 31 (eI (fun x : Er => [x.nd.val]) (fun _ => True) fun x => (Er.un 13 x).nd.val)).add 32 (eI (fun x : Er => [x.nd.val]) (fun _ => True) fun x => (Er.un 14 x).nd.val)).add 40 (eI (fun x : Er => [x.nd.val]) (fun _ => True) fun x => (Er.un 15 x).nd.val)).add 29 (eI (fun x : Er × Er => [x.1.nd.val, x.2.nd.val]) (fun _ => True) fun x => (Er.bin 3 x.1 x.2).nd.val)).add 28 (eI (fun x : Er × Er => [x.1.nd.val, x.2.nd.val]) (fun _ => True) fun x => (Er.bin 4 x.1 x.2).nd.val)).add 30 (eI (fun x : Er × Er => [x.1.nd.val, x.2.nd.val]) (fun _ => True) fun x => (Er.bin 5 x.1 x.2).nd.val)).add 39 (eI (fun x : Er × Er => [x.1.nd.val, x.2.nd.val]) (fun _ => True) fun x => (Er.bin 6 x.1 x.2).nd.val)).add 33 (eI (fun x : Nat => [i64 x]) (fun x => x = 1 ∨ x = 2) fun x => (Er.num x).nd.val))
theorem F1_ok : F1.Ok PP GG tabs := Known.add_ok (Known.add_ok (Known.add_ok (Known.add_ok (Known.add_ok (Known.add_ok (Known.add_ok (Known.add_ok (Known.add_ok (Known.add_ok (Known.add_ok (Known.add_ok (Known.add_ok F0_ok (eI_ok fun x _ => neg_ok x)) (eI_ok fun x _ => abs_ok x)) (eI_ok fun x _ => sqrt_ok x)) (eI_ok fun x _ => exp_ok x)) (eI_ok fun x _ => ln_ok x)) (eI_ok fun x _ => sin_ok x)) (eI_ok fun x _ => cos_ok x)) (eI_ok fun x _ => atan_ok x)) (eI_ok fun x _ => add_ok x.1 x.2)) (eI_ok fun x _ => sub_ok x.1 x.2)) (eI_ok fun x _ => mul_ok x.1 x.2)) (eI_ok fun x _ => quo_ok x.1 x.2)) (eI_ok fun x h => by rcases h with rfl | rfl; exact num1_ok; exact num2_ok)
theorem c_neg (a : Er) (M : Tr Blk) (nx : Nat) : F1.sm 38 [a.nd.val] M nx = some ((Er.un 2 a).nd.val, M, nx) := er_call ((add_other rfl).trans ((add_other rfl).trans ((add_other rfl).trans ((add_other rfl).trans ((add_other rfl).trans ((add_other rfl).trans ((add_other rfl).trans ((add_other rfl).trans ((add_other rfl).trans ((add_other rfl).trans ((add_other rfl).trans ((add_other rfl).trans (add_same.trans (eI_of er_inj1 trivial))))))))))))))
theorem c_abs (a : Er) (M : Tr Blk) (nx : Nat) : F1.sm 37 [a.nd.val] M nx = some ((Er.un 7 a).nd.val, M, nx) := er_call ((add_other rfl).trans ((add_other rfl).trans ((add_other rfl).trans ((add_other rfl).trans ((add_other rfl).trans ((add_other rfl).trans ((add_other rfl).trans ((add_other rfl).trans ((add_other rfl).trans ((add_other rfl).trans ((add_other rfl).trans (add_same.trans (eI_of er_inj1 trivial)))))))))))))
theorem c_sqrt (a : Er) (M : Tr Blk) (nx : Nat) : F1.sm 36 [a.nd.val] M nx = some ((Er.un 10 a).nd.val, M, nx) := er_call ((add_other rfl).trans ((add_other rfl).trans ((add_other rfl).trans ((add_other rfl).trans ((add_other rfl).trans ((add_other rfl).trans ((add_other rfl).trans ((add_other rfl).trans ((add_other rfl).trans ((add_other rfl).trans (add_same.trans (eI_of er_inj1 trivial))))))))))))
theorem c_exp (a : Er) (M : Tr Blk) (nx : Nat) : F1.sm 34 [a.nd.val] M nx = some ((Er.un 11 a).nd.val, M, nx) := er_call ((add_other rfl).trans ((add_other rfl).trans ((add_other rfl).trans ((add_other rfl).trans ((add_other rfl).trans ((add_other rfl).trans ((add_other rfl).trans ((add_other rfl).trans ((add_other rfl).trans (add_same.trans (eI_of er_inj1 trivial)))))))))))
theorem c_ln (a : Er) (M : Tr Blk) (nx : Nat) : F1.sm 35 [a.nd.val] M nx = some ((Er.un 12 a).nd.val, M, nx) := er_call ((add_other rfl).trans ((add_other rfl).trans ((add_other rfl).trans ((add_other rfl).trans ((add_other rfl).trans ((add_other rfl).trans ((add_other rfl).trans ((add_other rfl).trans (add_same.trans (eI_of er_inj1 trivial))))))))))
theorem c_sin (a : Er) (M : Tr Blk) (nx : Nat) : F1.sm 31 [a.nd.val] M nx = some ((Er.un 13 a).nd.val, M, nx) := er_call ((add_other rfl).trans ((add_other rfl).trans ((add_other rfl).trans ((add_other rfl).trans ((add_other rfl).trans ((add_other rfl).trans ((add_other rfl).trans (add_same.trans (eI_of er_inj1 trivial)))))))))
theorem c_cos (a : Er) (M : Tr Blk) (nx : Nat) : F1.sm 32 [a.nd.val] M nx = some ((Er.un 14 a).nd.val, M, nx) := er_call ((add_other rfl).trans ((add_other rfl).trans ((add_other rfl).trans ((add_other rfl).trans ((add_other rfl).trans ((add_other rfl).trans (add_same.trans (eI_of er_inj1 trivial))))))))
theorem c_atan (a : Er) (M : Tr Blk) (nx : Nat) : F1.sm 40 [a.nd.val] M nx = some ((Er.un 15 a).nd.val, M, nx) := er_call ((add_other rfl).trans ((add_other rfl).trans ((add_other rfl).trans ((add_other rfl).trans ((add_other rfl).trans (add_same.trans (eI_of er_inj1 trivial)))))))
theorem c_add (a b : Er) (M : Tr Blk) (nx : Nat) : F1.sm 29 [a.nd.val, b.nd.val] M nx = some ((Er.bin 3 a b).nd.val, M, nx) := er_call2 ((add_other rfl).trans ((add_other rfl).trans ((add_other rfl).trans ((add_other rfl).trans (add_same.trans (eI_of (x := (a, b)) er_inj2 trivial))))))
theorem c_sub (a b : Er) (M : Tr Blk) (nx : Nat) : F1.sm 28 [a.nd.val, b.nd.val] M nx = some ((Er.bin 4 a b).nd.val, M, nx) := er_call2 ((add_other rfl).trans ((add_other rfl).trans ((add_other rfl).trans (add_same.trans (eI_of (x := (a, b)) er_inj2 trivial)))))
theorem c_mul (a b : Er) (M : Tr Blk) (nx : Nat) : F1.sm 30 [a.nd.val, b.nd.val] M nx = some ((Er.bin 5 a b).nd.val, M, nx) := er_call2 ((add_other rfl).trans ((add_other rfl).trans (add_same.trans (eI_of (x := (a, b)) er_inj2 trivial))))
theorem c_quo (a b : Er) (M : Tr Blk) (nx : Nat) : F1.sm 39 [a.nd.val, b.nd.val] M nx = some ((Er.bin 6 a b).nd.val, M, nx) := er_call2 ((add_other rfl).trans (add_same.trans (eI_of (x := (a, b)) er_inj2 trivial)))
theorem c_num1 (M : Tr Blk) (nx : Nat) : F1.sm 33 [i64 1] M nx = some ((Er.num 1).nd.val, M, nx) := pureCall (by simp [frz_int]) (by simp [offs_int]) (add_same.trans (eI_of (x := 1) (fun x y h => by simp only [List.cons.injEq, Value.int.injEq, and_true, true_and] at h; exact Int.ofNat.inj h) (by decide)))
theorem c_num2 (M : Tr Blk) (nx : Nat) : F1.sm 33 [i64 2] M nx = some ((Er.num 2).nd.val, M, nx) := pureCall (by simp [frz_int]) (by simp [offs_int]) (add_same.trans (eI_of (x := 2) (fun x y h => by simp only [List.cons.injEq, Value.int.injEq, and_true, true_and] at h; exact Int.ofNat.inj h) (by decide)))
theorem F1_n (o : Int) (l : List Er) : F1 27 [.int .i64 o, mkDat l.length (erL l)] = some (Er.mk o false [] [] false l).nd.val := (add_other rfl).trans ((add_other rfl).trans ((add_other rfl).trans ((add_other rfl).trans ((add_other rfl).trans ((add_other rfl).trans ((add_other rfl).trans ((add_other rfl).trans ((add_other rfl).trans ((add_other rfl).trans ((add_other rfl).trans ((add_other rfl).trans ((add_other rfl).trans (F0_n o l)))))))))))))
end BR
namespace BX
theorem n_w (o : Int) (k : Nat) (cs : List Value) : ends PP XX GG 5 (door PP 45 [.int .i64 o, mkDat k cs] .nil GG) [] [4] [4] = some (.agg ⟨[.int .i64 o, .bool false, .slice none 0 0, .slice none 0 0, mkDat k cs]⟩, mkM [(4, .cells false [.int .i64 o, .bool false, .slice none 0 0, .slice none 0 0, mkDat k cs])], []) := by kernel_rfl
theorem n_ok (o : Int) (l : List Ex) : PureOk PP GG tabs 45 [.int .i64 o, mkDat l.length (exL l)] (Ex.mk o false [] [] l).nd.val := by
  refine PureOk.of' ?_ (Ex.nl _) (by kernel_rfl) ?_
  · intro x hx
    simp only [List.mem_cons, List.not_mem_nil, or_false] at hx
    rcases hx with rfl | rfl
    · exact nl_int
    · exact nl_Ex l _
  · exact PT.ends (envOf Known.none_ok) (n_w o l.length (exL l)) trivial (.agg (.cons .same (.cons .same (.cons .nil (.cons .nil (.cons .same .nil))))))
noncomputable def F0 : Known := Known.none.add 45 (eI (fun x : Int × List Ex => [.int .i64 x.1, mkDat x.2.length (exL x.2)]) (fun _ => True) fun x => (Ex.mk x.1 false [] [] x.2).nd.val)
theorem F0_ok : F0.Ok PP GG tabs := Known.add_ok Known.none_ok (eI_ok fun x _ => n_ok x.1 x.2)
theorem F0_n (o : Int) (l : List Ex) : F0 45 [.int .i64 o, mkDat l.length (exL l)] = some (Ex.mk o false [] [] l).nd.val := add_same.trans (eI_of (x := (o, l)) xow_inj trivial)
noncomputable abbrev MU (a : Nd) : Tr Blk := mkM [(4, .cells false a.cells), (4 + 1, .cells false [i64 0, .bool false, .slice none 0 0, .slice none 0 0, .slice none 0 0]), (4 + 2, .frz a.cells)]
noncomputable abbrev MA (a b : Nd) : Tr Blk := mkM [(4, .cells false a.cells), (4 + 1, .cells false b.cells), (4 + 2, .cells false [i64 0, .bool false, .slice none 0 0, .slice none 0 0, .slice none 0 0]), (4 + 3, .frz (a.cells ++ b.cells))]
theorem neg_w (a v : Nd) : ends PP XX GG 5 (door PP 68 [a.val] .nil GG) [.go, .go, .go, .go, .mem v.val (MU a) (4 + 3), .go] [2] [4 + 1] = some (v.val, mkM [(4 + 1, .cells false v.cells)], [.call 45 [i64 2, .slice (some (⟨1536, 0, none⟩)) 1 1] (mkM [(4, .cells false [.int .i64 a.op, .bool a.neg, natV a.num, natV a.den, mkDat a.n a.cs]), (5, .cells false [i64 0, .bool false, .slice none 0 0, .slice none 0 0, .slice none 0 0]), (6, .cells false [.int .i64 a.op, .bool a.neg, natV a.num, natV a.den, mkDat a.n a.cs])]) 7 (.agg ⟨[.int .i64 v.op, .bool v.neg, natV v.num, natV v.den, mkDat v.n v.cs]⟩) (mkM [(4, .cells false [.int .i64 a.op, .bool a.neg, natV a.num, natV a.den, mkDat a.n a.cs]), (5, .cells false [i64 0, .bool false, .slice none 0 0, .slice none 0 0, .slice none 0 0]), (6, .frz [.int .i64 a.op, .bool a.neg, natV a.num, natV a.den, mkDat a.n a.cs])]) 7]) := by kernel_rfl
theorem neg_ok (a : Ex) : PureOk PP GG tabs 68 [a.nd.val] (Ex.un 2 a).nd.val := by
  refine PureOk.of' ?_ (Ex.nl _) (by kernel_rfl) ?_
  · intro x hx
    simp only [List.mem_cons, List.not_mem_nil, or_false] at hx
    subst hx
    exact Ex.nl _
  · exact PT.ends (envOf F0_ok) (neg_w a.nd (Ex.un 2 a).nd) (sm_row (vs := exL [a]) (by rfl) (Nat.le_refl _) (frz_ex _ _ _) (offs_ex _ _ _) (F0_n 2 [a]) (by rfl)) .same
theorem size_w (a v : Nd) : ends PP XX GG 5 (door PP 60 [a.val] .nil GG) [.go, .go, .go, .go, .mem v.val (MU a) (4 + 3), .go] [2] [4 + 1] = some (v.val, mkM [(4 + 1, .cells false v.cells)], [.call 45 [i64 7, .slice (some (⟨1536, 0, none⟩)) 1 1] (mkM [(4, .cells false [.int .i64 a.op, .bool a.neg, natV a.num, natV a.den, mkDat a.n a.cs]), (5, .cells false [i64 0, .bool false, .slice none 0 0, .slice none 0 0, .slice none 0 0]), (6, .cells false [.int .i64 a.op, .bool a.neg, natV a.num, natV a.den, mkDat a.n a.cs])]) 7 (.agg ⟨[.int .i64 v.op, .bool v.neg, natV v.num, natV v.den, mkDat v.n v.cs]⟩) (mkM [(4, .cells false [.int .i64 a.op, .bool a.neg, natV a.num, natV a.den, mkDat a.n a.cs]), (5, .cells false [i64 0, .bool false, .slice none 0 0, .slice none 0 0, .slice none 0 0]), (6, .frz [.int .i64 a.op, .bool a.neg, natV a.num, natV a.den, mkDat a.n a.cs])]) 7]) := by kernel_rfl
theorem size_ok (a : Ex) : PureOk PP GG tabs 60 [a.nd.val] (Ex.un 7 a).nd.val := by
  refine PureOk.of' ?_ (Ex.nl _) (by kernel_rfl) ?_
  · intro x hx
    simp only [List.mem_cons, List.not_mem_nil, or_false] at hx
    subst hx
    exact Ex.nl _
  · exact PT.ends (envOf F0_ok) (size_w a.nd (Ex.un 7 a).nd) (sm_row (vs := exL [a]) (by rfl) (Nat.le_refl _) (frz_ex _ _ _) (offs_ex _ _ _) (F0_n 7 [a]) (by rfl)) .same
theorem sqrt_w (a v : Nd) : ends PP XX GG 5 (door PP 59 [a.val] .nil GG) [.go, .go, .go, .go, .mem v.val (MU a) (4 + 3), .go] [2] [4 + 1] = some (v.val, mkM [(4 + 1, .cells false v.cells)], [.call 45 [i64 10, .slice (some (⟨1536, 0, none⟩)) 1 1] (mkM [(4, .cells false [.int .i64 a.op, .bool a.neg, natV a.num, natV a.den, mkDat a.n a.cs]), (5, .cells false [i64 0, .bool false, .slice none 0 0, .slice none 0 0, .slice none 0 0]), (6, .cells false [.int .i64 a.op, .bool a.neg, natV a.num, natV a.den, mkDat a.n a.cs])]) 7 (.agg ⟨[.int .i64 v.op, .bool v.neg, natV v.num, natV v.den, mkDat v.n v.cs]⟩) (mkM [(4, .cells false [.int .i64 a.op, .bool a.neg, natV a.num, natV a.den, mkDat a.n a.cs]), (5, .cells false [i64 0, .bool false, .slice none 0 0, .slice none 0 0, .slice none 0 0]), (6, .frz [.int .i64 a.op, .bool a.neg, natV a.num, natV a.den, mkDat a.n a.cs])]) 7]) := by kernel_rfl
theorem sqrt_ok (a : Ex) : PureOk PP GG tabs 59 [a.nd.val] (Ex.un 10 a).nd.val := by
  refine PureOk.of' ?_ (Ex.nl _) (by kernel_rfl) ?_
  · intro x hx
    simp only [List.mem_cons, List.not_mem_nil, or_false] at hx
    subst hx
    exact Ex.nl _
  · exact PT.ends (envOf F0_ok) (sqrt_w a.nd (Ex.un 10 a).nd) (sm_row (vs := exL [a]) (by rfl) (Nat.le_refl _) (frz_ex _ _ _) (offs_ex _ _ _) (F0_n 10 [a]) (by rfl)) .same
theorem exp_w (a v : Nd) : ends PP XX GG 5 (door PP 54 [a.val] .nil GG) [.go, .go, .go, .go, .mem v.val (MU a) (4 + 3), .go] [2] [4 + 1] = some (v.val, mkM [(4 + 1, .cells false v.cells)], [.call 45 [i64 11, .slice (some (⟨1536, 0, none⟩)) 1 1] (mkM [(4, .cells false [.int .i64 a.op, .bool a.neg, natV a.num, natV a.den, mkDat a.n a.cs]), (5, .cells false [i64 0, .bool false, .slice none 0 0, .slice none 0 0, .slice none 0 0]), (6, .cells false [.int .i64 a.op, .bool a.neg, natV a.num, natV a.den, mkDat a.n a.cs])]) 7 (.agg ⟨[.int .i64 v.op, .bool v.neg, natV v.num, natV v.den, mkDat v.n v.cs]⟩) (mkM [(4, .cells false [.int .i64 a.op, .bool a.neg, natV a.num, natV a.den, mkDat a.n a.cs]), (5, .cells false [i64 0, .bool false, .slice none 0 0, .slice none 0 0, .slice none 0 0]), (6, .frz [.int .i64 a.op, .bool a.neg, natV a.num, natV a.den, mkDat a.n a.cs])]) 7]) := by kernel_rfl
theorem exp_ok (a : Ex) : PureOk PP GG tabs 54 [a.nd.val] (Ex.un 11 a).nd.val := by
  refine PureOk.of' ?_ (Ex.nl _) (by kernel_rfl) ?_
  · intro x hx
    simp only [List.mem_cons, List.not_mem_nil, or_false] at hx
    subst hx
    exact Ex.nl _
  · exact PT.ends (envOf F0_ok) (exp_w a.nd (Ex.un 11 a).nd) (sm_row (vs := exL [a]) (by rfl) (Nat.le_refl _) (frz_ex _ _ _) (offs_ex _ _ _) (F0_n 11 [a]) (by rfl)) .same
theorem ln_w (a v : Nd) : ends PP XX GG 5 (door PP 56 [a.val] .nil GG) [.go, .go, .go, .go, .mem v.val (MU a) (4 + 3), .go] [2] [4 + 1] = some (v.val, mkM [(4 + 1, .cells false v.cells)], [.call 45 [i64 12, .slice (some (⟨1536, 0, none⟩)) 1 1] (mkM [(4, .cells false [.int .i64 a.op, .bool a.neg, natV a.num, natV a.den, mkDat a.n a.cs]), (5, .cells false [i64 0, .bool false, .slice none 0 0, .slice none 0 0, .slice none 0 0]), (6, .cells false [.int .i64 a.op, .bool a.neg, natV a.num, natV a.den, mkDat a.n a.cs])]) 7 (.agg ⟨[.int .i64 v.op, .bool v.neg, natV v.num, natV v.den, mkDat v.n v.cs]⟩) (mkM [(4, .cells false [.int .i64 a.op, .bool a.neg, natV a.num, natV a.den, mkDat a.n a.cs]), (5, .cells false [i64 0, .bool false, .slice none 0 0, .slice none 0 0, .slice none 0 0]), (6, .frz [.int .i64 a.op, .bool a.neg, natV a.num, natV a.den, mkDat a.n a.cs])]) 7]) := by kernel_rfl
theorem ln_ok (a : Ex) : PureOk PP GG tabs 56 [a.nd.val] (Ex.un 12 a).nd.val := by
  refine PureOk.of' ?_ (Ex.nl _) (by kernel_rfl) ?_
  · intro x hx
    simp only [List.mem_cons, List.not_mem_nil, or_false] at hx
    subst hx
    exact Ex.nl _
  · exact PT.ends (envOf F0_ok) (ln_w a.nd (Ex.un 12 a).nd) (sm_row (vs := exL [a]) (by rfl) (Nat.le_refl _) (frz_ex _ _ _) (offs_ex _ _ _) (F0_n 12 [a]) (by rfl)) .same
theorem sin_w (a v : Nd) : ends PP XX GG 5 (door PP 50 [a.val] .nil GG) [.go, .go, .go, .go, .mem v.val (MU a) (4 + 3), .go] [2] [4 + 1] = some (v.val, mkM [(4 + 1, .cells false v.cells)], [.call 45 [i64 13, .slice (some (⟨1536, 0, none⟩)) 1 1] (mkM [(4, .cells false [.int .i64 a.op, .bool a.neg, natV a.num, natV a.den, mkDat a.n a.cs]), (5, .cells false [i64 0, .bool false, .slice none 0 0, .slice none 0 0, .slice none 0 0]), (6, .cells false [.int .i64 a.op, .bool a.neg, natV a.num, natV a.den, mkDat a.n a.cs])]) 7 (.agg ⟨[.int .i64 v.op, .bool v.neg, natV v.num, natV v.den, mkDat v.n v.cs]⟩) (mkM [(4, .cells false [.int .i64 a.op, .bool a.neg, natV a.num, natV a.den, mkDat a.n a.cs]), (5, .cells false [i64 0, .bool false, .slice none 0 0, .slice none 0 0, .slice none 0 0]), (6, .frz [.int .i64 a.op, .bool a.neg, natV a.num, natV a.den, mkDat a.n a.cs])]) 7]) := by kernel_rfl
theorem sin_ok (a : Ex) : PureOk PP GG tabs 50 [a.nd.val] (Ex.un 13 a).nd.val := by
  refine PureOk.of' ?_ (Ex.nl _) (by kernel_rfl) ?_
  · intro x hx
    simp only [List.mem_cons, List.not_mem_nil, or_false] at hx
    subst hx
    exact Ex.nl _
  · exact PT.ends (envOf F0_ok) (sin_w a.nd (Ex.un 13 a).nd) (sm_row (vs := exL [a]) (by rfl) (Nat.le_refl _) (frz_ex _ _ _) (offs_ex _ _ _) (F0_n 13 [a]) (by rfl)) .same
theorem cos_w (a v : Nd) : ends PP XX GG 5 (door PP 51 [a.val] .nil GG) [.go, .go, .go, .go, .mem v.val (MU a) (4 + 3), .go] [2] [4 + 1] = some (v.val, mkM [(4 + 1, .cells false v.cells)], [.call 45 [i64 14, .slice (some (⟨1536, 0, none⟩)) 1 1] (mkM [(4, .cells false [.int .i64 a.op, .bool a.neg, natV a.num, natV a.den, mkDat a.n a.cs]), (5, .cells false [i64 0, .bool false, .slice none 0 0, .slice none 0 0, .slice none 0 0]), (6, .cells false [.int .i64 a.op, .bool a.neg, natV a.num, natV a.den, mkDat a.n a.cs])]) 7 (.agg ⟨[.int .i64 v.op, .bool v.neg, natV v.num, natV v.den, mkDat v.n v.cs]⟩) (mkM [(4, .cells false [.int .i64 a.op, .bool a.neg, natV a.num, natV a.den, mkDat a.n a.cs]), (5, .cells false [i64 0, .bool false, .slice none 0 0, .slice none 0 0, .slice none 0 0]), (6, .frz [.int .i64 a.op, .bool a.neg, natV a.num, natV a.den, mkDat a.n a.cs])]) 7]) := by kernel_rfl
theorem cos_ok (a : Ex) : PureOk PP GG tabs 51 [a.nd.val] (Ex.un 14 a).nd.val := by
  refine PureOk.of' ?_ (Ex.nl _) (by kernel_rfl) ?_
  · intro x hx
    simp only [List.mem_cons, List.not_mem_nil, or_false] at hx
    subst hx
    exact Ex.nl _
  · exact PT.ends (envOf F0_ok) (cos_w a.nd (Ex.un 14 a).nd) (sm_row (vs := exL [a]) (by rfl) (Nat.le_refl _) (frz_ex _ _ _) (offs_ex _ _ _) (F0_n 14 [a]) (by rfl)) .same
theorem atan_w (a v : Nd) : ends PP XX GG 5 (door PP 73 [a.val] .nil GG) [.go, .go, .go, .go, .mem v.val (MU a) (4 + 3), .go] [2] [4 + 1] = some (v.val, mkM [(4 + 1, .cells false v.cells)], [.call 45 [i64 15, .slice (some (⟨1536, 0, none⟩)) 1 1] (mkM [(4, .cells false [.int .i64 a.op, .bool a.neg, natV a.num, natV a.den, mkDat a.n a.cs]), (5, .cells false [i64 0, .bool false, .slice none 0 0, .slice none 0 0, .slice none 0 0]), (6, .cells false [.int .i64 a.op, .bool a.neg, natV a.num, natV a.den, mkDat a.n a.cs])]) 7 (.agg ⟨[.int .i64 v.op, .bool v.neg, natV v.num, natV v.den, mkDat v.n v.cs]⟩) (mkM [(4, .cells false [.int .i64 a.op, .bool a.neg, natV a.num, natV a.den, mkDat a.n a.cs]), (5, .cells false [i64 0, .bool false, .slice none 0 0, .slice none 0 0, .slice none 0 0]), (6, .frz [.int .i64 a.op, .bool a.neg, natV a.num, natV a.den, mkDat a.n a.cs])]) 7]) := by kernel_rfl
theorem atan_ok (a : Ex) : PureOk PP GG tabs 73 [a.nd.val] (Ex.un 15 a).nd.val := by
  refine PureOk.of' ?_ (Ex.nl _) (by kernel_rfl) ?_
  · intro x hx
    simp only [List.mem_cons, List.not_mem_nil, or_false] at hx
    subst hx
    exact Ex.nl _
  · exact PT.ends (envOf F0_ok) (atan_w a.nd (Ex.un 15 a).nd) (sm_row (vs := exL [a]) (by rfl) (Nat.le_refl _) (frz_ex _ _ _) (offs_ex _ _ _) (F0_n 15 [a]) (by rfl)) .same
theorem add_w (a b v : Nd) : ends PP XX GG 5 (door PP 48 [a.val, b.val] .nil GG) [.go, .go, .go, .go, .go, .go, .mem v.val (MA a b) (4 + 4), .go] [4] [4 + 2] = some (v.val, mkM [(4 + 2, .cells false v.cells)], [.call 45 [i64 3, .slice (some (⟨1792, 0, none⟩)) 2 2] (mkM [(4, .cells false [.int .i64 a.op, .bool a.neg, natV a.num, natV a.den, mkDat a.n a.cs]), (5, .cells false [.int .i64 b.op, .bool b.neg, natV b.num, natV b.den, mkDat b.n b.cs]), (6, .cells false [i64 0, .bool false, .slice none 0 0, .slice none 0 0, .slice none 0 0]), (7, .cells false [.int .i64 a.op, .bool a.neg, natV a.num, natV a.den, mkDat a.n a.cs, .int .i64 b.op, .bool b.neg, natV b.num, natV b.den, mkDat b.n b.cs])]) 8 (.agg ⟨[.int .i64 v.op, .bool v.neg, natV v.num, natV v.den, mkDat v.n v.cs]⟩) (mkM [(4, .cells false [.int .i64 a.op, .bool a.neg, natV a.num, natV a.den, mkDat a.n a.cs]), (5, .cells false [.int .i64 b.op, .bool b.neg, natV b.num, natV b.den, mkDat b.n b.cs]), (6, .cells false [i64 0, .bool false, .slice none 0 0, .slice none 0 0, .slice none 0 0]), (7, .frz [.int .i64 a.op, .bool a.neg, natV a.num, natV a.den, mkDat a.n a.cs, .int .i64 b.op, .bool b.neg, natV b.num, natV b.den, mkDat b.n b.cs])]) 8]) := by kernel_rfl
theorem add_ok (a b : Ex) : PureOk PP GG tabs 48 [a.nd.val, b.nd.val] (Ex.bin 3 a b).nd.val := by
  refine PureOk.of' ?_ (Ex.nl _) (by kernel_rfl) ?_
  · intro x hx
    simp only [List.mem_cons, List.not_mem_nil, or_false] at hx
    rcases hx with rfl | rfl <;> exact Ex.nl _
  · exact PT.ends (envOf F0_ok) (add_w a.nd b.nd (Ex.bin 3 a b).nd) (sm_row (vs := exL [a, b]) (by rfl) (Nat.le_refl _) (frz_ex _ _ _) (offs_ex _ _ _) (F0_n 3 [a, b]) (by rfl)) .same
theorem sub_w (a b v : Nd) : ends PP XX GG 5 (door PP 47 [a.val, b.val] .nil GG) [.go, .go, .go, .go, .go, .go, .mem v.val (MA a b) (4 + 4), .go] [4] [4 + 2] = some (v.val, mkM [(4 + 2, .cells false v.cells)], [.call 45 [i64 4, .slice (some (⟨1792, 0, none⟩)) 2 2] (mkM [(4, .cells false [.int .i64 a.op, .bool a.neg, natV a.num, natV a.den, mkDat a.n a.cs]), (5, .cells false [.int .i64 b.op, .bool b.neg, natV b.num, natV b.den, mkDat b.n b.cs]), (6, .cells false [i64 0, .bool false, .slice none 0 0, .slice none 0 0, .slice none 0 0]), (7, .cells false [.int .i64 a.op, .bool a.neg, natV a.num, natV a.den, mkDat a.n a.cs, .int .i64 b.op, .bool b.neg, natV b.num, natV b.den, mkDat b.n b.cs])]) 8 (.agg ⟨[.int .i64 v.op, .bool v.neg, natV v.num, natV v.den, mkDat v.n v.cs]⟩) (mkM [(4, .cells false [.int .i64 a.op, .bool a.neg, natV a.num, natV a.den, mkDat a.n a.cs]), (5, .cells false [.int .i64 b.op, .bool b.neg, natV b.num, natV b.den, mkDat b.n b.cs]), (6, .cells false [i64 0, .bool false, .slice none 0 0, .slice none 0 0, .slice none 0 0]), (7, .frz [.int .i64 a.op, .bool a.neg, natV a.num, natV a.den, mkDat a.n a.cs, .int .i64 b.op, .bool b.neg, natV b.num, natV b.den, mkDat b.n b.cs])]) 8]) := by kernel_rfl
theorem sub_ok (a b : Ex) : PureOk PP GG tabs 47 [a.nd.val, b.nd.val] (Ex.bin 4 a b).nd.val := by
  refine PureOk.of' ?_ (Ex.nl _) (by kernel_rfl) ?_
  · intro x hx
    simp only [List.mem_cons, List.not_mem_nil, or_false] at hx
    rcases hx with rfl | rfl <;> exact Ex.nl _
  · exact PT.ends (envOf F0_ok) (sub_w a.nd b.nd (Ex.bin 4 a b).nd) (sm_row (vs := exL [a, b]) (by rfl) (Nat.le_refl _) (frz_ex _ _ _) (offs_ex _ _ _) (F0_n 4 [a, b]) (by rfl)) .same
theorem mul_w (a b v : Nd) : ends PP XX GG 5 (door PP 49 [a.val, b.val] .nil GG) [.go, .go, .go, .go, .go, .go, .mem v.val (MA a b) (4 + 4), .go] [4] [4 + 2] = some (v.val, mkM [(4 + 2, .cells false v.cells)], [.call 45 [i64 5, .slice (some (⟨1792, 0, none⟩)) 2 2] (mkM [(4, .cells false [.int .i64 a.op, .bool a.neg, natV a.num, natV a.den, mkDat a.n a.cs]), (5, .cells false [.int .i64 b.op, .bool b.neg, natV b.num, natV b.den, mkDat b.n b.cs]), (6, .cells false [i64 0, .bool false, .slice none 0 0, .slice none 0 0, .slice none 0 0]), (7, .cells false [.int .i64 a.op, .bool a.neg, natV a.num, natV a.den, mkDat a.n a.cs, .int .i64 b.op, .bool b.neg, natV b.num, natV b.den, mkDat b.n b.cs])]) 8 (.agg ⟨[.int .i64 v.op, .bool v.neg, natV v.num, natV v.den, mkDat v.n v.cs]⟩) (mkM [(4, .cells false [.int .i64 a.op, .bool a.neg, natV a.num, natV a.den, mkDat a.n a.cs]), (5, .cells false [.int .i64 b.op, .bool b.neg, natV b.num, natV b.den, mkDat b.n b.cs]), (6, .cells false [i64 0, .bool false, .slice none 0 0, .slice none 0 0, .slice none 0 0]), (7, .frz [.int .i64 a.op, .bool a.neg, natV a.num, natV a.den, mkDat a.n a.cs, .int .i64 b.op, .bool b.neg, natV b.num, natV b.den, mkDat b.n b.cs])]) 8]) := by kernel_rfl
theorem mul_ok (a b : Ex) : PureOk PP GG tabs 49 [a.nd.val, b.nd.val] (Ex.bin 5 a b).nd.val := by
  refine PureOk.of' ?_ (Ex.nl _) (by kernel_rfl) ?_
  · intro x hx
    simp only [List.mem_cons, List.not_mem_nil, or_false] at hx
    rcases hx with rfl | rfl <;> exact Ex.nl _
  · exact PT.ends (envOf F0_ok) (mul_w a.nd b.nd (Ex.bin 5 a b).nd) (sm_row (vs := exL [a, b]) (by rfl) (Nat.le_refl _) (frz_ex _ _ _) (offs_ex _ _ _) (F0_n 5 [a, b]) (by rfl)) .same
theorem quo_w (a b v : Nd) : ends PP XX GG 5 (door PP 71 [a.val, b.val] .nil GG) [.go, .go, .go, .go, .go, .go, .mem v.val (MA a b) (4 + 4), .go] [4] [4 + 2] = some (v.val, mkM [(4 + 2, .cells false v.cells)], [.call 45 [i64 6, .slice (some (⟨1792, 0, none⟩)) 2 2] (mkM [(4, .cells false [.int .i64 a.op, .bool a.neg, natV a.num, natV a.den, mkDat a.n a.cs]), (5, .cells false [.int .i64 b.op, .bool b.neg, natV b.num, natV b.den, mkDat b.n b.cs]), (6, .cells false [i64 0, .bool false, .slice none 0 0, .slice none 0 0, .slice none 0 0]), (7, .cells false [.int .i64 a.op, .bool a.neg, natV a.num, natV a.den, mkDat a.n a.cs, .int .i64 b.op, .bool b.neg, natV b.num, natV b.den, mkDat b.n b.cs])]) 8 (.agg ⟨[.int .i64 v.op, .bool v.neg, natV v.num, natV v.den, mkDat v.n v.cs]⟩) (mkM [(4, .cells false [.int .i64 a.op, .bool a.neg, natV a.num, natV a.den, mkDat a.n a.cs]), (5, .cells false [.int .i64 b.op, .bool b.neg, natV b.num, natV b.den, mkDat b.n b.cs]), (6, .cells false [i64 0, .bool false, .slice none 0 0, .slice none 0 0, .slice none 0 0]), (7, .frz [.int .i64 a.op, .bool a.neg, natV a.num, natV a.den, mkDat a.n a.cs, .int .i64 b.op, .bool b.neg, natV b.num, natV b.den, mkDat b.n b.cs])]) 8]) := by kernel_rfl
theorem quo_ok (a b : Ex) : PureOk PP GG tabs 71 [a.nd.val, b.nd.val] (Ex.bin 6 a b).nd.val := by
  refine PureOk.of' ?_ (Ex.nl _) (by kernel_rfl) ?_
  · intro x hx
    simp only [List.mem_cons, List.not_mem_nil, or_false] at hx
    rcases hx with rfl | rfl <;> exact Ex.nl _
  · exact PT.ends (envOf F0_ok) (quo_w a.nd b.nd (Ex.bin 6 a b).nd) (sm_row (vs := exL [a, b]) (by rfl) (Nat.le_refl _) (frz_ex _ _ _) (offs_ex _ _ _) (F0_n 6 [a, b]) (by rfl)) .same
theorem num1_ok : PureOk PP GG tabs 52 [i64 1] (Ex.num 1).nd.val := by
  refine pure_run (n := 2000) ?_ (Ex.nl _) (by kernel_rfl) (by kernel_rfl) (by kernel_rfl) (by kernel_rfl)
  intro x hx
  simp only [List.mem_cons, List.not_mem_nil, or_false] at hx
  subst hx
  exact nl_int
theorem num2_ok : PureOk PP GG tabs 52 [i64 2] (Ex.num 2).nd.val := by
  refine pure_run (n := 2000) ?_ (Ex.nl _) (by kernel_rfl) (by kernel_rfl) (by kernel_rfl) (by kernel_rfl)
  intro x hx
  simp only [List.mem_cons, List.not_mem_nil, or_false] at hx
  subst hx
  exact nl_int
noncomputable def F1 : Known := (((((((((((((F0.add 68 (eI (fun x : Ex => [x.nd.val]) (fun _ => True) fun x => (Ex.un 2 x).nd.val)).add 60 (eI (fun x : Ex => [x.nd.val]) (fun _ => True) fun x => (Ex.un 7 x).nd.val)).add 59 (eI (fun x : Ex => [x.nd.val]) (fun _ => True) fun x => (Ex.un 10 x).nd.val)).add 54 (eI (fun x : Ex => [x.nd.val]) (fun _ => True) fun x => (Ex.un 11 x).nd.val)).add 56 (eI (fun x : Ex => [x.nd.val]) (fun _ => True) fun x => (Ex.un 12 x).nd.val)).add 50 (eI (fun x : Ex => [x.nd.val]) (fun _ => True) fun x => (Ex.un 13 x).nd.val)).add 51 (eI (fun x : Ex => [x.nd.val]) (fun _ => True) fun x => (Ex.un 14 x).nd.val)).add 73 (eI (fun x : Ex => [x.nd.val]) (fun _ => True) fun x => (Ex.un 15 x).nd.val)).add 48 (eI (fun x : Ex × Ex => [x.1.nd.val, x.2.nd.val]) (fun _ => True) fun x => (Ex.bin 3 x.1 x.2).nd.val)).add 47 (eI (fun x : Ex × Ex => [x.1.nd.val, x.2.nd.val]) (fun _ => True) fun x => (Ex.bin 4 x.1 x.2).nd.val)).add 49 (eI (fun x : Ex × Ex => [x.1.nd.val, x.2.nd.val]) (fun _ => True) fun x => (Ex.bin 5 x.1 x.2).nd.val)).add 71 (eI (fun x : Ex × Ex => [x.1.nd.val, x.2.nd.val]) (fun _ => True) fun x => (Ex.bin 6 x.1 x.2).nd.val)).add 52 (eI (fun x : Nat => [i64 x]) (fun x => x = 1 ∨ x = 2) fun x => (Ex.num x).nd.val))
theorem F1_ok : F1.Ok PP GG tabs := Known.add_ok (Known.add_ok (Known.add_ok (Known.add_ok (Known.add_ok (Known.add_ok (Known.add_ok (Known.add_ok (Known.add_ok (Known.add_ok (Known.add_ok (Known.add_ok (Known.add_ok F0_ok (eI_ok fun x _ => neg_ok x)) (eI_ok fun x _ => size_ok x)) (eI_ok fun x _ => sqrt_ok x)) (eI_ok fun x _ => exp_ok x)) (eI_ok fun x _ => ln_ok x)) (eI_ok fun x _ => sin_ok x)) (eI_ok fun x _ => cos_ok x)) (eI_ok fun x _ => atan_ok x)) (eI_ok fun x _ => add_ok x.1 x.2)) (eI_ok fun x _ => sub_ok x.1 x.2)) (eI_ok fun x _ => mul_ok x.1 x.2)) (eI_ok fun x _ => quo_ok x.1 x.2)) (eI_ok fun x h => by rcases h with rfl | rfl; exact num1_ok; exact num2_ok)
theorem c_neg (a : Ex) (M : Tr Blk) (nx : Nat) : F1.sm 68 [a.nd.val] M nx = some ((Ex.un 2 a).nd.val, M, nx) := ex_call ((add_other rfl).trans ((add_other rfl).trans ((add_other rfl).trans ((add_other rfl).trans ((add_other rfl).trans ((add_other rfl).trans ((add_other rfl).trans ((add_other rfl).trans ((add_other rfl).trans ((add_other rfl).trans ((add_other rfl).trans ((add_other rfl).trans (add_same.trans (eI_of ex_inj1 trivial))))))))))))))
theorem c_size (a : Ex) (M : Tr Blk) (nx : Nat) : F1.sm 60 [a.nd.val] M nx = some ((Ex.un 7 a).nd.val, M, nx) := ex_call ((add_other rfl).trans ((add_other rfl).trans ((add_other rfl).trans ((add_other rfl).trans ((add_other rfl).trans ((add_other rfl).trans ((add_other rfl).trans ((add_other rfl).trans ((add_other rfl).trans ((add_other rfl).trans ((add_other rfl).trans (add_same.trans (eI_of ex_inj1 trivial)))))))))))))
theorem c_sqrt (a : Ex) (M : Tr Blk) (nx : Nat) : F1.sm 59 [a.nd.val] M nx = some ((Ex.un 10 a).nd.val, M, nx) := ex_call ((add_other rfl).trans ((add_other rfl).trans ((add_other rfl).trans ((add_other rfl).trans ((add_other rfl).trans ((add_other rfl).trans ((add_other rfl).trans ((add_other rfl).trans ((add_other rfl).trans ((add_other rfl).trans (add_same.trans (eI_of ex_inj1 trivial))))))))))))
theorem c_exp (a : Ex) (M : Tr Blk) (nx : Nat) : F1.sm 54 [a.nd.val] M nx = some ((Ex.un 11 a).nd.val, M, nx) := ex_call ((add_other rfl).trans ((add_other rfl).trans ((add_other rfl).trans ((add_other rfl).trans ((add_other rfl).trans ((add_other rfl).trans ((add_other rfl).trans ((add_other rfl).trans ((add_other rfl).trans (add_same.trans (eI_of ex_inj1 trivial)))))))))))
theorem c_ln (a : Ex) (M : Tr Blk) (nx : Nat) : F1.sm 56 [a.nd.val] M nx = some ((Ex.un 12 a).nd.val, M, nx) := ex_call ((add_other rfl).trans ((add_other rfl).trans ((add_other rfl).trans ((add_other rfl).trans ((add_other rfl).trans ((add_other rfl).trans ((add_other rfl).trans ((add_other rfl).trans (add_same.trans (eI_of ex_inj1 trivial))))))))))
theorem c_sin (a : Ex) (M : Tr Blk) (nx : Nat) : F1.sm 50 [a.nd.val] M nx = some ((Ex.un 13 a).nd.val, M, nx) := ex_call ((add_other rfl).trans ((add_other rfl).trans ((add_other rfl).trans ((add_other rfl).trans ((add_other rfl).trans ((add_other rfl).trans ((add_other rfl).trans (add_same.trans (eI_of ex_inj1 trivial)))))))))
theorem c_cos (a : Ex) (M : Tr Blk) (nx : Nat) : F1.sm 51 [a.nd.val] M nx = some ((Ex.un 14 a).nd.val, M, nx) := ex_call ((add_other rfl).trans ((add_other rfl).trans ((add_other rfl).trans ((add_other rfl).trans ((add_other rfl).trans ((add_other rfl).trans (add_same.trans (eI_of ex_inj1 trivial))))))))
theorem c_atan (a : Ex) (M : Tr Blk) (nx : Nat) : F1.sm 73 [a.nd.val] M nx = some ((Ex.un 15 a).nd.val, M, nx) := ex_call ((add_other rfl).trans ((add_other rfl).trans ((add_other rfl).trans ((add_other rfl).trans ((add_other rfl).trans (add_same.trans (eI_of ex_inj1 trivial)))))))
theorem c_add (a b : Ex) (M : Tr Blk) (nx : Nat) : F1.sm 48 [a.nd.val, b.nd.val] M nx = some ((Ex.bin 3 a b).nd.val, M, nx) := ex_call2 ((add_other rfl).trans ((add_other rfl).trans ((add_other rfl).trans ((add_other rfl).trans (add_same.trans (eI_of (x := (a, b)) ex_inj2 trivial))))))
theorem c_sub (a b : Ex) (M : Tr Blk) (nx : Nat) : F1.sm 47 [a.nd.val, b.nd.val] M nx = some ((Ex.bin 4 a b).nd.val, M, nx) := ex_call2 ((add_other rfl).trans ((add_other rfl).trans ((add_other rfl).trans (add_same.trans (eI_of (x := (a, b)) ex_inj2 trivial)))))
theorem c_mul (a b : Ex) (M : Tr Blk) (nx : Nat) : F1.sm 49 [a.nd.val, b.nd.val] M nx = some ((Ex.bin 5 a b).nd.val, M, nx) := ex_call2 ((add_other rfl).trans ((add_other rfl).trans (add_same.trans (eI_of (x := (a, b)) ex_inj2 trivial))))
theorem c_quo (a b : Ex) (M : Tr Blk) (nx : Nat) : F1.sm 71 [a.nd.val, b.nd.val] M nx = some ((Ex.bin 6 a b).nd.val, M, nx) := ex_call2 ((add_other rfl).trans (add_same.trans (eI_of (x := (a, b)) ex_inj2 trivial)))
theorem c_num1 (M : Tr Blk) (nx : Nat) : F1.sm 52 [i64 1] M nx = some ((Ex.num 1).nd.val, M, nx) := pureCall (by simp [frz_int]) (by simp [offs_int]) (add_same.trans (eI_of (x := 1) (fun x y h => by simp only [List.cons.injEq, Value.int.injEq, and_true, true_and] at h; exact Int.ofNat.inj h) (by decide)))
theorem c_num2 (M : Tr Blk) (nx : Nat) : F1.sm 52 [i64 2] M nx = some ((Ex.num 2).nd.val, M, nx) := pureCall (by simp [frz_int]) (by simp [offs_int]) (add_same.trans (eI_of (x := 2) (fun x y h => by simp only [List.cons.injEq, Value.int.injEq, and_true, true_and] at h; exact Int.ofNat.inj h) (by decide)))
theorem F1_n (o : Int) (l : List Ex) : F1 45 [.int .i64 o, mkDat l.length (exL l)] = some (Ex.mk o false [] [] l).nd.val := (add_other rfl).trans ((add_other rfl).trans ((add_other rfl).trans ((add_other rfl).trans ((add_other rfl).trans ((add_other rfl).trans ((add_other rfl).trans ((add_other rfl).trans ((add_other rfl).trans ((add_other rfl).trans ((add_other rfl).trans ((add_other rfl).trans ((add_other rfl).trans (F0_n o l)))))))))))))
end BX
end Go.Proofs.YtihloomkgpflmaaGreatDoor

namespace Go.Proofs.YtihloomkgpflmaaGreatDoor
open Go.Proofs.YtihloomkgpflmaaGreatDoor.Vm
/-- surd/expr.rows. -/
def rowsCells : List Value :=
 [.int .i64 (.ofNat 0), .string ⟨#[]⟩, .int .i64 (.ofNat 0),
  .int .i64 (.ofNat 1), .string ⟨#[112, 105]⟩, .int .i64 (.ofNat 0),
  .int .i64 (.ofNat 2), .string ⟨#[45]⟩, .int .i64 (.ofNat 1),
  .int .i64 (.ofNat 3), .string ⟨#[43]⟩, .int .i64 (.ofNat 2),
  .int .i64 (.ofNat 4), .string ⟨#[45]⟩, .int .i64 (.ofNat 2),
  .int .i64 (.ofNat 5), .string ⟨#[42]⟩, .int .i64 (.ofNat 2),
  .int .i64 (.ofNat 6), .string ⟨#[47]⟩, .int .i64 (.ofNat 2),
  .int .i64 (.ofNat 7), .string ⟨#[97, 98, 115]⟩, .int .i64 (.ofNat 1),
  .int .i64 (.ofNat 8), .string ⟨#[109, 105, 110]⟩, .int .i64 (.ofNat 2),
  .int .i64 (.ofNat 9), .string ⟨#[109, 97, 120]⟩, .int .i64 (.ofNat 2),
  .int .i64 (.ofNat 10), .string ⟨#[115, 113, 114, 116]⟩, .int .i64 (.ofNat 1),
  .int .i64 (.ofNat 11), .string ⟨#[101, 120, 112]⟩, .int .i64 (.ofNat 1),
  .int .i64 (.ofNat 12), .string ⟨#[108, 110]⟩, .int .i64 (.ofNat 1),
  .int .i64 (.ofNat 13), .string ⟨#[115, 105, 110]⟩, .int .i64 (.ofNat 1),
  .int .i64 (.ofNat 14), .string ⟨#[99, 111, 115]⟩, .int .i64 (.ofNat 1),
  .int .i64 (.ofNat 15), .string ⟨#[97, 116, 97, 110]⟩, .int .i64 (.ofNat 1)]
/-- math/bits.deBruijn64tab. -/
def bruijnCells : List Value :=
 [.int .u8 (.ofNat 0), .int .u8 (.ofNat 1), .int .u8 (.ofNat 56), .int .u8 (.ofNat 2), .int .u8 (.ofNat 57), .int .u8 (.ofNat 49), .int .u8 (.ofNat 28), .int .u8 (.ofNat 3),
  .int .u8 (.ofNat 61), .int .u8 (.ofNat 58), .int .u8 (.ofNat 42), .int .u8 (.ofNat 50), .int .u8 (.ofNat 38), .int .u8 (.ofNat 29), .int .u8 (.ofNat 17), .int .u8 (.ofNat 4),
  .int .u8 (.ofNat 62), .int .u8 (.ofNat 47), .int .u8 (.ofNat 59), .int .u8 (.ofNat 36), .int .u8 (.ofNat 45), .int .u8 (.ofNat 43), .int .u8 (.ofNat 51), .int .u8 (.ofNat 22),
  .int .u8 (.ofNat 53), .int .u8 (.ofNat 39), .int .u8 (.ofNat 33), .int .u8 (.ofNat 30), .int .u8 (.ofNat 24), .int .u8 (.ofNat 18), .int .u8 (.ofNat 12), .int .u8 (.ofNat 5),
  .int .u8 (.ofNat 63), .int .u8 (.ofNat 55), .int .u8 (.ofNat 48), .int .u8 (.ofNat 27), .int .u8 (.ofNat 60), .int .u8 (.ofNat 41), .int .u8 (.ofNat 37), .int .u8 (.ofNat 16),
  .int .u8 (.ofNat 46), .int .u8 (.ofNat 35), .int .u8 (.ofNat 44), .int .u8 (.ofNat 21), .int .u8 (.ofNat 52), .int .u8 (.ofNat 32), .int .u8 (.ofNat 23), .int .u8 (.ofNat 11),
  .int .u8 (.ofNat 54), .int .u8 (.ofNat 26), .int .u8 (.ofNat 40), .int .u8 (.ofNat 15), .int .u8 (.ofNat 34), .int .u8 (.ofNat 20), .int .u8 (.ofNat 31), .int .u8 (.ofNat 10),
  .int .u8 (.ofNat 25), .int .u8 (.ofNat 14), .int .u8 (.ofNat 19), .int .u8 (.ofNat 9), .int .u8 (.ofNat 13), .int .u8 (.ofNat 8), .int .u8 (.ofNat 7), .int .u8 (.ofNat 6)]
def tabsD : List (Nat × List Value) := [(0, rowsCells), (1, bruijnCells)]
end Go.Proofs.YtihloomkgpflmaaGreatDoor

namespace Go.Proofs.YtihloomkgpflmaaGreatDoor
open Go.Proofs.YtihloomkgpflmaaGreatDoor.Vm
noncomputable def extA : Exts := (X0.add 168 subX).add 165 addX
theorem extA_ok (w0 : World) : XOk PP GG w0 extA := (X0_ok.add (subX_ok fun args w => run_callFunc_extern Tryz.func168 (by kernel_rfl) (by kernel_rfl) (by kernel_rfl) (e := sub64E) (by kernel_rfl) args w)).add (addX_ok fun args w => run_callFunc_extern Tryz.func165 (by kernel_rfl) (by kernel_rfl) (by kernel_rfl) (e := add64E) (by kernel_rfl) args w)
set_option maxRecDepth 1000000 in
theorem awake_ran : ranR PP extA GG 100000 tabsD 5 [] true = true := by kernel_rfl
theorem answers_v {r : Option Res} {t : Bool} (h : answers t r = true) : ∃ up M nx, r = some (.ret (.bool t) up M nx) := answers_spec h
theorem awake_ok : PureOk PP GG tabsD 5 [] (.bool true) := by
  have h := ranR_eq awake_ran
  unfold ran at h
  split at h
  · rename_i fr hfr
    obtain ⟨up, M, nx, hr⟩ := answers_v h
    exact pure_of_run mixed (fun w0 _ => extA_ok w0) fok (fun x hx => by cases hx) ⟨1, rfl⟩ hfr hr .same
  · cases h
#print axioms awake_ok
end Go.Proofs.YtihloomkgpflmaaGreatDoor

namespace Go.Proofs.YtihloomkgpflmaaGreatDoor
open Go.Proofs.YtihloomkgpflmaaGreatDoor.Vm
variable {tabs : List (Nat × List Value)}
theorem nl_pi : Nl (mkPtr Ex.pi.nd.cells) := ⟨5, rfl⟩
theorem load_nd (M : Tr Blk) (d : Nd) : aLoad PP M 31 (mkPtr d.cells) = some d.val := by
  have := load_size (P := PP) (M := M) (t := 31) (cs := d.cells) (rest := []) gEx sEx
  rwa [List.append_nil] at this
namespace BR
noncomputable abbrev ML (a b p : Rd) : Tr Blk := mkM [(4, .cells false a.cells), (5, .cells false b.cells), (6, .cells false [i64 0, .bool false, .slice none 0 0, .slice none 0 0, .bool false, .slice none 0 0]), (7, .cells false p.cells)]
theorem pi_call (M : Tr Blk) (nx : Nat) : F1.sm 27 [i64 1, .slice none 0 0] M nx = some (Er.pi.nd.val, M, nx) := by
  have h1 : ([i64 1, Value.slice none 0 0]).map (frzV 12 M) = [i64 1, mkDat ([] : List Er).length (erL [])] := rfl
  have h2 : ([i64 1, Value.slice none 0 0]).flatMap (offs 12 M) = [] := rfl
  have h3 : F1.pf 27 [i64 1, mkDat ([] : List Er).length (erL [])] = some Er.pi.nd.val := F1_n 1 []
  simp only [Known.sm, h1, h2, h3, offM]
end BR
namespace BX
noncomputable abbrev ML (a b : Nd) : Tr Blk := mkM [(4, .cells false a.cells), (5, .cells false b.cells), (6, .cells false [i64 0, .bool false, .slice none 0 0, .slice none 0 0, .slice none 0 0])]
theorem pi_node (M : Tr Blk) (nx : Nat) : F1.sm 45 [i64 1, .slice none 0 0] M nx = some (Ex.pi.nd.val, M, nx) := by
  have h1 : ([i64 1, Value.slice none 0 0]).map (frzV 12 M) = [i64 1, mkDat ([] : List Ex).length (exL [])] := rfl
  have h2 : ([i64 1, Value.slice none 0 0]).flatMap (offs 12 M) = [] := rfl
  have h3 : F1.pf 45 [i64 1, mkDat ([] : List Ex).length (exL [])] = some Ex.pi.nd.val := F1_n 1 []
  simp only [Known.sm, h1, h2, h3, offM]
end BX
end Go.Proofs.YtihloomkgpflmaaGreatDoor
