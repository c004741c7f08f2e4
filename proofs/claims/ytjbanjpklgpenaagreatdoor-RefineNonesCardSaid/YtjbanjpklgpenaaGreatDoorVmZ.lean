/-
  THE ABSTRACT INTERPRETER, part Z: a whole call, from what the interpreter answers; math/bits.Add64 and Sub64.
-/
import Derived.Test.YtjbanjpklgpenaaGreatDoorVmY
import Derived.ChangeFn
import Derived.Deep.Onto
import Derived.KernelRfl
namespace Go.Proofs.YtjbanjpklgpenaaGreatDoor.Vm

def iota0 (G : Nat) : Iota := fun b => if b % 256 = 0 ∧ b / 256 < G then some ⟨b / 256, none⟩ else none
theorem iota0_some {G b : Nat} {l : Loc} (h : iota0 G b = some l) : b % 256 = 0 ∧ b / 256 < G ∧ l = ⟨b / 256, none⟩ := by
  unfold iota0 at h
  split at h
  · rename_i hc
    simp at h; exact ⟨hc.1, hc.2, h.symm⟩
  · cases h

/-- The interpreter's memory at a call's beginning: the tables. -/
noncomputable def Mof : List (Nat × List Value) → Tr Blk
  | [] => .nil
  | (n, vs) :: r => (Mof r).set n (.cells true vs)
theorem Mof_get {n : Nat} {x : Blk} : ∀ {l : List (Nat × List Value)}, (Mof l).get n = some x → ∃ vs, (n, vs) ∈ l ∧ x = .cells true vs
  | [], h => by simp [Mof, Tr.get_nil] at h
  | (m, vs) :: r, h => by
    simp only [Mof] at h
    by_cases e : n = m
    · subst e
      rw [Tr.get_set_same] at h
      simp at h; subst h
      exact ⟨vs, by simp, rfl⟩
    · rw [Tr.get_set_ne _ _ e] at h
      obtain ⟨us, h1, h2⟩ := Mof_get h
      exact ⟨us, List.mem_cons_of_mem _ h1, h2⟩

theorem vrl_self {ι : Iota} : ∀ {vs : List Value}, vs.all okc = true → VRL ι vs vs
  | [], _ => .nil
  | v :: vs, h => by
    simp only [List.all_cons, Bool.and_eq_true] at h
    exact .cons (okc_self v h.1) (vrl_self h.2)

def Laid (G : Nat) (tabs : List (Nat × List Value)) (W : World) : Prop := ∀ n vs, (n, vs) ∈ tabs → n < G ∧ vs.all okc = true ∧ ∃ arr ty, W.heap[n]? = some (.cells arr ty (0, 0)) ∧ arr.toList = vs

theorem R_start {G : Nat} {tabs : List (Nat × List Value)} {W : World} (h : Laid G tabs W) : R W (iota0 G) (Mof tabs) W := by
  refine ⟨?_, ?_, ?_, ?_, ?_, Nat.le_refl _, fun _ _ => rfl, rfl, rfl, rfl⟩
  · intro b l hb
    obtain ⟨h1, _, rfl⟩ := iota0_some hb
    exact ⟨fun _ => h1, fun _ => rfl⟩
  · intro b b' l l' hb hb' e
    have h1 := (iota0_some hb).1
    have h2 := (iota0_some hb').1
    omega
  · intro b x l hm hb
    obtain ⟨h1, h2, rfl⟩ := iota0_some hb
    obtain ⟨vs, hv, rfl⟩ := Mof_get hm
    obtain ⟨_, hok, arr, ty, h3, h4⟩ := h _ _ hv
    refine ⟨_, h3, .cells rfl ?_⟩
    rw [h4]; exact vrl_self hok
  · intro b b' x x' l l' _ _ _ _ hb hb' e
    obtain ⟨h1, _, rfl⟩ := iota0_some hb
    obtain ⟨h2, _, rfl⟩ := iota0_some hb'
    simp only at e
    omega
  · intro b x l hm hw hb
    obtain ⟨vs, _, rfl⟩ := Mof_get hm
    simp [Blk.wr] at hw

def answers (t : Bool) : Option Res → Bool
  | some (.ret (.bool b) _ _ _) => b == t
  | _ => false
theorem answers_spec {t : Bool} {r : Option Res} (h : answers t r = true) : ∃ up M nx, r = some (.ret (.bool t) up M nx) := by
  unfold answers at h
  split at h
  · rename_i b up M nx
    simp at h; subst h
    exact ⟨up, M, nx, rfl⟩
  · cases h
/-- A call of function f, by the interpreter, is true (false). -/
noncomputable def ran (P : Program) (X : Exts) (G n : Nat) (tabs : List (Nat × List Value)) (f : FuncId) (args : List Value) (t : Bool) : Bool := match enterFr P f args false .run (Mof tabs) G with
  | some fr => answers t (vrun P X G n fr)
  | none => false

theorem call_of_run {P : Program} {X : Exts} (hm : P.follows .mixedOrders = true) {G n : Nat} (hX : ∀ w0, XOk P G w0 X) (hF : FOk P) {tabs : List (Nat × List Value)} {f : FuncId} {args : List Value} {t : Bool} (h : ran P X G n tabs f args t = true) {W : World} (hl : Laid G tabs W)
    {bs : Array Value} (ha : VRL (iota0 G) args bs.toList) : Calls P f bs W fun e W' => e = .returned (.bool t) ∧ W'.os = W.os ∧ W'.output = W.output ∧ W.heap.size ≤ W'.heap.size ∧ ∀ i, i < W.heap.size → W'.heap[i]? = W.heap[i]? := by
  intro cs
  unfold ran at h
  split at h
  · rename_i fr hfr
    obtain ⟨up, M, nx, hr⟩ := answers_spec h
    obtain ⟨b, a, e1, e2, e3, e4, e5, e6, e7⟩ := enterFr_rel (ι := iota0 G) (cs := cs) hfr ha (fun x => by cases x)
    simp only [Bool.false_eq_true, if_false] at e1
    obtain ⟨κ, w', p1, p2⟩ := (vrun_sound (w0 := W) (hX W) hF (draws hm (hX W) hF) n fr _ hr).sound (iota0 G) b a .run cs W (by rw [e3]; exact R_start hl) (fun g hg => by unfold iota0; rw [if_pos ⟨by omega, by omega⟩]; congr 2; omega) e2
      (by
        rw [e4]
        intro c hc
        unfold iota0
        rw [if_neg (by omega)]) (fun x => absurd e6 x)
    cases p2 with
    | ret hr0 hs hads hfn hres hv hcs =>
      rename_i u a2 todo2 fn cs'
      rw [e5] at hcs
      simp only [UpTo] at hcs
      subst hcs
      cases hv
      have hbk : b.kind = .normal := by have := e2.kind; rw [e5] at this; simpa using this
      refine ⟨.returned (.bool t), w', atM b a2 todo2 .returning, ⟨rfl, p1.rel.os, p1.rel.output, p1.rel.size, p1.rel.old⟩, ?_, e7, ⟨rfl, hads, hbk, fn, hfn, hres⟩⟩
      rw [e1]
      exact hs
    | round hr0 => exact absurd e6 hr0
  · cases h

/-- .. whatever its arguments: it does not look at them. -/
theorem call_of_run_any {P : Program} {X : Exts} (hm : P.follows .mixedOrders = true) {G n : Nat} (hX : ∀ w0, XOk P G w0 X) (hF : FOk P) {tabs : List (Nat × List Value)} {f : FuncId} {t : Bool} (h : ran P X G n tabs f [] t = true) {W : World} (hl : Laid G tabs W)
    {bs : Array Value} (hb : ∀ fn, P.funcs[f]? = some fn → bs.size ≤ fn.ntmps) : Calls P f bs W fun e W' => e = .returned (.bool t) ∧ W'.os = W.os ∧ W'.output = W.output ∧ W.heap.size ≤ W'.heap.size ∧ (∀ i, i < W.heap.size → W'.heap[i]? = W.heap[i]?) ∧ W'.tape = W.tape := by
  intro cs
  unfold ran at h
  split at h
  · rename_i fr hfr
    obtain ⟨up, M, nx, hr⟩ := answers_spec h
    unfold enterFr at hfr
    split at hfr
    · rename_i fn hfn
      split at hfr
      · rename_i c hc
        simp at hfr
        have hsz := hb fn hfn
        let b : Frame := { (default : Frame) with fn := f, kind := .normal }
        let a : Act := { tmps := bs ++ Array.replicate (fn.ntmps - bs.size) undef, defers := [] }
        have e1 : Frame.enter P f bs .normal = atM b a fr.todo .run := by
          rw [← hfr]
          simp only [Frame.enter, hfn, Option.map_some, Option.getD_some, Option.bind_some, hc, atM, Frame.atR]
          rfl
        have e2 : FrR P (iota0 G) fr b a .run cs := by
          rw [← hfr]
          exact ⟨rfl, ⟨by simp [a]; omega, fun t v hv => by simp [putArgs, Tr.get_nil] at hv⟩, .nil, .run, rfl, trivial, fun x => by cases x⟩
        have e3 : fr.M = Mof tabs := by rw [← hfr]
        have e4 : fr.nx = G := by rw [← hfr]
        have e5 : fr.dk = false := by rw [← hfr]
        have e6 : fr.rnd = none := by rw [← hfr]
        obtain ⟨κ, w', p1, p2⟩ := (vrun_sound (w0 := W) (hX W) hF (draws hm (hX W) hF) n fr _ hr).sound (iota0 G) b a .run cs W (by rw [e3]; exact R_start hl) (fun g hg => by unfold iota0; rw [if_pos ⟨by omega, by omega⟩]; congr 2; omega) e2
          (by
            rw [e4]
            intro c hc
            unfold iota0
            rw [if_neg (by omega)]) (fun x => absurd e6 x)
        cases p2 with
        | ret hr0 hs hads hfn2 hres hv hcs =>
          rename_i u a2 todo2 fn2 cs'
          rw [e5] at hcs
          simp only [UpTo] at hcs
          subst hcs
          cases hv
          refine ⟨.returned (.bool t), w', atM b a2 todo2 .returning, ⟨rfl, p1.rel.os, p1.rel.output, p1.rel.size, p1.rel.old, p1.rel.tape⟩, ?_, rfl, ⟨rfl, hads, rfl, fn2, hfn2, hres⟩⟩
          rw [e1]
          exact hs
        | round hr0 => exact absurd e6 hr0
      · cases hfr
    · cases hfr
  · cases h

/-- .. and leaves everything as it was. -/
theorem kept_of_old {W W' : World} (h1 : W'.os = W.os) (h2 : W'.output = W.output) (h3 : ∀ i, i < W.heap.size → W'.heap[i]? = W.heap[i]?) (may : MemPlace → Prop) : W.keptBut W' may :=
  (World.keptBut_refl W may).congr h1 h2 h3

/-! ### two functions without a body -/
def add64E : Array Value → Sem Value := (Extern.MathBitsCarry.rows.getD 0 ("", fun _ => pure undef)).2
def sub64E : Array Value → Sem Value := (Extern.MathBitsCarry.rows.getD 1 ("", fun _ => pure undef)).2
noncomputable def addX : List Value → Option Value
  | [.int .u64 (.ofNat a), .int .u64 (.ofNat b), .int .u64 (.ofNat c)] => bif Nat.ble c 1 then some (.tuple #[.int .u64 (.ofNat (Nat.mod (Nat.add (Nat.add a b) c) 18446744073709551616)), .int .u64 (.ofNat (Nat.div (Nat.add (Nat.add a b) c) 18446744073709551616))]) else none
  | _ => none
noncomputable def subX : List Value → Option Value
  | [.int .u64 (.ofNat a), .int .u64 (.ofNat b), .int .u64 (.ofNat c)] => bif Nat.ble c 1 then some (.tuple #[.int .u64 (.ofNat (Nat.mod (Nat.sub (Nat.sub (Nat.add a 18446744073709551616) b) c) 18446744073709551616)), .int .u64 (.ofNat (bif Nat.blt a (Nat.add b c) then 1 else 0))]) else none
  | _ => none
/-- Nothing is known beside the text. -/
def X0 : Exts := ⟨fun _ => none, fun _ _ _ _ => none⟩
/-- .. but a function without a body. -/
noncomputable def Exts.add (X : Exts) (f : FuncId) (e : List Value → Option Value) : Exts := ⟨fun g => bif Nat.beq g f then some e else X.fn g, X.sm⟩
noncomputable def bitsX (fa fs : FuncId) : Exts := (X0.add fs subX).add fa addX

theorem three_ints {ι : Iota} {as : List Value} {bs : Array Value} {x y z : Value} (h : VRL ι as bs.toList) (hx : as = [x, y, z]) (h1 : ∀ u, VR ι x u → u = x) (h2 : ∀ u, VR ι y u → u = y) (h3 : ∀ u, VR ι z u → u = z) : bs = #[x, y, z] := by
  subst hx
  generalize hl : bs.toList = l at h
  cases h with
  | cons a1 t1 => cases t1 with
    | cons a2 t2 => cases t2 with
      | cons a3 t3 =>
        cases t3
        rw [h1 _ a1, h2 _ a2, h3 _ a3] at hl
        exact Array.toList_inj.1 hl
theorem int_self {ι : Iota} {k : IntKind} {n : Int} (u : Value) (h : VR ι (.int k n) u) : u = .int k n := by cases h; rfl

theorem run_addE {P : Program} (a b c : Nat) (hc : c ≤ 1) (w : World) : (add64E #[.int .u64 (.ofNat a), .int .u64 (.ofNat b), .int .u64 (.ofNat c)]).run P w = .ok (.tuple #[.int .u64 (.ofNat (Nat.mod (Nat.add (Nat.add a b) c) 18446744073709551616)), .int .u64 (.ofNat (Nat.div (Nat.add (Nat.add a b) c) 18446744073709551616))]) w := by
  have : c = 0 ∨ c = 1 := by omega
  rcases this with rfl | rfl <;> rfl
theorem run_subE {P : Program} (a b c : Nat) (hc : c ≤ 1) (w : World) : (sub64E #[.int .u64 (.ofNat a), .int .u64 (.ofNat b), .int .u64 (.ofNat c)]).run P w = .ok (.tuple #[.int .u64 (.ofNat (Nat.mod (Nat.sub (Nat.sub (Nat.add a 18446744073709551616) b) c) 18446744073709551616)), .int .u64 (.ofNat (bif Nat.blt a (Nat.add b c) then 1 else 0))]) w := by
  have key : (bif Nat.blt a (Nat.add b c) then 1 else 0) = (if a < b + c then 1 else 0) := by
    cases h : Nat.blt a (Nat.add b c) with
    | true =>
      have h' : a < b + c := by simpa [Nat.blt_eq] using h
      rw [if_pos h']; rfl
    | false =>
      have h' : ¬ a < b + c := by
        intro hlt
        have : Nat.blt a (Nat.add b c) = true := by rw [Nat.blt_eq]; exact hlt
        rw [h] at this; cases this
      rw [if_neg h']; rfl
  rw [key]
  have : c = 0 ∨ c = 1 := by omega
  rcases this with rfl | rfl <;> rfl

/-- A function without a body does as is said. -/
def EOk (P : Program) (f : FuncId) (e : List Value → Option Value) : Prop := ∀ as v, e as = some v → (∀ ι : Iota, VR ι v v) ∧ ∀ (ι : Iota) (bs : Array Value) (w : World), VRL ι as bs.toList → (callFunc f bs).run P w = .ok (.value v) w
theorem X0_ok {P : Program} {G : Nat} {w0 : World} : XOk P G w0 X0 := ⟨fun _ _ _ _ h _ => (by cases h), fun _ _ _ _ _ _ _ h => (by cases h)⟩
theorem XOk.add {P : Program} {G : Nat} {w0 : World} {X : Exts} (h : XOk P G w0 X) {f : FuncId} {e : List Value → Option Value} (he : EOk P f e) : XOk P G w0 (X.add f e) := by
  refine ⟨fun g e' as v hg hv => ?_, h.2⟩
  have hg' : (bif Nat.beq g f then some e else X.fn g) = some e' := hg
  cases hb : Nat.beq g f with
  | true =>
    rw [hb] at hg'; simp at hg'; subst hg'
    have := Nat.eq_of_beq_eq_true hb
    subst this
    exact he as v hv
  | false =>
    rw [hb] at hg'
    exact h.1 g e' as v hg' hv
theorem addX_ok {P : Program} {f : FuncId} (hf : ∀ (args : Array Value) (w : World), (callFunc f args).run P w = ((add64E args).run P w).andThen fun v w' => .ok (.value v) w') : EOk P f addX := by
  intro as v he
  unfold addX at he
  split at he
  · rename_i a b c
    obtain ⟨hc, he⟩ := cond_some he
    subst he
    refine ⟨fun ι => .tuple (.cons (.int _ _) (.cons (.int _ _) .nil)), fun ι bs w hb => ?_⟩
    rw [three_ints hb rfl int_self int_self int_self, hf, run_addE a b c (by simpa [Nat.ble_eq] using hc) w]
    rfl
  · cases he
theorem subX_ok {P : Program} {f : FuncId} (hf : ∀ (args : Array Value) (w : World), (callFunc f args).run P w = ((sub64E args).run P w).andThen fun v w' => .ok (.value v) w') : EOk P f subX := by
  intro as v he
  unfold subX at he
  split at he
  · rename_i a b c
    obtain ⟨hc, he⟩ := cond_some he
    subst he
    refine ⟨fun ι => .tuple (.cons (.int _ _) (.cons (.int _ _) .nil)), fun ι bs w hb => ?_⟩
    rw [three_ints hb rfl int_self int_self int_self, hf, run_subE a b c (by simpa [Nat.ble_eq] using hc) w]
    rfl
  · cases he
def countE : Array Value → Sem Value := (Extern.BytealgCount.rows.getD 1 ("", fun _ => pure undef)).2
noncomputable def countX : List Value → Option Value
  | [.string s, .int .u8 (.ofNat c)] => some (.int .i64 (s.foldl (fun (n : Int) x => if x == c.toUInt8 then n + 1 else n) 0))
  | _ => none
theorem run_countE {P : Program} (s : ByteArray) (c : Nat) (w : World) : (countE #[.string s, .int .u8 (.ofNat c)]).run P w = .ok (.int .i64 (s.foldl (fun (n : Int) x => if x == c.toUInt8 then n + 1 else n) 0)) w := by kernel_rfl
theorem countX_ok {P : Program} {f : FuncId} (hf : ∀ (args : Array Value) (w : World), (callFunc f args).run P w = ((countE args).run P w).andThen fun v w' => .ok (.value v) w') : EOk P f countX := by
  intro as v he
  unfold countX at he
  split at he
  · rename_i s c
    simp only [Option.some.injEq] at he
    subst he
    refine ⟨fun ι => .int _ _, fun ι bs w hb => ?_⟩
    have e : bs = #[.string s, .int .u8 (.ofNat c)] := by
      generalize hl : bs.toList = l at hb
      cases hb with
      | cons a1 t1 => cases t1 with
        | cons a2 t2 =>
          cases t2
          cases a1; cases a2
          exact Array.toList_inj.1 hl
    rw [e, hf, run_countE]
    rfl
  · cases he
theorem bitsX_ok {P : Program} {fa fs : FuncId} (ha : ∀ (args : Array Value) (w : World), (callFunc fa args).run P w = ((add64E args).run P w).andThen fun v w' => .ok (.value v) w') (hs : ∀ (args : Array Value) (w : World), (callFunc fs args).run P w = ((sub64E args).run P w).andThen fun v w' => .ok (.value v) w') {G : Nat} (w0 : World) : XOk P G w0 (bitsX fa fs) :=
  (X0_ok.add (subX_ok hs)).add (addX_ok ha)

theorem FOk_of {P : Program} (h : P.funcs.toList.all (fun fn => fn.body.isNone || !(fn.name == "runtime.NumGoroutine")) = true) : FOk P := by
  intro f fn hfn hb
  have := List.all_eq_true.1 h fn (List.mem_of_getElem? (by simpa using hfn))
  simp only [Bool.or_eq_true, Bool.not_eq_true'] at this
  rcases this with h1 | h1
  · rw [Option.isNone_iff_eq_none] at h1
    rw [h1] at hb; cases hb
  · exact h1
end Go.Proofs.YtjbanjpklgpenaaGreatDoor.Vm
