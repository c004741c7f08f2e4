/-
  THE ABSTRACT INTERPRETER, part K: append's two arguments; maps.
-/
import Derived.Test.YtfiafpcdkheflaaGreatDoorVmJ
namespace Go.Proofs.YtfiafpcdkheflaaGreatDoor.Vm

noncomputable def aAppend (P : Program) (M : Tr Blk) (nx : Nat) (t : TypeId) (dst src : Value) : Option (Value × Tr Blk × Nat) := match P.underlying t with
  | some (.slice elem) => (match P.info? elem with
    | some i => (match i.zero with
      | some z => bif Nat.blt 0 i.size && Nat.blt i.size 256 && Nat.beq z.cells.size i.size then
          (match src with
          | .slice a 0 _ => (match a, dst with
            | none, .slice b n c => bif Nat.ble n c then some (.slice b n c, M, nx) else none
            | some _, .slice b n c => bif Nat.ble n c then some (.slice b n c, M, nx) else none
            | _, _ => none)
          | .slice (some ⟨b, o, none⟩) (n + 1) _ => (match M.get (b / 256) with
            | some x => (match x.vals with
              | some vs => (match cut vs o ((n + 1) * i.size) with
                | some news => aAppendTo M nx i.size i.bytes dst (n + 1) news
                | none => none)
              | none => none)
            | none => none)
          | _ => none) else none
      | none => none)
    | none => none)
  | _ => none

theorem run_append_none {P : Program} (w : World) (t ty e : TypeId) (i : TypeInfo) (ht : P.underlying t = some (.slice e)) (hi : P.info? e = some i) (b a : Option Addr) (n c d : Nat) (h : n ≤ c) :
    (Builtin.append_ #[t, t] ty #[.slice b n c, .slice a 0 d]).run P w = .ok (.slice b n c) w := by
  cases a with
  | none => cases b <;> simp [Builtin.append_, run_underlying ht, sizeOf, typeInfo, hi, Builtin.lenOf, h, run_firstCells_none, storeCells]
  | some a =>
    have hf := run_firstCells_some (P := P) w i.size 0 a 0 d [] (by simp) (by simp)
    cases b <;> simp [Builtin.append_, run_underlying ht, sizeOf, typeInfo, hi, Builtin.lenOf, h, hf, storeCells]

theorem VR.slice_inv {ι : Iota} {b : Option Addr} {n c : Nat} {u : Value} (h : VR ι (.slice b n c) u) : ∃ b' c', u = .slice b' n c' ∧ (n ≤ c → n ≤ c') := by
  cases h with
  | sl0 => exact ⟨_, _, rfl, id⟩
  | sl => exact ⟨_, _, rfl, id⟩
  | slg => exact ⟨_, _, rfl, fun _ => by omega⟩
  | sle => exact ⟨_, _, rfl, fun _ => Nat.zero_le _⟩

theorem run_aAppend {P : Program} {w0 : World} {ι : Iota} {M M' : Tr Blk} {nx nx' : Nat} {w : World} {t ty : TypeId} (h : R w0 ι M w) (hf : Fresh ι nx nx') {d u s z v : Value} (hd : VR ι d u) (hs : VR ι s z) (he : aAppend P M nx t d s = some (v, M', nx')) :
    ∃ κ y w', (Builtin.append_ #[t, t] ty #[u, z]).run P w = .ok y w' ∧ Post w0 ι M nx w κ M' nx' w' ∧ VR κ v y := by
  unfold aAppend at he
  split at he
  · rename_i elem ht
    split at he
    · rename_i i hi
      split at he
      · rename_i zv hz
        cases hc : (Nat.blt 0 i.size && Nat.blt i.size 256 && Nat.beq zv.cells.size i.size) with
        | false => rw [hc] at he; simp at he
        | true =>
          rw [hc] at he; simp only [cond_true] at he
          simp only [Bool.and_eq_true, Nat.blt_eq, Nat.beq_eq] at hc
          obtain ⟨⟨c1, c2⟩, c3⟩ := hc
          have nothing : ∀ (b : Option Addr) (n c : Nat) (a : Option Addr) (q : Nat), d = .slice b n c → s = .slice a 0 q → (bif Nat.ble n c then some (Value.slice b n c, M, nx) else none) = some (v, M', nx') →
              ∃ κ y w', (Builtin.append_ #[t, t] ty #[u, z]).run P w = .ok y w' ∧ Post w0 ι M nx w κ M' nx' w' ∧ VR κ v y := by
            clear he
            intro b n c a q hd' hs' he
            subst hd'; subst hs'
            cases hb : Nat.ble n c with
            | false => rw [hb] at he; simp at he
            | true =>
              rw [hb] at he; simp at he; obtain ⟨rfl, rfl, rfl⟩ := he
              rw [Nat.ble_eq] at hb
              obtain ⟨b', c', rfl, hle⟩ := hd.slice_inv
              obtain ⟨a', q', rfl, _⟩ := hs.slice_inv
              exact ⟨ι, _, w, run_append_none w t ty elem i ht hi b' a' n c' q' (hle hb), Post.refl h, hd⟩
          split at he
          · split at he
            · exact nothing _ _ _ _ _ rfl rfl he
            · exact nothing _ _ _ _ _ rfl rfl he
            · cases he
          · rename_i b o n q
            split at he
            · rename_i x hm
              split at he
              · rename_i vs hx
                split at he
                · rename_i news hcut
                  have hsrc : ∃ (l : Loc) (q' : Nat), ι b = some l ∧ z = .slice (some ⟨l.blk, l.off o, none⟩) (n + 1) q' := by
                    cases hs with
                    | sl _ _ hι hg hb => exact ⟨_, _, hι, by unfold Loc.off; rw [hg]⟩
                    | slg _ _ hι hg hb h0 hn' ho hcc => exact ⟨_, _, hι, by unfold Loc.off; rw [hg]⟩
                  obtain ⟨l, q', hι, rfl⟩ := hsrc
                  obtain ⟨ns, k1, k2, k3, k4⟩ := h.cut hm hι hx hcut
                  exact run_aAppendTo ht hi hz c1 c2 c3 h hf hd (Nat.succ_pos n) k1 k2 k3 k4 he
                · cases he
              · cases he
            · cases he
          · cases he
      · cases he
    · cases he
  · cases he

/-! ### maps whose keys are numbers -/
def intKey : Value → Option (IntKind × Int)
  | .int k n => some (k, n)
  | _ => none

/-- Where a key stands. -/
def aFind (k : IntKind) (n : Int) : List (Value × Value × Nat) → Nat → Option (Option (Nat × Value))
  | [], _ => some none
  | (.int k' m, v, _) :: es, i => bif decide (k = k') then (bif eqI n m then some (some (i, v)) else aFind k n es (i + 1)) else none
  | _ :: _, _ => none
theorem run_aFind {ι : Iota} {kind : IntKind} {k : IntKind} {n : Int} : ∀ {es : List (Value × Value × Nat)} {es' : List MapEntry}, ER ι es es' → ∀ (i : Nat) {r : Option (Nat × Value)}, aFind k n es i = some r →
    ∃ r', Instr.findNow (.int kind) (.int k n) es' i = some r' ∧ (match r, r' with
      | none, none => True
      | some (j, v), some (j', v') => j = j' ∧ VR ι v v'
      | _, _ => False)
  | _, _, .nil, i, r, h => by simp [aFind] at h; subst h; exact ⟨none, rfl, trivial⟩
  | _, _, .cons (v := vv) (v' := vv') hk hv t, i, r, h => by
    cases hk <;> simp only [aFind, reduceCtorEq] at h
    case int k' m =>
      by_cases e : k = k'
      · subst e
        simp only [decide_true, cond_true] at h
        cases hq : eqI n m with
        | true =>
          rw [hq] at h; simp at h; subst h
          rw [eqI_eq] at hq
          exact ⟨some (i, vv'), by simp [Instr.findNow, Instr.sameNow, hq], rfl, hv⟩
        | false =>
          rw [hq] at h; simp only [cond_false] at h
          rw [eqI_eq] at hq
          obtain ⟨r', h1, h2⟩ := run_aFind (kind := kind) t (i + 1) h
          exact ⟨r', by simp [Instr.findNow, Instr.sameNow, hq, h1], h2⟩
      · simp [e] at h

theorem run_checkKey {P : Program} {w : World} {t : TypeId} {k kk : IntKind} {n : Int} (ht : P.underlying t = some (.int kk)) (b : Bool) (d : Nat) : (Instr.checkKey b (d + 1) t (.int k n)).run P w = .ok () w := by
  unfold Instr.checkKey
  rw [Sem.run_bind, run_underlying ht]
  rfl

noncomputable def aMakeMap (M : Tr Blk) (nx : Nat) : Value × Tr Blk × Nat := (.map (some (256 * nx)), M.set nx (.map [] 0), nx + 1)
theorem run_aMakeMap {P : Program} {w0 : World} {ι : Iota} {M : Tr Blk} {nx : Nat} {w : World} {t : TypeId} (h : R w0 ι M w) (hf : Fresh ι nx (nx + 1)) :
    ∃ κ y w', (Instr.makeMap t none).run P w = .ok y w' ∧ Post w0 ι M nx w κ (aMakeMap M nx).2.1 (nx + 1) w' ∧ VR κ (aMakeMap M nx).1 y := by
  refine ⟨ι.upd (256 * nx) ⟨w.heap.size, none⟩, .map (some w.heap.size), w.alloc (.map #[] 0), rfl, ?_, ?_⟩
  · exact Post.alloc (s := 0) h hf (by omega) rfl (by simp) (.map rfl .nil)
  · exact VR.map (l := ⟨w.heap.size, none⟩) (Iota.upd_same _ _ _) rfl

theorem ER.length {ι : Iota} : ∀ {xs : List (Value × Value × Nat)} {ys : List MapEntry}, ER ι xs ys → xs.length = ys.length
  | _, _, .nil => rfl
  | _, _, .cons _ _ t => by simp [ER.length t]
theorem ER.snoc {ι : Iota} {k k' v v' : Value} {n : Nat} (hk : VR ι k k') (hv : VR ι v v') : ∀ {xs : List (Value × Value × Nat)} {ys : List MapEntry}, ER ι xs ys → ER ι (xs ++ [(k, v, n)]) (ys ++ [{ key := k', val := v', born := n }])
  | _, _, .nil => .cons hk hv .nil
  | _, _, .cons h1 h2 t => .cons h1 h2 (ER.snoc hk hv t)

/-- A store under a key that is not there yet. -/
noncomputable def aMapNew (P : Program) (M : Tr Blk) (t : TypeId) (m k v : Value) : Option (Tr Blk) := match P.underlying t, m, k with
  | some (.map kt _), .map (some b), .int kk n => (match P.underlying kt, M.get (b / 256) with
    | some (.int _), some (.map es clock) => (match aFind kk n es 0 with
      | some none => some (M.set (b / 256) (.map (es ++ [(.int kk n, v, clock)]) (clock + 1)))
      | _ => none)
    | _, _ => none)
  | _, _, _ => none
theorem run_aMapNew {P : Program} {w0 : World} {ι : Iota} {M M' : Tr Blk} {nx : Nat} {w : World} {t : TypeId} {m k v m' k' v' : Value} (h : R w0 ι M w) (hm : VR ι m m') (hk : VR ι k k') (hv : VR ι v v') (he : aMapNew P M t m k v = some M') :
    ∃ w', (Instr.mapUpdate t m' k' v').run P w = .ok () w' ∧ Post w0 ι M nx w ι M' nx w' := by
  unfold aMapNew at he
  split at he
  · rename_i kt et b kk n hu
    cases hk
    cases hm with
    | map hι hg =>
      rename_i l
      split at he
      · rename_i kind es clock hkt hmm
        split at he
        · rename_i hfind
          simp at he; subst he
          obtain ⟨o, h1, h2⟩ := h.live b _ l hmm hι
          cases h2 with
          | map hg' her =>
            rename_i es'
            obtain ⟨r', f1, f2⟩ := run_aFind (kind := kind) her 0 hfind
            cases r' with
            | some p => exact f2.elim
            | none =>
              have hlt : l.blk < w.heap.size := (Array.getElem?_eq_some_iff.1 h1).1
              refine ⟨{ w with heap := w.heap.setIfInBounds l.blk (.map (es'.push { key := .int kk n, val := v', born := clock }) (clock + 1)) }, ?_, ?_⟩
              · have hget : (getObj l.blk).run P w = .ok (.map es' clock) w := by simp [getObj, Sem.run, h1]
                have hset : (setObj l.blk (.map (es'.push { key := .int kk n, val := v', born := clock }) (clock + 1))).run P w = .ok () { w with heap := w.heap.setIfInBounds l.blk (.map (es'.push { key := .int kk n, val := v', born := clock }) (clock + 1)) } := by
                  simp [setObj, Sem.run, h1]
                have hck : (Instr.checkKey false 10000 kt (.int kk n)).run P w = .ok () w := run_checkKey hkt false 9999
                have hfk : (Instr.findKey kt (.int kk n) es'.toList).run P w = .ok none w := by
                  unfold Instr.findKey
                  rw [Sem.run_bind, run_underlying hkt]
                  simp only [Result.andThen_ok, f1]
                  rfl
                unfold Instr.mapUpdate
                simp only [Sem.run_bind, run_underlying hu, Result.andThen_ok, hget, hck, hfk, hset]
              · refine Post.write h hmm rfl hι ⟨_, by rw [Array.getElem?_setIfInBounds_self_of_lt hlt], .map hg' ?_⟩ (fun k hk => Array.getElem?_setIfInBounds_ne (Ne.symm hk)) (by simp) rfl rfl rfl
                rw [Array.toList_push]
                exact her.snoc (.int _ _) hv
        · cases he
      · cases he
  · cases he

noncomputable def aLookup (P : Program) (M : Tr Blk) (t : TypeId) (m k : Value) (ok : Bool) : Option Value := match P.underlying t, m, k with
  | some (.map kt et), .map (some b), .int kk n => (match P.underlying kt, M.get (b / 256) with
    | some (.int _), some (.map es _) => (match aFind kk n es 0 with
      | some (some (_, v)) => some (bif ok then .tuple #[v, .bool true] else v)
      | some none => (match aZero P et with
        | some z => some (bif ok then .tuple #[z, .bool false] else z)
        | none => none)
      | _ => none)
    | _, _ => none)
  | _, _, _ => none
theorem run_aLookup {P : Program} {w0 : World} {ι : Iota} {M : Tr Blk} {w : World} {t : TypeId} {m k m' k' v : Value} {ok : Bool} (h : R w0 ι M w) (hm : VR ι m m') (hk : VR ι k k') (he : aLookup P M t m k ok = some v) :
    ∃ z, VR ι v z ∧ (Instr.lookup t m' k' ok).run P w = .ok z w := by
  unfold aLookup at he
  split at he
  · rename_i kt et b kk n hu
    cases hk
    cases hm with
    | map hι hg =>
      rename_i l
      split at he
      · rename_i kind es clock hkt hmm
        obtain ⟨o, h1, h2⟩ := h.live b _ l hmm hι
        cases h2 with
        | map hg' her =>
          rename_i es'
          have hget : (getObj l.blk).run P w = .ok (.map es' clock) w := by simp [getObj, Sem.run, h1]
          have hck : ∀ b, (Instr.checkKey b 10000 kt (.int kk n)).run P w = .ok () w := fun b => run_checkKey hkt b 9999
          split at he
          · rename_i j x hfind
            obtain ⟨r', f1, f2⟩ := run_aFind (kind := kind) her 0 hfind
            cases r' with
            | none => exact f2.elim
            | some p =>
              obtain ⟨j', x'⟩ := p
              obtain ⟨rfl, hv⟩ := f2
              have hfk : (Instr.findKey kt (.int kk n) es'.toList).run P w = .ok (some (j, x')) w := by
                unfold Instr.findKey
                rw [Sem.run_bind, run_underlying hkt]
                simp only [Result.andThen_ok, f1]
                rfl
              simp at he; subst he
              refine ⟨if ok then .tuple #[x', .bool true] else x', ?_, ?_⟩
              · cases ok
                · exact hv
                · exact .tuple (.cons hv (.cons (.bool _) .nil))
              · unfold Instr.lookup
                simp only [Sem.run_bind, run_underlying hu, Result.andThen_ok, hget, Sem.run_pure, hck, hfk]
          · rename_i hfind
            obtain ⟨r', f1, f2⟩ := run_aFind (kind := kind) her 0 hfind
            cases r' with
            | some p => exact f2.elim
            | none =>
              have hfk : (Instr.findKey kt (.int kk n) es'.toList).run P w = .ok none w := by
                unfold Instr.findKey
                rw [Sem.run_bind, run_underlying hkt]
                simp only [Result.andThen_ok, f1]
                rfl
              split at he
              · rename_i z0 hz
                simp at he; subst he
                have hzz := run_aZero hz w
                refine ⟨if ok then .tuple #[z0, .bool false] else z0, ?_, ?_⟩
                · cases ok
                  · exact okc_self _ hzz.1
                  · exact .tuple (.cons (okc_self _ hzz.1) (.cons (.bool _) .nil))
                · unfold Instr.lookup
                  simp only [Sem.run_bind, run_underlying hu, Result.andThen_ok, hget, Sem.run_pure, hck, hfk, hzz.2]
              · cases he
          · cases he
      · cases he
  · cases he
end Go.Proofs.YtfiafpcdkheflaaGreatDoor.Vm
