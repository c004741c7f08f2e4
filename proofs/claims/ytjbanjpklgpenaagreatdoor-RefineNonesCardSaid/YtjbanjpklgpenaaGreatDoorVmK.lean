/-
  THE ABSTRACT INTERPRETER, part K: append's two arguments; maps.
-/
import Derived.Test.YtjbanjpklgpenaaGreatDoorVmJ
import Derived.Laws.IdiomStrings
namespace Go.Proofs.YtjbanjpklgpenaaGreatDoor.Vm

noncomputable def aAppend (P : Program) (M : Tr Blk) (nx : Nat) (t : TypeId) (dst src : Value) : Option (Value × Tr Blk × Nat) := match P.underlying t with
  | some (.slice elem) => (match P.info? elem with
    | some i => (match i.zero with
      | some z => bif Nat.blt 0 i.size && Nat.blt i.size 256 && Nat.beq z.cells.size i.size then
          (match src with
          | .slice a 0 _ => (match a, dst with
            | none, .slice b n c => bif Nat.ble n c then some (.slice b n c, M, nx) else none
            | some _, .slice b n c => bif Nat.ble n c then some (.slice b n c, M, nx) else none
            | _, _ => none)
          | .slice (some ⟨b, o, none⟩) (n + 1) _ => (match M.get (b / 256) with
            | some x => (match x.vals with
              | some vs => (match cut vs o ((n + 1) * i.size) with
                | some news => aAppendTo M nx i.size i.bytes dst (n + 1) news
                | none => none)
              | none => none)
            | none => none)
          | _ => none) else none
      | none => none)
    | none => none)
  | _ => none

theorem run_append_none {P : Program} (w : World) (t ty e : TypeId) (i : TypeInfo) (ht : P.underlying t = some (.slice e)) (hi : P.info? e = some i) (b a : Option Addr) (n c d : Nat) (h : n ≤ c) :
    (Builtin.append_ #[t, t] ty #[.slice b n c, .slice a 0 d]).run P w = .ok (.slice b n c) w := by
  cases a with
  | none => cases b <;> simp [Builtin.append_, run_underlying ht, sizeOf, typeInfo, hi, Builtin.lenOf, h, run_firstCells_none, storeCells]
  | some a =>
    have hf := run_firstCells_some (P := P) w i.size 0 a 0 d [] (by simp) (by simp)
    cases b <;> simp [Builtin.append_, run_underlying ht, sizeOf, typeInfo, hi, Builtin.lenOf, h, hf, storeCells]

/-! ### texts and rows of bytes -/
def bytesOf (s : ByteArray) : List Value := s.data.toList.map fun b => .int .u8 (.ofNat b.toNat)
theorem VRL.bytes {ι : Iota} : ∀ l : List UInt8, VRL ι (l.map fun b => Value.int .u8 (.ofNat b.toNat)) (l.map fun b => Value.int .u8 (.ofNat b.toNat))
  | [] => .nil
  | _ :: l => .cons (.int _ _) (VRL.bytes l)
/-- Are these bytes? -/
def bytesIn : List Value → Option (List UInt8)
  | [] => some []
  | .int .u8 (.ofNat n) :: r => bif Nat.blt n 256 then (match bytesIn r with
    | some l => some (UInt8.ofNat n :: l)
    | none => none) else none
  | _ => none
noncomputable def aConvM (P : Program) (M : Tr Blk) (nx : Nat) (src dst : TypeId) (x : Value) : Option (Value × Tr Blk × Nat) := match P.underlying src, P.underlying dst, x with
  | some .string, some (.slice e), .string s => (match P.underlying e, Nat.blt 0 s.size with
    | some (.int .u8), true => some (.slice (some ⟨256 * nx + 1, 0, none⟩) s.size s.size, M.set nx (.frz (bytesOf s)), nx + 1)
    | _, _ => none)
  | some (.slice _), some (.slice e), .slice (some ⟨b, o, none⟩) n c => (match P.underlying e, M.get (b / 256), Nat.beq src dst && Nat.beq (b % 256) 0 with
    | some (.int .u8), some (.cells false vs), true => some (.slice (some ⟨b, o, none⟩) n c, M.set (b / 256) (.frz vs), nx)
    | _, _, _ => none)
  | some (.slice e), some .string, .slice (some ⟨b, o, none⟩) n _ => (match P.underlying e, M.get (b / 256) with
    | some (.int .u8), some y => (match y.vals with
      | some vs => (match cut vs o n with
        | some cs => (match bytesIn cs with
          | some l => some (.string ⟨l.toArray⟩, M, nx)
          | none => none)
        | none => none)
      | none => none)
    | _, _ => none)
  | _, _, _ => none

theorem bytesIn_spec {ι : Iota} : ∀ {vs us : List Value} {l : List UInt8}, bytesIn vs = some l → VRL ι vs us → us = l.map fun b => Value.int .u8 (b.toNat : Int)
  | [], _, l, h, .nil => by simp [bytesIn] at h; subst h; rfl
  | v :: vs, _, l, h, .cons hv t => by
    unfold bytesIn at h
    split at h
    · rename_i e; cases e
    · rename_i n r e
      simp only [List.cons.injEq] at e
      obtain ⟨rfl, rfl⟩ := e
      cases hb : Nat.blt n 256 with
      | false => rw [hb] at h; simp at h
      | true =>
        rw [hb] at h; simp only [cond_true] at h
        rw [Nat.blt_eq] at hb
        split at h
        · rename_i l' hl
          simp at h; subst h
          have := bytesIn_spec hl t
          cases hv
          rw [this]
          simp only [List.map_cons, List.cons.injEq, and_true, Value.int.injEq, true_and]
          show ((n : Nat) : Int) = ((UInt8.ofNat n).toNat : Int)
          rw [UInt8.toNat_ofNat']
          congr 1
          omega
        · cases h
    · cases h

theorem run_aConvM {P : Program} {w0 : World} {ι : Iota} {M M' : Tr Blk} {nx nx' : Nat} {w : World} {src dst : TypeId} (h : R w0 ι M w) (hf : Fresh ι nx nx') {x u v : Value} (hx : VR ι x u) (he : aConvM P M nx src dst x = some (v, M', nx')) :
    ∃ κ y w', (convert src dst u).run P w = .ok y w' ∧ Post w0 ι M nx w κ M' nx' w' ∧ VR κ v y := by
  unfold aConvM at he
  split at he
  · rename_i e s h1 h2
    split at he
    · rename_i h3 h0
      simp at he; obtain ⟨rfl, rfl, rfl⟩ := he
      rw [Nat.blt_eq] at h0
      cases hx
      have hr := run_bytes_of_string (P := P) w src dst e s h1 h2 h3
      have hge := grownCap_ge w s.size 0 e
      have hx := Iota.upd_ext (ι := ι) (b := 256 * nx + 1) ⟨w.heap.size, some (0, grownCap w s.size 0 e)⟩ (hf _ (by omega) (by omega))
      refine ⟨ι.upd (256 * nx + 1) ⟨w.heap.size, some (0, grownCap w s.size 0 e)⟩, _, _, hr, ?_, ?_⟩
      · refine Post.undrew (Post.alloc (w := w.drew) (h.drawn _) hf (by omega) rfl (by simp) ?_)
        refine .frz (pre := []) (mid := bytesOf s) (post := (Array.replicate (grownCap w s.size 0 e - s.size) (Value.int .u8 0)).toList) ?_ rfl (VRL.bytes s.data.toList)
        simp [bytesRow, bytesOf]
      · have := VR.slg (ι := ι.upd (256 * nx + 1) ⟨w.heap.size, some (0, grownCap w s.size 0 e)⟩) (b := 256 * nx + 1) (o := 0) (e := 0) s.size s.size (grownCap w s.size 0 e) (Iota.upd_same _ _ _) rfl (by omega) h0 (Nat.le_refl _) (by simp) hge (by omega)
        simpa using this
    · cases he
  · rename_i e1 e b o n c h1 h2
    split at he
    · rename_i vs h3 hm hc
      simp at he; obtain ⟨rfl, rfl, rfl⟩ := he
      simp only [Bool.and_eq_true, Nat.beq_eq] at hc
      obtain ⟨rfl, hb0⟩ := hc
      obtain rfl : e1 = e := by have := h1.symm.trans h2; simpa using this
      have go : ∀ ll : Loc, ι b = some ll → ll.gr = none → ∃ w', (convert src src (.slice (some ⟨ll.blk, o, none⟩) n c)).run P w = .ok (.slice (some ⟨ll.blk, o, none⟩) n c) w' ∧ Post w0 ι M nx w ι (M.set (b / 256) (.frz vs)) nx w' := by
        intro ll hι hg
        obtain ⟨ob, q1, q2⟩ := h.live b _ ll hm hι
        cases q2 with
        | cells hg2 hl =>
          rename_i arr t
          have hlt : ll.blk < w.heap.size := (Array.getElem?_eq_some_iff.1 q1).1
          have hsh : w.shape? ll.blk = some (t, arr.size) := by unfold World.shape?; rw [q1]
          refine ⟨w.freeze ⟨ll.blk, arr.size, none⟩ 1, ?_, ?_⟩
          · unfold convert
            simp only [Sem.run_bind, run_underlying h1, Result.andThen_ok, run_underlying h3, beq_self_eq_true, markStringish, run_shape, hsh, run_freeze]
            rfl
          · refine Post.write h hm rfl hι ⟨.cells arr t (arr.size, arr.size + 1), ?_, .frz (pre := []) (mid := arr.toList) (post := []) (by simp) (by unfold Loc.off; rw [hg]; rfl) hl⟩ ?_ ?_ rfl rfl rfl
            · unfold World.freeze
              rw [if_neg (by decide)]
              simp only [Array.getElem?_modify, if_true, q1]
              rfl
            · intro k hk
              unfold World.freeze
              rw [if_neg (by decide)]
              simp only [Array.getElem?_modify]
              rw [if_neg (Ne.symm hk)]
            · unfold World.freeze
              rw [if_neg (by decide)]
              simp
      cases hx with
      | sl _ _ hι hg hb =>
        obtain ⟨w', g1, g2⟩ := go _ hι hg
        exact ⟨ι, _, w', g1, g2, .sl _ _ hι hg hb⟩
      | slg _ _ _ hι hg hb => exact absurd hb0 hb
      | sle _ _ hι hg hb => exact absurd hb0 hb
    · cases he
  · rename_i e b o n c h1 h2
    split at he
    · rename_i y h3 hm
      split at he
      · rename_i vs hv
        split at he
        · rename_i cs hcut
          split at he
          · rename_i l hl
            simp at he; obtain ⟨rfl, rfl, rfl⟩ := he
            have go : ∀ (ll : Loc) (c' : Nat), ι b = some ll → (convert src dst (.slice (some ⟨ll.blk, ll.off o, none⟩) n c')).run P w = .ok (.string ⟨l.toArray⟩) w := by
              intro ll c' hι
              obtain ⟨cs', k1, k2, k3, k4⟩ := h.cut hm hι hv hcut
              have k5 := bytesIn_spec hl k1
              have k6 := k1.length
              have hn : l.length = n := by rw [k5] at k6; simp at k6; omega
              subst hn
              refine run_convert_bytes_back w src dst e ⟨ll.blk, ll.off o, none⟩ c' l h1 h3 h2 (fun j hj => ?_)
              refine k4 j _ ?_
              rw [k5]
              simp [List.getElem?_eq_getElem hj]
            refine ⟨ι, .string ⟨l.toArray⟩, w, ?_, Post.refl h, .str _⟩
            cases hx with
            | sl _ _ hι hg hb =>
              rename_i ll
              have ho : ll.off o = o := by unfold Loc.off; rw [hg]
              have := go ll c hι
              rw [ho] at this
              exact this
            | slg _ _ C hι hg hb h0 hn ho hc hC =>
              rename_i ll base cap e2
              have ho' : ll.off o = base + o := by unfold Loc.off; rw [hg]
              have := go ll C hι
              rw [ho'] at this
              exact this
            | sle a c' hι hg hb =>
              have hn : l = [] := by
                obtain ⟨cs', k1, k2, k3, k4⟩ := h.cut hm hι hv hcut
                have k5 := bytesIn_spec hl k1
                have k6 := k1.length
                rw [k5] at k6
                simp at k6
                have : l.length = 0 := by omega
                exact List.length_eq_zero_iff.1 this
              subst hn
              exact run_convert_bytes_back w src dst e a c' [] h1 h3 h2 (fun j hj => by simp at hj)
          · cases he
        · cases he
      · cases he
    · cases he
  · cases he

theorem VR.slice_inv {ι : Iota} {b : Option Addr} {n c : Nat} {u : Value} (h : VR ι (.slice b n c) u) : ∃ b' c', u = .slice b' n c' ∧ (n ≤ c → n ≤ c') := by
  cases h with
  | sl0 => exact ⟨_, _, rfl, id⟩
  | sl => exact ⟨_, _, rfl, id⟩
  | slg => exact ⟨_, _, rfl, fun _ => by omega⟩
  | sle => exact ⟨_, _, rfl, fun _ => Nat.zero_le _⟩

theorem run_aAppend {P : Program} {w0 : World} {ι : Iota} {M M' : Tr Blk} {nx nx' : Nat} {w : World} {t ty : TypeId} (h : R w0 ι M w) (hf : Fresh ι nx nx') {d u s z v : Value} (hd : VR ι d u) (hs : VR ι s z) (he : aAppend P M nx t d s = some (v, M', nx')) :
    ∃ κ y w', (Builtin.append_ #[t, t] ty #[u, z]).run P w = .ok y w' ∧ Post w0 ι M nx w κ M' nx' w' ∧ VR κ v y := by
  unfold aAppend at he
  split at he
  · rename_i elem ht
    split at he
    · rename_i i hi
      split at he
      · rename_i zv hz
        cases hc : (Nat.blt 0 i.size && Nat.blt i.size 256 && Nat.beq zv.cells.size i.size) with
        | false => rw [hc] at he; simp at he
        | true =>
          rw [hc] at he; simp only [cond_true] at he
          simp only [Bool.and_eq_true, Nat.blt_eq, Nat.beq_eq] at hc
          obtain ⟨⟨c1, c2⟩, c3⟩ := hc
          have nothing : ∀ (b : Option Addr) (n c : Nat) (a : Option Addr) (q : Nat), d = .slice b n c → s = .slice a 0 q → (bif Nat.ble n c then some (Value.slice b n c, M, nx) else none) = some (v, M', nx') →
              ∃ κ y w', (Builtin.append_ #[t, t] ty #[u, z]).run P w = .ok y w' ∧ Post w0 ι M nx w κ M' nx' w' ∧ VR κ v y := by
            clear he
            intro b n c a q hd' hs' he
            subst hd'; subst hs'
            cases hb : Nat.ble n c with
            | false => rw [hb] at he; simp at he
            | true =>
              rw [hb] at he; simp at he; obtain ⟨rfl, rfl, rfl⟩ := he
              rw [Nat.ble_eq] at hb
              obtain ⟨b', c', rfl, hle⟩ := hd.slice_inv
              obtain ⟨a', q', rfl, _⟩ := hs.slice_inv
              exact ⟨ι, _, w, run_append_none w t ty elem i ht hi b' a' n c' q' (hle hb), Post.refl h, hd⟩
          split at he
          · split at he
            · exact nothing _ _ _ _ _ rfl rfl he
            · exact nothing _ _ _ _ _ rfl rfl he
            · cases he
          · rename_i b o n q
            split at he
            · rename_i x hm
              split at he
              · rename_i vs hx
                split at he
                · rename_i news hcut
                  have hsrc : ∃ (l : Loc) (q' : Nat), ι b = some l ∧ z = .slice (some ⟨l.blk, l.off o, none⟩) (n + 1) q' := by
                    cases hs with
                    | sl _ _ hι hg hb => exact ⟨_, _, hι, by unfold Loc.off; rw [hg]⟩
                    | slg _ _ _ hι hg hb h0 hn' ho hcc => exact ⟨_, _, hι, by unfold Loc.off; rw [hg]⟩
                  obtain ⟨l, q', hι, rfl⟩ := hsrc
                  obtain ⟨ns, k1, k2, k3, k4⟩ := h.cut hm hι hx hcut
                  exact run_aAppendTo ht hi hz c1 c2 c3 h hf hd (Nat.succ_pos n) k1 k2 k3 (.slice ht (by rw [← k1.length]; exact k2) k4) he
                · cases he
              · cases he
            · cases he
          · cases he
      · cases he
    · cases he
  · cases he

theorem cond_someK {α : Type} {c : Bool} {x : Option α} {y : α} (h : (bif c then x else none) = some y) : c = true ∧ x = some y := by
  cases c with
  | true => exact ⟨rfl, h⟩
  | false => cases h

/-- append(b, s...) of a text. -/
noncomputable def aAppendS (P : Program) (M : Tr Blk) (nx : Nat) (t us : TypeId) (dst src : Value) : Option (Value × Tr Blk × Nat) := match P.underlying t, P.underlying us, src with
  | some (.slice elem), some .string, .string s => (match P.info? elem with
    | some i => (match i.zero with
      | some z => bif Nat.beq i.size 1 && Nat.beq z.cells.size 1 && Nat.blt 0 s.size then aAppendTo M nx i.size i.bytes dst s.size (bytesOf s) else none
      | none => none)
    | none => none)
  | _, _, _ => none
theorem run_aAppendS {P : Program} {w0 : World} {ι : Iota} {M M' : Tr Blk} {nx nx' : Nat} {w : World} {t us ty : TypeId} (h : R w0 ι M w) (hf : Fresh ι nx nx') {d u s z v : Value} (hd : VR ι d u) (hs : VR ι s z) (he : aAppendS P M nx t us d s = some (v, M', nx')) :
    ∃ κ y w', (Builtin.append_ #[t, us] ty #[u, z]).run P w = .ok y w' ∧ Post w0 ι M nx w κ M' nx' w' ∧ VR κ v y := by
  unfold aAppendS at he
  split at he
  · rename_i elem s ht hus
    cases hs
    split at he
    · rename_i i hi
      split at he
      · rename_i zv hz
        obtain ⟨hc, he⟩ := cond_someK he
        simp only [Bool.and_eq_true, Nat.blt_eq, Nat.beq_eq] at hc
        obtain ⟨⟨c1, c2⟩, c3⟩ := hc
        have hsrc := Src.string (P := P) (w := w) hus s
        rw [← c1] at hsrc
        exact run_aAppendTo ht hi hz (by omega) (by omega) (by omega) h hf hd c3 (VRL.bytes s.data.toList) (by rw [c1]; simp) (List.all_eq_true.2 fun x hx => by simp only [List.mem_map] at hx; obtain ⟨b, _, rfl⟩ := hx; rfl) hsrc he
      · cases he
    · cases he
  · cases he

/-! ### maps whose keys are numbers -/
def intKey : Value → Option (IntKind × Int)
  | .int k n => some (k, n)
  | _ => none

/-- Where a key stands. -/
def aFind (k : IntKind) (n : Int) : List (Value × Value × Nat) → Nat → Option (Option (Nat × Value))
  | [], _ => some none
  | (.int k' m, v, _) :: es, i => bif decide (k = k') then (bif eqI n m then some (some (i, v)) else aFind k n es (i + 1)) else none
  | _ :: _, _ => none
theorem run_aFind {ι : Iota} {kind : IntKind} {k : IntKind} {n : Int} : ∀ {es : List (Value × Value × Nat)} {es' : List MapEntry}, ER ι es es' → ∀ (i : Nat) {r : Option (Nat × Value)}, aFind k n es i = some r →
    ∃ r', Instr.findNow (.int kind) (.int k n) es' i = some r' ∧ (match r, r' with
      | none, none => True
      | some (j, v), some (j', v') => j = j' ∧ VR ι v v'
      | _, _ => False)
  | _, _, .nil, i, r, h => by simp [aFind] at h; subst h; exact ⟨none, rfl, trivial⟩
  | _, _, .cons (v := vv) (v' := vv') hk hv t, i, r, h => by
    cases hk <;> simp only [aFind, reduceCtorEq] at h
    case int k' m =>
      by_cases e : k = k'
      · subst e
        simp only [decide_true, cond_true] at h
        cases hq : eqI n m with
        | true =>
          rw [hq] at h; simp at h; subst h
          rw [eqI_eq] at hq
          exact ⟨some (i, vv'), by simp [Instr.findNow, Instr.sameNow, hq], rfl, hv⟩
        | false =>
          rw [hq] at h; simp only [cond_false] at h
          rw [eqI_eq] at hq
          obtain ⟨r', h1, h2⟩ := run_aFind (kind := kind) t (i + 1) h
          exact ⟨r', by simp [Instr.findNow, Instr.sameNow, hq, h1], h2⟩
      · simp [e] at h

def aFindS (s : ByteArray) : List (Value × Value × Nat) → Nat → Option (Option (Nat × Value))
  | [], _ => some none
  | (.string s', v, _) :: es, i => bif s.data.toList == s'.data.toList then some (some (i, v)) else aFindS s es (i + 1)
  | _ :: _, _ => none
theorem bytes_beq (a b : ByteArray) : (a == b) = (a.data.toList == b.data.toList) := by
  have h : (a == b) = (a.data == b.data) := by cases a; cases b; rfl
  rw [h]
  simp
theorem run_aFindS {ι : Iota} {s : ByteArray} : ∀ {es : List (Value × Value × Nat)} {es' : List MapEntry}, ER ι es es' → ∀ (i : Nat) {r : Option (Nat × Value)}, aFindS s es i = some r →
    ∃ r', Instr.findNow .string (.string s) es' i = some r' ∧ (match r, r' with
      | none, none => True
      | some (j, v), some (j', v') => j = j' ∧ VR ι v v'
      | _, _ => False)
  | _, _, .nil, i, r, h => by simp [aFindS] at h; subst h; exact ⟨none, rfl, trivial⟩
  | _, _, .cons (v := vv) (v' := vv') hk hv t, i, r, h => by
    cases hk <;> simp only [aFindS, reduceCtorEq] at h
    case str s' =>
      cases hq : (s.data.toList == s'.data.toList) with
      | true =>
        rw [hq] at h; simp at h; subst h
        rw [← bytes_beq] at hq
        exact ⟨some (i, vv'), by simp only [Instr.findNow, Instr.sameNow, hq], rfl, hv⟩
      | false =>
        rw [hq] at h; simp only [cond_false] at h
        rw [← bytes_beq] at hq
        obtain ⟨r', h1, h2⟩ := run_aFindS t (i + 1) h
        exact ⟨r', by simp only [Instr.findNow, Instr.sameNow, hq, h1], h2⟩

def keyKind : TypeDesc → Value → Bool
  | .int _, .int _ _ => true
  | .string, .string _ => true
  | _, _ => false
def aFindK (k : Value) (es : List (Value × Value × Nat)) (i : Nat) : Option (Option (Nat × Value)) := match k with
  | .int kk n => aFind kk n es i
  | .string s => aFindS s es i
  | _ => none
theorem keyKind_self {ι : Iota} {kd : TypeDesc} {k k' : Value} (h : keyKind kd k = true) (hk : VR ι k k') : k' = k := by
  cases hk <;> first | rfl | (cases kd <;> simp [keyKind] at h)
theorem run_aFindK {ι : Iota} {kd : TypeDesc} {k : Value} (hk : keyKind kd k = true) {es : List (Value × Value × Nat)} {es' : List MapEntry} (her : ER ι es es') (i : Nat) {r : Option (Nat × Value)} : aFindK k es i = some r →
    ∃ r', Instr.findNow kd k es' i = some r' ∧ (match r, r' with
      | none, none => True
      | some (j, v), some (j', v') => j = j' ∧ VR ι v v'
      | _, _ => False) := by
  intro h
  unfold keyKind at hk
  split at hk
  · exact run_aFind her i h
  · exact run_aFindS her i h
  · cases hk
theorem run_checkKey {P : Program} {w : World} {t : TypeId} {kd : TypeDesc} {k : Value} (ht : P.underlying t = some kd) (hk : keyKind kd k = true) (b : Bool) (d : Nat) : (Instr.checkKey b (d + 1) t k).run P w = .ok () w := by
  unfold Instr.checkKey
  rw [Sem.run_bind, run_underlying ht]
  unfold keyKind at hk
  split at hk
  · rfl
  · rfl
  · cases hk

noncomputable def aMakeMap (M : Tr Blk) (nx : Nat) : Value × Tr Blk × Nat := (.map (some (256 * nx)), M.set nx (.map [] 0), nx + 1)
theorem run_aMakeMap {P : Program} {w0 : World} {ι : Iota} {M : Tr Blk} {nx : Nat} {w : World} {t : TypeId} (h : R w0 ι M w) (hf : Fresh ι nx (nx + 1)) :
    ∃ κ y w', (Instr.makeMap t none).run P w = .ok y w' ∧ Post w0 ι M nx w κ (aMakeMap M nx).2.1 (nx + 1) w' ∧ VR κ (aMakeMap M nx).1 y := by
  refine ⟨ι.upd (256 * nx) ⟨w.heap.size, none⟩, .map (some w.heap.size), w.alloc (.map #[] 0), rfl, ?_, ?_⟩
  · exact Post.alloc (s := 0) h hf (by omega) rfl (by simp) (.map rfl .nil)
  · exact VR.map (l := ⟨w.heap.size, none⟩) (Iota.upd_same _ _ _) rfl

theorem ER.length {ι : Iota} : ∀ {xs : List (Value × Value × Nat)} {ys : List MapEntry}, ER ι xs ys → xs.length = ys.length
  | _, _, .nil => rfl
  | _, _, .cons _ _ t => by simp [ER.length t]
theorem ER.snoc {ι : Iota} {k k' v v' : Value} {n : Nat} (hk : VR ι k k') (hv : VR ι v v') : ∀ {xs : List (Value × Value × Nat)} {ys : List MapEntry}, ER ι xs ys → ER ι (xs ++ [(k, v, n)]) (ys ++ [{ key := k', val := v', born := n }])
  | _, _, .nil => .cons hk hv .nil
  | _, _, .cons h1 h2 t => .cons h1 h2 (ER.snoc hk hv t)

/-- A store under a key that is not there yet. -/
noncomputable def aMapNew (P : Program) (M : Tr Blk) (t : TypeId) (m k v : Value) : Option (Tr Blk) := match P.underlying t, m with
  | some (.map kt _), .map (some b) => (match P.underlying kt, M.get (b / 256) with
    | some kd, some (.map es clock) => bif keyKind kd k then (match aFindK k es 0 with
      | some none => some (M.set (b / 256) (.map (es ++ [(k, v, clock)]) (clock + 1)))
      | _ => none) else none
    | _, _ => none)
  | _, _ => none
theorem run_aMapNew {P : Program} {w0 : World} {ι : Iota} {M M' : Tr Blk} {nx : Nat} {w : World} {t : TypeId} {m k v m' k' v' : Value} (h : R w0 ι M w) (hm : VR ι m m') (hk : VR ι k k') (hv : VR ι v v') (he : aMapNew P M t m k v = some M') :
    ∃ w', (Instr.mapUpdate t m' k' v').run P w = .ok () w' ∧ Post w0 ι M nx w ι M' nx w' := by
  unfold aMapNew at he
  split at he
  · rename_i kt et b hu
    cases hm with
    | map hι hg =>
      rename_i l
      split at he
      · rename_i kd es clock hkt hmm
        obtain ⟨hkk, he⟩ := cond_someK he
        have hself := keyKind_self hkk hk
        subst hself
        split at he
        · rename_i hfind
          simp at he; subst he
          obtain ⟨o, h1, h2⟩ := h.live b _ l hmm hι
          cases h2 with
          | map hg' her =>
            rename_i es'
            obtain ⟨r', f1, f2⟩ := run_aFindK hkk her 0 hfind
            cases r' with
            | some p => exact f2.elim
            | none =>
              have hlt : l.blk < w.heap.size := (Array.getElem?_eq_some_iff.1 h1).1
              refine ⟨{ w with heap := w.heap.setIfInBounds l.blk (.map (es'.push { key := k', val := v', born := clock }) (clock + 1)) }, ?_, ?_⟩
              · have hget : (getObj l.blk).run P w = .ok (.map es' clock) w := by simp [getObj, Sem.run, h1]
                have hset : (setObj l.blk (.map (es'.push { key := k', val := v', born := clock }) (clock + 1))).run P w = .ok () { w with heap := w.heap.setIfInBounds l.blk (.map (es'.push { key := k', val := v', born := clock }) (clock + 1)) } := by
                  simp [setObj, Sem.run, h1]
                have hck : (Instr.checkKey false 10000 kt k').run P w = .ok () w := run_checkKey hkt hkk false 9999
                have hfk : (Instr.findKey kt k' es'.toList).run P w = .ok none w := by
                  unfold Instr.findKey
                  rw [Sem.run_bind, run_underlying hkt]
                  simp only [Result.andThen_ok, f1]
                  rfl
                unfold Instr.mapUpdate
                simp only [Sem.run_bind, run_underlying hu, Result.andThen_ok, hget, hck, hfk, hset]
              · refine Post.write h hmm rfl hι ⟨_, by rw [Array.getElem?_setIfInBounds_self_of_lt hlt], .map hg' ?_⟩ (fun k hk => Array.getElem?_setIfInBounds_ne (Ne.symm hk)) (by simp) rfl rfl rfl
                rw [Array.toList_push]
                exact her.snoc hk hv
        · cases he
      · cases he
  · cases he

noncomputable def aLookup (P : Program) (M : Tr Blk) (t : TypeId) (m k : Value) (ok : Bool) : Option Value := match P.underlying t, m with
  | some (.map kt et), .map (some b) => (match P.underlying kt, M.get (b / 256) with
    | some kd, some (.map es _) => bif keyKind kd k then (match aFindK k es 0 with
      | some (some (_, v)) => some (bif ok then .tuple #[v, .bool true] else v)
      | some none => (match aZero P et with
        | some z => some (bif ok then .tuple #[z, .bool false] else z)
        | none => none)
      | _ => none) else none
    | _, _ => none)
  | _, _ => none
theorem run_aLookup {P : Program} {w0 : World} {ι : Iota} {M : Tr Blk} {w : World} {t : TypeId} {m k m' k' v : Value} {ok : Bool} (h : R w0 ι M w) (hm : VR ι m m') (hk : VR ι k k') (he : aLookup P M t m k ok = some v) :
    ∃ z, VR ι v z ∧ (Instr.lookup t m' k' ok).run P w = .ok z w := by
  unfold aLookup at he
  split at he
  · rename_i kt et b hu
    cases hm with
    | map hι hg =>
      rename_i l
      split at he
      · rename_i kd es clock hkt hmm
        obtain ⟨hkk, he⟩ := cond_someK he
        have hself := keyKind_self hkk hk
        subst hself
        obtain ⟨o, h1, h2⟩ := h.live b _ l hmm hι
        cases h2 with
        | map hg' her =>
          rename_i es'
          have hget : (getObj l.blk).run P w = .ok (.map es' clock) w := by simp [getObj, Sem.run, h1]
          have hck : ∀ b, (Instr.checkKey b 10000 kt k').run P w = .ok () w := fun b => run_checkKey hkt hkk b 9999
          split at he
          · rename_i j x hfind
            obtain ⟨r', f1, f2⟩ := run_aFindK hkk her 0 hfind
            cases r' with
            | none => exact f2.elim
            | some p =>
              obtain ⟨j', x'⟩ := p
              obtain ⟨rfl, hv⟩ := f2
              have hfk : (Instr.findKey kt k' es'.toList).run P w = .ok (some (j, x')) w := by
                unfold Instr.findKey
                rw [Sem.run_bind, run_underlying hkt]
                simp only [Result.andThen_ok, f1]
                rfl
              simp at he; subst he
              refine ⟨if ok then .tuple #[x', .bool true] else x', ?_, ?_⟩
              · cases ok
                · exact hv
                · exact .tuple (.cons hv (.cons (.bool _) .nil))
              · unfold Instr.lookup
                simp only [Sem.run_bind, run_underlying hu, Result.andThen_ok, hget, Sem.run_pure, hck, hfk]
          · rename_i hfind
            obtain ⟨r', f1, f2⟩ := run_aFindK hkk her 0 hfind
            cases r' with
            | some p => exact f2.elim
            | none =>
              have hfk : (Instr.findKey kt k' es'.toList).run P w = .ok none w := by
                unfold Instr.findKey
                rw [Sem.run_bind, run_underlying hkt]
                simp only [Result.andThen_ok, f1]
                rfl
              split at he
              · rename_i z0 hz
                simp at he; subst he
                have hzz := run_aZero hz w
                refine ⟨if ok then .tuple #[z0, .bool false] else z0, ?_, ?_⟩
                · cases ok
                  · exact okc_self _ hzz.1
                  · exact .tuple (.cons (okc_self _ hzz.1) (.cons (.bool _) .nil))
                · unfold Instr.lookup
                  simp only [Sem.run_bind, run_underlying hu, Result.andThen_ok, hget, Sem.run_pure, hck, hfk, hzz.2]
              · cases he
          · cases he
      · cases he
  · cases he
end Go.Proofs.YtjbanjpklgpenaaGreatDoor.Vm
