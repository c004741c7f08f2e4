/-
  THE ABSTRACT INTERPRETER, part I: loads, stores, new variables and rows.
-/
import Derived.Test.YtjbanjpklgpenaaGreatDoorVmH
namespace Go.Proofs.YtjbanjpklgpenaaGreatDoor.Vm

def Blk.vals : Blk → Option (List Value)
  | .cells _ vs => some vs
  | .grow vs => some vs
  | .frz vs => some vs
  | _ => none

theorem R.view {w0 : World} {ι : Iota} {M : Tr Blk} {w : World} {b : Nat} {x : Blk} {l : Loc} {vs : List Value} (h : R w0 ι M w) (hm : M.get (b / 256) = some x) (hι : ι b = some l) (hv : x.vals = some vs) :
    ∃ arr t fz mid, w.heap[l.blk]? = some (.cells arr t fz) ∧ VRL ι vs mid ∧ (∀ i, i < vs.length → arr[l.off i]? = mid[i]?) := by
  obtain ⟨o, h1, h2⟩ := h.live b x l hm hι
  cases h2 with
  | cells hg hl =>
    rename_i ro vs' arr t
    simp [Blk.vals] at hv; subst hv
    exact ⟨arr, t, _, arr.toList, h1, hl, fun i _ => by unfold Loc.off; rw [hg]; simp⟩
  | grow hb hg ha hp hl hc =>
    rename_i vs' arr t base cap pre mid post
    simp [Blk.vals] at hv; subst hv
    refine ⟨arr, t, _, mid, h1, hl, fun i hi => ?_⟩
    have hlen := hl.length
    unfold Loc.off; rw [hg]; simp only
    rw [← Array.getElem?_toList, ha, ← hp, List.append_assoc, List.getElem?_append_right (by omega)]
    rw [List.getElem?_append_left (by omega)]
    congr 1; omega
  | frz ha hp hl =>
    rename_i vs' arr t fz pre mid post
    simp [Blk.vals] at hv; subst hv
    refine ⟨arr, t, _, mid, h1, hl, fun i hi => ?_⟩
    have hlen := hl.length
    have ho : l.off i = l.off 0 + i := by unfold Loc.off; split <;> omega
    rw [ho, ← hp, ← Array.getElem?_toList, ha, List.append_assoc, List.getElem?_append_right (by omega)]
    rw [List.getElem?_append_left (by omega)]
    congr 1; omega
  | _ => simp [Blk.vals] at hv

theorem cell_view {w : World} {blk o : Nat} {arr : Array Value} {t : TypeId} {fz : Nat × Nat} (h : w.heap[blk]? = some (.cells arr t fz)) : w.cell? ⟨blk, o, none⟩ = arr[o]? := by
  simp [World.cell?, h]

noncomputable def aLoad (P : Program) (M : Tr Blk) (t : TypeId) (a : Value) : Option Value := match a with
  | .pointer (some ⟨b, o, none⟩) => (match M.get (b / 256) with
    | some x => (match x.vals, aAgg P t with
      | some vs, some true => (match aSize P t with
        | some n => bif Nat.ble (o + n) vs.length then some (.agg ((vs.drop o).take n).toArray) else none
        | none => none)
      | some vs, some false => vs[o]?
      | _, _ => none)
    | none => none)
  | _ => none

theorem run_loadVar {P : Program} {w0 : World} {ι : Iota} {M : Tr Blk} {w : World} {t : TypeId} {b o : Nat} {l : Loc} {v : Value} (h : R w0 ι M w) (hι : ι b = some l) (hv : aLoad P M t (.pointer (some ⟨b, o, none⟩)) = some v) :
    ∃ z, VR ι v z ∧ (loadVar t ⟨l.blk, l.off o, none⟩).run P w = .ok z w := by
  simp only [aLoad] at hv
  · split at hv
    · rename_i x hm
      split at hv
      · rename_i vs hx ha
        obtain ⟨arr, ty, fz, mid, g1, g2, g3⟩ := h.view hm hι hx
        split at hv
        · rename_i n hn
          cases hb : Nat.ble (o + n) vs.length with
          | false => rw [hb] at hv; simp at hv
          | true =>
            rw [hb] at hv; simp at hv; subst hv
            rw [Nat.ble_eq] at hb
            have hlen := g2.length
            have hcs : ((mid.drop o).take n).length = n := by rw [List.length_take, List.length_drop]; omega
            have hl := run_loadCells_list (P := P) w ⟨l.blk, l.off o, none⟩ ((mid.drop o).take n) (fun j u hj => by
              have hj' : j < n := by
                have := (List.getElem?_eq_some_iff.1 hj).1
                omega
              rw [add_none, Loc.off_add, cell_view g1, g3 (o + j) (by omega)]
              rw [List.getElem?_take_of_lt hj', List.getElem?_drop] at hj
              exact hj)
            rw [hcs] at hl
            refine ⟨.agg ((mid.drop o).take n).toArray, .agg ?_, ?_⟩
            · exact (g2.drop o).take n
            · unfold loadVar
              rw [Sem.run_bind, run_aAgg ha]
              simp only [Result.andThen_ok, if_true, Sem.run_bind, run_aSize hn, hl]
              rfl
        · cases hv
      · rename_i vs hx ha
        obtain ⟨arr, ty, fz, mid, g1, g2, g3⟩ := h.view hm hι hx
        obtain ⟨z, hz, hr⟩ := g2.get hv
        have ho : o < vs.length := (List.getElem?_eq_some_iff.1 hv).1
        refine ⟨z, hr, ?_⟩
        unfold loadVar
        rw [Sem.run_bind, run_aAgg ha]
        simp only [Result.andThen_ok, Bool.false_eq_true, if_false]
        rw [run_load, cell_view g1, g3 o ho, hz]
      · cases hv
    · cases hv

theorem run_aLoad {P : Program} {w0 : World} {ι : Iota} {M : Tr Blk} {w : World} {t : TypeId} {a u v : Value} (h : R w0 ι M w) (ha : VR ι a u) (hv : aLoad P M t a = some v) :
    ∃ z, VR ι v z ∧ (Instr.loadAt t u).run P w = .ok z w := by
  cases ha with
  | ptr hι =>
    obtain ⟨z, h1, h2⟩ := run_loadVar h hι hv
    exact ⟨z, h1, by simp [Instr.loadAt, Instr.sureAddr, h2]⟩
  | _ => simp [aLoad] at hv

/-! ### stores -/
def splice (vs : List Value) (o : Nat) (cs : List Value) : List Value := vs.take o ++ cs ++ vs.drop (o + cs.length)
theorem splice_length {vs cs : List Value} {o : Nat} (h : o + cs.length ≤ vs.length) : (splice vs o cs).length = vs.length := by
  simp [splice]; omega

def Blk.put : Blk → Nat → List Value → Option Blk
  | .cells false vs, o, cs => bif Nat.ble (o + cs.length) vs.length then some (.cells false (splice vs o cs)) else none
  | .grow vs, o, cs => bif Nat.ble (o + cs.length) vs.length then some (.grow (splice vs o cs)) else none
  | _, _, _ => none

theorem VRL.ones {ι : Iota} : ∀ {xs ys : List Value}, VRL ι xs ys → xs.all (·.oneCell') = true → ∀ z ∈ ys, z.oneCell' = true
  | _, _, .nil, _, _, hz => by cases hz
  | _, _, .cons hv t, h, z, hz => by
    simp only [List.all_cons, Bool.and_eq_true] at h
    cases hz with
    | head => rw [← hv.oneCell]; exact h.1
    | tail _ hz => exact VRL.ones t h.2 z hz

theorem run_put {P : Program} {w0 : World} {ι : Iota} {M : Tr Blk} {w : World} {nx b o : Nat} {x x' : Blk} {l : Loc} {cs cs' : List Value} (h : R w0 ι M w) (hm : M.get (b / 256) = some x) (hι : ι b = some l) (hp : x.put o cs = some x')
    (hcs : VRL ι cs cs') (h1 : cs.all (·.oneCell') = true) : ∃ w', (storeCells ⟨l.blk, l.off o, none⟩ cs').run P w = .ok () w' ∧ Post w0 ι M nx w ι (M.set (b / 256) x') nx w' := by
  have hone : ∀ v ∈ cs', v.oneCell' = true := hcs.ones h1
  have hlen := hcs.length
  obtain ⟨ob, g1, g2⟩ := h.live b x l hm hι
  cases g2 with
  | cells hg hl =>
    rename_i ro vs arr t
    cases ro with
    | true => simp [Blk.put] at hp
    | false =>
      simp only [Blk.put] at hp
      cases hb : Nat.ble (o + cs.length) vs.length with
      | false => rw [hb] at hp; simp at hp
      | true =>
        rw [hb] at hp; simp at hp; subst hp
        rw [Nat.ble_eq] at hb
        have hoff : l.off o = o := by unfold Loc.off; rw [hg]
        have hvl := hl.length
        have hst := run_storeCells_at P l.blk o t cs' 0 arr w g1 (by simp at hvl ⊢; omega) hone
        rw [hoff]
        refine ⟨_, hst, ?_⟩
        refine Post.write h hm rfl hι ⟨_, setRow_heap w l.blk arr _ t _ g1, .cells hg ?_⟩ (fun k hk => setRow_other w l.blk k _ hk) (by simp) rfl rfl rfl
        simp only [Nat.add_zero]
        unfold splice
        rw [hlen]
        exact ((hl.take o).append hcs).append (hl.drop _)
  | grow hb0 hg ha hpl hl hc =>
    rename_i vs arr t base cap pre mid post
    simp only [Blk.put] at hp
    cases hb : Nat.ble (o + cs.length) vs.length with
    | false => rw [hb] at hp; simp at hp
    | true =>
      rw [hb] at hp; simp at hp; subst hp
      rw [Nat.ble_eq] at hb
      have hoff : l.off o = base + o := by unfold Loc.off; rw [hg]
      have hvl := hl.length
      have hal : arr.size = pre.length + mid.length + post.length := by rw [← Array.length_toList, ha]; simp; omega
      have hst := run_storeCells_at P l.blk (base + o) t cs' 0 arr w g1 (by omega) hone
      rw [hoff]
      refine ⟨_, hst, ?_⟩
      have hnew : arr.toList.take (base + o + 0) ++ cs' ++ arr.toList.drop (base + o + 0 + cs'.length) = pre ++ splice mid o cs' ++ post := by
        rw [ha, ← hpl, Nat.add_zero]
        have e1 : (pre ++ mid ++ post).take (pre.length + o) = pre ++ mid.take o := by
          rw [List.append_assoc, List.take_length_add_append, List.take_append_of_le_length (by omega)]
        have e2 : (pre ++ mid ++ post).drop (pre.length + o + cs'.length) = mid.drop (o + cs'.length) ++ post := by
          rw [List.append_assoc, Nat.add_assoc, List.drop_length_add_append, List.drop_append_of_le_length (by omega)]
        rw [e1, e2]
        simp [splice]
      refine Post.write h hm rfl hι ⟨_, setRow_heap w l.blk arr _ t _ g1, .grow hb0 hg (mid := splice mid o cs') (by rw [hnew]) hpl ?_ ?_⟩ (fun k hk => setRow_other w l.blk k _ hk) (by simp) rfl rfl rfl
      · unfold splice
        rw [hlen]
        exact ((hl.take o).append hcs).append (hl.drop _)
      · rw [hnew]
        simp only [List.size_toArray, List.length_append, splice_length (vs := mid) (o := o) (cs := cs') (by omega)]
        omega
  | _ => simp [Blk.put] at hp

noncomputable def aStore (P : Program) (M : Tr Blk) (t : TypeId) (a v : Value) : Option (Tr Blk) := match a with
  | .pointer (some ⟨b, o, none⟩) => (match M.get (b / 256), aSize P t with
    | some x, some n => (match Nat.beq v.cells.toList.length n && v.cells.toList.all (·.oneCell'), x.put o v.cells.toList with
      | true, some x' => some (M.set (b / 256) x')
      | _, _ => none)
    | _, _ => none)
  | _ => none
theorem run_aStore {P : Program} {w0 : World} {ι : Iota} {M M' : Tr Blk} {nx : Nat} {w : World} {t : TypeId} {a u v z : Value} (h : R w0 ι M w) (ha : VR ι a u) (hv : VR ι v z) (hs : aStore P M t a v = some M') :
    ∃ w', (Instr.storeAt t u z).run P w = .ok () w' ∧ Post w0 ι M nx w ι M' nx w' := by
  cases ha with
  | ptr hι =>
    rename_i b o l
    unfold aStore at hs
    simp only at hs
    split at hs
    · rename_i x n hm hn
      split at hs
      · rename_i x' hc hp
        simp at hs; subst hs
        simp only [Bool.and_eq_true] at hc
        have e := Nat.eq_of_beq_eq_true hc.1
        have hcl := hv.cells
        obtain ⟨w', g1, g2⟩ := run_put (P := P) (nx := nx) h hm hι hp hcl hc.2
        refine ⟨w', ?_, g2⟩
        have hlen := hcl.length
        have hsz : ¬ z.cells.size ≠ n := by simp at hlen e; omega
        simp only [Instr.storeAt, Instr.sureAddr, Sem.run_bind, Sem.run_pure, Result.andThen_ok, storeVar, run_aSize hn, Sem.run_ite, hsz, if_false, g1]
      · cases hs
    · cases hs
  | _ => simp [aStore] at hs

/-! ### new blocks -/
theorem run_newCells {P : Program} {w0 : World} {ι : Iota} {M : Tr Blk} {nx : Nat} {w : World} {elem : TypeId} {vs : List Value} {arr : Array Value} (h : R w0 ι M w) (hf : Fresh ι nx (nx + 1)) (hv : VRL ι vs arr.toList) :
    (newRow elem arr).run P w = .ok ⟨w.heap.size, 0, none⟩ (w.alloc (.cells arr elem)) ∧ Post w0 ι M nx w (ι.upd (256 * nx) ⟨w.heap.size, none⟩) (M.set nx (.cells false vs)) (nx + 1) (w.alloc (.cells arr elem)) ∧
      VR (ι.upd (256 * nx) ⟨w.heap.size, none⟩) (.pointer (some ⟨256 * nx, 0, none⟩)) (.pointer (some ⟨w.heap.size, 0, none⟩)) ∧
      (∀ n c, VR (ι.upd (256 * nx) ⟨w.heap.size, none⟩) (.slice (some ⟨256 * nx, 0, none⟩) n c) (.slice (some ⟨w.heap.size, 0, none⟩) n c)) := by
  have hx := Iota.upd_ext (ι := ι) (b := 256 * nx) ⟨w.heap.size, none⟩ (hf _ (by omega) (by omega))
  refine ⟨rfl, ?_, ?_, ?_⟩
  · exact Post.alloc (s := 0) h hf (by omega) rfl (by simp) (.cells rfl (hv.mono hx))
  · exact VR.ptr (o := 0) (Iota.upd_same _ _ _)
  · intro n c
    exact VR.sl n c (Iota.upd_same _ _ _) rfl (by omega)

noncomputable def aBox (M : Tr Blk) (nx : Nat) (v : Value) : Value × Tr Blk × Nat := (.pointer (some ⟨256 * nx, 0, none⟩), M.set nx (.cells false v.cells.toList), nx + 1)
theorem run_aBox {P : Program} {w0 : World} {ι : Iota} {M : Tr Blk} {nx : Nat} {w : World} {elem : TypeId} {v z : Value} (h : R w0 ι M w) (hf : Fresh ι nx (nx + 1)) (hv : VR ι v z) :
    ∃ κ u w', (Instr.box elem z).run P w = .ok u w' ∧ Post w0 ι M nx w κ (aBox M nx v).2.1 (nx + 1) w' ∧ VR κ (aBox M nx v).1 u := by
  obtain ⟨g1, g2, g3, _⟩ := run_newCells (P := P) (elem := elem) h hf hv.cells
  exact ⟨_, _, _, by simp [Instr.box, newVar, g1], g2, g3⟩

/-- A variable that holds what is not known. -/
noncomputable def aBoxU (M : Tr Blk) (nx : Nat) : Value × Tr Blk × Nat := (.pointer (some ⟨256 * nx, 0, none⟩), M.set nx .dead, nx + 1)
theorem run_aBoxU {P : Program} {w0 : World} {ι : Iota} {M : Tr Blk} {nx : Nat} {w : World} {elem : TypeId} {z : Value} (h : R w0 ι M w) (hf : Fresh ι nx (nx + 1)) :
    ∃ κ u w', (Instr.box elem z).run P w = .ok u w' ∧ Post w0 ι M nx w κ (aBoxU M nx).2.1 (nx + 1) w' ∧ VR κ (aBoxU M nx).1 u :=
  ⟨ι.upd (256 * nx) ⟨w.heap.size, none⟩, .pointer (some ⟨w.heap.size, 0, none⟩), w.alloc (.cells z.cells elem), by simp [Instr.box, newVar, newRow, newObj, Sem.run], Post.alloc (s := 0) h hf (by omega) rfl (by simp) (.dead _ _), VR.ptr (o := 0) (Iota.upd_same _ _ _)⟩

noncomputable def aAlloc (P : Program) (M : Tr Blk) (nx : Nat) (elem : TypeId) : Option (Value × Tr Blk × Nat) := match aZero P elem with
  | some z => some (aBox M nx z)
  | none => none
theorem run_aAlloc {P : Program} {w0 : World} {ι : Iota} {M M' : Tr Blk} {nx nx' : Nat} {w : World} {elem : TypeId} {v : Value} (h : R w0 ι M w) (hf : Fresh ι nx nx') (ha : aAlloc P M nx elem = some (v, M', nx')) :
    ∃ κ u w', (Instr.alloc elem true (.tuple #[])).run P w = .ok u w' ∧ Post w0 ι M nx w κ M' nx' w' ∧ VR κ v u := by
  unfold aAlloc at ha
  split at ha
  · rename_i z hz
    simp [aBox] at ha; obtain ⟨rfl, rfl, rfl⟩ := ha
    have hzz := run_aZero hz w
    obtain ⟨g1, g2, g3, _⟩ := run_newCells (P := P) (elem := elem) h hf (okc_self z hzz.1).cells
    exact ⟨_, _, _, by simp [Instr.alloc, hzz.2, newVar, g1], g2, g3⟩
  · cases ha

/-- n cells of zeros. -/
def zeros (z : Array Value) (n : Nat) : List Value := (List.range n).map (fun i => z[i % z.size]!)
theorem zeros_rel {ι : Iota} {z : Value} (hz : okc z = true) (n : Nat) (hn : n = 0 ∨ 0 < z.cells.size) : VRL ι (zeros z.cells n) (zeros z.cells n) := by
  have hs : ∀ v ∈ z.cells.toList, VR ι v v := by
    intro v hv
    obtain ⟨i, hi⟩ := List.getElem?_of_mem hv
    obtain ⟨u, hu, h⟩ := (okc_self (ι := ι) z hz).cells.get hi
    rw [hi] at hu; simp at hu; subst hu; exact h
  have : ∀ (l : List Nat), (n = 0 → l = []) → VRL ι (l.map (fun i => z.cells[i % z.cells.size]!)) (l.map (fun i => z.cells[i % z.cells.size]!)) := by
    intro l
    induction l with
    | nil => intro _; exact .nil
    | cons i l ih =>
      intro hl
      rcases hn with h0 | h0
      · exact absurd (hl h0) (by simp)
      · refine .cons (hs _ ?_) (ih (fun e => by have := hl e; cases this))
        have hlt := Nat.mod_lt i h0
        show z.cells[i % z.cells.size]! ∈ z.cells.toList
        rw [getElem!_pos z.cells _ hlt]
        simp
  refine this _ (fun e => by rw [e]; rfl)

noncomputable def aMakeSlice (P : Program) (M : Tr Blk) (nx : Nat) (t : TypeId) (l c : Value) : Option (Value × Tr Blk × Nat) := match P.underlying t, l, c with
  | some (.slice elem), .int _ (.ofNat n), .int _ (.ofNat m) => (match P.info? elem, aZero P elem with
    | some i, some z => bif Nat.ble (i.bytes * m) 281474976710656 && Nat.ble n m && Nat.blt m 9223372036854775808 && (Nat.beq (m * i.size) 0 || Nat.blt 0 z.cells.size) then
        some (.slice (some ⟨256 * nx, 0, none⟩) n m, M.set nx (.cells false (zeros z.cells (m * i.size))), nx + 1) else none
    | _, _ => none)
  | _, _, _ => none
theorem run_aMakeSlice {P : Program} {w0 : World} {ι : Iota} {M M' : Tr Blk} {nx nx' : Nat} {w : World} {t : TypeId} {a b u z v : Value} (h : R w0 ι M w) (hf : Fresh ι nx nx') (ha : VR ι a u) (hb : VR ι b z) (he : aMakeSlice P M nx t a b = some (v, M', nx')) :
    ∃ κ y w', (Instr.makeSlice t u z).run P w = .ok y w' ∧ Post w0 ι M nx w κ M' nx' w' ∧ VR κ v y := by
  unfold aMakeSlice at he
  split at he
  · rename_i elem k n k' m hu
    cases ha; cases hb
    split at he
    · rename_i i z hi hz
      cases hc : (Nat.ble (i.bytes * m) 281474976710656 && Nat.ble n m && Nat.blt m 9223372036854775808 && (Nat.beq (m * i.size) 0 || Nat.blt 0 z.cells.size)) with
      | false => rw [hc] at he; simp at he
      | true =>
        rw [hc] at he; simp at he; obtain ⟨rfl, rfl, rfl⟩ := he
        simp only [Bool.and_eq_true, Nat.ble_eq, Nat.blt_eq, Bool.or_eq_true, Nat.beq_eq] at hc
        obtain ⟨⟨⟨c1, c2⟩, c3⟩, c4⟩ := hc
        have hzz := run_aZero hz w
        have hz0 := zeros_rel (ι := ι) hzz.1 (m * i.size) c4
        obtain ⟨g1, g2, _, g4⟩ := run_newCells (P := P) (elem := elem) (arr := (zeros z.cells (m * i.size)).toArray) h hf hz0
        refine ⟨_, _, _, ?_, g2, g4 n m⟩
        have wn : IntKind.i64.wrap (Int.ofNat n) = (n : Int) := by rw [wrap_i64]; simp only [Int.ofNat_eq_natCast]; split <;> omega
        have wm : IntKind.i64.wrap (Int.ofNat m) = (m : Int) := by rw [wrap_i64]; simp only [Int.ofNat_eq_natCast]; split <;> omega
        have hti : (typeInfo elem).run P w = .ok i w := by simp [typeInfo, hi]
        have hsz : (sizeOf elem).run P w = .ok i.size w := by simp [sizeOf, typeInfo, hi]
        have t1 : (decide ((m : Int) < 0) || decide ((i.bytes : Int) * (m : Int) > 2 ^ 48)) = false := by
          have e48 : (2 : Int) ^ 48 = 281474976710656 := by decide
          rw [e48]
          have : ((i.bytes : Int) * (m : Int)) = ((i.bytes * m : Nat) : Int) := by simp
          rw [this]
          simp; omega
        have hcond : ((decide ((m : Int) < 0) || decide ((i.bytes : Int) * (m : Int) > 2 ^ 48)) || decide ((n : Int) < 0) || decide ((n : Int) > (m : Int))) = false := by
          rw [t1]; simp; omega
        have hmap : ((Array.range (m * i.size)).map (fun x => z.cells[x % z.cells.size]!)) = (zeros z.cells (m * i.size)).toArray := by
          apply Array.ext'
          simp [zeros]
        unfold Instr.makeSlice
        simp only [Sem.run_bind, run_underlying hu, Result.andThen_ok, asInt, asIntOf, Sem.run_pure, hti, wn, wm, hcond, Bool.false_eq_true, if_false, Sem.run_ite, run_askRoom, hsz, Int.toNat_natCast]
        by_cases h0 : m * i.size = 0
        · have hz' : (zeros z.cells (m * i.size)).toArray = #[] := by rw [h0]; rfl
          have hm' : ((Array.range (m * i.size)).map (fun x => (#[] : Array Value)[x % (#[] : Array Value).size]!)) = (zeros z.cells (m * i.size)).toArray   := by rw [hz', h0]; simp
          simp only [h0, if_true]
          rw [h0] at hm' g1
          rw [hm', g1]
          rfl
        · simp only [h0, if_false, hzz.2, Result.andThen_ok]
          rw [hmap, g1]
          rfl
    · cases he
  · cases he

noncomputable def aBuildSlice (P : Program) (M : Tr Blk) (nx : Nat) (t : TypeId) (len : Nat) (parts : List (Nat × Value)) : Option (Value × Tr Blk × Nat) := match P.underlying t with
  | some (.slice elem) => (match aSize P elem, aZero P elem with
    | some sz, some z => bif Nat.ble (len * sz) 16777216 && Nat.blt 0 (len * sz) && Nat.blt 0 z.cells.size then
        (match Instr.fill (fun i => some (i * sz, sz)) (zeros z.cells (len * sz)).toArray parts with
        | some cells => some (.slice (some ⟨256 * nx, 0, none⟩) len len, M.set nx (.cells false cells.toList), nx + 1)
        | none => none) else none
    | _, _ => none)
  | _ => none
theorem run_aBuildSlice {P : Program} {w0 : World} {ι : Iota} {M M' : Tr Blk} {nx nx' : Nat} {w : World} {t : TypeId} {len : Nat} {ps : List (Nat × Value)} {qs : Array (Nat × Value)} {v : Value} (h : R w0 ι M w) (hf : Fresh ι nx nx') (hp : PartsR ι ps qs.toList)
    (he : aBuildSlice P M nx t len ps = some (v, M', nx')) : ∃ κ y w', (Instr.buildSlice t len qs).run P w = .ok y w' ∧ Post w0 ι M nx w κ M' nx' w' ∧ VR κ v y := by
  unfold aBuildSlice at he
  split at he
  · rename_i elem hu
    split at he
    · rename_i sz z hs hz
      cases hc : (Nat.ble (len * sz) 16777216 && Nat.blt 0 (len * sz) && Nat.blt 0 z.cells.size) with
      | false => rw [hc] at he; simp at he
      | true =>
        rw [hc] at he
        simp only [cond_true] at he
        split at he
        · rename_i cells hfill
          simp at he; obtain ⟨rfl, rfl, rfl⟩ := he
          simp only [Bool.and_eq_true, Nat.ble_eq, Nat.blt_eq] at hc
          obtain ⟨⟨c1, c2⟩, c3⟩ := hc
          have hzz := run_aZero hz w
          have hz0 := zeros_rel (ι := ι) hzz.1 (len * sz) (.inr c3)
          obtain ⟨cells', f1, f2⟩ := fill_rel _ hp _ (zeros z.cells (len * sz)).toArray cells hz0 hfill
          obtain ⟨g1, g2, _, g4⟩ := run_newCells (P := P) (elem := elem) h hf f2
          refine ⟨_, _, _, ?_, g2, g4 len len⟩
          have hmap : ((Array.range (len * sz)).map (fun x => z.cells[x % z.cells.size]!)) = (zeros z.cells (len * sz)).toArray := by
            apply Array.ext'
            simp [zeros]
          have n1 : ¬ len * sz > 2 ^ 24 := by omega
          have n2 : ¬ len * sz = 0 := by omega
          unfold Instr.buildSlice
          simp only [Sem.run_bind, run_underlying hu, Result.andThen_ok, run_aSize hs, Sem.run_ite, n1, if_false, n2, hzz.2, Sem.run_pure, hmap, f1, g1]
        · cases he
    · cases he
  · cases he
end Go.Proofs.YtjbanjpklgpenaaGreatDoor.Vm
