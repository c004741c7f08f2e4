/-
  THE ABSTRACT INTERPRETER, part J: append; maps.
  THE ABSTRACT INTERPRETER, part K: append's two arguments; maps.
-/
import Derived.Test.YtihloomkgpflmaaGreatDoorV3
import Derived.Laws.AppendOwn
import Derived.Laws.IdiomStrings
set_option linter.unusedSimpArgs false
set_option linter.unusedVariables false
namespace Go.Proofs.YtihloomkgpflmaaGreatDoor.Vm

/-- A row in which an append went on, under its new number. -/
theorem Post.move {w0 : World} {ι : Iota} {M : Tr Blk} {nx s : Nat} {w w' : World} {b : Nat} {x x' : Blk} {l l' : Loc} {o : Obj} (h : R w0 ι M w) (hf : Fresh ι nx (nx + 1)) (hs0 : s ≠ 0) (hs : s < 256)
    (hm : M.get (b / 256) = some x) (hw : x.wr = true) (hι : ι b = some l) (hl : l'.blk = l.blk) (hk : l'.gr ≠ none)
    (ho : w'.heap[l.blk]? = some o) (hbr : BR (ι.upd (256 * nx + s) l') (256 * nx + s) x' l' o)
    (hother : ∀ k, k ≠ l.blk → w'.heap[k]? = w.heap[k]?) (hsize : w'.heap.size = w.heap.size) (hos : w'.os = w.os) (hout : w'.output = w.output) (htape : w'.tape = w.tape) :
    Post w0 ι M nx w (ι.upd (256 * nx + s) l') ((M.set (b / 256) .dead).set nx x') (nx + 1) w' := by
  have hdiv : (256 * nx + s) / 256 = nx := by omega
  have hmod : (256 * nx + s) % 256 = s := by omega
  have hnone : ι (256 * nx + s) = none := hf _ (by omega) (by omega)
  have hext : Ext ι (ι.upd (256 * nx + s) l') := Iota.upd_ext l' hnone
  have hxd : x.isDead = false := by cases x <;> simp_all [Blk.wr, Blk.isDead]
  have hown := h.own b x l hm (Blk.mine_of_wr hw) hι
  have hbn : b / 256 ≠ nx := fun e => by rw [hf b (by omega) (by omega)] at hι; cases hι
  have inv : ∀ c m, ι.upd (256 * nx + s) l' c = some m → (c = 256 * nx + s ∧ m = l') ∨ (c / 256 ≠ nx ∧ ι c = some m) := by
    intro c m hc
    simp only [Iota.upd] at hc
    split at hc
    · rename_i e; simp at hc; exact .inl ⟨e, hc.symm⟩
    · refine .inr ⟨fun e => ?_, hc⟩
      rw [hf c (by omega) (by omega)] at hc; cases hc
  -- what the new memory says of an elder block
  have elder : ∀ c y, c / 256 ≠ nx → ((M.set (b / 256) Blk.dead).set nx x').get (c / 256) = some y → (y = Blk.dead ∧ c / 256 = b / 256) ∨ (c / 256 ≠ b / 256 ∧ M.get (c / 256) = some y) := by
    intro c y hc hy
    rw [Tr.get_set_ne _ _ hc] at hy
    by_cases e : c / 256 = b / 256
    · rw [e, Tr.get_set_same] at hy
      simp at hy; exact .inl ⟨hy.symm, e⟩
    · rw [Tr.get_set_ne _ _ e] at hy; exact .inr ⟨e, hy⟩
  refine ⟨hext, ?_, ?_, Nat.le_succ _, ⟨?_, ?_, ?_, ?_, ?_, by rw [hsize]; exact h.size, ?_, hos.trans h.os, hout.trans h.output, htape.trans h.tape, ?_⟩, ?_, by omega, fun _ _ e => .inl e⟩
  · intro c m hc hm'
    rcases inv c m hm' with ⟨rfl, rfl⟩ | ⟨_, h2⟩
    · exact ⟨by omega, .inr ⟨b, x, l, hm, hι, hl.symm⟩⟩
    · rw [hc] at h2; cases h2
  · intro n hn
    by_cases e : n = nx
    · exact .inr (by omega)
    · rw [Tr.get_set_ne _ _ e] at hn
      by_cases e2 : n = b / 256
      · exact .inl (by rw [e2, hm]; simp)
      · rw [Tr.get_set_ne _ _ e2] at hn; exact .inl hn
  · intro c m hc
    rcases inv c m hc with ⟨rfl, rfl⟩ | ⟨_, h2⟩
    · rw [hmod]; exact ⟨fun e => absurd e hk, fun e => absurd e hs0⟩
    · exact h.kinds c m h2
  · intro c c' m m' hc hc' e
    rcases inv c m hc with ⟨rfl, rfl⟩ | ⟨h1, h2⟩ <;> rcases inv c' m' hc' with ⟨rfl, rfl⟩ | ⟨h1', h2'⟩
    · rfl
    · exact absurd (e.symm.trans hdiv) h1'
    · exact absurd (e.trans hdiv) h1
    · exact h.uniq c c' m m' h2 h2' e
  · intro c y m hy hc
    rcases inv c m hc with ⟨rfl, rfl⟩ | ⟨h1, h2⟩
    · rw [hdiv, Tr.get_set_same] at hy
      simp at hy; subst hy
      exact ⟨o, by rw [hl]; exact ho, hbr⟩
    · rcases elder c y h1 hy with ⟨rfl, e⟩ | ⟨e, hy'⟩
      · have := h.uniq c b m l h2 hι e
        subst this
        rw [hι] at h2; simp at h2; subst h2
        exact ⟨o, ho, .dead _ _⟩
      · obtain ⟨o', k1, k2⟩ := h.live c y m hy' h2
        by_cases eb : m.blk = l.blk
        · cases hyd : y.isDead with
          | true =>
            cases y <;> simp [Blk.isDead] at hyd
            exact ⟨o, by rw [eb]; exact ho, .dead _ _⟩
          | false => exact absurd (h.inj c b y x m l hy' hm hyd hxd h2 hι eb) (fun e' => e (by rw [e']))
        · exact ⟨o', by rw [hother _ eb]; exact k1, k2.mono hext⟩
  · intro c c' y y' m m' hy hy' hd hd' hc hc' e
    rcases inv c m hc with ⟨rfl, rfl⟩ | ⟨h1, h2⟩ <;> rcases inv c' m' hc' with ⟨rfl, rfl⟩ | ⟨h1', h2'⟩
    · rfl
    · rcases elder c' y' h1' hy' with ⟨rfl, _⟩ | ⟨e1, hy2⟩
      · simp [Blk.isDead] at hd'
      · have := h.inj c' b y' x m' l hy2 hm hd' hxd h2' hι (by rw [← e, hl])
        exact absurd (by rw [this]) e1
    · rcases elder c y h1 hy with ⟨rfl, _⟩ | ⟨e1, hy2⟩
      · simp [Blk.isDead] at hd
      · have := h.inj c b y x m l hy2 hm hd hxd h2 hι (by rw [e, hl])
        exact absurd (by rw [this]) e1
    · rcases elder c y h1 hy with ⟨rfl, _⟩ | ⟨e1, hy2⟩
      · simp [Blk.isDead] at hd
      · rcases elder c' y' h1' hy' with ⟨rfl, _⟩ | ⟨e1', hy2'⟩
        · simp [Blk.isDead] at hd'
        · exact h.inj c c' y y' m m' hy2 hy2' hd hd' h2 h2' e
  · intro c y m hy hyw hc
    rcases inv c m hc with ⟨rfl, rfl⟩ | ⟨h1, h2⟩
    · rw [hl]; exact hown
    · rcases elder c y h1 hy with ⟨rfl, _⟩ | ⟨e1, hy2⟩
      · simp [Blk.mine] at hyw
      · exact h.own c y m hy2 hyw h2
  · intro i hi
    rw [hother i (by omega)]
    exact h.old i hi
  · intro a v ha
    obtain ⟨h1, h2⟩ := h.fz a v ha
    have hne := h2 b x l hm hw hι
    refine ⟨?_, ?_⟩
    · unfold World.cell? at h1 ⊢
      rw [hother a.block (Ne.symm hne)]
      exact h1
    · intro c y m hy hyw hc
      rcases inv c m hc with ⟨rfl, rfl⟩ | ⟨g1, g2⟩
      · rw [hl]; exact hne
      · rcases elder c y g1 hy with ⟨rfl, _⟩ | ⟨_, hy2⟩
        · simp [Blk.wr] at hyw
        · exact h2 c y m hy2 hyw g2
  · intro c hc hnot
    exact hother c (fun e => hnot b x l hm hι e.symm)

/-- n cells from o on. -/
def cut (vs : List Value) (o n : Nat) : Option (List Value) := bif Nat.ble (o + n) vs.length && ((vs.drop o).take n).all (·.oneCell') then some ((vs.drop o).take n) else none
theorem R.cut {w0 : World} {ι : Iota} {M : Tr Blk} {w : World} {b o n : Nat} {x : Blk} {l : Loc} {vs cs : List Value} (h : R w0 ι M w) (hm : M.get (b / 256) = some x) (hι : ι b = some l) (hv : x.vals = some vs) (hc : cut vs o n = some cs) :
    ∃ cs', VRL ι cs cs' ∧ cs.length = n ∧ cs.all (·.oneCell') = true ∧ ∀ j u, cs'[j]? = some u → w.cell? ((⟨l.blk, l.off o, none⟩ : Addr).add j) = some u := by
  unfold Vm.cut at hc
  cases hb : (Nat.ble (o + n) vs.length && ((vs.drop o).take n).all (·.oneCell')) with
  | false => rw [hb] at hc; simp at hc
  | true =>
    rw [hb] at hc; simp only [cond_true, Option.some.injEq] at hc; subst hc
    simp only [Bool.and_eq_true, Nat.ble_eq] at hb
    obtain ⟨arr, t, fz, mid, g1, g2, g3⟩ := h.view hm hι hv
    have hlen := g2.length
    refine ⟨(mid.drop o).take n, (g2.drop o).take n, by rw [List.length_take, List.length_drop]; omega, hb.2, fun j u hj => ?_⟩
    have hj' : j < n := by
      have := (List.getElem?_eq_some_iff.1 hj).1
      rw [List.length_take] at this
      omega
    rw [add_none, Loc.off_add, cell_view g1, g3 (o + j) (by omega)]
    rw [List.getElem?_take_of_lt hj', List.getElem?_drop] at hj
    exact hj

/-- Where an append does its work: nothing new at all, in place, in a new row, or in either. -/
noncomputable def aAppendTo (M : Tr Blk) (nx sz bytes : Nat) (dst : Value) (n : Nat) (news : List Value) : Option (Value × Tr Blk × Nat) := match dst with
  | .slice none 0 0 => (match n with
    | 0 => some (.slice none 0 0, M, nx)
    | n + 1 => bif Nat.ble ((n + 1) * bytes) 140737488355328 && Nat.ble (n + 1) 1000000000 then some (.slice (some ⟨256 * nx + sz, 0, none⟩) (n + 1) (n + 1), M.set nx (.grow news), nx + 1) else none)
  | .slice (some ⟨b, o, none⟩) len cap => (match M.get (b / 256), Nat.ble (len + n) cap && Nat.ble len cap && (Nat.beq (b % 256) 0 || Nat.beq (b % 256) sz) with
    | some x, true => (match x.put (o + len * sz) news with
      | some x' => some (.slice (some ⟨b, o, none⟩) (len + n) cap, M.set (b / 256) x', nx)
      | none => none)
    | some (.cells _ vs), false => (match cut vs o (len * sz), Nat.beq (b % 256) 0 && Nat.ble ((len + n) * bytes) 140737488355328 && Nat.ble (len + n) 1000000000 && Nat.blt cap (len + n) with
      | some olds, true => some (.slice (some ⟨256 * nx + sz, 0, none⟩) (len + n) (len + n), M.set nx (.grow (olds ++ news)), nx + 1)
      | _, _ => none)
    | some (.grow vs), false => (match cut vs o (len * sz), Nat.beq (b % 256) sz && Nat.blt 0 cap && Nat.ble ((len + n) * bytes) 140737488355328 && Nat.ble (len + n) 1000000000 && Nat.blt cap (len + n) with
      | some olds, true => some (.slice (some ⟨256 * nx + sz, 0, none⟩) (len + n) (len + n), (M.set (b / 256) .dead).set nx (.grow (olds ++ news)), nx + 1)
      | _, _ => none)
    | _, _ => none)
  | _ => none

/-- What an append takes its new elements from. -/
structure Src (P : Program) (w : World) (u : TypeId) (x : Value) (size n : Nat) (ns : List Value) : Prop where
  ty : (∃ e, P.underlying u = some (.slice e)) ∨ P.underlying u = some .string
  len : ∀ w', (Builtin.lenOf x).run P w' = .ok n w'
  cells : ∀ w', w'.heap = w.heap → (Builtin.firstCells size n x).run P w' = .ok ns.toArray w'
theorem Src.slice {P : Program} {w : World} {t e : TypeId} (ht : P.underlying t = some (.slice e)) {a : Addr} {size n c : Nat} {ns : List Value} (hl : ns.length = n * size) (hns : ∀ j v, ns[j]? = some v → w.cell? (a.add j) = some v) : Src P w t (.slice (some a) n c) size n ns :=
  ⟨.inl ⟨_, ht⟩, fun _ => rfl, fun w' hw => run_firstCells_some (P := P) w' size n a n c ns hl (fun j v hj => by
    have := hns j v hj
    unfold World.cell? at this ⊢
    rw [hw]; exact this)⟩
theorem Src.string {P : Program} {w : World} {t : TypeId} (ht : P.underlying t = some .string) (s : ByteArray) : Src P w t (.string s) 1 s.size (s.data.toList.map fun b => Value.int .u8 (b.toNat : Int)) :=
  ⟨.inr ht, fun _ => rfl, fun w' _ => by
    simp [Builtin.firstCells]
    apply Array.ext'
    simp⟩
section src
variable {P : Program} (w : World) (t u ty e : TypeId) (i : TypeInfo) (ht : P.underlying t = some (.slice e)) (hi : P.info? e = some i) {x : Value} {n : Nat} {news : List Value} (hs : Src P w u x i.size n news)
include ht hi hs
theorem run_append_nil' (z : Value) (hz : i.zero = some z) (h0 : 0 < n) (h63 : (n : Int) ≤ 9223372036854775807) (h48 : n * i.bytes ≤ 281474976710656) :
    (Builtin.append_ #[t, u] ty #[.slice none 0 0, x]).run P w =
      .ok (.slice (some ⟨w.heap.size, 0, none⟩) n (grownCap w n 0 e)) (w.drew.alloc (.cells (news.toArray ++ Builtin.zeroCells z.cells (grownCap w n 0 e - n)) e)) := by
  have hn : n ≠ 0 := by omega
  have h63' : ¬ (9223372036854775807 < (n : Int)) := by omega
  have h48' : ¬ (281474976710656 < Builtin.nextslicecap n 0 * i.bytes) := by rw [nextslicecap_zero h0]; omega
  have hf := hs.cells w.drew rfl
  rcases hs.ty with ⟨e', hd⟩ | hd <;> simp [Builtin.append_, run_underlying ht, run_underlying hd, sizeOf, typeInfo, zeroValue, hi, hz, hs.len, hn, h63', h48', Question.forced, run_firstCells_none, hf, newRow, grownCap]
theorem run_append_grow' (z : Value) (hz : i.zero = some z) (b : Addr) (sLen sCap : Nat) (olds : List Value) (hlo : olds.length = sLen * i.size) (holds : ∀ j v, olds[j]? = some v → w.cell? (b.add j) = some v)
    (hg : sCap < sLen + n) (h63 : ((sLen + n : Nat) : Int) ≤ 9223372036854775807) (hfit : Builtin.nextslicecap (sLen + n) sCap * i.bytes ≤ 281474976710656) :
    (Builtin.append_ #[t, u] ty #[.slice (some b) sLen sCap, x]).run P w =
      .ok (.slice (some ⟨w.heap.size, 0, none⟩) (sLen + n) (grownCap w (sLen + n) sCap e))
        (w.drew.alloc (.cells (olds.toArray ++ news.toArray ++ Builtin.zeroCells z.cells (grownCap w (sLen + n) sCap e - (sLen + n))) e)) := by
  have hn : ¬ (sLen + n ≤ sCap) := by omega
  have h63' : ¬ (9223372036854775807 < ((sLen : Int) + (n : Int))) := by omega
  have h48' : ¬ (281474976710656 < Builtin.nextslicecap (sLen + n) sCap * i.bytes) := by omega
  have hf := hs.cells w.drew rfl
  have hfo := run_firstCells_some (P := P) w.drew i.size sLen b sLen sCap olds hlo (by simpa using holds)
  rcases hs.ty with ⟨e', hd⟩ | hd
  all_goals
    simp [Builtin.append_, run_underlying ht, run_underlying hd, sizeOf, typeInfo, zeroValue, hi, hz, hs.len, hn, h63', h48', Question.forced, hf, hfo, newRow, grownCap]
    congr 2
    apply Array.ext'
    simp [List.append_assoc]
theorem run_append_at (g o sLen sCap : Nat) (cur : Array Value) (ct : TypeId) (hg : w.heap[g]? = some (.cells cur ct (0, 0))) (h1 : ∀ u ∈ news, u.oneCell' = true)
    (hroom : sLen + n ≤ sCap) (hfit : o + sLen * i.size + news.length ≤ cur.size) :
    (Builtin.append_ #[t, u] ty #[.slice (some ⟨g, o, none⟩) sLen sCap, x]).run P w =
      .ok (.slice (some ⟨g, o, none⟩) (sLen + n) sCap) (w.setRow g (cur.toList.take (o + sLen * i.size) ++ news ++ cur.toList.drop (o + sLen * i.size + news.length)).toArray) := by
  have hf := hs.cells w rfl
  have hst := run_storeCells_at P g (o + sLen * i.size) ct news 0 cur w hg (by simpa using hfit) h1
  simp only [Nat.add_zero] at hst
  rcases hs.ty with ⟨e', hd⟩ | hd <;> simp [Builtin.append_, run_underlying ht, run_underlying hd, sizeOf, typeInfo, hi, hs.len, hroom, hf, add_none, hst]
end src

theorem Post.undrew {w0 : World} {ι κ : Iota} {M M' : Tr Blk} {nx nx' : Nat} {w w' : World} (h : Post w0 ι M nx w.drew κ M' nx' w') : Post w0 ι M nx w κ M' nx' w' :=
  ⟨h.ext, h.new, h.dom, h.le, h.rel, h.frame, h.size, h.fzn⟩

/-- A new row that an append made. -/
theorem Post.grown {w0 : World} {ι : Iota} {M : Tr Blk} {nx sz n cap : Nat} {w : World} {vs ys : List Value} {z : Array Value} {e : TypeId} (h : R w0 ι M w) (hf : Fresh ι nx (nx + 1)) (hs0 : 0 < sz) (hs : sz < 256) (hz : z.size = sz) (hv : VRL ι vs ys) (hl : vs.length = n * sz)
    (hn : 0 < n) (hc : n ≤ cap) : ∃ κ, Post w0 ι M nx w κ (M.set nx (.grow vs)) (nx + 1) (w.drew.alloc (.cells (ys.toArray ++ Builtin.zeroCells z (cap - n)) e)) ∧
      VR κ (.slice (some ⟨256 * nx + sz, 0, none⟩) n n) (.slice (some ⟨w.heap.size, 0, none⟩) n cap) := by
  have hx := Iota.upd_ext (ι := ι) (b := 256 * nx + sz) ⟨w.heap.size, some (0, cap)⟩ (hf _ (by omega) (by omega))
  have hmod : (256 * nx + sz) % 256 = sz := by omega
  have hylen := hv.length
  refine ⟨ι.upd (256 * nx + sz) ⟨w.heap.size, some (0, cap)⟩, ?_, ?_⟩
  · refine Post.undrew (Post.alloc (w := w.drew) (h.drawn _) hf hs rfl ?_ ?_)
    · simp; omega
    · refine .grow (by omega) rfl (pre := []) (mid := ys) (post := (Builtin.zeroCells z (cap - n)).toList) (by simp) rfl (hv.mono hx) ?_
      rw [hmod, Array.size_append, size_zeroCells, hz]
      simp only [List.size_toArray]
      rw [← hylen, hl, ← Nat.add_mul, Nat.zero_add]
      exact Nat.mul_le_mul_right _ (by omega)
  · have := VR.slg (ι := ι.upd (256 * nx + sz) ⟨w.heap.size, some (0, cap)⟩) (b := 256 * nx + sz) (o := 0) (e := 0) n n cap (Iota.upd_same _ _ _) rfl (by omega) hn (Nat.le_refl _) (by simp) hc (by omega)
    simpa using this

theorem Post.kill {w0 : World} {ι : Iota} {M : Tr Blk} {nx : Nat} {w : World} {b : Nat} {x : Blk} {l : Loc} (h : R w0 ι M w) (hm : M.get (b / 256) = some x) (hw : x.wr = true) (hι : ι b = some l) : Post w0 ι M nx w ι (M.set (b / 256) .dead) nx w := by
  obtain ⟨o, h1, _⟩ := h.live b x l hm hι
  exact Post.write h hm hw hι ⟨o, h1, .dead _ _⟩ (fun _ _ => rfl) rfl rfl rfl rfl

theorem run_aAppendTo {P : Program} {w0 : World} {ι : Iota} {M M' : Tr Blk} {nx nx' : Nat} {w : World} {t ty e : TypeId} {i : TypeInfo} {z : Value} (ht : P.underlying t = some (.slice e)) (hi : P.info? e = some i) (hz : i.zero = some z)
    (hs0 : 0 < i.size) (hs : i.size < 256) (hzs : z.cells.size = i.size) (h : R w0 ι M w) (hf : Fresh ι nx nx') {d u : Value} (hd : VR ι d u) {n : Nat} (hn : 0 < n) {news ns : List Value} {us : TypeId} {sx : Value} (hv : VRL ι news ns) (hl : news.length = n * i.size)
    (h1 : news.all (·.oneCell') = true) (hns : Src P w us sx i.size n ns) {v : Value} (he : aAppendTo M nx i.size i.bytes d n news = some (v, M', nx')) :
    ∃ κ y w', (Builtin.append_ #[t, us] ty #[u, sx]).run P w = .ok y w' ∧ Post w0 ι M nx w κ M' nx' w' ∧ VR κ v y := by
  have hlen := hv.length
  have hones := hv.ones h1
  unfold aAppendTo at he
  split at he
  · cases hd
    split at he
    · omega
    · rename_i n
      cases hc : (Nat.ble ((n + 1) * i.bytes) 140737488355328 && Nat.ble (n + 1) 1000000000) with
      | false => rw [hc] at he; simp at he
      | true =>
        rw [hc] at he; simp at he; obtain ⟨rfl, rfl, rfl⟩ := he
        simp only [Bool.and_eq_true, Nat.ble_eq] at hc
        have hr := run_append_nil' (n := n + 1) (P := P) w t us ty e i ht hi hns z hz (by omega) (by omega) (by omega)
        obtain ⟨κ, k1, k2⟩ := Post.grown (e := e) (z := z.cells) h hf hs0 hs hzs hv hl (by omega) (grownCap_ge w (n + 1) 0 e)
        exact ⟨κ, _, _, hr, k1, k2⟩
  · rename_i b o len cap
    split at he
    · -- in place for sure
      rename_i x hm hc
      split at he
      · rename_i x' hp
        simp at he; obtain ⟨rfl, rfl, rfl⟩ := he
        simp only [Bool.and_eq_true, Nat.ble_eq, Bool.or_eq_true, Nat.beq_eq] at hc
        obtain ⟨⟨c1, c2⟩, c3⟩ := hc
        have inplace : ∀ (l : Loc) (cap' : Nat), ι b = some l → len + n ≤ cap' →
            ∃ w', (Builtin.append_ #[t, us] ty #[.slice (some ⟨l.blk, l.off o, none⟩) len cap', sx]).run P w = .ok (.slice (some ⟨l.blk, l.off o, none⟩) (len + n) cap') w' ∧ Post w0 ι M nx w ι (M.set (b / 256) x') nx w' := by
          intro l cap' hι hroom
          obtain ⟨w', g1, g2⟩ := run_put (P := P) (nx := nx) h hm hι hp hv h1
          obtain ⟨ob, q1, q2⟩ := h.live b x l hm hι
          have hfit : ∃ cur ct, ob = .cells cur ct (0, 0) ∧ l.off o + len * i.size + ns.length ≤ cur.size := by
            cases q2 with
            | cells hg hl' =>
              rename_i ro vs arr ct
              refine ⟨arr, ct, rfl, ?_⟩
              cases ro with
              | true => simp [Blk.put] at hp
              | false =>
                simp only [Blk.put] at hp
                cases hb : Nat.ble (o + len * i.size + news.length) vs.length with
                | false => rw [hb] at hp; simp at hp
                | true =>
                  rw [Nat.ble_eq] at hb
                  have := hl'.length
                  have : l.off o = o := by unfold Loc.off; rw [hg]
                  simp at *; omega
            | grow hb0 hg ha hpl hl' hcc =>
              rename_i vs arr ct base cap2 pre mid post
              refine ⟨arr, ct, rfl, ?_⟩
              simp only [Blk.put] at hp
              cases hb : Nat.ble (o + len * i.size + news.length) vs.length with
              | false => rw [hb] at hp; simp at hp
              | true =>
                rw [Nat.ble_eq] at hb
                have h2 := hl'.length
                have h3 : l.off o = base + o := by unfold Loc.off; rw [hg]
                have h4 : arr.size = pre.length + mid.length + post.length := by rw [← Array.length_toList, ha]; simp; omega
                omega
            | _ => simp [Blk.put] at hp
          obtain ⟨cur, ct, rfl, hfit⟩ := hfit
          have hr := run_append_at (P := P) w t us ty e i ht hi hns l.blk (l.off o) len cap' cur ct q1 hones hroom hfit
          refine ⟨w', ?_, g2⟩
          rw [hr]
          have hst := run_storeCells_at P l.blk (l.off o + len * i.size) ct ns 0 cur w q1 (by omega) hones
          rw [Loc.off_add] at hst
          rw [g1] at hst
          simp only [Nat.add_zero, Result.ok.injEq, true_and] at hst
          rw [hst, ← Loc.off_add]
        cases hd with
        | sl _ _ hι hg hb =>
          rename_i l
          obtain ⟨w', g1, g2⟩ := inplace l cap hι c1
          have ho : l.off o = o := by unfold Loc.off; rw [hg]
          rw [ho] at g1
          exact ⟨ι, _, w', g1, g2, .sl _ _ hι hg hb⟩
        | slg _ _ C hι hg hb h0 hn' ho hcc hC =>
          rename_i l base cap2 e2
          obtain ⟨w', g1, g2⟩ := inplace l C hι (by omega)
          have ho' : l.off o = base + o := by unfold Loc.off; rw [hg]
          rw [ho'] at g1
          exact ⟨ι, _, w', g1, g2, .slg _ _ _ hι hg hb h0 (by omega) ho hcc hC⟩
        | sle => omega
      · cases he
    · -- a row whose room is known and too small
      rename_i ro vs hm hc
      split at he
      · rename_i olds hcut hc2
        simp at he; obtain ⟨rfl, rfl, rfl⟩ := he
        simp only [Bool.and_eq_true, Nat.ble_eq, Nat.beq_eq, Nat.blt_eq] at hc2
        obtain ⟨⟨⟨c1, c2⟩, c3⟩, c4⟩ := hc2
        cases hd with
        | sl _ _ hι hg hb =>
          rename_i l
          have ho : l.off o = o := by unfold Loc.off; rw [hg]
          obtain ⟨os, k1, k2, k3, k4⟩ := h.cut hm hι (vs := vs) rfl hcut
          rw [ho] at k4
          have k5 := k1.length
          have hr := run_append_grow' (P := P) w t us ty e i ht hi hns z hz ⟨l.blk, o, none⟩ len cap os (by omega) k4 (by omega) (by omega) (growslice_fits (by omega) (by omega))
          obtain ⟨κ, q1, q2⟩ := Post.grown (e := e) (z := z.cells) (cap := grownCap w (len + n) cap e) h hf hs0 hs hzs (k1.append hv) (by rw [List.length_append, k2, hl, Nat.add_mul]) (by omega) (grownCap_ge w (len + n) cap e)
          refine ⟨κ, _, _, hr, ?_, q2⟩
          simpa using q1
        | slg _ _ _ hι hg hb => exact absurd c1 hb
        | sle _ _ hι hg hb => exact absurd c1 hb
      · cases he
    · -- a row that may have room
      rename_i vs hm hc
      split at he
      · rename_i olds hcut hc2
        simp at he; obtain ⟨rfl, rfl, rfl⟩ := he
        simp only [Bool.and_eq_true, Nat.ble_eq, Nat.beq_eq, Nat.blt_eq] at hc2
        obtain ⟨⟨⟨⟨c1, c0⟩, c2⟩, c3⟩, c4⟩ := hc2
        cases hd with
        | sl _ _ hι hg hb => omega
        | slg _ _ C hι hg hb h0 hn' ho hcc hC =>
          rename_i l base cap2 e2
          have ho' : l.off o = base + o := by unfold Loc.off; rw [hg]
          obtain ⟨os, k1, k2, k3, k4⟩ := h.cut hm hι (vs := vs) rfl hcut
          rw [ho'] at k4
          have k5 := k1.length
          by_cases hroom : len + n ≤ C
          · -- it has: the row goes on under a new number
            obtain ⟨ob, q1, q2⟩ := h.live b _ l hm hι
            cases q2 with
            | grow hb0 hg' ha hpl hl' hcc' =>
              rename_i arr ct base' cap' pre mid post
              rw [hg] at hg'
              simp at hg'; obtain ⟨rfl, rfl⟩ := hg'
              have hml := hl'.length
              have h4 : arr.size = pre.length + mid.length + post.length := by rw [← Array.length_toList, ha]; simp; omega
              have hmul : (len + n) * i.size ≤ C * i.size := Nat.mul_le_mul_right _ hroom
              have hsplit : C * i.size + e2 * i.size ≤ cap2 * i.size := by rw [← Nat.add_mul]; exact Nat.mul_le_mul_right _ hC
              rw [c1] at hcc' ho
              rw [Nat.add_mul] at hmul
              have hfit : base + o + len * i.size + ns.length ≤ arr.size := by omega
              have hr := run_append_at (P := P) w t us ty e i ht hi hns l.blk (base + o) len C arr ct q1 hones hroom hfit
              have hx := Iota.upd_ext (ι := ι) (b := 256 * nx + i.size) ⟨l.blk, some (base + o, C)⟩ (hf _ (by omega) (by omega))
              have hmod : (256 * nx + i.size) % 256 = i.size := by omega
              refine ⟨ι.upd (256 * nx + i.size) ⟨l.blk, some (base + o, C)⟩, _, _, hr, ?_, ?_⟩
              · refine Post.move h hf (by omega) hs hm rfl hι rfl (by simp) (setRow_heap w l.blk arr _ ct _ q1) ?_ (fun k hk => setRow_other w l.blk k _ hk) (by simp) rfl rfl rfl
                have hcutv : olds = (vs.drop o).take (len * i.size) := by
                  unfold Vm.cut at hcut
                  cases hb : (Nat.ble (o + len * i.size) vs.length && ((vs.drop o).take (len * i.size)).all (·.oneCell')) with
                  | false => rw [hb] at hcut; simp at hcut
                  | true => rw [hb] at hcut; simpa using hcut.symm
                have hob : o + len * i.size ≤ vs.length := by
                  have : olds.length = len * i.size := k2
                  rw [hcutv, List.length_take, List.length_drop] at this
                  rcases Nat.eq_zero_or_pos (len * i.size) with hz0 | hz0
                  · unfold Vm.cut at hcut
                    cases hb : (Nat.ble (o + len * i.size) vs.length && ((vs.drop o).take (len * i.size)).all (·.oneCell')) with
                    | false => rw [hb] at hcut; simp at hcut
                    | true => simp only [Bool.and_eq_true, Nat.ble_eq] at hb; exact hb.1
                  · omega
                have hnew : arr.toList.take (base + o + len * i.size) ++ ns ++ arr.toList.drop (base + o + len * i.size + ns.length) = (pre ++ mid.take o) ++ ((mid.drop o).take (len * i.size) ++ ns) ++ arr.toList.drop (base + o + len * i.size + ns.length) := by
                  have e1 : arr.toList.take (base + o + len * i.size) = pre ++ mid.take o ++ (mid.drop o).take (len * i.size) := by
                    rw [ha, ← hpl, List.append_assoc, Nat.add_assoc, List.take_length_add_append, List.take_append_of_le_length (by omega), List.append_assoc, ← List.take_add]
                  rw [e1]
                  simp
                refine .grow (by omega) rfl (base := base + o) (cap := C) (pre := pre ++ mid.take o) (mid := (mid.drop o).take (len * i.size) ++ ns) (by rw [hnew]) (by rw [List.length_append, List.length_take]; omega) ?_ ?_
                · rw [hcutv]
                  exact (((hl'.drop o).take _).append hv).mono hx
                · rw [hmod, hnew]
                  simp only [List.size_toArray, List.length_append, List.length_take, List.length_drop, Array.length_toList]
                  omega
              · have := VR.slg (ι := ι.upd (256 * nx + i.size) ⟨l.blk, some (base + o, C)⟩) (b := 256 * nx + i.size) (o := 0) (e := 0) (len + n) (len + n) C (Iota.upd_same _ _ _) rfl (by omega) (by omega) (Nat.le_refl _) (by simp) hroom (by omega)
                simpa using this
          · -- it has none: a new row
            have hr := run_append_grow' (P := P) w t us ty e i ht hi hns z hz ⟨l.blk, base + o, none⟩ len C os (by omega) k4 (by omega) (by omega) (growslice_fits (by omega) (by omega))
            have hkill := Post.kill (nx := nx) h hm rfl hι
            obtain ⟨κ, q1, q2⟩ := Post.grown (e := e) (z := z.cells) (cap := grownCap w (len + n) C e) hkill.rel hf hs0 hs hzs (k1.append hv) (by rw [List.length_append, k2, hl, Nat.add_mul]) (by omega) (grownCap_ge w (len + n) (C) e)
            refine ⟨κ, _, _, hr, ?_, q2⟩
            simpa using hkill.trans hf q1
        | sle _ _ hι hg hb => omega
      · cases he
    · cases he
  · cases he
end Go.Proofs.YtihloomkgpflmaaGreatDoor.Vm

namespace Go.Proofs.YtihloomkgpflmaaGreatDoor.Vm

noncomputable def aAppend (P : Program) (M : Tr Blk) (nx : Nat) (t : TypeId) (dst src : Value) : Option (Value × Tr Blk × Nat) := match P.underlying t with
  | some (.slice elem) => (match P.info? elem with
    | some i => (match i.zero with
      | some z => bif Nat.blt 0 i.size && Nat.blt i.size 256 && Nat.beq z.cells.size i.size then
          (match src with
          | .slice a 0 _ => (match a, dst with
            | none, .slice b n c => bif Nat.ble n c then some (.slice b n c, M, nx) else none
            | some _, .slice b n c => bif Nat.ble n c then some (.slice b n c, M, nx) else none
            | _, _ => none)
          | .slice (some ⟨b, o, none⟩) (n + 1) _ => (match M.get (b / 256) with
            | some x => (match x.vals with
              | some vs => (match cut vs o ((n + 1) * i.size) with
                | some news => aAppendTo M nx i.size i.bytes dst (n + 1) news
                | none => none)
              | none => none)
            | none => none)
          | src => (match datOf src with
            | some (n, cs) => (match n with
              | 0 => (match dst with
                | .slice b n c => bif Nat.ble n c then some (.slice b n c, M, nx) else none
                | _ => none)
              | n + 1 => (match cut cs 0 ((n + 1) * i.size) with
                | some news => aAppendTo M nx i.size i.bytes dst (n + 1) news
                | none => none))
            | none => none)) else none
      | none => none)
    | none => none)
  | _ => none

theorem run_append_none {P : Program} (w : World) (t ty e : TypeId) (i : TypeInfo) (ht : P.underlying t = some (.slice e)) (hi : P.info? e = some i) (b a : Option Addr) (n c d : Nat) (h : n ≤ c) :
    (Builtin.append_ #[t, t] ty #[.slice b n c, .slice a 0 d]).run P w = .ok (.slice b n c) w := by
  cases a with
  | none => cases b <;> simp [Builtin.append_, run_underlying ht, sizeOf, typeInfo, hi, Builtin.lenOf, h, run_firstCells_none, storeCells]
  | some a =>
    have hf := run_firstCells_some (P := P) w i.size 0 a 0 d [] (by simp) (by simp)
    cases b <;> simp [Builtin.append_, run_underlying ht, sizeOf, typeInfo, hi, Builtin.lenOf, h, hf, storeCells]

/-! ### texts and rows of bytes -/
def bytesOf (s : ByteArray) : List Value := s.data.toList.map fun b => .int .u8 (.ofNat b.toNat)
theorem VRL.bytes {ι : Iota} : ∀ l : List UInt8, VRL ι (l.map fun b => Value.int .u8 (.ofNat b.toNat)) (l.map fun b => Value.int .u8 (.ofNat b.toNat))
  | [] => .nil
  | _ :: l => .cons (.int _ _) (VRL.bytes l)
/-- Are these bytes? -/
def bytesIn : List Value → Option (List UInt8)
  | [] => some []
  | .int .u8 (.ofNat n) :: r => bif Nat.blt n 256 then (match bytesIn r with
    | some l => some (UInt8.ofNat n :: l)
    | none => none) else none
  | _ => none
noncomputable def aConvM (P : Program) (M : Tr Blk) (nx : Nat) (src dst : TypeId) (x : Value) : Option (Value × Tr Blk × Nat) := match P.underlying src, P.underlying dst, x with
  | some .string, some (.slice e), .string s => (match P.underlying e, Nat.blt 0 s.size with
    | some (.int .u8), true => some (.slice (some ⟨256 * nx + 1, 0, none⟩) s.size s.size, M.set nx (.frz (bytesOf s)), nx + 1)
    | _, _ => none)
  | some (.slice _), some (.slice e), .slice (some ⟨b, o, none⟩) n c => (match P.underlying e, M.get (b / 256), Nat.beq src dst && Nat.beq (b % 256) 0 with
    | some (.int .u8), some (.cells false vs), true => some (.slice (some ⟨b, o, none⟩) n c, M.set (b / 256) (.frz vs), nx)
    | _, _, _ => none)
  | some (.slice e), some .string, .slice (some ⟨b, o, none⟩) n _ => (match P.underlying e, M.get (b / 256) with
    | some (.int .u8), some y => (match y.vals with
      | some vs => (match cut vs o n with
        | some cs => (match bytesIn cs with
          | some l => some (.string ⟨l.toArray⟩, M, nx)
          | none => none)
        | none => none)
      | none => none)
    | _, _ => none)
  | _, _, _ => none

theorem bytesIn_spec {ι : Iota} : ∀ {vs us : List Value} {l : List UInt8}, bytesIn vs = some l → VRL ι vs us → us = l.map fun b => Value.int .u8 (b.toNat : Int)
  | [], _, l, h, .nil => by simp [bytesIn] at h; subst h; rfl
  | v :: vs, _, l, h, .cons hv t => by
    unfold bytesIn at h
    split at h
    · rename_i e; cases e
    · rename_i n r e
      simp only [List.cons.injEq] at e
      obtain ⟨rfl, rfl⟩ := e
      cases hb : Nat.blt n 256 with
      | false => rw [hb] at h; simp at h
      | true =>
        rw [hb] at h; simp only [cond_true] at h
        rw [Nat.blt_eq] at hb
        split at h
        · rename_i l' hl
          simp at h; subst h
          have := bytesIn_spec hl t
          cases hv
          rw [this]
          simp only [List.map_cons, List.cons.injEq, and_true, Value.int.injEq, true_and]
          show ((n : Nat) : Int) = ((UInt8.ofNat n).toNat : Int)
          rw [UInt8.toNat_ofNat']
          congr 1
          omega
        · cases h
    · cases h

theorem run_aConvM {P : Program} {w0 : World} {ι : Iota} {M M' : Tr Blk} {nx nx' : Nat} {w : World} {src dst : TypeId} (h : R w0 ι M w) (hf : Fresh ι nx nx') {x u v : Value} (hx : VR ι x u) (he : aConvM P M nx src dst x = some (v, M', nx')) :
    ∃ κ y w', (convert src dst u).run P w = .ok y w' ∧ Post w0 ι M nx w κ M' nx' w' ∧ VR κ v y := by
  unfold aConvM at he
  split at he
  · rename_i e s h1 h2
    split at he
    · rename_i h3 h0
      simp at he; obtain ⟨rfl, rfl, rfl⟩ := he
      rw [Nat.blt_eq] at h0
      cases hx
      have hr := run_bytes_of_string (P := P) w src dst e s h1 h2 h3
      have hge := grownCap_ge w s.size 0 e
      have hx := Iota.upd_ext (ι := ι) (b := 256 * nx + 1) ⟨w.heap.size, some (0, grownCap w s.size 0 e)⟩ (hf _ (by omega) (by omega))
      refine ⟨ι.upd (256 * nx + 1) ⟨w.heap.size, some (0, grownCap w s.size 0 e)⟩, _, _, hr, ?_, ?_⟩
      · refine Post.undrew (Post.alloc (w := w.drew) (h.drawn _) hf (by omega) rfl (by simp) ?_)
        refine .frz (pre := []) (mid := bytesOf s) (post := (Array.replicate (grownCap w s.size 0 e - s.size) (Value.int .u8 0)).toList) ?_ rfl (VRL.bytes s.data.toList)
        simp [bytesRow, bytesOf]
      · have := VR.slg (ι := ι.upd (256 * nx + 1) ⟨w.heap.size, some (0, grownCap w s.size 0 e)⟩) (b := 256 * nx + 1) (o := 0) (e := 0) s.size s.size (grownCap w s.size 0 e) (Iota.upd_same _ _ _) rfl (by omega) h0 (Nat.le_refl _) (by simp) hge (by omega)
        simpa using this
    · cases he
  · rename_i e1 e b o n c h1 h2
    split at he
    · rename_i vs h3 hm hc
      simp at he; obtain ⟨rfl, rfl, rfl⟩ := he
      simp only [Bool.and_eq_true, Nat.beq_eq] at hc
      obtain ⟨rfl, hb0⟩ := hc
      obtain rfl : e1 = e := by have := h1.symm.trans h2; simpa using this
      have go : ∀ ll : Loc, ι b = some ll → ll.gr = none → ∃ w', (convert src src (.slice (some ⟨ll.blk, o, none⟩) n c)).run P w = .ok (.slice (some ⟨ll.blk, o, none⟩) n c) w' ∧ Post w0 ι M nx w ι (M.set (b / 256) (.frz vs)) nx w' := by
        intro ll hι hg
        obtain ⟨ob, q1, q2⟩ := h.live b _ ll hm hι
        cases q2 with
        | cells hg2 hl =>
          rename_i arr t
          have hlt : ll.blk < w.heap.size := (Array.getElem?_eq_some_iff.1 q1).1
          have hsh : w.shape? ll.blk = some (t, arr.size) := by unfold World.shape?; rw [q1]
          refine ⟨w.freeze ⟨ll.blk, arr.size, none⟩ 1, ?_, ?_⟩
          · unfold convert
            simp only [Sem.run_bind, run_underlying h1, Result.andThen_ok, run_underlying h3, beq_self_eq_true, markStringish, run_shape, hsh, run_freeze]
            rfl
          · refine Post.write h hm rfl hι ⟨.cells arr t (arr.size, arr.size + 1), ?_, .frz (pre := []) (mid := arr.toList) (post := []) (by simp) (by unfold Loc.off; rw [hg]; rfl) hl⟩ ?_ ?_ rfl rfl rfl
            · unfold World.freeze
              rw [if_neg (by decide)]
              simp only [Array.getElem?_modify, if_true, q1]
              rfl
            · intro k hk
              unfold World.freeze
              rw [if_neg (by decide)]
              simp only [Array.getElem?_modify]
              rw [if_neg (Ne.symm hk)]
            · unfold World.freeze
              rw [if_neg (by decide)]
              simp
      cases hx with
      | sl _ _ hι hg hb =>
        obtain ⟨w', g1, g2⟩ := go _ hι hg
        exact ⟨ι, _, w', g1, g2, .sl _ _ hι hg hb⟩
      | slg _ _ _ hι hg hb => exact absurd hb0 hb
      | sle _ _ hι hg hb => exact absurd hb0 hb
    · cases he
  · rename_i e b o n c h1 h2
    split at he
    · rename_i y h3 hm
      split at he
      · rename_i vs hv
        split at he
        · rename_i cs hcut
          split at he
          · rename_i l hl
            simp at he; obtain ⟨rfl, rfl, rfl⟩ := he
            have go : ∀ (ll : Loc) (c' : Nat), ι b = some ll → (convert src dst (.slice (some ⟨ll.blk, ll.off o, none⟩) n c')).run P w = .ok (.string ⟨l.toArray⟩) w := by
              intro ll c' hι
              obtain ⟨cs', k1, k2, k3, k4⟩ := h.cut hm hι hv hcut
              have k5 := bytesIn_spec hl k1
              have k6 := k1.length
              have hn : l.length = n := by rw [k5] at k6; simp at k6; omega
              subst hn
              refine run_convert_bytes_back w src dst e ⟨ll.blk, ll.off o, none⟩ c' l h1 h3 h2 (fun j hj => ?_)
              refine k4 j _ ?_
              rw [k5]
              simp [List.getElem?_eq_getElem hj]
            refine ⟨ι, .string ⟨l.toArray⟩, w, ?_, Post.refl h, .str _⟩
            cases hx with
            | sl _ _ hι hg hb =>
              rename_i ll
              have ho : ll.off o = o := by unfold Loc.off; rw [hg]
              have := go ll c hι
              rw [ho] at this
              exact this
            | slg _ _ C hι hg hb h0 hn ho hc hC =>
              rename_i ll base cap e2
              have ho' : ll.off o = base + o := by unfold Loc.off; rw [hg]
              have := go ll C hι
              rw [ho'] at this
              exact this
            | sle a c' hι hg hb =>
              have hn : l = [] := by
                obtain ⟨cs', k1, k2, k3, k4⟩ := h.cut hm hι hv hcut
                have k5 := bytesIn_spec hl k1
                have k6 := k1.length
                rw [k5] at k6
                simp at k6
                have : l.length = 0 := by omega
                exact List.length_eq_zero_iff.1 this
              subst hn
              exact run_convert_bytes_back w src dst e a c' [] h1 h3 h2 (fun j hj => by simp at hj)
          · cases he
        · cases he
      · cases he
    · cases he
  · cases he

theorem VR.slice_inv {ι : Iota} {b : Option Addr} {n c : Nat} {u : Value} (h : VR ι (.slice b n c) u) : ∃ b' c', u = .slice b' n c' ∧ (n ≤ c → n ≤ c') := by
  cases h with
  | sl0 => exact ⟨_, _, rfl, id⟩
  | sl => exact ⟨_, _, rfl, id⟩
  | slg => exact ⟨_, _, rfl, fun _ => by omega⟩
  | sle => exact ⟨_, _, rfl, fun _ => Nat.zero_le _⟩

theorem cond_someI {α : Type} {c : Bool} {x y : α} (h : (bif c then some x else none) = some y) : c = true ∧ x = y := by
  cases c with
  | false => cases h
  | true => exact ⟨rfl, by simpa using h⟩
theorem run_aAppend {P : Program} {w0 : World} {ι : Iota} {M M' : Tr Blk} {nx nx' : Nat} {w : World} {t ty : TypeId} (h : R w0 ι M w) (hf : Fresh ι nx nx') {d u s z v : Value} (hd : VR ι d u) (hs : VR ι s z) (he : aAppend P M nx t d s = some (v, M', nx')) :
    ∃ κ y w', (Builtin.append_ #[t, t] ty #[u, z]).run P w = .ok y w' ∧ Post w0 ι M nx w κ M' nx' w' ∧ VR κ v y := by
  unfold aAppend at he
  split at he
  · rename_i elem ht
    split at he
    · rename_i i hi
      split at he
      · rename_i zv hz
        cases hc : (Nat.blt 0 i.size && Nat.blt i.size 256 && Nat.beq zv.cells.size i.size) with
        | false => rw [hc] at he; simp at he
        | true =>
          rw [hc] at he; simp only [cond_true] at he
          simp only [Bool.and_eq_true, Nat.blt_eq, Nat.beq_eq] at hc
          obtain ⟨⟨c1, c2⟩, c3⟩ := hc
          have nothing : ∀ (b : Option Addr) (n c : Nat) (a : Option Addr) (q : Nat), d = .slice b n c → s = .slice a 0 q → (bif Nat.ble n c then some (Value.slice b n c, M, nx) else none) = some (v, M', nx') →
              ∃ κ y w', (Builtin.append_ #[t, t] ty #[u, z]).run P w = .ok y w' ∧ Post w0 ι M nx w κ M' nx' w' ∧ VR κ v y := by
            clear he
            intro b n c a q hd' hs' he
            subst hd'; subst hs'
            cases hb : Nat.ble n c with
            | false => rw [hb] at he; simp at he
            | true =>
              rw [hb] at he; simp at he; obtain ⟨rfl, rfl, rfl⟩ := he
              rw [Nat.ble_eq] at hb
              obtain ⟨b', c', rfl, hle⟩ := hd.slice_inv
              obtain ⟨a', q', rfl, _⟩ := hs.slice_inv
              exact ⟨ι, _, w, run_append_none w t ty elem i ht hi b' a' n c' q' (hle hb), Post.refl h, hd⟩
          split at he
          · split at he
            · exact nothing _ _ _ _ _ rfl rfl he
            · exact nothing _ _ _ _ _ rfl rfl he
            · cases he
          · rename_i b o n q
            split at he
            · rename_i x hm
              split at he
              · rename_i vs hx
                split at he
                · rename_i news hcut
                  have hsrc : ∃ (l : Loc) (q' : Nat), ι b = some l ∧ z = .slice (some ⟨l.blk, l.off o, none⟩) (n + 1) q' := by
                    cases hs with
                    | sl _ _ hι hg hb => exact ⟨_, _, hι, by unfold Loc.off; rw [hg]⟩
                    | slg _ _ _ hι hg hb h0 hn' ho hcc => exact ⟨_, _, hι, by unfold Loc.off; rw [hg]⟩
                  obtain ⟨l, q', hι, rfl⟩ := hsrc
                  obtain ⟨ns, k1, k2, k3, k4⟩ := h.cut hm hι hx hcut
                  exact run_aAppendTo ht hi hz c1 c2 c3 h hf hd (Nat.succ_pos n) k1 k2 k3 (.slice ht (by rw [← k1.length]; exact k2) k4) he
                · cases he
              · cases he
            · cases he
          · split at he
            · rename_i n cs hd2
              split at he
              · split at he
                · rename_i b n c
                  obtain ⟨hb, he⟩ := cond_someI he
                  simp only [Prod.mk.injEq] at he
                  obtain ⟨rfl, rfl, rfl⟩ := he
                  rw [Nat.ble_eq] at hb
                  obtain ⟨b', c', rfl, hle⟩ := hd.slice_inv
                  rcases datOf_spec hd2 hs with ⟨b2, o2, zs, c2, rfl, _⟩ | ⟨_, rfl | ⟨a2, c2, rfl⟩⟩
                  · exact ⟨ι, _, w, run_append_none w t ty elem i ht hi b' _ n c' c2 (hle hb), Post.refl h, hd⟩
                  · exact ⟨ι, _, w, run_append_none w t ty elem i ht hi b' none n c' 0 (hle hb), Post.refl h, hd⟩
                  · exact ⟨ι, _, w, run_append_none w t ty elem i ht hi b' (some a2) n c' c2 (hle hb), Post.refl h, hd⟩
                · cases he
              · rename_i n
                split at he
                · rename_i news hcut
                  rcases datOf_spec hd2 hs with ⟨b2, o2, zs, cc, rfl, _, hfz, hl⟩ | ⟨h0, _⟩
                  · have hcut2 : (n + 1) * i.size ≤ cs.length ∧ news = cs.take ((n + 1) * i.size) ∧ news.all (·.oneCell') = true := by
                      unfold Vm.cut at hcut
                      obtain ⟨hb, hcut⟩ := cond_someI hcut
                      simp only [Bool.and_eq_true, Nat.ble_eq, Nat.zero_add, List.drop_zero] at hb hcut
                      subst hcut
                      exact ⟨hb.1, rfl, hb.2⟩
                    obtain ⟨q1, rfl, q3⟩ := hcut2
                    have hlen := hl.length
                    refine run_aAppendTo ht hi hz c1 c2 c3 h hf hd (Nat.succ_pos n) (hl.take _) (by rw [List.length_take]; exact Nat.min_eq_left q1) q3 (.slice ht (by rw [List.length_take]; exact Nat.min_eq_left (by rw [← hlen]; exact q1)) (fun j v hj => ?_)) he
                    have hj' : j < (n + 1) * i.size := by
                      have := (List.getElem?_eq_some_iff.1 hj).1
                      rw [List.length_take] at this
                      omega
                    rw [List.getElem?_take_of_lt hj'] at hj
                    rw [add_none]
                    exact (h.fz _ _ (hfz j v hj)).1
                  · omega
                · cases he
            · cases he
      · cases he
    · cases he
  · cases he

theorem cond_someK {α : Type} {c : Bool} {x : Option α} {y : α} (h : (bif c then x else none) = some y) : c = true ∧ x = some y := by
  cases c with
  | true => exact ⟨rfl, h⟩
  | false => cases h

/-- append(b, s...) of a text. -/
noncomputable def aAppendS (P : Program) (M : Tr Blk) (nx : Nat) (t us : TypeId) (dst src : Value) : Option (Value × Tr Blk × Nat) := match P.underlying t, P.underlying us, src with
  | some (.slice elem), some .string, .string s => (match P.info? elem with
    | some i => (match i.zero with
      | some z => bif Nat.beq i.size 1 && Nat.beq z.cells.size 1 && Nat.blt 0 s.size then aAppendTo M nx i.size i.bytes dst s.size (bytesOf s) else none
      | none => none)
    | none => none)
  | _, _, _ => none
theorem run_aAppendS {P : Program} {w0 : World} {ι : Iota} {M M' : Tr Blk} {nx nx' : Nat} {w : World} {t us ty : TypeId} (h : R w0 ι M w) (hf : Fresh ι nx nx') {d u s z v : Value} (hd : VR ι d u) (hs : VR ι s z) (he : aAppendS P M nx t us d s = some (v, M', nx')) :
    ∃ κ y w', (Builtin.append_ #[t, us] ty #[u, z]).run P w = .ok y w' ∧ Post w0 ι M nx w κ M' nx' w' ∧ VR κ v y := by
  unfold aAppendS at he
  split at he
  · rename_i elem s ht hus
    cases hs
    split at he
    · rename_i i hi
      split at he
      · rename_i zv hz
        obtain ⟨hc, he⟩ := cond_someK he
        simp only [Bool.and_eq_true, Nat.blt_eq, Nat.beq_eq] at hc
        obtain ⟨⟨c1, c2⟩, c3⟩ := hc
        have hsrc := Src.string (P := P) (w := w) hus s
        rw [← c1] at hsrc
        exact run_aAppendTo ht hi hz (by omega) (by omega) (by omega) h hf hd c3 (VRL.bytes s.data.toList) (by rw [c1]; simp) (List.all_eq_true.2 fun x hx => by simp only [List.mem_map] at hx; obtain ⟨b, _, rfl⟩ := hx; rfl) hsrc he
      · cases he
    · cases he
  · cases he

/-! ### maps whose keys are numbers -/
def intKey : Value → Option (IntKind × Int)
  | .int k n => some (k, n)
  | _ => none

/-- Where a key stands. -/
def aFind (k : IntKind) (n : Int) : List (Value × Value × Nat) → Nat → Option (Option (Nat × Value))
  | [], _ => some none
  | (.int k' m, v, _) :: es, i => bif decide (k = k') then (bif eqI n m then some (some (i, v)) else aFind k n es (i + 1)) else none
  | _ :: _, _ => none
theorem run_aFind {ι : Iota} {kind : IntKind} {k : IntKind} {n : Int} : ∀ {es : List (Value × Value × Nat)} {es' : List MapEntry}, ER ι es es' → ∀ (i : Nat) {r : Option (Nat × Value)}, aFind k n es i = some r →
    ∃ r', Instr.findNow (.int kind) (.int k n) es' i = some r' ∧ (match r, r' with
      | none, none => True
      | some (j, v), some (j', v') => j = j' ∧ VR ι v v'
      | _, _ => False)
  | _, _, .nil, i, r, h => by simp [aFind] at h; subst h; exact ⟨none, rfl, trivial⟩
  | _, _, .cons (v := vv) (v' := vv') hk hv t, i, r, h => by
    cases hk <;> simp only [aFind, reduceCtorEq] at h
    case int k' m =>
      by_cases e : k = k'
      · subst e
        simp only [decide_true, cond_true] at h
        cases hq : eqI n m with
        | true =>
          rw [hq] at h; simp at h; subst h
          rw [eqI_eq] at hq
          exact ⟨some (i, vv'), by simp [Instr.findNow, Instr.sameNow, hq], rfl, hv⟩
        | false =>
          rw [hq] at h; simp only [cond_false] at h
          rw [eqI_eq] at hq
          obtain ⟨r', h1, h2⟩ := run_aFind (kind := kind) t (i + 1) h
          exact ⟨r', by simp [Instr.findNow, Instr.sameNow, hq, h1], h2⟩
      · simp [e] at h

def aFindS (s : ByteArray) : List (Value × Value × Nat) → Nat → Option (Option (Nat × Value))
  | [], _ => some none
  | (.string s', v, _) :: es, i => bif s.data.toList == s'.data.toList then some (some (i, v)) else aFindS s es (i + 1)
  | _ :: _, _ => none
theorem bytes_beq (a b : ByteArray) : (a == b) = (a.data.toList == b.data.toList) := by
  have h : (a == b) = (a.data == b.data) := by cases a; cases b; rfl
  rw [h]
  simp
theorem run_aFindS {ι : Iota} {s : ByteArray} : ∀ {es : List (Value × Value × Nat)} {es' : List MapEntry}, ER ι es es' → ∀ (i : Nat) {r : Option (Nat × Value)}, aFindS s es i = some r →
    ∃ r', Instr.findNow .string (.string s) es' i = some r' ∧ (match r, r' with
      | none, none => True
      | some (j, v), some (j', v') => j = j' ∧ VR ι v v'
      | _, _ => False)
  | _, _, .nil, i, r, h => by simp [aFindS] at h; subst h; exact ⟨none, rfl, trivial⟩
  | _, _, .cons (v := vv) (v' := vv') hk hv t, i, r, h => by
    cases hk <;> simp only [aFindS, reduceCtorEq] at h
    case str s' =>
      cases hq : (s.data.toList == s'.data.toList) with
      | true =>
        rw [hq] at h; simp at h; subst h
        rw [← bytes_beq] at hq
        exact ⟨some (i, vv'), by simp only [Instr.findNow, Instr.sameNow, hq], rfl, hv⟩
      | false =>
        rw [hq] at h; simp only [cond_false] at h
        rw [← bytes_beq] at hq
        obtain ⟨r', h1, h2⟩ := run_aFindS t (i + 1) h
        exact ⟨r', by simp only [Instr.findNow, Instr.sameNow, hq, h1], h2⟩

def keyKind : TypeDesc → Value → Bool
  | .int _, .int _ _ => true
  | .string, .string _ => true
  | _, _ => false
def aFindK (k : Value) (es : List (Value × Value × Nat)) (i : Nat) : Option (Option (Nat × Value)) := match k with
  | .int kk n => aFind kk n es i
  | .string s => aFindS s es i
  | _ => none
theorem keyKind_self {ι : Iota} {kd : TypeDesc} {k k' : Value} (h : keyKind kd k = true) (hk : VR ι k k') : k' = k := by
  cases hk <;> first | rfl | (cases kd <;> simp [keyKind] at h)
theorem run_aFindK {ι : Iota} {kd : TypeDesc} {k : Value} (hk : keyKind kd k = true) {es : List (Value × Value × Nat)} {es' : List MapEntry} (her : ER ι es es') (i : Nat) {r : Option (Nat × Value)} : aFindK k es i = some r →
    ∃ r', Instr.findNow kd k es' i = some r' ∧ (match r, r' with
      | none, none => True
      | some (j, v), some (j', v') => j = j' ∧ VR ι v v'
      | _, _ => False) := by
  intro h
  unfold keyKind at hk
  split at hk
  · exact run_aFind her i h
  · exact run_aFindS her i h
  · cases hk
theorem run_checkKey {P : Program} {w : World} {t : TypeId} {kd : TypeDesc} {k : Value} (ht : P.underlying t = some kd) (hk : keyKind kd k = true) (b : Bool) (d : Nat) : (Instr.checkKey b (d + 1) t k).run P w = .ok () w := by
  unfold Instr.checkKey
  rw [Sem.run_bind, run_underlying ht]
  unfold keyKind at hk
  split at hk
  · rfl
  · rfl
  · cases hk

noncomputable def aMakeMap (M : Tr Blk) (nx : Nat) : Value × Tr Blk × Nat := (.map (some (256 * nx)), M.set nx (.map [] 0), nx + 1)
theorem run_aMakeMap {P : Program} {w0 : World} {ι : Iota} {M : Tr Blk} {nx : Nat} {w : World} {t : TypeId} (h : R w0 ι M w) (hf : Fresh ι nx (nx + 1)) :
    ∃ κ y w', (Instr.makeMap t none).run P w = .ok y w' ∧ Post w0 ι M nx w κ (aMakeMap M nx).2.1 (nx + 1) w' ∧ VR κ (aMakeMap M nx).1 y := by
  refine ⟨ι.upd (256 * nx) ⟨w.heap.size, none⟩, .map (some w.heap.size), w.alloc (.map #[] 0), rfl, ?_, ?_⟩
  · exact Post.alloc (s := 0) h hf (by omega) rfl (by simp) (.map rfl .nil)
  · exact VR.map (l := ⟨w.heap.size, none⟩) (Iota.upd_same _ _ _) rfl

theorem ER.length {ι : Iota} : ∀ {xs : List (Value × Value × Nat)} {ys : List MapEntry}, ER ι xs ys → xs.length = ys.length
  | _, _, .nil => rfl
  | _, _, .cons _ _ t => by simp [ER.length t]
theorem ER.snoc {ι : Iota} {k k' v v' : Value} {n : Nat} (hk : VR ι k k') (hv : VR ι v v') : ∀ {xs : List (Value × Value × Nat)} {ys : List MapEntry}, ER ι xs ys → ER ι (xs ++ [(k, v, n)]) (ys ++ [{ key := k', val := v', born := n }])
  | _, _, .nil => .cons hk hv .nil
  | _, _, .cons h1 h2 t => .cons h1 h2 (ER.snoc hk hv t)

/-- A store under a key that is not there yet. -/
noncomputable def aMapNew (P : Program) (M : Tr Blk) (t : TypeId) (m k v : Value) : Option (Tr Blk) := match P.underlying t, m with
  | some (.map kt _), .map (some b) => (match P.underlying kt, M.get (b / 256) with
    | some kd, some (.map es clock) => bif keyKind kd k then (match aFindK k es 0 with
      | some none => some (M.set (b / 256) (.map (es ++ [(k, v, clock)]) (clock + 1)))
      | _ => none) else none
    | _, _ => none)
  | _, _ => none
theorem run_aMapNew {P : Program} {w0 : World} {ι : Iota} {M M' : Tr Blk} {nx : Nat} {w : World} {t : TypeId} {m k v m' k' v' : Value} (h : R w0 ι M w) (hm : VR ι m m') (hk : VR ι k k') (hv : VR ι v v') (he : aMapNew P M t m k v = some M') :
    ∃ w', (Instr.mapUpdate t m' k' v').run P w = .ok () w' ∧ Post w0 ι M nx w ι M' nx w' := by
  unfold aMapNew at he
  split at he
  · rename_i kt et b hu
    cases hm with
    | map hι hg =>
      rename_i l
      split at he
      · rename_i kd es clock hkt hmm
        obtain ⟨hkk, he⟩ := cond_someK he
        have hself := keyKind_self hkk hk
        subst hself
        split at he
        · rename_i hfind
          simp at he; subst he
          obtain ⟨o, h1, h2⟩ := h.live b _ l hmm hι
          cases h2 with
          | map hg' her =>
            rename_i es'
            obtain ⟨r', f1, f2⟩ := run_aFindK hkk her 0 hfind
            cases r' with
            | some p => exact f2.elim
            | none =>
              have hlt : l.blk < w.heap.size := (Array.getElem?_eq_some_iff.1 h1).1
              refine ⟨{ w with heap := w.heap.setIfInBounds l.blk (.map (es'.push { key := k', val := v', born := clock }) (clock + 1)) }, ?_, ?_⟩
              · have hget : (getObj l.blk).run P w = .ok (.map es' clock) w := by simp [getObj, Sem.run, h1]
                have hset : (setObj l.blk (.map (es'.push { key := k', val := v', born := clock }) (clock + 1))).run P w = .ok () { w with heap := w.heap.setIfInBounds l.blk (.map (es'.push { key := k', val := v', born := clock }) (clock + 1)) } := by
                  simp [setObj, Sem.run, h1]
                have hck : (Instr.checkKey false 10000 kt k').run P w = .ok () w := run_checkKey hkt hkk false 9999
                have hfk : (Instr.findKey kt k' es'.toList).run P w = .ok none w := by
                  unfold Instr.findKey
                  rw [Sem.run_bind, run_underlying hkt]
                  simp only [Result.andThen_ok, f1]
                  rfl
                unfold Instr.mapUpdate
                simp only [Sem.run_bind, run_underlying hu, Result.andThen_ok, hget, hck, hfk, hset]
              · refine Post.write h hmm rfl hι ⟨_, by rw [Array.getElem?_setIfInBounds_self_of_lt hlt], .map hg' ?_⟩ (fun k hk => Array.getElem?_setIfInBounds_ne (Ne.symm hk)) (by simp) rfl rfl rfl
                rw [Array.toList_push]
                exact her.snoc hk hv
        · cases he
      · cases he
  · cases he

noncomputable def aLookup (P : Program) (M : Tr Blk) (t : TypeId) (m k : Value) (ok : Bool) : Option Value := match P.underlying t, m with
  | some (.map kt et), .map (some b) => (match P.underlying kt, M.get (b / 256) with
    | some kd, some (.map es _) => bif keyKind kd k then (match aFindK k es 0 with
      | some (some (_, v)) => some (bif ok then .tuple #[v, .bool true] else v)
      | some none => (match aZero P et with
        | some z => some (bif ok then .tuple #[z, .bool false] else z)
        | none => none)
      | _ => none) else none
    | _, _ => none)
  | _, _ => none
theorem run_aLookup {P : Program} {w0 : World} {ι : Iota} {M : Tr Blk} {w : World} {t : TypeId} {m k m' k' v : Value} {ok : Bool} (h : R w0 ι M w) (hm : VR ι m m') (hk : VR ι k k') (he : aLookup P M t m k ok = some v) :
    ∃ z, VR ι v z ∧ (Instr.lookup t m' k' ok).run P w = .ok z w := by
  unfold aLookup at he
  split at he
  · rename_i kt et b hu
    cases hm with
    | map hι hg =>
      rename_i l
      split at he
      · rename_i kd es clock hkt hmm
        obtain ⟨hkk, he⟩ := cond_someK he
        have hself := keyKind_self hkk hk
        subst hself
        obtain ⟨o, h1, h2⟩ := h.live b _ l hmm hι
        cases h2 with
        | map hg' her =>
          rename_i es'
          have hget : (getObj l.blk).run P w = .ok (.map es' clock) w := by simp [getObj, Sem.run, h1]
          have hck : ∀ b, (Instr.checkKey b 10000 kt k').run P w = .ok () w := fun b => run_checkKey hkt hkk b 9999
          split at he
          · rename_i j x hfind
            obtain ⟨r', f1, f2⟩ := run_aFindK hkk her 0 hfind
            cases r' with
            | none => exact f2.elim
            | some p =>
              obtain ⟨j', x'⟩ := p
              obtain ⟨rfl, hv⟩ := f2
              have hfk : (Instr.findKey kt k' es'.toList).run P w = .ok (some (j, x')) w := by
                unfold Instr.findKey
                rw [Sem.run_bind, run_underlying hkt]
                simp only [Result.andThen_ok, f1]
                rfl
              simp at he; subst he
              refine ⟨if ok then .tuple #[x', .bool true] else x', ?_, ?_⟩
              · cases ok
                · exact hv
                · exact .tuple (.cons hv (.cons (.bool _) .nil))
              · unfold Instr.lookup
                simp only [Sem.run_bind, run_underlying hu, Result.andThen_ok, hget, Sem.run_pure, hck, hfk]
          · rename_i hfind
            obtain ⟨r', f1, f2⟩ := run_aFindK hkk her 0 hfind
            cases r' with
            | some p => exact f2.elim
            | none =>
              have hfk : (Instr.findKey kt k' es'.toList).run P w = .ok none w := by
                unfold Instr.findKey
                rw [Sem.run_bind, run_underlying hkt]
                simp only [Result.andThen_ok, f1]
                rfl
              split at he
              · rename_i z0 hz
                simp at he; subst he
                have hzz := run_aZero hz w
                refine ⟨if ok then .tuple #[z0, .bool false] else z0, ?_, ?_⟩
                · cases ok
                  · exact okc_self _ hzz.1
                  · exact .tuple (.cons (okc_self _ hzz.1) (.cons (.bool _) .nil))
                · unfold Instr.lookup
                  simp only [Sem.run_bind, run_underlying hu, Result.andThen_ok, hget, Sem.run_pure, hck, hfk, hzz.2]
              · cases he
          · cases he
      · cases he
  · cases he
end Go.Proofs.YtihloomkgpflmaaGreatDoor.Vm
