/-
  THE ABSTRACT INTERPRETER, part J: append; maps.
-/
import Derived.Test.YtjbanjpklgpenaaGreatDoorVmI
import Derived.Laws.AppendOwn
namespace Go.Proofs.YtjbanjpklgpenaaGreatDoor.Vm

/-- A row in which an append went on, under its new number. -/
theorem Post.move {w0 : World} {ι : Iota} {M : Tr Blk} {nx s : Nat} {w w' : World} {b : Nat} {x x' : Blk} {l l' : Loc} {o : Obj} (h : R w0 ι M w) (hf : Fresh ι nx (nx + 1)) (hs0 : s ≠ 0) (hs : s < 256)
    (hm : M.get (b / 256) = some x) (hw : x.wr = true) (hι : ι b = some l) (hl : l'.blk = l.blk) (hk : l'.gr ≠ none)
    (ho : w'.heap[l.blk]? = some o) (hbr : BR (ι.upd (256 * nx + s) l') (256 * nx + s) x' l' o)
    (hother : ∀ k, k ≠ l.blk → w'.heap[k]? = w.heap[k]?) (hsize : w'.heap.size = w.heap.size) (hos : w'.os = w.os) (hout : w'.output = w.output) (htape : w'.tape = w.tape) :
    Post w0 ι M nx w (ι.upd (256 * nx + s) l') ((M.set (b / 256) .dead).set nx x') (nx + 1) w' := by
  have hdiv : (256 * nx + s) / 256 = nx := by omega
  have hmod : (256 * nx + s) % 256 = s := by omega
  have hnone : ι (256 * nx + s) = none := hf _ (by omega) (by omega)
  have hext : Ext ι (ι.upd (256 * nx + s) l') := Iota.upd_ext l' hnone
  have hxd : x.isDead = false := by cases x <;> simp_all [Blk.wr, Blk.isDead]
  have hown := h.own b x l hm hw hι
  have hbn : b / 256 ≠ nx := fun e => by rw [hf b (by omega) (by omega)] at hι; cases hι
  have inv : ∀ c m, ι.upd (256 * nx + s) l' c = some m → (c = 256 * nx + s ∧ m = l') ∨ (c / 256 ≠ nx ∧ ι c = some m) := by
    intro c m hc
    unfold Iota.upd at hc
    split at hc
    · rename_i e; simp at hc; exact .inl ⟨e, hc.symm⟩
    · refine .inr ⟨fun e => ?_, hc⟩
      rw [hf c (by omega) (by omega)] at hc; cases hc
  -- what the new memory says of an elder block
  have elder : ∀ c y, c / 256 ≠ nx → ((M.set (b / 256) Blk.dead).set nx x').get (c / 256) = some y → (y = Blk.dead ∧ c / 256 = b / 256) ∨ (c / 256 ≠ b / 256 ∧ M.get (c / 256) = some y) := by
    intro c y hc hy
    rw [Tr.get_set_ne _ _ hc] at hy
    by_cases e : c / 256 = b / 256
    · rw [e, Tr.get_set_same] at hy
      simp at hy; exact .inl ⟨hy.symm, e⟩
    · rw [Tr.get_set_ne _ _ e] at hy; exact .inr ⟨e, hy⟩
  refine ⟨hext, ?_, ?_, Nat.le_succ _, ⟨?_, ?_, ?_, ?_, ?_, by rw [hsize]; exact h.size, ?_, hos.trans h.os, hout.trans h.output, htape.trans h.tape⟩, ?_, by omega⟩
  · intro c m hc hm'
    rcases inv c m hm' with ⟨rfl, rfl⟩ | ⟨_, h2⟩
    · exact ⟨by omega, .inr ⟨b, x, l, hm, hι, hl.symm⟩⟩
    · rw [hc] at h2; cases h2
  · intro n hn
    by_cases e : n = nx
    · exact .inr (by omega)
    · rw [Tr.get_set_ne _ _ e] at hn
      by_cases e2 : n = b / 256
      · exact .inl (by rw [e2, hm]; simp)
      · rw [Tr.get_set_ne _ _ e2] at hn; exact .inl hn
  · intro c m hc
    rcases inv c m hc with ⟨rfl, rfl⟩ | ⟨_, h2⟩
    · rw [hmod]; exact ⟨fun e => absurd e hk, fun e => absurd e hs0⟩
    · exact h.kinds c m h2
  · intro c c' m m' hc hc' e
    rcases inv c m hc with ⟨rfl, rfl⟩ | ⟨h1, h2⟩ <;> rcases inv c' m' hc' with ⟨rfl, rfl⟩ | ⟨h1', h2'⟩
    · rfl
    · exact absurd (e.symm.trans hdiv) h1'
    · exact absurd (e.trans hdiv) h1
    · exact h.uniq c c' m m' h2 h2' e
  · intro c y m hy hc
    rcases inv c m hc with ⟨rfl, rfl⟩ | ⟨h1, h2⟩
    · rw [hdiv, Tr.get_set_same] at hy
      simp at hy; subst hy
      exact ⟨o, by rw [hl]; exact ho, hbr⟩
    · rcases elder c y h1 hy with ⟨rfl, e⟩ | ⟨e, hy'⟩
      · have := h.uniq c b m l h2 hι e
        subst this
        rw [hι] at h2; simp at h2; subst h2
        exact ⟨o, ho, .dead _ _⟩
      · obtain ⟨o', k1, k2⟩ := h.live c y m hy' h2
        by_cases eb : m.blk = l.blk
        · cases hyd : y.isDead with
          | true =>
            cases y <;> simp [Blk.isDead] at hyd
            exact ⟨o, by rw [eb]; exact ho, .dead _ _⟩
          | false => exact absurd (h.inj c b y x m l hy' hm hyd hxd h2 hι eb) (fun e' => e (by rw [e']))
        · exact ⟨o', by rw [hother _ eb]; exact k1, k2.mono hext⟩
  · intro c c' y y' m m' hy hy' hd hd' hc hc' e
    rcases inv c m hc with ⟨rfl, rfl⟩ | ⟨h1, h2⟩ <;> rcases inv c' m' hc' with ⟨rfl, rfl⟩ | ⟨h1', h2'⟩
    · rfl
    · rcases elder c' y' h1' hy' with ⟨rfl, _⟩ | ⟨e1, hy2⟩
      · simp [Blk.isDead] at hd'
      · have := h.inj c' b y' x m' l hy2 hm hd' hxd h2' hι (by rw [← e, hl])
        exact absurd (by rw [this]) e1
    · rcases elder c y h1 hy with ⟨rfl, _⟩ | ⟨e1, hy2⟩
      · simp [Blk.isDead] at hd
      · have := h.inj c b y x m l hy2 hm hd hxd h2 hι (by rw [e, hl])
        exact absurd (by rw [this]) e1
    · rcases elder c y h1 hy with ⟨rfl, _⟩ | ⟨e1, hy2⟩
      · simp [Blk.isDead] at hd
      · rcases elder c' y' h1' hy' with ⟨rfl, _⟩ | ⟨e1', hy2'⟩
        · simp [Blk.isDead] at hd'
        · exact h.inj c c' y y' m m' hy2 hy2' hd hd' h2 h2' e
  · intro c y m hy hyw hc
    rcases inv c m hc with ⟨rfl, rfl⟩ | ⟨h1, h2⟩
    · rw [hl]; exact hown
    · rcases elder c y h1 hy with ⟨rfl, _⟩ | ⟨e1, hy2⟩
      · simp [Blk.wr] at hyw
      · exact h.own c y m hy2 hyw h2
  · intro i hi
    rw [hother i (by omega)]
    exact h.old i hi
  · intro c hc hnot
    exact hother c (fun e => hnot b x l hm hι e.symm)

/-- n cells from o on. -/
def cut (vs : List Value) (o n : Nat) : Option (List Value) := bif Nat.ble (o + n) vs.length && ((vs.drop o).take n).all (·.oneCell') then some ((vs.drop o).take n) else none
theorem R.cut {w0 : World} {ι : Iota} {M : Tr Blk} {w : World} {b o n : Nat} {x : Blk} {l : Loc} {vs cs : List Value} (h : R w0 ι M w) (hm : M.get (b / 256) = some x) (hι : ι b = some l) (hv : x.vals = some vs) (hc : cut vs o n = some cs) :
    ∃ cs', VRL ι cs cs' ∧ cs.length = n ∧ cs.all (·.oneCell') = true ∧ ∀ j u, cs'[j]? = some u → w.cell? ((⟨l.blk, l.off o, none⟩ : Addr).add j) = some u := by
  unfold Vm.cut at hc
  cases hb : (Nat.ble (o + n) vs.length && ((vs.drop o).take n).all (·.oneCell')) with
  | false => rw [hb] at hc; simp at hc
  | true =>
    rw [hb] at hc; simp only [cond_true, Option.some.injEq] at hc; subst hc
    simp only [Bool.and_eq_true, Nat.ble_eq] at hb
    obtain ⟨arr, t, fz, mid, g1, g2, g3⟩ := h.view hm hι hv
    have hlen := g2.length
    refine ⟨(mid.drop o).take n, (g2.drop o).take n, by rw [List.length_take, List.length_drop]; omega, hb.2, fun j u hj => ?_⟩
    have hj' : j < n := by
      have := (List.getElem?_eq_some_iff.1 hj).1
      rw [List.length_take] at this
      omega
    rw [add_none, Loc.off_add, cell_view g1, g3 (o + j) (by omega)]
    rw [List.getElem?_take_of_lt hj', List.getElem?_drop] at hj
    exact hj

/-- Where an append does its work: nothing new at all, in place, in a new row, or in either. -/
noncomputable def aAppendTo (M : Tr Blk) (nx sz bytes : Nat) (dst : Value) (n : Nat) (news : List Value) : Option (Value × Tr Blk × Nat) := match dst with
  | .slice none 0 0 => (match n with
    | 0 => some (.slice none 0 0, M, nx)
    | n + 1 => bif Nat.ble ((n + 1) * bytes) 140737488355328 && Nat.ble (n + 1) 1000000000 then some (.slice (some ⟨256 * nx + sz, 0, none⟩) (n + 1) (n + 1), M.set nx (.grow news), nx + 1) else none)
  | .slice (some ⟨b, o, none⟩) len cap => (match M.get (b / 256), Nat.ble (len + n) cap && Nat.ble len cap && (Nat.beq (b % 256) 0 || Nat.beq (b % 256) sz) with
    | some x, true => (match x.put (o + len * sz) news with
      | some x' => some (.slice (some ⟨b, o, none⟩) (len + n) cap, M.set (b / 256) x', nx)
      | none => none)
    | some (.cells _ vs), false => (match cut vs o (len * sz), Nat.beq (b % 256) 0 && Nat.ble ((len + n) * bytes) 140737488355328 && Nat.ble (len + n) 1000000000 && Nat.blt cap (len + n) with
      | some olds, true => some (.slice (some ⟨256 * nx + sz, 0, none⟩) (len + n) (len + n), M.set nx (.grow (olds ++ news)), nx + 1)
      | _, _ => none)
    | some (.grow vs), false => (match cut vs o (len * sz), Nat.beq (b % 256) sz && Nat.blt 0 cap && Nat.ble ((len + n) * bytes) 140737488355328 && Nat.ble (len + n) 1000000000 && Nat.blt cap (len + n) with
      | some olds, true => some (.slice (some ⟨256 * nx + sz, 0, none⟩) (len + n) (len + n), (M.set (b / 256) .dead).set nx (.grow (olds ++ news)), nx + 1)
      | _, _ => none)
    | _, _ => none)
  | _ => none

/-- What an append takes its new elements from. -/
structure Src (P : Program) (w : World) (u : TypeId) (x : Value) (size n : Nat) (ns : List Value) : Prop where
  ty : (∃ e, P.underlying u = some (.slice e)) ∨ P.underlying u = some .string
  len : ∀ w', (Builtin.lenOf x).run P w' = .ok n w'
  cells : ∀ w', w'.heap = w.heap → (Builtin.firstCells size n x).run P w' = .ok ns.toArray w'
theorem Src.slice {P : Program} {w : World} {t e : TypeId} (ht : P.underlying t = some (.slice e)) {a : Addr} {size n c : Nat} {ns : List Value} (hl : ns.length = n * size) (hns : ∀ j v, ns[j]? = some v → w.cell? (a.add j) = some v) : Src P w t (.slice (some a) n c) size n ns :=
  ⟨.inl ⟨_, ht⟩, fun _ => rfl, fun w' hw => run_firstCells_some (P := P) w' size n a n c ns hl (fun j v hj => by
    have := hns j v hj
    unfold World.cell? at this ⊢
    rw [hw]; exact this)⟩
theorem Src.string {P : Program} {w : World} {t : TypeId} (ht : P.underlying t = some .string) (s : ByteArray) : Src P w t (.string s) 1 s.size (s.data.toList.map fun b => Value.int .u8 (b.toNat : Int)) :=
  ⟨.inr ht, fun _ => rfl, fun w' _ => by
    simp [Builtin.firstCells]
    apply Array.ext'
    simp⟩
section src
variable {P : Program} (w : World) (t u ty e : TypeId) (i : TypeInfo) (ht : P.underlying t = some (.slice e)) (hi : P.info? e = some i) {x : Value} {n : Nat} {news : List Value} (hs : Src P w u x i.size n news)
include ht hi hs
theorem run_append_nil' (z : Value) (hz : i.zero = some z) (h0 : 0 < n) (h63 : (n : Int) ≤ 9223372036854775807) (h48 : n * i.bytes ≤ 281474976710656) :
    (Builtin.append_ #[t, u] ty #[.slice none 0 0, x]).run P w =
      .ok (.slice (some ⟨w.heap.size, 0, none⟩) n (grownCap w n 0 e)) (w.drew.alloc (.cells (news.toArray ++ Builtin.zeroCells z.cells (grownCap w n 0 e - n)) e)) := by
  have hn : n ≠ 0 := by omega
  have h63' : ¬ (9223372036854775807 < (n : Int)) := by omega
  have h48' : ¬ (281474976710656 < Builtin.nextslicecap n 0 * i.bytes) := by rw [nextslicecap_zero h0]; omega
  have hf := hs.cells w.drew rfl
  rcases hs.ty with ⟨e', hd⟩ | hd <;> simp [Builtin.append_, run_underlying ht, run_underlying hd, sizeOf, typeInfo, zeroValue, hi, hz, hs.len, hn, h63', h48', Question.forced, run_firstCells_none, hf, newRow, grownCap]
theorem run_append_grow' (z : Value) (hz : i.zero = some z) (b : Addr) (sLen sCap : Nat) (olds : List Value) (hlo : olds.length = sLen * i.size) (holds : ∀ j v, olds[j]? = some v → w.cell? (b.add j) = some v)
    (hg : sCap < sLen + n) (h63 : ((sLen + n : Nat) : Int) ≤ 9223372036854775807) (hfit : Builtin.nextslicecap (sLen + n) sCap * i.bytes ≤ 281474976710656) :
    (Builtin.append_ #[t, u] ty #[.slice (some b) sLen sCap, x]).run P w =
      .ok (.slice (some ⟨w.heap.size, 0, none⟩) (sLen + n) (grownCap w (sLen + n) sCap e))
        (w.drew.alloc (.cells (olds.toArray ++ news.toArray ++ Builtin.zeroCells z.cells (grownCap w (sLen + n) sCap e - (sLen + n))) e)) := by
  have hn : ¬ (sLen + n ≤ sCap) := by omega
  have h63' : ¬ (9223372036854775807 < ((sLen : Int) + (n : Int))) := by omega
  have h48' : ¬ (281474976710656 < Builtin.nextslicecap (sLen + n) sCap * i.bytes) := by omega
  have hf := hs.cells w.drew rfl
  have hfo := run_firstCells_some (P := P) w.drew i.size sLen b sLen sCap olds hlo (by simpa using holds)
  rcases hs.ty with ⟨e', hd⟩ | hd
  all_goals
    simp [Builtin.append_, run_underlying ht, run_underlying hd, sizeOf, typeInfo, zeroValue, hi, hz, hs.len, hn, h63', h48', Question.forced, hf, hfo, newRow, grownCap]
    congr 2
    apply Array.ext'
    simp [List.append_assoc]
theorem run_append_at (g o sLen sCap : Nat) (cur : Array Value) (ct : TypeId) (hg : w.heap[g]? = some (.cells cur ct (0, 0))) (h1 : ∀ u ∈ news, u.oneCell' = true)
    (hroom : sLen + n ≤ sCap) (hfit : o + sLen * i.size + news.length ≤ cur.size) :
    (Builtin.append_ #[t, u] ty #[.slice (some ⟨g, o, none⟩) sLen sCap, x]).run P w =
      .ok (.slice (some ⟨g, o, none⟩) (sLen + n) sCap) (w.setRow g (cur.toList.take (o + sLen * i.size) ++ news ++ cur.toList.drop (o + sLen * i.size + news.length)).toArray) := by
  have hf := hs.cells w rfl
  have hst := run_storeCells_at P g (o + sLen * i.size) ct news 0 cur w hg (by simpa using hfit) h1
  simp only [Nat.add_zero] at hst
  rcases hs.ty with ⟨e', hd⟩ | hd <;> simp [Builtin.append_, run_underlying ht, run_underlying hd, sizeOf, typeInfo, hi, hs.len, hroom, hf, add_none, hst]
end src

theorem Post.undrew {w0 : World} {ι κ : Iota} {M M' : Tr Blk} {nx nx' : Nat} {w w' : World} (h : Post w0 ι M nx w.drew κ M' nx' w') : Post w0 ι M nx w κ M' nx' w' :=
  ⟨h.ext, h.new, h.dom, h.le, h.rel, h.frame, h.size⟩

/-- A new row that an append made. -/
theorem Post.grown {w0 : World} {ι : Iota} {M : Tr Blk} {nx sz n cap : Nat} {w : World} {vs ys : List Value} {z : Array Value} {e : TypeId} (h : R w0 ι M w) (hf : Fresh ι nx (nx + 1)) (hs0 : 0 < sz) (hs : sz < 256) (hz : z.size = sz) (hv : VRL ι vs ys) (hl : vs.length = n * sz)
    (hn : 0 < n) (hc : n ≤ cap) : ∃ κ, Post w0 ι M nx w κ (M.set nx (.grow vs)) (nx + 1) (w.drew.alloc (.cells (ys.toArray ++ Builtin.zeroCells z (cap - n)) e)) ∧
      VR κ (.slice (some ⟨256 * nx + sz, 0, none⟩) n n) (.slice (some ⟨w.heap.size, 0, none⟩) n cap) := by
  have hx := Iota.upd_ext (ι := ι) (b := 256 * nx + sz) ⟨w.heap.size, some (0, cap)⟩ (hf _ (by omega) (by omega))
  have hmod : (256 * nx + sz) % 256 = sz := by omega
  have hylen := hv.length
  refine ⟨ι.upd (256 * nx + sz) ⟨w.heap.size, some (0, cap)⟩, ?_, ?_⟩
  · refine Post.undrew (Post.alloc (w := w.drew) (h.drawn _) hf hs rfl ?_ ?_)
    · simp; omega
    · refine .grow (by omega) rfl (pre := []) (mid := ys) (post := (Builtin.zeroCells z (cap - n)).toList) (by simp) rfl (hv.mono hx) ?_
      rw [hmod, Array.size_append, size_zeroCells, hz]
      simp only [List.size_toArray]
      rw [← hylen, hl, ← Nat.add_mul, Nat.zero_add]
      exact Nat.mul_le_mul_right _ (by omega)
  · have := VR.slg (ι := ι.upd (256 * nx + sz) ⟨w.heap.size, some (0, cap)⟩) (b := 256 * nx + sz) (o := 0) (e := 0) n n cap (Iota.upd_same _ _ _) rfl (by omega) hn (Nat.le_refl _) (by simp) hc (by omega)
    simpa using this

theorem Post.kill {w0 : World} {ι : Iota} {M : Tr Blk} {nx : Nat} {w : World} {b : Nat} {x : Blk} {l : Loc} (h : R w0 ι M w) (hm : M.get (b / 256) = some x) (hw : x.wr = true) (hι : ι b = some l) : Post w0 ι M nx w ι (M.set (b / 256) .dead) nx w := by
  obtain ⟨o, h1, _⟩ := h.live b x l hm hι
  exact Post.write h hm hw hι ⟨o, h1, .dead _ _⟩ (fun _ _ => rfl) rfl rfl rfl rfl

theorem run_aAppendTo {P : Program} {w0 : World} {ι : Iota} {M M' : Tr Blk} {nx nx' : Nat} {w : World} {t ty e : TypeId} {i : TypeInfo} {z : Value} (ht : P.underlying t = some (.slice e)) (hi : P.info? e = some i) (hz : i.zero = some z)
    (hs0 : 0 < i.size) (hs : i.size < 256) (hzs : z.cells.size = i.size) (h : R w0 ι M w) (hf : Fresh ι nx nx') {d u : Value} (hd : VR ι d u) {n : Nat} (hn : 0 < n) {news ns : List Value} {us : TypeId} {sx : Value} (hv : VRL ι news ns) (hl : news.length = n * i.size)
    (h1 : news.all (·.oneCell') = true) (hns : Src P w us sx i.size n ns) {v : Value} (he : aAppendTo M nx i.size i.bytes d n news = some (v, M', nx')) :
    ∃ κ y w', (Builtin.append_ #[t, us] ty #[u, sx]).run P w = .ok y w' ∧ Post w0 ι M nx w κ M' nx' w' ∧ VR κ v y := by
  have hlen := hv.length
  have hones := hv.ones h1
  unfold aAppendTo at he
  split at he
  · cases hd
    split at he
    · omega
    · rename_i n
      cases hc : (Nat.ble ((n + 1) * i.bytes) 140737488355328 && Nat.ble (n + 1) 1000000000) with
      | false => rw [hc] at he; simp at he
      | true =>
        rw [hc] at he; simp at he; obtain ⟨rfl, rfl, rfl⟩ := he
        simp only [Bool.and_eq_true, Nat.ble_eq] at hc
        have hr := run_append_nil' (n := n + 1) (P := P) w t us ty e i ht hi hns z hz (by omega) (by omega) (by omega)
        obtain ⟨κ, k1, k2⟩ := Post.grown (e := e) (z := z.cells) h hf hs0 hs hzs hv hl (by omega) (grownCap_ge w (n + 1) 0 e)
        exact ⟨κ, _, _, hr, k1, k2⟩
  · rename_i b o len cap
    split at he
    · -- in place for sure
      rename_i x hm hc
      split at he
      · rename_i x' hp
        simp at he; obtain ⟨rfl, rfl, rfl⟩ := he
        simp only [Bool.and_eq_true, Nat.ble_eq, Bool.or_eq_true, Nat.beq_eq] at hc
        obtain ⟨⟨c1, c2⟩, c3⟩ := hc
        have inplace : ∀ (l : Loc) (cap' : Nat), ι b = some l → len + n ≤ cap' →
            ∃ w', (Builtin.append_ #[t, us] ty #[.slice (some ⟨l.blk, l.off o, none⟩) len cap', sx]).run P w = .ok (.slice (some ⟨l.blk, l.off o, none⟩) (len + n) cap') w' ∧ Post w0 ι M nx w ι (M.set (b / 256) x') nx w' := by
          intro l cap' hι hroom
          obtain ⟨w', g1, g2⟩ := run_put (P := P) (nx := nx) h hm hι hp hv h1
          obtain ⟨ob, q1, q2⟩ := h.live b x l hm hι
          have hfit : ∃ cur ct, ob = .cells cur ct (0, 0) ∧ l.off o + len * i.size + ns.length ≤ cur.size := by
            cases q2 with
            | cells hg hl' =>
              rename_i ro vs arr ct
              refine ⟨arr, ct, rfl, ?_⟩
              cases ro with
              | true => simp [Blk.put] at hp
              | false =>
                simp only [Blk.put] at hp
                cases hb : Nat.ble (o + len * i.size + news.length) vs.length with
                | false => rw [hb] at hp; simp at hp
                | true =>
                  rw [Nat.ble_eq] at hb
                  have := hl'.length
                  have : l.off o = o := by unfold Loc.off; rw [hg]
                  simp at *; omega
            | grow hb0 hg ha hpl hl' hcc =>
              rename_i vs arr ct base cap2 pre mid post
              refine ⟨arr, ct, rfl, ?_⟩
              simp only [Blk.put] at hp
              cases hb : Nat.ble (o + len * i.size + news.length) vs.length with
              | false => rw [hb] at hp; simp at hp
              | true =>
                rw [Nat.ble_eq] at hb
                have h2 := hl'.length
                have h3 : l.off o = base + o := by unfold Loc.off; rw [hg]
                have h4 : arr.size = pre.length + mid.length + post.length := by rw [← Array.length_toList, ha]; simp; omega
                omega
            | _ => simp [Blk.put] at hp
          obtain ⟨cur, ct, rfl, hfit⟩ := hfit
          have hr := run_append_at (P := P) w t us ty e i ht hi hns l.blk (l.off o) len cap' cur ct q1 hones hroom hfit
          refine ⟨w', ?_, g2⟩
          rw [hr]
          have hst := run_storeCells_at P l.blk (l.off o + len * i.size) ct ns 0 cur w q1 (by omega) hones
          rw [Loc.off_add] at hst
          rw [g1] at hst
          simp only [Nat.add_zero, Result.ok.injEq, true_and] at hst
          rw [hst, ← Loc.off_add]
        cases hd with
        | sl _ _ hι hg hb =>
          rename_i l
          obtain ⟨w', g1, g2⟩ := inplace l cap hι c1
          have ho : l.off o = o := by unfold Loc.off; rw [hg]
          rw [ho] at g1
          exact ⟨ι, _, w', g1, g2, .sl _ _ hι hg hb⟩
        | slg _ _ C hι hg hb h0 hn' ho hcc hC =>
          rename_i l base cap2 e2
          obtain ⟨w', g1, g2⟩ := inplace l C hι (by omega)
          have ho' : l.off o = base + o := by unfold Loc.off; rw [hg]
          rw [ho'] at g1
          exact ⟨ι, _, w', g1, g2, .slg _ _ _ hι hg hb h0 (by omega) ho hcc hC⟩
        | sle => omega
      · cases he
    · -- a row whose room is known and too small
      rename_i ro vs hm hc
      split at he
      · rename_i olds hcut hc2
        simp at he; obtain ⟨rfl, rfl, rfl⟩ := he
        simp only [Bool.and_eq_true, Nat.ble_eq, Nat.beq_eq, Nat.blt_eq] at hc2
        obtain ⟨⟨⟨c1, c2⟩, c3⟩, c4⟩ := hc2
        cases hd with
        | sl _ _ hι hg hb =>
          rename_i l
          have ho : l.off o = o := by unfold Loc.off; rw [hg]
          obtain ⟨os, k1, k2, k3, k4⟩ := h.cut hm hι (vs := vs) rfl hcut
          rw [ho] at k4
          have k5 := k1.length
          have hr := run_append_grow' (P := P) w t us ty e i ht hi hns z hz ⟨l.blk, o, none⟩ len cap os (by omega) k4 (by omega) (by omega) (growslice_fits (by omega) (by omega))
          obtain ⟨κ, q1, q2⟩ := Post.grown (e := e) (z := z.cells) (cap := grownCap w (len + n) cap e) h hf hs0 hs hzs (k1.append hv) (by rw [List.length_append, k2, hl, Nat.add_mul]) (by omega) (grownCap_ge w (len + n) cap e)
          refine ⟨κ, _, _, hr, ?_, q2⟩
          simpa using q1
        | slg _ _ _ hι hg hb => exact absurd c1 hb
        | sle _ _ hι hg hb => exact absurd c1 hb
      · cases he
    · -- a row that may have room
      rename_i vs hm hc
      split at he
      · rename_i olds hcut hc2
        simp at he; obtain ⟨rfl, rfl, rfl⟩ := he
        simp only [Bool.and_eq_true, Nat.ble_eq, Nat.beq_eq, Nat.blt_eq] at hc2
        obtain ⟨⟨⟨⟨c1, c0⟩, c2⟩, c3⟩, c4⟩ := hc2
        cases hd with
        | sl _ _ hι hg hb => omega
        | slg _ _ C hι hg hb h0 hn' ho hcc hC =>
          rename_i l base cap2 e2
          have ho' : l.off o = base + o := by unfold Loc.off; rw [hg]
          obtain ⟨os, k1, k2, k3, k4⟩ := h.cut hm hι (vs := vs) rfl hcut
          rw [ho'] at k4
          have k5 := k1.length
          by_cases hroom : len + n ≤ C
          · -- it has: the row goes on under a new number
            obtain ⟨ob, q1, q2⟩ := h.live b _ l hm hι
            cases q2 with
            | grow hb0 hg' ha hpl hl' hcc' =>
              rename_i arr ct base' cap' pre mid post
              rw [hg] at hg'
              simp at hg'; obtain ⟨rfl, rfl⟩ := hg'
              have hml := hl'.length
              have h4 : arr.size = pre.length + mid.length + post.length := by rw [← Array.length_toList, ha]; simp; omega
              have hmul : (len + n) * i.size ≤ C * i.size := Nat.mul_le_mul_right _ hroom
              have hsplit : C * i.size + e2 * i.size ≤ cap2 * i.size := by rw [← Nat.add_mul]; exact Nat.mul_le_mul_right _ hC
              rw [c1] at hcc' ho
              rw [Nat.add_mul] at hmul
              have hfit : base + o + len * i.size + ns.length ≤ arr.size := by omega
              have hr := run_append_at (P := P) w t us ty e i ht hi hns l.blk (base + o) len C arr ct q1 hones hroom hfit
              have hx := Iota.upd_ext (ι := ι) (b := 256 * nx + i.size) ⟨l.blk, some (base + o, C)⟩ (hf _ (by omega) (by omega))
              have hmod : (256 * nx + i.size) % 256 = i.size := by omega
              refine ⟨ι.upd (256 * nx + i.size) ⟨l.blk, some (base + o, C)⟩, _, _, hr, ?_, ?_⟩
              · refine Post.move h hf (by omega) hs hm rfl hι rfl (by simp) (setRow_heap w l.blk arr _ ct _ q1) ?_ (fun k hk => setRow_other w l.blk k _ hk) (by simp) rfl rfl rfl
                have hcutv : olds = (vs.drop o).take (len * i.size) := by
                  unfold Vm.cut at hcut
                  cases hb : (Nat.ble (o + len * i.size) vs.length && ((vs.drop o).take (len * i.size)).all (·.oneCell')) with
                  | false => rw [hb] at hcut; simp at hcut
                  | true => rw [hb] at hcut; simpa using hcut.symm
                have hob : o + len * i.size ≤ vs.length := by
                  have : olds.length = len * i.size := k2
                  rw [hcutv, List.length_take, List.length_drop] at this
                  rcases Nat.eq_zero_or_pos (len * i.size) with hz0 | hz0
                  · unfold Vm.cut at hcut
                    cases hb : (Nat.ble (o + len * i.size) vs.length && ((vs.drop o).take (len * i.size)).all (·.oneCell')) with
                    | false => rw [hb] at hcut; simp at hcut
                    | true => simp only [Bool.and_eq_true, Nat.ble_eq] at hb; exact hb.1
                  · omega
                have hnew : arr.toList.take (base + o + len * i.size) ++ ns ++ arr.toList.drop (base + o + len * i.size + ns.length) = (pre ++ mid.take o) ++ ((mid.drop o).take (len * i.size) ++ ns) ++ arr.toList.drop (base + o + len * i.size + ns.length) := by
                  have e1 : arr.toList.take (base + o + len * i.size) = pre ++ mid.take o ++ (mid.drop o).take (len * i.size) := by
                    rw [ha, ← hpl, List.append_assoc, Nat.add_assoc, List.take_length_add_append, List.take_append_of_le_length (by omega), List.append_assoc, ← List.take_add]
                  rw [e1]
                  simp
                refine .grow (by omega) rfl (base := base + o) (cap := C) (pre := pre ++ mid.take o) (mid := (mid.drop o).take (len * i.size) ++ ns) (by rw [hnew]) (by rw [List.length_append, List.length_take]; omega) ?_ ?_
                · rw [hcutv]
                  exact (((hl'.drop o).take _).append hv).mono hx
                · rw [hmod, hnew]
                  simp only [List.size_toArray, List.length_append, List.length_take, List.length_drop, Array.length_toList]
                  omega
              · have := VR.slg (ι := ι.upd (256 * nx + i.size) ⟨l.blk, some (base + o, C)⟩) (b := 256 * nx + i.size) (o := 0) (e := 0) (len + n) (len + n) C (Iota.upd_same _ _ _) rfl (by omega) (by omega) (Nat.le_refl _) (by simp) hroom (by omega)
                simpa using this
          · -- it has none: a new row
            have hr := run_append_grow' (P := P) w t us ty e i ht hi hns z hz ⟨l.blk, base + o, none⟩ len C os (by omega) k4 (by omega) (by omega) (growslice_fits (by omega) (by omega))
            have hkill := Post.kill (nx := nx) h hm rfl hι
            obtain ⟨κ, q1, q2⟩ := Post.grown (e := e) (z := z.cells) (cap := grownCap w (len + n) C e) hkill.rel hf hs0 hs hzs (k1.append hv) (by rw [List.length_append, k2, hl, Nat.add_mul]) (by omega) (grownCap_ge w (len + n) (C) e)
            refine ⟨κ, _, _, hr, ?_, q2⟩
            simpa using hkill.trans hf q1
        | sle _ _ hι hg hb => omega
      · cases he
    · cases he
  · cases he
end Go.Proofs.YtjbanjpklgpenaaGreatDoor.Vm
