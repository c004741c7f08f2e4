/-
  THE ABSTRACT INTERPRETER, part H: abstract memory and what it says of a world.
  THE ABSTRACT INTERPRETER, part I: loads, stores, new variables and rows.
-/
import Derived.Test.YtihloomkgpflmaaGreatDoorV2
import Derived.Laws.CopyRow
import Derived.Laws.Rows
set_option linter.unusedSimpArgs false
set_option linter.unusedVariables false
namespace Go.Proofs.YtihloomkgpflmaaGreatDoor.Vm

structure ALoop where
  st : LoopState
  pending : Option Code
  fn : FuncId
  nt : Nat
  T : Tr Value
  params : List Tmp
  assign : Code
  body : Code
  defers : Nat

inductive Blk where
  /-- nothing is known of it any more -/
  | dead
  | cells (ro : Bool) (vs : List Value)
  /-- a row's first cells; it may have more -/
  | grow (vs : List Value)
  /-- a row whose place behind its cells may not be written; it may have more cells; it is only read -/
  | frz (vs : List Value)
  | map (es : List (Value × Value × Nat)) (clock : Nat)
  | defs (taken : Bool)
  | loop (l : ALoop)

def Blk.isDead : Blk → Bool
  | .dead => true
  | _ => false
def Blk.wr : Blk → Bool
  | .dead => false
  | .cells ro _ => !ro
  | .frz _ => false
  | _ => true

/-- A block of the call's own. -/
def Blk.mine : Blk → Bool
  | .dead => false
  | .cells ro _ => !ro
  | _ => true
theorem Blk.mine_of_wr {x : Blk} (h : x.wr = true) : x.mine = true := by cases x <;> simp_all [Blk.wr, Blk.mine]
/-- A block that is frozen from here on: its cells. -/
def Blk.fzn : Blk → Option Blk
  | .cells false vs => some (.frz vs)
  | .grow vs => some (.frz vs)
  | .frz vs => some (.frz vs)
  | _ => none

def TmR (ι : Iota) (nt : Nat) (T : Tr Value) (tmps : Array Value) : Prop := tmps.size = nt ∧ ∀ t v, T.get t = some v → ∃ u, tmps[t]? = some u ∧ VR ι v u

theorem TmR.mono {ι κ : Iota} {nt : Nat} {T : Tr Value} {tmps : Array Value} (h : TmR ι nt T tmps) (e : Ext ι κ) : TmR κ nt T tmps :=
  ⟨h.1, fun t v hv => let ⟨u, a, b⟩ := h.2 t v hv; ⟨u, a, b.mono e⟩⟩

inductive ER (ι : Iota) : List (Value × Value × Nat) → List MapEntry → Prop
  | nil : ER ι [] []
  | cons {k k' v v' : Value} {n : Nat} {xs : List (Value × Value × Nat)} {ys : List MapEntry} (hk : VR ι k k') (hv : VR ι v v') (t : ER ι xs ys) : ER ι ((k, v, n) :: xs) ({ key := k', val := v', born := n } :: ys)
theorem ER.mono {ι κ : Iota} (e : Ext ι κ) : ∀ {xs : List (Value × Value × Nat)} {ys : List MapEntry}, ER ι xs ys → ER κ xs ys
  | _, _, .nil => .nil
  | _, _, .cons hk hv t => .cons (hk.mono e) (hv.mono e) (ER.mono e t)

inductive BR (ι : Iota) (b : Nat) : Blk → Loc → Obj → Prop
  | dead (l : Loc) (o : Obj) : BR ι b .dead l o
  | cells {ro : Bool} {vs : List Value} {l : Loc} {arr : Array Value} {t : TypeId} (hg : l.gr = none) (h : VRL ι vs arr.toList) : BR ι b (.cells ro vs) l (.cells arr t (0, 0))
  | grow {vs : List Value} {l : Loc} {arr : Array Value} {t : TypeId} {base cap : Nat} {pre mid post : List Value} (hb : b % 256 ≠ 0) (hg : l.gr = some (base, cap)) (ha : arr.toList = pre ++ mid ++ post) (hp : pre.length = base)
      (h : VRL ι vs mid) (hc : base + cap * (b % 256) ≤ arr.size) : BR ι b (.grow vs) l (.cells arr t (0, 0))
  | frz {vs : List Value} {l : Loc} {arr : Array Value} {t : TypeId} {f : Nat × Nat} {pre mid post : List Value} (ha : arr.toList = pre ++ mid ++ post) (hp : pre.length = l.off 0)
      (h : VRL ι vs mid) : BR ι b (.frz vs) l (.cells arr t f)
  | map {es : List (Value × Value × Nat)} {l : Loc} {es' : Array MapEntry} {clock : Nat} (hg : l.gr = none) (h : ER ι es es'.toList) : BR ι b (.map es clock) l (.map es' clock)
  | defs {taken : Bool} {l : Loc} (hg : l.gr = none) : BR ι b (.defs taken) l (.deferred (if taken then none else some []))
  | loop {al : ALoop} {l d : Loc} {tmps : Array Value} {params : Array Tmp} (hg : l.gr = none) (hd : ι al.defers = some d) (hdg : d.gr = none) (hp : params.toList = al.params) (ht : TmR ι al.nt al.T tmps) :
      BR ι b (.loop al) l (.loop { state := al.st, pending := al.pending, fn := al.fn, tmps, params, assign := al.assign, body := al.body, defers := d.blk })

theorem BR.mono {ι κ : Iota} (e : Ext ι κ) {b : Nat} {x : Blk} {l : Loc} {o : Obj} (h : BR ι b x l o) : BR κ b x l o := by
  cases h with
  | dead => exact .dead _ _
  | cells hg h => exact .cells hg (h.mono e)
  | grow hb hg ha hp h hc => exact .grow hb hg ha hp (h.mono e) hc
  | frz ha hp h => exact .frz ha hp (h.mono e)
  | map hg h => exact .map hg (h.mono e)
  | defs hg => exact .defs hg
  | loop hg hd hdg hp ht => exact .loop hg (e _ _ hd) hdg hp (ht.mono e)

structure R (w0 : World) (ι : Iota) (M : Tr Blk) (w : World) : Prop where
  kinds : Kinds ι
  uniq : ∀ b b' l l', ι b = some l → ι b' = some l' → b / 256 = b' / 256 → b = b'
  live : ∀ b x l, M.get (b / 256) = some x → ι b = some l → ∃ o, w.heap[l.blk]? = some o ∧ BR ι b x l o
  inj : ∀ b b' x x' l l', M.get (b / 256) = some x → M.get (b' / 256) = some x' → x.isDead = false → x'.isDead = false → ι b = some l → ι b' = some l' → l.blk = l'.blk → b = b'
  own : ∀ b x l, M.get (b / 256) = some x → x.mine = true → ι b = some l → w0.heap.size ≤ l.blk
  size : w0.heap.size ≤ w.heap.size
  old : ∀ i, i < w0.heap.size → w.heap[i]? = w0.heap[i]?
  os : w.os = w0.os
  output : w.output = w0.output
  tape : w.tape = w0.tape
  fz : ∀ a v, ι.fz a v → w.cell? a = some v ∧ ∀ b x l, M.get (b / 256) = some x → x.wr = true → ι b = some l → l.blk ≠ a.block

def Fresh (ι : Iota) (nx nx' : Nat) : Prop := ∀ b, nx ≤ b / 256 → b / 256 < nx' → ι b = none

/-- .. of all that come. -/
def FreshU (ι : Iota) (nx : Nat) : Prop := ∀ b, nx ≤ b / 256 → ι b = none
theorem FreshU.to {ι : Iota} {nx : Nat} (h : FreshU ι nx) (nx' : Nat) : Fresh ι nx nx' := fun b h1 _ => h b h1

structure Post (w0 : World) (ι : Iota) (M : Tr Blk) (nx : Nat) (w : World) (κ : Iota) (M' : Tr Blk) (nx' : Nat) (w' : World) : Prop where
  ext : Ext ι κ
  new : ∀ b l, ι b = none → κ b = some l → (nx ≤ b / 256 ∧ b / 256 < nx') ∧ (w.heap.size ≤ l.blk ∨ ∃ b' x' l', M.get (b' / 256) = some x' ∧ ι b' = some l' ∧ l'.blk = l.blk)
  dom : ∀ n, M'.get n ≠ none → M.get n ≠ none ∨ (nx ≤ n ∧ n < nx')
  le : nx ≤ nx'
  rel : R w0 κ M' w'
  frame : ∀ c, c < w.heap.size → (∀ b x l, M.get (b / 256) = some x → ι b = some l → l.blk ≠ c) → w'.heap[c]? = w.heap[c]?
  size : w.heap.size ≤ w'.heap.size
  fzn : ∀ a v, κ.fz a v → ι.fz a v ∨ w.heap.size ≤ a.block ∨ (w0.heap.size ≤ a.block ∧ ∃ b' x' l', M.get (b' / 256) = some x' ∧ ι b' = some l' ∧ l'.blk = a.block)

theorem Post.refl {w0 : World} {ι : Iota} {M : Tr Blk} {nx : Nat} {w : World} (h : R w0 ι M w) : Post w0 ι M nx w ι M nx w :=
  ⟨Ext.refl ι, fun b l h1 h2 => (by rw [h1] at h2; cases h2), fun n hn => .inl hn, Nat.le_refl _, h, fun _ _ _ => rfl, Nat.le_refl _, fun _ _ e => .inl e⟩

theorem Post.fresh {w0 : World} {ι κ : Iota} {M M' : Tr Blk} {nx nx' nx2 : Nat} {w w' : World} (h : Post w0 ι M nx w κ M' nx' w') (hf : Fresh ι nx nx2) : Fresh κ nx' nx2 := by
  intro b h1 h2
  have hi := hf b (Nat.le_trans h.le h1) h2
  cases hk : κ b with
  | none => rfl
  | some l => have := (h.new b l hi hk).1; omega
theorem Post.freshU {w0 : World} {ι κ : Iota} {M M' : Tr Blk} {nx nx' : Nat} {w w' : World} (h : Post w0 ι M nx w κ M' nx' w') (hf : FreshU ι nx) : FreshU κ nx' := by
  intro b h1
  have hi := hf b (Nat.le_trans h.le h1)
  cases hk : κ b with
  | none => rfl
  | some l => have := (h.new b l hi hk).1; omega
theorem Fresh.sub {ι : Iota} {nx nx' a b : Nat} (h : Fresh ι nx nx') (h1 : nx ≤ a) (h2 : b ≤ nx') : Fresh ι a b := fun c g1 g2 => h c (by omega) (by omega)

theorem Post.trans {w0 : World} {ι κ μ : Iota} {M M1 M2 : Tr Blk} {nx nx1 nx2 : Nat} {w w1 w2 : World} (hf : Fresh ι nx nx2) (h : Post w0 ι M nx w κ M1 nx1 w1) (g : Post w0 κ M1 nx1 w1 μ M2 nx2 w2) :
    Post w0 ι M nx w μ M2 nx2 w2 := by
  -- a block that M1 knows, and that has a place by κ: it had one by ι and M knew it, or it is new
  have back : ∀ b x l, M1.get (b / 256) = some x → κ b = some l → (∃ x' l', M.get (b / 256) = some x' ∧ ι b = some l' ∧ l'.blk = l.blk) ∨ w.heap.size ≤ l.blk ∨ ∃ b' x' l', M.get (b' / 256) = some x' ∧ ι b' = some l' ∧ l'.blk = l.blk := by
    intro b x l hm hk
    cases hi : ι b with
    | none => exact .inr (h.new b l hi hk).2
    | some l0 =>
      have hl : l0 = l := by have := h.ext b l0 hi; rw [hk] at this; injection this with this; exact this.symm
      subst hl
      rcases h.dom (b / 256) (by rw [hm]; simp) with hd | hd
      · cases hx : M.get (b / 256) with
        | none => exact absurd hx hd
        | some x' => exact .inl ⟨x', l0, rfl, rfl, rfl⟩
      · have := hf b hd.1 (Nat.lt_of_lt_of_le hd.2 g.le)
        rw [hi] at this; cases this
  refine ⟨h.ext.trans g.ext, ?_, ?_, Nat.le_trans h.le g.le, g.rel, ?_, Nat.le_trans h.size g.size, ?_⟩
  · intro b l hi hm
    cases hk : κ b with
    | some l' =>
      have hl : l' = l := by have := g.ext b l' hk; rw [hm] at this; injection this with this; exact this.symm
      subst hl
      have := h.new b l' hi hk
      exact ⟨⟨this.1.1, Nat.lt_of_lt_of_le this.1.2 g.le⟩, this.2⟩
    | none =>
      have := g.new b l hk hm
      refine ⟨⟨Nat.le_trans h.le this.1.1, this.1.2⟩, ?_⟩
      rcases this.2 with hs | ⟨b', x', l', h1, h2, h3⟩
      · exact .inl (Nat.le_trans h.size hs)
      · rcases back b' x' l' h1 h2 with ⟨x2, l2, k1, k2, k3⟩ | hs | ⟨b2, x2, l2, k1, k2, k3⟩
        · exact .inr ⟨b', x2, l2, k1, k2, k3.trans h3⟩
        · exact .inl (by omega)
        · exact .inr ⟨b2, x2, l2, k1, k2, k3.trans h3⟩
  · intro n hn
    rcases g.dom n hn with hd | hd
    · rcases h.dom n hd with he | he
      · exact .inl he
      · exact .inr ⟨he.1, Nat.lt_of_lt_of_le he.2 g.le⟩
    · exact .inr ⟨Nat.le_trans h.le hd.1, hd.2⟩
  · intro c hc hnot
    rw [g.frame c (Nat.lt_of_lt_of_le hc h.size) ?_, h.frame c hc hnot]
    intro b x l hm hk
    rcases back b x l hm hk with ⟨x2, l2, k1, k2, k3⟩ | hs | ⟨b2, x2, l2, k1, k2, k3⟩
    · exact fun e => hnot b x2 l2 k1 k2 (k3.trans e)
    · omega
    · exact fun e => hnot b2 x2 l2 k1 k2 (k3.trans e)
  · intro a v ha
    rcases g.fzn a v ha with e | e | ⟨h0, b', x', l', h1, h2, h3⟩
    · exact h.fzn a v e
    · exact .inr (.inl (Nat.le_trans h.size e))
    · rcases back b' x' l' h1 h2 with ⟨x2, l2, k1, k2, k3⟩ | hs | ⟨b2, x2, l2, k1, k2, k3⟩
      · exact .inr (.inr ⟨h0, b', x2, l2, k1, k2, k3.trans h3⟩)
      · exact .inr (.inl (by omega))
      · exact .inr (.inr ⟨h0, b2, x2, l2, k1, k2, k3.trans h3⟩)

/-- A world that differs in what was drawn alone. -/
theorem R.drawn {w0 : World} {ι : Iota} {M : Tr Blk} {w : World} (h : R w0 ι M w) (n : Nat) : R w0 ι M { w with drawn := n } :=
  ⟨h.kinds, h.uniq, h.live, h.inj, h.own, h.size, h.old, h.os, h.output, h.tape, h.fz⟩
theorem Post.drawn {w0 : World} {ι : Iota} {M : Tr Blk} {nx : Nat} {w : World} (h : R w0 ι M w) (n : Nat) : Post w0 ι M nx w ι M nx { w with drawn := n } :=
  ⟨Ext.refl ι, fun b l h1 h2 => (by rw [h1] at h2; cases h2), fun n hn => .inl hn, Nat.le_refl _, h.drawn n, fun _ _ _ => rfl, Nat.le_refl _, fun _ _ e => .inl e⟩

/-! ### a block is written -/
theorem Post.write {w0 : World} {ι : Iota} {M : Tr Blk} {nx : Nat} {w w' : World} {b : Nat} {x x' : Blk} {l : Loc} (h : R w0 ι M w) (hm : M.get (b / 256) = some x) (hw : x.wr = true) (hι : ι b = some l)
    (ho : ∃ o, w'.heap[l.blk]? = some o ∧ BR ι b x' l o) (hother : ∀ k, k ≠ l.blk → w'.heap[k]? = w.heap[k]?) (hsize : w'.heap.size = w.heap.size) (hos : w'.os = w.os) (hout : w'.output = w.output) (htape : w'.tape = w.tape) :
    Post w0 ι M nx w ι (M.set (b / 256) x') nx w' := by
  have hxd : x.isDead = false := by cases x <;> simp_all [Blk.wr, Blk.isDead]
  have hown := h.own b x l hm (Blk.mine_of_wr hw) hι
  refine ⟨Ext.refl ι, fun b l h1 h2 => (by rw [h1] at h2; cases h2), ?_, Nat.le_refl _, ⟨h.kinds, h.uniq, ?_, ?_, ?_, by rw [hsize]; exact h.size, ?_, hos.trans h.os, hout.trans h.output, htape.trans h.tape, ?_⟩, ?_, by omega, fun _ _ e => .inl e⟩
  · intro n hn
    by_cases e : n = b / 256
    · subst e; exact .inl (by rw [hm]; simp)
    · rw [Tr.get_set_ne _ _ e] at hn; exact .inl hn
  · intro c y m hy hc
    by_cases e : c / 256 = b / 256
    · have := h.uniq c b m l hc hι e
      subst this
      rw [Tr.get_set_same] at hy
      simp at hy; subst hy
      rw [hι] at hc; simp at hc; subst hc
      exact ho
    · rw [Tr.get_set_ne _ _ e] at hy
      obtain ⟨o, ho1, ho2⟩ := h.live c y m hy hc
      by_cases eb : m.blk = l.blk
      · cases hyd : y.isDead with
        | true =>
          cases y <;> simp [Blk.isDead] at hyd
          obtain ⟨o', hh, _⟩ := ho
          exact ⟨o', by rw [eb]; exact hh, .dead _ _⟩
        | false => exact absurd (h.inj c b y x m l hy hm hyd hxd hc hι eb) (fun e' => e (by rw [e']))
      · exact ⟨o, by rw [hother _ eb]; exact ho1, ho2⟩
  · intro c c' y y' m m' hy hy' hd1 hd2 hc hc' hbb
    have conv : ∀ c y, (M.set (b / 256) x').get (c / 256) = some y → y.isDead = false → ∃ z, M.get (c / 256) = some z ∧ z.isDead = false := by
      intro c y hy hyd
      by_cases e : c / 256 = b / 256
      · exact ⟨x, by rw [e]; exact hm, hxd⟩
      · rw [Tr.get_set_ne _ _ e] at hy; exact ⟨y, hy, hyd⟩
    obtain ⟨z, hz1, hz2⟩ := conv c y hy hd1
    obtain ⟨z', hz1', hz2'⟩ := conv c' y' hy' hd2
    exact h.inj c c' z z' m m' hz1 hz1' hz2 hz2' hc hc' hbb
  · intro c y m hy hyw hc
    by_cases e : c / 256 = b / 256
    · have := h.uniq c b m l hc hι e
      subst this
      rw [hι] at hc; simp at hc; subst hc
      exact hown
    · rw [Tr.get_set_ne _ _ e] at hy
      exact h.own c y m hy hyw hc
  · intro i hi
    rw [hother i (by omega)]
    exact h.old i hi
  · intro a v ha
    obtain ⟨h1, h2⟩ := h.fz a v ha
    have hne := h2 b x l hm hw hι
    refine ⟨?_, ?_⟩
    · unfold World.cell? at h1 ⊢
      rw [hother a.block (Ne.symm hne)]
      exact h1
    · intro c y m hy hyw hc
      by_cases e : c / 256 = b / 256
      · have := h.uniq c b m l hc hι e
        subst this
        rw [hι] at hc; simp at hc; subst hc
        exact hne
      · rw [Tr.get_set_ne _ _ e] at hy
        exact h2 c y m hy hyw hc
  · intro c hc hnot
    exact hother c (fun e => hnot b x l hm hι e.symm)

theorem cell_lt {w : World} {a : Addr} {v : Value} (h : w.cell? a = some v) : a.block < w.heap.size := by
  unfold World.cell? at h
  cases hh : w.heap[a.block]? with
  | none => rw [hh] at h; simp at h
  | some o => exact (Array.getElem?_eq_some_iff.1 hh).1

/-! ### a new block -/
def Iota.upd (ι : Iota) (b : Nat) (l : Loc) : Iota := ⟨fun c => if c = b then some l else ι c, ι.fz⟩
theorem Iota.upd_same (ι : Iota) (b : Nat) (l : Loc) : ι.upd b l b = some l := by simp [Iota.upd]
theorem Iota.upd_ext {ι : Iota} {b : Nat} (l : Loc) (h : ι b = none) : Ext ι (ι.upd b l) := by
  refine ⟨fun c m hc => ?_, fun _ _ e => e⟩
  simp only [Iota.upd]
  split
  · subst_vars; rw [h] at hc; cases hc
  · exact hc

theorem Post.alloc {w0 : World} {ι : Iota} {M : Tr Blk} {nx s : Nat} {w : World} {x : Blk} {l : Loc} {o : Obj} (h : R w0 ι M w) (hf : Fresh ι nx (nx + 1)) (hs : s < 256) (hl : l.blk = w.heap.size) (hk : l.gr = none ↔ s = 0)
    (ho : BR (ι.upd (256 * nx + s) l) (256 * nx + s) x l o) : Post w0 ι M nx w (ι.upd (256 * nx + s) l) (M.set nx x) (nx + 1) (w.alloc o) := by
  have hdiv : (256 * nx + s) / 256 = nx := by omega
  have hmod : (256 * nx + s) % 256 = s := by omega
  have hnone : ι (256 * nx + s) = none := hf _ (by omega) (by omega)
  have hext : Ext ι (ι.upd (256 * nx + s) l) := Iota.upd_ext l hnone
  have hnewat : (w.alloc o).heap[w.heap.size]? = some o := heap_alloc_new w o
  have hold : ∀ i, i < w.heap.size → (w.alloc o).heap[i]? = w.heap[i]? := fun i hi => heap_alloc_old w o i hi
  have hsz : (w.alloc o).heap.size = w.heap.size + 1 := World.size_alloc w o
  have inv : ∀ c m, ι.upd (256 * nx + s) l c = some m → (c = 256 * nx + s ∧ m = l) ∨ (c / 256 ≠ nx ∧ ι c = some m) := by
    intro c m hc
    simp only [Iota.upd] at hc
    split at hc
    · rename_i e; simp at hc; exact .inl ⟨e, hc.symm⟩
    · refine .inr ⟨fun e => ?_, hc⟩
      rw [hf c (by omega) (by omega)] at hc; cases hc
  have blkold : ∀ c y m, M.get (c / 256) = some y → ι c = some m → m.blk < w.heap.size := by
    intro c y m hy hc
    obtain ⟨o', h1, _⟩ := h.live c y m hy hc
    exact (Array.getElem?_eq_some_iff.1 h1).1
  refine ⟨hext, ?_, ?_, Nat.le_succ _, ⟨?_, ?_, ?_, ?_, ?_, by rw [hsz]; have := h.size; omega, ?_, h.os, h.output, h.tape, ?_⟩, fun c hc _ => hold c hc, by omega, fun _ _ e => .inl e⟩
  · intro b m hb hm
    rcases inv b m hm with ⟨rfl, rfl⟩ | ⟨_, h2⟩
    · exact ⟨by omega, .inl (by omega)⟩
    · rw [hb] at h2; cases h2
  · intro n hn
    by_cases e : n = nx
    · exact .inr (by omega)
    · rw [Tr.get_set_ne _ _ e] at hn; exact .inl hn
  · intro b m hb
    rcases inv b m hb with ⟨rfl, rfl⟩ | ⟨_, h2⟩
    · rw [hmod]; exact hk
    · exact h.kinds b m h2
  · intro b b' m m' hb hb' e
    rcases inv b m hb with ⟨rfl, rfl⟩ | ⟨h1, h2⟩ <;> rcases inv b' m' hb' with ⟨rfl, rfl⟩ | ⟨h1', h2'⟩
    · rfl
    · exact absurd (e.symm.trans hdiv) h1'
    · exact absurd (e.trans hdiv) h1
    · exact h.uniq b b' m m' h2 h2' e
  · intro b y m hy hb
    rcases inv b m hb with ⟨rfl, rfl⟩ | ⟨h1, h2⟩
    · rw [hdiv, Tr.get_set_same] at hy
      simp at hy; subst hy
      exact ⟨o, by rw [hl]; exact hnewat, ho⟩
    · rw [Tr.get_set_ne _ _ h1] at hy
      obtain ⟨o', k1, k2⟩ := h.live b y m hy h2
      exact ⟨o', by rw [hold _ (blkold b y m hy h2)]; exact k1, k2.mono hext⟩
  · intro b b' y y' m m' hy hy' hd hd' hb hb' e
    rcases inv b m hb with ⟨rfl, rfl⟩ | ⟨h1, h2⟩ <;> rcases inv b' m' hb' with ⟨rfl, rfl⟩ | ⟨h1', h2'⟩
    · rfl
    · rw [Tr.get_set_ne _ _ h1'] at hy'
      have := blkold b' y' m' hy' h2'
      omega
    · rw [Tr.get_set_ne _ _ h1] at hy
      have := blkold b y m hy h2
      omega
    · rw [Tr.get_set_ne _ _ h1] at hy
      rw [Tr.get_set_ne _ _ h1'] at hy'
      exact h.inj b b' y y' m m' hy hy' hd hd' h2 h2' e
  · intro b y m hy hyw hb
    rcases inv b m hb with ⟨rfl, rfl⟩ | ⟨h1, h2⟩
    · have := h.size; omega
    · rw [Tr.get_set_ne _ _ h1] at hy
      exact h.own b y m hy hyw h2
  · intro i hi
    rw [hold i (by have := h.size; omega)]
    exact h.old i hi
  · intro a v ha
    obtain ⟨h1, h2⟩ := h.fz a v ha
    have hlt : a.block < w.heap.size := cell_lt h1
    refine ⟨?_, ?_⟩
    · unfold World.cell? at h1 ⊢
      rw [hold a.block hlt]
      exact h1
    · intro b y m hy hyw hb
      rcases inv b m hb with ⟨rfl, rfl⟩ | ⟨g1, g2⟩
      · omega
      · rw [Tr.get_set_ne _ _ g1] at hy
        exact h2 b y m hy hyw g2
end Go.Proofs.YtihloomkgpflmaaGreatDoor.Vm

namespace Go.Proofs.YtihloomkgpflmaaGreatDoor.Vm

def Blk.vals : Blk → Option (List Value)
  | .cells _ vs => some vs
  | .grow vs => some vs
  | .frz vs => some vs
  | _ => none

theorem R.view {w0 : World} {ι : Iota} {M : Tr Blk} {w : World} {b : Nat} {x : Blk} {l : Loc} {vs : List Value} (h : R w0 ι M w) (hm : M.get (b / 256) = some x) (hι : ι b = some l) (hv : x.vals = some vs) :
    ∃ arr t fz mid, w.heap[l.blk]? = some (.cells arr t fz) ∧ VRL ι vs mid ∧ (∀ i, i < vs.length → arr[l.off i]? = mid[i]?) := by
  obtain ⟨o, h1, h2⟩ := h.live b x l hm hι
  cases h2 with
  | cells hg hl =>
    rename_i ro vs' arr t
    simp [Blk.vals] at hv; subst hv
    exact ⟨arr, t, _, arr.toList, h1, hl, fun i _ => by unfold Loc.off; rw [hg]; simp⟩
  | grow hb hg ha hp hl hc =>
    rename_i vs' arr t base cap pre mid post
    simp [Blk.vals] at hv; subst hv
    refine ⟨arr, t, _, mid, h1, hl, fun i hi => ?_⟩
    have hlen := hl.length
    unfold Loc.off; rw [hg]; simp only
    rw [← Array.getElem?_toList, ha, ← hp, List.append_assoc, List.getElem?_append_right (by omega)]
    rw [List.getElem?_append_left (by omega)]
    congr 1; omega
  | frz ha hp hl =>
    rename_i vs' arr t fz pre mid post
    simp [Blk.vals] at hv; subst hv
    refine ⟨arr, t, _, mid, h1, hl, fun i hi => ?_⟩
    have hlen := hl.length
    have ho : l.off i = l.off 0 + i := by unfold Loc.off; split <;> omega
    rw [ho, ← hp, ← Array.getElem?_toList, ha, List.append_assoc, List.getElem?_append_right (by omega)]
    rw [List.getElem?_append_left (by omega)]
    congr 1; omega
  | _ => simp [Blk.vals] at hv

theorem cell_view {w : World} {blk o : Nat} {arr : Array Value} {t : TypeId} {fz : Nat × Nat} (h : w.heap[blk]? = some (.cells arr t fz)) : w.cell? ⟨blk, o, none⟩ = arr[o]? := by
  simp [World.cell?, h]

noncomputable def aLoad (P : Program) (M : Tr Blk) (t : TypeId) (a : Value) : Option Value := match a with
  | .pointer (some ⟨b, o, none⟩) => (match M.get (b / 256) with
    | some x => (match x.vals, aAgg P t with
      | some vs, some true => (match aSize P t with
        | some n => bif Nat.ble (o + n) vs.length then some (.agg ((vs.drop o).take n).toArray) else none
        | none => none)
      | some vs, some false => vs[o]?
      | _, _ => none)
    | none => none)
  | a => (match fptrOf a, aAgg P t with
    | some cs, some true => (match aSize P t with
      | some n => bif Nat.ble n cs.length then some (.agg (cs.take n).toArray) else none
      | none => none)
    | some cs, some false => cs[0]?
    | _, _ => none)

theorem run_loadVar {P : Program} {w0 : World} {ι : Iota} {M : Tr Blk} {w : World} {t : TypeId} {b o : Nat} {l : Loc} {v : Value} (h : R w0 ι M w) (hι : ι b = some l) (hv : aLoad P M t (.pointer (some ⟨b, o, none⟩)) = some v) :
    ∃ z, VR ι v z ∧ (loadVar t ⟨l.blk, l.off o, none⟩).run P w = .ok z w := by
  simp only [aLoad] at hv
  · split at hv
    · rename_i x hm
      split at hv
      · rename_i vs hx ha
        obtain ⟨arr, ty, fz, mid, g1, g2, g3⟩ := h.view hm hι hx
        split at hv
        · rename_i n hn
          cases hb : Nat.ble (o + n) vs.length with
          | false => rw [hb] at hv; simp at hv
          | true =>
            rw [hb] at hv; simp at hv; subst hv
            rw [Nat.ble_eq] at hb
            have hlen := g2.length
            have hcs : ((mid.drop o).take n).length = n := by rw [List.length_take, List.length_drop]; omega
            have hl := run_loadCells_list (P := P) w ⟨l.blk, l.off o, none⟩ ((mid.drop o).take n) (fun j u hj => by
              have hj' : j < n := by
                have := (List.getElem?_eq_some_iff.1 hj).1
                omega
              rw [add_none, Loc.off_add, cell_view g1, g3 (o + j) (by omega)]
              rw [List.getElem?_take_of_lt hj', List.getElem?_drop] at hj
              exact hj)
            rw [hcs] at hl
            refine ⟨.agg ((mid.drop o).take n).toArray, .agg ?_, ?_⟩
            · exact (g2.drop o).take n
            · unfold loadVar
              rw [Sem.run_bind, run_aAgg ha]
              simp only [Result.andThen_ok, if_true, Sem.run_bind, run_aSize hn, hl]
              rfl
        · cases hv
      · rename_i vs hx ha
        obtain ⟨arr, ty, fz, mid, g1, g2, g3⟩ := h.view hm hι hx
        obtain ⟨z, hz, hr⟩ := g2.get hv
        have ho : o < vs.length := (List.getElem?_eq_some_iff.1 hv).1
        refine ⟨z, hr, ?_⟩
        unfold loadVar
        rw [Sem.run_bind, run_aAgg ha]
        simp only [Result.andThen_ok, Bool.false_eq_true, if_false]
        rw [run_load, cell_view g1, g3 o ho, hz]
      · cases hv
    · cases hv

theorem run_aLoad {P : Program} {w0 : World} {ι : Iota} {M : Tr Blk} {w : World} {t : TypeId} {a u v : Value} (h : R w0 ι M w) (ha : VR ι a u) (hv : aLoad P M t a = some v) :
    ∃ z, VR ι v z ∧ (Instr.loadAt t u).run P w = .ok z w := by
  have frozen : ∀ cs, fptrOf a = some cs → (match aAgg P t with
      | some true => (match aSize P t with
        | some n => bif Nat.ble n cs.length then some (.agg (cs.take n).toArray) else none
        | none => none)
      | some false => cs[0]?
      | none => none) = some v → ∃ z, VR ι v z ∧ (Instr.loadAt t u).run P w = .ok z w := by
    intro cs hc he
    obtain ⟨b, o, zs, rfl, hz, hl⟩ := fptrOf_spec hc ha
    have hcell : ∀ i z, zs[i]? = some z → w.cell? ((⟨b, o, none⟩ : Addr).add i) = some z := fun i z hi => by
      rw [add_none]
      exact (h.fz _ _ (hz i z hi)).1
    split at he
    · rename_i ha2
      split at he
      · rename_i n hn
        cases hb : Nat.ble n cs.length with
        | false => rw [hb] at he; simp at he
        | true =>
          rw [hb] at he; simp at he; subst he
          rw [Nat.ble_eq] at hb
          have hlen := hl.length
          have hcs : (zs.take n).length = n := by rw [List.length_take]; omega
          have hld := run_loadCells_list (P := P) w ⟨b, o, none⟩ (zs.take n) (fun j z hj => by
            have hj' : j < n := by
              have := (List.getElem?_eq_some_iff.1 hj).1
              omega
            rw [List.getElem?_take_of_lt hj'] at hj
            exact hcell j z hj)
          rw [hcs] at hld
          refine ⟨.agg (zs.take n).toArray, .agg (by simpa using hl.take n), ?_⟩
          simp only [Instr.loadAt, Instr.sureAddr, Sem.run_bind, Sem.run_pure, Result.andThen_ok, loadVar, run_aAgg ha2, if_true, run_aSize hn, hld]
      · cases he
    · rename_i ha2
      obtain ⟨z, hz0, hr⟩ := hl.get he
      refine ⟨z, hr, ?_⟩
      have := hcell 0 z hz0
      rw [add_none, Nat.add_zero] at this
      simp only [Instr.loadAt, Instr.sureAddr, Sem.run_bind, Sem.run_pure, Result.andThen_ok, loadVar, run_aAgg ha2, Bool.false_eq_true, if_false]
      rw [run_load, this]
    · cases he
  cases ha with
  | ptr hι =>
    obtain ⟨z, h1, h2⟩ := run_loadVar h hι hv
    exact ⟨z, h1, by simp [Instr.loadAt, Instr.sureAddr, h2]⟩
  | fptr hz hl =>
    rename_i cs zs b o
    refine frozen cs rfl ?_
    simp only [aLoad, fptrOf] at hv
    rw [← hv]
    cases aAgg P t with
    | none => rfl
    | some g => cases g <;> rfl
  | func hf =>
    rename_i fn xs ys as bs h1 h2
    cases fn <;> first | (simp [plainFn] at hf; done) | simp [aLoad, fptrOf] at hv
  | _ => simp [aLoad, fptrOf] at hv

/-! ### stores -/
def splice (vs : List Value) (o : Nat) (cs : List Value) : List Value := vs.take o ++ cs ++ vs.drop (o + cs.length)
theorem splice_length {vs cs : List Value} {o : Nat} (h : o + cs.length ≤ vs.length) : (splice vs o cs).length = vs.length := by
  simp [splice]; omega

def Blk.put : Blk → Nat → List Value → Option Blk
  | .cells false vs, o, cs => bif Nat.ble (o + cs.length) vs.length then some (.cells false (splice vs o cs)) else none
  | .grow vs, o, cs => bif Nat.ble (o + cs.length) vs.length then some (.grow (splice vs o cs)) else none
  | _, _, _ => none

theorem VRL.ones {ι : Iota} : ∀ {xs ys : List Value}, VRL ι xs ys → xs.all (·.oneCell') = true → ∀ z ∈ ys, z.oneCell' = true
  | _, _, .nil, _, _, hz => by cases hz
  | _, _, .cons hv t, h, z, hz => by
    simp only [List.all_cons, Bool.and_eq_true] at h
    cases hz with
    | head => rw [← hv.oneCell]; exact h.1
    | tail _ hz => exact VRL.ones t h.2 z hz

theorem run_put {P : Program} {w0 : World} {ι : Iota} {M : Tr Blk} {w : World} {nx b o : Nat} {x x' : Blk} {l : Loc} {cs cs' : List Value} (h : R w0 ι M w) (hm : M.get (b / 256) = some x) (hι : ι b = some l) (hp : x.put o cs = some x')
    (hcs : VRL ι cs cs') (h1 : cs.all (·.oneCell') = true) : ∃ w', (storeCells ⟨l.blk, l.off o, none⟩ cs').run P w = .ok () w' ∧ Post w0 ι M nx w ι (M.set (b / 256) x') nx w' := by
  have hone : ∀ v ∈ cs', v.oneCell' = true := hcs.ones h1
  have hlen := hcs.length
  obtain ⟨ob, g1, g2⟩ := h.live b x l hm hι
  cases g2 with
  | cells hg hl =>
    rename_i ro vs arr t
    cases ro with
    | true => simp [Blk.put] at hp
    | false =>
      simp only [Blk.put] at hp
      cases hb : Nat.ble (o + cs.length) vs.length with
      | false => rw [hb] at hp; simp at hp
      | true =>
        rw [hb] at hp; simp at hp; subst hp
        rw [Nat.ble_eq] at hb
        have hoff : l.off o = o := by unfold Loc.off; rw [hg]
        have hvl := hl.length
        have hst := run_storeCells_at P l.blk o t cs' 0 arr w g1 (by simp at hvl ⊢; omega) hone
        rw [hoff]
        refine ⟨_, hst, ?_⟩
        refine Post.write h hm rfl hι ⟨_, setRow_heap w l.blk arr _ t _ g1, .cells hg ?_⟩ (fun k hk => setRow_other w l.blk k _ hk) (by simp) rfl rfl rfl
        simp only [Nat.add_zero]
        unfold splice
        rw [hlen]
        exact ((hl.take o).append hcs).append (hl.drop _)
  | grow hb0 hg ha hpl hl hc =>
    rename_i vs arr t base cap pre mid post
    simp only [Blk.put] at hp
    cases hb : Nat.ble (o + cs.length) vs.length with
    | false => rw [hb] at hp; simp at hp
    | true =>
      rw [hb] at hp; simp at hp; subst hp
      rw [Nat.ble_eq] at hb
      have hoff : l.off o = base + o := by unfold Loc.off; rw [hg]
      have hvl := hl.length
      have hal : arr.size = pre.length + mid.length + post.length := by rw [← Array.length_toList, ha]; simp; omega
      have hst := run_storeCells_at P l.blk (base + o) t cs' 0 arr w g1 (by omega) hone
      rw [hoff]
      refine ⟨_, hst, ?_⟩
      have hnew : arr.toList.take (base + o + 0) ++ cs' ++ arr.toList.drop (base + o + 0 + cs'.length) = pre ++ splice mid o cs' ++ post := by
        rw [ha, ← hpl, Nat.add_zero]
        have e1 : (pre ++ mid ++ post).take (pre.length + o) = pre ++ mid.take o := by
          rw [List.append_assoc, List.take_length_add_append, List.take_append_of_le_length (by omega)]
        have e2 : (pre ++ mid ++ post).drop (pre.length + o + cs'.length) = mid.drop (o + cs'.length) ++ post := by
          rw [List.append_assoc, Nat.add_assoc, List.drop_length_add_append, List.drop_append_of_le_length (by omega)]
        rw [e1, e2]
        simp [splice]
      refine Post.write h hm rfl hι ⟨_, setRow_heap w l.blk arr _ t _ g1, .grow hb0 hg (mid := splice mid o cs') (by rw [hnew]) hpl ?_ ?_⟩ (fun k hk => setRow_other w l.blk k _ hk) (by simp) rfl rfl rfl
      · unfold splice
        rw [hlen]
        exact ((hl.take o).append hcs).append (hl.drop _)
      · rw [hnew]
        simp only [List.size_toArray, List.length_append, splice_length (vs := mid) (o := o) (cs := cs') (by omega)]
        omega
  | _ => simp [Blk.put] at hp

noncomputable def aStore (P : Program) (M : Tr Blk) (t : TypeId) (a v : Value) : Option (Tr Blk) := match a with
  | .pointer (some ⟨b, o, none⟩) => (match M.get (b / 256), aSize P t with
    | some x, some n => (match Nat.beq v.cells.toList.length n && v.cells.toList.all (·.oneCell'), x.put o v.cells.toList with
      | true, some x' => some (M.set (b / 256) x')
      | _, _ => none)
    | _, _ => none)
  | _ => none
theorem run_aStore {P : Program} {w0 : World} {ι : Iota} {M M' : Tr Blk} {nx : Nat} {w : World} {t : TypeId} {a u v z : Value} (h : R w0 ι M w) (ha : VR ι a u) (hv : VR ι v z) (hs : aStore P M t a v = some M') :
    ∃ w', (Instr.storeAt t u z).run P w = .ok () w' ∧ Post w0 ι M nx w ι M' nx w' := by
  cases ha with
  | ptr hι =>
    rename_i b o l
    unfold aStore at hs
    simp only at hs
    split at hs
    · rename_i x n hm hn
      split at hs
      · rename_i x' hc hp
        simp at hs; subst hs
        simp only [Bool.and_eq_true] at hc
        have e := Nat.eq_of_beq_eq_true hc.1
        have hcl := hv.cells
        obtain ⟨w', g1, g2⟩ := run_put (P := P) (nx := nx) h hm hι hp hcl hc.2
        refine ⟨w', ?_, g2⟩
        have hlen := hcl.length
        have hsz : ¬ z.cells.size ≠ n := by simp at hlen e; omega
        simp only [Instr.storeAt, Instr.sureAddr, Sem.run_bind, Sem.run_pure, Result.andThen_ok, storeVar, run_aSize hn, Sem.run_ite, hsz, if_false, g1]
      · cases hs
    · cases hs
  | _ => simp [aStore] at hs

/-! ### new blocks -/
theorem run_newCells {P : Program} {w0 : World} {ι : Iota} {M : Tr Blk} {nx : Nat} {w : World} {elem : TypeId} {vs : List Value} {arr : Array Value} (h : R w0 ι M w) (hf : Fresh ι nx (nx + 1)) (hv : VRL ι vs arr.toList) :
    (newRow elem arr).run P w = .ok ⟨w.heap.size, 0, none⟩ (w.alloc (.cells arr elem)) ∧ Post w0 ι M nx w (ι.upd (256 * nx) ⟨w.heap.size, none⟩) (M.set nx (.cells false vs)) (nx + 1) (w.alloc (.cells arr elem)) ∧
      VR (ι.upd (256 * nx) ⟨w.heap.size, none⟩) (.pointer (some ⟨256 * nx, 0, none⟩)) (.pointer (some ⟨w.heap.size, 0, none⟩)) ∧
      (∀ n c, VR (ι.upd (256 * nx) ⟨w.heap.size, none⟩) (.slice (some ⟨256 * nx, 0, none⟩) n c) (.slice (some ⟨w.heap.size, 0, none⟩) n c)) := by
  have hx := Iota.upd_ext (ι := ι) (b := 256 * nx) ⟨w.heap.size, none⟩ (hf _ (by omega) (by omega))
  refine ⟨rfl, ?_, ?_, ?_⟩
  · exact Post.alloc (s := 0) h hf (by omega) rfl (by simp) (.cells rfl (hv.mono hx))
  · exact VR.ptr (o := 0) (Iota.upd_same _ _ _)
  · intro n c
    exact VR.sl n c (Iota.upd_same _ _ _) rfl (by omega)

noncomputable def aBox (M : Tr Blk) (nx : Nat) (v : Value) : Value × Tr Blk × Nat := (.pointer (some ⟨256 * nx, 0, none⟩), M.set nx (.cells false v.cells.toList), nx + 1)
theorem run_aBox {P : Program} {w0 : World} {ι : Iota} {M : Tr Blk} {nx : Nat} {w : World} {elem : TypeId} {v z : Value} (h : R w0 ι M w) (hf : Fresh ι nx (nx + 1)) (hv : VR ι v z) :
    ∃ κ u w', (Instr.box elem z).run P w = .ok u w' ∧ Post w0 ι M nx w κ (aBox M nx v).2.1 (nx + 1) w' ∧ VR κ (aBox M nx v).1 u := by
  obtain ⟨g1, g2, g3, _⟩ := run_newCells (P := P) (elem := elem) h hf hv.cells
  exact ⟨_, _, _, by simp [Instr.box, newVar, g1], g2, g3⟩

/-- A variable that holds what is not known. -/
noncomputable def aBoxU (M : Tr Blk) (nx : Nat) : Value × Tr Blk × Nat := (.pointer (some ⟨256 * nx, 0, none⟩), M.set nx .dead, nx + 1)
theorem run_aBoxU {P : Program} {w0 : World} {ι : Iota} {M : Tr Blk} {nx : Nat} {w : World} {elem : TypeId} {z : Value} (h : R w0 ι M w) (hf : Fresh ι nx (nx + 1)) :
    ∃ κ u w', (Instr.box elem z).run P w = .ok u w' ∧ Post w0 ι M nx w κ (aBoxU M nx).2.1 (nx + 1) w' ∧ VR κ (aBoxU M nx).1 u :=
  ⟨ι.upd (256 * nx) ⟨w.heap.size, none⟩, .pointer (some ⟨w.heap.size, 0, none⟩), w.alloc (.cells z.cells elem), by simp [Instr.box, newVar, newRow, newObj, Sem.run], Post.alloc (s := 0) h hf (by omega) rfl (by simp) (.dead _ _), VR.ptr (o := 0) (Iota.upd_same _ _ _)⟩

noncomputable def aAlloc (P : Program) (M : Tr Blk) (nx : Nat) (elem : TypeId) : Option (Value × Tr Blk × Nat) := match aZero P elem with
  | some z => some (aBox M nx z)
  | none => none
theorem run_aAlloc {P : Program} {w0 : World} {ι : Iota} {M M' : Tr Blk} {nx nx' : Nat} {w : World} {elem : TypeId} {v : Value} (h : R w0 ι M w) (hf : Fresh ι nx nx') (ha : aAlloc P M nx elem = some (v, M', nx')) :
    ∃ κ u w', (Instr.alloc elem true (.tuple #[])).run P w = .ok u w' ∧ Post w0 ι M nx w κ M' nx' w' ∧ VR κ v u := by
  unfold aAlloc at ha
  split at ha
  · rename_i z hz
    simp [aBox] at ha; obtain ⟨rfl, rfl, rfl⟩ := ha
    have hzz := run_aZero hz w
    obtain ⟨g1, g2, g3, _⟩ := run_newCells (P := P) (elem := elem) h hf (okc_self z hzz.1).cells
    exact ⟨_, _, _, by simp [Instr.alloc, hzz.2, newVar, g1], g2, g3⟩
  · cases ha

/-- n cells of zeros. -/
def zeros (z : Array Value) (n : Nat) : List Value := (List.range n).map (fun i => z[i % z.size]!)
theorem zeros_rel {ι : Iota} {z : Value} (hz : okc z = true) (n : Nat) (hn : n = 0 ∨ 0 < z.cells.size) : VRL ι (zeros z.cells n) (zeros z.cells n) := by
  have hs : ∀ v ∈ z.cells.toList, VR ι v v := by
    intro v hv
    obtain ⟨i, hi⟩ := List.getElem?_of_mem hv
    obtain ⟨u, hu, h⟩ := (okc_self (ι := ι) z hz).cells.get hi
    rw [hi] at hu; simp at hu; subst hu; exact h
  have : ∀ (l : List Nat), (n = 0 → l = []) → VRL ι (l.map (fun i => z.cells[i % z.cells.size]!)) (l.map (fun i => z.cells[i % z.cells.size]!)) := by
    intro l
    induction l with
    | nil => intro _; exact .nil
    | cons i l ih =>
      intro hl
      rcases hn with h0 | h0
      · exact absurd (hl h0) (by simp)
      · refine .cons (hs _ ?_) (ih (fun e => by have := hl e; cases this))
        have hlt := Nat.mod_lt i h0
        show z.cells[i % z.cells.size]! ∈ z.cells.toList
        rw [getElem!_pos z.cells _ hlt]
        simp
  refine this _ (fun e => by rw [e]; rfl)

noncomputable def aMakeSlice (P : Program) (M : Tr Blk) (nx : Nat) (t : TypeId) (l c : Value) : Option (Value × Tr Blk × Nat) := match P.underlying t, l, c with
  | some (.slice elem), .int _ (.ofNat n), .int _ (.ofNat m) => (match P.info? elem, aZero P elem with
    | some i, some z => bif Nat.ble (i.bytes * m) 281474976710656 && Nat.ble n m && Nat.blt m 9223372036854775808 && (Nat.beq (m * i.size) 0 || Nat.blt 0 z.cells.size) then
        some (.slice (some ⟨256 * nx, 0, none⟩) n m, M.set nx (.cells false (zeros z.cells (m * i.size))), nx + 1) else none
    | _, _ => none)
  | _, _, _ => none
theorem run_aMakeSlice {P : Program} {w0 : World} {ι : Iota} {M M' : Tr Blk} {nx nx' : Nat} {w : World} {t : TypeId} {a b u z v : Value} (h : R w0 ι M w) (hf : Fresh ι nx nx') (ha : VR ι a u) (hb : VR ι b z) (he : aMakeSlice P M nx t a b = some (v, M', nx')) :
    ∃ κ y w', (Instr.makeSlice t u z).run P w = .ok y w' ∧ Post w0 ι M nx w κ M' nx' w' ∧ VR κ v y := by
  unfold aMakeSlice at he
  split at he
  · rename_i elem k n k' m hu
    cases ha; cases hb
    split at he
    · rename_i i z hi hz
      cases hc : (Nat.ble (i.bytes * m) 281474976710656 && Nat.ble n m && Nat.blt m 9223372036854775808 && (Nat.beq (m * i.size) 0 || Nat.blt 0 z.cells.size)) with
      | false => rw [hc] at he; simp at he
      | true =>
        rw [hc] at he; simp at he; obtain ⟨rfl, rfl, rfl⟩ := he
        simp only [Bool.and_eq_true, Nat.ble_eq, Nat.blt_eq, Bool.or_eq_true, Nat.beq_eq] at hc
        obtain ⟨⟨⟨c1, c2⟩, c3⟩, c4⟩ := hc
        have hzz := run_aZero hz w
        have hz0 := zeros_rel (ι := ι) hzz.1 (m * i.size) c4
        obtain ⟨g1, g2, _, g4⟩ := run_newCells (P := P) (elem := elem) (arr := (zeros z.cells (m * i.size)).toArray) h hf hz0
        refine ⟨_, _, _, ?_, g2, g4 n m⟩
        have wn : IntKind.i64.wrap (Int.ofNat n) = (n : Int) := by rw [wrap_i64]; simp only [Int.ofNat_eq_natCast]; split <;> omega
        have wm : IntKind.i64.wrap (Int.ofNat m) = (m : Int) := by rw [wrap_i64]; simp only [Int.ofNat_eq_natCast]; split <;> omega
        have hti : (typeInfo elem).run P w = .ok i w := by simp [typeInfo, hi]
        have hsz : (sizeOf elem).run P w = .ok i.size w := by simp [sizeOf, typeInfo, hi]
        have t1 : (decide ((m : Int) < 0) || decide ((i.bytes : Int) * (m : Int) > 2 ^ 48)) = false := by
          have e48 : (2 : Int) ^ 48 = 281474976710656 := by decide
          rw [e48]
          have : ((i.bytes : Int) * (m : Int)) = ((i.bytes * m : Nat) : Int) := by simp
          rw [this]
          simp; omega
        have hcond : ((decide ((m : Int) < 0) || decide ((i.bytes : Int) * (m : Int) > 2 ^ 48)) || decide ((n : Int) < 0) || decide ((n : Int) > (m : Int))) = false := by
          rw [t1]; simp; omega
        have hmap : ((Array.range (m * i.size)).map (fun x => z.cells[x % z.cells.size]!)) = (zeros z.cells (m * i.size)).toArray := by
          apply Array.ext'
          simp [zeros]
        unfold Instr.makeSlice
        simp only [Sem.run_bind, run_underlying hu, Result.andThen_ok, asInt, asIntOf, Sem.run_pure, hti, wn, wm, hcond, Bool.false_eq_true, if_false, Sem.run_ite, run_askRoom, hsz, Int.toNat_natCast]
        by_cases h0 : m * i.size = 0
        · have hz' : (zeros z.cells (m * i.size)).toArray = #[] := by rw [h0]; rfl
          have hm' : ((Array.range (m * i.size)).map (fun x => (#[] : Array Value)[x % (#[] : Array Value).size]!)) = (zeros z.cells (m * i.size)).toArray   := by rw [hz', h0]; simp
          simp only [h0, if_true]
          rw [h0] at hm' g1
          rw [hm', g1]
          rfl
        · simp only [h0, if_false, hzz.2, Result.andThen_ok]
          rw [hmap, g1]
          rfl
    · cases he
  · cases he

noncomputable def aBuildSlice (P : Program) (M : Tr Blk) (nx : Nat) (t : TypeId) (len : Nat) (parts : List (Nat × Value)) : Option (Value × Tr Blk × Nat) := match P.underlying t with
  | some (.slice elem) => (match aSize P elem, aZero P elem with
    | some sz, some z => bif Nat.ble (len * sz) 16777216 && Nat.blt 0 (len * sz) && Nat.blt 0 z.cells.size then
        (match Instr.fill (fun i => some (i * sz, sz)) (zeros z.cells (len * sz)).toArray parts with
        | some cells => some (.slice (some ⟨256 * nx, 0, none⟩) len len, M.set nx (.cells false cells.toList), nx + 1)
        | none => none) else none
    | _, _ => none)
  | _ => none
theorem run_aBuildSlice {P : Program} {w0 : World} {ι : Iota} {M M' : Tr Blk} {nx nx' : Nat} {w : World} {t : TypeId} {len : Nat} {ps : List (Nat × Value)} {qs : Array (Nat × Value)} {v : Value} (h : R w0 ι M w) (hf : Fresh ι nx nx') (hp : PartsR ι ps qs.toList)
    (he : aBuildSlice P M nx t len ps = some (v, M', nx')) : ∃ κ y w', (Instr.buildSlice t len qs).run P w = .ok y w' ∧ Post w0 ι M nx w κ M' nx' w' ∧ VR κ v y := by
  unfold aBuildSlice at he
  split at he
  · rename_i elem hu
    split at he
    · rename_i sz z hs hz
      cases hc : (Nat.ble (len * sz) 16777216 && Nat.blt 0 (len * sz) && Nat.blt 0 z.cells.size) with
      | false => rw [hc] at he; simp at he
      | true =>
        rw [hc] at he
        simp only [cond_true] at he
        split at he
        · rename_i cells hfill
          simp at he; obtain ⟨rfl, rfl, rfl⟩ := he
          simp only [Bool.and_eq_true, Nat.ble_eq, Nat.blt_eq] at hc
          obtain ⟨⟨c1, c2⟩, c3⟩ := hc
          have hzz := run_aZero hz w
          have hz0 := zeros_rel (ι := ι) hzz.1 (len * sz) (.inr c3)
          obtain ⟨cells', f1, f2⟩ := fill_rel _ hp _ (zeros z.cells (len * sz)).toArray cells hz0 hfill
          obtain ⟨g1, g2, _, g4⟩ := run_newCells (P := P) (elem := elem) h hf f2
          refine ⟨_, _, _, ?_, g2, g4 len len⟩
          have hmap : ((Array.range (len * sz)).map (fun x => z.cells[x % z.cells.size]!)) = (zeros z.cells (len * sz)).toArray := by
            apply Array.ext'
            simp [zeros]
          have n1 : ¬ len * sz > 2 ^ 24 := by omega
          have n2 : ¬ len * sz = 0 := by omega
          unfold Instr.buildSlice
          simp only [Sem.run_bind, run_underlying hu, Result.andThen_ok, run_aSize hs, Sem.run_ite, n1, if_false, n2, hzz.2, Sem.run_pure, hmap, f1, g1]
        · cases he
    · cases he
  · cases he
end Go.Proofs.YtihloomkgpflmaaGreatDoor.Vm
