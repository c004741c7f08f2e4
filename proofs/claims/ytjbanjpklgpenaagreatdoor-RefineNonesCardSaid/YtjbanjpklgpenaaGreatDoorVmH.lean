/-
  THE ABSTRACT INTERPRETER, part H: abstract memory and what it says of a world.
-/
import Derived.Test.YtjbanjpklgpenaaGreatDoorVmG
import Derived.Laws.CopyRow
import Derived.Laws.Rows
namespace Go.Proofs.YtjbanjpklgpenaaGreatDoor.Vm

structure ALoop where
  st : LoopState
  pending : Option Code
  fn : FuncId
  nt : Nat
  T : Tr Value
  params : List Tmp
  assign : Code
  body : Code
  defers : Nat

inductive Blk where
  /-- nothing is known of it any more -/
  | dead
  | cells (ro : Bool) (vs : List Value)
  /-- a row's first cells; it may have more -/
  | grow (vs : List Value)
  /-- a row whose place behind its cells may not be written; it may have more cells; it is only read -/
  | frz (vs : List Value)
  | map (es : List (Value × Value × Nat)) (clock : Nat)
  | defs (taken : Bool)
  | loop (l : ALoop)

def Blk.isDead : Blk → Bool
  | .dead => true
  | _ => false
def Blk.wr : Blk → Bool
  | .dead => false
  | .cells ro _ => !ro
  | .frz _ => false
  | _ => true

def TmR (ι : Iota) (nt : Nat) (T : Tr Value) (tmps : Array Value) : Prop := tmps.size = nt ∧ ∀ t v, T.get t = some v → ∃ u, tmps[t]? = some u ∧ VR ι v u

theorem TmR.mono {ι κ : Iota} {nt : Nat} {T : Tr Value} {tmps : Array Value} (h : TmR ι nt T tmps) (e : Ext ι κ) : TmR κ nt T tmps :=
  ⟨h.1, fun t v hv => let ⟨u, a, b⟩ := h.2 t v hv; ⟨u, a, b.mono e⟩⟩

inductive ER (ι : Iota) : List (Value × Value × Nat) → List MapEntry → Prop
  | nil : ER ι [] []
  | cons {k k' v v' : Value} {n : Nat} {xs : List (Value × Value × Nat)} {ys : List MapEntry} (hk : VR ι k k') (hv : VR ι v v') (t : ER ι xs ys) : ER ι ((k, v, n) :: xs) ({ key := k', val := v', born := n } :: ys)
theorem ER.mono {ι κ : Iota} (e : Ext ι κ) : ∀ {xs : List (Value × Value × Nat)} {ys : List MapEntry}, ER ι xs ys → ER κ xs ys
  | _, _, .nil => .nil
  | _, _, .cons hk hv t => .cons (hk.mono e) (hv.mono e) (ER.mono e t)

inductive BR (ι : Iota) (b : Nat) : Blk → Loc → Obj → Prop
  | dead (l : Loc) (o : Obj) : BR ι b .dead l o
  | cells {ro : Bool} {vs : List Value} {l : Loc} {arr : Array Value} {t : TypeId} (hg : l.gr = none) (h : VRL ι vs arr.toList) : BR ι b (.cells ro vs) l (.cells arr t (0, 0))
  | grow {vs : List Value} {l : Loc} {arr : Array Value} {t : TypeId} {base cap : Nat} {pre mid post : List Value} (hb : b % 256 ≠ 0) (hg : l.gr = some (base, cap)) (ha : arr.toList = pre ++ mid ++ post) (hp : pre.length = base)
      (h : VRL ι vs mid) (hc : base + cap * (b % 256) ≤ arr.size) : BR ι b (.grow vs) l (.cells arr t (0, 0))
  | frz {vs : List Value} {l : Loc} {arr : Array Value} {t : TypeId} {f : Nat × Nat} {pre mid post : List Value} (ha : arr.toList = pre ++ mid ++ post) (hp : pre.length = l.off 0)
      (h : VRL ι vs mid) : BR ι b (.frz vs) l (.cells arr t f)
  | map {es : List (Value × Value × Nat)} {l : Loc} {es' : Array MapEntry} {clock : Nat} (hg : l.gr = none) (h : ER ι es es'.toList) : BR ι b (.map es clock) l (.map es' clock)
  | defs {taken : Bool} {l : Loc} (hg : l.gr = none) : BR ι b (.defs taken) l (.deferred (if taken then none else some []))
  | loop {al : ALoop} {l d : Loc} {tmps : Array Value} {params : Array Tmp} (hg : l.gr = none) (hd : ι al.defers = some d) (hdg : d.gr = none) (hp : params.toList = al.params) (ht : TmR ι al.nt al.T tmps) :
      BR ι b (.loop al) l (.loop { state := al.st, pending := al.pending, fn := al.fn, tmps, params, assign := al.assign, body := al.body, defers := d.blk })

theorem BR.mono {ι κ : Iota} (e : Ext ι κ) {b : Nat} {x : Blk} {l : Loc} {o : Obj} (h : BR ι b x l o) : BR κ b x l o := by
  cases h with
  | dead => exact .dead _ _
  | cells hg h => exact .cells hg (h.mono e)
  | grow hb hg ha hp h hc => exact .grow hb hg ha hp (h.mono e) hc
  | frz ha hp h => exact .frz ha hp (h.mono e)
  | map hg h => exact .map hg (h.mono e)
  | defs hg => exact .defs hg
  | loop hg hd hdg hp ht => exact .loop hg (e _ _ hd) hdg hp (ht.mono e)

structure R (w0 : World) (ι : Iota) (M : Tr Blk) (w : World) : Prop where
  kinds : Kinds ι
  uniq : ∀ b b' l l', ι b = some l → ι b' = some l' → b / 256 = b' / 256 → b = b'
  live : ∀ b x l, M.get (b / 256) = some x → ι b = some l → ∃ o, w.heap[l.blk]? = some o ∧ BR ι b x l o
  inj : ∀ b b' x x' l l', M.get (b / 256) = some x → M.get (b' / 256) = some x' → x.isDead = false → x'.isDead = false → ι b = some l → ι b' = some l' → l.blk = l'.blk → b = b'
  own : ∀ b x l, M.get (b / 256) = some x → x.wr = true → ι b = some l → w0.heap.size ≤ l.blk
  size : w0.heap.size ≤ w.heap.size
  old : ∀ i, i < w0.heap.size → w.heap[i]? = w0.heap[i]?
  os : w.os = w0.os
  output : w.output = w0.output
  tape : w.tape = w0.tape

def Fresh (ι : Iota) (nx nx' : Nat) : Prop := ∀ b, nx ≤ b / 256 → b / 256 < nx' → ι b = none

/-- .. of all that come. -/
def FreshU (ι : Iota) (nx : Nat) : Prop := ∀ b, nx ≤ b / 256 → ι b = none
theorem FreshU.to {ι : Iota} {nx : Nat} (h : FreshU ι nx) (nx' : Nat) : Fresh ι nx nx' := fun b h1 _ => h b h1

structure Post (w0 : World) (ι : Iota) (M : Tr Blk) (nx : Nat) (w : World) (κ : Iota) (M' : Tr Blk) (nx' : Nat) (w' : World) : Prop where
  ext : Ext ι κ
  new : ∀ b l, ι b = none → κ b = some l → (nx ≤ b / 256 ∧ b / 256 < nx') ∧ (w.heap.size ≤ l.blk ∨ ∃ b' x' l', M.get (b' / 256) = some x' ∧ ι b' = some l' ∧ l'.blk = l.blk)
  dom : ∀ n, M'.get n ≠ none → M.get n ≠ none ∨ (nx ≤ n ∧ n < nx')
  le : nx ≤ nx'
  rel : R w0 κ M' w'
  frame : ∀ c, c < w.heap.size → (∀ b x l, M.get (b / 256) = some x → ι b = some l → l.blk ≠ c) → w'.heap[c]? = w.heap[c]?
  size : w.heap.size ≤ w'.heap.size

theorem Post.refl {w0 : World} {ι : Iota} {M : Tr Blk} {nx : Nat} {w : World} (h : R w0 ι M w) : Post w0 ι M nx w ι M nx w :=
  ⟨Ext.refl ι, fun b l h1 h2 => (by rw [h1] at h2; cases h2), fun n hn => .inl hn, Nat.le_refl _, h, fun _ _ _ => rfl, Nat.le_refl _⟩

theorem Post.fresh {w0 : World} {ι κ : Iota} {M M' : Tr Blk} {nx nx' nx2 : Nat} {w w' : World} (h : Post w0 ι M nx w κ M' nx' w') (hf : Fresh ι nx nx2) : Fresh κ nx' nx2 := by
  intro b h1 h2
  have hi := hf b (Nat.le_trans h.le h1) h2
  cases hk : κ b with
  | none => rfl
  | some l => have := (h.new b l hi hk).1; omega
theorem Post.freshU {w0 : World} {ι κ : Iota} {M M' : Tr Blk} {nx nx' : Nat} {w w' : World} (h : Post w0 ι M nx w κ M' nx' w') (hf : FreshU ι nx) : FreshU κ nx' := by
  intro b h1
  have hi := hf b (Nat.le_trans h.le h1)
  cases hk : κ b with
  | none => rfl
  | some l => have := (h.new b l hi hk).1; omega
theorem Fresh.sub {ι : Iota} {nx nx' a b : Nat} (h : Fresh ι nx nx') (h1 : nx ≤ a) (h2 : b ≤ nx') : Fresh ι a b := fun c g1 g2 => h c (by omega) (by omega)

theorem Post.trans {w0 : World} {ι κ μ : Iota} {M M1 M2 : Tr Blk} {nx nx1 nx2 : Nat} {w w1 w2 : World} (hf : Fresh ι nx nx2) (h : Post w0 ι M nx w κ M1 nx1 w1) (g : Post w0 κ M1 nx1 w1 μ M2 nx2 w2) :
    Post w0 ι M nx w μ M2 nx2 w2 := by
  -- a block that M1 knows, and that has a place by κ: it had one by ι and M knew it, or it is new
  have back : ∀ b x l, M1.get (b / 256) = some x → κ b = some l → (∃ x' l', M.get (b / 256) = some x' ∧ ι b = some l' ∧ l'.blk = l.blk) ∨ w.heap.size ≤ l.blk ∨ ∃ b' x' l', M.get (b' / 256) = some x' ∧ ι b' = some l' ∧ l'.blk = l.blk := by
    intro b x l hm hk
    cases hi : ι b with
    | none => exact .inr (h.new b l hi hk).2
    | some l0 =>
      have hl : l0 = l := by have := h.ext b l0 hi; rw [hk] at this; injection this with this; exact this.symm
      subst hl
      rcases h.dom (b / 256) (by rw [hm]; simp) with hd | hd
      · cases hx : M.get (b / 256) with
        | none => exact absurd hx hd
        | some x' => exact .inl ⟨x', l0, rfl, rfl, rfl⟩
      · have := hf b hd.1 (Nat.lt_of_lt_of_le hd.2 g.le)
        rw [hi] at this; cases this
  refine ⟨h.ext.trans g.ext, ?_, ?_, Nat.le_trans h.le g.le, g.rel, ?_, Nat.le_trans h.size g.size⟩
  · intro b l hi hm
    cases hk : κ b with
    | some l' =>
      have hl : l' = l := by have := g.ext b l' hk; rw [hm] at this; injection this with this; exact this.symm
      subst hl
      have := h.new b l' hi hk
      exact ⟨⟨this.1.1, Nat.lt_of_lt_of_le this.1.2 g.le⟩, this.2⟩
    | none =>
      have := g.new b l hk hm
      refine ⟨⟨Nat.le_trans h.le this.1.1, this.1.2⟩, ?_⟩
      rcases this.2 with hs | ⟨b', x', l', h1, h2, h3⟩
      · exact .inl (Nat.le_trans h.size hs)
      · rcases back b' x' l' h1 h2 with ⟨x2, l2, k1, k2, k3⟩ | hs | ⟨b2, x2, l2, k1, k2, k3⟩
        · exact .inr ⟨b', x2, l2, k1, k2, k3.trans h3⟩
        · exact .inl (by omega)
        · exact .inr ⟨b2, x2, l2, k1, k2, k3.trans h3⟩
  · intro n hn
    rcases g.dom n hn with hd | hd
    · rcases h.dom n hd with he | he
      · exact .inl he
      · exact .inr ⟨he.1, Nat.lt_of_lt_of_le he.2 g.le⟩
    · exact .inr ⟨Nat.le_trans h.le hd.1, hd.2⟩
  · intro c hc hnot
    rw [g.frame c (Nat.lt_of_lt_of_le hc h.size) ?_, h.frame c hc hnot]
    intro b x l hm hk
    rcases back b x l hm hk with ⟨x2, l2, k1, k2, k3⟩ | hs | ⟨b2, x2, l2, k1, k2, k3⟩
    · exact fun e => hnot b x2 l2 k1 k2 (k3.trans e)
    · omega
    · exact fun e => hnot b2 x2 l2 k1 k2 (k3.trans e)

/-- A world that differs in what was drawn alone. -/
theorem R.drawn {w0 : World} {ι : Iota} {M : Tr Blk} {w : World} (h : R w0 ι M w) (n : Nat) : R w0 ι M { w with drawn := n } :=
  ⟨h.kinds, h.uniq, h.live, h.inj, h.own, h.size, h.old, h.os, h.output, h.tape⟩
theorem Post.drawn {w0 : World} {ι : Iota} {M : Tr Blk} {nx : Nat} {w : World} (h : R w0 ι M w) (n : Nat) : Post w0 ι M nx w ι M nx { w with drawn := n } :=
  ⟨Ext.refl ι, fun b l h1 h2 => (by rw [h1] at h2; cases h2), fun n hn => .inl hn, Nat.le_refl _, h.drawn n, fun _ _ _ => rfl, Nat.le_refl _⟩

/-! ### a block is written -/
theorem Post.write {w0 : World} {ι : Iota} {M : Tr Blk} {nx : Nat} {w w' : World} {b : Nat} {x x' : Blk} {l : Loc} (h : R w0 ι M w) (hm : M.get (b / 256) = some x) (hw : x.wr = true) (hι : ι b = some l)
    (ho : ∃ o, w'.heap[l.blk]? = some o ∧ BR ι b x' l o) (hother : ∀ k, k ≠ l.blk → w'.heap[k]? = w.heap[k]?) (hsize : w'.heap.size = w.heap.size) (hos : w'.os = w.os) (hout : w'.output = w.output) (htape : w'.tape = w.tape) :
    Post w0 ι M nx w ι (M.set (b / 256) x') nx w' := by
  have hxd : x.isDead = false := by cases x <;> simp_all [Blk.wr, Blk.isDead]
  have hown := h.own b x l hm hw hι
  refine ⟨Ext.refl ι, fun b l h1 h2 => (by rw [h1] at h2; cases h2), ?_, Nat.le_refl _, ⟨h.kinds, h.uniq, ?_, ?_, ?_, by rw [hsize]; exact h.size, ?_, hos.trans h.os, hout.trans h.output, htape.trans h.tape⟩, ?_, by omega⟩
  · intro n hn
    by_cases e : n = b / 256
    · subst e; exact .inl (by rw [hm]; simp)
    · rw [Tr.get_set_ne _ _ e] at hn; exact .inl hn
  · intro c y m hy hc
    by_cases e : c / 256 = b / 256
    · have := h.uniq c b m l hc hι e
      subst this
      rw [Tr.get_set_same] at hy
      simp at hy; subst hy
      rw [hι] at hc; simp at hc; subst hc
      exact ho
    · rw [Tr.get_set_ne _ _ e] at hy
      obtain ⟨o, ho1, ho2⟩ := h.live c y m hy hc
      by_cases eb : m.blk = l.blk
      · cases hyd : y.isDead with
        | true =>
          cases y <;> simp [Blk.isDead] at hyd
          obtain ⟨o', hh, _⟩ := ho
          exact ⟨o', by rw [eb]; exact hh, .dead _ _⟩
        | false => exact absurd (h.inj c b y x m l hy hm hyd hxd hc hι eb) (fun e' => e (by rw [e']))
      · exact ⟨o, by rw [hother _ eb]; exact ho1, ho2⟩
  · intro c c' y y' m m' hy hy' hd1 hd2 hc hc' hbb
    have conv : ∀ c y, (M.set (b / 256) x').get (c / 256) = some y → y.isDead = false → ∃ z, M.get (c / 256) = some z ∧ z.isDead = false := by
      intro c y hy hyd
      by_cases e : c / 256 = b / 256
      · exact ⟨x, by rw [e]; exact hm, hxd⟩
      · rw [Tr.get_set_ne _ _ e] at hy; exact ⟨y, hy, hyd⟩
    obtain ⟨z, hz1, hz2⟩ := conv c y hy hd1
    obtain ⟨z', hz1', hz2'⟩ := conv c' y' hy' hd2
    exact h.inj c c' z z' m m' hz1 hz1' hz2 hz2' hc hc' hbb
  · intro c y m hy hyw hc
    by_cases e : c / 256 = b / 256
    · have := h.uniq c b m l hc hι e
      subst this
      rw [hι] at hc; simp at hc; subst hc
      exact hown
    · rw [Tr.get_set_ne _ _ e] at hy
      exact h.own c y m hy hyw hc
  · intro i hi
    rw [hother i (by omega)]
    exact h.old i hi
  · intro c hc hnot
    exact hother c (fun e => hnot b x l hm hι e.symm)

/-! ### a new block -/
def Iota.upd (ι : Iota) (b : Nat) (l : Loc) : Iota := fun c => if c = b then some l else ι c
theorem Iota.upd_same (ι : Iota) (b : Nat) (l : Loc) : ι.upd b l b = some l := by simp [Iota.upd]
theorem Iota.upd_ext {ι : Iota} {b : Nat} (l : Loc) (h : ι b = none) : Ext ι (ι.upd b l) := by
  intro c m hc
  unfold Iota.upd
  split
  · subst_vars; rw [h] at hc; cases hc
  · exact hc

theorem Post.alloc {w0 : World} {ι : Iota} {M : Tr Blk} {nx s : Nat} {w : World} {x : Blk} {l : Loc} {o : Obj} (h : R w0 ι M w) (hf : Fresh ι nx (nx + 1)) (hs : s < 256) (hl : l.blk = w.heap.size) (hk : l.gr = none ↔ s = 0)
    (ho : BR (ι.upd (256 * nx + s) l) (256 * nx + s) x l o) : Post w0 ι M nx w (ι.upd (256 * nx + s) l) (M.set nx x) (nx + 1) (w.alloc o) := by
  have hdiv : (256 * nx + s) / 256 = nx := by omega
  have hmod : (256 * nx + s) % 256 = s := by omega
  have hnone : ι (256 * nx + s) = none := hf _ (by omega) (by omega)
  have hext : Ext ι (ι.upd (256 * nx + s) l) := Iota.upd_ext l hnone
  have hnewat : (w.alloc o).heap[w.heap.size]? = some o := heap_alloc_new w o
  have hold : ∀ i, i < w.heap.size → (w.alloc o).heap[i]? = w.heap[i]? := fun i hi => heap_alloc_old w o i hi
  have hsz : (w.alloc o).heap.size = w.heap.size + 1 := World.size_alloc w o
  have inv : ∀ c m, ι.upd (256 * nx + s) l c = some m → (c = 256 * nx + s ∧ m = l) ∨ (c / 256 ≠ nx ∧ ι c = some m) := by
    intro c m hc
    unfold Iota.upd at hc
    split at hc
    · rename_i e; simp at hc; exact .inl ⟨e, hc.symm⟩
    · refine .inr ⟨fun e => ?_, hc⟩
      rw [hf c (by omega) (by omega)] at hc; cases hc
  have blkold : ∀ c y m, M.get (c / 256) = some y → ι c = some m → m.blk < w.heap.size := by
    intro c y m hy hc
    obtain ⟨o', h1, _⟩ := h.live c y m hy hc
    exact (Array.getElem?_eq_some_iff.1 h1).1
  refine ⟨hext, ?_, ?_, Nat.le_succ _, ⟨?_, ?_, ?_, ?_, ?_, by rw [hsz]; have := h.size; omega, ?_, h.os, h.output, h.tape⟩, fun c hc _ => hold c hc, by omega⟩
  · intro b m hb hm
    rcases inv b m hm with ⟨rfl, rfl⟩ | ⟨_, h2⟩
    · exact ⟨by omega, .inl (by omega)⟩
    · rw [hb] at h2; cases h2
  · intro n hn
    by_cases e : n = nx
    · exact .inr (by omega)
    · rw [Tr.get_set_ne _ _ e] at hn; exact .inl hn
  · intro b m hb
    rcases inv b m hb with ⟨rfl, rfl⟩ | ⟨_, h2⟩
    · rw [hmod]; exact hk
    · exact h.kinds b m h2
  · intro b b' m m' hb hb' e
    rcases inv b m hb with ⟨rfl, rfl⟩ | ⟨h1, h2⟩ <;> rcases inv b' m' hb' with ⟨rfl, rfl⟩ | ⟨h1', h2'⟩
    · rfl
    · exact absurd (e.symm.trans hdiv) h1'
    · exact absurd (e.trans hdiv) h1
    · exact h.uniq b b' m m' h2 h2' e
  · intro b y m hy hb
    rcases inv b m hb with ⟨rfl, rfl⟩ | ⟨h1, h2⟩
    · rw [hdiv, Tr.get_set_same] at hy
      simp at hy; subst hy
      exact ⟨o, by rw [hl]; exact hnewat, ho⟩
    · rw [Tr.get_set_ne _ _ h1] at hy
      obtain ⟨o', k1, k2⟩ := h.live b y m hy h2
      exact ⟨o', by rw [hold _ (blkold b y m hy h2)]; exact k1, k2.mono hext⟩
  · intro b b' y y' m m' hy hy' hd hd' hb hb' e
    rcases inv b m hb with ⟨rfl, rfl⟩ | ⟨h1, h2⟩ <;> rcases inv b' m' hb' with ⟨rfl, rfl⟩ | ⟨h1', h2'⟩
    · rfl
    · rw [Tr.get_set_ne _ _ h1'] at hy'
      have := blkold b' y' m' hy' h2'
      omega
    · rw [Tr.get_set_ne _ _ h1] at hy
      have := blkold b y m hy h2
      omega
    · rw [Tr.get_set_ne _ _ h1] at hy
      rw [Tr.get_set_ne _ _ h1'] at hy'
      exact h.inj b b' y y' m m' hy hy' hd hd' h2 h2' e
  · intro b y m hy hyw hb
    rcases inv b m hb with ⟨rfl, rfl⟩ | ⟨h1, h2⟩
    · have := h.size; omega
    · rw [Tr.get_set_ne _ _ h1] at hy
      exact h.own b y m hy hyw h2
  · intro i hi
    rw [hold i (by have := h.size; omega)]
    exact h.old i hi
end Go.Proofs.YtjbanjpklgpenaaGreatDoor.Vm
