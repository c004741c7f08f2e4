/-
  THE ABSTRACT INTERPRETER, part 8: functions that turn nothing that was there: what they answer, of values that name no block.
  THE ABSTRACT INTERPRETER, part 9: what a frame comes to, by steps; loops by forgetting.
  THE ABSTRACT INTERPRETER, part 10: calls of functions that are known by what they answer; their arguments are frozen.
  THE ABSTRACT INTERPRETER, part 11: known functions at a call.
-/
import Derived.Test.YtihloomkgpflmaaGreatDoorV10
set_option linter.unusedSimpArgs false
set_option linter.unusedVariables false
namespace Go.Proofs.YtihloomkgpflmaaGreatDoor.Vm

/-! ### values that name no block -/
def nl : Nat → Value → Bool
  | 0, _ => false
  | n + 1, v => match v with
    | .bool _ | .int _ _ | .float _ _ | .complex _ _ _ | .string _ | .pointer none | .slice none _ _ | .map none | .chan none | .nilFunc | .nilIface => true
    | .iface _ v => nl n v
    | .agg xs => xs.toList.all (nl n)
    | .tuple xs => xs.toList.all (nl n)
    | .func f xs ys => xs.toList.all (nl n) && ys.toList.all (nl n) && (plainFn f || (!xs.toList.isEmpty || !ys.toList.isEmpty))
    | _ => false
theorem nlL_move {ι κ : Iota} {n : Nat} (ih : ∀ v u, nl n v = true → VR ι v u → VR κ v u) : ∀ {xs ys : List Value}, xs.all (nl n) = true → VRL ι xs ys → VRL κ xs ys
  | _, _, _, .nil => .nil
  | _, _, h, .cons hv t => by
    simp only [List.all_cons, Bool.and_eq_true] at h
    exact .cons (ih _ _ h.1 hv) (nlL_move ih h.2 t)
theorem nl_move {ι κ : Iota} (hfz : ∀ a z, ι.fz a z → κ.fz a z) : ∀ (n : Nat) (v u : Value), nl n v = true → VR ι v u → VR κ v u
  | 0, _, _, h, _ => by cases h
  | n + 1, v, u, h, hv => by
    have ih := nl_move hfz n
    cases hv with
    | bool b => exact .bool b
    | int k n => exact .int k n
    | float k n => exact .float k n
    | complex k n m => exact .complex k n m
    | str s => exact .str s
    | ptr0 => exact .ptr0
    | ptr => simp [nl] at h
    | sl0 n c => exact .sl0 n c
    | sl => simp [nl] at h
    | slg => simp [nl] at h
    | sle => simp [nl] at h
    | map0 => exact .map0
    | map => simp [nl] at h
    | chan0 => exact .chan0
    | func hf h1 h2 =>
      simp only [nl, Bool.and_eq_true] at h
      exact .func hf (nlL_move ih h.1.1 h1) (nlL_move ih h.1.2 h2)
    | yield => simp [nl, plainFn] at h
    | nilFunc => exact .nilFunc
    | nilIface => exact .nilIface
    | iface t hv => exact .iface t (ih _ _ h hv)
    | agg hl => exact .agg (nlL_move ih h hl)
    | tuple hl => exact .tuple (nlL_move ih h hl)
    | dat n' c hc hz hl =>
      simp only [nl, List.all_cons, List.all_nil, Bool.and_eq_true, Bool.and_true] at h
      have h1 := h.1
      cases n with
      | zero => cases h1
      | succ n =>
        have ih' := nl_move hfz n
        exact .dat _ _ hc (fun i z hi => hfz _ _ (hz i z hi)) (nlL_move ih' h1 hl)
    | dat0 cs => exact .dat0 cs
    | datE cs a c => exact .datE cs a c
    | fptr hz hl =>
      simp only [nl, List.all_cons, List.all_nil, Bool.and_eq_true, Bool.and_true] at h
      have h1 := h.1.2
      cases n with
      | zero => cases h1
      | succ n =>
        have ih' := nl_move hfz n
        exact .fptr (fun i z hi => hfz _ _ (hz i z hi)) (nlL_move ih' h1 hl)
def Nl (v : Value) : Prop := ∃ n, nl n v = true
theorem Nl.move {ι κ : Iota} {v u : Value} (h : Nl v) (hv : VR ι v u) (hfz : ∀ a z, ι.fz a z → κ.fz a z) : VR κ v u := by
  obtain ⟨n, hn⟩ := h
  exact nl_move hfz n v u hn hv

/-! ### what is the call's own becomes frozen: of the blocks M there are M2 left -/
/-- The block of number n is frozen from here on. -/
def Off (M M2 : Tr Blk) (n : Nat) : Prop := ∃ x, M.get n = some x ∧ x.mine = true ∧ ∀ x2, M2.get n = some x2 → x2.wr = false
/-- What is left of blocks: as they were, or frozen. -/
def Left (M M2 : Tr Blk) : Prop := ∀ n x2, M2.get n = some x2 → ∃ x, M.get n = some x ∧ (x2 = x ∨ x.fzn = some x2)
mutual
inductive Frz (M M2 : Tr Blk) : Value → Value → Prop
  | same {v : Value} : Frz M M2 v v
  | slice {b o n c : Nat} (k : Nat) {x : Blk} {vs cs : List Value} (hm : M.get (b / 256) = some x) (hx : Off M M2 (b / 256)) (hv : x.vals = some vs) (hc : n ≤ c) (h : FrzL M M2 ((vs.drop o).take k) cs) : Frz M M2 (.slice (some ⟨b, o, none⟩) n c) (mkDat n cs)
  | nil : Frz M M2 (.slice none 0 0) (mkDat 0 [])
  | dat {n k : Nat} {cs cs' : List Value} (h : FrzL M M2 (cs.take k) cs') : Frz M M2 (mkDat n cs) (mkDat n cs')
  | iface {v v' : Value} (t : TypeId) (h : Frz M M2 v v') : Frz M M2 (.iface t v) (.iface t v')
  | agg {xs ys : List Value} (h : FrzL M M2 xs ys) : Frz M M2 (.agg ⟨xs⟩) (.agg ⟨ys⟩)
  | tuple {xs ys : List Value} (h : FrzL M M2 xs ys) : Frz M M2 (.tuple ⟨xs⟩) (.tuple ⟨ys⟩)
  | ptr {b o : Nat} (k : Nat) {x : Blk} {vs cs : List Value} (hm : M.get (b / 256) = some x) (hx : Off M M2 (b / 256)) (hv : x.vals = some vs) (h : FrzL M M2 ((vs.drop o).take k) cs) : Frz M M2 (.pointer (some ⟨b, o, none⟩)) (mkPtr cs)
  | func {fn : Fn} {xs xs' cs cs' : List Value} (hf : plainFn fn = true) (h1 : FrzL M M2 xs xs') (h2 : FrzL M M2 cs cs') : Frz M M2 (.func fn ⟨xs⟩ ⟨cs⟩) (.func fn ⟨xs'⟩ ⟨cs'⟩)
inductive FrzL (M M2 : Tr Blk) : List Value → List Value → Prop
  | nil : FrzL M M2 [] []
  | cons {v v' : Value} {xs ys : List Value} (h : Frz M M2 v v') (t : FrzL M M2 xs ys) : FrzL M M2 (v :: xs) (v' :: ys)
end
theorem FrzL.same {M M2 : Tr Blk} : ∀ {xs : List Value}, FrzL M M2 xs xs
  | [] => .nil
  | _ :: _ => .cons .same FrzL.same

def Iota.freeze (κ : Iota) (M M2 : Tr Blk) (w : World) : Iota := ⟨κ.loc, fun a z => κ.fz a z ∨ ∃ b l, Off M M2 (b / 256) ∧ κ b = some l ∧ l.blk = a.block ∧ w.cell? a = some z⟩

mutual
theorem Frz.rel {w0 : World} {κ : Iota} {M M2 : Tr Blk} {w : World} (hR : R w0 κ M w) : ∀ {v v' u : Value}, Frz M M2 v v' → VR κ v u → VR (κ.freeze M M2 w) v' u
  | _, _, _, .same, hv => hv.mono (show Ext κ (κ.freeze M M2 w) from ⟨fun _ _ h => h, fun _ _ h => Or.inl h⟩)
  | _, _, u, .slice (b := b) (o := o) (n := n) k (x := x) (vs := vs) (cs := cs) hm hx hvs hc h, hv => by
    have main : ∀ (l : Loc) (c : Nat), κ b = some l → n ≤ c → u = .slice (some ⟨l.blk, l.off o, none⟩) n c → VR (κ.freeze M M2 w) (mkDat n cs) u := by
      intro l c hι hn hu
      subst hu
      obtain ⟨arr, t, fz, mid, g1, g2, g3⟩ := hR.view hm hι hvs
      have hlen := g2.length
      refine .dat n c hn (zs := (mid.drop o).take k) (fun i z hi => ?_) (FrzL.rel hR h ((g2.drop o).take k))
      refine .inr ⟨b, l, hx, hι, rfl, ?_⟩
      have hik : i < k := by
        have := (List.getElem?_eq_some_iff.1 hi).1
        rw [List.length_take] at this
        omega
      rw [List.getElem?_take_of_lt hik, List.getElem?_drop] at hi
      have hoi : o + i < vs.length := by
        have := (List.getElem?_eq_some_iff.1 hi).1
        omega
      rw [Loc.off_add, cell_view g1, g3 (o + i) hoi]
      exact hi
    cases hv with
    | sl _ c hι hg hb => exact main _ _ hι hc (by unfold Loc.off; rw [hg])
    | slg _ c C hι hg hb h0 hn ho hcc hC => exact main _ C hι (by omega) (by unfold Loc.off; rw [hg])
    | sle a c hι hg hb => exact .datE _ _ _
  | _, _, _, .nil, hv => by
    cases hv
    exact .dat0 _
  | _, _, _, .dat (n := n) (k := k) h, hv => by
    cases hv with
    | dat _ c hc hz hl =>
      rename_i zs b o
      refine .dat n c hc (zs := zs.take k) (fun i z hi => Or.inl (hz i z ?_)) (FrzL.rel hR h (hl.take k))
      have hik : i < k := by
        have := (List.getElem?_eq_some_iff.1 hi).1
        rw [List.length_take] at this
        omega
      rwa [List.getElem?_take_of_lt hik] at hi
    | dat0 => exact .dat0 _
    | datE => exact .datE _ _ _
    | func hf => simp [plainFn] at hf
  | _, _, _, .iface t h, hv => by
    cases hv with
    | iface _ hv => exact .iface t (Frz.rel hR h hv)
  | _, _, _, .agg h, hv => by
    cases hv with
    | agg hl => exact .agg (FrzL.rel hR h hl)
  | _, _, _, .tuple h, hv => by
    cases hv with
    | tuple hl => exact .tuple (FrzL.rel hR h hl)
  | _, _, _, .ptr (b := b) (o := o) k (x := x) (vs := vs) (cs := cs) hm hx hvs h, hv => by
    cases hv with
    | ptr hι =>
      rename_i l
      obtain ⟨arr, t, fz, mid, g1, g2, g3⟩ := hR.view hm hι hvs
      have hlen := g2.length
      refine .fptr (zs := (mid.drop o).take k) (fun i z hi => ?_) (FrzL.rel hR h ((g2.drop o).take k))
      refine .inr ⟨b, l, hx, hι, rfl, ?_⟩
      have hik : i < k := by
        have := (List.getElem?_eq_some_iff.1 hi).1
        rw [List.length_take] at this
        omega
      rw [List.getElem?_take_of_lt hik, List.getElem?_drop] at hi
      have hoi : o + i < vs.length := by
        have := (List.getElem?_eq_some_iff.1 hi).1
        omega
      rw [Loc.off_add, cell_view g1, g3 (o + i) hoi]
      exact hi
  | _, _, _, .func hf h1 h2, hv => by
    cases hv with
    | func hf' g1 g2 => exact .func hf (FrzL.rel hR h1 g1) (FrzL.rel hR h2 g2)
    | yield => simp [plainFn] at hf
    | dat => simp [plainFn] at hf
    | dat0 => simp [plainFn] at hf
    | datE => simp [plainFn] at hf
    | fptr => simp [plainFn] at hf
theorem FrzL.rel {w0 : World} {κ : Iota} {M M2 : Tr Blk} {w : World} (hR : R w0 κ M w) : ∀ {xs ys us : List Value}, FrzL M M2 xs ys → VRL κ xs us → VRL (κ.freeze M M2 w) ys us
  | _, _, _, .nil, .nil => .nil
  | _, _, _, .cons h t, .cons hv hl => .cons (Frz.rel hR h hv) (FrzL.rel hR t hl)
end

theorem Blk.live_of_mine {x : Blk} (h : x.mine = true) : x.isDead = false := by cases x <;> simp_all [Blk.isDead, Blk.mine]
theorem Blk.fzn_mine {x x2 : Blk} (h : x.fzn = some x2) : x.mine = true ∧ x2.wr = false ∧ x2.mine = true := by
  unfold Blk.fzn at h
  split at h <;> simp at h <;> subst h <;> simp [Blk.mine, Blk.wr]
theorem BR.fzn {ι : Iota} {b : Nat} {x x2 : Blk} {l : Loc} {o : Obj} (h : BR ι b x l o) (hx : x.fzn = some x2) : BR ι b x2 l o := by
  unfold Blk.fzn at hx
  split at hx <;> simp at hx <;> subst hx
  · cases h with
    | cells hg h => exact .frz (pre := []) (post := []) (by simp) (by simp [Loc.off, hg]) h
  · cases h with
    | grow hb hg ha hp h hc => exact .frz ha (by simp [Loc.off, hg, hp]) h
  · exact h
theorem freeze_R {w0 : World} {κ : Iota} {M M2 : Tr Blk} {w : World} (hR : R w0 κ M w) (hl : Left M M2) : R w0 (κ.freeze M M2 w) M2 w := by
  have hex : Ext κ (κ.freeze M M2 w) := ⟨fun _ _ h => h, fun _ _ h => .inl h⟩
  refine ⟨hR.kinds, hR.uniq, fun b x l hm hi => ?_, fun b b' x x' l l' hm hm' hd hd' hi hi' e => ?_, fun b x l hm hw hi => ?_, hR.size, hR.old, hR.os, hR.output, hR.tape, fun a v ha => ⟨?_, fun b x l hm hw hi => ?_⟩⟩
  · obtain ⟨y, h1, h2⟩ := hl _ _ hm
    obtain ⟨o, g1, g2⟩ := hR.live b y l h1 hi
    refine ⟨o, g1, ?_⟩
    rcases h2 with rfl | h2
    · exact g2.mono hex
    · exact (g2.fzn h2).mono hex
  · obtain ⟨y, h1, h2⟩ := hl _ _ hm
    obtain ⟨y', h1', h2'⟩ := hl _ _ hm'
    refine hR.inj b b' y y' l l' h1 h1' ?_ ?_ hi hi' e
    · rcases h2 with rfl | h2
      · exact hd
      · exact Blk.live_of_mine (Blk.fzn_mine h2).1
    · rcases h2' with rfl | h2'
      · exact hd'
      · exact Blk.live_of_mine (Blk.fzn_mine h2').1
  · obtain ⟨y, h1, h2⟩ := hl _ _ hm
    refine hR.own b y l h1 ?_ hi
    rcases h2 with rfl | h2
    · exact hw
    · exact (Blk.fzn_mine h2).1
  · rcases ha with h | ⟨b, l, _, _, _, h⟩
    · exact (hR.fz a v h).1
    · exact h
  · obtain ⟨y, h1, h2⟩ := hl _ _ hm
    have hy : x = y := by
      rcases h2 with h2 | h2
      · exact h2
      · rw [(Blk.fzn_mine h2).2.1] at hw; cases hw
    subst hy
    rcases ha with h | ⟨bd, ld, ⟨xd, g1, g2, g3⟩, g4, g5, _⟩
    · exact (hR.fz a v h).2 b x l h1 hw hi
    · intro e
      have := hR.inj b bd x xd l ld h1 g1 (Blk.live_of_mine (Blk.mine_of_wr hw)) (Blk.live_of_mine g2) hi g4 (by omega)
      subst this
      have := g3 x hm
      rw [hw] at this; cases this

/-! ### functions by what they answer -/
/-- The frame comes to v, which names no block, and turns nothing that was there. -/
def PS (P : Program) (G : Nat) (tabs : List (Nat × List Value)) (fr : Fr) (v : Value) : Prop :=
  ∀ (w0 : World), Laid G tabs w0 → ∀ (ι : Iota) (b : Frame) (a : Act) (mode : FrameMode) (cs : List Frame) (w : World), R w0 ι fr.M w → GOk G ι → FrR P ι fr b a mode cs → FreshU ι fr.nx →
    ∃ κ w', R w0 κ .nil w' ∧ (∀ a z, ι.fz a z → κ.fz a z) ∧ (∀ a z, κ.fz a z → ι.fz a z ∨ w0.heap.size ≤ a.block) ∧ Fin P κ b fr.dk fr.rnd (lone (atM b a fr.todo mode) cs w) cs w' (.ret v .run .nil 0)

theorem Fin.value {P : Program} {κ κ' : Iota} {b : Frame} {m : Machine} {cs : List Frame} {w' : World} {v v' : Value} {up up' : FrameMode} {M M' : Tr Blk} {nx nx' : Nat} (h : Fin P κ b false none m cs w' (.ret v up M nx)) (hv : ∀ u, VR κ v u → VR κ' v' u) : Fin P κ' b false none m cs w' (.ret v' up' M' nx') := by
  cases h with
  | ret hr hs ha hfn hres hv0 hcs => exact .ret hr hs ha hfn hres (hv _ hv0) hcs
  | round hr => exact absurd rfl hr

theorem PS.of_sound {P : Program} {G : Nat} {tabs : List (Nat × List Value)} {fr : Fr} {v0 v : Value} {up : FrameMode} {M : Tr Blk} {nx : Nat} (h : ∀ w0, Laid G tabs w0 → SoundT P G w0 fr (.ret v0 up M nx)) (hdk : fr.dk = false) (hrnd : fr.rnd = none) (hf : Frz M .nil v0 v) (h0 : ∀ n x, fr.M.get n = some x → x.mine = false) : PS P G tabs fr v := by
  intro w0 hl ι b a mode cs w hR hG hfr hfu
  obtain ⟨κ, w', p1, p2⟩ := (h w0 hl).sound ι b a mode cs w hR hG hfr hfu (fun e => absurd hrnd e)
  refine ⟨κ.freeze M .nil w', w', freeze_R p1.rel (fun n x2 h => by simp [Tr.get_nil] at h), fun a z ha => .inl (p1.ext.fz a z ha), fun a z ha => ?_, ?_⟩
  · rcases ha with ha | ⟨b', l, ⟨x, g1, g2, _⟩, g3, g4, g5⟩
    · rcases p1.fzn a z ha with e | e | ⟨e, _⟩
      · exact .inl e
      · exact .inr (Nat.le_trans hR.size e)
      · exact .inr e
    · right
      have := p1.rel.own b' x l g1 g2 g3
      omega
  · rw [hdk, hrnd] at p2 ⊢
    exact Fin.value p2 (fun u hu => Frz.rel p1.rel hf hu)

/-- Function f, called with as, answers v. -/
def PureOk (P : Program) (G : Nat) (tabs : List (Nat × List Value)) (f : FuncId) (as : List Value) (v : Value) : Prop :=
  (∀ x ∈ as, Nl x) ∧ Nl v ∧ ∃ fr, enterFr P f as false .run (Mof tabs) G = some fr ∧ PS P G tabs fr v

theorem PureOk.sound {P : Program} {G : Nat} {tabs : List (Nat × List Value)} {w0 : World} (hl : Laid G tabs w0) {f : FuncId} {as : List Value} {v : Value} (h : PureOk P G tabs f as v) (M : Tr Blk) (nx : Nat) :
    ∃ fr, enterFr P f as false .run M nx = some fr ∧ Sound P G w0 fr (.ret v .run M nx) := by
  obtain ⟨hna, hnv, fr0, hfr0, hps⟩ := h
  have e0 : enterFr P f as false .run M nx = some { fr0 with M := M, nx := nx } ∧ fr0.dk = false ∧ fr0.rnd = none ∧ fr0.M = Mof tabs ∧ fr0.nx = G ∧ fr0.T = putArgs as 0 .nil ∧ fr0.ds = [] ∧ fr0.mode = .run := by
    unfold enterFr at hfr0 ⊢
    split at hfr0
    · split at hfr0
      · simp at hfr0; subst hfr0; exact ⟨rfl, rfl, rfl, rfl, rfl, rfl, rfl, rfl⟩
      · cases hfr0
    · cases hfr0
  obtain ⟨e1, e2, e3, e4, e5, e6, e7, e8⟩ := e0
  refine ⟨_, e1, fun ι b a mode cs w hR hG hfr hf hno => ?_⟩
  have hl' : Laid G tabs w := by
    intro n vs hm
    obtain ⟨h1, h2, arr, ty, h3, h4⟩ := hl n vs hm
    exact ⟨h1, h2, arr, ty, by rw [hR.old n ((Array.getElem?_eq_some_iff.1 h3).1)]; exact h3, h4⟩
  have hRc : R w (iotaZ G ι.fz) (Mof tabs) w := R_startZ hl' (fun a z ha => (hR.fz a z ha).1)
  have htm : TmR (iotaZ G ι.fz) fr0.nt fr0.T a.tmps := by
    have h1 := hfr.tm
    refine ⟨h1.1, fun t x hx => ?_⟩
    obtain ⟨u, hu, hv⟩ := h1.2 t x hx
    refine ⟨u, hu, ?_⟩
    rw [e6, putArgs_get] at hx
    simp only [Nat.not_lt_zero, if_false, Nat.sub_zero] at hx
    split at hx
    · rename_i y hy
      simp at hx; subst hx
      exact (hna y (List.mem_of_getElem? hy)).move hv (fun _ _ h => h)
    · simp [Tr.get_nil] at hx
  have hfr' : FrR P (iotaZ G ι.fz) fr0 b a mode cs := by
    refine ⟨hfr.fn, htm, ?_, ?_, hfr.kind, ?_, ?_⟩
    · have := hfr.ds
      simp only [e7] at this ⊢
      cases hd : a.defers with
      | nil => exact .nil
      | cons x y => rw [hd] at this; cases this
    · have := hfr.mode
      simp only [e8] at this ⊢
      cases this
      exact .run
    · have := hfr.rnd
      simp only [e3] at this ⊢
      cases hb : b.roundOf with
      | none => trivial
      | some r => rw [hb] at this; exact this.elim
    · intro hd
      rw [e2] at hd; cases hd
  obtain ⟨κc, w', g1, g2, g3, g4⟩ := hps w hl' (iotaZ G ι.fz) b a mode cs w (by rw [e4]; exact hRc) GOk_iotaZ hfr' (by rw [e5]; exact FreshU_iotaZ)
  have hex : Ext ι ⟨ι.loc, κc.fz⟩ := ⟨fun _ _ h => h, g2⟩
  have hlt : ∀ b x l, M.get (b / 256) = some x → ι b = some l → l.blk < w.heap.size := by
    intro b x l hm hi
    obtain ⟨o, h1, _⟩ := hR.live b x l hm hi
    exact (Array.getElem?_eq_some_iff.1 h1).1
  refine ⟨⟨ι.loc, κc.fz⟩, w', ⟨hex, fun b l h1 h2 => ?_, fun n hn => .inl hn, Nat.le_refl _, ⟨hR.kinds, hR.uniq, fun b x l hm hi => ?_, hR.inj, hR.own, Nat.le_trans hR.size g1.size, fun i hi => ?_, g1.os.trans hR.os, g1.output.trans hR.output, g1.tape.trans hR.tape, fun a z ha => ⟨(g1.fz a z ha).1, fun b x l hm hw hi => ?_⟩⟩, fun c hc _ => g1.old c hc, g1.size, fun a z ha => ?_⟩, ?_⟩
  · have h2' : ι b = some l := h2
    rw [h1] at h2'; cases h2'
  · obtain ⟨o, h1, h2⟩ := hR.live b x l hm hi
    exact ⟨o, by rw [g1.old _ (hlt b x l hm hi)]; exact h1, h2.mono hex⟩
  · rw [g1.old i (Nat.lt_of_lt_of_le hi hR.size)]
    exact hR.old i hi
  · rcases g3 a z ha with e | e
    · exact (hR.fz a z e).2 b x l hm hw hi
    · have := hlt b x l hm hi
      omega
  · rcases g3 a z ha with e | e
    · exact .inl e
    · exact .inr (.inl e)
  · rw [e2, e3] at g4
    show Fin P _ b fr0.dk fr0.rnd _ cs w' _
    rw [e2, e3]
    exact Fin.value g4 (fun u hu => hnv.move hu (fun _ _ h => h))

/-- Functions by what they answer, beside what is known. -/
noncomputable def Exts.pure (X : Exts) (f : FuncId) (e : List Value → Option Value) : Exts := ⟨X.fn, X.sm, fun g => bif Nat.beq g f then some e else X.pf g⟩
theorem XOk.pure {P : Program} {G : Nat} {w0 : World} {tabs : List (Nat × List Value)} (hl : Laid G tabs w0) {X : Exts} (h : XOk P G w0 X) {f : FuncId} {e : List Value → Option Value} (he : ∀ as v, e as = some v → PureOk P G tabs f as v) : XOk P G w0 (X.pure f e) := by
  refine ⟨h.1, h.2.1, fun g e' as v hg hv M nx => ?_⟩
  have hg' : (bif Nat.beq g f then some e else X.pf g) = some e' := hg
  cases hb : Nat.beq g f with
  | true =>
    rw [hb] at hg'; simp at hg'; subst hg'
    have := Nat.eq_of_beq_eq_true hb
    subst this
    exact (he as v hv).sound hl M nx
  | false =>
    rw [hb] at hg'
    exact h.2.2 g e' as v hg' hv M nx

/-- What the interpreter answers of a call by itself. -/
theorem pure_of_run {P : Program} {X : Exts} (hm : P.follows .mixedOrders = true) {G : Nat} {tabs : List (Nat × List Value)} (hX : ∀ w0, Laid G tabs w0 → XOk P G w0 X) (hF : FOk P) {f : FuncId} {as : List Value} {fr : Fr} {n : Nat} {v0 v : Value} {up : FrameMode} {M : Tr Blk} {nx : Nat}
    (hna : ∀ x ∈ as, Nl x) (hnv : Nl v) (hfr : enterFr P f as false .run (Mof tabs) G = some fr) (hr : vrun P X G n fr = some (.ret v0 up M nx)) (hf : Frz M .nil v0 v) : PureOk P G tabs f as v := by
  refine ⟨hna, hnv, fr, hfr, ?_⟩
  have e0 : fr.dk = false ∧ fr.rnd = none ∧ fr.M = Mof tabs := by
    unfold enterFr at hfr
    split at hfr
    · split at hfr
      · simp at hfr; subst hfr; exact ⟨rfl, rfl, rfl⟩
      · cases hfr
    · cases hfr
  refine PS.of_sound (fun w0 hl => vrun_sound (hX w0 hl) hF (draws hm (hX w0 hl) hF) n fr _ hr) e0.1 e0.2.1 hf (fun k x hx => ?_)
  rw [e0.2.2] at hx
  obtain ⟨vs, _, rfl⟩ := Mof_get hx
  rfl
end Go.Proofs.YtihloomkgpflmaaGreatDoor.Vm

namespace Go.Proofs.YtihloomkgpflmaaGreatDoor.Vm

/-- The frame comes to the nameless value v, and turns nothing that was there. -/
def PT (P : Program) (G : Nat) (tabs : List (Nat × List Value)) (fr : Fr) (v : Value) : Prop :=
  ∀ (w0 : World), Laid G tabs w0 → ∀ (ι : Iota) (b : Frame) (a : Act) (mode : FrameMode) (cs : List Frame) (w : World) (todo : List Item), St P G w0 fr ι b a mode cs w todo →
    ∃ κ w', R w0 κ .nil w' ∧ (∀ a z, ι.fz a z → κ.fz a z) ∧ (∀ a z, κ.fz a z → ι.fz a z ∨ w0.heap.size ≤ a.block) ∧ Fin P κ b fr.dk fr.rnd (lone (atM b a todo mode) cs w) cs w' (.ret v .run .nil 0)

variable {P : Program} {G : Nat} {tabs : List (Nat × List Value)}

theorem PT.ps {fr : Fr} {v : Value} (h : PT P G tabs fr v) (hr : fr.rnd = none) : PS P G tabs fr v :=
  fun w0 hl ι b a mode cs w h1 h2 h3 h4 => h w0 hl ι b a mode cs w fr.todo ⟨h1, h2, h3, h4, fun e => absurd hr e, fun _ => rfl⟩

/-- Blocks that can be found in M are the call's own, or were there. -/
theorem fz_of_post {w0 : World} {ι κ : Iota} {M M' : Tr Blk} {nx nx' : Nat} {w w' : World} (hs : w0.heap.size ≤ w.heap.size) (h : Post w0 ι M nx w κ M' nx' w') : ∀ a z, κ.fz a z → ι.fz a z ∨ w0.heap.size ≤ a.block := fun a z ha => by
  rcases h.fzn a z ha with e | e | ⟨e, _⟩
  · exact .inl e
  · exact .inr (Nat.le_trans hs e)
  · exact .inr e

/-- By a step. -/
theorem PT.prog {fr fr' : Fr} {v : Value} (h : ∀ w0, Laid G tabs w0 → Prog P G w0 fr fr') (g : PT P G tabs fr' v) : PT P G tabs fr v := by
  intro w0 hl ι b a mode cs w todo st
  obtain ⟨hd, hr, h⟩ := h w0 hl
  obtain ⟨κ, a', mode', cs', w', todo', p1, p2, p3, p4, p5⟩ := h ι b a mode cs w todo st
  have hcs : cs ≠ [] → cs' ≠ [] := by
    intro hc
    cases hdk : fr.dk with
    | false => rw [hdk] at p3; simp only [UpTo] at p3; rw [p3]; exact hc
    | true =>
      rw [hdk] at p3
      obtain ⟨c, rest, m, h1, h2, h3⟩ := p3
      rw [h2]; simp
  obtain ⟨μ, w2, q0, q1, q2, q3⟩ := g w0 hl κ b a' mode' cs' w' todo' ⟨p1.rel, fun g hg => p1.ext _ _ (st.gok g hg), p2, p1.freshU st.fresh, fun hx => by rw [hr] at hx; rw [hd]; exact ⟨(st.rc hx).1, hcs (st.rc hx).2⟩, p4⟩
  refine ⟨μ, w2, q0, fun a z hz => q1 a z (p1.ext.fz a z hz), fun a z hz => ?_, ?_⟩
  · rcases q2 a z hz with e | e
    · exact fz_of_post st.rel.size p1 a z e
    · exact .inr e
  · rw [hd, hr] at q3
    cases q3 with
    | ret hr0 hs ha hfn hres hv hcs2 =>
      refine .ret hr0 (p5.trans hs) ha hfn hres hv ?_
      cases hdk : fr.dk with
      | false =>
        rw [hdk] at hcs2 p3
        simp only [UpTo] at hcs2 p3 ⊢
        rw [hcs2, p3]
      | true =>
        rw [hdk] at hcs2 p3
        obtain ⟨c, rest, m, h1, h2, h3⟩ := p3
        obtain ⟨c2, rest2, m2, h4, h5, h6⟩ := hcs2
        rw [h2] at h4
        injection h4 with h7 h8
        subst h7; subst h8
        exact ⟨c, rest, m2, h1, h5, h6⟩
    | round hr0 hs hv =>
      refine .round hr0 (fun c rest hc => p5.trans (hs c rest ?_)) hv
      have := (st.rc hr0).1
      rw [this] at p3
      simp only [UpTo] at p3
      rw [p3, hc]

/-- At the end. -/
theorem PT.done {fr : Fr} {v0 v : Value} {up : FrameMode} {M : Tr Blk} {nx : Nat} (h : ∀ w0, Laid G tabs w0 → SoundT P G w0 fr (.ret v0 up M nx)) (hdk : fr.dk = false) (hrnd : fr.rnd = none) (hf : Frz M .nil v0 v) : PT P G tabs fr v := by
  intro w0 hl ι b a mode cs w todo st
  obtain ⟨κ, w', p1, p2⟩ := h w0 hl ι b a mode cs w todo st
  refine ⟨κ.freeze M .nil w', w', freeze_R p1.rel (fun n x2 h => by simp [Tr.get_nil] at h), fun a z ha => .inl (p1.ext.fz a z ha), fun a z ha => ?_, ?_⟩
  · rcases ha with ha | ⟨b', l, ⟨x, g1, g2, _⟩, g3, g4, g5⟩
    · exact fz_of_post st.rel.size p1 a z ha
    · right
      have := p1.rel.own b' x l g1 g2 g3
      omega
  · rw [hdk, hrnd] at p2 ⊢
    exact Fin.value p2 (fun u hu => Frz.rel p1.rel hf hu)

/-- Of what a frame knows some is forgotten, some of what is its own is frozen. -/
theorem PT.weaken {fr : Fr} {T2 : Tr Value} {M2 : Tr Blk} {v : Value} (hT : ∀ t v', T2.get t = some v' → ∃ v, fr.T.get t = some v ∧ Frz fr.M M2 v v') (hl : Left fr.M M2) (g : PT P G tabs { fr with T := T2, M := M2 } v) : PT P G tabs fr v := by
  intro w0 hlaid ι b a mode cs w todo st
  have hex : Ext ι (ι.freeze fr.M M2 w) := ⟨fun _ _ h => h, fun _ _ h => .inl h⟩
  have hR := freeze_R st.rel hl
  obtain ⟨μ, w2, q0, q1, q2, q3⟩ := g w0 hlaid (ι.freeze fr.M M2 w) b a mode cs w todo ⟨hR, fun g hg => hex _ _ (st.gok g hg),
    ⟨st.fm.fn, ⟨st.fm.tm.1, fun t x hx => by
      obtain ⟨y, h1, h2⟩ := hT t x hx
      obtain ⟨u, h3, h4⟩ := st.fm.tm.2 t y h1
      exact ⟨u, h3, h2.rel st.rel h4⟩⟩, st.fm.ds.mono hex, st.fm.mode.mono hex, st.fm.kind, st.fm.rnd.mono hex, st.fm.up.mono hex⟩,
    fun c hc => st.fresh c hc, st.rc, st.td⟩
  refine ⟨μ, w2, q0, fun a z hz => q1 a z (.inl hz), fun a z hz => ?_, q3⟩
  rcases q2 a z hz with e | e
  · rcases e with e | ⟨b', l, ⟨x, g1, g2, _⟩, g3, g4, g5⟩
    · exact .inl e
    · right
      have := st.rel.own b' x l g1 g2 g3
      omega
  · exact .inr e
end Go.Proofs.YtihloomkgpflmaaGreatDoor.Vm

namespace Go.Proofs.YtihloomkgpflmaaGreatDoor.Vm

/-- A value by its contents. -/
noncomputable def frzV : Nat → Tr Blk → Value → Value
  | 0, _, v => v
  | n + 1, M, v => match v with
    | .slice (some ⟨b, o, none⟩) k c => (match M.get (b / 256) with
      | some x => (match x.mine && Nat.ble k c, x.vals with
        | true, some vs => mkDat k ((vs.drop o).map (frzV n M))
        | _, _ => v)
      | none => v)
    | .slice none 0 0 => mkDat 0 []
    | .iface t v => .iface t (frzV n M v)
    | .agg xs => .agg ⟨xs.toList.map (frzV n M)⟩
    | .tuple xs => .tuple ⟨xs.toList.map (frzV n M)⟩
    | .pointer (some ⟨b, o, none⟩) => (match M.get (b / 256) with
      | some x => (match x.mine, x.vals with
        | true, some vs => mkPtr ((vs.drop o).map (frzV n M))
        | _, _ => v)
      | none => v)
    | .func f xs ys => (match plainFn f with
      | true => .func f ⟨xs.toList.map (frzV n M)⟩ ⟨ys.toList.map (frzV n M)⟩
      | false => v)
    | v => v
/-- The blocks that it shows. -/
noncomputable def offs : Nat → Tr Blk → Value → List Nat
  | 0, _, _ => []
  | n + 1, M, v => match v with
    | .slice (some ⟨b, o, none⟩) _ _ => (match M.get (b / 256) with
      | some x => (match x.vals with
        | some vs => b / 256 :: (vs.drop o).flatMap (offs n M)
        | none => [])
      | none => [])
    | .iface _ v => offs n M v
    | .agg xs => xs.toList.flatMap (offs n M)
    | .tuple xs => xs.toList.flatMap (offs n M)
    | .pointer (some ⟨b, o, none⟩) => (match M.get (b / 256) with
      | some x => (match x.vals with
        | some vs => b / 256 :: (vs.drop o).flatMap (offs n M)
        | none => [])
      | none => [])
    | .func f xs ys => (match plainFn f with
      | true => xs.toList.flatMap (offs n M) ++ ys.toList.flatMap (offs n M)
      | false => [])
    | _ => []
/-- These are frozen. -/
noncomputable def offM (M : Tr Blk) : List Nat → Tr Blk
  | [] => M
  | n :: ns => match M.get n with
    | some x => (match x.fzn with
      | some y => offM (M.set n y) ns
      | none => offM M ns)
    | none => offM M ns

theorem Blk.fzn_self {x y : Blk} (h : x.fzn = some y) : y.fzn = some y := by
  unfold Blk.fzn at h
  split at h <;> simp at h <;> subst h <;> rfl
theorem offM_get : ∀ (ns : List Nat) (M : Tr Blk) (n : Nat), (offM M ns).get n = M.get n ∨ ∃ x y, M.get n = some x ∧ x.fzn = some y ∧ (offM M ns).get n = some y
  | [], _, _ => .inl rfl
  | m :: ns, M, n => by
    unfold offM
    split
    · rename_i x hx
      split
      · rename_i y hy
        rcases offM_get ns (M.set m y) n with e | ⟨x', y', h1, h2, h3⟩
        · by_cases hmn : m = n
          · subst hmn
            rw [Tr.get_set_same] at e
            exact .inr ⟨x, y, hx, hy, e⟩
          · rw [Tr.get_set_ne _ _ (by omega)] at e
            exact .inl e
        · by_cases hmn : m = n
          · subst hmn
            rw [Tr.get_set_same] at h1
            simp at h1; subst h1
            rw [Blk.fzn_self hy] at h2
            simp at h2; subst h2
            exact .inr ⟨x, y, hx, hy, h3⟩
          · rw [Tr.get_set_ne _ _ (by omega)] at h1
            exact .inr ⟨x', y', h1, h2, h3⟩
      · exact offM_get ns M n
    · exact offM_get ns M n
theorem offM_left (M : Tr Blk) (ns : List Nat) : Left M (offM M ns) := fun n x2 h => by
  rcases offM_get ns M n with e | ⟨x, y, h1, h2, h3⟩
  · rw [e] at h; exact ⟨x2, h, .inl rfl⟩
  · rw [h3] at h; simp at h; subst h; exact ⟨x, h1, .inr h2⟩
theorem Blk.fzn_of_mine {x : Blk} {vs : List Value} (h : x.mine = true) (hv : x.vals = some vs) : x.fzn = some (.frz vs) := by
  cases x with
  | cells ro us => cases ro <;> simp_all [Blk.mine, Blk.vals, Blk.fzn]
  | grow us => simp_all [Blk.vals, Blk.fzn]
  | frz us => simp_all [Blk.vals, Blk.fzn]
  | _ => simp_all [Blk.vals]
theorem offM_off : ∀ (ns : List Nat) (M : Tr Blk) (n : Nat) (x : Blk) (vs : List Value), n ∈ ns → M.get n = some x → x.mine = true → x.vals = some vs → (offM M ns).get n = some (.frz vs)
  | m :: ns, M, n, x, vs, hn, hx, hm, hv => by
    unfold offM
    by_cases hmn : m = n
    · subst hmn
      have e := Blk.fzn_of_mine hm hv
      simp only [hx, e]
      rcases offM_get ns (M.set m (.frz vs)) m with e1 | ⟨x', y', h1, h2, h3⟩
      · rw [e1, Tr.get_set_same]
      · rw [Tr.get_set_same] at h1
        simp at h1; subst h1
        simp [Blk.fzn] at h2; subst h2
        exact h3
    · have hn' : n ∈ ns := by
        rcases List.mem_cons.1 hn with e | e
        · exact absurd e.symm hmn
        · exact e
      split
      · rename_i x' hx'
        split
        · rename_i y hy
          exact offM_off ns _ n x vs hn' (by rw [Tr.get_set_ne _ _ (by omega)]; exact hx) hm hv
        · exact offM_off ns M n x vs hn' hx hm hv
      · exact offM_off ns M n x vs hn' hx hm hv

theorem nl_mono : ∀ (n : Nat) (v : Value), nl n v = true → nl (n + 1) v = true
  | 0, _, h => by cases h
  | n + 1, v, h => by
    have ih := nl_mono n
    have ihl : ∀ xs : List Value, xs.all (nl n) = true → xs.all (nl (n + 1)) = true := fun xs hx => List.all_eq_true.2 fun y hy => ih y (List.all_eq_true.1 hx y hy)
    unfold nl at h ⊢
    split at h <;> simp_all
theorem nl_le {n m : Nat} (h : n ≤ m) {v : Value} (hv : nl n v = true) : nl m v = true := by
  induction h with
  | refl => exact hv
  | step _ ih => exact nl_mono _ _ ih
theorem Nl.all : ∀ {xs : List Value}, (∀ v ∈ xs, Nl v) → ∃ n, xs.all (nl n) = true
  | [], _ => ⟨0, rfl⟩
  | v :: xs, h => by
    obtain ⟨n, hn⟩ := h v List.mem_cons_self
    obtain ⟨m, hm⟩ := Nl.all (xs := xs) fun u hu => h u (List.mem_cons_of_mem _ hu)
    refine ⟨max n m, ?_⟩
    simp only [List.all_cons, Bool.and_eq_true]
    exact ⟨nl_le (Nat.le_max_left ..) hn, List.all_eq_true.2 fun y hy => nl_le (Nat.le_max_right ..) (List.all_eq_true.1 hm y hy)⟩
theorem nl_down : ∀ {n : Nat} {xs : List Value}, xs.all (nl n) = true → ∀ v ∈ xs, Nl v := fun h v hv => ⟨_, List.all_eq_true.1 h v hv⟩

/-- A value whose contents name no block is frozen by its contents. -/
theorem frz_of (M M2 : Tr Blk) : ∀ (k : Nat) (v : Value), Nl (frzV k M v) → (∀ n ∈ offs k M v, ∀ x vs, M.get n = some x → x.mine = true → x.vals = some vs → ∀ x2, M2.get n = some x2 → x2.wr = false) → Frz M M2 v (frzV k M v)
  | 0, _, _, _ => .same
  | k + 1, v, h, hoff => by
    have ih := frz_of M M2 k
    have ihl : ∀ xs : List Value, (∀ u ∈ xs.map (frzV k M), Nl u) → (∀ n ∈ xs.flatMap (offs k M), ∀ x vs, M.get n = some x → x.mine = true → x.vals = some vs → ∀ x2, M2.get n = some x2 → x2.wr = false) → FrzL M M2 xs (xs.map (frzV k M)) := by
      intro xs
      induction xs with
      | nil => intro _ _; exact .nil
      | cons y ys ihy =>
        intro hn ho
        exact .cons (ih y (hn _ List.mem_cons_self) fun n hn' => ho n (List.mem_flatMap.2 ⟨y, List.mem_cons_self, hn'⟩))
          (ihy (fun u hu => hn u (List.mem_cons_of_mem _ hu)) fun n hn' => ho n (by
            obtain ⟨z, hz, hz'⟩ := List.mem_flatMap.1 hn'
            exact List.mem_flatMap.2 ⟨z, List.mem_cons_of_mem _ hz, hz'⟩))
    have hcells : ∀ (m : Nat) (cs : List Value), Nl (mkDat m cs) → ∀ u ∈ cs, Nl u := by
      rintro m cs ⟨n, hn⟩
      cases n with
      | zero => cases hn
      | succ n =>
        simp only [nl, List.all_cons, List.all_nil, Bool.and_eq_true, Bool.and_true] at hn
        cases n with
        | zero => exact absurd hn.1 (by simp [nl])
        | succ n =>
          have := hn.1
          simp only [nl] at this
          exact nl_down this
    unfold frzV at h ⊢
    split at h
    · rename_i b o m c
      split at h
      · rename_i x hx
        split at h
        · rename_i vs hmc hvs
          simp only [Bool.and_eq_true, Nat.ble_eq] at hmc
          have ho : ∀ n ∈ b / 256 :: (vs.drop o).flatMap (offs k M), ∀ x vs, M.get n = some x → x.mine = true → x.vals = some vs → ∀ x2, M2.get n = some x2 → x2.wr = false := by
            have : offs (k + 1) M (.slice (some ⟨b, o, none⟩) m c) = b / 256 :: (vs.drop o).flatMap (offs k M) := by
              simp only [offs, hx, hvs]
            rw [← this]; exact hoff
          refine .slice vs.length hx ⟨x, hx, hmc.1, fun x2 h2 => ho _ List.mem_cons_self x vs hx hmc.1 hvs x2 h2⟩ hvs hmc.2 ?_
          · rw [List.take_of_length_le (by rw [List.length_drop]; omega)]
            exact ihl _ (hcells _ _ h) fun n hn => ho n (List.mem_cons_of_mem _ hn)
        · exact .same
      · exact .same
    · exact .nil
    · rename_i t u
      refine .iface t (ih u ?_ hoff)
      obtain ⟨n, hn⟩ := h
      cases n with
      | zero => cases hn
      | succ n => exact ⟨n, hn⟩
    · rename_i xs
      refine .agg (ihl _ ?_ hoff)
      obtain ⟨n, hn⟩ := h
      cases n with
      | zero => cases hn
      | succ n => exact nl_down hn
    · rename_i xs
      refine .tuple (ihl _ ?_ hoff)
      obtain ⟨n, hn⟩ := h
      cases n with
      | zero => cases hn
      | succ n => exact nl_down hn
    · rename_i b o
      split at h
      · rename_i x hx
        split at h
        · rename_i vs hmc hvs
          have ho : ∀ n ∈ b / 256 :: (vs.drop o).flatMap (offs k M), ∀ x vs, M.get n = some x → x.mine = true → x.vals = some vs → ∀ x2, M2.get n = some x2 → x2.wr = false := by
            have : offs (k + 1) M (.pointer (some ⟨b, o, none⟩)) = b / 256 :: (vs.drop o).flatMap (offs k M) := by
              simp only [offs, hx, hvs]
            rw [← this]; exact hoff
          refine .ptr vs.length hx ⟨x, hx, hmc, fun x2 h2 => ho _ List.mem_cons_self x vs hx hmc hvs x2 h2⟩ hvs ?_
          rw [List.take_of_length_le (by rw [List.length_drop]; omega)]
          refine ihl _ ?_ fun n hn => ho n (List.mem_cons_of_mem _ hn)
          obtain ⟨n, hn⟩ := h
          cases n with
          | zero => cases hn
          | succ n =>
            simp only [nl, List.all_cons, List.all_nil, Bool.and_eq_true, Bool.and_true] at hn
            cases n with
            | zero => exact absurd hn.1.2 (by simp [nl])
            | succ n =>
              have := hn.1.2
              simp only [nl] at this
              exact nl_down this
        · exact .same
      · exact .same
    · rename_i f xs ys
      split at h
      · rename_i hf
        have ho : ∀ n ∈ xs.toList.flatMap (offs k M) ++ ys.toList.flatMap (offs k M), ∀ x vs, M.get n = some x → x.mine = true → x.vals = some vs → ∀ x2, M2.get n = some x2 → x2.wr = false := by
          have : offs (k + 1) M (.func f xs ys) = xs.toList.flatMap (offs k M) ++ ys.toList.flatMap (offs k M) := by
            simp only [offs, hf]
          rw [← this]; exact hoff
        obtain ⟨n, hn⟩ := h
        cases n with
        | zero => cases hn
        | succ n =>
          simp only [nl, Bool.and_eq_true] at hn
          exact .func hf (ihl _ (nl_down hn.1.1) fun n hn => ho n (List.mem_append_left _ hn)) (ihl _ (nl_down hn.1.2) fun n hn => ho n (List.mem_append_right _ hn))
      · exact .same
    · exact .same
end Go.Proofs.YtihloomkgpflmaaGreatDoor.Vm

namespace Go.Proofs.YtihloomkgpflmaaGreatDoor.Vm

theorem FrzL.relL {w0 : World} {κ : Iota} {M M2 : Tr Blk} {w : World} (hR : R w0 κ M w) {xs ys us : List Value} (h : FrzL M M2 xs ys) (hv : VRL κ xs us) : VRL (κ.freeze M M2 w) ys us := FrzL.rel hR h hv

theorem FrzL.get {M M2 : Tr Blk} : ∀ {xs ys : List Value}, FrzL M M2 xs ys → ∀ (i : Nat) (y : Value), ys[i]? = some y → ∃ x, xs[i]? = some x ∧ Frz M M2 x y
  | _, _, .nil, i, y, h => by simp at h
  | _, _, .cons hv t, 0, y, h => by simp at h; subst h; exact ⟨_, rfl, hv⟩
  | _, _, .cons hv t, i + 1, y, h => by simp at h; simpa using FrzL.get t i y h

/-- A call of a function that is known by what it answers. -/
theorem pure_call {P : Program} {G : Nat} {tabs : List (Nat × List Value)} {w0 : World} (hl : Laid G tabs w0) {f : FuncId} {as as' : List Value} {v : Value} (h : PureOk P G tabs f as' v) {M M2 : Tr Blk} (nx : Nat) (hlen : as.length = as'.length) (hfz : FrzL M M2 as as') (hleft : Left M M2) :
    ∃ fr, enterFr P f as false .run M nx = some fr ∧ Sound P G w0 fr (.ret v .run M2 nx) := by
  obtain ⟨hna, hnv, fr0, hfr0, hps⟩ := h
  have e0 : enterFr P f as false .run M nx = some { fr0 with M := M, nx := nx, T := putArgs as 0 .nil } ∧ fr0.dk = false ∧ fr0.rnd = none ∧ fr0.M = Mof tabs ∧ fr0.nx = G ∧ fr0.T = putArgs as' 0 .nil ∧ fr0.ds = [] ∧ fr0.mode = .run := by
    unfold enterFr at hfr0 ⊢
    split at hfr0
    · split at hfr0
      · simp at hfr0; subst hfr0; exact ⟨by rw [hlen], rfl, rfl, rfl, rfl, rfl, rfl, rfl⟩
      · cases hfr0
    · cases hfr0
  obtain ⟨e1, e2, e3, e4, e5, e6, e7, e8⟩ := e0
  refine ⟨_, e1, fun ι b a mode cs w hR0 hG hfr hf hno => ?_⟩
  have hR0 : R w0 ι M w := hR0
  have hR := freeze_R hR0 hleft
  have hex0 : Ext ι (ι.freeze M M2 w) := ⟨fun _ _ h => h, fun _ _ h => .inl h⟩
  have hl' : Laid G tabs w := by
    intro n vs hm
    obtain ⟨h1, h2, arr, ty, h3, h4⟩ := hl n vs hm
    exact ⟨h1, h2, arr, ty, by rw [hR.old n ((Array.getElem?_eq_some_iff.1 h3).1)]; exact h3, h4⟩
  have hRc : R w (iotaZ G (ι.freeze M M2 w).fz) (Mof tabs) w := R_startZ hl' (fun a z ha => (hR.fz a z ha).1)
  have htm : TmR (iotaZ G (ι.freeze M M2 w).fz) fr0.nt fr0.T a.tmps := by
    have h1 : TmR ι fr0.nt (putArgs as 0 .nil) a.tmps := hfr.tm
    refine ⟨h1.1, fun t x hx => ?_⟩
    rw [e6, putArgs_get] at hx
    simp only [Nat.not_lt_zero, if_false, Nat.sub_zero] at hx
    split at hx
    · rename_i y hy
      simp at hx; subst hx
      obtain ⟨y0, g1, g2⟩ := hfz.get t y hy
      obtain ⟨u, hu, hv⟩ := h1.2 t y0 (by rw [putArgs_get]; simp [g1])
      exact ⟨u, hu, (hna y (List.mem_of_getElem? hy)).move (g2.rel hR0 hv) (fun _ _ h => h)⟩
    · simp [Tr.get_nil] at hx
  have hfr' : FrR P (iotaZ G (ι.freeze M M2 w).fz) fr0 b a mode cs := by
    refine ⟨hfr.fn, htm, ?_, ?_, hfr.kind, ?_, ?_⟩
    · have := hfr.ds
      simp only [e7] at this ⊢
      cases hd : a.defers with
      | nil => exact .nil
      | cons x y => rw [hd] at this; cases this
    · have := hfr.mode
      simp only [e8] at this ⊢
      cases this
      exact .run
    · have := hfr.rnd
      simp only [e3] at this ⊢
      cases hb : b.roundOf with
      | none => trivial
      | some r => rw [hb] at this; exact this.elim
    · intro hd
      rw [e2] at hd; cases hd
  obtain ⟨κc, w', g1, g2, g3, g4⟩ := hps w hl' (iotaZ G (ι.freeze M M2 w).fz) b a mode cs w (by rw [e4]; exact hRc) GOk_iotaZ hfr' (by rw [e5]; exact FreshU_iotaZ)
  have hex : Ext (ι.freeze M M2 w) ⟨ι.loc, κc.fz⟩ := ⟨fun _ _ h => h, g2⟩
  have hlt : ∀ b x l, M2.get (b / 256) = some x → ι b = some l → l.blk < w.heap.size := by
    intro b x l hm hi
    obtain ⟨o, h1, _⟩ := hR.live b x l hm hi
    exact (Array.getElem?_eq_some_iff.1 h1).1
  refine ⟨⟨ι.loc, κc.fz⟩, w', ⟨⟨fun _ _ h => h, fun a z h => g2 a z (.inl h)⟩, fun b l h1 h2 => ?_, fun n hn => .inl ?_, Nat.le_refl _, ⟨hR.kinds, hR.uniq, fun b x l hm hi => ?_, hR.inj, hR.own, Nat.le_trans hR.size g1.size, fun i hi => ?_, g1.os.trans hR.os, g1.output.trans hR.output, g1.tape.trans hR.tape, fun a z ha => ⟨(g1.fz a z ha).1, fun b x l hm hw hi => ?_⟩⟩, fun c hc _ => g1.old c hc, g1.size, fun a z ha => ?_⟩, ?_⟩
  · have h2' : ι b = some l := h2
    rw [h1] at h2'; cases h2'
  · intro hc
    have hn' : M2.get n ≠ none := hn
    cases hq : M2.get n with
    | none => exact hn' hq
    | some x2 =>
      obtain ⟨x, hx, _⟩ := hleft n x2 hq
      have hc' : M.get n = none := hc
      rw [hx] at hc'; cases hc'
  · obtain ⟨o, h1, h2⟩ := hR.live b x l hm hi
    exact ⟨o, by rw [g1.old _ (hlt b x l hm hi)]; exact h1, h2.mono hex⟩
  · rw [g1.old i (Nat.lt_of_lt_of_le hi hR.size)]
    exact hR.old i hi
  · rcases g3 a z ha with e | e
    · exact (hR.fz a z e).2 b x l hm hw hi
    · have := hlt b x l hm hi
      omega
  · rcases g3 a z ha with e | e
    · rcases e with e | ⟨b', l, ⟨x, q1, q2, _⟩, q3, q4, _⟩
      · exact .inl e
      · exact .inr (.inr ⟨by have := hR0.own b' x l q1 q2 q3; omega, b', x, l, q1, q3, q4⟩)
    · exact .inr (.inl e)
  · rw [e2, e3] at g4
    show Fin P _ b fr0.dk fr0.rnd _ cs w' _
    rw [e2, e3]
    exact Fin.value g4 (fun u hu => hnv.move hu (fun _ _ h => h))

/-- What is known of functions: what they answer, of their arguments' contents; or, with the blocks they find, what they answer and leave. -/
structure Known where
  pf : FuncId → List Value → Option Value
  st : FuncId → List Value → Tr Blk → Nat → Option (Value × Tr Blk × Nat)
noncomputable instance : CoeFun Known (fun _ => FuncId → List Value → Option Value) := ⟨Known.pf⟩
/-- A call of f with these blocks answers v and leaves those. -/
def StOk (P : Program) (G : Nat) (tabs : List (Nat × List Value)) (f : FuncId) (as : List Value) (M : Tr Blk) (nx : Nat) (v : Value) (M' : Tr Blk) (nx' : Nat) : Prop :=
  ∀ w0, Laid G tabs w0 → ∃ fr, enterFr P f as false .run M nx = some fr ∧ Sound P G w0 fr (.ret v .run M' nx')
structure Known.Ok (F : Known) (P : Program) (G : Nat) (tabs : List (Nat × List Value)) : Prop where
  pf : ∀ f as v, F f as = some v → PureOk P G tabs f as v
  st : ∀ f as M nx v M' nx', F.st f as M nx = some (v, M', nx') → StOk P G tabs f as M nx v M' nx'
noncomputable def Known.none : Known := ⟨fun _ _ => Option.none, fun _ _ _ _ => Option.none⟩
theorem Known.none_ok {P : Program} {G : Nat} {tabs : List (Nat × List Value)} : Known.none.Ok P G tabs := ⟨fun _ _ _ h => (by cases h), fun _ _ _ _ _ _ _ h => (by cases h)⟩
noncomputable def Known.add (F : Known) (f : FuncId) (e : List Value → Option Value) : Known := ⟨fun g as => bif Nat.beq g f then e as else F g as, F.st⟩
theorem Known.add_ok {P : Program} {G : Nat} {tabs : List (Nat × List Value)} {F : Known} (h : F.Ok P G tabs) {f : FuncId} {e : List Value → Option Value} (he : ∀ as v, e as = some v → PureOk P G tabs f as v) : (F.add f e).Ok P G tabs := by
  refine ⟨fun g as v hv => ?_, h.st⟩
  have hv2 : (bif Nat.beq g f then e as else F g as) = some v := hv
  cases hb : Nat.beq g f with
  | true => rw [hb] at hv2; have := Nat.eq_of_beq_eq_true hb; subst this; exact he as v hv2
  | false => rw [hb] at hv2; exact h.pf g as v hv2
/-- .. a function that turns blocks. -/
noncomputable def Known.addS (F : Known) (f : FuncId) (e : List Value → Tr Blk → Nat → Option (Value × Tr Blk × Nat)) : Known := ⟨F.pf, fun g as M nx => bif Nat.beq g f then e as M nx else F.st g as M nx⟩
theorem Known.addS_ok {P : Program} {G : Nat} {tabs : List (Nat × List Value)} {F : Known} (h : F.Ok P G tabs) {f : FuncId} {e : List Value → Tr Blk → Nat → Option (Value × Tr Blk × Nat)} (he : ∀ as M nx v M' nx', e as M nx = some (v, M', nx') → StOk P G tabs f as M nx v M' nx') : (F.addS f e).Ok P G tabs := by
  refine ⟨h.pf, fun g as M nx v M' nx' hv => ?_⟩
  have hv2 : (bif Nat.beq g f then e as M nx else F.st g as M nx) = some (v, M', nx') := hv
  cases hb : Nat.beq g f with
  | true => rw [hb] at hv2; have := Nat.eq_of_beq_eq_true hb; subst this; exact he as M nx v M' nx' hv2
  | false => rw [hb] at hv2; exact h.st g as M nx v M' nx' hv2

/-- A call of a known function: the answer, the blocks behind it. -/
noncomputable def Known.sm (F : Known) (f : FuncId) (as : List Value) (M : Tr Blk) (nx : Nat) : Option (Value × Tr Blk × Nat) := match F f (as.map (frzV 12 M)) with
  | some v => some (v, offM M (as.flatMap (offs 12 M)), nx)
  | Option.none => F.st f as M nx
noncomputable def Exts.knows (X : Exts) (F : Known) : Exts := ⟨X.fn, F.sm, fun _ => none⟩
theorem XOk.knows {P : Program} {G : Nat} {tabs : List (Nat × List Value)} {w0 : World} (hl : Laid G tabs w0) {X : Exts} (h : XOk P G w0 X) {F : Known} (hF : F.Ok P G tabs) : XOk P G w0 (X.knows F) := by
  refine ⟨h.1, fun f as M nx v M' nx' hs => ?_, fun f e as v h => by cases h⟩
  have hs' : F.sm f as M nx = some (v, M', nx') := hs
  unfold Known.sm at hs'
  split at hs'
  · rename_i v' hv
    simp at hs'
    obtain ⟨rfl, rfl, rfl⟩ := hs'
    have hp := hF.pf f _ _ hv
    have hfz : ∀ xs : List Value, (∀ x ∈ xs.map (frzV 12 M), Nl x) → (∀ n ∈ xs.flatMap (offs 12 M), n ∈ as.flatMap (offs 12 M)) → FrzL M (offM M (as.flatMap (offs 12 M))) xs (xs.map (frzV 12 M)) := by
      intro xs
      induction xs with
      | nil => intro _ _; exact .nil
      | cons y ys ih =>
        intro hn ho
        refine .cons (frz_of M _ 12 y (hn _ List.mem_cons_self) fun n hn' x vs hx hm hv x2 h2 => ?_) (ih (fun u hu => hn u (List.mem_cons_of_mem _ hu)) fun n hn' => ho n ?_)
        · rw [offM_off _ M n x vs (ho n (List.mem_flatMap.2 ⟨y, List.mem_cons_self, hn'⟩)) hx hm hv] at h2
          simp at h2; subst h2; rfl
        · obtain ⟨z, hz, hz'⟩ := List.mem_flatMap.1 hn'
          exact List.mem_flatMap.2 ⟨z, List.mem_cons_of_mem _ hz, hz'⟩
    exact pure_call hl hp nx (by simp) (hfz as hp.1 (fun _ h => h)) (offM_left M _)
  · exact hF.st _ _ _ _ _ _ _ hs' w0 hl
end Go.Proofs.YtihloomkgpflmaaGreatDoor.Vm
