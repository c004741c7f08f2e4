/-
  THE ABSTRACT INTERPRETER, part P: a region in the order of the text; the ways of a frame on.
-/
import Derived.Test.YtjbanjpklgpenaaGreatDoorVmO
import Derived.RangeFuncLeaves
import Derived.Defers
namespace Go.Proofs.YtjbanjpklgpenaaGreatDoor.Vm

theorem wanted_rel {ι : Iota} {nt : Nat} {T : Tr Value} {tmps : Array Value} (ht : TmR ι nt T tmps) {ops : Array Oper} {o : Oper} {x : Bool} (h : wantedA ops o T = some x) : Region.wanted o (yielded ops tmps) = x := by
  unfold wantedA at h
  unfold Region.wanted
  split at h
  · rename_i hg
    simp at h; subst h
    rw [hg]
  · rename_i j want hg
    rw [hg]
    simp only
    split at h
    · rename_i d hd
      split at h
      · rename_i y hy
        simp at h; subst h
        obtain ⟨u, h1, h2⟩ := ht.2 d _ hy
        cases h2
        simp only [yielded, hd, Option.bind_some, h1]
        rw [Bool.eq_iff_iff]; simp
      · rename_i v hno hy
        simp at h; subst h
        obtain ⟨u, h1, h2⟩ := ht.2 d _ hy
        have : yielded ops tmps j = none := by
          simp only [yielded, hd, Option.bind_some, h1]
          cases h2 <;> first | rfl | exact (hno _ rfl).elim
        rw [this]; rfl
      · cases h
    · cases h

theorem putT_rel {ι : Iota} {nt : Nat} {T T' : Tr Value} {a : Act} {dst : Option Tmp} {v u : Value} (h : putT nt T dst v = some T') (ht : TmR ι nt T a.tmps) (hv : VR ι v u) : TmR ι nt T' (a.put dst u).tmps := by
  unfold putT at h
  cases dst with
  | none => simp at h; subst h; exact ht
  | some d =>
    simp only at h
    cases hb : Nat.blt d nt with
    | false => rw [hb] at h; simp at h
    | true =>
      rw [hb] at h
      simp only [cond_true, forced_eq, Option.some.injEq] at h
      subst h
      rw [Nat.blt_eq] at hb
      exact ht.put hb hv
theorem put_defers (a : Act) (dst : Option Tmp) (u : Value) : (a.put dst u).defers = a.defers := by cases dst <;> rfl

/-- What a region's end says of the machine. -/
def RREnd (P : Program) (w0 : World) (ι : Iota) (dk : Bool) (nt : Nat) (M : Tr Blk) (nx : Nat) (b : Frame) (m : Machine) (k : List Item) (cs : List Frame) (w : World) : RR → Prop
  | .ok T' ds' up' M' nx' => ∃ κ a' cs' w', Post w0 ι M nx w κ M' nx' w' ∧ TmR κ nt T' a'.tmps ∧ DRL κ ds' a'.defers ∧ UpTo κ dk up' cs cs' ∧ Steps P m (lone (b.atR a' k) cs' w')
  | .pan ch T' ds' up' M' nx' => ∃ κ a' cs' w' ch' todo', Post w0 ι M nx w κ M' nx' w' ∧ TmR κ nt T' a'.tmps ∧ DRL κ ds' a'.defers ∧ UpTo κ dk up' cs cs' ∧ PRL κ ch ch' ∧ Steps P m (lone (atM b a' todo' (.panicking ch')) cs' w')

theorem RREnd.trans {P : Program} {w0 : World} {ι κ : Iota} {dk : Bool} {nt : Nat} {M M1 : Tr Blk} {nx nx1 : Nat} {b : Frame} {m m1 : Machine} {k : List Item} {cs cs1 : List Frame} {w w1 : World} {up1 : FrameMode} {r : RR}
    (hf : FreshU ι nx) (h : Post w0 ι M nx w κ M1 nx1 w1) (hc : UpTo κ dk up1 cs cs1) (hs : Steps P m m1) (g : RREnd P w0 κ dk nt M1 nx1 b m1 k cs1 w1 r) : RREnd P w0 ι dk nt M nx b m k cs w r := by
  cases r with
  | ok T' ds' up' M' nx' =>
    obtain ⟨μ, a', cs', w', h1, h2, h3, h4, h5⟩ := g
    exact ⟨μ, a', cs', w', h.trans (hf.to _) h1, h2, h3, UpTo.trans hc h4, hs.trans h5⟩
  | pan ch T' ds' up' M' nx' =>
    obtain ⟨μ, a', cs', w', ch', todo', h1, h2, h3, h4, h5, h6⟩ := g
    exact ⟨μ, a', cs', w', ch', todo', h.trans (hf.to _) h1, h2, h3, UpTo.trans hc h4, h5, hs.trans h6⟩

section
variable {call : Fr → Option Res} {P : Program} {X : Exts} {w0 : World} {G : Nat} {dk : Bool} {rnd : Option Nat} {nt : Nat} {ops : Array Oper}

theorem vops_cons (o : Oper) (l : List Oper) (T : Tr Value) (ds : List Deferred) (up : FrameMode) (M : Tr Blk) (nx : Nat) : vops call P X G dk rnd nt ops (o :: l) T ds up M nx = match wantedA ops o T with
      | some true => (match vop call P X G dk rnd T ds up M nx o.op with
        | some (.ok v ds' up' M' nx') => (match putT nt T o.dst v with
          | some T' => vops call P X G dk rnd nt ops l T' ds' up' M' nx'
          | none => none)
        | some (.pan ch up' M' nx') => some (.pan ch T ds up' M' nx')
        | none => none)
      | some false => (match putT nt T o.dst undef with
        | some T' => vops call P X G dk rnd nt ops l T' ds up M nx
        | none => none)
      | none => none := rfl

theorem vops_sound (hX : XOk P G w0 X) (hF : FOk P) (hcall : ∀ fr r, call fr = some r → Sound P G w0 fr r) {b : Frame} (hk : b.kind = if dk then .deferred else .normal) {k : List Item} :
    ∀ (l : List Oper) (s : Nat), ops.toList.drop s = l → ∀ {T : Tr Value} {ds : List Deferred} {up : FrameMode} {M : Tr Blk} {nx : Nat} {rr : RR}, vops call P X G dk rnd nt ops l T ds up M nx = some rr →
      ∀ {ι : Iota} {a : Act} {cs : List Frame} {w : World}, R w0 ι M w → GOk G ι → TmR ι nt T a.tmps → DRL ι ds a.defers → RndR ι rnd b.roundOf → UpR ι dk up cs → FreshU ι nx →
      RREnd P w0 ι dk nt M nx b (lone (b.atR a (.inRegion ops (List.range' s l.length) :: k)) cs w) k cs w rr
  | [], s, _, T, ds, up, M, nx, rr, he, ι, a, cs, w, h, hG, ht, hd, hr, hu, hf => by
    have : rr = .ok T ds up M nx := by
      have : some (RR.ok T ds up M nx) = some rr := he
      simpa using this.symm
    subst this
    exact ⟨ι, a, cs, w, Post.refl h, ht, hd, UpTo.refl hu, .one stepR_region_end⟩
  | o :: l, s, hl, T, ds, up, M, nx, rr, he, ι, a, cs, w, h, hG, ht, hd, hr, hu, hf => by
    have hdrop : ops.toList.drop (s + 1) = l := by
      have := congrArg List.tail hl
      simpa [List.tail_drop] using this
    have ho : ops[s]? = some o := by
      have := congrArg List.head? hl
      simpa [List.head?_drop] using this
    have hrange : List.range' s (o :: l).length = s :: List.range' (s + 1) l.length := by simp [List.range'_succ]
    rw [hrange]
    rw [vops_cons] at he
    split at he
    · rename_i hwa
      have hw := wanted_rel ht hwa
      split at he
      · rename_i v ds' up' M' nx' hop
        split at he
        · rename_i T' hT'
          obtain ⟨κ, u, w', defs', cs', p1, p2, p3, p4, p5⟩ := vop_sound hX hF hcall hG hop h ht hd hk hr hu ho hw (k := k) (rest := List.range' (s + 1) l.length) hf
          refine RREnd.trans hf p1 p4 p5 ?_
          have ih := vops_sound hX hF hcall hk (k := k) l (s + 1) hdrop he (ι := κ) (a := ({ a with defers := defs' } : Act).put o.dst u) (cs := cs') p1.rel (fun g hg => p1.ext _ _ (hG g hg))
            (putT_rel (a := { a with defers := defs' }) hT' (ht.mono p1.ext) p2) (by rw [put_defers]; exact p3) (hr.mono p1.ext) p4.upR (p1.freshU hf)
          exact ih
        · cases he
      · rename_i ch up' M' nx' hop
        simp at he; subst he
        obtain ⟨κ, w', ch', p1, p2, p3, p4⟩ := vop_sound hX hF hcall hG hop h ht hd hk hr hu ho hw (k := k) (rest := List.range' (s + 1) l.length) hf
        exact ⟨κ, a, cs, w', ch', _, p1, ht.mono p1.ext, hd.mono p1.ext, p3, p2, p4⟩
      · cases he
    · rename_i hwa
      have hw := wanted_rel ht hwa
      split at he
      · rename_i T' hT'
        have hstep := stepR_op_skip (P := P) (b := b) (a := a) (k := k) (cs := cs) (w := w) (ops := ops) (i := s) (rest := List.range' (s + 1) l.length) (by simp [ho, hw])
        have e : (ops[s]?).bind (·.dst) = o.dst := by rw [ho]; rfl
        rw [e] at hstep
        refine RREnd.trans hf (Post.refl h) (UpTo.refl hu) (.one hstep) ?_
        exact vops_sound hX hF hcall hk l (s + 1) hdrop he h hG (putT_rel hT' ht undef_self) (by rw [put_defers]; exact hd) hr hu hf
      · cases he
    · cases he
end

/-! ### a frame goes on -/
structure St (P : Program) (G : Nat) (w0 : World) (fr : Fr) (ι : Iota) (b : Frame) (a : Act) (mode : FrameMode) (cs : List Frame) (w : World) (todo : List Item) : Prop where
  rel : R w0 ι fr.M w
  gok : GOk G ι
  fm : FrR P ι fr b a mode cs
  fresh : FreshU ι fr.nx
  rc : fr.rnd ≠ none → fr.dk = false ∧ cs ≠ []
  td : fr.mode = .run → todo = fr.todo

def SoundT (P : Program) (G : Nat) (w0 : World) (fr : Fr) (r : Res) : Prop :=
  ∀ (ι : Iota) (b : Frame) (a : Act) (mode : FrameMode) (cs : List Frame) (w : World) (todo : List Item), St P G w0 fr ι b a mode cs w todo →
    ∃ κ w', Post w0 ι fr.M fr.nx w κ r.M r.nx w' ∧ Fin P κ b fr.dk fr.rnd (lone (atM b a todo mode) cs w) cs w' r

theorem SoundT.sound {P : Program} {G : Nat} {w0 : World} {fr : Fr} {r : Res} (h : SoundT P G w0 fr r) : Sound P G w0 fr r :=
  fun ι b a mode cs w h1 h2 h3 h4 h5 => h ι b a mode cs w fr.todo ⟨h1, h2, h3, h4, h5, fun _ => rfl⟩

def Prog (P : Program) (G : Nat) (w0 : World) (fr fr' : Fr) : Prop := fr'.dk = fr.dk ∧ fr'.rnd = fr.rnd ∧
  ∀ (ι : Iota) (b : Frame) (a : Act) (mode : FrameMode) (cs : List Frame) (w : World) (todo : List Item), St P G w0 fr ι b a mode cs w todo →
    ∃ κ a' mode' cs' w' todo', Post w0 ι fr.M fr.nx w κ fr'.M fr'.nx w' ∧ FrR P κ fr' b a' mode' cs' ∧ UpTo κ fr.dk fr'.up cs cs' ∧ (fr'.mode = .run → todo' = fr'.todo) ∧
      Steps P (lone (atM b a todo mode) cs w) (lone (atM b a' todo' mode') cs' w')

theorem Prog.sound {P : Program} {G : Nat} {w0 : World} {fr fr' : Fr} {r : Res} (h : Prog P G w0 fr fr') (g : SoundT P G w0 fr' r) : SoundT P G w0 fr r := by
  obtain ⟨hd, hr, h⟩ := h
  intro ι b a mode cs w todo st
  obtain ⟨κ, a', mode', cs', w', todo', p1, p2, p3, p4, p5⟩ := h ι b a mode cs w todo st
  have hcs : cs ≠ [] → cs' ≠ [] := by
    intro hc
    cases hdk : fr.dk with
    | false => rw [hdk] at p3; simp only [UpTo] at p3; rw [p3]; exact hc
    | true =>
      rw [hdk] at p3
      obtain ⟨c, rest, m, h1, h2, h3⟩ := p3
      rw [h2]; simp
  obtain ⟨μ, w2, q1, q2⟩ := g κ b a' mode' cs' w' todo' ⟨p1.rel, fun g hg => p1.ext _ _ (st.gok g hg), p2, p1.freshU st.fresh, fun hx => by rw [hr] at hx; rw [hd]; exact ⟨(st.rc hx).1, hcs (st.rc hx).2⟩, p4⟩
  refine ⟨μ, w2, p1.trans (st.fresh.to _) q1, ?_⟩
  rw [hd, hr] at q2
  cases q2 with
  | ret hr0 hs ha hfn hres hv hcs2 => exact .ret hr0 (p5.trans hs) ha hfn hres hv (UpTo.trans p3 hcs2)
  | round hr0 hs hv =>
    refine .round hr0 (fun c rest hc => p5.trans (hs c rest ?_)) hv
    have := (st.rc hr0).1
    rw [this] at p3
    simp only [UpTo] at p3
    rw [p3, hc]
  | pan hs ha hfn hv hcs2 => exact .pan (p5.trans hs) ha hfn hv (UpTo.trans p3 hcs2)

/-- A step that turns nothing but what is to be done. -/
theorem Prog.ctl {P : Program} {G : Nat} {w0 : World} {fr : Fr} {k : List Item} (hm : fr.mode = .run)
    (h : ∀ (ι : Iota) (b : Frame) (a : Act) (cs : List Frame) (w : World), TR ι G fr.T a.eval → Steps P (lone (b.atR a fr.todo) cs w) (lone (b.atR a k) cs w)) : Prog P G w0 fr { fr with todo := k } := by
  refine ⟨rfl, rfl, fun ι b a mode cs w todo st => ?_⟩
  have hmode := st.fm.mode
  rw [hm] at hmode
  cases hmode
  have htd := st.td hm
  subst htd
  refine ⟨ι, a, .run, cs, w, k, Post.refl st.rel, ⟨st.fm.fn, st.fm.tm, st.fm.ds, st.fm.mode, st.fm.kind, st.fm.rnd, st.fm.up⟩, UpTo.refl st.fm.up, fun _ => rfl, ?_⟩
  exact h ι b a cs w (TR.of st.gok st.fm.tm.2)

/-- .. by a region. -/
theorem Prog.region {P : Program} {G : Nat} {w0 : World} {fr fr' : Fr} {k : List Item} {rr : Option RR} (hm : fr.mode = .run) (hk : contRR fr k rr = .cont fr')
    (h : ∀ (r : RR), rr = some r → ∀ (ι : Iota) (b : Frame) (a : Act) (cs : List Frame) (w : World), St P G w0 fr ι b a .run cs w fr.todo → RREnd P w0 ι fr.dk fr.nt fr.M fr.nx b (lone (b.atR a fr.todo) cs w) k cs w r) : Prog P G w0 fr fr' := by
  unfold contRR at hk
  split at hk
  · rename_i T ds up M nx
    simp at hk; subst hk
    refine ⟨rfl, rfl, fun ι b a mode cs w todo st => ?_⟩
    have hmode := st.fm.mode
    rw [hm] at hmode
    cases hmode
    have htd := st.td hm
    subst htd
    obtain ⟨κ, a', cs', w', p1, p2, p3, p4, p5⟩ := h _ rfl ι b a cs w st
    exact ⟨κ, a', .run, cs', w', k, p1, ⟨st.fm.fn, p2, p3, by show MR κ fr.mode .run; rw [hm]; exact .run, st.fm.kind, st.fm.rnd.mono p1.ext, p4.upR⟩, p4, fun _ => rfl, p5⟩
  · rename_i ch T ds up M nx
    simp at hk; subst hk
    refine ⟨rfl, rfl, fun ι b a mode cs w todo st => ?_⟩
    have hmode := st.fm.mode
    rw [hm] at hmode
    cases hmode
    have htd := st.td hm
    subst htd
    obtain ⟨κ, a', cs', w', ch', todo', p1, p2, p3, p4, p5, p6⟩ := h _ rfl ι b a cs w st
    exact ⟨κ, a', .panicking ch', cs', w', todo', p1, ⟨st.fm.fn, p2, p3, .panicking p5, st.fm.kind, st.fm.rnd.mono p1.ext, p4.upR⟩, p4, (fun hx => by cases hx), p6⟩
  · cases hk
end Go.Proofs.YtjbanjpklgpenaaGreatDoor.Vm
