/-
  THE ARGUMENTS AS THEY ARE READ.
-/
import Derived.Test.YtihloomkgpflmaaGreatDoorW12
import Derived.Test.YtihloomkgpflmaaGreatDoorV13
import Derived.Test.YtihloomkgpflmaaGreatDoorRows
import Derived.ChangeSlices
import Derived.ChangeArms
import Derived.DataReads
set_option linter.unusedSimpArgs false
set_option linter.unusedVariables false
namespace Go.Proofs.YtihloomkgpflmaaGreatDoor
open Go.Proofs.YtihloomkgpflmaaGreatDoor.Vm Go.ChangeShapes
/-- Trees as they are read. -/
inductive Read : Ex → Prop
  | mk {op : Int} {neg : Bool} {num den : List Nat} {args : List Ex} (hop : -9223372036854775808 ≤ op ∧ op < 9223372036854775808) (hn : num.length ≤ 1048576) (hd : den.length ≤ 1048576) (hn2 : ∀ x ∈ num, x < 18446744073709551616) (hd2 : ∀ x ∈ den, x < 18446744073709551616) (ha : args.length ≤ 1048576) (h : ∀ a ∈ args, Read a) : Read (.mk op neg num den args)
theorem Read.thin : ∀ e : Ex, Read e → Thin e
  | .mk o n a b l, h => by
    cases h with
    | mk hop hn hd hn2 hd2 ha h => exact .mk (by omega) fun x hx => Read.thin x (h x hx)
  termination_by e => SizeOf.sizeOf e
  decreasing_by exact ex_size hx _ _ _ _
theorem Read.good : ∀ e : Ex, Read e → e.nodes ≤ 1000000 → Good e
  | .mk o n a b l, h, hn => by
    have hl := xlen_nodes l
    have hn' : nodesL l + 1 ≤ 1000000 := by simpa [Ex.nodes] using hn
    cases h with
    | mk hop hn hd hn2 hd2 ha h => exact .mk hop hn hd hn2 hd2 (by omega) fun x hx => Read.good x (h x hx) (by have := nodesL_mem hx; omega)
  termination_by e => SizeOf.sizeOf e
  decreasing_by exact ex_size hx _ _ _ _
namespace Rd
theorem t31 : PP.underlying 31 = some (.struct #[{ name := "Op", type := 22, offset := 0, embedded := false, tag := "", pkgPath := "", byteOffset := 0 }, { name := "Num", type := 28, offset := 1, embedded := false, tag := "", pkgPath := "", byteOffset := 8 }, { name := "Args", type := 29, offset := 4, embedded := false, tag := "", pkgPath := "", byteOffset := 64 }]) := by kernel_rfl
theorem t28 : PP.underlying 28 = some (.struct #[{ name := "Num", type := 26, offset := 0, embedded := false, tag := "", pkgPath := "", byteOffset := 0 }, { name := "Den", type := 24, offset := 2, embedded := false, tag := "", pkgPath := "", byteOffset := 32 }]) := by kernel_rfl
theorem t26 : PP.underlying 26 = some (.struct #[{ name := "Neg", type := 4, offset := 0, embedded := false, tag := "", pkgPath := "", byteOffset := 0 }, { name := "Abs", type := 24, offset := 1, embedded := false, tag := "", pkgPath := "", byteOffset := 8 }]) := by kernel_rfl
theorem t29 : PP.underlying 29 = some (.slice 31) := by kernel_rfl
theorem t24 : PP.underlying 24 = some (.slice 59) := by kernel_rfl
theorem t59 : PP.underlying 59 = some (.int .u64) := by kernel_rfl
theorem t22 : PP.underlying 22 = some (.int .i64) := by kernel_rfl
theorem t3 : PP.underlying 3 = some (.int .i64) := by kernel_rfl
theorem t4 : PP.underlying 4 = some .bool := by kernel_rfl
theorem c31 : PP.cellsOf 31 = 5 := by kernel_rfl
theorem c28 : PP.cellsOf 28 = 3 := by kernel_rfl
theorem c26 : PP.cellsOf 26 = 2 := by kernel_rfl
theorem c29 : PP.cellsOf 29 = 1 := by kernel_rfl
theorem c24 : PP.cellsOf 24 = 1 := by kernel_rfl
theorem c59 : PP.cellsOf 59 = 1 := by kernel_rfl
theorem c22 : PP.cellsOf 22 = 1 := by kernel_rfl
theorem c4 : PP.cellsOf 4 = 1 := by kernel_rfl
variable {H : Type} {enc : TypeId × Value → H} {W : World}
theorem bulk_pos (d : DataW H) : 1 ≤ Rows.uptoBulk d := by
  cases d with
  | lit l => cases l <;> simp [Rows.uptoBulk]
  | nil => simp [Rows.uptoBulk]
  | ptr d => simp [Rows.uptoBulk]
  | slice elems spare => simp [Rows.uptoBulk]
  | agg parts => simp [Rows.uptoBulk]
  | iface t d => simp [Rows.uptoBulk]
  | map entries => simp [Rows.uptoBulk]
  | held h => simp [Rows.uptoBulk]
theorem bulk_len (l : List (DataW H)) : l.length ≤ Rows.uptoBulkAll l := by
  induction l with
  | nil => simp [Rows.uptoBulkAll]
  | cons x r ih => have := bulk_pos x; simp only [Rows.uptoBulkAll, List.length_cons]; omega
theorem bulk_part {d : DataW H} {l : List (DataW H)} (h : d ∈ l) : Rows.uptoBulk d ≤ Rows.uptoBulkAll l := by
  induction l with
  | nil => cases h
  | cons x r ih =>
    simp only [Rows.uptoBulkAll]
    cases List.mem_cons.1 h with
    | inl e => subst e; omega
    | inr e => have := ih e; omega
theorem no_spot {a : Addr} {z : Value} (h : W.cell? a = some z) : a = ⟨a.block, a.off, none⟩ := by
  unfold World.cell? at h
  split at h
  · split at h
    · cases h
    · rename_i hs
      have : a.spot = none := by simpa using hs
      cases a; simp_all
  · cases h
theorem add_spot {a : Addr} (h : a = ⟨a.block, a.off, none⟩) (i : Nat) : a.add i = ⟨a.block, a.off + i, none⟩ := by
  unfold Addr.add
  split
  · rename_i h0; rw [h0]; exact h
  · rfl
/-- A natural number's limbs. -/
theorem nat_ok {fuel : Nat} {cs : List Value} {x : DataW H × List MemPlace} (h : DataW.trod enc PP W 0 (fun _ => true) true fuel 24 cs = some x) :
    ∃ (l : List Nat) (c : Value), cs = [c] ∧ VR (iotaZ GG (cellsW W)) (natV l) c ∧ (∀ y ∈ l, y < 18446744073709551616) ∧ l.length ≤ Rows.uptoBulk x.1 := by
  rcases open_ints t24 t59 c59 h with ⟨rfl, rfl⟩ | ⟨a, len, cap, zs, rfl, _, hlc, _, hlen, rfl, hcell, hwf⟩
  · exact ⟨[], _, rfl, .dat0 _, fun y hy => (by cases hy), Nat.zero_le _⟩
  · have hlen2 : zs.length = cap := by simpa using hlen
    have hw : ∀ n ∈ zs.take len, 0 ≤ n ∧ n ≤ 18446744073709551615 := by
      intro n hn
      have := hwf n (List.mem_of_mem_take hn)
      simp only [Lit.wf, Bool.and_eq_true, decide_eq_true_eq] at this
      exact this
    have hll : ((zs.take len).map Int.toNat).length = len := by rw [List.length_map, List.length_take]; omega
    refine ⟨(zs.take len).map Int.toNat, _, rfl, ?_, fun y hy => ?_, ?_⟩
    · by_cases h0 : len = 0
      · subst h0
        exact .datE _ _ _
      · have hsp := no_spot (a := a.add 0) (hcell 0 (by omega))
        rw [show a.add 0 = a from rfl] at hsp
        have e : VR (iotaZ GG (cellsW W)) (.func (.yield len) #[.agg ⟨((zs.take len).map Int.toNat).map u64⟩] #[]) (.slice (some ⟨a.block, a.off, none⟩) len cap) := by
          refine .dat (zs := ((zs.take len).map Int.toNat).map u64) len cap hlc (fun i z hz => ?_) (vrl_self ?_)
          · have hi : i < len := by
              have := (List.getElem?_eq_some_iff.1 hz).1
              rw [List.length_map, hll] at this
              exact this
            have hc := hcell i (by omega)
            rw [add_spot hsp] at hc
            show W.cell? _ = some z
            rw [hc]
            have hzi : zs[i]? = some (zs[i]'(by omega)) := List.getElem?_eq_getElem (by omega)
            have hm : zs[i]'(by omega) ∈ zs.take len := by
              rw [List.mem_take_iff_getElem]
              exact ⟨i, by omega, rfl⟩
            have hz2 : (((zs.take len).map Int.toNat).map u64)[i]? = some (u64 (zs[i]'(by omega)).toNat) := by
              rw [List.getElem?_map, List.getElem?_map, List.getElem?_take_of_lt hi, hzi]; rfl
            rw [hz2] at hz
            have hd : zs.getD i 0 = zs[i]'(by omega) := by simp [List.getD, hzi]
            rw [hd, ← hz]
            have := (hw _ hm).1
            have e : ((zs[i]'(by omega)).toNat : Int) = zs[i]'(by omega) := by omega
            show some (Value.int .u64 _) = some (Value.int .u64 (Int.ofNat _))
            rw [show Int.ofNat (zs[i]'(by omega)).toNat = zs[i]'(by omega) from e]
          · rw [List.all_map, List.all_eq_true]
            intro y _
            rfl
        rw [← hsp] at e
        show VR _ (mkDat ((zs.take len).map Int.toNat).length _) _
        rw [hll]
        exact e
    · obtain ⟨n, hn, rfl⟩ := List.mem_map.1 hy
      have := hw n hn
      omega
    · rw [hll]
      simp only [Rows.uptoBulk]
      have h1 := bulk_len (H := H) (lits .u64 (zs.take len))
      have h2 : (lits (H := H) .u64 (zs.take len)).length = len := by simp [lits]; omega
      omega
theorem one_cell {cs : List Value} {c : Value} {o n : Nat} (h : (cs.drop o).take n = [c]) : cs[o]? = some c := by
  have h1 : ((cs.drop o).take n)[0]? = some c := by rw [h]; rfl
  cases n with
  | zero => simp at h
  | succ n => rw [List.getElem?_take_of_lt (by omega), List.getElem?_drop] at h1; simpa using h1
theorem five {cs : List Value} {a b c d e : Value} (hl : cs.length = 5) (k0 : cs[0]? = some a) (k1 : cs[1]? = some b) (k2 : cs[2]? = some c) (k3 : cs[3]? = some d) (k4 : cs[4]? = some e) : cs = [a, b, c, d, e] := by
  match cs, hl with
  | [a0, a1, a2, a3, a4], _ =>
    simp at k0 k1 k2 k3 k4
    rw [k0, k1, k2, k3, k4]
theorem op_range {op : Int} (hwf : (Lit.int .i64 op).wf = true) : -9223372036854775808 ≤ op ∧ op < 9223372036854775808 := by
  simp only [Lit.wf, Bool.and_eq_true, decide_eq_true_eq] at hwf
  have h1 : (-9223372036854775808 : Int) ≤ op := hwf.1
  have h2 : op ≤ 9223372036854775807 := hwf.2
  omega
/-- A tree that is read. -/
theorem ex_step {fuel : Nat} (IH : ∀ {cs : List Value} {x : DataW H × List MemPlace}, DataW.trod enc PP W 0 (fun _ => true) true fuel 31 cs = some x → Rows.uptoBulk x.1 ≤ 1048576 →
    ∃ e : Ex, VRL (iotaZ GG (cellsW W)) e.nd.cells cs ∧ Read e) {cs : List Value} {x : DataW H × List MemPlace} (h : DataW.trod enc PP W 0 (fun _ => true) true (fuel + 1) 31 cs = some x) (hb : Rows.uptoBulk x.1 ≤ 1048576) :
    ∃ e : Ex, VRL (iotaZ GG (cellsW W)) e.nd.cells cs ∧ Read e := by
    obtain ⟨xs, n, hfu, rfl, hl, hlen, hf⟩ := DataW.trod_struct t31 h
    obtain rfl : fuel = n := by omega
    rw [c31] at hl
    match xs, hlen with
    | [y0, y1, y2], _ =>
      have f0 : DataW.trod enc PP W 0 (fun _ => true) true fuel 22 ((cs.drop 0).take (PP.cellsOf 22)) = some y0 := hf 0 _ rfl
      have f1 : DataW.trod enc PP W 0 (fun _ => true) true fuel 28 ((cs.drop 1).take (PP.cellsOf 28)) = some y1 := hf 1 _ rfl
      have f2 : DataW.trod enc PP W 0 (fun _ => true) true fuel 29 ((cs.drop 4).take (PP.cellsOf 29)) = some y2 := hf 2 _ rfl
      rw [c22] at f0
      rw [c28] at f1
      rw [c29] at f2
      have hbs : Rows.uptoBulk y0.1 + (Rows.uptoBulk y1.1 + (Rows.uptoBulk y2.1 + 0)) + 1 ≤ 1048576 := by
        simpa only [Rows.uptoBulk, Rows.uptoBulkAll, List.map_cons, List.map_nil] using hb
      obtain ⟨op, g0, _, hwf⟩ := DataW.trod_int t22 f0
      have hop := op_range hwf
      have k0 := one_cell g0
      -- the number
      obtain ⟨ys, n1, hfu1, e1, hl1, hlen1, hf1⟩ := DataW.trod_struct t28 f1
      match ys, hlen1 with
      | [z0, z1], _ =>
        have f10 : DataW.trod enc PP W 0 (fun _ => true) true n1 26 ((((cs.drop 1).take 3).drop 0).take (PP.cellsOf 26)) = some z0 := hf1 0 _ rfl
        have f11 : DataW.trod enc PP W 0 (fun _ => true) true n1 24 ((((cs.drop 1).take 3).drop 2).take (PP.cellsOf 24)) = some z1 := hf1 1 _ rfl
        rw [c26] at f10
        rw [c24] at f11
        obtain ⟨vs, n2, hfu2, e2, hl2, hlen2, hf2⟩ := DataW.trod_struct t26 f10
        match vs, hlen2 with
        | [w0, w1], _ =>
          have f20 : DataW.trod enc PP W 0 (fun _ => true) true n2 4 ((((((cs.drop 1).take 3).drop 0).take 2).drop 0).take (PP.cellsOf 4)) = some w0 := hf2 0 _ rfl
          have f21 : DataW.trod enc PP W 0 (fun _ => true) true n2 24 ((((((cs.drop 1).take 3).drop 0).take 2).drop 1).take (PP.cellsOf 24)) = some w1 := hf2 1 _ rfl
          rw [c4] at f20
          rw [c24] at f21
          obtain ⟨neg, g1, _⟩ := DataW.trod_bool t4 f20
          obtain ⟨num, cn, g2, vn, hn, hnl⟩ := nat_ok f21
          obtain ⟨den, cd, g3, vd, hd, hdl⟩ := nat_ok f11
          have hbn : Rows.uptoBulk w1.1 ≤ 1048576 ∧ Rows.uptoBulk z1.1 ≤ 1048576 := by
            rw [e1, e2] at hbs
            simp only [Rows.uptoBulk, Rows.uptoBulkAll, List.map_cons, List.map_nil] at hbs
            omega
          have k1 : cs[1]? = some (.bool neg) := by
            have := one_cell g1
            rw [List.getElem?_take_of_lt (by omega), List.getElem?_drop, List.getElem?_take_of_lt (by omega), List.getElem?_drop] at this
            exact this
          have k2 : cs[2]? = some cn := by
            have := one_cell g2
            rw [List.getElem?_take_of_lt (by omega), List.getElem?_drop, List.getElem?_take_of_lt (by omega), List.getElem?_drop] at this
            exact this
          have k3 : cs[3]? = some cd := by
            have := one_cell g3
            rw [List.getElem?_take_of_lt (by omega), List.getElem?_drop] at this
            exact this
          -- the arguments
          have args : ∃ (l : List Ex) (c : Value), (cs.drop 4).take 1 = [c] ∧ VR (iotaZ GG (cellsW W)) (mkDat l.length (exL l)) c ∧ l.length ≤ 1048576 ∧ ∀ y ∈ l, Read y := by
            rcases DataW.trod_slice t29 f2 with ⟨hc, _⟩ | ⟨a, len, cap, elems, rest, m, hfu3, hc, hx, _, hlc, _, hel, hget, _, _⟩
            · exact ⟨[], _, hc, .dat0 _, Nat.zero_le _, fun y hy => (by cases hy)⟩
            · rw [c31] at hget
              have hb2 : Rows.uptoBulkAll (elems.map (·.1)) ≤ 1048576 := by
                rw [hx] at hbs
                simp only [Rows.uptoBulk] at hbs
                omega
              have hlen3 : len ≤ 1048576 := by
                have := bulk_len (elems.map (·.1))
                rw [List.length_map] at this
                omega
              have build : ∀ k, k ≤ len → ∃ (l : List Ex) (zs : List Value), l.length = k ∧ zs.length = k * 5 ∧ VRL (iotaZ GG (cellsW W)) (exL l) zs ∧ (∀ i z, zs[i]? = some z → W.cell? ⟨a.block, a.off + i, none⟩ = some z) ∧ ∀ y ∈ l, Read y := by
                intro k
                induction k with
                | zero => intro _; exact ⟨[], [], rfl, rfl, .nil, fun i z hz => by simp at hz, fun y hy => (by cases hy)⟩
                | succ k ih =>
                  intro hk
                  obtain ⟨l, zs, i1, i2, i3, i4, i5⟩ := ih (by omega)
                  have hg := hget k (by omega)
                  have hek : elems[k]? = some (elems[k]'(by omega)) := List.getElem?_eq_getElem (by omega)
                  rw [hek, Option.bind_eq_some_iff] at hg
                  obtain ⟨cs', hcs', hy'⟩ := hg
                  obtain ⟨_, hcl, hcc⟩ := World.cells?_some hcs'
                  have hbk : Rows.uptoBulk (elems[k]'(by omega)).1 ≤ 1048576 := Nat.le_trans (bulk_part (List.mem_map.2 ⟨_, List.getElem_mem _, rfl⟩)) hb2
                  have hyf : DataW.trod enc PP W 0 (fun _ => true) true fuel 31 cs' = some (elems[k]'(by omega)) := DataW.trod_le (by omega) hy'
                  obtain ⟨e, he1, he2⟩ := IH hyf hbk
                  refine ⟨l ++ [e], zs ++ cs', by simp [i1], by simp [i2, hcl]; omega, ?_, fun i z hz => ?_, fun y hy => ?_⟩
                  · rw [exL_append]
                    exact i3.append (by simpa [exL] using he1)
                  · by_cases hi : i < zs.length
                    · rw [List.getElem?_append_left hi] at hz
                      exact i4 i z hz
                    · rw [List.getElem?_append_right (by omega)] at hz
                      have hi5 : i - zs.length < 5 := by
                        have := (List.getElem?_eq_some_iff.1 hz).1
                        omega
                      have hc0 := hcc (i - zs.length) hi5
                      rw [hz] at hc0
                      have hsp := no_spot hc0
                      have ha : (a.add (k * 5)).add (i - zs.length) = ⟨a.block, a.off + i, none⟩ := by
                        rw [hsp]
                        have e1 : ∀ (a : Addr) (n : Nat), (a.add n).block = a.block ∧ (a.add n).off = a.off + n := by
                          intro a n; unfold Addr.add; split
                          · rename_i h0; subst h0; exact ⟨rfl, rfl⟩
                          · exact ⟨rfl, rfl⟩
                        rw [(e1 _ _).1, (e1 _ _).2, (e1 _ _).1, (e1 _ _).2]
                        have : a.off + k * 5 + (i - zs.length) = a.off + i := by omega
                        rw [this]
                      rw [ha] at hc0
                      exact hc0
                  · rcases List.mem_append.1 hy with h | h
                    · exact i5 y h
                    · rw [List.mem_singleton.1 h]; exact he2
              obtain ⟨l, zs, i1, i2, i3, i4, i5⟩ := build len (Nat.le_refl _)
              refine ⟨l, _, hc, ?_, by omega, i5⟩
              rw [i1]
              by_cases h0 : len = 0
              · subst h0; exact .datE _ _ _
              · have hsp : a = ⟨a.block, a.off, none⟩ := by
                  have hg := hget 0 (by omega)
                  have hek : elems[0]? = some (elems[0]'(by omega)) := List.getElem?_eq_getElem (by omega)
                  rw [hek, Option.bind_eq_some_iff] at hg
                  obtain ⟨cs', hcs', _⟩ := hg
                  obtain ⟨_, hcl, hcc⟩ := World.cells?_some hcs'
                  have hc0 := hcc 0 (by omega)
                  have : cs'[0]? = some (cs'[0]'(by omega)) := List.getElem?_eq_getElem (by omega)
                  rw [this, Nat.zero_mul] at hc0
                  exact no_spot (a := a) hc0
                have e : VR (iotaZ GG (cellsW W)) (.func (.yield len) #[.agg ⟨exL l⟩] #[]) (.slice (some ⟨a.block, a.off, none⟩) len cap) := .dat (zs := zs) len cap hlc i4 i3
                rw [← hsp] at e
                exact e
          obtain ⟨l, ca, g4, va, hal, hread⟩ := args
          have k4 := one_cell g4
          have hcs := five hl k0 k1 k2 k3 k4
          refine ⟨.mk op neg num den l, ?_, .mk hop (by omega) (by omega) hn hd hal hread⟩
          rw [hcs]
          exact .cons (.int _ _) (.cons (.bool _) (.cons vn (.cons vd (.cons va .nil))))
theorem ex_ok (fuel : Nat) : ∀ {cs : List Value} {x : DataW H × List MemPlace}, DataW.trod enc PP W 0 (fun _ => true) true fuel 31 cs = some x → Rows.uptoBulk x.1 ≤ 1048576 →
    ∃ e : Ex, VRL (iotaZ GG (cellsW W)) e.nd.cells cs ∧ Read e := by
  induction fuel with
  | zero => intro cs x h _; simp [DataW.trod] at h
  | succ n ih => intro cs x h hb; exact ex_step ih h hb
end Rd
#print axioms Rd.ex_ok
end Go.Proofs.YtihloomkgpflmaaGreatDoor
