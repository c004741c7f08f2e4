/-
  surdref01's Int.
  THE NUMBER THAT DIGITS SAY: plain laws of the references' reckoning.
  TREES: the program's expressions and the references', as values; what is known of functions over them.
  WHAT THE FUNCTIONS OF THE LAW RECKON, in plain words.
  surdref01's Div and Gcd.
-/
import Derived.Test.YtihloomkgpflmaaGreatDoorW1
import Derived.Test.YtihloomkgpflmaaGreatDoorV13
set_option linter.unusedSimpArgs false
set_option linter.unusedVariables false
namespace Go.Proofs.YtihloomkgpflmaaGreatDoor
open Go.Proofs.YtihloomkgpflmaaGreatDoor.Vm
variable {tabs : List (Nat × List Value)}
theorem uInt : PP.underlying 3 = some (.int .i64) := by kernel_rfl
theorem uUint : PP.underlying 59 = some (.int .u64) := by kernel_rfl
theorem conv_u64 {n : Nat} (h : n < 18446744073709551616) : aConv PP 3 59 (i64 n) = some (u64 n) := by
  have := keep_u64 (n := n)
  rw [Nat.mod_eq_of_lt h] at this
  simp only [aConv, uInt, uUint, this]
def intN (n : Nat) : List Nat := ofN [n]
theorem int_q (n : Nat) (r : List Nat) : ends PP XX GG 5 (door PP 42 [i64 n] .nil GG) [.go, .go, .val (u64 n), .go, .mem (natV r) (mkM [(4, .frz [u64 n])]) (GG + 1), .go] [2] [] =
  some (natV r, mkM [], [.conv 3 59 (i64 n) (u64 n), .call 16 [.slice (some ⟨256 * 4, 0, none⟩) 1 1] (mkM [(4, .cells false [u64 n])]) (GG + 1) (natV r) (mkM [(4, .frz [u64 n])]) (GG + 1)]) := by kernel_rfl
theorem int_ok (n : Nat) (h : n < 9223372036854775808) : PureOk PP GG tabs 42 [i64 n] (natV (intN n)) := by
  refine PureOk.of' ?_ (nl_nat _) (by kernel_rfl) ?_
  · intro x hx
    simp at hx
    subst hx
    exact nl_int
  · refine PT.ends (envOf F2_ok) (int_q n (intN n)) ⟨conv_u64 (by omega), ?_⟩ .same
    refine sm_own (l := [n]) (by rfl) (by simp) ?_ (by rfl)
    exact F2_Of (by simp; omega) (by simp)
#print axioms int_ok
end Go.Proofs.YtihloomkgpflmaaGreatDoor

namespace Go.Proofs.YtihloomkgpflmaaGreatDoor
/-- The number of some digits. -/
def val : List Nat → Nat
  | [] => 0
  | x :: l => x + 4294967296 * val l
theorem val_append (a b : List Nat) : val (a ++ b) = val a + 4294967296 ^ a.length * val b := by
  induction a with
  | nil => simp [val]
  | cons x a ih =>
    simp only [List.cons_append, val, ih, List.length_cons, Nat.pow_succ, Nat.mul_add, Nat.add_assoc]
    congr 2
    rw [← Nat.mul_assoc, Nat.mul_comm 4294967296]
theorem val_zeros (n : Nat) : val (List.replicate n 0) = 0 := by
  induction n with
  | zero => rfl
  | succ n ih => simp [List.replicate_succ, val, ih]
theorem take_top (l : List Nat) : ∀ k, k ≤ l.length → l.take k = l.take (top l k) ++ List.replicate (k - top l k) 0
  | 0, _ => by simp [top]
  | k + 1, h => by
    unfold top
    by_cases h0 : l[k]? = some 0
    · rw [if_pos h0, List.take_add_one, take_top l k (by omega), h0]
      have := top_le l k
      have e : k + 1 - top l k = (k - top l k) + 1 := by omega
      rw [e, List.replicate_succ', List.append_assoc]
      rfl
    · rw [if_neg h0]; simp
theorem val_norm (l : List Nat) : val (norm l) = val l := by
  have := take_top l l.length (Nat.le_refl _)
  rw [List.take_length] at this
  unfold norm
  conv => rhs; rw [this]
  rw [val_append, val_zeros]; simp
theorem Digs.take {l : List Nat} (h : Digs l) (k : Nat) : Digs (l.take k) := fun x hx => h x (List.mem_of_mem_take hx)
theorem Digs.norm {l : List Nat} (h : Digs l) : Digs (norm l) := h.take _
theorem val_lt {l : List Nat} (h : Digs l) : val l < 4294967296 ^ l.length := by
  induction l with
  | nil => simp [val]
  | cons x l ih =>
    have h1 := h x List.mem_cons_self
    have h2 := ih fun y hy => h y (List.mem_cons_of_mem _ hy)
    simp only [val, List.length_cons, Nat.pow_succ]
    have : val l + 1 ≤ 4294967296 ^ l.length := h2
    omega

/-- The number of the first i digits. -/
def vpre (a : List Nat) : Nat → Nat
  | 0 => 0
  | i + 1 => vpre a i + 4294967296 ^ i * dig a i
theorem vpre_take (a : List Nat) : ∀ i, i ≤ a.length → vpre a i = val (a.take i)
  | 0, _ => by simp [vpre, val]
  | i + 1, h => by
    have e : dig a i = a[i] := by simp [dig, List.getElem?_eq_getElem (show i < a.length by omega)]
    rw [List.take_add_one, List.getElem?_eq_getElem (show i < a.length by omega), val_append]
    simp [vpre, vpre_take a i (by omega), e, val, Nat.min_eq_left (show i ≤ a.length by omega)]
theorem vpre_all (a : List Nat) : ∀ d, vpre a (a.length + d) = val a
  | 0 => by rw [Nat.add_zero, vpre_take a _ (Nat.le_refl _), List.take_length]
  | d + 1 => by
    have e : dig a (a.length + d) = 0 := by simp [dig]
    show vpre a (a.length + d) + _ * dig a (a.length + d) = _
    rw [vpre_all a d, e]; simp
theorem vpre_ge {a : List Nat} {i : Nat} (h : a.length ≤ i) : vpre a i = val a := by
  obtain ⟨d, rfl⟩ : ∃ d, i = a.length + d := ⟨i - a.length, by omega⟩
  exact vpre_all a d
theorem addO_val (a b : List Nat) : ∀ i, val (addO a b i) + 4294967296 ^ i * addC a b i = vpre a i + vpre b i
  | 0 => by simp [addO, val, addC, vpre]
  | i + 1 => by
    have e : addO a b (i + 1) = addO a b i ++ [(dig a i + dig b i + addC a b i) % 4294967296] := by simp [addO, List.range_succ]
    have ih := addO_val a b i
    have hl : (addO a b i).length = i := by simp [addO]
    rw [e, val_append, hl]
    simp only [val, Nat.mul_zero, Nat.add_zero, addC, vpre, Nat.pow_succ]
    have h := Nat.mod_add_div (dig a i + dig b i + addC a b i) 4294967296
    have h' : 4294967296 ^ i * ((dig a i + dig b i + addC a b i) % 4294967296) + 4294967296 ^ i * 4294967296 * ((dig a i + dig b i + addC a b i) / 4294967296) = 4294967296 ^ i * dig a i + 4294967296 ^ i * dig b i + 4294967296 ^ i * addC a b i := by
      rw [Nat.mul_assoc, ← Nat.mul_add, h, Nat.mul_add, Nat.mul_add]
    omega

theorem dig_out {a : List Nat} {i : Nat} (h : a.length ≤ i) : dig a i = 0 := by
  unfold dig; rw [List.getElem?_eq_none h]; rfl
theorem addC_top {a b : List Nat} (ha : Digs a) (hb : Digs b) {m : Nat} (h1 : a.length ≤ m) (h2 : b.length ≤ m) : addC a b (m + 1) = 0 := by
  show (dig a m + dig b m + addC a b m) / 4294967296 = 0
  rw [dig_out h1, dig_out h2]
  exact Nat.div_eq_of_lt (by have := addC_le ha hb m; omega)
theorem addN_val {a b : List Nat} (ha : Digs a) (hb : Digs b) : val (addN a b) = val a + val b := by
  have h := addO_val a b (max a.length b.length + 1)
  rw [addC_top ha hb (Nat.le_max_left ..) (Nat.le_max_right ..), Nat.mul_zero, Nat.add_zero, vpre_ge (Nat.le_succ_of_le (Nat.le_max_left ..)), vpre_ge (Nat.le_succ_of_le (Nat.le_max_right ..))] at h
  exact (val_norm _).trans h

/-! ### Sub -/
theorem sub_key {x y c : Nat} (hx : x < 4294967296) (hy : y < 4294967296) (hc : c ≤ 1) : (x + 4294967296 - y - c) % 4294967296 + y + c = x + 4294967296 * (1 - (x + 4294967296 - y - c) / 4294967296) := by
  rcases Nat.lt_or_ge x (y + c) with h | h
  · rw [Nat.mod_eq_of_lt (by omega), Nat.div_eq_of_lt (by omega)]; omega
  · have e : x + 4294967296 - y - c = (x - y - c) + 4294967296 * 1 := by omega
    rw [e, Nat.add_mul_mod_self_left, Nat.add_mul_div_left _ _ (by omega), Nat.mod_eq_of_lt (by omega), Nat.div_eq_of_lt (by omega)]; omega
theorem mul_key {B m y c x u : Nat} (h : m + y + c = x + 4294967296 * u) : B * m + B * y + B * c = B * x + B * 4294967296 * u := by
  rw [Nat.mul_assoc, ← Nat.mul_add, ← Nat.mul_add, ← Nat.mul_add, h]
theorem sum_key {V B m w y z x u c : Nat} (ih : V + w = z + B * c) (k : B * m + B * y + B * c = B * x + B * 4294967296 * u) : V + B * m + (w + B * y) = z + B * x + B * 4294967296 * u := by omega
theorem subO_succ (a b : List Nat) (i : Nat) : subO a b (i + 1) = subO a b i ++ [(dig a i + 4294967296 - dig b i - subC a b i) % 4294967296] := by
  unfold subO
  rw [List.range_succ, List.map_append]
  rfl
theorem val_one (a : List Nat) (x : Nat) : val (a ++ [x]) = val a + 4294967296 ^ a.length * x := by
  rw [val_append]
  show _ + _ * (x + 4294967296 * 0) = _
  rw [Nat.mul_zero, Nat.add_zero]
theorem subO_val {a b : List Nat} (ha : Digs a) (hb : Digs b) : ∀ i, val (subO a b i) + vpre b i = vpre a i + 4294967296 ^ i * subC a b i
  | 0 => by simp [subO, val, subC, vpre]
  | i + 1 => by
    have ih := subO_val ha hb i
    have hl : (subO a b i).length = i := by simp [subO]
    have h3 := mul_key (B := 4294967296 ^ i) (sub_key (ha.dig i) (hb.dig i) (subC_le a b i))
    rw [subO_succ, val_one, hl, Nat.pow_succ]
    exact sum_key ih h3
theorem subN_val {a b : List Nat} (ha : Digs a) (hb : Digs b) (h : val b ≤ val a) (hl : b.length ≤ a.length) : val (subN a b) = val a - val b := by
  have h1 := subO_val ha hb a.length
  rw [vpre_ge hl, vpre_ge (Nat.le_refl _)] at h1
  have h2 : val (subO a b a.length) < 4294967296 ^ a.length := by
    have hd : Digs (subO a b a.length) := by
      intro x hx
      obtain ⟨j, _, rfl⟩ := List.mem_map.1 hx
      exact Nat.mod_lt _ (by omega)
    have h5 := val_lt hd
    have hl : (subO a b a.length).length = a.length := by simp [subO]
    rwa [hl] at h5
  have h3 := subC_le a b a.length
  have h4 : subC a b a.length = 0 := by
    generalize 4294967296 ^ a.length = B at h1 h2
    cases hc : subC a b a.length with
    | zero => rfl
    | succ c =>
      have hc0 : c = 0 := by omega
      subst hc0
      rw [hc, Nat.mul_one] at h1
      omega
  rw [h4, Nat.mul_zero, Nat.add_zero] at h1
  unfold subN
  rw [val_norm]
  omega

/-! ### Shl, Cmp, normal numbers -/
theorem val_set {l : List Nat} : ∀ {i x : Nat}, i < l.length → val (l.set i x) + 4294967296 ^ i * dig l i = val l + 4294967296 ^ i * x := by
  induction l with
  | nil => intro i x h; simp at h
  | cons y l ih =>
    intro i x h
    cases i with
    | zero => simp [val, dig]; omega
    | succ i =>
      have := ih (i := i) (x := x) (by simpa using h)
      have e : dig (y :: l) (i + 1) = dig l i := by simp [dig]
      rw [e]
      simp only [List.set_cons_succ, val, Nat.pow_succ]
      generalize 4294967296 ^ i = B at this ⊢
      have h1 : B * 4294967296 * dig l i = 4294967296 * (B * dig l i) := by rw [Nat.mul_comm B, Nat.mul_assoc]
      have h2 : B * 4294967296 * x = 4294967296 * (B * x) := by rw [Nat.mul_comm B, Nat.mul_assoc]
      rw [h1, h2]
      omega
theorem dig_set_ne {l : List Nat} {i j x : Nat} (h : i ≠ j) : dig (l.set i x) j = dig l j := by simp [dig, List.getElem?_set_ne h]
theorem shlO_val {a : List Nat} (ha : Digs a) (s : Nat) : ∀ i, i ≤ a.length → val (shlO a s i) = vpre a i * 4294967296 ^ (s / 32) * 2 ^ (s % 32)
    ∧ (i < a.length → ∀ j, i + s / 32 < j → dig (shlO a s i) j = 0)
  | 0, _ => ⟨by simp only [shlO, val_zeros, vpre, Nat.zero_mul], fun _ j _ => by
      simp only [shlO, dig, List.getElem?_replicate]; split <;> rfl⟩
  | i + 1, h => by
    obtain ⟨ih, hz⟩ := shlO_val ha s i (by omega)
    obtain ⟨hl, hd, hlt⟩ := shlO_ok ha s i (by omega)
    have hz' := hz (by omega) (i + s / 32 + 1) (by omega)
    constructor
    · show val (((shlO a s i).set (i + s / 32) (dig (shlO a s i) (i + s / 32) + dig a i * 2 ^ (s % 32) % 4294967296)).set (i + s / 32 + 1) (dig a i * 2 ^ (s % 32) / 4294967296)) = (vpre a i + 4294967296 ^ i * dig a i) * 4294967296 ^ (s / 32) * 2 ^ (s % 32)
      have e1 := val_set (l := shlO a s i) (i := i + s / 32) (x := dig (shlO a s i) (i + s / 32) + dig a i * 2 ^ (s % 32) % 4294967296) (by omega)
      have e2 := val_set (l := (shlO a s i).set (i + s / 32) (dig (shlO a s i) (i + s / 32) + dig a i * 2 ^ (s % 32) % 4294967296)) (i := i + s / 32 + 1) (x := dig a i * 2 ^ (s % 32) / 4294967296) (by simp [hl]; omega)
      rw [dig_set_ne (by omega), hz', Nat.mul_zero, Nat.add_zero] at e2
      rw [e2]
      have h3 := Nat.mod_add_div (dig a i * 2 ^ (s % 32)) 4294967296
      generalize dig a i * 2 ^ (s % 32) % 4294967296 = m at *
      generalize hq : dig a i * 2 ^ (s % 32) / 4294967296 = q at *
      rw [ih] at e1
      rw [Nat.add_mul, Nat.add_mul]
      have h4 : 4294967296 ^ i * dig a i * 4294967296 ^ (s / 32) * 2 ^ (s % 32) = 4294967296 ^ (i + s / 32) * (dig a i * 2 ^ (s % 32)) := by
        rw [Nat.pow_add]
        generalize 4294967296 ^ i = A
        generalize 4294967296 ^ (s / 32) = B
        generalize 2 ^ (s % 32) = C
        simp only [Nat.mul_assoc, Nat.mul_left_comm, Nat.mul_comm]
      rw [h4, ← h3, Nat.pow_succ]
      generalize 4294967296 ^ (i + s / 32) = B at *
      rw [Nat.mul_add] at e1 ⊢
      rw [Nat.mul_assoc]
      omega
    · intro h2 j hj
      show dig (((shlO a s i).set (i + s / 32) _).set (i + s / 32 + 1) _) j = 0
      rw [dig_set_ne (by omega), dig_set_ne (by omega)]
      exact hz (by omega) j (by omega)
theorem shlN_val {a : List Nat} (ha : Digs a) (s : Nat) : val (shlN a s) = val a * 2 ^ s := by
  unfold shlN
  split
  · rename_i h
    have : a = [] := List.length_eq_zero_iff.1 h
    subst this
    simp [val]
  · rw [val_norm, (shlO_val ha s a.length (Nat.le_refl _)).1, vpre_ge (Nat.le_refl _), Nat.mul_assoc]
    congr 1
    have e : (4294967296 : Nat) = 2 ^ 32 := rfl
    rw [e, ← Nat.pow_mul, ← Nat.pow_add]
    congr 1
    omega
theorem shlN_digs {a : List Nat} (ha : Digs a) (s : Nat) : Digs (shlN a s) := by
  unfold shlN
  split
  · intro x hx; simp at hx
  · exact (shlO_ok ha s a.length (Nat.le_refl _)).2.1.norm
theorem norm_length (l : List Nat) : (norm l).length ≤ l.length := by simp [norm]; have := top_le l l.length; omega
theorem shlN_length {a : List Nat} (ha : Digs a) (s : Nat) : (shlN a s).length ≤ a.length + s / 32 + 1 := by
  unfold shlN
  split
  · simp
  · have := norm_length (shlO a s a.length)
    have := (shlO_ok ha s a.length (Nat.le_refl _)).1
    omega
theorem addN_digs (a b : List Nat) : Digs (addN a b) := by
  refine Digs.norm fun x hx => ?_
  obtain ⟨j, _, rfl⟩ := List.mem_map.1 hx
  exact Nat.mod_lt _ (by omega)
theorem addN_length (a b : List Nat) : (addN a b).length ≤ max a.length b.length + 1 := by
  have := norm_length (addO a b (max a.length b.length + 1))
  have e : (addO a b (max a.length b.length + 1)).length = max a.length b.length + 1 := by simp [addO]
  unfold addN; omega
theorem subN_digs (a b : List Nat) : Digs (subN a b) := by
  refine Digs.norm fun x hx => ?_
  obtain ⟨j, _, rfl⟩ := List.mem_map.1 hx
  exact Nat.mod_lt _ (by omega)
theorem subN_length (a b : List Nat) : (subN a b).length ≤ a.length := by
  have := norm_length (subO a b a.length)
  have e : (subO a b a.length).length = a.length := by simp [subO]
  unfold subN; omega
/-- No nought at the top. -/
def Nrm (l : List Nat) : Prop := ∀ k, l.length = k + 1 → dig l k ≠ 0
theorem top_nz (l : List Nat) : ∀ k j, top l k = j + 1 → k ≤ l.length → dig l j ≠ 0
  | 0, j, h, _ => by simp [top] at h
  | k + 1, j, h, hk => by
    unfold top at h
    split at h
    · exact top_nz l k j h (by omega)
    · rename_i h0
      have : j = k := by omega
      subst this
      intro hd
      apply h0
      unfold dig at hd
      rw [List.getElem?_eq_getElem (by omega)] at hd ⊢
      simpa using hd
theorem norm_nrm (l : List Nat) : Nrm (norm l) := by
  intro k hk
  have h1 : (norm l).length = top l l.length := by rw [norm, List.length_take]; exact Nat.min_eq_left (top_le l l.length)
  have h2 : dig (norm l) k = dig l k := by
    unfold norm dig
    rw [List.getElem?_take_of_lt (by omega)]
  rw [h2]
  exact top_nz l l.length k (by omega) (Nat.le_refl _)
theorem shlN_nrm (a : List Nat) (s : Nat) : Nrm (shlN a s) := by
  unfold shlN
  split
  · intro k hk; simp at hk
  · exact norm_nrm _
theorem vpre_le (a : List Nat) {i j : Nat} (h : i ≤ j) : vpre a i ≤ vpre a j := by
  induction h with
  | refl => exact Nat.le_refl _
  | step _ ih => exact Nat.le_trans ih (by simp [vpre])
theorem vpre_lt {a : List Nat} (ha : Digs a) : ∀ i, vpre a i < 4294967296 ^ i
  | 0 => by simp [vpre]
  | i + 1 => by
    have := vpre_lt ha i
    have h := ha.dig i
    simp only [vpre, Nat.pow_succ]
    generalize 4294967296 ^ i = B at *
    have : B * dig a i + B ≤ B * 4294967296 := by
      have : B * (dig a i + 1) ≤ B * 4294967296 := Nat.mul_le_mul_left _ (by omega)
      rw [Nat.mul_add, Nat.mul_one] at this
      exact this
    omega
theorem val_ge_top {a : List Nat} {k : Nat} (h : a.length = k + 1) (hn : Nrm a) : 4294967296 ^ k ≤ val a := by
  have h1 := hn k h
  have h2 : vpre a (k + 1) = val a := vpre_ge (by omega)
  have h3 : vpre a (k + 1) = vpre a k + 4294967296 ^ k * dig a k := rfl
  have h4 : 4294967296 ^ k * 1 ≤ 4294967296 ^ k * dig a k := Nat.mul_le_mul_left _ (by omega)
  rw [← h2, h3]
  generalize 4294967296 ^ k = B at *
  omega
/-- A longer number is a greater one. -/
theorem val_longer {a b : List Nat} (hb : Digs b) (ha : Nrm a) (h : b.length < a.length) : val b < val a := by
  obtain ⟨k, hk⟩ : ∃ k, a.length = k + 1 := ⟨a.length - 1, by omega⟩
  have h1 := val_ge_top hk ha
  have h2 := val_lt hb
  have h3 : 4294967296 ^ b.length ≤ 4294967296 ^ k := Nat.pow_le_pow_right (by omega) (by omega)
  exact Nat.lt_of_lt_of_le (Nat.lt_of_lt_of_le h2 h3) h1
theorem length_le_of_val {a b : List Nat} (hb : Digs b) (ha : Nrm a) (h : val a ≤ val b) : a.length ≤ b.length := by
  rcases Nat.lt_or_ge b.length a.length with e | e
  · have := val_longer hb ha e; omega
  · exact e
theorem cmpD_spec {a b : List Nat} (ha : Digs a) (hb : Digs b) : ∀ k, (0 ≤ cmpD a b k ↔ vpre b k ≤ vpre a k)
  | 0 => by simp [cmpD, vpre]
  | k + 1 => by
    have ih := cmpD_spec ha hb k
    have h1 := vpre_lt ha k
    have h2 := vpre_lt hb k
    unfold cmpD
    simp only [vpre]
    generalize 4294967296 ^ k = B at *
    have mono : ∀ x y : Nat, x < y → B * x + B ≤ B * y := fun x y h => by
      have : B * (x + 1) ≤ B * y := Nat.mul_le_mul_left _ h
      rwa [Nat.mul_add, Nat.mul_one] at this
    split
    · rename_i h
      have := mono _ _ h
      constructor
      · intro h; exact absurd h (by decide)
      · intro h; omega
    · split
      · rename_i h
        have := mono _ _ h
        constructor
        · intro _; omega
        · intro _; decide
      · have e : dig a k = dig b k := by omega
        rw [e, ih]; omega
theorem cmpN_spec {a b : List Nat} (ha : Digs a) (hb : Digs b) (na : Nrm a) (nb : Nrm b) : 0 ≤ cmpN a b ↔ val b ≤ val a := by
  unfold cmpN
  split
  · rename_i h
    rw [cmpD_spec ha hb, vpre_ge (Nat.le_refl _), vpre_ge (by omega)]
  · split
    · rename_i h
      have := val_longer ha nb h
      constructor
      · intro h; exact absurd h (by decide)
      · intro h; omega
    · have := val_longer hb na (show b.length < a.length by omega)
      constructor
      · intro _; omega
      · intro _; decide
theorem cmpD_self (a : List Nat) : ∀ k, cmpD a a k = 0
  | 0 => rfl
  | k + 1 => by unfold cmpD; simp [cmpD_self a k]
theorem cmpN_self (a : List Nat) : cmpN a a = 0 := by simp [cmpN, cmpD_self]

/-! ### Div -/
/-- The places s - 1 to 0 of a digit of the quotient. -/
def divI (b : List Nat) : Nat → List Nat → Nat → List Nat × Nat
  | 0, r, q => (r, q)
  | s + 1, r, q => if 0 ≤ cmpN r (shlN b s) then divI b s (subN r (shlN b s)) (q + 2 ^ s) else divI b s r q
/-- A digit: the rest and the digit. -/
def divD (b r : List Nat) (d : Nat) : List Nat × Nat :=
  if 0 ≤ cmpN (addN (shlN r 32) (norm [d])) b then divI b 32 (addN (shlN r 32) (norm [d])) 0 else (addN (shlN r 32) (norm [d]), 0)
/-- The rest behind the digits from k on. -/
def divR (a b : List Nat) : Nat → List Nat
  | 0 => []
  | d + 1 => (divD b (divR a b d) (dig a (a.length - 1 - d))).1
/-- The quotient's digit of place a.length - 1 - d. -/
def divQ (a b : List Nat) (d : Nat) : Nat := (divD b (divR a b d) (dig a (a.length - 1 - d))).2
def divO (a b : List Nat) : List Nat := (List.range a.length).map fun j => divQ a b (a.length - 1 - j)
def quoN (a b : List Nat) : List Nat := norm (divO a b)
def remN (a b : List Nat) : List Nat := divR a b a.length
/-- What a rest is. -/
structure Rst (b r : List Nat) : Prop where
  digs : Digs r
  nrm : Nrm r
  lt : val r < val b
theorem divI_ok {b : List Nat} (hb : Digs b) : ∀ s, s ≤ 32 → ∀ {r : List Nat} {q : Nat}, Digs r → Nrm r → val r < val b * 2 ^ s → q + 2 ^ s ≤ 4294967296 → Rst b (divI b s r q).1 ∧ (divI b s r q).2 < 4294967296
  | 0, _, r, q, h1, h2, h3, h4 => ⟨⟨h1, h2, by rw [Nat.pow_zero, Nat.mul_one] at h3; exact h3⟩, by rw [Nat.pow_zero] at h4; exact h4⟩
  | s + 1, hs, r, q, h1, h2, h3, h4 => by
    unfold divI
    have hx := shlN_digs hb s
    have nx := shlN_nrm b s
    have vx := shlN_val hb s
    have hc := cmpN_spec h1 hx h2 nx
    have hp : 2 ^ (s + 1) = 2 ^ s + 2 ^ s := by rw [Nat.pow_succ]; omega
    rw [hp, Nat.mul_add] at h3
    rw [hp] at h4
    have hpos : 0 < 2 ^ s := Nat.pow_pos (by omega)
    split
    · rename_i h
      have hv := hc.1 h
      refine divI_ok hb s (by omega) (subN_digs _ _) (norm_nrm _) ?_ (by omega)
      rw [subN_val h1 hx hv (length_le_of_val h1 nx hv), vx]
      rw [vx] at hv
      omega
    · rename_i h
      have hv : ¬ val (shlN b s) ≤ val r := fun e => h (hc.2 e)
      rw [vx] at hv
      exact divI_ok hb s (by omega) h1 h2 (by omega) (by omega)
theorem norm_one {d : Nat} (h : d < 4294967296) : Digs (norm [d]) ∧ val (norm [d]) = d ∧ (norm [d]).length ≤ 1 := by
  refine ⟨Digs.norm (fun x hx => by simp at hx; omega), by rw [val_norm]; simp [val], ?_⟩
  have := norm_length [d]; simpa using this
theorem divD_ok {b r : List Nat} (hb : Digs b) (nb : Nrm b) (hr : Rst b r) {d : Nat} (hd : d < 4294967296) : Rst b (divD b r d).1 ∧ (divD b r d).2 < 4294967296 := by
  obtain ⟨n1, n2, n3⟩ := norm_one hd
  have hs := shlN_digs hr.digs 32
  have ha := addN_digs (shlN r 32) (norm [d])
  have na : Nrm (addN (shlN r 32) (norm [d])) := norm_nrm _
  have va : val (addN (shlN r 32) (norm [d])) = val r * 2 ^ 32 + d := by rw [addN_val hs n1, shlN_val hr.digs, n2]
  have hc := cmpN_spec ha hb na nb
  unfold divD
  split
  · refine divI_ok hb 32 (Nat.le_refl _) ha na ?_ (by decide)
    rw [va]
    have := hr.lt
    omega
  · rename_i h
    refine ⟨⟨ha, na, ?_⟩, by simp⟩
    have : ¬ val b ≤ val (addN (shlN r 32) (norm [d])) := fun e => h (hc.2 e)
    show val (addN (shlN r 32) (norm [d])) < val b
    omega
theorem divR_ok {a b : List Nat} (ha : Digs a) (hb : Digs b) (nb : Nrm b) (h0 : 0 < val b) : ∀ d, Rst b (divR a b d)
  | 0 => ⟨fun x hx => by simp [divR] at hx, fun k hk => by simp [divR] at hk, by simpa [divR, val] using h0⟩
  | d + 1 => (divD_ok hb nb (divR_ok ha hb nb h0 d) (ha.dig _)).1
theorem divQ_lt {a b : List Nat} (ha : Digs a) (hb : Digs b) (nb : Nrm b) (h0 : 0 < val b) (d : Nat) : divQ a b d < 4294967296 :=
  (divD_ok hb nb (divR_ok ha hb nb h0 d) (ha.dig _)).2
theorem quoN_digs {a b : List Nat} (ha : Digs a) (hb : Digs b) (nb : Nrm b) (h0 : 0 < val b) : Digs (quoN a b) := by
  refine Digs.norm fun x hx => ?_
  obtain ⟨j, _, rfl⟩ := List.mem_map.1 hx
  exact divQ_lt ha hb nb h0 _
theorem quoN_length (a b : List Nat) : (quoN a b).length ≤ a.length := by
  have := norm_length (divO a b)
  have e : (divO a b).length = a.length := by simp [divO]
  unfold quoN; omega
theorem val_pos {b : List Nat} (nb : Nrm b) (h : b ≠ []) : 0 < val b := by
  obtain ⟨k, hk⟩ : ∃ k, b.length = k + 1 := ⟨b.length - 1, by have := List.length_pos_iff.2 h; omega⟩
  have := val_ge_top hk nb
  have : 0 < 4294967296 ^ k := Nat.pow_pos (by omega)
  omega

/-! ### Gcd -/
def gcdF : Nat → List Nat → List Nat → List Nat
  | 0, a, _ => a
  | n + 1, a, b => if b.length = 0 then a else gcdF n b (remN a b)
def gcdN (a b : List Nat) : List Nat := gcdF (val b + 1) a b
theorem gcdF_ok : ∀ (n : Nat) {a b : List Nat}, Digs a → Digs b → Nrm a → Nrm b → val b < n → Digs (gcdF n a b) ∧ Nrm (gcdF n a b) ∧ (a ≠ [] → gcdF n a b ≠ [])
  | 0, a, b, _, _, _, _, h => by omega
  | n + 1, a, b, ha, hb, na, nb, h => by
    unfold gcdF
    split
    · exact ⟨ha, na, fun h => h⟩
    · rename_i hl
      have hne : b ≠ [] := fun e => hl (by rw [e]; rfl)
      have hr := divR_ok ha hb nb (val_pos nb hne) a.length
      have := gcdF_ok n (a := b) (b := remN a b) hb hr.digs nb hr.nrm (by have := hr.lt; unfold remN; omega)
      exact ⟨this.1, this.2.1, fun _ => this.2.2 hne⟩
end Go.Proofs.YtihloomkgpflmaaGreatDoor

namespace Go.Proofs.YtihloomkgpflmaaGreatDoor
open Go.Proofs.YtihloomkgpflmaaGreatDoor.Vm
variable {tabs : List (Nat × List Value)}

/-! ### what is known, by what goes in -/
/-- Arguments that are some x with c answer r x. -/
noncomputable def eI {α : Type} (enc : α → List Value) (c : α → Prop) (r : α → Value) : List Value → Option Value :=
  fun aa => open Classical in if h : ∃ x, enc x = aa ∧ c x then some (r h.choose) else none
theorem eI_ok {α : Type} {f : FuncId} {enc : α → List Value} {c : α → Prop} {r : α → Value} (h : ∀ x, c x → PureOk PP GG tabs f (enc x) (r x)) : ∀ aa v, eI enc c r aa = some v → PureOk PP GG tabs f aa v := by
  intro aa v hv
  unfold eI at hv
  split at hv
  · rename_i hx
    simp at hv; subst hv
    obtain ⟨h1, h2⟩ := hx.choose_spec
    have := h _ h2
    rw [h1] at this
    exact this
  · cases hv
theorem eI_of {α : Type} {enc : α → List Value} {c : α → Prop} {r : α → Value} (hi : ∀ x y, enc x = enc y → x = y) {x : α} (hc : c x) : eI enc c r (enc x) = some (r x) := by
  have hx : ∃ y, enc y = enc x ∧ c y := ⟨x, rfl, hc⟩
  unfold eI
  rw [dif_pos hx, hi _ _ hx.choose_spec.1]
theorem add_same {F : Known} {f : FuncId} {e : List Value → Option Value} {aa : List Value} : (F.add f e) f aa = e aa := by
  show (bif Nat.beq f f then e aa else F f aa) = e aa
  rw [Nat.beq_refl]; rfl
theorem add_other {F : Known} {f g : FuncId} {e : List Value → Option Value} {aa : List Value} (h : Nat.beq g f = false) : (F.add f e) g aa = F g aa := by
  show (bif Nat.beq g f then e aa else F g aa) = F g aa
  rw [h]; rfl

/-! ### nodes -/
structure Nd where
  op : Int
  neg : Bool
  num : List Nat
  den : List Nat
  n : Nat
  cs : List Value
abbrev Nd.cells (d : Nd) : List Value := [.int .i64 d.op, .bool d.neg, natV d.num, natV d.den, mkDat d.n d.cs]
abbrev Nd.val (d : Nd) : Value := .agg ⟨d.cells⟩
structure Rd where
  op : Int
  neg : Bool
  nn : List Nat
  dd : List Nat
  bad : Bool
  n : Nat
  cs : List Value
abbrev Rd.cells (d : Rd) : List Value := [.int .i64 d.op, .bool d.neg, natV d.nn, natV d.dd, .bool d.bad, mkDat d.n d.cs]
abbrev Rd.val (d : Rd) : Value := .agg ⟨d.cells⟩
/-- A rational of the references. -/
abbrev rV (neg : Bool) (n d : List Nat) : Value := .agg ⟨[.bool neg, natV n, natV d]⟩

/-! ### trees -/
inductive Ex where
  | mk (op : Int) (neg : Bool) (num den : List Nat) (args : List Ex)
inductive Er where
  | mk (op : Int) (neg : Bool) (nn dd : List Nat) (bad : Bool) (args : List Er)
mutual
def Ex.nd : Ex → Nd
  | .mk op neg num den args => ⟨op, neg, num, den, args.length, exL args⟩
def exL : List Ex → List Value
  | [] => []
  | a :: l => a.nd.cells ++ exL l
end
mutual
def Er.nd : Er → Rd
  | .mk op neg nn dd bad args => ⟨op, neg, nn, dd, bad, args.length, erL args⟩
def erL : List Er → List Value
  | [] => []
  | a :: l => a.nd.cells ++ erL l
end
theorem natV_inj {a b : List Nat} (h : natV a = natV b) : a = b := by
  have h1 := decN_nat a
  rw [h, decN_nat] at h1
  simpa using h1.symm
theorem exL_drop : ∀ (l : List Ex) (i : Nat) (h : i < l.length), (exL l).drop (i * 5) = (l[i]).nd.cells ++ exL (l.drop (i + 1))
  | [], i, h => by simp at h
  | a :: l, 0, _ => by simp [exL]
  | a :: l, i + 1, h => by
    have e : (i + 1) * 5 = (a.nd.cells).length + i * 5 := by simp [Nd.cells]; omega
    have := exL_drop l i (by simpa using h)
    simp only [exL, List.getElem_cons_succ, List.drop_succ_cons]
    rw [e, List.drop_append, List.drop_of_length_le (Nat.le_add_right _ _), Nat.add_sub_cancel_left, this, List.nil_append]
theorem erL_drop : ∀ (l : List Er) (i : Nat) (h : i < l.length), (erL l).drop (i * 6) = (l[i]).nd.cells ++ erL (l.drop (i + 1))
  | [], i, h => by simp at h
  | a :: l, 0, _ => by simp [erL]
  | a :: l, i + 1, h => by
    have e : (i + 1) * 6 = (a.nd.cells).length + i * 6 := by simp [Rd.cells]; omega
    have := erL_drop l i (by simpa using h)
    simp only [erL, List.getElem_cons_succ, List.drop_succ_cons]
    rw [e, List.drop_append, List.drop_of_length_le (Nat.le_add_right _ _), Nat.add_sub_cancel_left, this, List.nil_append]
theorem exL_append (l m : List Ex) : exL (l ++ m) = exL l ++ exL m := by
  induction l with
  | nil => rfl
  | cons a l ih => simp [exL, ih]
theorem erL_append (l m : List Er) : erL (l ++ m) = erL l ++ erL m := by
  induction l with
  | nil => rfl
  | cons a l ih => simp [erL, ih]
theorem exL_length (l : List Ex) : (exL l).length = l.length * 5 := by
  induction l with
  | nil => rfl
  | cons a l ih => simp [exL, ih]; omega
theorem erL_length (l : List Er) : (erL l).length = l.length * 6 := by
  induction l with
  | nil => rfl
  | cons a l ih => simp [erL, ih]; omega
theorem exL_take (l : List Ex) : ∀ i, i ≤ l.length → (exL l).take (i * 5) = exL (l.take i) := by
  intro i h
  have : exL l = exL (l.take i) ++ exL (l.drop i) := by rw [← exL_append, List.take_append_drop]
  rw [this, List.take_append_of_le_length (by rw [exL_length]; simp; omega), List.take_of_length_le (by rw [exL_length]; simp; omega)]
theorem erL_take (l : List Er) : ∀ i, i ≤ l.length → (erL l).take (i * 6) = erL (l.take i) := by
  intro i h
  have : erL l = erL (l.take i) ++ erL (l.drop i) := by rw [← erL_append, List.take_append_drop]
  rw [this, List.take_append_of_le_length (by rw [erL_length]; simp; omega), List.take_of_length_le (by rw [erL_length]; simp; omega)]
mutual
theorem Ex.inj : ∀ a b : Ex, a.nd.val = b.nd.val → a = b
  | .mk o n x d l, .mk o' n' x' d' l', h => by
    simp only [Ex.nd, Value.agg.injEq, Array.mk.injEq, List.cons.injEq, Value.int.injEq, Value.bool.injEq, true_and, and_true] at h
    obtain ⟨h1, h2, h3, h4, h5⟩ := h
    have h3 := natV_inj h3
    have h4 := natV_inj h4
    subst h1; subst h2; subst h3; subst h4
    injection h5 with h6 h7 h8
    injection h6 with h6
    simp only [Array.mk.injEq, List.cons.injEq, Value.agg.injEq, and_true] at h7
    rw [exL_inj l l' h6 h7]
theorem exL_inj : ∀ l l' : List Ex, l.length = l'.length → exL l = exL l' → l = l'
  | [], [], _, _ => rfl
  | [], _ :: _, h, _ => by simp at h
  | _ :: _, [], h, _ => by simp at h
  | a :: l, b :: l', h, he => by
    simp only [exL] at he
    obtain ⟨h1, h2⟩ := List.append_inj he (by simp [Nd.cells])
    rw [Ex.inj a b (by show Value.agg ⟨a.nd.cells⟩ = Value.agg ⟨b.nd.cells⟩; rw [h1]), exL_inj l l' (by simpa using h) h2]
end
mutual
theorem Er.inj : ∀ a b : Er, a.nd.val = b.nd.val → a = b
  | .mk o n x d bd l, .mk o' n' x' d' bd' l', h => by
    simp only [Er.nd, Value.agg.injEq, Array.mk.injEq, List.cons.injEq, Value.int.injEq, Value.bool.injEq, true_and, and_true] at h
    obtain ⟨h1, h2, h3, h4, h0, h5⟩ := h
    have h3 := natV_inj h3
    have h4 := natV_inj h4
    subst h1; subst h2; subst h3; subst h4; subst h0
    injection h5 with h6 h7 h8
    injection h6 with h6
    simp only [Array.mk.injEq, List.cons.injEq, Value.agg.injEq, and_true] at h7
    rw [erL_inj l l' h6 h7]
theorem erL_inj : ∀ l l' : List Er, l.length = l'.length → erL l = erL l' → l = l'
  | [], [], _, _ => rfl
  | [], _ :: _, h, _ => by simp at h
  | _ :: _, [], h, _ => by simp at h
  | a :: l, b :: l', h, he => by
    simp only [erL] at he
    obtain ⟨h1, h2⟩ := List.append_inj he (by simp [Rd.cells])
    rw [Er.inj a b (by show Value.agg ⟨a.nd.cells⟩ = Value.agg ⟨b.nd.cells⟩; rw [h1]), erL_inj l l' (by simpa using h) h2]
end

/-! ### trees name no block, and are what they are -/
mutual
/-- How high a tree is. -/
def Ex.high : Ex → Nat
  | .mk _ _ _ _ args => highL args + 1
def highL : List Ex → Nat
  | [] => 0
  | a :: l => max a.high (highL l)
end
mutual
def Er.high : Er → Nat
  | .mk _ _ _ _ _ args => rhighL args + 1
def rhighL : List Er → Nat
  | [] => 0
  | a :: l => max a.high (rhighL l)
end
theorem highL_mem {l : List Ex} {a : Ex} (h : a ∈ l) : a.high ≤ highL l := by
  induction l with
  | nil => cases h
  | cons b l ih =>
    unfold highL
    rcases List.mem_cons.1 h with e | e
    · subst e; omega
    · have := ih e; omega
theorem rhighL_mem {l : List Er} {a : Er} (h : a ∈ l) : a.high ≤ rhighL l := by
  induction l with
  | nil => cases h
  | cons b l ih =>
    unfold rhighL
    rcases List.mem_cons.1 h with e | e
    · subst e; omega
    · have := ih e; omega
def okV (n : Nat) (v : Value) : Bool := plainV n v && nl n v
theorem okV_nat (l : List Nat) (n : Nat) : okV (n + 3) (natV l) = true := by
  have h1 : (l.map u64).all (plainV (n + 1)) = true := List.all_eq_true.2 fun v hv => by
    obtain ⟨x, _, rfl⟩ := List.mem_map.1 hv; rfl
  have h2 : (l.map u64).all (nl (n + 1)) = true := List.all_eq_true.2 fun v hv => by
    obtain ⟨x, _, rfl⟩ := List.mem_map.1 hv; rfl
  simp [okV, plainV, nl] at h1 h2 ⊢
theorem okV_dat {n m : Nat} {cs : List Value} (h : cs.all (okV n) = true) : okV (n + 2) (mkDat m cs) = true := by
  have h1 : cs.all (plainV n) = true := List.all_eq_true.2 fun v hv => by
    have := List.all_eq_true.1 h v hv
    simp only [okV, Bool.and_eq_true] at this; exact this.1
  have h2 : cs.all (nl n) = true := List.all_eq_true.2 fun v hv => by
    have := List.all_eq_true.1 h v hv
    simp only [okV, Bool.and_eq_true] at this; exact this.2
  simp only [okV, plainV, nl, List.all_cons, List.all_nil, h1, h2, Bool.and_true, Bool.true_and]
  rfl
theorem okV_agg {n : Nat} {cs : List Value} (h : cs.all (okV n) = true) : okV (n + 1) (.agg ⟨cs⟩) = true := by
  have h1 : cs.all (plainV n) = true := List.all_eq_true.2 fun v hv => by
    have := List.all_eq_true.1 h v hv
    simp only [okV, Bool.and_eq_true] at this; exact this.1
  have h2 : cs.all (nl n) = true := List.all_eq_true.2 fun v hv => by
    have := List.all_eq_true.1 h v hv
    simp only [okV, Bool.and_eq_true] at this; exact this.2
  simp only [okV, plainV, nl, h1, h2, Bool.and_true]
theorem okV_le {n m : Nat} (h : n ≤ m) {v : Value} (hv : okV n v = true) : okV m v = true := by
  simp only [okV, Bool.and_eq_true] at hv ⊢
  exact ⟨plainV_le h hv.1, nl_le h hv.2⟩
theorem okV_nl {n : Nat} {v : Value} (h : okV n v = true) : Nl v := by
  simp only [okV, Bool.and_eq_true] at h; exact ⟨n, h.2⟩
theorem okV_nice {n : Nat} {v : Value} (hn : n ≤ 1000000) (h : okV n v = true) : veq 1000000 v v = true := by
  simp only [okV, Bool.and_eq_true] at h; exact veq_self _ _ (plainV_le hn h.1)
mutual
theorem Ex.okC : ∀ (a : Ex), a.nd.cells.all (okV (2 * a.high + 3)) = true
  | .mk o n x d l => by
    have h1 := okL l
    have e : 2 * (Ex.mk o n x d l).high + 3 = (2 * highL l + 3) + 2 := by simp [Ex.high]; omega
    rw [e]
    have h2 : okV (2 * highL l + 3 + 2) (natV x) = true := okV_nat x (2 * highL l + 2)
    have h3 : okV (2 * highL l + 3 + 2) (natV d) = true := okV_nat d (2 * highL l + 2)
    have h4 : okV (2 * highL l + 3 + 2) (mkDat l.length (exL l)) = true := okV_dat h1
    have h5 : okV (2 * highL l + 3 + 2) (.int .i64 o) = true := rfl
    have h6 : okV (2 * highL l + 3 + 2) (.bool n) = true := rfl
    simp only [Ex.nd, Nd.cells, List.all_cons, List.all_nil, h2, h3, h4, h5, h6, Bool.and_self]
theorem okL : ∀ (l : List Ex), (exL l).all (okV (2 * highL l + 3)) = true
  | [] => rfl
  | a :: l => by
    have h1 := Ex.okC a
    have h2 := okL l
    simp only [exL, List.all_append, Bool.and_eq_true]
    exact ⟨List.all_eq_true.2 fun v hv => okV_le (by simp only [highL]; omega) (List.all_eq_true.1 h1 v hv), List.all_eq_true.2 fun v hv => okV_le (by simp only [highL]; omega) (List.all_eq_true.1 h2 v hv)⟩
end
mutual
theorem Er.okC : ∀ (a : Er), a.nd.cells.all (okV (2 * a.high + 3)) = true
  | .mk o n x d b l => by
    have h1 := okLr l
    have e : 2 * (Er.mk o n x d b l).high + 3 = (2 * rhighL l + 3) + 2 := by simp [Er.high]; omega
    rw [e]
    have h2 : okV (2 * rhighL l + 3 + 2) (natV x) = true := okV_nat x (2 * rhighL l + 2)
    have h3 : okV (2 * rhighL l + 3 + 2) (natV d) = true := okV_nat d (2 * rhighL l + 2)
    have h4 : okV (2 * rhighL l + 3 + 2) (mkDat l.length (erL l)) = true := okV_dat h1
    have h5 : okV (2 * rhighL l + 3 + 2) (.int .i64 o) = true := rfl
    have h6 : okV (2 * rhighL l + 3 + 2) (.bool n) = true := rfl
    have h7 : okV (2 * rhighL l + 3 + 2) (.bool b) = true := rfl
    simp only [Er.nd, Rd.cells, List.all_cons, List.all_nil, h2, h3, h4, h5, h6, h7, Bool.and_self]
theorem okLr : ∀ (l : List Er), (erL l).all (okV (2 * rhighL l + 3)) = true
  | [] => rfl
  | a :: l => by
    have h1 := Er.okC a
    have h2 := okLr l
    simp only [erL, List.all_append, Bool.and_eq_true]
    exact ⟨List.all_eq_true.2 fun v hv => okV_le (by simp only [rhighL]; omega) (List.all_eq_true.1 h1 v hv), List.all_eq_true.2 fun v hv => okV_le (by simp only [rhighL]; omega) (List.all_eq_true.1 h2 v hv)⟩
end
theorem Ex.ok (a : Ex) : okV (2 * a.high + 4) a.nd.val = true := okV_agg a.okC
theorem Er.ok (a : Er) : okV (2 * a.high + 4) a.nd.val = true := okV_agg a.okC
theorem Ex.nl (a : Ex) : Nl a.nd.val := okV_nl a.ok
theorem Er.nl (a : Er) : Nl a.nd.val := okV_nl a.ok

/-! ### a part of a row of nodes -/
theorem uExs : PP.underlying 29 = some (.slice 31) := by kernel_rfl
theorem sEx : aSize PP 31 = some 5 := by kernel_rfl
theorem gEx : aAgg PP 31 = some true := by kernel_rfl
theorem uErs : PP.underlying 37 = some (.slice 39) := by kernel_rfl
theorem sEr : aSize PP 39 = some 6 := by kernel_rfl
theorem gEr : aAgg PP 39 = some true := by kernel_rfl
theorem idx_size {P : Program} {t e : TypeId} {k : IntKind} {n i sz : Nat} {cs : List Value} (ht : P.underlying t = some (.slice e)) (hs : aSize P e = some sz) (h : i < n) : aIndexAddr P t (mkDat n cs) (.int k (.ofNat i)) = some (mkPtr (cs.drop (i * sz))) := by
  have : Nat.blt i n = true := by rw [Nat.blt_eq]; exact h
  simp [aIndexAddr, ht, hs, datOf, idx, this]
theorem load_size {P : Program} {t : TypeId} {M : Tr Blk} {cs rest : List Value} (hg : aAgg P t = some true) (hs : aSize P t = some cs.length) : aLoad P M t (mkPtr (cs ++ rest)) = some (.agg ⟨cs⟩) := by
  have h2 : Nat.ble cs.length (cs ++ rest).length = true := by rw [Nat.ble_eq]; simp
  have h3 : (cs ++ rest).take cs.length = cs := by simp
  simp only [aLoad, fptrOf, hg, hs, h2, cond_true, h3]
/-- The i-th part's place. -/
abbrev exP (l : List Ex) (i : Nat) : Value := mkPtr ((exL l).drop (i * 5))
abbrev erP (l : List Er) (i : Nat) : Value := mkPtr ((erL l).drop (i * 6))
theorem idx_ex {l : List Ex} {k : IntKind} {i n : Nat} (h : i < n) : aIndexAddr PP 29 (mkDat n (exL l)) (.int k (.ofNat i)) = some (exP l i) := idx_size uExs sEx h
theorem idx_er {l : List Er} {k : IntKind} {i n : Nat} (h : i < n) : aIndexAddr PP 37 (mkDat n (erL l)) (.int k (.ofNat i)) = some (erP l i) := idx_size uErs sEr h
theorem load_ex {M : Tr Blk} {l : List Ex} {i : Nat} (h : i < l.length) : aLoad PP M 31 (exP l i) = some (l[i]).nd.val := by
  unfold exP
  rw [exL_drop l i h]
  exact load_size gEx sEx
theorem load_er {M : Tr Blk} {l : List Er} {i : Nat} (h : i < l.length) : aLoad PP M 39 (erP l i) = some (l[i]).nd.val := by
  unfold erP
  rw [erL_drop l i h]
  exact load_size gEr sEr
end Go.Proofs.YtihloomkgpflmaaGreatDoor

namespace Go.Proofs.YtihloomkgpflmaaGreatDoor
open Go.Proofs.YtihloomkgpflmaaGreatDoor.Vm

/-! ### numbers -/
/-- A rational in lowest terms: negative, numerator, denominator. -/
def mkR (neg : Bool) (n d : List Nat) : Bool × List Nat × List Nat :=
  if n.length = 0 then (false, [], intN 1) else (neg, quoN n (gcdN n d), quoN d (gcdN n d))
def bitsF : Nat → Nat → Nat
  | 0, _ => 0
  | n + 1, v => if v = 0 then 0 else bitsF n (v / 2) + 1
/-- How many bits a number has. -/
def bitsN (v : Nat) : Nat := bitsF 64 v
def lenN (l : List Nat) : Nat := if l.length = 0 then 0 else 32 * (l.length - 1) + bitsN (dig l (l.length - 1))
def arityZ (op : Int) : Int :=
  if op < 0 ∨ 15 < op then -1 else if op ≤ 1 then 0 else if op = 3 ∨ op = 4 ∨ op = 5 ∨ op = 6 ∨ op = 8 ∨ op = 9 then 2 else 1

/-! ### the references' trees -/
abbrev Er.op : Er → Int | .mk o _ _ _ _ _ => o
abbrev Er.neg : Er → Bool | .mk _ n _ _ _ _ => n
abbrev Er.nn : Er → List Nat | .mk _ _ n _ _ _ => n
abbrev Er.dd : Er → List Nat | .mk _ _ _ d _ _ => d
abbrev Er.bad : Er → Bool | .mk _ _ _ _ b _ => b
abbrev Er.args : Er → List Er | .mk _ _ _ _ _ l => l
mutual
def Er.nodes : Er → Nat
  | .mk _ _ _ _ _ args => rnodesL args + 1
def rnodesL : List Er → Nat
  | [] => 0
  | a :: l => a.nodes + rnodesL l
end
def rightB (op : Int) (nn dd : List Nat) (bad : Bool) (k : Nat) : Bool := !bad && (decide (arityZ op = k) && (decide (lenN nn ≤ 67108864) && decide (lenN dd ≤ 67108864)))
mutual
def Er.right : Er → Bool
  | .mk op _ nn dd bad args => rightB op nn dd bad args.length && rrightL args
def rrightL : List Er → Bool
  | [] => true
  | a :: l => a.right && rrightL l
end
def Er.large (e : Er) : Bool := decide (4000 < e.nodes) || decide (200 < e.high)
def Er.check (e : Er) : Nat := if e.right then (if e.large then 151 else 0) else 152

/-! ### the program's trees -/
mutual
def Ex.nodes : Ex → Nat
  | .mk _ _ _ _ args => nodesL args + 1
def nodesL : List Ex → Nat
  | [] => 0
  | a :: l => a.nodes + nodesL l
end
def treeN (op : Int) (neg : Bool) (num den : List Nat) (args : List Er) : Er :=
  if op = 0 then
    (if (ofN den).length = 0 then .mk op false [] [] true args
    else .mk op (mkR neg (ofN num) (ofN den)).1 (mkR neg (ofN num) (ofN den)).2.1 (mkR neg (ofN num) (ofN den)).2.2 false args)
  else .mk op false [] [] (neg || (decide (0 < num.length) || decide (0 < den.length))) args
mutual
def Ex.tree : Ex → Er
  | .mk op neg num den args => treeN op neg num den (treeL args)
def treeL : List Ex → List Er
  | [] => []
  | a :: l => a.tree :: treeL l
end
mutual
/-- What is left of so many nodes. -/
def Ex.cnt : Ex → Int → Int
  | .mk _ _ _ _ args, left => cntL args (left - 1)
def cntL : List Ex → Int → Int
  | [], left => left
  | a :: l, left => if left < 0 then left else cntL l (a.cnt left)
end
/-- The bits of a natural number of 64-bit limbs: above 0, if one limb is. -/
def topN (l : List Nat) : List Nat := l.take (top l l.length)
def shapeB (op : Int) (neg : Bool) (num den : List Nat) (k : Nat) : Bool :=
  decide (arityZ op = k) && (if op = 0 then decide (0 < (topN den).length) else (decide (num.length = 0) && (decide (den.length = 0) && !neg)))
mutual
def Ex.look : Ex → Bool
  | .mk op neg num den args => shapeB op neg num den args.length && lookL args
def lookL : List Ex → Bool
  | [] => true
  | a :: l => a.look && lookL l
end
def Ex.check (e : Ex) : Nat := if e.look then (if decide (4000 < e.nodes) || decide (200 < e.high) then 151 else 0) else 152
/-- Trees whose numbers are not too long. -/
inductive Good : Ex → Prop
  | mk {op : Int} {neg : Bool} {num den : List Nat} {args : List Ex} (hop : -9223372036854775808 ≤ op ∧ op < 9223372036854775808) (hn : num.length ≤ 1048576) (hd : den.length ≤ 1048576) (hn2 : ∀ x ∈ num, x < 18446744073709551616) (hd2 : ∀ x ∈ den, x < 18446744073709551616) (ha : args.length ≤ 1000000) (h : ∀ a ∈ args, Good a) : Good (.mk op neg num den args)
end Go.Proofs.YtihloomkgpflmaaGreatDoor

namespace Go.Proofs.YtihloomkgpflmaaGreatDoor
open Go.Proofs.YtihloomkgpflmaaGreatDoor.Vm
variable {tabs : List (Nat × List Value)}
theorem add_len {a b : List Nat} (ha : Digs a) (hb : Digs b) (h1 : a.length ≤ 17592186044000) (h2 : b.length ≤ 17592186044000) {M : Tr Blk} {nx : Nat} : F2.sm 99 [natV a, natV b] M nx = some (natV (addN a b), M, nx) :=
  sm_plain (by simp [frz_dat]) (by simp [offs_dat]) (by
    have : F2 99 [natV a, natV b] = e2 (fun a b => digsB a && digsB b && le a.length 17592186044000 && le b.length 17592186044000) (fun a b => natV (addN a b)) [natV a, natV b] := rfl
    rw [this]
    exact e2_nat (by simp only [Bool.and_eq_true, digsB_of, le, decide_eq_true_eq]; exact ⟨⟨⟨ha, hb⟩, h1⟩, h2⟩))
theorem sub_len {a b : List Nat} (ha : Digs a) (hb : Digs b) (h1 : a.length ≤ 17592186044000) {M : Tr Blk} {nx : Nat} : F2.sm 102 [natV a, natV b] M nx = some (natV (subN a b), M, nx) :=
  sm_plain (by simp [frz_dat]) (by simp [offs_dat]) (by
    have : F2 102 [natV a, natV b] = e2 (fun a b => digsB a && digsB b && le a.length 17592186044000) (fun a b => natV (subN a b)) [natV a, natV b] := rfl
    rw [this]
    exact e2_nat (by simp only [Bool.and_eq_true, digsB_of, le, decide_eq_true_eq]; exact ⟨⟨ha, hb⟩, h1⟩))
theorem cmp_len {a b : List Nat} (h1 : a.length ≤ 17592186044000) {M : Tr Blk} {nx : Nat} : F2.sm 101 [natV a, natV b] M nx = some (.int .i64 (cmpN a b), M, nx) :=
  sm_plain (by simp [frz_dat]) (by simp [offs_dat]) (by
    have : F2 101 [natV a, natV b] = e2 (fun a _ => le a.length 17592186044000) (fun a b => .int .i64 (cmpN a b)) [natV a, natV b] := rfl
    rw [this]
    exact e2_nat (by simp only [le, decide_eq_true_eq]; exact h1))
theorem shl_len {a : List Nat} {n : Nat} (ha : Digs a) (h1 : a.length + n ≤ 17592186044000) {M : Tr Blk} {nx : Nat} : F2.sm 100 [natV a, i64 n] M nx = some (natV (shlN a n), M, nx) :=
  sm_plain (by simp [frz_dat, frz_int]) (by simp [offs_dat, offs_int]) (by
    have : F2 100 [natV a, i64 n] = e3 (fun a n => digsB a && le (a.length + n) 17592186044000) (fun a n => natV (shlN a n)) [natV a, i64 n] := rfl
    rw [this]
    exact e3_nat (by simp only [Bool.and_eq_true, digsB_of, le, decide_eq_true_eq]; exact ⟨ha, h1⟩))
theorem shl_nil {M : Tr Blk} {nx : Nat} : F2.sm 100 [.slice none 0 0, i64 32] M nx = some (natV (shlN [] 32), M, nx) := by
  have h1 : ([Value.slice none 0 0, i64 32]).map (frzV 12 M) = [natV [], i64 32] := rfl
  have h2 : ([Value.slice none 0 0, i64 32]).flatMap (offs 12 M) = [] := rfl
  have h3 : F2 100 [natV [], i64 32] = some (natV (shlN [] 32)) := by
    have : F2 100 [natV [], i64 32] = e3 (fun a n => digsB a && le (a.length + n) 17592186044000) (fun a n => natV (shlN a n)) [natV [], i64 32] := rfl
    rw [this]
    exact e3_nat rfl
  simp only [Known.sm, h1, h2, h3, offM]
theorem geq_c {c : Int} {t : TypeId} {b : Bool} : aBin PP .geq t b (.int .i64 c) (i64 0) = some (.bool (decide (0 ≤ c))) := by
  rw [aBin_int (by simp) (by simp)]
  cases c with
  | ofNat n =>
    simp only [aInt, ltI]
    have : Nat.blt n 0 = false := rfl
    simp [this]
  | negSucc n => rfl
theorem pow_lt32 {s : Nat} (h : s < 32) : 2 ^ s < 4294967296 := by
  have : 2 ^ s < 2 ^ 32 := Nat.pow_lt_pow_right (by omega) h
  exact this
theorem shl_one {s : Nat} (h : s < 32) {t : TypeId} {b : Bool} : aBin PP .shl t b (u64 1) (i64 s) = some (u64 (2 ^ s)) := by
  have := shl_u64 (t := t) (c := b) (x := 1) (r := s) (by omega) (by have := pow_lt32 h; omega)
  rw [Nat.one_mul] at this
  exact this
/-- What of the rest is told at the beginning, and from then on. -/
inductive RestV : Value → List Nat → Prop
  | nil : RestV (.slice none 0 0) []
  | nat (r : List Nat) : RestV (natV r) r
theorem RestV.shl {w : Value} {r : List Nat} (h : RestV w r) (hd : Digs r) (hl : r.length + 32 ≤ 17592186044000) {M : Tr Blk} {nx : Nat} : F2.sm 100 [w, i64 32] M nx = some (natV (shlN r 32), M, nx) := by
  cases h with
  | nil => exact shl_nil
  | nat r => exact shl_len hd hl

namespace Div
abbrev outV (n : Nat) : Value := .slice (some ⟨256 * 4, 0, none⟩) n n
noncomputable abbrev row (o : List Nat) : Tr Blk := mkM [(4, .cells false (o.map u64))]
noncomputable abbrev row3 (o : List Nat) (x : Nat) : Tr Blk := mkM [(4, .cells false (o.map u64)), (4 + 1, .frz [u64 x])]
noncomputable abbrev row2 (o : List Nat) (x : Nat) : Tr Blk := mkM [(4, .cells false (o.map u64)), (4 + 1, .cells false [u64 x])]
abbrev pa (a : List Nat) (k : Nat) : Value := mkPtr ((a.map u64).drop k)
abbrev at' (k : Nat) : Value := .pointer (some ⟨256 * 4, k, none⟩)
noncomputable def frH (a b o : List Nat) (v w : Value) : Fr := { onto PP XX GG 11 (door PP 44 [natV [], natV []] .nil GG) [.go, .go, .go, .go, .go, .mem (outV 0) (row []) (GG + 1), .go, .go, .go, .val (i64 0), .go] with T := mkT [(0, natV a), (1, natV b), (6, w), (7, outV a.length), (8, v)], M := row o }
noncomputable def frI (a b o r : List Nat) (k q : Nat) (v : Value) : Fr := { onto PP XX GG 19 (frH [] [] [] (i64 0) (natV [])) [.go, .val (.bool true), .go, .go, .go, .val (pa [] 0), .val (u64 0), .go, .pure (natV []), .mem (natV []) (row3 [] 0) (GG + 2), .pure (natV []), .go, .go, .go, .go, .pure (i64 0), .val (.bool true), .go] with T := mkT [(0, natV a), (1, natV b), (6, natV r), (7, outV a.length), (8, i64 k), (9, u64 q), (10, v)], M := row o, nx := GG + 1 }
theorem q0 (a b : List Nat) (v : Value) : walk PP XX GG 11 (door PP 44 [natV a, natV b] .nil GG) [.go, .go, .go, .go, .go, .mem (outV a.length) (row (List.replicate a.length 0)) (GG + 1), .go, .go, .go, .val v, .go] [0, 1, 6, 7, 8] [4] =
  some (frH a b (List.replicate a.length 0) v (.slice none 0 0), [.make .nil GG 34 (i64 a.length) (i64 a.length) (outV a.length) (row (List.replicate a.length 0)) (GG + 1), .bin .sub 3 true (i64 a.length) (i64 1) v]) := by kernel_rfl
noncomputable abbrev obsA (a b o : List Nat) (w : Value) (k x : Nat) (r1 r2 r3 : List Nat) (c : Int) : List Ob := [.bin .geq 3 true (i64 k) (i64 0) (.bool true), .idxA 34 (natV a) (i64 k) (pa a k), .load (row o) 59 (pa a k) (u64 x), .nice (u64 x), .niceL [u64 x], .call 100 [w, i64 32] (row2 o x) (GG + 2) (natV r1) (row2 o x) (GG + 2),
  .call 41 [.slice (some ⟨256 * (4 + 1), 0, none⟩) 1 1] (row2 o x) (GG + 2) (natV r2) (row3 o x) (GG + 2), .call 99 [natV r1, natV r2] (row3 o x) (GG + 2) (natV r3) (row3 o x) (GG + 2), .call 101 [natV r3, natV b] (row3 o x) (GG + 2) (.int .i64 c) (row3 o x) (GG + 2)]
theorem qA (a b o : List Nat) (w : Value) (k x : Nat) (r1 r2 r3 : List Nat) (c : Int) : walk PP XX GG 19 (frH a b o (i64 k) w) [.go, .val (.bool true), .go, .go, .go, .val (pa a k), .val (u64 x), .go, .pure (natV r1), .mem (natV r2) (row3 o x) (GG + 2), .pure (natV r3), .go, .go, .go, .go, .pure (.int .i64 c), .val (.bool true), .go] [0, 1, 6, 7, 8, 9, 10] [4] =
  some ({ frI a b o r3 k 0 (i64 31) with nx := GG + 2 }, obsA a b o w k x r1 r2 r3 c ++ [.bin .geq 3 true (.int .i64 c) (i64 0) (.bool true)]) := by kernel_rfl
theorem qB (a b o : List Nat) (w : Value) (k x : Nat) (r1 r2 r3 : List Nat) (c : Int) (v : Value) : walk PP XX GG 20 (frH a b o (i64 k) w) [.go, .val (.bool true), .go, .go, .go, .val (pa a k), .val (u64 x), .go, .pure (natV r1), .mem (natV r2) (row3 o x) (GG + 2), .pure (natV r3), .go, .go, .go, .go, .pure (.int .i64 c), .val (.bool false), .go, .go, .go, .val (at' k), .mem undef (mkM [(4, .cells false ((o.set k 0).map u64)), (4 + 1, .frz [u64 x])]) (GG + 2), .go, .val v, .go] [0, 1, 6, 7, 8] [4] =
  some ({ frH a b (o.set k 0) v (natV r3) with nx := GG + 2 }, obsA a b o w k x r1 r2 r3 c ++ [.bin .geq 3 true (.int .i64 c) (i64 0) (.bool false), .idxA 34 (outV a.length) (i64 k) (at' k), .sto (row3 o x) 59 (at' k) (u64 0) (mkM [(4, .cells false ((o.set k 0).map u64)), (4 + 1, .frz [u64 x])]), .bin .sub 3 true (i64 k) (i64 1) v]) := by kernel_rfl
theorem qC (a b o r : List Nat) (k s q q2 p : Nat) (x r2 : List Nat) (c : Int) (v : Value) : walk PP XX GG 18 (frI a b o r k q (i64 s)) [.go, .val (.bool true), .go, .go, .pure (natV x), .go, .go, .go, .pure (.int .i64 c), .val (.bool true), .go, .go, .pure (natV r2), .go, .go, .go, .val (u64 p), .val (u64 q2), .go, .go, .val v, .go] [0, 1, 6, 7, 8, 9, 10] [4] =
  some (frI a b o r2 k q2 v, [.bin .geq 3 true (i64 s) (i64 0) (.bool true), .call 100 [natV b, i64 s] (row o) (GG + 1) (natV x) (row o) (GG + 1), .call 101 [natV r, natV x] (row o) (GG + 1) (.int .i64 c) (row o) (GG + 1), .bin .geq 3 true (.int .i64 c) (i64 0) (.bool true), .call 102 [natV r, natV x] (row o) (GG + 1) (natV r2) (row o) (GG + 1),
    .bin .shl 59 true (u64 1) (i64 s) (u64 p), .bin .add 59 false (u64 q) (u64 p) (u64 q2), .bin .sub 3 true (i64 s) (i64 1) v]) := by kernel_rfl
theorem qD (a b o r : List Nat) (k s q : Nat) (x : List Nat) (c : Int) (v : Value) : walk PP XX GG 16 (frI a b o r k q (i64 s)) [.go, .val (.bool true), .go, .go, .pure (natV x), .go, .go, .go, .pure (.int .i64 c), .val (.bool false), .go, .val v, .go] [0, 1, 6, 7, 8, 9, 10] [4] =
  some (frI a b o r k q v, [.bin .geq 3 true (i64 s) (i64 0) (.bool true), .call 100 [natV b, i64 s] (row o) (GG + 1) (natV x) (row o) (GG + 1), .call 101 [natV r, natV x] (row o) (GG + 1) (.int .i64 c) (row o) (GG + 1), .bin .geq 3 true (.int .i64 c) (i64 0) (.bool false), .bin .sub 3 true (i64 s) (i64 1) v]) := by kernel_rfl
theorem qE (a b o r : List Nat) (k q : Nat) (v v2 : Value) : walk PP XX GG 9 (frI a b o r k q v) [.go, .val (.bool false), .go, .go, .go, .val (at' k), .mem undef (row (o.set k q)) (GG + 1), .go, .val v2, .go] [0, 1, 6, 7, 8] [4] =
  some (frH a b (o.set k q) v2 (natV r), [.bin .geq 3 true v (i64 0) (.bool false), .idxA 34 (outV a.length) (i64 k) (at' k), .sto (row o) 59 (at' k) (u64 q) (row (o.set k q)), .bin .sub 3 true (i64 k) (i64 1) v2]) := by kernel_rfl
theorem qF (a b o r : List Nat) (v : Value) (q : List Nat) : ends PP XX GG 8 (frH a b o v (natV r)) [.go, .val (.bool false), .go, .mem (natV q) (mkM [(4, .frz (o.map u64))]) (GG + 1), .go, .go, .go] [4, 5] [] =
  some (.tuple ⟨[natV q, natV r]⟩, mkM [], [.bin .geq 3 true v (i64 0) (.bool false), .call 41 [outV a.length] (row o) (GG + 1) (natV q) (mkM [(4, .frz (o.map u64))]) (GG + 1)]) := by kernel_rfl
theorem cutH (a b o : List Nat) (v w : Value) : ({ ({ frH a b o v w with nx := GG + 2 } : Fr) with nx := GG + 1 } : Fr) = frH a b o v w := by kernel_rfl
theorem cutI (a b o r : List Nat) (k q : Nat) (v : Value) : ({ ({ frI a b o r k q v with nx := GG + 2 } : Fr) with nx := GG + 1 } : Fr) = frI a b o r k q v := by kernel_rfl
/-- The digits of the quotient from place k on. -/
abbrev mid (a b : List Nat) (k : Nat) : List Nat := List.replicate k 0 ++ ((List.range a.length).map fun j => divQ a b (a.length - 1 - j)).drop k
theorem mid_length (a b : List Nat) {k : Nat} (h : k ≤ a.length) : (mid a b k).length = a.length := by simp [mid]; omega
theorem mid_set (a b : List Nat) {k : Nat} (h : k < a.length) : (mid a b (k + 1)).set k (divQ a b (a.length - 1 - k)) = mid a b k := by
  unfold mid
  rw [List.replicate_succ', List.append_assoc, List.set_append_right _ _ (by simp), List.length_replicate, Nat.sub_self]
  have e : ((List.range a.length).map fun j => divQ a b (a.length - 1 - j)).drop k = divQ a b (a.length - 1 - k) :: ((List.range a.length).map fun j => divQ a b (a.length - 1 - j)).drop (k + 1) := by
    rw [List.drop_eq_getElem_cons (by simpa using h)]
    simp
  rw [e]
  rfl
theorem sto_at {M M' : Tr Blk} {o : List Nat} {j d : Nat} (hm : M.get 4 = some (.cells false (o.map u64))) (h : j < o.length) (hM : M.set 4 (.cells false ((o.set j d).map u64)) = M') : aStore PP M 59 (at' j) (u64 d) = some M' :=
  sto_own (vs := o.map u64) (by rw [show 256 * 4 / 256 = 4 by omega]; exact hm) sU64 (by simpa using h) (by rw [show 256 * 4 / 256 = 4 by omega, ← hM, List.map_set])
/-- The inner loop. -/
theorem inner_ok {a b o : List Nat} {k : Nat} {v : Value} (hb : Digs b) (hlb : b.length ≤ 8796093022000) (hk : k < a.length) (hkm : k < 9223372036854775808) (ho : o.length = a.length) : ∀ s, s ≤ 32 → ∀ {r : List Nat} {q : Nat}, Digs r → r.length ≤ b.length + 4 → q + 2 ^ s ≤ 4294967296 →
    PT PP GG tabs (frH a b (o.set k (divI b s r q).2) (less1 k) (natV (divI b s r q).1)) v → PT PP GG tabs (frI a b o r k q (less1 s)) v
  | 0, _, r, q, hr, hl, hq, g => by
    refine PT.walk (envOf F2_ok) (qE a b o r k q (less1 0) (less1 k)) ⟨geq_m, idx_own uNum sU64 hk, sto_at (by rfl) (by omega) (by rfl), less1_of k hkm⟩ g
  | s + 1, hs, r, q, hr, hl, hq, g => by
    have hp : 2 ^ (s + 1) = 2 ^ s + 2 ^ s := by rw [Nat.pow_succ]; omega
    have hpos : 0 < 2 ^ s := Nat.pow_pos (by omega)
    rw [hp] at hq
    have hx := shlN_digs hb s
    have hxl := shlN_length hb s
    show PT PP GG tabs (frI a b o r k q (i64 s)) v
    unfold divI at g
    by_cases hc : 0 ≤ cmpN r (shlN b s)
    · rw [if_pos hc] at g
      refine PT.walk (envOf F2_ok) (qC a b o r k s q (q + 2 ^ s) (2 ^ s) (shlN b s) (subN r (shlN b s)) (cmpN r (shlN b s)) (less1 s)) ⟨geq_t (by omega), shl_len hb (by omega), cmp_len (by omega), ?_, sub_len hr hx (by omega), shl_one (by omega), add_u64' (by omega), less1_of s (by omega)⟩ ?_
      · have := geq_c (c := cmpN r (shlN b s)) (t := 3) (b := true)
        rw [decide_eq_true hc] at this; exact this
      · exact inner_ok hb hlb hk hkm ho s (by omega) (subN_digs _ _) (by have := subN_length r (shlN b s); omega) (by omega) g
    · rw [if_neg hc] at g
      refine PT.walk (envOf F2_ok) (qD a b o r k s q (shlN b s) (cmpN r (shlN b s)) (less1 s)) ⟨geq_t (by omega), shl_len hb (by omega), cmp_len (by omega), ?_, less1_of s (by omega)⟩ ?_
      · have := geq_c (c := cmpN r (shlN b s)) (t := 3) (b := true)
        rw [decide_eq_false hc] at this; exact this
      · exact inner_ok hb hlb hk hkm ho s (by omega) hr hl (by omega) g
theorem norm_call {o : List Nat} {x : Nat} (hl : 1 ≤ 1) : F2.sm 41 [.slice (some ⟨256 * (4 + 1), 0, none⟩) 1 1] (row2 o x) (GG + 2) = some (natV (norm [x]), row3 o x, GG + 2) := by
  refine sm_own (l := [x]) (by rfl) hl ?_ (by rfl)
  exact eNorm_nat [x] (by simp)
theorem norm_out {o : List Nat} {n : Nat} (hl : o.length = n) (hb : n < 9223372036854775808) : F2.sm 41 [outV n] (row o) (GG + 1) = some (natV (norm o), mkM [(4, .frz (o.map u64))], GG + 1) := by
  subst hl
  refine sm_own (l := o) (by rfl) (Nat.le_refl _) ?_ (by rfl)
  exact eNorm_nat o hb
/-- The blocks' numbers of a round are given anew. -/
theorem cut_H {a b o : List Nat} {s w v : Value} {u : Value} (hs : Nl s) (hw : Nl w) (g : PT PP GG tabs (frH a b o s w) u) : PT PP GG tabs { frH a b o s w with nx := GG + 2 } u := by
  refine PT.cut (n := GG + 1) (by omega) ?_ ?_ (by kernel_rfl) (by kernel_rfl) (by kernel_rfl) (by kernel_rfl) (by rw [cutH]; exact g)
  · intro t v hv
    have := mkT_get [(0, natV a), (1, natV b), (6, w), (7, outV a.length), (8, s)] t v hv
    simp only [List.mem_cons, List.not_mem_nil, or_false, Prod.mk.injEq] at this
    rcases this with ⟨_, rfl⟩ | ⟨_, rfl⟩ | ⟨_, rfl⟩ | ⟨_, rfl⟩ | ⟨_, rfl⟩
    · exact .nl (nl_nat _)
    · exact .nl (nl_nat _)
    · exact .nl hw
    · exact .slice (by decide)
    · exact .nl hs
  · intro t x hx
    have := mkM_get [(4, .cells false (o.map u64))] t x hx
    simp only [List.mem_cons, List.not_mem_nil, or_false, Prod.mk.injEq] at this
    obtain ⟨_, rfl⟩ := this
    refine ⟨_, rfl, fun v hv => ?_⟩
    obtain ⟨y, _, rfl⟩ := List.mem_map.1 hv
    exact .nl nl_int
theorem cut_I {a b o r : List Nat} {k q : Nat} {s u : Value} (hs : Nl s) (g : PT PP GG tabs (frI a b o r k q s) u) : PT PP GG tabs { frI a b o r k q s with nx := GG + 2 } u := by
  refine PT.cut (n := GG + 1) (by omega) ?_ ?_ (by kernel_rfl) (by kernel_rfl) (by kernel_rfl) (by kernel_rfl) (by rw [cutI]; exact g)
  · intro t v hv
    have := mkT_get [(0, natV a), (1, natV b), (6, natV r), (7, outV a.length), (8, i64 k), (9, u64 q), (10, s)] t v hv
    simp only [List.mem_cons, List.not_mem_nil, or_false, Prod.mk.injEq] at this
    rcases this with ⟨_, rfl⟩ | ⟨_, rfl⟩ | ⟨_, rfl⟩ | ⟨_, rfl⟩ | ⟨_, rfl⟩ | ⟨_, rfl⟩ | ⟨_, rfl⟩
    · exact .nl (nl_nat _)
    · exact .nl (nl_nat _)
    · exact .nl (nl_nat _)
    · exact .slice (by decide)
    · exact .nl nl_int
    · exact .nl nl_int
    · exact .nl hs
  · intro t x hx
    have := mkM_get [(4, .cells false (o.map u64))] t x hx
    simp only [List.mem_cons, List.not_mem_nil, or_false, Prod.mk.injEq] at this
    obtain ⟨_, rfl⟩ := this
    refine ⟨_, rfl, fun v hv => ?_⟩
    obtain ⟨y, _, rfl⟩ := List.mem_map.1 hv
    exact .nl nl_int
theorem nl_less (k : Nat) : Nl (less1 k) := by cases k <;> exact nl_int
/-- The outer loop: the digits from k on are done. -/
theorem outer_ok {a b : List Nat} (ha : Digs a) (hb : Digs b) (nb : Nrm b) (h0 : 0 < val b) (hla : a.length ≤ 8796093022000) (hlb : b.length ≤ 8796093022000) (hne : 0 < a.length) : ∀ k d w, k + d = a.length → RestV w (divR a b d) → (d ≠ 0 → w = natV (divR a b d)) →
    PT PP GG tabs (frH a b (mid a b k) (less1 k) w) (.tuple ⟨[natV (quoN a b), natV (remN a b)]⟩)
  | 0, d, w, h, hw, hw' => by
    have hd : d = a.length := by omega
    subst hd
    rw [hw' (by omega)]
    have hm : mid a b 0 = divO a b := by simp [mid, divO]
    rw [hm]
    have hl : (divO a b).length = a.length := by simp [divO]
    exact PT.ends (envOf F2_ok) (qF a b (divO a b) (divR a b a.length) (less1 0) (quoN a b)) ⟨geq_m, norm_out hl (by omega)⟩ .same
  | k + 1, d, w, h, hw, hw' => by
    have hk : k = a.length - 1 - d := by omega
    have hr := divR_ok ha hb nb h0 d
    have hrl := length_le_of_val hb hr.nrm (Nat.le_of_lt hr.lt)
    have hx := ha.dig k
    obtain ⟨n1, n2, n3⟩ := norm_one hx
    have hs := shlN_digs hr.digs 32
    have hsl := shlN_length hr.digs 32
    have had := addN_digs (shlN (divR a b d) 32) (norm [dig a k])
    have hal := addN_length (shlN (divR a b d) 32) (norm [dig a k])
    have hml := mid_length a b (k := k + 1) (by omega)
    have hstep : divR a b (d + 1) = (divD b (divR a b d) (dig a k)).1 := by rw [hk]; rfl
    have hq : divQ a b d = (divD b (divR a b d) (dig a k)).2 := by rw [hk]; rfl
    have hset : (mid a b (k + 1)).set k (divD b (divR a b d) (dig a k)).2 = mid a b k := by
      rw [← hq, ← mid_set a b (k := k) (by omega)]
      congr 2; omega
    have next := outer_ok ha hb nb h0 hla hlb hne k (d + 1) (natV (divR a b (d + 1))) (by omega) (.nat _) (fun _ => rfl)
    rw [hstep] at next
    show PT PP GG tabs (frH a b (mid a b (k + 1)) (i64 k) w) _
    by_cases hc : 0 ≤ cmpN (addN (shlN (divR a b d) 32) (norm [dig a k])) b
    · have e : divD b (divR a b d) (dig a k) = divI b 32 (addN (shlN (divR a b d) 32) (norm [dig a k])) 0 := by unfold divD; rw [if_pos hc]
      rw [e] at next hset
      refine PT.walk (envOf F2_ok) (qA a b (mid a b (k + 1)) w k (dig a k) (shlN (divR a b d) 32) (norm [dig a k]) (addN (shlN (divR a b d) 32) (norm [dig a k])) _) ⟨geq_t (by omega), idx_dat uNum sU64 (by omega), load_ptr gU64 (Mul.dig_of (by omega)), nice_int _ _, ?_, hw.shl hr.digs (by omega), norm_call (by omega), add_len hs n1 (by omega) (by omega), cmp_len (by omega), ?_⟩ ?_
      · show veqA _ [u64 (dig a k)] [u64 (dig a k)] = true
        simp [veqA, nice_int]
      · have := geq_c (c := cmpN (addN (shlN (divR a b d) 32) (norm [dig a k])) b) (t := 3) (b := true)
        rw [decide_eq_true hc] at this; exact this
      · refine cut_I nl_int ?_
        refine inner_ok hb hlb (by omega) (by omega) hml 32 (Nat.le_refl _) had (by omega) (by decide) ?_
        rw [hset]
        exact next
    · have e : divD b (divR a b d) (dig a k) = (addN (shlN (divR a b d) 32) (norm [dig a k]), 0) := by unfold divD; rw [if_neg hc]
      rw [e] at next hset
      refine PT.walk (envOf F2_ok) (qB a b (mid a b (k + 1)) w k (dig a k) (shlN (divR a b d) 32) (norm [dig a k]) (addN (shlN (divR a b d) 32) (norm [dig a k])) _ (less1 k)) ⟨geq_t (by omega), idx_dat uNum sU64 (by omega), load_ptr gU64 (Mul.dig_of (by omega)), nice_int _ _, ?_, hw.shl hr.digs (by omega), norm_call (by omega), add_len hs n1 (by omega) (by omega), cmp_len (by omega), ?_, idx_own uNum sU64 (by omega), sto_at (by rfl) (by omega) (by rfl), less1_of k (by omega)⟩ ?_
      · show veqA _ [u64 (dig a k)] [u64 (dig a k)] = true
        simp [veqA, nice_int]
      · have := geq_c (c := cmpN (addN (shlN (divR a b d) 32) (norm [dig a k])) b) (t := 3) (b := true)
        rw [decide_eq_false hc] at this; exact this
      · refine cut_H (v := natV []) (nl_less k) (nl_nat _) ?_
        rw [hset]
        exact next
end Div
theorem div_ok {a b : List Nat} (ha : Digs a) (hb : Digs b) (nb : Nrm b) (h0 : 0 < val b) (hla : a.length ≤ 8796093022000) (hlb : b.length ≤ 8796093022000) (hne : 0 < a.length) : PureOk PP GG tabs 44 [natV a, natV b] (.tuple ⟨[natV (quoN a b), natV (remN a b)]⟩) := by
  refine PureOk.of' ?_ ⟨4, by simp [nl]⟩ (by kernel_rfl) ?_
  · intro x hx
    simp at hx
    rcases hx with rfl | rfl <;> exact nl_nat _
  · refine PT.walk (envOf F2_ok) (Div.q0 a b (less1 a.length)) ⟨make_row uNum iU64 zU64 (by omega) (by rfl), less1_of _ (by omega)⟩ ?_
    have := Div.outer_ok (tabs := tabs) ha hb nb h0 hla hlb hne a.length 0 (.slice none 0 0) (by omega) .nil (fun h => absurd rfl h)
    have e : Div.mid a b a.length = List.replicate a.length 0 := by simp [Div.mid]
    rw [e] at this
    exact this
#print axioms div_ok
end Go.Proofs.YtihloomkgpflmaaGreatDoor
