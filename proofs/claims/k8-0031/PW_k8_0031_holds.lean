import PyProof.Rows.All
import Wide.All
import OpenK.AllK
import Wide.FinOn
import PySem.Challenge.RW_k8_0031
set_option Elab.async false
namespace Mine
/-- the number that limbs spell, low end first -/
def val : List Int → Int
  | [] => 0
  | a :: r => a + 10000 * val r
def limbsN (n : Nat) : List Int := if h : n = 0 then [] else ((n % 10000 : Nat) : Int) :: limbsN (n / 10000)
termination_by n
decreasing_by omega
/-- the limbs of an int, low end first; none for what is not above zero -/
def limbs (n : Int) : List Int := limbsN n.toNat

theorem limbs_nonpos {n : Int} (h : n ≤ 0) : limbs n = [] := by
  unfold limbs
  rw [Int.toNat_of_nonpos h, limbsN]; rfl
theorem limbs_pos {n : Int} (h : 0 < n) : limbs n = (n % 10000) :: limbs (n / 10000) := by
  unfold limbs
  rw [limbsN, dif_neg (by omega)]
  congr 1
  · omega
  · congr 1; omega
theorem limbs_ind {P : Int → Prop} (h0 : ∀ n, n ≤ 0 → P n) (h1 : ∀ n, 0 < n → P (n / 10000) → P n) (n : Int) : P n := by
  have : ∀ k : Nat, ∀ n : Int, n.toNat ≤ k → P n := by
    intro k
    induction k with
    | zero => intro n hn; exact h0 n (by omega)
    | succ k ih =>
      intro n hn
      by_cases h : n ≤ 0
      · exact h0 n h
      · exact h1 n (by omega) (ih _ (by omega))
  exact this _ n (Nat.le_refl _)
theorem val_limbs (n : Int) : 0 ≤ n → val (limbs n) = n := by
  induction n using limbs_ind with
  | h0 n h => intro h'; rw [limbs_nonpos h, val]; omega
  | h1 n h ih => intro _; rw [limbs_pos h, val, ih (by omega)]; omega
theorem limbs_range (n : Int) : ∀ x ∈ limbs n, 0 ≤ x ∧ x ≤ 9999 := by
  induction n using limbs_ind with
  | h0 n h => rw [limbs_nonpos h]; intro x hx; cases hx
  | h1 n h ih =>
    rw [limbs_pos h]
    intro x hx
    rcases List.mem_cons.mp hx with rfl | hx
    · omega
    · exact ih x hx
/-- in normal form -/
def Nf (l : List Int) : Prop := (∀ x ∈ l, 0 ≤ x ∧ x ≤ 9999) ∧ ∀ h : l ≠ [], l.getLast h ≠ 0
theorem limbs_last (n : Int) : ∀ h : limbs n ≠ [], (limbs n).getLast h ≠ 0 := by
  induction n using limbs_ind with
  | h0 n h => intro h'; exact absurd (limbs_nonpos h) h'
  | h1 n h ih =>
    intro hne
    by_cases h2 : n / 10000 ≤ 0
    · have e : limbs n = [n % 10000] := by rw [limbs_pos h, limbs_nonpos h2]
      have : (limbs n).getLast hne = n % 10000 := by simp [e]
      omega
    · have hne2 : limbs (n / 10000) ≠ [] := by rw [limbs_pos (by omega)]; simp
      have : (limbs n).getLast hne = (limbs (n / 10000)).getLast hne2 := by
        simp [limbs_pos h, List.getLast_cons hne2]
      rw [this]; exact ih hne2
theorem limbs_nf (n : Int) : Nf (limbs n) := ⟨limbs_range n, limbs_last n⟩
theorem Nf.tail {a : Int} {l : List Int} (h : Nf (a :: l)) : Nf l :=
  ⟨fun x hx => h.1 x (.tail _ hx), fun hne => by have := h.2 (by simp); rwa [List.getLast_cons hne] at this⟩
theorem val_nonneg : ∀ {l : List Int}, (∀ x ∈ l, 0 ≤ x ∧ x ≤ 9999) → 0 ≤ val l
  | [], _ => Int.le_refl _
  | a :: r, h => by
    have h1 := h a (.head _)
    have h2 := val_nonneg (l := r) fun x hx => h x (.tail _ hx)
    rw [val]; omega
theorem val_pos_of_nf : ∀ {l : List Int}, Nf l → l ≠ [] → 0 < val l
  | [], _, h => absurd rfl h
  | [a], h, _ => by
    have h1 := h.1 a (.head _)
    have h2 := h.2 (by simp)
    simp at h2
    simp only [val]; omega
  | a :: b :: r, h, _ => by
    have h1 := h.1 a (.head _)
    have h2 := val_pos_of_nf h.tail (by simp)
    rw [val]; omega
theorem limbs_val : ∀ {l : List Int}, Nf l → limbs (val l) = l
  | [], _ => limbs_nonpos (Int.le_refl _)
  | a :: r, h => by
    have h1 := h.1 a (.head _)
    have hp := val_pos_of_nf h (by simp)
    rw [limbs_pos hp]
    have e1 : val (a :: r) % 10000 = a := by rw [val]; omega
    have e2 : val (a :: r) / 10000 = val r := by rw [val]; omega
    rw [e1, e2, limbs_val h.tail]
theorem nf_eq {a b : List Int} (ha : Nf a) (hb : Nf b) (h : val a = val b) : a = b := by
  rw [← limbs_val ha, ← limbs_val hb, h]
theorem limbs_len (k : Nat) : ∀ n : Int, n < 10000 ^ k → (limbs n).length ≤ k := by
  induction k with
  | zero => intro n h; rw [limbs_nonpos (by omega)]; simp
  | succ k ih =>
    intro n h
    by_cases h0 : n ≤ 0
    · rw [limbs_nonpos h0]; simp
    · rw [limbs_pos (by omega), List.length_cons]
      have := ih (n / 10000) (by rw [Int.pow_succ] at h; omega)
      omega
theorem val_append : ∀ (a b : List Int), val (a ++ b) = val a + 10000 ^ a.length * val b
  | [], b => by simp [val]
  | x :: r, b => by
    rw [List.cons_append, val, val, val_append r b, List.length_cons, Int.pow_succ, Int.mul_add]
    rw [Int.mul_comm (10000 ^ r.length) 10000, Int.mul_assoc]; omega
theorem val_lt : ∀ {l : List Int}, (∀ x ∈ l, 0 ≤ x ∧ x ≤ 9999) → val l < 10000 ^ l.length
  | [], _ => by decide
  | a :: r, h => by
    have h1 := h a (.head _)
    have h2 := val_lt (l := r) fun x hx => h x (.tail _ hx)
    rw [val, List.length_cons, Int.pow_succ]; omega
/-- the while's turn -/
theorem limbs_turn {n : Int} {ls l0 : List Int} (h : ls ++ limbs n = l0) (hn : 0 < n) : (ls ++ [n % 10000]) ++ limbs (n / 10000) = l0 := by
  rw [← h, limbs_pos hn]; simp
theorem limbs_done {n : Int} {ls l0 : List Int} (h : ls ++ limbs n = l0) (hn : n ≤ 0) : ls = l0 := by
  rw [← h, limbs_nonpos hn, List.append_nil]
/-- shifting -/
theorem val_replicate (k : Nat) (l : List Int) : val (List.replicate k 0 ++ l) = 10000 ^ k * val l := by
  induction k with
  | zero => simp
  | succ k ih => rw [List.replicate_succ, List.cons_append, val, ih, Int.pow_succ, Int.mul_comm (10000 ^ k) 10000, Int.mul_assoc]; omega
theorem limbs_shift {n : Int} (k : Nat) (hn : 0 < n) : limbs (n * 10000 ^ k) = List.replicate k 0 ++ limbs n := by
  induction k with
  | zero => simp
  | succ k ih =>
    have hp : (0 : Int) < 10000 ^ k := Int.pow_pos (by decide)
    have hp2 : 0 < n * 10000 ^ k := Int.mul_pos hn hp
    have e : n * 10000 ^ (k + 1) = 10000 * (n * 10000 ^ k) := by rw [Int.pow_succ, ← Int.mul_assoc, Int.mul_comm]
    rw [e, limbs_pos (by omega), List.replicate_succ, List.cons_append, ← ih]
    congr 1
    · omega
    · congr 1; omega
/-- the signs of an int's text -/
def dig (n : Nat) : List Nat := (Nat.toDigits 10 n).map Char.toNat
def dval (cs : List Nat) : Nat := cs.foldl (fun acc c => acc * 10 + (c - 48)) 0
theorem digitChar_nat : ∀ d : Nat, d < 10 → (Nat.digitChar d).toNat = 48 + d := by decide
theorem dig_lt {n : Nat} (h : n < 10) : dig n = [48 + n] := by
  unfold dig
  rw [Nat.toDigits_of_lt_base h, List.map_cons, List.map_nil, digitChar_nat n h]
theorem dig_ge {n : Nat} (h : 10 ≤ n) : dig n = dig (n / 10) ++ [48 + n % 10] := by
  unfold dig
  rw [Nat.toDigits_of_base_le (by decide) h, List.map_append, List.map_cons, List.map_nil, digitChar_nat _ (Nat.mod_lt _ (by decide))]
def pad4 (n : Nat) : List Nat := [48 + n / 1000, 48 + n / 100 % 10, 48 + n / 10 % 10, 48 + n % 10]
theorem pad4_eq {n : Nat} (h : n < 10000) : List.replicate (4 - (dig n).length) 48 ++ dig n = pad4 n := by
  unfold pad4
  by_cases h1 : n < 10
  · rw [dig_lt h1]
    simp; omega
  · by_cases h2 : n < 100
    · rw [dig_ge (by omega), dig_lt (by omega)]
      simp; omega
    · by_cases h3 : n < 1000
      · rw [dig_ge (by omega), dig_ge (n := n / 10) (by omega), dig_lt (by omega)]
        simp; omega
      · rw [dig_ge (by omega), dig_ge (n := n / 10) (by omega), dig_ge (n := n / 10 / 10) (by omega), dig_lt (by omega)]
        simp; omega
theorem dig_big {q r : Nat} (hq : 0 < q) (hr : r < 10000) : dig (q * 10000 + r) = dig q ++ pad4 r := by
  rw [dig_ge (by omega), dig_ge (n := (q * 10000 + r) / 10) (by omega), dig_ge (n := (q * 10000 + r) / 10 / 10) (by omega), dig_ge (n := (q * 10000 + r) / 10 / 10 / 10) (by omega)]
  have e : (q * 10000 + r) / 10 / 10 / 10 / 10 = q := by omega
  rw [e]
  unfold pad4
  simp only [List.append_assoc, List.cons_append, List.nil_append]
  congr 2
  · omega
  · congr 1
    · omega
    · congr 1
      · omega
      · congr 1; omega
theorem dval_foldl (cs : List Nat) : ∀ a : Nat, cs.foldl (fun acc c => acc * 10 + (c - 48)) a = a * 10 ^ cs.length + dval cs := by
  unfold dval
  induction cs with
  | nil => intro a; simp
  | cons c r ih =>
    intro a
    rw [List.foldl_cons, ih, List.foldl_cons, ih (0 * 10 + (c - 48)), List.length_cons, Nat.pow_succ, Nat.add_mul, Nat.zero_mul, Nat.zero_add, Nat.mul_assoc, Nat.mul_comm 10]
    omega
theorem dval_append (a b : List Nat) : dval (a ++ b) = dval a * 10 ^ b.length + dval b := by
  rw [← dval_foldl b (dval a)]
  unfold dval
  rw [List.foldl_append]
theorem dig_digits (n : Nat) : ∀ c ∈ dig n, 48 ≤ c ∧ c ≤ 57 := by
  induction n using Nat.strongRecOn with
  | _ n ih =>
    by_cases h : n < 10
    · rw [dig_lt h]; intro c hc; simp at hc; omega
    · rw [dig_ge (by omega)]
      intro c hc
      rcases List.mem_append.mp hc with hc | hc
      · exact ih (n / 10) (by omega) c hc
      · simp at hc; omega
theorem dig_ne (n : Nat) : dig n ≠ [] := by
  by_cases h : n < 10
  · rw [dig_lt h]; simp
  · rw [dig_ge (by omega)]; simp
theorem dval_dig (n : Nat) : dval (dig n) = n := by
  induction n using Nat.strongRecOn with
  | _ n ih =>
    by_cases h : n < 10
    · rw [dig_lt h]; simp [dval]
    · rw [dig_ge (by omega), dval_append, ih (n / 10) (by omega)]
      simp [dval]; omega
theorem dval_lt : ∀ cs : List Nat, (∀ c ∈ cs, 48 ≤ c ∧ c ≤ 57) → dval cs < 10 ^ cs.length := by
  intro cs
  induction cs with
  | nil => intro _; decide
  | cons c r ih =>
    intro h
    have h1 := h c (.head _)
    have h2 := ih fun x hx => h x (.tail _ hx)
    have e : dval (c :: r) = (c - 48) * 10 ^ r.length + dval r := by
      have := dval_append [c] r
      simpa [dval] using this
    rw [e, List.length_cons, Nat.pow_succ]
    have : (c - 48) * 10 ^ r.length ≤ 9 * 10 ^ r.length := Nat.mul_le_mul_right _ (by omega)
    omega
theorem dig_len_of {n k : Nat} (hk : 0 < k) (h : n < 10 ^ k) : (dig n).length ≤ k := by
  unfold dig
  rw [List.length_map]
  exact (Nat.length_toDigits_le_iff (by decide) hk).mpr h
/-- the chunks of four signs, from the low end -/
def chunks (cs : List Nat) : List Int := if h : cs = [] then [] else ((dval (cs.drop (cs.length - 4)) : Nat) : Int) :: chunks (cs.take (cs.length - 4))
termination_by cs.length
decreasing_by
  have : 0 < cs.length := List.length_pos_iff.mpr h
  rw [List.length_take]; omega
theorem chunks_nil : chunks [] = [] := by rw [chunks]; rfl
theorem chunks_ne {cs : List Nat} (h : cs ≠ []) : chunks cs = ((dval (cs.drop (cs.length - 4)) : Nat) : Int) :: chunks (cs.take (cs.length - 4)) := by
  rw [chunks, dif_neg h]
theorem val_cast_chunks : ∀ k : Nat, ∀ cs : List Nat, cs.length ≤ k → val (chunks cs) = ((dval cs : Nat) : Int) := by
  intro k
  induction k with
  | zero => intro cs h; have : cs = [] := List.length_eq_zero_iff.mp (by omega); subst this; rw [chunks_nil]; rfl
  | succ k ih =>
    intro cs h
    by_cases hc : cs = []
    · subst hc; rw [chunks_nil]; rfl
    · have hp : 0 < cs.length := List.length_pos_iff.mpr hc
      rw [chunks_ne hc, val, ih _ (by rw [List.length_take]; omega)]
      have e := dval_append (cs.take (cs.length - 4)) (cs.drop (cs.length - 4))
      rw [List.take_append_drop] at e
      by_cases h4 : 4 ≤ cs.length
      · have hl : (cs.drop (cs.length - 4)).length = 4 := by rw [List.length_drop]; omega
        rw [e, hl]; omega
      · have e0 : cs.length - 4 = 0 := by omega
        rw [e0] at e ⊢
        rw [e]
        simp [dval]
theorem val_chunks (cs : List Nat) : val (chunks cs) = ((dval cs : Nat) : Int) := val_cast_chunks _ cs (Nat.le_refl _)
theorem chunks_range : ∀ k : Nat, ∀ cs : List Nat, cs.length ≤ k → (∀ c ∈ cs, 48 ≤ c ∧ c ≤ 57) → ∀ x ∈ chunks cs, 0 ≤ x ∧ x ≤ 9999 := by
  intro k
  induction k with
  | zero => intro cs h _; have : cs = [] := List.length_eq_zero_iff.mp (by omega); subst this; rw [chunks_nil]; intro x hx; cases hx
  | succ k ih =>
    intro cs h hd
    by_cases hc : cs = []
    · subst hc; rw [chunks_nil]; intro x hx; cases hx
    · have hp : 0 < cs.length := List.length_pos_iff.mpr hc
      rw [chunks_ne hc]
      intro x hx
      rcases List.mem_cons.mp hx with rfl | hx
      · have h1 := dval_lt (cs.drop (cs.length - 4)) fun c hc => hd c (List.mem_of_mem_drop hc)
        have h2 : 10 ^ (cs.drop (cs.length - 4)).length ≤ 10 ^ 4 := Nat.pow_le_pow_right (by decide) (by rw [List.length_drop]; omega)
        omega
      · exact ih _ (by rw [List.length_take]; omega) (fun c hc => hd c (List.mem_of_mem_take hc)) x hx
theorem chunks_ok (cs : List Nat) (h : ∀ c ∈ cs, 48 ≤ c ∧ c ≤ 57) : ∀ x ∈ chunks cs, 0 ≤ x ∧ x ≤ 9999 := chunks_range _ cs (Nat.le_refl _) h
theorem val_take_zero {l : List Int} {n : Nat} (h : n < l.length) (h0 : l.getD n 0 = 0) : val (l.take n) = val (l.take (n + 1)) := by
  have e : l.take (n + 1) = l.take n ++ [l[n]] := List.take_succ_eq_append_getElem h
  have e0 : l[n] = 0 := by simpa [List.getD, h] using h0
  rw [e, val_append, e0]
  simp [val]
theorem trim_nf {l : List Int} {n : Nat} (hr : ∀ x ∈ l, 0 ≤ x ∧ x ≤ 9999) (hn : n ≤ l.length) (h : n = 0 ∨ l.getD (n - 1) 0 ≠ 0) : Nf (l.take n) := by
  refine ⟨fun x hx => hr x (List.mem_of_mem_take hx), fun hne => ?_⟩
  have hn0 : n ≠ 0 := by intro h0; subst h0; simp at hne
  rcases h with h | h
  · exact absurd h hn0
  · have hlt : n - 1 < l.length := by omega
    have e : (l.take n).getLast hne = l[n - 1] := by
      rw [List.getLast_eq_getElem]
      simp only [List.length_take, Nat.min_eq_left hn, List.getElem_take]
    rw [e]
    simpa [List.getD, hlt] using h
theorem trim_is {l : List Int} {n : Nat} (hr : ∀ x ∈ l, 0 ≤ x ∧ x ≤ 9999) (hn : n ≤ l.length) (h : n = 0 ∨ l.getD (n - 1) 0 ≠ 0) (hv : val (l.take n) = val l) : l.take n = limbs (val l) := by
  rw [← hv]; exact (limbs_val (trim_nf hr hn h)).symm
/-- the text of limbs, low end first -/
def textOf : List Int → List Nat
  | [] => []
  | [a] => dig a.toNat
  | a :: b :: r => textOf (b :: r) ++ pad4 a.toNat
theorem textOf_val : ∀ {l : List Int}, Nf l → l ≠ [] → textOf l = dig (val l).toNat
  | [], _, h => absurd rfl h
  | [a], _, _ => by simp [textOf, val]
  | a :: b :: r, h, _ => by
    have h1 := h.1 a (.head _)
    have hp := val_pos_of_nf h.tail (by simp)
    rw [textOf, textOf_val h.tail (by simp)]
    have e : (val (a :: b :: r)).toNat = (val (b :: r)).toNat * 10000 + a.toNat := by
      rw [val]; omega
    rw [e, dig_big (by omega) (by omega)]
/-- order -/
theorem limbs_len_mono (n : Int) : ∀ m : Int, n ≤ m → (limbs n).length ≤ (limbs m).length := by
  induction n using limbs_ind with
  | h0 n h => intro m _; rw [limbs_nonpos h]; simp
  | h1 n h ih =>
    intro m hm
    rw [limbs_pos h, limbs_pos (show 0 < m by omega), List.length_cons, List.length_cons]
    have := ih (m / 10000) (by omega)
    omega
theorem lt_of_len {m n : Int} (h : (limbs m).length < (limbs n).length) : m < n := by
  by_cases h' : m < n
  · exact h'
  · have := limbs_len_mono n m (by omega); omega
theorem val_lt_at : ∀ {a b : List Int} {i : Nat}, a.length = b.length → (∀ x ∈ a, 0 ≤ x ∧ x ≤ 9999) → (∀ x ∈ b, 0 ≤ x ∧ x ≤ 9999) → a.getD i 0 < b.getD i 0 → (∀ j, i < j → j < a.length → a.getD j 0 = b.getD j 0) → val a < val b
  | [], [], i, _, _, _, h, _ => by simp at h
  | [], y :: t, _, hl, _, _, _, _ => by simp at hl
  | x :: r, [], _, hl, _, _, _, _ => by simp at hl
  | x :: r, y :: t, 0, hl, ha, hb, h, he => by
    have e : r = t := by
      apply List.ext_getElem (by simpa using hl)
      intro j h1 h2
      have := he (j + 1) (by omega) (by rw [List.length_cons]; omega)
      simpa [List.getD, h1, h2] using this
    subst e
    simp at h
    rw [val, val]; omega
  | x :: r, y :: t, i + 1, hl, ha, hb, h, he => by
    have h1 := val_lt_at (a := r) (b := t) (i := i) (by simpa using hl) (fun z hz => ha z (.tail _ hz)) (fun z hz => hb z (.tail _ hz)) (by simpa [List.getD] using h) (fun j hj hj2 => by
      have := he (j + 1) (by omega) (by rw [List.length_cons]; omega)
      simpa [List.getD] using this)
    have h2 := ha x (.head _)
    have h3 := hb y (.head _)
    rw [val, val]; omega
theorem eq_of_getD {a b : List Int} (hl : a.length = b.length) (h : ∀ j, j < a.length → a.getD j 0 = b.getD j 0) : a = b := by
  apply List.ext_getElem hl
  intro j h1 h2
  have := h j h1
  simpa [List.getD, h1, h2] using this
theorem limbs_inj {m n : Int} (hm : 0 ≤ m) (hn : 0 ≤ n) (h : limbs m = limbs n) : m = n := by
  rw [← val_limbs m hm, ← val_limbs n hn, h]
end Mine

open PySem PySem.W PyProof.Rows
namespace Mine
/-- to_int's loop: n is what the top part of a spells -/
structure Up (a pre : List Int) (n : Int) : Prop where
  eq : n = val (a.drop (a.length - pre.length))
theorem Up.start {a : List Int} : Up a [] 0 := ⟨by simp [val]⟩
theorem Up.turn {a pre : List Int} {n k : Int} {m : Nat} (h : Up a pre n) (hk : k = (m : Int) - 1 - (pre.length : Int)) (hl : pre.length < ((m : Int) - 1 - -1).toNat) (hm : m = a.length) : Up a (pre ++ [k]) (n * 10000 + a.getD k.toNat 0) := by
  obtain ⟨h⟩ := h
  subst h hm
  refine ⟨?_⟩
  rw [List.length_append, List.length_cons, List.length_nil]
  have e : k.toNat = a.length - (pre.length + (0 + 1)) := by omega
  have hlt : a.length - (pre.length + (0 + 1)) < a.length := by omega
  rw [e, List.drop_eq_getElem_cons hlt, val]
  have e2 : a.length - (pre.length + (0 + 1)) + 1 = a.length - pre.length := by omega
  rw [e2]
  have e3 : a.getD (a.length - (pre.length + (0 + 1))) 0 = a[a.length - (pre.length + (0 + 1))] := by simp [List.getD, hlt]
  rw [e3]; omega
theorem Up.done {a p : List Int} {n : Int} (h : Up a p n) (hl : a.length ≤ p.length) : n = val a := by
  have e : a.length - p.length = 0 := by omega
  rw [h.eq, e, List.drop_zero]
/-- the law's own sum -/
structure Row (pre : List Int) (w pl : Int) : Prop where
  left : w = val pre
  right : pl = 10000 ^ pre.length
theorem Row.start : Row [] 0 1 := ⟨rfl, rfl⟩
theorem Row.turn {pre : List Int} {w pl x : Int} (h : Row pre w pl) : Row (pre ++ [x]) (w + x * pl) (pl * 10000) := by
  obtain ⟨rfl, rfl⟩ := h
  refine ⟨?_, ?_⟩
  · rw [val_append, val, val, Int.mul_comm x]; simp
  · rw [List.length_append, List.length_cons, List.length_nil, Int.pow_succ]
end Mine

namespace Mine
/-- a list of ints with one more: its ints -/
theorem grown {h₀ h : Heap} {L l : Addr} {news : List (Addr × Obj)} {us : List Value} {ns : List Int} {x : Int} {t : Tok} {c : Nat} (_N : News h₀ L h news) (hi : IntsAre us ns) (_hm : (l, W.listOf (us ++ [Value.int x t]).toArray c) ∈ news) : IntsAre (us ++ [Value.int x t]) (ns ++ [x]) :=
  hi.append (.cons _ _ .nil)
structure Limbs (l : List Int) : Prop where
  all : ∀ x ∈ l, 0 ≤ x ∧ x ≤ 9999
theorem Limbs.start : Limbs [] := ⟨fun _ h => nomatch h⟩
theorem Limbs.snoc {l : List Int} {x : Int} (h : Limbs l) (h0 : 0 ≤ x) (h1 : x ≤ 9999) : Limbs (l ++ [x]) := by
  refine ⟨?_⟩
  intro y hy
  rcases List.mem_append.mp hy with hy | hy
  · exact h.all y hy
  · rw [List.mem_singleton.mp hy]; exact ⟨h0, h1⟩
theorem fmod_range (c : Int) : 0 ≤ c.fmod 10000 ∧ c.fmod 10000 ≤ 9999 := by
  rw [Int.fmod_eq_emod_of_nonneg _ (by decide)]; omega
theorem fmod1_range (c : Int) : 0 ≤ 1 + c.fmod 9999 ∧ 1 + c.fmod 9999 ≤ 9999 := by
  rw [Int.fmod_eq_emod_of_nonneg _ (by decide)]; omega
theorem Limbs.snoc_mod {l : List Int} {c : Int} (h : Limbs l) : Limbs (l ++ [c.fmod 10000]) := h.snoc (fmod_range c).1 (fmod_range c).2
theorem Limbs.snoc_top {l : List Int} {c : Int} (h : Limbs l) : Limbs (l ++ [1 + c.fmod 9999]) := h.snoc (fmod1_range c).1 (fmod1_range c).2
theorem Limbs.getD {l : List Int} (h : Limbs l) (k : Nat) : 0 ≤ l.getD k 0 ∧ l.getD k 0 ≤ 9999 := by
  by_cases hk : k < l.length
  · have e : l.getD k 0 = l[k] := by simp [List.getD, hk]
    rw [e]; exact h.all _ (List.getElem_mem hk)
  · have e : l.getD k 0 = 0 := by simp [List.getD, Nat.not_lt.mp hk]
    rw [e]; decide
theorem Limbs.bits {l : List Int} (h : Limbs l) (k : Nat) : PySem.Builtin.Int.intBits (l.getD k 0) ≤ 64 := by
  have := h.getD k
  exact PySem.intBits_le_64 (by omega) (by omega)
/-- a sum by places -/
structure Sum (row pre : List Int) (w : Int) : Prop where
  eq : w = val (row.take pre.length)
theorem Sum.start {row : List Int} : Sum row [] 0 := ⟨by simp [val]⟩
theorem Sum.turn {row pre : List Int} {w k : Int} (h : Sum row pre w) (hk : k = 0 + (pre.length : Int)) (hl : pre.length < row.length) : Sum row (pre ++ [k]) (w + row.getD k.toNat 0 * 10000 ^ k.toNat) := by
  obtain ⟨h⟩ := h
  subst h
  refine ⟨?_⟩
  have e : k.toNat = pre.length := by omega
  rw [e, List.length_append, List.length_cons, List.length_nil, List.take_succ_eq_append_getElem hl, val_append]
  have e1 : row.getD pre.length 0 = row[pre.length] := by simp [List.getD, hl]
  have e2 : (row.take pre.length).length = pre.length := by rw [List.length_take]; omega
  rw [e1, e2, val, val, Int.mul_comm (row[pre.length])]
  simp
theorem Sum.done {row p : List Int} {w : Int} (h : Sum row p w) (hl : row.length ≤ p.length) : w = val row := by
  rw [h.eq, List.take_of_length_le hl]
end Mine

namespace Mine
theorem str_ext {a b : Str} (h : a.cps.toList = b.cps.toList) : a = b := by
  cases a; cases b
  simp only [Str.mk.injEq]
  exact Array.toList_inj.mp h
theorem cps_app (a b : Str) : (a ++ b).cps.toList = a.cps.toList ++ b.cps.toList := by
  rw [Str.cps_append, Array.toList_append]
theorem cps_of (s : String) : (Str.ofString s).cps.toList = s.toList.map Char.toNat := by
  simp only [Str.ofString_eq_toList, List.toList_toArray]
theorem cps_nat (m : Nat) : (Str.ofString (toString ((m : Nat) : Int))).cps.toList = dig m := by
  rw [cps_of]
  show (Nat.repr m).toList.map Char.toNat = _
  rw [Nat.toList_repr]; rfl
theorem cps_num {n : Int} (h : 0 ≤ n) : (Str.ofString (toString n)).cps.toList = dig n.toNat := by
  obtain ⟨m, rfl⟩ := Int.eq_ofNat_of_zero_le h
  exact cps_nat m
theorem cps_neg {n : Int} (h : n < 0) : (Str.ofString (toString n)).cps.toList = 45 :: dig (-n).toNat := by
  obtain ⟨m, rfl⟩ : ∃ m : Nat, n = Int.negSucc m := by
    cases n with
    | ofNat k => exact absurd h (by simp)
    | negSucc m => exact ⟨m, rfl⟩
  rw [cps_of]
  show (("-" ++ Nat.repr (m + 1)) : String).toList.map Char.toNat = _
  rw [String.toList_append, List.map_append, Nat.toList_repr]
  rfl
theorem len_cps (x : Str) : x.length = x.cps.toList.length := Array.length_toList.symm
theorem cps_pad (x : Str) (k : Nat) : (Builtin.Str.padded x k 0 48).cps.toList = List.replicate k 48 ++ x.cps.toList := by
  unfold Builtin.Str.padded
  simp
theorem zf {n : Int} (h0 : 0 ≤ n) (h1 : n ≤ 9999) : (Txt.zfill (Str.ofString (toString n)) 4).cps.toList = pad4 n.toNat := by
  have e := cps_num h0
  rw [← pad4_eq (show n.toNat < 10000 by omega), ← e]
  have el := len_cps (Str.ofString (toString n))
  generalize hx : Str.ofString (toString n) = x at *
  unfold Txt.zfill
  by_cases h : (4 : Int) ≤ x.length
  · rw [if_pos h]
    have : 4 - x.cps.toList.length = 0 := by omega
    rw [this]; rfl
  · rw [if_neg h]
    have hz : zfilled x ((4 : Int).toNat - x.length) = Builtin.Str.padded x ((4 : Int).toNat - x.length) 0 48 := by
      unfold zfilled
      have hc : ∀ c, x.cps[0]? = some c → 48 ≤ c := by
        intro c hc
        have : c ∈ x.cps.toList := by
          rw [← Array.getElem?_toList] at hc
          exact List.mem_of_getElem? hc
        rw [e] at this
        exact (dig_digits _ c this).1
      split
      · rename_i hc'; exact absurd (hc _ hc') (by decide)
      · rename_i hc'; exact absurd (hc _ hc') (by decide)
      · rfl
    rw [hz, cps_pad, el]
    rfl
theorem join_cps (ys : List Str) : (Txt.join (Str.ofString "") ys).cps.toList = ys.flatMap (·.cps.toList) := by
  have e : Txt.join (Str.ofString "") ys = Str.join (Str.ofString "") ys := StrLaws.glued_eq_join _ _
  rw [e]
  have z : (Str.ofString "").cps.toList = [] := by rw [cps_of]; rfl
  have hj : ∀ ys : List Str, (Str.join (Str.ofString "") ys).cps.toList = ys.flatMap (·.cps.toList) := by
    intro ys
    induction ys with
    | nil => rfl
    | cons x r ih =>
      cases r with
      | nil => simp [Str.join]
      | cons y t =>
        rw [Str.join, cps_app, cps_app, z, ih, List.flatMap_cons]
        · simp
        · simp
  exact hj ys
/-- to_decimal's pieces: what the top part of a spells -/
structure Pieces (a pre : List Int) (ps : List Str) : Prop where
  eq : ps.flatMap (·.cps.toList) = textOf (a.drop (a.length - 1 - pre.length))
  w : (ps.map (·.length)).sum ≤ 4 * ps.length
theorem num_len {n : Int} (h0 : 0 ≤ n) (h1 : n ≤ 9999) : (Str.ofString (toString n)).length ≤ 4 := by
  rw [len_cps, cps_num h0]
  exact dig_len_of (by decide) (by omega)
theorem zf_len {n : Int} (h0 : 0 ≤ n) (h1 : n ≤ 9999) : (Txt.zfill (Str.ofString (toString n)) 4).length = 4 := by
  rw [len_cps, zf h0 h1]; rfl
theorem Pieces.start {a : List Int} {x : Int} (hx : x = a.getD ((a.length : Int) - 1).toNat 0) (hl : 0 < a.length) (h0 : 0 ≤ x) (h1 : x ≤ 9999) : Pieces a [] [Str.ofString (toString x)] := by
  refine ⟨?_, by simpa using num_len h0 h1⟩
  have e : a.length - 1 - ([] : List Int).length = a.length - 1 := by simp
  rw [e]
  have hlt : a.length - 1 < a.length := by omega
  rw [List.drop_eq_getElem_cons hlt]
  have e2 : a.length - 1 + 1 = a.length := by omega
  rw [e2, List.drop_length, textOf]
  have e3 : x = a[a.length - 1] := by
    rw [hx]
    have : ((a.length : Int) - 1).toNat = a.length - 1 := by omega
    rw [this]; simp [List.getD, hlt]
  rw [← e3, List.flatMap_cons, List.flatMap_nil, List.append_nil, cps_num h0]
theorem Pieces.turn {a pre : List Int} {ps : List Str} {k : Int} (h : Pieces a pre ps) (hk : k = (a.length : Int) - 2 - (pre.length : Int)) (hlt : 0 ≤ k) (h0 : 0 ≤ a.getD k.toNat 0) (h1 : a.getD k.toNat 0 ≤ 9999) : Pieces a (pre ++ [k]) (ps ++ [Txt.zfill (Str.ofString (toString (a.getD k.toNat 0))) 4]) := by
  have hl : k.toNat < a.length := by omega
  refine ⟨?_, by
    have hw := h.w
    have hz := zf_len h0 h1
    rw [List.map_append, List.sum_append, List.length_append, List.map_cons, List.map_nil, List.sum_cons, List.sum_nil, hz, List.length_cons, List.length_nil]
    omega⟩
  rw [List.flatMap_append, h.eq, List.length_append, List.length_cons, List.length_nil]
  have e : a.length - 1 - (pre.length + (0 + 1)) = k.toNat := by omega
  have e1 : a.length - 1 - pre.length = k.toNat + 1 := by omega
  rw [e, e1, List.drop_eq_getElem_cons hl]
  have hl2 : k.toNat + 1 < a.length := by omega
  have e4 : a.getD k.toNat 0 = a[k.toNat] := by simp [List.getD, hl]
  rw [List.drop_eq_getElem_cons hl2, textOf, ← List.drop_eq_getElem_cons hl2, ← e4, List.flatMap_cons, List.flatMap_nil, List.append_nil, zf h0 h1]
theorem Pieces.done {a p : List Int} {ps : List Str} (h : Pieces a p ps) (hp : a.length ≤ p.length + 1) : (Txt.join (Str.ofString "") ps).cps.toList = textOf a := by
  rw [join_cps, h.eq]
  have : a.length - 1 - p.length = 0 := by omega
  rw [this, List.drop_zero]
theorem Pieces.weight {a p : List Int} {ps : List Str} (h : Pieces a p ps) (hp : ps.length ≤ 1000) : (ps.map (·.length)).sum + ps.length ≤ 1048576 := by
  have := h.w
  omega
theorem join_len (ps : List Str) : (Txt.join (Str.ofString "") ps).length = (ps.map (·.length)).sum := by
  rw [len_cps, join_cps, List.length_flatMap]
  congr 1
theorem Pieces.minus {a p : List Int} {ps : List Str} (h : Pieces a p ps) (hp : ps.length ≤ 1000) : (Str.ofString "-").length + (Txt.join (Str.ofString "") ps).length ≤ sizeLine := by
  have h1 := h.w
  have h2 : (Str.ofString "-").length = 1 := by decide
  rw [join_len, h2, PySem.sizeLine_eq]
  omega
end Mine

namespace Mine
theorem span_rng (c k : Int) : 0 ≤ (if 0 ≤ c.fmod 5 ∧ c.fmod 5 < 5 ∧ ¬([1, 10, 100, 1000, 10000] : List Int).getD (c.fmod 5).toNat 0 = 0 then (c.fdiv 5).fmod (([1, 10, 100, 1000, 10000] : List Int).getD (c.fmod 5).toNat 0) else k) ∧ (if 0 ≤ c.fmod 5 ∧ c.fmod 5 < 5 ∧ ¬([1, 10, 100, 1000, 10000] : List Int).getD (c.fmod 5).toNat 0 = 0 then (c.fdiv 5).fmod (([1, 10, 100, 1000, 10000] : List Int).getD (c.fmod 5).toNat 0) else k) ≤ 9999 := by
  have h1 := fmod_lo c (n := 5) (by decide)
  have h2 := fmod_hi c (n := 5) (by decide)
  generalize c.fdiv 5 = d
  have key : ∀ m : Int, 0 < m → m ≤ 10000 → 0 ≤ d.fmod m ∧ d.fmod m ≤ 9999 := by
    intro m hm hm2
    have h3 := fmod_lo d hm
    have h4 := fmod_hi d hm
    omega
  rcases (by omega : c.fmod 5 = 0 ∨ c.fmod 5 = 1 ∨ c.fmod 5 = 2 ∨ c.fmod 5 = 3 ∨ c.fmod 5 = 4) with e | e | e | e | e <;> rw [e]
  · exact key 1 (by decide) (by decide)
  · exact key 10 (by decide) (by decide)
  · exact key 100 (by decide) (by decide)
  · exact key 1000 (by decide) (by decide)
  · exact key 10000 (by decide) (by decide)
theorem gen31 {ys : List Value} {F : Int → Int} {c : Int} (h : IntsAre ys (List.map F (rangeKs 0 (c.fmod 8 - 0).toNat))) (hF : ∀ k, 0 ≤ F k ∧ F k ≤ 9999) : ∃ L, IntsAre ys L ∧ Limbs L ∧ (L.length : Int) = c.fmod 8 := by
  refine ⟨_, h, ⟨fun x hx => ?_⟩, ?_⟩
  · obtain ⟨k, _, rfl⟩ := List.mem_map.mp hx
    exact hF k
  · have h1 := fmod_lo c (n := 8) (by decide)
    rw [List.length_map, rangeKs_length]; omega
/-- a magnitude in normal form that is not zero -/
structure Mag (L : List Int) : Prop where
  lim : ∀ x ∈ L, 0 ≤ x ∧ x ≤ 9999
  pos : 0 < L.length
  len : L.length ≤ 7
  top : L.getD (L.length - 1) 0 ≠ 0
theorem Mag.nf {L : List Int} (h : Mag L) : Nf L := by
  refine ⟨h.lim, fun hne => ?_⟩
  have hlt : L.length - 1 < L.length := by have := h.pos; omega
  rw [List.getLast_eq_getElem]
  have := h.top
  simpa [List.getD, hlt] using this
theorem Mag.keep {L : List Int} {c : Int} (h : Limbs L) (hl : (L.length : Int) = c) (hc : c ≠ 0) (hc7 : c < 8) (ht : L.getD (c - 1).toNat 0 ≠ 0) : Mag L := by
  refine ⟨h.all, by omega, by omega, ?_⟩
  have e : (c - 1).toNat = L.length - 1 := by omega
  rw [← e]; exact ht
theorem Mag.put {L : List Int} {c : Int} {ys : List Value} (hi : IntsAre ys (L.set (c - 1).toNat 1)) (h : Limbs L) (hl : (L.length : Int) = c) (hc : c ≠ 0) (hc7 : c < 8) : ∃ L2, IntsAre ys L2 ∧ Mag L2 := by
  refine ⟨_, hi, ⟨fun x hx => ?_, ?_, ?_, ?_⟩⟩
  · rcases List.mem_or_eq_of_mem_set hx with hx | rfl
    · exact h.all x hx
    · decide
  · rw [List.length_set]; omega
  · rw [List.length_set]; omega
  · have e : (c - 1).toNat = L.length - 1 := by omega
    have hlt : L.length - 1 < L.length := by omega
    rw [List.length_set, e]
    simp [List.getD, hlt]
theorem Mag.item {L : List Int} (h : Mag L) (k : Nat) : 0 ≤ L.getD k 0 ∧ L.getD k 0 ≤ 9999 := Limbs.getD ⟨h.lim⟩ k
theorem Mag.shown {L : List Int} (h : Mag L) (k : Nat) : (L.getD k 0).natAbs.log2 < 1920 := by
  have := h.item k
  exact PyProof.Rows.shown (N := 10001) (by omega) (by omega) (by decide +kernel)
theorem Mag.bits {L : List Int} {x : Int} (h : Mag L) (hx : x ∈ L) : PySem.Builtin.Int.intBits x ≤ 64 := by
  have := h.lim x hx
  exact PySem.intBits_le_64 (by omega) (by omega)
theorem Mag.val_lt {L : List Int} (h : Mag L) : 0 < val L ∧ val L < 10000 ^ 7 := by
  refine ⟨val_pos_of_nf h.nf (by intro e; have := h.pos; rw [e] at this; simp at this), ?_⟩
  have h1 := Mine.val_lt h.lim
  have h2 : (10000 : Int) ^ L.length ≤ 10000 ^ 7 := by
    have hb := h.len
    generalize L.length = n at hb
    have : n = 0 ∨ n = 1 ∨ n = 2 ∨ n = 3 ∨ n = 4 ∨ n = 5 ∨ n = 6 ∨ n = 7 := by omega
    rcases this with e | e | e | e | e | e | e | e <;> subst e <;> decide
  omega
theorem Mag.str {L : List Int} {v pl r : Int} (h : Mag L) (hR : Row L v pl) (hr : r = 1 ∨ r = -1) : (r * v).natAbs.log2 < 1920 := by
  have h1 := h.val_lt
  have e := hR.left
  rw [← e] at h1
  have e7 : (10000 : Int) ^ 7 ≤ 2 ^ 1920 := by decide +kernel
  have h2 : v < 10000000000000000000000000000 := by
    have : (10000 : Int) ^ 7 = 10000000000000000000000000000 := by decide
    omega
  refine PyProof.Rows.shown (N := 10000000000000000000000000001) ?_ ?_ (by decide +kernel)
  · rcases hr with e | e <;> subst e <;> omega
  · rcases hr with e | e <;> subst e <;> omega
theorem text_mag {L p : List Int} {ps : List Str} {v pl : Int} (h : Mag L) (hR : Row L v pl) (hP : Pieces L p ps) (hp : L.length ≤ p.length + 1) : (Txt.join (Str.ofString "") ps).cps.toList = dig v.toNat := by
  rw [hP.done hp, textOf_val h.nf (by intro e; have := h.pos; rw [e] at this; simp at this), ← hR.left]
theorem end_plus {L p : List Int} {ps : List Str} {v pl r : Int} (hne : (Txt.join (Str.ofString "") ps != Str.ofString (toString (r * v))) = true) (hr0 : ¬ r < 0) (hr : r = 1 ∨ r = -1) (h : Mag L) (hR : Row L v pl) (hP : Pieces L p ps) (hp : L.length ≤ p.length + 1) : False := by
  have e1 : r = 1 := by omega
  subst e1
  have hv := h.val_lt
  rw [← hR.left] at hv
  have : Txt.join (Str.ofString "") ps = Str.ofString (toString (1 * v)) := str_ext (by rw [text_mag h hR hP hp, Int.one_mul, cps_num (by omega)])
  rw [this] at hne
  simp at hne
theorem end_minus {L p : List Int} {ps : List Str} {v pl r : Int} (hne : (Str.ofString "-" ++ Txt.join (Str.ofString "") ps != Str.ofString (toString (r * v))) = true) (hr0 : r < 0) (hr : r = 1 ∨ r = -1) (h : Mag L) (hR : Row L v pl) (hP : Pieces L p ps) (hp : L.length ≤ p.length + 1) : False := by
  have e1 : r = -1 := by omega
  subst e1
  have hv := h.val_lt
  rw [← hR.left] at hv
  have e2 : -1 * v = -v := by omega
  have : Str.ofString "-" ++ Txt.join (Str.ofString "") ps = Str.ofString (toString (-1 * v)) := str_ext (by
    rw [cps_app, text_mag h hR hP hp, e2, cps_neg (by omega), cps_of]
    have e3 : - -v = v := by omega
    rw [e3]; rfl)
  rw [this] at hne
  simp at hne
theorem end_nought {v : Int} (hne : (Str.ofString "0" != Str.ofString (toString (0 * v))) = true) : False := by
  have : Str.ofString "0" = Str.ofString (toString (0 * v)) := by rw [Int.zero_mul]; rfl
  rw [this] at hne
  simp at hne
end Mine

namespace Mine
/-- the ways of a statement meet: x holds an int of which Good is known, all else stands -/
structure JoinP (x : Str) (Good : Int → Prop) (h₀ : Heap) (L : Addr) (m : Str → Option Value) (news : List (Addr × Obj)) (s : Shared) (f : Flow) (s' : Shared) : Prop where
  next : f = .next
  here : ∃ (r : Int) (t : Tok) (h : Heap) (tk : Nat), Good r ∧ s' = { s with heap := h, toks := tk } ∧ Fr h₀ L h (fun y => if y = x then some (.int r t) else m y) ∧ News h₀ L h news
/-- we are within such a statement -/
structure InJoin : Prop where
structure JoinK (P : Prop) : Prop where
  out : P
section
variable {M : Model} {A : Around} {E : Value → Shared → Prop} {s : Shared} {env : Env} {h₀ : Heap} {L : Addr} {m : Str → Option Value} {news : List (Addr × Obj)} {Q : Flow → Shared → Prop} {st : Stmt}
theorem JoinP.mk' {x : Str} {Good : Int → Prop} {r : Int} {t : Tok} {h : Heap} {tk : Nat} (F : Fr h₀ L h (fun y => if y = x then some (.int r t) else m y)) (N : News h₀ L h news) (g : Good r) :
    JoinP x Good h₀ L m news s .next { s with heap := h, toks := tk } := ⟨rfl, r, t, h, tk, g, rfl, F, N⟩
theorem join_if (x : Str) (Good : Int → Prop) (_F : Fr h₀ L s.heap m) (_N : News h₀ L s.heap news)
    (h1 : InJoin → wpAny M A (exec st env) (fun f s₃ => JoinP x Good h₀ L m news s f s₃) E s)
    (h2 : JoinK (∀ (r : Int) (t : Tok) (h : Heap) (tk : Nat), Good r → Fr h₀ L h (fun y => if y = x then some (.int r t) else m y) → News h₀ L h news → Q .next { s with heap := h, toks := tk })) :
    wpAny M A (exec st env) Q E s := by
  refine wpAny_mono (h1 ⟨⟩) (fun f s₃ hf => ?_) fun _ _ h => h
  obtain ⟨hf, r, t, h, tk, g, e, F, N⟩ := hf
  subst hf
  subst e
  exact h2.out r t h tk g F N
/-- the ways of a statement meet where it stores nothing -/
structure JoinS (h₀ : Heap) (L : Addr) (m : Str → Option Value) (news : List (Addr × Obj)) (s : Shared) (f : Flow) (s' : Shared) : Prop where
  next : f = .next
  here : ∃ (h : Heap) (tk : Nat), s' = { s with heap := h, toks := tk } ∧ Fr h₀ L h m ∧ News h₀ L h news
theorem JoinS.mk' {h : Heap} {tk : Nat} (F : Fr h₀ L h m) (N : News h₀ L h news) : JoinS h₀ L m news s .next { s with heap := h, toks := tk } := ⟨rfl, h, tk, rfl, F, N⟩
theorem join_stmt (_F : Fr h₀ L s.heap m) (_N : News h₀ L s.heap news)
    (h1 : InJoin → wpAny M A (exec st env) (fun f s₃ => JoinS h₀ L m news s f s₃) E s)
    (h2 : JoinK (∀ (h : Heap) (tk : Nat), Fr h₀ L h m → News h₀ L h news → Q .next { s with heap := h, toks := tk })) :
    wpAny M A (exec st env) Q E s := by
  refine wpAny_mono (h1 ⟨⟩) (fun f s₃ hf => ?_) fun _ _ h => h
  obtain ⟨hf, h, tk, e, F, N⟩ := hf
  subst hf
  subst e
  exact h2.out h tk F N
theorem frame_same {x : Str} {v : Value} {h : Heap} (hm : m x = some v) (F : Fr h₀ L h m) : Fr h₀ L h (fun y => if y = x then some v else m y) := by
  have e : (fun y => if y = x then some v else m y) = m := by
    funext y
    by_cases hy : y = x
    · rw [if_pos hy, hy, hm]
    · rw [if_neg hy]
  rw [e]; exact F
theorem JoinP.same {x : Str} {Good : Int → Prop} {r : Int} {t : Tok} {h : Heap} {tk : Nat} (F : Fr h₀ L h m) (hm : m x = some (.int r t)) (N : News h₀ L h news) (g : Good r) :
    JoinP x Good h₀ L m news s .next { s with heap := h, toks := tk } := ⟨rfl, r, t, h, tk, g, rfl, frame_same hm F, N⟩
/-- the ways of a statement meet: x holds a list of ints of which Good is known -/
structure JoinL (x : Str) (Good : List Int → Prop) (h₀ : Heap) (L : Addr) (m : Str → Option Value) (news : List (Addr × Obj)) (s : Shared) (f : Flow) (s' : Shared) : Prop where
  next : f = .next
  here : ∃ (a : Addr) (us : List Value) (ns : List Int) (c : Nat) (h : Heap) (tk : Nat), Good ns ∧ IntsAre us ns ∧ s' = { s with heap := h, toks := tk } ∧ Fr h₀ L h (fun y => if y = x then some (.ref a) else m y) ∧ News h₀ L h ((a, W.listOf us.toArray c) :: news)
theorem news_cons {h : Heap} {news' : List (Addr × Obj)} {p : Addr × Obj} (N : News h₀ L h news') (hp : p ∈ news') (hs : ∀ q ∈ news, q ∈ news') : News h₀ L h (p :: news) := fun q hq => by
  rcases List.mem_cons.mp hq with e | hq
  · rw [e]; exact N p hp
  · exact N q (hs q hq)
theorem JoinL.mk' {x : Str} {Good : List Int → Prop} {a : Addr} {us : List Value} {ns : List Int} {c : Nat} {h : Heap} {tk : Nat} {news' : List (Addr × Obj)} (F : Fr h₀ L h (fun y => if y = x then some (.ref a) else m y)) (N : News h₀ L h news') (hs : ∀ q ∈ news, q ∈ news') (hp : (a, W.listOf us.toArray c) ∈ news') (hi : IntsAre us ns) (g : Good ns) :
    JoinL x Good h₀ L m news s .next { s with heap := h, toks := tk } := ⟨rfl, a, us, ns, c, h, tk, g, hi, rfl, F, news_cons N hp hs⟩
theorem JoinL.same {x : Str} {Good : List Int → Prop} {a : Addr} {us : List Value} {ns : List Int} {c : Nat} {h : Heap} {tk : Nat} {news' : List (Addr × Obj)} (F : Fr h₀ L h m) (hm : m x = some (.ref a)) (N : News h₀ L h news') (hs : ∀ q ∈ news, q ∈ news') (hp : (a, W.listOf us.toArray c) ∈ news') (hi : IntsAre us ns) (g : Good ns) :
    JoinL x Good h₀ L m news s .next { s with heap := h, toks := tk } := ⟨rfl, a, us, ns, c, h, tk, g, hi, rfl, frame_same hm F, news_cons N hp hs⟩
theorem join_list (x : Str) (Good : List Int → Prop) (_F : Fr h₀ L s.heap m) (_N : News h₀ L s.heap news)
    (h1 : InJoin → wpAny M A (exec st env) (fun f s₃ => JoinL x Good h₀ L m news s f s₃) E s)
    (h2 : JoinK (∀ (a : Addr) (us : List Value) (ns : List Int) (c : Nat) (h : Heap) (tk : Nat), Good ns → IntsAre us ns → Fr h₀ L h (fun y => if y = x then some (.ref a) else m y) → News h₀ L h ((a, W.listOf us.toArray c) :: news) → Q .next { s with heap := h, toks := tk })) :
    wpAny M A (exec st env) Q E s := by
  refine wpAny_mono (h1 ⟨⟩) (fun f s₃ hf => ?_) fun _ _ h => h
  obtain ⟨hf, a, us, ns, c, h, tk, g, hi, e, F, N⟩ := hf
  subst hf
  subst e
  exact h2.out a us ns c h tk g hi F N
/-- the ways of a statement meet: x holds a bool of which Good is known -/
structure JoinB (x : Str) (Good : Bool → Prop) (h₀ : Heap) (L : Addr) (m : Str → Option Value) (news : List (Addr × Obj)) (s : Shared) (f : Flow) (s' : Shared) : Prop where
  next : f = .next
  here : ∃ (b : Bool) (h : Heap) (tk : Nat), Good b ∧ s' = { s with heap := h, toks := tk } ∧ Fr h₀ L h (fun y => if y = x then some (.bool b) else m y) ∧ News h₀ L h news
theorem JoinB.mk' {x : Str} {Good : Bool → Prop} {b : Bool} {h : Heap} {tk : Nat} (F : Fr h₀ L h (fun y => if y = x then some (.bool b) else m y)) (N : News h₀ L h news) (g : Good b) :
    JoinB x Good h₀ L m news s .next { s with heap := h, toks := tk } := ⟨rfl, b, h, tk, g, rfl, F, N⟩
theorem JoinB.same {x : Str} {Good : Bool → Prop} {b : Bool} {h : Heap} {tk : Nat} (F : Fr h₀ L h m) (hm : m x = some (.bool b)) (N : News h₀ L h news) (g : Good b) :
    JoinB x Good h₀ L m news s .next { s with heap := h, toks := tk } := ⟨rfl, b, h, tk, g, rfl, frame_same hm F, N⟩
theorem join_bool (x : Str) (Good : Bool → Prop) (_F : Fr h₀ L s.heap m) (_N : News h₀ L s.heap news)
    (h1 : InJoin → wpAny M A (exec st env) (fun f s₃ => JoinB x Good h₀ L m news s f s₃) E s)
    (h2 : JoinK (∀ (b : Bool) (h : Heap) (tk : Nat), Good b → Fr h₀ L h (fun y => if y = x then some (.bool b) else m y) → News h₀ L h news → Q .next { s with heap := h, toks := tk })) :
    wpAny M A (exec st env) Q E s := by
  refine wpAny_mono (h1 ⟨⟩) (fun f s₃ hf => ?_) fun _ _ h => h
  obtain ⟨hf, b, h, tk, g, e, F, N⟩ := hf
  subst hf
  subst e
  exact h2.out b h tk g F N
end
end Mine

namespace Mine
theorem nil31 {L : List Int} {c : Int} (_h : Limbs L) (hl : (L.length : Int) = c) (hc : c = 0) : L = [] := List.length_eq_zero_iff.mp (by omega)
theorem mag_no {L : List Int} (hl : (L.length : Int) = 0) (h : Mag L) : False := by
  have := h.pos; omega
theorem sgn_bits {r : Int} (h : r = 1 ∨ r = -1) : PySem.Builtin.Int.intBits r ≤ 64 := PySem.intBits_le_64 (by omega) (by omega)
end Mine
local macro_rules | `(tactic| walk_at "exec Return some") => `(tactic| (exfalso; first | exact absurd trivial (fun _ => Mine.mag_no (by assumption) (by assumption)) | exact absurd trivial (fun _ => Mine.end_nought (by assumption)) | exact absurd trivial (fun _ => Mine.end_plus (by assumption) (by assumption) (by assumption) (by assumption) (by assumption) (by assumption) (by simp only [downKs_length]; omega)) | exact absurd trivial (fun _ => Mine.end_minus (by assumption) (by assumption) (by assumption) (by assumption) (by assumption) (by assumption) (by simp only [downKs_length]; omega)) | ((have kFls : False := (by assumption)); exact kFls)))
local macro_rules | `(tactic| law_fin) => `(tactic| first | ((with_reducible show (true == true) = true); exact rfl))
local macro_rules | `(tactic| walk_at "binaryOp Mult int int") => `(tactic| first | (with_reducible refine mul_int ?_ (PySem.IntMulOk.of_right (by decide))) | (with_reducible refine mul_int ?_ (PySem.IntMulOk.of_left (by decide))) | (with_reducible refine mul_int ?_ (PySem.IntMulOk.of_left (Mine.Mag.bits (by assumption) (by assumption)))) | (with_reducible refine mul_int ?_ (PySem.IntMulOk.of_left (Mine.sgn_bits (by assumption)))))
local macro_rules | `(tactic| walk_at "call type:str") => `(tactic| (k_here; first | (refine P.str_of_int (Mine.Mag.shown (by assumption) _) ?_) | (refine P.str_of_int (Mine.Mag.str (by assumption) (by assumption) (by assumption)) ?_)))
local macro_rules | `(tactic| walk_at "call builtin:str.join") => `(tactic| (k_here; k_dflt (refine join_listW (by is_list) (by assumption) (by decide) (Mine.Pieces.weight (by assumption) (by simp only [downKs_length] at *; omega)) ?_); intro _ _))
local macro_rules | `(tactic| walk_at "exec If") => `(tactic| (k_here; (with_reducible show wpAny _ _ (exec (Stmt.If _ [Stmt.Assign [Expr.Name (Str.ofString "sign") _] _ _] [] _) _) _ _ _); (fail_if_success (have kMk := (by assumption : Mine.InJoin))); ((refine' Mine.join_if (Str.ofString "sign") (fun r => r = 1 ∨ r = -1) ?jF ?jN ?_ ?_); (case jF => k_asm); (case jN => k_asm); intro kMk)))
local macro_rules | `(tactic| walk_at "exec If") => `(tactic| (k_here; (with_reducible rename IntsAre _ (List.map _ (rangeKs _ _)) => hG9); ((obtain ⟨L9, hI9, kLim, kLn⟩ := Mine.gen31 hG9 (fun k => Mine.span_rng _ k)); (try (with_reducible rename (_ = List.length (List.map _ _)) => hG8; clear hG8)); (clear hG9))))
local macro_rules | `(tactic| walk_at "exec Assign") => `(tactic| (k_here; (with_reducible show wpAny _ _ (exec (Stmt.Assign [Expr.Name (Str.ofString "value") _] (Expr.Constant _ _ _) _) _) _ _ _); (fail_if_success (have kMk := (by assumption : Mine.Mag _))); first | ((with_reducible rename IntsAre _ (List.set _ _ _) => hS9); (dsimp only at hS9); (obtain ⟨L9, hI9, kMag⟩ := Mine.Mag.put hS9 (by assumption) (by assumption) (by assumption) (by assumption)); (have kLe := Mine.Mag.len kMag); (have kPs := Mine.Mag.pos kMag); (clear hS9)) | ((have kMag := Mine.Mag.keep (by assumption) (by assumption) (by assumption) (by assumption) (by assumption)); (have kLe := Mine.Mag.len kMag); (have kPs := Mine.Mag.pos kMag)) | ((have kNil := Mine.nil31 (by assumption) (by assumption) (by assumption)); (subst kNil))))
local macro_rules | `(tactic| walk_at "call type:range") => `(tactic| ((rename Fr _ _ _ _ => F'); (rename News _ _ _ _ => N'); (with_unfolding_all refine range3_rows F' N' (by decide) ?_); (intro _ _ _ _ _ _ _ _ _)))
local macro_rules | `(tactic| walk_at "JoinP") => `(tactic| first | (k_dflt (refine Mine.JoinP.mk' (by assumption) (by assumption) (Or.inr rfl))) | (k_dflt (refine Mine.JoinP.same (by assumption) (by rfl) (by assumption) (Or.inl rfl))))
local macro_rules | `(tactic| walk_at "JoinK") => `(tactic| ((refine ⟨?_⟩); (intro kR kT kH kTk kGood kF kN); (try dsimp only)))
local macro_rules | `(tactic| walk_at "subscriptTail Name Slice ref ref") => `(tactic| (k_here; (with_reducible show wpAny _ _ (subscriptTail _ (PySem.Expr.Slice none none none _) (Value.ref _) (Value.ref _)) _ _ _); (k_dflt (refine' kmk_slice_ints ?F ?N ?l ?p ?q ?i ?m ?c ?_ ?s ?t ?z; (case F => k_asm); (case N => k_asm); (case l => kmk_list); (case p => kmk_part); (case q => kmk_part); (case i => assumption); (case m => exact kmk_all (by assumption)); (case c => exact rfl); (case s => with_unfolding_all rfl); (case t => kmk_pure); (case z => (refine kmk_sz (by assumption) ?_; (simp only [sizeLine_eq]); first | omega | ((have kl9 := Mine.Mag.len (by assumption)); omega))))); (intro D' ws' h' F' N' l1 hI' hC' hL'); (clear hC' hL'); (try k_lt l1); (try k_sweep)))
local macro_rules | `(tactic| walk_at "call builtin:list.append") => `(tactic| (k_here; (with_reducible show wpAny _ _ (call (Value.builtin _) [Value.ref _, Value.str _ _]) _ _ _); (k_dflt (refine' append_K ?k1 ?k2 ?k3 ?_ ?z; (case k1 => k_asm); (case k2 => k_asm); (case k3 => k_upd); (case z => first | (simp only [List.size_toArray, PySem.sizeLine_eq]; omega) | size_fits); k_whole)); (intro h' F' N'); (try k_sweep)))
local macro_rules | `(tactic| walk_at "binaryOp Add str str") => `(tactic| (k_here; (refine PyProof.Rows.add_str ?_ (Mine.Pieces.minus (by assumption) (by omega))); (intro _ _)))
local macro_rules | `(tactic| walk_at "InvEndN") => `(tactic| k_dflt kst_close)
local macro_rules | `(tactic| walk_at "InvEndN") => `(tactic| k_dflt ksr_close)
set_option maxRecDepth 100000 in
set_option maxHeartbeats 8000000 in
theorem PySem.Challenge.cw_k8_0031_holds : PySem.Challenge.rw_k8_0031.Holds := by
  k_with "pyIter ref" => (k_of "part" => k_state (fun pre value place => Mine.Row pre value place) "value" "place")
  k_with "pyIter ref" => (k_of "i" => (k_state_given ["a"] (fun a pre ps => ps.length = pre.length + 1 ∧ ps.length ≤ 10 ∧ Mine.Pieces a pre ps) "pieces$"))
  k_with "state" => first | exact Mine.Row.start | exact Mine.Row.turn (by assumption) | exact ⟨rfl, by simp only [List.length_cons, List.length_nil]; omega, Mine.Pieces.start rfl (Mine.Mag.pos (by assumption)) (Mine.Mag.item (by assumption) _).1 (Mine.Mag.item (by assumption) _).2⟩ | exact ⟨by simp only [List.length_append, List.length_cons, List.length_nil]; omega, by (have kl9 := Mine.Mag.len (by assumption)); simp only [List.length_append, List.length_cons, List.length_nil]; omega, Mine.Pieces.turn (by assumption) kEq (by omega) (Mine.Mag.item (by assumption) _).1 (Mine.Mag.item (by assumption) _).2⟩
  open_k
