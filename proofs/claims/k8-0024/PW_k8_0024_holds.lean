import PyProof.Rows.All
import Wide.All
import OpenK.AllK
import Wide.FinOn
import PySem.Challenge.RW_k8_0024
set_option Elab.async false
namespace Mine
/-- the number that limbs spell, low end first -/
def val : List Int → Int
  | [] => 0
  | a :: r => a + 10000 * val r
def limbsN (n : Nat) : List Int := if h : n = 0 then [] else ((n % 10000 : Nat) : Int) :: limbsN (n / 10000)
termination_by n
decreasing_by omega
/-- the limbs of an int, low end first; none for what is not above zero -/
def limbs (n : Int) : List Int := limbsN n.toNat

theorem limbs_nonpos {n : Int} (h : n ≤ 0) : limbs n = [] := by
  unfold limbs
  rw [Int.toNat_of_nonpos h, limbsN]; rfl
theorem limbs_pos {n : Int} (h : 0 < n) : limbs n = (n % 10000) :: limbs (n / 10000) := by
  unfold limbs
  rw [limbsN, dif_neg (by omega)]
  congr 1
  · omega
  · congr 1; omega
theorem limbs_ind {P : Int → Prop} (h0 : ∀ n, n ≤ 0 → P n) (h1 : ∀ n, 0 < n → P (n / 10000) → P n) (n : Int) : P n := by
  have : ∀ k : Nat, ∀ n : Int, n.toNat ≤ k → P n := by
    intro k
    induction k with
    | zero => intro n hn; exact h0 n (by omega)
    | succ k ih =>
      intro n hn
      by_cases h : n ≤ 0
      · exact h0 n h
      · exact h1 n (by omega) (ih _ (by omega))
  exact this _ n (Nat.le_refl _)
theorem val_limbs (n : Int) : 0 ≤ n → val (limbs n) = n := by
  induction n using limbs_ind with
  | h0 n h => intro h'; rw [limbs_nonpos h, val]; omega
  | h1 n h ih => intro _; rw [limbs_pos h, val, ih (by omega)]; omega
theorem limbs_range (n : Int) : ∀ x ∈ limbs n, 0 ≤ x ∧ x ≤ 9999 := by
  induction n using limbs_ind with
  | h0 n h => rw [limbs_nonpos h]; intro x hx; cases hx
  | h1 n h ih =>
    rw [limbs_pos h]
    intro x hx
    rcases List.mem_cons.mp hx with rfl | hx
    · omega
    · exact ih x hx
/-- in normal form -/
def Nf (l : List Int) : Prop := (∀ x ∈ l, 0 ≤ x ∧ x ≤ 9999) ∧ ∀ h : l ≠ [], l.getLast h ≠ 0
theorem limbs_last (n : Int) : ∀ h : limbs n ≠ [], (limbs n).getLast h ≠ 0 := by
  induction n using limbs_ind with
  | h0 n h => intro h'; exact absurd (limbs_nonpos h) h'
  | h1 n h ih =>
    intro hne
    by_cases h2 : n / 10000 ≤ 0
    · have e : limbs n = [n % 10000] := by rw [limbs_pos h, limbs_nonpos h2]
      have : (limbs n).getLast hne = n % 10000 := by simp [e]
      omega
    · have hne2 : limbs (n / 10000) ≠ [] := by rw [limbs_pos (by omega)]; simp
      have : (limbs n).getLast hne = (limbs (n / 10000)).getLast hne2 := by
        simp [limbs_pos h, List.getLast_cons hne2]
      rw [this]; exact ih hne2
theorem limbs_nf (n : Int) : Nf (limbs n) := ⟨limbs_range n, limbs_last n⟩
theorem Nf.tail {a : Int} {l : List Int} (h : Nf (a :: l)) : Nf l :=
  ⟨fun x hx => h.1 x (.tail _ hx), fun hne => by have := h.2 (by simp); rwa [List.getLast_cons hne] at this⟩
theorem val_nonneg : ∀ {l : List Int}, (∀ x ∈ l, 0 ≤ x ∧ x ≤ 9999) → 0 ≤ val l
  | [], _ => Int.le_refl _
  | a :: r, h => by
    have h1 := h a (.head _)
    have h2 := val_nonneg (l := r) fun x hx => h x (.tail _ hx)
    rw [val]; omega
theorem val_pos_of_nf : ∀ {l : List Int}, Nf l → l ≠ [] → 0 < val l
  | [], _, h => absurd rfl h
  | [a], h, _ => by
    have h1 := h.1 a (.head _)
    have h2 := h.2 (by simp)
    simp at h2
    simp only [val]; omega
  | a :: b :: r, h, _ => by
    have h1 := h.1 a (.head _)
    have h2 := val_pos_of_nf h.tail (by simp)
    rw [val]; omega
theorem limbs_val : ∀ {l : List Int}, Nf l → limbs (val l) = l
  | [], _ => limbs_nonpos (Int.le_refl _)
  | a :: r, h => by
    have h1 := h.1 a (.head _)
    have hp := val_pos_of_nf h (by simp)
    rw [limbs_pos hp]
    have e1 : val (a :: r) % 10000 = a := by rw [val]; omega
    have e2 : val (a :: r) / 10000 = val r := by rw [val]; omega
    rw [e1, e2, limbs_val h.tail]
theorem nf_eq {a b : List Int} (ha : Nf a) (hb : Nf b) (h : val a = val b) : a = b := by
  rw [← limbs_val ha, ← limbs_val hb, h]
theorem limbs_len (k : Nat) : ∀ n : Int, n < 10000 ^ k → (limbs n).length ≤ k := by
  induction k with
  | zero => intro n h; rw [limbs_nonpos (by omega)]; simp
  | succ k ih =>
    intro n h
    by_cases h0 : n ≤ 0
    · rw [limbs_nonpos h0]; simp
    · rw [limbs_pos (by omega), List.length_cons]
      have := ih (n / 10000) (by rw [Int.pow_succ] at h; omega)
      omega
theorem val_append : ∀ (a b : List Int), val (a ++ b) = val a + 10000 ^ a.length * val b
  | [], b => by simp [val]
  | x :: r, b => by
    rw [List.cons_append, val, val, val_append r b, List.length_cons, Int.pow_succ, Int.mul_add]
    rw [Int.mul_comm (10000 ^ r.length) 10000, Int.mul_assoc]; omega
theorem val_lt : ∀ {l : List Int}, (∀ x ∈ l, 0 ≤ x ∧ x ≤ 9999) → val l < 10000 ^ l.length
  | [], _ => by decide
  | a :: r, h => by
    have h1 := h a (.head _)
    have h2 := val_lt (l := r) fun x hx => h x (.tail _ hx)
    rw [val, List.length_cons, Int.pow_succ]; omega
/-- the while's turn -/
theorem limbs_turn {n : Int} {ls l0 : List Int} (h : ls ++ limbs n = l0) (hn : 0 < n) : (ls ++ [n % 10000]) ++ limbs (n / 10000) = l0 := by
  rw [← h, limbs_pos hn]; simp
theorem limbs_done {n : Int} {ls l0 : List Int} (h : ls ++ limbs n = l0) (hn : n ≤ 0) : ls = l0 := by
  rw [← h, limbs_nonpos hn, List.append_nil]
/-- shifting -/
theorem val_replicate (k : Nat) (l : List Int) : val (List.replicate k 0 ++ l) = 10000 ^ k * val l := by
  induction k with
  | zero => simp
  | succ k ih => rw [List.replicate_succ, List.cons_append, val, ih, Int.pow_succ, Int.mul_comm (10000 ^ k) 10000, Int.mul_assoc]; omega
theorem limbs_shift {n : Int} (k : Nat) (hn : 0 < n) : limbs (n * 10000 ^ k) = List.replicate k 0 ++ limbs n := by
  induction k with
  | zero => simp
  | succ k ih =>
    have hp : (0 : Int) < 10000 ^ k := Int.pow_pos (by decide)
    have hp2 : 0 < n * 10000 ^ k := Int.mul_pos hn hp
    have e : n * 10000 ^ (k + 1) = 10000 * (n * 10000 ^ k) := by rw [Int.pow_succ, ← Int.mul_assoc, Int.mul_comm]
    rw [e, limbs_pos (by omega), List.replicate_succ, List.cons_append, ← ih]
    congr 1
    · omega
    · congr 1; omega
/-- the signs of an int's text -/
def dig (n : Nat) : List Nat := (Nat.toDigits 10 n).map Char.toNat
def dval (cs : List Nat) : Nat := cs.foldl (fun acc c => acc * 10 + (c - 48)) 0
theorem digitChar_nat : ∀ d : Nat, d < 10 → (Nat.digitChar d).toNat = 48 + d := by decide
theorem dig_lt {n : Nat} (h : n < 10) : dig n = [48 + n] := by
  unfold dig
  rw [Nat.toDigits_of_lt_base h, List.map_cons, List.map_nil, digitChar_nat n h]
theorem dig_ge {n : Nat} (h : 10 ≤ n) : dig n = dig (n / 10) ++ [48 + n % 10] := by
  unfold dig
  rw [Nat.toDigits_of_base_le (by decide) h, List.map_append, List.map_cons, List.map_nil, digitChar_nat _ (Nat.mod_lt _ (by decide))]
def pad4 (n : Nat) : List Nat := [48 + n / 1000, 48 + n / 100 % 10, 48 + n / 10 % 10, 48 + n % 10]
theorem pad4_eq {n : Nat} (h : n < 10000) : List.replicate (4 - (dig n).length) 48 ++ dig n = pad4 n := by
  unfold pad4
  by_cases h1 : n < 10
  · rw [dig_lt h1]
    simp; omega
  · by_cases h2 : n < 100
    · rw [dig_ge (by omega), dig_lt (by omega)]
      simp; omega
    · by_cases h3 : n < 1000
      · rw [dig_ge (by omega), dig_ge (n := n / 10) (by omega), dig_lt (by omega)]
        simp; omega
      · rw [dig_ge (by omega), dig_ge (n := n / 10) (by omega), dig_ge (n := n / 10 / 10) (by omega), dig_lt (by omega)]
        simp; omega
theorem dig_big {q r : Nat} (hq : 0 < q) (hr : r < 10000) : dig (q * 10000 + r) = dig q ++ pad4 r := by
  rw [dig_ge (by omega), dig_ge (n := (q * 10000 + r) / 10) (by omega), dig_ge (n := (q * 10000 + r) / 10 / 10) (by omega), dig_ge (n := (q * 10000 + r) / 10 / 10 / 10) (by omega)]
  have e : (q * 10000 + r) / 10 / 10 / 10 / 10 = q := by omega
  rw [e]
  unfold pad4
  simp only [List.append_assoc, List.cons_append, List.nil_append]
  congr 2
  · omega
  · congr 1
    · omega
    · congr 1
      · omega
      · congr 1; omega
theorem dval_foldl (cs : List Nat) : ∀ a : Nat, cs.foldl (fun acc c => acc * 10 + (c - 48)) a = a * 10 ^ cs.length + dval cs := by
  unfold dval
  induction cs with
  | nil => intro a; simp
  | cons c r ih =>
    intro a
    rw [List.foldl_cons, ih, List.foldl_cons, ih (0 * 10 + (c - 48)), List.length_cons, Nat.pow_succ, Nat.add_mul, Nat.zero_mul, Nat.zero_add, Nat.mul_assoc, Nat.mul_comm 10]
    omega
theorem dval_append (a b : List Nat) : dval (a ++ b) = dval a * 10 ^ b.length + dval b := by
  rw [← dval_foldl b (dval a)]
  unfold dval
  rw [List.foldl_append]
theorem dig_digits (n : Nat) : ∀ c ∈ dig n, 48 ≤ c ∧ c ≤ 57 := by
  induction n using Nat.strongRecOn with
  | _ n ih =>
    by_cases h : n < 10
    · rw [dig_lt h]; intro c hc; simp at hc; omega
    · rw [dig_ge (by omega)]
      intro c hc
      rcases List.mem_append.mp hc with hc | hc
      · exact ih (n / 10) (by omega) c hc
      · simp at hc; omega
theorem dig_ne (n : Nat) : dig n ≠ [] := by
  by_cases h : n < 10
  · rw [dig_lt h]; simp
  · rw [dig_ge (by omega)]; simp
theorem dval_dig (n : Nat) : dval (dig n) = n := by
  induction n using Nat.strongRecOn with
  | _ n ih =>
    by_cases h : n < 10
    · rw [dig_lt h]; simp [dval]
    · rw [dig_ge (by omega), dval_append, ih (n / 10) (by omega)]
      simp [dval]; omega
theorem dval_lt : ∀ cs : List Nat, (∀ c ∈ cs, 48 ≤ c ∧ c ≤ 57) → dval cs < 10 ^ cs.length := by
  intro cs
  induction cs with
  | nil => intro _; decide
  | cons c r ih =>
    intro h
    have h1 := h c (.head _)
    have h2 := ih fun x hx => h x (.tail _ hx)
    have e : dval (c :: r) = (c - 48) * 10 ^ r.length + dval r := by
      have := dval_append [c] r
      simpa [dval] using this
    rw [e, List.length_cons, Nat.pow_succ]
    have : (c - 48) * 10 ^ r.length ≤ 9 * 10 ^ r.length := Nat.mul_le_mul_right _ (by omega)
    omega
theorem dig_len_of {n k : Nat} (hk : 0 < k) (h : n < 10 ^ k) : (dig n).length ≤ k := by
  unfold dig
  rw [List.length_map]
  exact (Nat.length_toDigits_le_iff (by decide) hk).mpr h
/-- the chunks of four signs, from the low end -/
def chunks (cs : List Nat) : List Int := if h : cs = [] then [] else ((dval (cs.drop (cs.length - 4)) : Nat) : Int) :: chunks (cs.take (cs.length - 4))
termination_by cs.length
decreasing_by
  have : 0 < cs.length := List.length_pos_iff.mpr h
  rw [List.length_take]; omega
theorem chunks_nil : chunks [] = [] := by rw [chunks]; rfl
theorem chunks_ne {cs : List Nat} (h : cs ≠ []) : chunks cs = ((dval (cs.drop (cs.length - 4)) : Nat) : Int) :: chunks (cs.take (cs.length - 4)) := by
  rw [chunks, dif_neg h]
theorem val_cast_chunks : ∀ k : Nat, ∀ cs : List Nat, cs.length ≤ k → val (chunks cs) = ((dval cs : Nat) : Int) := by
  intro k
  induction k with
  | zero => intro cs h; have : cs = [] := List.length_eq_zero_iff.mp (by omega); subst this; rw [chunks_nil]; rfl
  | succ k ih =>
    intro cs h
    by_cases hc : cs = []
    · subst hc; rw [chunks_nil]; rfl
    · have hp : 0 < cs.length := List.length_pos_iff.mpr hc
      rw [chunks_ne hc, val, ih _ (by rw [List.length_take]; omega)]
      have e := dval_append (cs.take (cs.length - 4)) (cs.drop (cs.length - 4))
      rw [List.take_append_drop] at e
      by_cases h4 : 4 ≤ cs.length
      · have hl : (cs.drop (cs.length - 4)).length = 4 := by rw [List.length_drop]; omega
        rw [e, hl]; omega
      · have e0 : cs.length - 4 = 0 := by omega
        rw [e0] at e ⊢
        rw [e]
        simp [dval]
theorem val_chunks (cs : List Nat) : val (chunks cs) = ((dval cs : Nat) : Int) := val_cast_chunks _ cs (Nat.le_refl _)
theorem chunks_range : ∀ k : Nat, ∀ cs : List Nat, cs.length ≤ k → (∀ c ∈ cs, 48 ≤ c ∧ c ≤ 57) → ∀ x ∈ chunks cs, 0 ≤ x ∧ x ≤ 9999 := by
  intro k
  induction k with
  | zero => intro cs h _; have : cs = [] := List.length_eq_zero_iff.mp (by omega); subst this; rw [chunks_nil]; intro x hx; cases hx
  | succ k ih =>
    intro cs h hd
    by_cases hc : cs = []
    · subst hc; rw [chunks_nil]; intro x hx; cases hx
    · have hp : 0 < cs.length := List.length_pos_iff.mpr hc
      rw [chunks_ne hc]
      intro x hx
      rcases List.mem_cons.mp hx with rfl | hx
      · have h1 := dval_lt (cs.drop (cs.length - 4)) fun c hc => hd c (List.mem_of_mem_drop hc)
        have h2 : 10 ^ (cs.drop (cs.length - 4)).length ≤ 10 ^ 4 := Nat.pow_le_pow_right (by decide) (by rw [List.length_drop]; omega)
        omega
      · exact ih _ (by rw [List.length_take]; omega) (fun c hc => hd c (List.mem_of_mem_take hc)) x hx
theorem chunks_ok (cs : List Nat) (h : ∀ c ∈ cs, 48 ≤ c ∧ c ≤ 57) : ∀ x ∈ chunks cs, 0 ≤ x ∧ x ≤ 9999 := chunks_range _ cs (Nat.le_refl _) h
theorem val_take_zero {l : List Int} {n : Nat} (h : n < l.length) (h0 : l.getD n 0 = 0) : val (l.take n) = val (l.take (n + 1)) := by
  have e : l.take (n + 1) = l.take n ++ [l[n]] := List.take_succ_eq_append_getElem h
  have e0 : l[n] = 0 := by simpa [List.getD, h] using h0
  rw [e, val_append, e0]
  simp [val]
theorem trim_nf {l : List Int} {n : Nat} (hr : ∀ x ∈ l, 0 ≤ x ∧ x ≤ 9999) (hn : n ≤ l.length) (h : n = 0 ∨ l.getD (n - 1) 0 ≠ 0) : Nf (l.take n) := by
  refine ⟨fun x hx => hr x (List.mem_of_mem_take hx), fun hne => ?_⟩
  have hn0 : n ≠ 0 := by intro h0; subst h0; simp at hne
  rcases h with h | h
  · exact absurd h hn0
  · have hlt : n - 1 < l.length := by omega
    have e : (l.take n).getLast hne = l[n - 1] := by
      rw [List.getLast_eq_getElem]
      simp only [List.length_take, Nat.min_eq_left hn, List.getElem_take]
    rw [e]
    simpa [List.getD, hlt] using h
theorem trim_is {l : List Int} {n : Nat} (hr : ∀ x ∈ l, 0 ≤ x ∧ x ≤ 9999) (hn : n ≤ l.length) (h : n = 0 ∨ l.getD (n - 1) 0 ≠ 0) (hv : val (l.take n) = val l) : l.take n = limbs (val l) := by
  rw [← hv]; exact (limbs_val (trim_nf hr hn h)).symm
/-- the text of limbs, low end first -/
def textOf : List Int → List Nat
  | [] => []
  | [a] => dig a.toNat
  | a :: b :: r => textOf (b :: r) ++ pad4 a.toNat
theorem textOf_val : ∀ {l : List Int}, Nf l → l ≠ [] → textOf l = dig (val l).toNat
  | [], _, h => absurd rfl h
  | [a], _, _ => by simp [textOf, val]
  | a :: b :: r, h, _ => by
    have h1 := h.1 a (.head _)
    have hp := val_pos_of_nf h.tail (by simp)
    rw [textOf, textOf_val h.tail (by simp)]
    have e : (val (a :: b :: r)).toNat = (val (b :: r)).toNat * 10000 + a.toNat := by
      rw [val]; omega
    rw [e, dig_big (by omega) (by omega)]
/-- order -/
theorem limbs_len_mono (n : Int) : ∀ m : Int, n ≤ m → (limbs n).length ≤ (limbs m).length := by
  induction n using limbs_ind with
  | h0 n h => intro m _; rw [limbs_nonpos h]; simp
  | h1 n h ih =>
    intro m hm
    rw [limbs_pos h, limbs_pos (show 0 < m by omega), List.length_cons, List.length_cons]
    have := ih (m / 10000) (by omega)
    omega
theorem lt_of_len {m n : Int} (h : (limbs m).length < (limbs n).length) : m < n := by
  by_cases h' : m < n
  · exact h'
  · have := limbs_len_mono n m (by omega); omega
theorem val_lt_at : ∀ {a b : List Int} {i : Nat}, a.length = b.length → (∀ x ∈ a, 0 ≤ x ∧ x ≤ 9999) → (∀ x ∈ b, 0 ≤ x ∧ x ≤ 9999) → a.getD i 0 < b.getD i 0 → (∀ j, i < j → j < a.length → a.getD j 0 = b.getD j 0) → val a < val b
  | [], [], i, _, _, _, h, _ => by simp at h
  | [], y :: t, _, hl, _, _, _, _ => by simp at hl
  | x :: r, [], _, hl, _, _, _, _ => by simp at hl
  | x :: r, y :: t, 0, hl, ha, hb, h, he => by
    have e : r = t := by
      apply List.ext_getElem (by simpa using hl)
      intro j h1 h2
      have := he (j + 1) (by omega) (by rw [List.length_cons]; omega)
      simpa [List.getD, h1, h2] using this
    subst e
    simp at h
    rw [val, val]; omega
  | x :: r, y :: t, i + 1, hl, ha, hb, h, he => by
    have h1 := val_lt_at (a := r) (b := t) (i := i) (by simpa using hl) (fun z hz => ha z (.tail _ hz)) (fun z hz => hb z (.tail _ hz)) (by simpa [List.getD] using h) (fun j hj hj2 => by
      have := he (j + 1) (by omega) (by rw [List.length_cons]; omega)
      simpa [List.getD] using this)
    have h2 := ha x (.head _)
    have h3 := hb y (.head _)
    rw [val, val]; omega
theorem eq_of_getD {a b : List Int} (hl : a.length = b.length) (h : ∀ j, j < a.length → a.getD j 0 = b.getD j 0) : a = b := by
  apply List.ext_getElem hl
  intro j h1 h2
  have := h j h1
  simpa [List.getD, h1, h2] using this
theorem limbs_inj {m n : Int} (hm : 0 ≤ m) (hn : 0 ≤ n) (h : limbs m = limbs n) : m = n := by
  rw [← val_limbs m hm, ← val_limbs n hn, h]
end Mine

open PySem PySem.W PyProof.Rows
namespace Mine
/-- to_int's loop: n is what the top part of a spells -/
def Up (a pre : List Int) (n : Int) : Prop := n = val (a.drop (a.length - pre.length))
theorem Up.start {a : List Int} : Up a [] 0 := by simp [Up, val]
theorem Up.turn {a pre : List Int} {n k : Int} {m : Nat} (h : Up a pre n) (hk : k = (m : Int) - 1 - (pre.length : Int)) (hl : pre.length < ((m : Int) - 1 - -1).toNat) (hm : m = a.length) : Up a (pre ++ [k]) (n * 10000 + a.getD k.toNat 0) := by
  unfold Up at *
  subst h hm
  rw [List.length_append, List.length_cons, List.length_nil]
  have e : k.toNat = a.length - (pre.length + (0 + 1)) := by omega
  have hlt : a.length - (pre.length + (0 + 1)) < a.length := by omega
  rw [e, List.drop_eq_getElem_cons hlt, val]
  have e2 : a.length - (pre.length + (0 + 1)) + 1 = a.length - pre.length := by omega
  rw [e2]
  have e3 : a.getD (a.length - (pre.length + (0 + 1))) 0 = a[a.length - (pre.length + (0 + 1))] := by simp [List.getD, hlt]
  rw [e3]; omega
theorem Up.done {a p : List Int} {n : Int} (h : Up a p n) (hl : a.length ≤ p.length) : n = val a := by
  unfold Up at h
  have e : a.length - p.length = 0 := by omega
  rw [h, e, List.drop_zero]
/-- the law's own sum -/
def Row (pre : List Int) (w pl : Int) : Prop := w = val pre ∧ pl = 10000 ^ pre.length
theorem Row.start : Row [] 0 1 := ⟨rfl, rfl⟩
theorem Row.turn {pre : List Int} {w pl x : Int} (h : Row pre w pl) : Row (pre ++ [x]) (w + x * pl) (pl * 10000) := by
  obtain ⟨rfl, rfl⟩ := h
  refine ⟨?_, ?_⟩
  · rw [val_append, val, val, Int.mul_comm x]; simp
  · rw [List.length_append, List.length_cons, List.length_nil, Int.pow_succ]
end Mine

namespace Mine
/-- a list of ints with one more: its ints -/
theorem grown {h₀ h : Heap} {L l : Addr} {news : List (Addr × Obj)} {us : List Value} {ns : List Int} {x : Int} {t : Tok} {c : Nat} (_N : News h₀ L h news) (hi : IntsAre us ns) (_hm : (l, W.listOf (us ++ [Value.int x t]).toArray c) ∈ news) : IntsAre (us ++ [Value.int x t]) (ns ++ [x]) :=
  hi.append (.cons _ _ .nil)
def Limbs (l : List Int) : Prop := ∀ x ∈ l, 0 ≤ x ∧ x ≤ 9999
theorem Limbs.start : Limbs [] := fun _ h => nomatch h
theorem Limbs.snoc {l : List Int} {x : Int} (h : Limbs l) (h0 : 0 ≤ x) (h1 : x ≤ 9999) : Limbs (l ++ [x]) := by
  intro y hy
  rcases List.mem_append.mp hy with hy | hy
  · exact h y hy
  · rw [List.mem_singleton.mp hy]; exact ⟨h0, h1⟩
theorem fmod_range (c : Int) : 0 ≤ c.fmod 10000 ∧ c.fmod 10000 ≤ 9999 := by
  rw [Int.fmod_eq_emod_of_nonneg _ (by decide)]; omega
theorem fmod1_range (c : Int) : 0 ≤ 1 + c.fmod 9999 ∧ 1 + c.fmod 9999 ≤ 9999 := by
  rw [Int.fmod_eq_emod_of_nonneg _ (by decide)]; omega
theorem Limbs.snoc_mod {l : List Int} {c : Int} (h : Limbs l) : Limbs (l ++ [c.fmod 10000]) := h.snoc (fmod_range c).1 (fmod_range c).2
theorem Limbs.snoc_top {l : List Int} {c : Int} (h : Limbs l) : Limbs (l ++ [1 + c.fmod 9999]) := h.snoc (fmod1_range c).1 (fmod1_range c).2
theorem Limbs.getD {l : List Int} (h : Limbs l) (k : Nat) : 0 ≤ l.getD k 0 ∧ l.getD k 0 ≤ 9999 := by
  by_cases hk : k < l.length
  · have e : l.getD k 0 = l[k] := by simp [List.getD, hk]
    rw [e]; exact h _ (List.getElem_mem hk)
  · have e : l.getD k 0 = 0 := by simp [List.getD, Nat.not_lt.mp hk]
    rw [e]; decide
theorem Limbs.bits {l : List Int} (h : Limbs l) (k : Nat) : PySem.Builtin.Int.intBits (l.getD k 0) ≤ 64 := by
  have := h.getD k
  exact PySem.intBits_le_64 (by omega) (by omega)
/-- a sum by places -/
def Sum (row pre : List Int) (w : Int) : Prop := w = val (row.take pre.length)
theorem Sum.start {row : List Int} : Sum row [] 0 := by simp [Sum, val]
theorem Sum.turn {row pre : List Int} {w k : Int} (h : Sum row pre w) (hk : k = 0 + (pre.length : Int)) (hl : pre.length < row.length) : Sum row (pre ++ [k]) (w + row.getD k.toNat 0 * 10000 ^ k.toNat) := by
  unfold Sum at *
  subst h
  have e : k.toNat = pre.length := by omega
  rw [e, List.length_append, List.length_cons, List.length_nil, List.take_succ_eq_append_getElem hl, val_append]
  have e1 : row.getD pre.length 0 = row[pre.length] := by simp [List.getD, hl]
  have e2 : (row.take pre.length).length = pre.length := by rw [List.length_take]; omega
  rw [e1, e2, val, val, Int.mul_comm (row[pre.length])]
  simp
theorem Sum.done {row p : List Int} {w : Int} (h : Sum row p w) (hl : row.length ≤ p.length) : w = val row := by
  unfold Sum at h
  rw [h, List.take_of_length_le hl]
end Mine

namespace Mine
section
variable {prog : Program} {w : World} {A : Around} {E : Value → Shared → Prop} {s : Shared} {h₀ : Heap} {L a b l l' : Addr} {news : List (Addr × Obj)} {x y : Int} {t u : Tok} {vs us : List Value} {ns ms : List Int} {c d : Nat} {Q : Value → Shared → Prop}
theorem shaped_pair (x : Int) (ns : List Int) : SeqAt.shaped (.tuple [.int x, .list (ns.map PyData.int)]) = true := by
  simp [SeqAt.shaped, PyData.canLay0, PyData.canLayAll0, PyData.depth, PyData.depthAll, ke_canLayAll0, ke_depthAll]
theorem eqv_pair (x y : Int) (ns ms : List Int) : PyData.eqv (.tuple [.int x, .list (ns.map PyData.int)]) (.tuple [.int y, .list (ms.map PyData.int)]) = (decide (x = y) && decide (ns = ms)) := by
  simp only [PyData.eqv, PyData.eqvAll, ked_eqvAll, Bool.and_true]
  by_cases h : x = y <;> simp [h]
theorem reads_pair (N : News h₀ L s.heap news) (ha : (a, ({ cls := .type "tuple", data := .seq #[.int x t, .ref l] c } : Obj)) ∈ news) (hl : s.heap.IsList l vs.toArray) (hi : IntsAre vs ns) :
    Reads s.heap (.ref a) (.tuple [.int x, .list (ns.map PyData.int)]) ([] ++ ([l] ++ [])) :=
  Reads.tuple (N _ ha).1 rfl rfl (.cons (.int x t) (.cons (reads_newData hl (ke_carried hi)) .nil))
theorem ne_pairs (N : News h₀ L s.heap news) (ha : (a, ({ cls := .type "tuple", data := .seq #[.int x t, .ref l] c } : Obj)) ∈ news) (hb : (b, ({ cls := .type "tuple", data := .seq #[.int y u, .ref l'] d } : Obj)) ∈ news)
    (hl : s.heap.IsList l vs.toArray) (hi : IntsAre vs ns) (hl' : s.heap.IsList l' us.toArray) (hi' : IntsAre us ms) (hu : A.units + 64 < cLine) (h : Q (.bool (!(decide (x = y) && decide (ns = ms)))) s) :
    wpAny (model prog w) A (compareOp .NotEq (.ref a) (.ref b)) Q E s := by
  refine ne_dataH (reads_pair N ha hl hi) (reads_pair N hb hl' hi') (shaped_pair _ _) (shaped_pair _ _) hu ?_
  rw [eqv_pair]
  exact h
end
end Mine

namespace Mine
theorem end0 {p q : List Int} {w n : Int} (hs : Sum [] p w) (hu : Up [] q n) (hne : 0 * n ≠ w) : False := by
  have h1 := hs.done (Nat.zero_le _)
  have h2 : val [] = 0 := rfl
  omega
theorem end1 {row p q : List Int} {w n : Int} (hs : Sum row p w) (hu : Up row q n) (hne : 1 * n ≠ w) (hp : row.length ≤ p.length) (hq : row.length ≤ q.length) : False := by
  have h1 := hs.done hp
  have h2 := hu.done hq
  omega
theorem end2 {row p q : List Int} {w n : Int} (hs : Sum row p w) (hu : Up row q n) (hne : -1 * n ≠ -w) (hp : row.length ≤ p.length) (hq : row.length ≤ q.length) : False := by
  have h1 := hs.done hp
  have h2 := hu.done hq
  omega
end Mine
local macro_rules | `(tactic| walk_at "binaryOp Mult int int") => `(tactic| first | (with_reducible refine mul_int ?_ (PySem.IntMulOk.of_right (by decide))) | (with_reducible refine mul_int ?_ (PySem.IntMulOk.of_left (by decide))) | (with_reducible refine mul_int ?_ (PySem.IntMulOk.of_left (Mine.Limbs.bits (Mine.Limbs.snoc_top (by assumption)) _))) | (with_reducible refine mul_int ?_ (PySem.IntMulOk.of_left (Mine.Limbs.bits Mine.Limbs.start _))))
local macro_rules | `(tactic| walk_at "compareOp NotEq ref ref") => `(tactic| (k_here; (with_reducible show wpAny _ _ (compareOp CmpOp.NotEq (Value.ref _) (Value.ref _)) _ _ _); k_dflt (refine' Mine.ne_pairs ?N ?a ?b ?p ?i ?q ?j ?u ?_; (case N => k_asm); (case a => k_mem); (case b => k_mem); (case p => is_list); (case i => l_ints); (case q => is_list); (case j => l_ints); (case u => ke_room)); (try simp only [decide_true, Bool.and_true, Bool.not_true])))
local macro_rules | `(tactic| l_idx) => `(tactic| ((have kq := (by assumption : List.length _ = List.length (rangeKs _ _))); (rw [rangeKs_length] at kq); (simp only [List.length_append, List.length_cons, List.length_nil]); omega))
set_option maxRecDepth 100000 in
set_option maxHeartbeats 8000000 in
theorem PySem.Challenge.cw_k8_0024_holds : PySem.Challenge.rw_k8_0024.Holds := by
  k_with "pyIter ref" => (k_of "i" => k_state (fun pre row => row.length = pre.length ∧ row.length < 8 ∧ Mine.Limbs row) "row")
  k_with "pyIter ref" => (k_of "i" => k_state_given ["row"] (fun row pre want => Mine.Sum row pre want) "want")
  k_with "pyIter ref" => (k_of "i" => ((rename News _ _ _ _ => lNn); (simp only [List.push_toArray] at lNn); (have kApp := Mine.grown lNn (by assumption) (by k_dflt k_mem)); k_state_given ["row"] (fun row pre want => Mine.Sum row pre want) "want"))
  k_with "pyIter ref" => (k_of "i" => k_state_given ["a"] (fun a pre n => Mine.Up a pre n) "n")
  k_with "state" => first | exact Mine.Up.start | exact Mine.Sum.start | exact ⟨rfl, by decide, Mine.Limbs.start⟩ | exact ⟨by simp only [List.length_append, List.length_cons, List.length_nil]; omega, by simp only [List.length_append, List.length_cons, List.length_nil]; k_fmods; omega, Mine.Limbs.snoc_mod (by assumption)⟩ | exact Mine.Sum.turn (by assumption) kEq (by (have kq := (by assumption : List.length _ = List.length (rangeKs _ _))); rw [rangeKs_length] at kq; simp only [List.length_append, List.length_cons, List.length_nil]; omega) | exact Mine.Sum.turn (by assumption) kEq (by simp only [List.length_nil]; omega) | exact Mine.Up.turn (by assumption) kEq kLt (by simp only [List.length_append, List.length_cons, List.length_nil]) | exact Mine.Up.turn (m := 0) (by assumption) kEq kLt rfl
  k_with "end" => exact absurd trivial (fun _ => Mine.end1 (by assumption) (by assumption) (by assumption) (by (have kq := (by assumption : List.length _ = List.length (rangeKs _ _))); rw [rangeKs_length] at kq; simp only [rangeKs_length, List.length_append, List.length_cons, List.length_nil]; omega) (by simp only [downKs_length, List.length_append, List.length_cons, List.length_nil]; omega))
  k_with "end" => exact absurd trivial (fun _ => Mine.end2 (by assumption) (by assumption) (by assumption) (by (have kq := (by assumption : List.length _ = List.length (rangeKs _ _))); rw [rangeKs_length] at kq; simp only [rangeKs_length, List.length_append, List.length_cons, List.length_nil]; omega) (by simp only [downKs_length, List.length_append, List.length_cons, List.length_nil]; omega))
  k_with "end" => exact absurd trivial (fun _ => Mine.end0 (by assumption) (by assumption) (by assumption))
  open_k
