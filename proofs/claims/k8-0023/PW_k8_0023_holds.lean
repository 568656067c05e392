import PyProof.Rows.All
import Wide.All
import OpenK.AllK
import Wide.FinOn
import PySem.Challenge.RW_k8_0023
set_option Elab.async false
namespace Mine
/-- the number that limbs spell, low end first -/
def val : List Int → Int
  | [] => 0
  | a :: r => a + 10000 * val r
def limbsN (n : Nat) : List Int := if h : n = 0 then [] else ((n % 10000 : Nat) : Int) :: limbsN (n / 10000)
termination_by n
decreasing_by omega
/-- the limbs of an int, low end first; none for what is not above zero -/
def limbs (n : Int) : List Int := limbsN n.toNat

theorem limbs_nonpos {n : Int} (h : n ≤ 0) : limbs n = [] := by
  unfold limbs
  rw [Int.toNat_of_nonpos h, limbsN]; rfl
theorem limbs_pos {n : Int} (h : 0 < n) : limbs n = (n % 10000) :: limbs (n / 10000) := by
  unfold limbs
  rw [limbsN, dif_neg (by omega)]
  congr 1
  · omega
  · congr 1; omega
theorem limbs_ind {P : Int → Prop} (h0 : ∀ n, n ≤ 0 → P n) (h1 : ∀ n, 0 < n → P (n / 10000) → P n) (n : Int) : P n := by
  have : ∀ k : Nat, ∀ n : Int, n.toNat ≤ k → P n := by
    intro k
    induction k with
    | zero => intro n hn; exact h0 n (by omega)
    | succ k ih =>
      intro n hn
      by_cases h : n ≤ 0
      · exact h0 n h
      · exact h1 n (by omega) (ih _ (by omega))
  exact this _ n (Nat.le_refl _)
theorem val_limbs (n : Int) : 0 ≤ n → val (limbs n) = n := by
  induction n using limbs_ind with
  | h0 n h => intro h'; rw [limbs_nonpos h, val]; omega
  | h1 n h ih => intro _; rw [limbs_pos h, val, ih (by omega)]; omega
theorem limbs_range (n : Int) : ∀ x ∈ limbs n, 0 ≤ x ∧ x ≤ 9999 := by
  induction n using limbs_ind with
  | h0 n h => rw [limbs_nonpos h]; intro x hx; cases hx
  | h1 n h ih =>
    rw [limbs_pos h]
    intro x hx
    rcases List.mem_cons.mp hx with rfl | hx
    · omega
    · exact ih x hx
/-- in normal form -/
def Nf (l : List Int) : Prop := (∀ x ∈ l, 0 ≤ x ∧ x ≤ 9999) ∧ ∀ h : l ≠ [], l.getLast h ≠ 0
theorem limbs_last (n : Int) : ∀ h : limbs n ≠ [], (limbs n).getLast h ≠ 0 := by
  induction n using limbs_ind with
  | h0 n h => intro h'; exact absurd (limbs_nonpos h) h'
  | h1 n h ih =>
    intro hne
    by_cases h2 : n / 10000 ≤ 0
    · have e : limbs n = [n % 10000] := by rw [limbs_pos h, limbs_nonpos h2]
      have : (limbs n).getLast hne = n % 10000 := by simp [e]
      omega
    · have hne2 : limbs (n / 10000) ≠ [] := by rw [limbs_pos (by omega)]; simp
      have : (limbs n).getLast hne = (limbs (n / 10000)).getLast hne2 := by
        simp [limbs_pos h, List.getLast_cons hne2]
      rw [this]; exact ih hne2
theorem limbs_nf (n : Int) : Nf (limbs n) := ⟨limbs_range n, limbs_last n⟩
theorem Nf.tail {a : Int} {l : List Int} (h : Nf (a :: l)) : Nf l :=
  ⟨fun x hx => h.1 x (.tail _ hx), fun hne => by have := h.2 (by simp); rwa [List.getLast_cons hne] at this⟩
theorem val_nonneg : ∀ {l : List Int}, (∀ x ∈ l, 0 ≤ x ∧ x ≤ 9999) → 0 ≤ val l
  | [], _ => Int.le_refl _
  | a :: r, h => by
    have h1 := h a (.head _)
    have h2 := val_nonneg (l := r) fun x hx => h x (.tail _ hx)
    rw [val]; omega
theorem val_pos_of_nf : ∀ {l : List Int}, Nf l → l ≠ [] → 0 < val l
  | [], _, h => absurd rfl h
  | [a], h, _ => by
    have h1 := h.1 a (.head _)
    have h2 := h.2 (by simp)
    simp at h2
    simp only [val]; omega
  | a :: b :: r, h, _ => by
    have h1 := h.1 a (.head _)
    have h2 := val_pos_of_nf h.tail (by simp)
    rw [val]; omega
theorem limbs_val : ∀ {l : List Int}, Nf l → limbs (val l) = l
  | [], _ => limbs_nonpos (Int.le_refl _)
  | a :: r, h => by
    have h1 := h.1 a (.head _)
    have hp := val_pos_of_nf h (by simp)
    rw [limbs_pos hp]
    have e1 : val (a :: r) % 10000 = a := by rw [val]; omega
    have e2 : val (a :: r) / 10000 = val r := by rw [val]; omega
    rw [e1, e2, limbs_val h.tail]
theorem nf_eq {a b : List Int} (ha : Nf a) (hb : Nf b) (h : val a = val b) : a = b := by
  rw [← limbs_val ha, ← limbs_val hb, h]
theorem limbs_len (k : Nat) : ∀ n : Int, n < 10000 ^ k → (limbs n).length ≤ k := by
  induction k with
  | zero => intro n h; rw [limbs_nonpos (by omega)]; simp
  | succ k ih =>
    intro n h
    by_cases h0 : n ≤ 0
    · rw [limbs_nonpos h0]; simp
    · rw [limbs_pos (by omega), List.length_cons]
      have := ih (n / 10000) (by rw [Int.pow_succ] at h; omega)
      omega
theorem val_append : ∀ (a b : List Int), val (a ++ b) = val a + 10000 ^ a.length * val b
  | [], b => by simp [val]
  | x :: r, b => by
    rw [List.cons_append, val, val, val_append r b, List.length_cons, Int.pow_succ, Int.mul_add]
    rw [Int.mul_comm (10000 ^ r.length) 10000, Int.mul_assoc]; omega
theorem val_lt : ∀ {l : List Int}, (∀ x ∈ l, 0 ≤ x ∧ x ≤ 9999) → val l < 10000 ^ l.length
  | [], _ => by decide
  | a :: r, h => by
    have h1 := h a (.head _)
    have h2 := val_lt (l := r) fun x hx => h x (.tail _ hx)
    rw [val, List.length_cons, Int.pow_succ]; omega
/-- the while's turn -/
theorem limbs_turn {n : Int} {ls l0 : List Int} (h : ls ++ limbs n = l0) (hn : 0 < n) : (ls ++ [n % 10000]) ++ limbs (n / 10000) = l0 := by
  rw [← h, limbs_pos hn]; simp
theorem limbs_done {n : Int} {ls l0 : List Int} (h : ls ++ limbs n = l0) (hn : n ≤ 0) : ls = l0 := by
  rw [← h, limbs_nonpos hn, List.append_nil]
/-- shifting -/
theorem val_replicate (k : Nat) (l : List Int) : val (List.replicate k 0 ++ l) = 10000 ^ k * val l := by
  induction k with
  | zero => simp
  | succ k ih => rw [List.replicate_succ, List.cons_append, val, ih, Int.pow_succ, Int.mul_comm (10000 ^ k) 10000, Int.mul_assoc]; omega
theorem limbs_shift {n : Int} (k : Nat) (hn : 0 < n) : limbs (n * 10000 ^ k) = List.replicate k 0 ++ limbs n := by
  induction k with
  | zero => simp
  | succ k ih =>
    have hp : (0 : Int) < 10000 ^ k := Int.pow_pos (by decide)
    have hp2 : 0 < n * 10000 ^ k := Int.mul_pos hn hp
    have e : n * 10000 ^ (k + 1) = 10000 * (n * 10000 ^ k) := by rw [Int.pow_succ, ← Int.mul_assoc, Int.mul_comm]
    rw [e, limbs_pos (by omega), List.replicate_succ, List.cons_append, ← ih]
    congr 1
    · omega
    · congr 1; omega
/-- the signs of an int's text -/
def dig (n : Nat) : List Nat := (Nat.toDigits 10 n).map Char.toNat
def dval (cs : List Nat) : Nat := cs.foldl (fun acc c => acc * 10 + (c - 48)) 0
theorem digitChar_nat : ∀ d : Nat, d < 10 → (Nat.digitChar d).toNat = 48 + d := by decide
theorem dig_lt {n : Nat} (h : n < 10) : dig n = [48 + n] := by
  unfold dig
  rw [Nat.toDigits_of_lt_base h, List.map_cons, List.map_nil, digitChar_nat n h]
theorem dig_ge {n : Nat} (h : 10 ≤ n) : dig n = dig (n / 10) ++ [48 + n % 10] := by
  unfold dig
  rw [Nat.toDigits_of_base_le (by decide) h, List.map_append, List.map_cons, List.map_nil, digitChar_nat _ (Nat.mod_lt _ (by decide))]
def pad4 (n : Nat) : List Nat := [48 + n / 1000, 48 + n / 100 % 10, 48 + n / 10 % 10, 48 + n % 10]
theorem pad4_eq {n : Nat} (h : n < 10000) : List.replicate (4 - (dig n).length) 48 ++ dig n = pad4 n := by
  unfold pad4
  by_cases h1 : n < 10
  · rw [dig_lt h1]
    simp; omega
  · by_cases h2 : n < 100
    · rw [dig_ge (by omega), dig_lt (by omega)]
      simp; omega
    · by_cases h3 : n < 1000
      · rw [dig_ge (by omega), dig_ge (n := n / 10) (by omega), dig_lt (by omega)]
        simp; omega
      · rw [dig_ge (by omega), dig_ge (n := n / 10) (by omega), dig_ge (n := n / 10 / 10) (by omega), dig_lt (by omega)]
        simp; omega
theorem dig_big {q r : Nat} (hq : 0 < q) (hr : r < 10000) : dig (q * 10000 + r) = dig q ++ pad4 r := by
  rw [dig_ge (by omega), dig_ge (n := (q * 10000 + r) / 10) (by omega), dig_ge (n := (q * 10000 + r) / 10 / 10) (by omega), dig_ge (n := (q * 10000 + r) / 10 / 10 / 10) (by omega)]
  have e : (q * 10000 + r) / 10 / 10 / 10 / 10 = q := by omega
  rw [e]
  unfold pad4
  simp only [List.append_assoc, List.cons_append, List.nil_append]
  congr 2
  · omega
  · congr 1
    · omega
    · congr 1
      · omega
      · congr 1; omega
theorem dval_foldl (cs : List Nat) : ∀ a : Nat, cs.foldl (fun acc c => acc * 10 + (c - 48)) a = a * 10 ^ cs.length + dval cs := by
  unfold dval
  induction cs with
  | nil => intro a; simp
  | cons c r ih =>
    intro a
    rw [List.foldl_cons, ih, List.foldl_cons, ih (0 * 10 + (c - 48)), List.length_cons, Nat.pow_succ, Nat.add_mul, Nat.zero_mul, Nat.zero_add, Nat.mul_assoc, Nat.mul_comm 10]
    omega
theorem dval_append (a b : List Nat) : dval (a ++ b) = dval a * 10 ^ b.length + dval b := by
  rw [← dval_foldl b (dval a)]
  unfold dval
  rw [List.foldl_append]
theorem dig_digits (n : Nat) : ∀ c ∈ dig n, 48 ≤ c ∧ c ≤ 57 := by
  induction n using Nat.strongRecOn with
  | _ n ih =>
    by_cases h : n < 10
    · rw [dig_lt h]; intro c hc; simp at hc; omega
    · rw [dig_ge (by omega)]
      intro c hc
      rcases List.mem_append.mp hc with hc | hc
      · exact ih (n / 10) (by omega) c hc
      · simp at hc; omega
theorem dig_ne (n : Nat) : dig n ≠ [] := by
  by_cases h : n < 10
  · rw [dig_lt h]; simp
  · rw [dig_ge (by omega)]; simp
theorem dval_dig (n : Nat) : dval (dig n) = n := by
  induction n using Nat.strongRecOn with
  | _ n ih =>
    by_cases h : n < 10
    · rw [dig_lt h]; simp [dval]
    · rw [dig_ge (by omega), dval_append, ih (n / 10) (by omega)]
      simp [dval]; omega
theorem dval_lt : ∀ cs : List Nat, (∀ c ∈ cs, 48 ≤ c ∧ c ≤ 57) → dval cs < 10 ^ cs.length := by
  intro cs
  induction cs with
  | nil => intro _; decide
  | cons c r ih =>
    intro h
    have h1 := h c (.head _)
    have h2 := ih fun x hx => h x (.tail _ hx)
    have e : dval (c :: r) = (c - 48) * 10 ^ r.length + dval r := by
      have := dval_append [c] r
      simpa [dval] using this
    rw [e, List.length_cons, Nat.pow_succ]
    have : (c - 48) * 10 ^ r.length ≤ 9 * 10 ^ r.length := Nat.mul_le_mul_right _ (by omega)
    omega
theorem dig_len_of {n k : Nat} (hk : 0 < k) (h : n < 10 ^ k) : (dig n).length ≤ k := by
  unfold dig
  rw [List.length_map]
  exact (Nat.length_toDigits_le_iff (by decide) hk).mpr h
/-- the chunks of four signs, from the low end -/
def chunks (cs : List Nat) : List Int := if h : cs = [] then [] else ((dval (cs.drop (cs.length - 4)) : Nat) : Int) :: chunks (cs.take (cs.length - 4))
termination_by cs.length
decreasing_by
  have : 0 < cs.length := List.length_pos_iff.mpr h
  rw [List.length_take]; omega
theorem chunks_nil : chunks [] = [] := by rw [chunks]; rfl
theorem chunks_ne {cs : List Nat} (h : cs ≠ []) : chunks cs = ((dval (cs.drop (cs.length - 4)) : Nat) : Int) :: chunks (cs.take (cs.length - 4)) := by
  rw [chunks, dif_neg h]
theorem val_cast_chunks : ∀ k : Nat, ∀ cs : List Nat, cs.length ≤ k → val (chunks cs) = ((dval cs : Nat) : Int) := by
  intro k
  induction k with
  | zero => intro cs h; have : cs = [] := List.length_eq_zero_iff.mp (by omega); subst this; rw [chunks_nil]; rfl
  | succ k ih =>
    intro cs h
    by_cases hc : cs = []
    · subst hc; rw [chunks_nil]; rfl
    · have hp : 0 < cs.length := List.length_pos_iff.mpr hc
      rw [chunks_ne hc, val, ih _ (by rw [List.length_take]; omega)]
      have e := dval_append (cs.take (cs.length - 4)) (cs.drop (cs.length - 4))
      rw [List.take_append_drop] at e
      by_cases h4 : 4 ≤ cs.length
      · have hl : (cs.drop (cs.length - 4)).length = 4 := by rw [List.length_drop]; omega
        rw [e, hl]; omega
      · have e0 : cs.length - 4 = 0 := by omega
        rw [e0] at e ⊢
        rw [e]
        simp [dval]
theorem val_chunks (cs : List Nat) : val (chunks cs) = ((dval cs : Nat) : Int) := val_cast_chunks _ cs (Nat.le_refl _)
theorem chunks_range : ∀ k : Nat, ∀ cs : List Nat, cs.length ≤ k → (∀ c ∈ cs, 48 ≤ c ∧ c ≤ 57) → ∀ x ∈ chunks cs, 0 ≤ x ∧ x ≤ 9999 := by
  intro k
  induction k with
  | zero => intro cs h _; have : cs = [] := List.length_eq_zero_iff.mp (by omega); subst this; rw [chunks_nil]; intro x hx; cases hx
  | succ k ih =>
    intro cs h hd
    by_cases hc : cs = []
    · subst hc; rw [chunks_nil]; intro x hx; cases hx
    · have hp : 0 < cs.length := List.length_pos_iff.mpr hc
      rw [chunks_ne hc]
      intro x hx
      rcases List.mem_cons.mp hx with rfl | hx
      · have h1 := dval_lt (cs.drop (cs.length - 4)) fun c hc => hd c (List.mem_of_mem_drop hc)
        have h2 : 10 ^ (cs.drop (cs.length - 4)).length ≤ 10 ^ 4 := Nat.pow_le_pow_right (by decide) (by rw [List.length_drop]; omega)
        omega
      · exact ih _ (by rw [List.length_take]; omega) (fun c hc => hd c (List.mem_of_mem_take hc)) x hx
theorem chunks_ok (cs : List Nat) (h : ∀ c ∈ cs, 48 ≤ c ∧ c ≤ 57) : ∀ x ∈ chunks cs, 0 ≤ x ∧ x ≤ 9999 := chunks_range _ cs (Nat.le_refl _) h
theorem val_take_zero {l : List Int} {n : Nat} (h : n < l.length) (h0 : l.getD n 0 = 0) : val (l.take n) = val (l.take (n + 1)) := by
  have e : l.take (n + 1) = l.take n ++ [l[n]] := List.take_succ_eq_append_getElem h
  have e0 : l[n] = 0 := by simpa [List.getD, h] using h0
  rw [e, val_append, e0]
  simp [val]
theorem trim_nf {l : List Int} {n : Nat} (hr : ∀ x ∈ l, 0 ≤ x ∧ x ≤ 9999) (hn : n ≤ l.length) (h : n = 0 ∨ l.getD (n - 1) 0 ≠ 0) : Nf (l.take n) := by
  refine ⟨fun x hx => hr x (List.mem_of_mem_take hx), fun hne => ?_⟩
  have hn0 : n ≠ 0 := by intro h0; subst h0; simp at hne
  rcases h with h | h
  · exact absurd h hn0
  · have hlt : n - 1 < l.length := by omega
    have e : (l.take n).getLast hne = l[n - 1] := by
      rw [List.getLast_eq_getElem]
      simp only [List.length_take, Nat.min_eq_left hn, List.getElem_take]
    rw [e]
    simpa [List.getD, hlt] using h
theorem trim_is {l : List Int} {n : Nat} (hr : ∀ x ∈ l, 0 ≤ x ∧ x ≤ 9999) (hn : n ≤ l.length) (h : n = 0 ∨ l.getD (n - 1) 0 ≠ 0) (hv : val (l.take n) = val l) : l.take n = limbs (val l) := by
  rw [← hv]; exact (limbs_val (trim_nf hr hn h)).symm
/-- the text of limbs, low end first -/
def textOf : List Int → List Nat
  | [] => []
  | [a] => dig a.toNat
  | a :: b :: r => textOf (b :: r) ++ pad4 a.toNat
theorem textOf_val : ∀ {l : List Int}, Nf l → l ≠ [] → textOf l = dig (val l).toNat
  | [], _, h => absurd rfl h
  | [a], _, _ => by simp [textOf, val]
  | a :: b :: r, h, _ => by
    have h1 := h.1 a (.head _)
    have hp := val_pos_of_nf h.tail (by simp)
    rw [textOf, textOf_val h.tail (by simp)]
    have e : (val (a :: b :: r)).toNat = (val (b :: r)).toNat * 10000 + a.toNat := by
      rw [val]; omega
    rw [e, dig_big (by omega) (by omega)]
/-- order -/
theorem limbs_len_mono (n : Int) : ∀ m : Int, n ≤ m → (limbs n).length ≤ (limbs m).length := by
  induction n using limbs_ind with
  | h0 n h => intro m _; rw [limbs_nonpos h]; simp
  | h1 n h ih =>
    intro m hm
    rw [limbs_pos h, limbs_pos (show 0 < m by omega), List.length_cons, List.length_cons]
    have := ih (m / 10000) (by omega)
    omega
theorem lt_of_len {m n : Int} (h : (limbs m).length < (limbs n).length) : m < n := by
  by_cases h' : m < n
  · exact h'
  · have := limbs_len_mono n m (by omega); omega
theorem val_lt_at : ∀ {a b : List Int} {i : Nat}, a.length = b.length → (∀ x ∈ a, 0 ≤ x ∧ x ≤ 9999) → (∀ x ∈ b, 0 ≤ x ∧ x ≤ 9999) → a.getD i 0 < b.getD i 0 → (∀ j, i < j → j < a.length → a.getD j 0 = b.getD j 0) → val a < val b
  | [], [], i, _, _, _, h, _ => by simp at h
  | [], y :: t, _, hl, _, _, _, _ => by simp at hl
  | x :: r, [], _, hl, _, _, _, _ => by simp at hl
  | x :: r, y :: t, 0, hl, ha, hb, h, he => by
    have e : r = t := by
      apply List.ext_getElem (by simpa using hl)
      intro j h1 h2
      have := he (j + 1) (by omega) (by rw [List.length_cons]; omega)
      simpa [List.getD, h1, h2] using this
    subst e
    simp at h
    rw [val, val]; omega
  | x :: r, y :: t, i + 1, hl, ha, hb, h, he => by
    have h1 := val_lt_at (a := r) (b := t) (i := i) (by simpa using hl) (fun z hz => ha z (.tail _ hz)) (fun z hz => hb z (.tail _ hz)) (by simpa [List.getD] using h) (fun j hj hj2 => by
      have := he (j + 1) (by omega) (by rw [List.length_cons]; omega)
      simpa [List.getD] using this)
    have h2 := ha x (.head _)
    have h3 := hb y (.head _)
    rw [val, val]; omega
theorem eq_of_getD {a b : List Int} (hl : a.length = b.length) (h : ∀ j, j < a.length → a.getD j 0 = b.getD j 0) : a = b := by
  apply List.ext_getElem hl
  intro j h1 h2
  have := h j h1
  simpa [List.getD, h1, h2] using this
theorem limbs_inj {m n : Int} (hm : 0 ≤ m) (hn : 0 ≤ n) (h : limbs m = limbs n) : m = n := by
  rw [← val_limbs m hm, ← val_limbs n hn, h]
end Mine

open PySem PySem.W PyProof.Rows
namespace Mine
/-- from_int's loop: what is laid out and what is still to come -/
structure Fi (n0 n : Int) (ls : List Int) : Prop where
  eq : ls ++ limbs n = limbs n0
theorem Fi.start {n : Int} : Fi n n [] := ⟨rfl⟩
theorem Fi.turn {n0 n : Int} {ls : List Int} (h : Fi n0 n ls) (hn : 0 < n) : Fi n0 (n.fdiv 10000) (ls ++ [n.fmod 10000]) := by
  rw [Int.fdiv_eq_ediv_of_nonneg _ (by decide), Int.fmod_eq_emod_of_nonneg _ (by decide)]
  exact ⟨limbs_turn h.eq hn⟩
theorem Fi.done {n0 n : Int} {ls : List Int} (h : Fi n0 n ls) (hn : ¬ 0 < n) : ls = limbs n0 := limbs_done h.eq (by omega)
theorem Fi.less {n : Int} (hn : 0 < n) : (n.fdiv 10000).toNat < n.toNat := by
  rw [Int.fdiv_eq_ediv_of_nonneg _ (by decide)]; omega
theorem Fi.len {n0 n : Int} {ls : List Int} {k : Nat} (h : Fi n0 n ls) (hn : 0 < n) (hb : n0 < 10000 ^ k) : (ls ++ [n.fmod 10000]).length ≤ k := by
  have h1 := limbs_len k n0 hb
  have h2 := (h.turn hn).eq
  rw [← h2, List.length_append] at h1
  omega
/-- few enough limbs -/
structure Cap (k : Nat) (n : Int) : Prop where
  lt : n < 10000 ^ k
end Mine

namespace Mine
/-- M is that power: kept shut, so that no closer writes it out -/
structure IsPow (b : Int) (e : Nat) (M : Int) : Prop where
  eq : M = b ^ e
theorem IsPow.pos {b : Int} {e : Nat} {M : Int} (h : IsPow b e M) (hb : 0 < b) : 0 < M := by
  rw [h.eq]; exact Int.pow_pos hb
theorem pow_up (a b : Nat) (h : a ≤ b) : (10000 : Int) ^ a ≤ 10000 ^ b := by
  obtain ⟨c, rfl⟩ := Nat.le.dest h
  rw [Int.pow_add]
  have h1 : (0 : Int) < 10000 ^ a := Int.pow_pos (by decide)
  have h2 : (0 : Int) < 10000 ^ c := Int.pow_pos (by decide)
  have h3 := Int.mul_le_mul_of_nonneg_left (show (1 : Int) ≤ 10000 ^ c by omega) (Int.le_of_lt h1)
  omega
theorem IsPow.le {e M : Int} {k : Nat} (h : IsPow 10000 e.toNat M) (he : e ≤ (k : Int)) : M ≤ 10000 ^ k := by
  rw [h.eq]
  exact pow_up _ _ (by omega)
section
variable {prog : Program} {w : World} {A : Around} {E : Value → Shared → Prop} {s : Shared} {t u : Tok} {Q : Value → Shared → Prop}
theorem pow_shut {b n : Int} (hb : 0 < b) (hb2 : b.natAbs < 2 ^ 64) (hn : 0 ≤ n) (hn2 : n ≤ 1000000) (h : ∀ M, IsPow b n.toNat M → 0 < M → Q (.int M s.toks) { s with toks := s.toks + 1 }) :
    wpAny (model prog w) A (binaryOp .Pow (.int b t) (.int n u)) Q E s :=
  pow_int_small hn hn2 hb2 (h _ ⟨rfl⟩ (Int.pow_pos hb))
end
end Mine

namespace Mine
/-- n is spelt by so many limbs, taken from the top -/
structure Acc (p : Nat) (n : Int) : Prop where
  lo : 0 ≤ n
  hi : n < 10000 ^ p
theorem Acc.start : Acc ([] : List Int).length 0 := ⟨by decide, by decide⟩
theorem Acc.turn {p : List Int} {n c k : Int} (h : Acc p.length n) : Acc (p ++ [k]).length (n * 10000 + c.fmod 10000) := by
  have h1 := fmod_lo c (n := 10000) (by decide)
  have h2 := fmod_hi c (n := 10000) (by decide)
  obtain ⟨h3, h4⟩ := h
  refine ⟨by omega, ?_⟩
  rw [List.length_append, List.length_cons, List.length_nil, Int.pow_succ]
  omega
theorem Acc.le {p : Nat} {n : Int} (h : Acc p n) (k : Nat) (hp : p ≤ k) : n < 10000 ^ k := Int.lt_of_lt_of_le h.hi (pow_up p k hp)
theorem Acc.cap {p : Nat} {n : Int} (h : Acc p n) {k : Nat} (hp : p ≤ k) : Cap k n := ⟨h.le k hp⟩
theorem Acc.bits {p : Nat} {n : Int} (h : Acc p n) (hp : p ≤ 4) : PySem.Builtin.Int.intBits n ≤ 64 := by
  have h1 := h.le 4 hp
  have h2 := h.lo
  have e : (10000 : Int) ^ 4 = 10000000000000000 := by decide
  exact PySem.intBits_le_64 (by omega) (by omega)
end Mine

namespace Mine
section
variable {prog : Program} {w : World} {A : Around} {E : Value → Shared → Prop} {s : Shared} {h₀ : Heap} {L a b l l' : Addr} {news : List (Addr × Obj)} {x y : Int} {t u : Tok} {vs us : List Value} {ns ms : List Int} {c d : Nat} {Q : Value → Shared → Prop}
theorem shaped_pair (x : Int) (ns : List Int) : SeqAt.shaped (.tuple [.int x, .list (ns.map PyData.int)]) = true := by
  simp [SeqAt.shaped, PyData.canLay0, PyData.canLayAll0, PyData.depth, PyData.depthAll, ke_canLayAll0, ke_depthAll]
theorem eqv_pair (x y : Int) (ns ms : List Int) : PyData.eqv (.tuple [.int x, .list (ns.map PyData.int)]) (.tuple [.int y, .list (ms.map PyData.int)]) = (decide (x = y) && decide (ns = ms)) := by
  simp only [PyData.eqv, PyData.eqvAll, ked_eqvAll, Bool.and_true]
  by_cases h : x = y <;> simp [h]
theorem reads_pair (N : News h₀ L s.heap news) (ha : (a, ({ cls := .type "tuple", data := .seq #[.int x t, .ref l] c } : Obj)) ∈ news) (hl : s.heap.IsList l vs.toArray) (hi : IntsAre vs ns) :
    Reads s.heap (.ref a) (.tuple [.int x, .list (ns.map PyData.int)]) ([] ++ ([l] ++ [])) :=
  Reads.tuple (N _ ha).1 rfl rfl (.cons (.int x t) (.cons (reads_newData hl (ke_carried hi)) .nil))
theorem ne_pairs (N : News h₀ L s.heap news) (ha : (a, ({ cls := .type "tuple", data := .seq #[.int x t, .ref l] c } : Obj)) ∈ news) (hb : (b, ({ cls := .type "tuple", data := .seq #[.int y u, .ref l'] d } : Obj)) ∈ news)
    (hl : s.heap.IsList l vs.toArray) (hi : IntsAre vs ns) (hl' : s.heap.IsList l' us.toArray) (hi' : IntsAre us ms) (hu : A.units + 64 < cLine) (h : Q (.bool (!(decide (x = y) && decide (ns = ms)))) s) :
    wpAny (model prog w) A (compareOp .NotEq (.ref a) (.ref b)) Q E s := by
  refine ne_dataH (reads_pair N ha hl hi) (reads_pair N hb hl' hi') (shaped_pair _ _) (shaped_pair _ _) hu ?_
  rw [eqv_pair]
  exact h
end
end Mine

namespace Mine
/-- n and its limbs, laid out from the high end -/
structure Want (p : Nat) (n : Int) (ws : List Int) : Prop where
  acc : Acc p n
  eq : ws = limbs n
theorem Want.start : Want ([] : List Int).length 0 [] := ⟨Acc.start, (limbs_nonpos (by decide)).symm⟩
theorem Acc.more {pre : List Int} {n x k : Int} (h : Acc pre.length n) (h0 : 0 ≤ x) (h1 : x ≤ 9999) : Acc (pre ++ [k]).length (n * 10000 + x) := by
  obtain ⟨h3, h4⟩ := h
  refine ⟨by omega, ?_⟩
  rw [List.length_append, List.length_cons, List.length_nil, Int.pow_succ]
  omega
theorem Want.more {pre : List Int} {n x k : Int} {ws : List Int} (h : Want pre.length n ws) (h0 : 0 ≤ x) (h1 : x ≤ 9999) (hp : 0 < n * 10000 + x) : Want (pre ++ [k]).length (n * 10000 + x) ([x] ++ ws) := by
  refine ⟨h.acc.more h0 h1, ?_⟩
  have hn := h.acc.lo
  rw [limbs_pos hp, h.eq]
  have e1 : (n * 10000 + x) % 10000 = x := by omega
  have e2 : (n * 10000 + x) / 10000 = n := by omega
  rw [e1, e2]; rfl
theorem Want.none {pre : List Int} {n x k : Int} {ws : List Int} (h : Want pre.length n ws) (h0 : 0 ≤ x) (h1 : x ≤ 9999) (hp : ¬ 0 < n * 10000 + x) : Want (pre ++ [k]).length (n * 10000 + x) ws := by
  refine ⟨h.acc.more h0 h1, ?_⟩
  have hn := h.acc.lo
  rw [limbs_nonpos (by omega), h.eq, limbs_nonpos (by omega)]
theorem Want.len {p : Nat} {n : Int} {ws : List Int} (h : Want p n ws) : ws.length ≤ p := by
  rw [h.eq]; exact limbs_len p n h.acc.hi
section
variable {prog : Program} {w : World} {A : Around} {E : Value → Shared → Prop} {s : Shared} {env : Env} {h₀ : Heap} {x : Str} {body : List Stmt} {Q : Flow → Shared → Prop}
/-- a loop over a made list of ints that turns an int and puts another list under a name -/
theorem want_loop {l : Addr} {vs : List Value} {ns : List Int} {nn : Nat} {m₀ : Str → Option Value} {news : List (Addr × Obj)} (xn xw : Str) (stored : List Str) (P : List Int → Int → List Int → Prop) {n₀ : Int} {t₀ : Tok} {a₀ : Addr} {us₀ : List Value} {ws₀ : List Int} {k₀ : Nat}
    (hh : A.handled = none) (F : Fr h₀ env.locals s.heap m₀) (N : News h₀ env.locals s.heap news) (hl : (l, W.listOf vs.toArray nn) ∈ news) (hi : IntsAre vs ns)
    (hkn : m₀ xn = some (.int n₀ t₀)) (hkw : m₀ xw = some (.ref a₀)) (hm : (a₀, W.listOf us₀.toArray k₀) ∈ news) (hu : IntsAre us₀ ws₀) (hp : P [] n₀ ws₀)
    (turn : ∀ (c : Int × Tok × Addr × List Value × List Int × Nat) tl pre post n t (u : Str → Option Value) h tk own, ns = pre ++ n :: post → n ∈ ns → KdSep own tl (news.map (·.1)) → OwnOff (tl ++ own) (news.map (·.1)) →
      ((c.2.2.1, W.listOf c.2.2.2.1.toArray c.2.2.2.2.2) ∈ news ++ tl ∧ IntsAre c.2.2.2.1 c.2.2.2.2.1) → P pre c.1 c.2.2.2.2.1 →
      Fr h₀ env.locals h (fun y => if y = x then some (.int n t) else kstB (fun z => if stored.contains z then u z else m₀ z) [(xn, .int c.1 c.2.1), (xw, .ref c.2.2.1)] y) → News h₀ env.locals h (news ++ (tl ++ own)) →
      wpAny (model prog w) A (execs body env) (InvPostG h₀ env.locals (KdS (fun (_ : Int × Tok × Addr × List Value × List Int × Nat) => []) news (fun c => [(xn, .int c.1 c.2.1), (xw, .ref c.2.2.1)]) (fun nw c => (c.2.2.1, W.listOf c.2.2.2.1.toArray c.2.2.2.2.2) ∈ nw ∧ IntsAre c.2.2.2.1 c.2.2.2.2.1) x stored m₀ (fun pre c => P pre c.1 c.2.2.2.2.1) (news.map (·.1)) (pre ++ [n])) own { s with heap := h, toks := tk } Q) E { s with heap := h, toks := tk })
    (done : ∀ (c : Int × Tok × Addr × List Value × List Int × Nat) tl (u : Str → Option Value) h tk, OwnOff tl (news.map (·.1)) → ((c.2.2.1, W.listOf c.2.2.2.1.toArray c.2.2.2.2.2) ∈ news ++ tl ∧ IntsAre c.2.2.2.1 c.2.2.2.2.1) → P ns c.1 c.2.2.2.2.1 →
      Fr h₀ env.locals h (fun y => if y = x then u y else kstB (fun z => if stored.contains z then u z else m₀ z) [(xn, .int c.1 c.2.1), (xw, .ref c.2.2.1)] y) → News h₀ env.locals h (news ++ tl) → Q .next { s with heap := h, toks := tk }) :
    wpAny (model prog w) A (pyIter (.ref l)) (fun it s₂ => LoopAtV prog w A h₀ env x body Q E it s₂) E s :=
  kd_listI (fun (_ : Int × Tok × Addr × List Value × List Int × Nat) => []) news (fun c => [(xn, .int c.1 c.2.1), (xw, .ref c.2.2.1)]) (fun nw c => (c.2.2.1, W.listOf c.2.2.2.1.toArray c.2.2.2.2.2) ∈ nw ∧ IntsAre c.2.2.2.1 c.2.2.2.2.1) stored (fun pre c => P pre c.1 c.2.2.2.2.1) (news.map (·.1)) ⟨n₀, t₀, a₀, us₀, ws₀, k₀⟩
    hh hl hi F N (fun p hp => by simpa using hp) (fun _ => rfl) ⟨by simpa using hm, hu⟩ (List.forall_mem_cons.mpr ⟨hkn, List.forall_mem_cons.mpr ⟨hkw, List.forall_mem_nil _⟩⟩) hp
    (fun c tl pre post n t u h tk own e1 e2 e3 e4 e5 e6 e7 e8 => turn c tl pre post n t u h tk own e1 e2 e3 e4 e5 e6 e7 e8) (fun c tl u h tk e1 e2 e3 e4 e5 => done c tl u h tk e1 e2 e3 e4 e5)
end
end Mine

namespace Mine
/-- the ways of a statement meet: x holds an int of which Good is known, all else stands -/
structure JoinP (x : Str) (Good : Int → Prop) (h₀ : Heap) (L : Addr) (m : Str → Option Value) (news : List (Addr × Obj)) (s : Shared) (f : Flow) (s' : Shared) : Prop where
  next : f = .next
  here : ∃ (r : Int) (t : Tok) (h : Heap) (tk : Nat), Good r ∧ s' = { s with heap := h, toks := tk } ∧ Fr h₀ L h (fun y => if y = x then some (.int r t) else m y) ∧ News h₀ L h news
/-- we are within such a statement -/
structure InJoin : Prop where
structure JoinK (P : Prop) : Prop where
  out : P
section
variable {M : Model} {A : Around} {E : Value → Shared → Prop} {s : Shared} {env : Env} {h₀ : Heap} {L : Addr} {m : Str → Option Value} {news : List (Addr × Obj)} {Q : Flow → Shared → Prop} {st : Stmt}
theorem JoinP.mk' {x : Str} {Good : Int → Prop} {r : Int} {t : Tok} {h : Heap} {tk : Nat} (F : Fr h₀ L h (fun y => if y = x then some (.int r t) else m y)) (N : News h₀ L h news) (g : Good r) :
    JoinP x Good h₀ L m news s .next { s with heap := h, toks := tk } := ⟨rfl, r, t, h, tk, g, rfl, F, N⟩
theorem join_if (x : Str) (Good : Int → Prop) (_F : Fr h₀ L s.heap m) (_N : News h₀ L s.heap news)
    (h1 : InJoin → wpAny M A (exec st env) (fun f s₃ => JoinP x Good h₀ L m news s f s₃) E s)
    (h2 : JoinK (∀ (r : Int) (t : Tok) (h : Heap) (tk : Nat), Good r → Fr h₀ L h (fun y => if y = x then some (.int r t) else m y) → News h₀ L h news → Q .next { s with heap := h, toks := tk })) :
    wpAny M A (exec st env) Q E s := by
  refine wpAny_mono (h1 ⟨⟩) (fun f s₃ hf => ?_) fun _ _ h => h
  obtain ⟨hf, r, t, h, tk, g, e, F, N⟩ := hf
  subst hf
  subst e
  exact h2.out r t h tk g F N
/-- the ways of a statement meet where it stores nothing -/
structure JoinS (h₀ : Heap) (L : Addr) (m : Str → Option Value) (news : List (Addr × Obj)) (s : Shared) (f : Flow) (s' : Shared) : Prop where
  next : f = .next
  here : ∃ (h : Heap) (tk : Nat), s' = { s with heap := h, toks := tk } ∧ Fr h₀ L h m ∧ News h₀ L h news
theorem JoinS.mk' {h : Heap} {tk : Nat} (F : Fr h₀ L h m) (N : News h₀ L h news) : JoinS h₀ L m news s .next { s with heap := h, toks := tk } := ⟨rfl, h, tk, rfl, F, N⟩
theorem join_stmt (_F : Fr h₀ L s.heap m) (_N : News h₀ L s.heap news)
    (h1 : InJoin → wpAny M A (exec st env) (fun f s₃ => JoinS h₀ L m news s f s₃) E s)
    (h2 : JoinK (∀ (h : Heap) (tk : Nat), Fr h₀ L h m → News h₀ L h news → Q .next { s with heap := h, toks := tk })) :
    wpAny M A (exec st env) Q E s := by
  refine wpAny_mono (h1 ⟨⟩) (fun f s₃ hf => ?_) fun _ _ h => h
  obtain ⟨hf, h, tk, e, F, N⟩ := hf
  subst hf
  subst e
  exact h2.out h tk F N
theorem frame_same {x : Str} {v : Value} {h : Heap} (hm : m x = some v) (F : Fr h₀ L h m) : Fr h₀ L h (fun y => if y = x then some v else m y) := by
  have e : (fun y => if y = x then some v else m y) = m := by
    funext y
    by_cases hy : y = x
    · rw [if_pos hy, hy, hm]
    · rw [if_neg hy]
  rw [e]; exact F
theorem JoinP.same {x : Str} {Good : Int → Prop} {r : Int} {t : Tok} {h : Heap} {tk : Nat} (F : Fr h₀ L h m) (hm : m x = some (.int r t)) (N : News h₀ L h news) (g : Good r) :
    JoinP x Good h₀ L m news s .next { s with heap := h, toks := tk } := ⟨rfl, r, t, h, tk, g, rfl, frame_same hm F, N⟩
/-- the ways of a statement meet: x holds a list of ints of which Good is known -/
structure JoinL (x : Str) (Good : List Int → Prop) (h₀ : Heap) (L : Addr) (m : Str → Option Value) (news : List (Addr × Obj)) (s : Shared) (f : Flow) (s' : Shared) : Prop where
  next : f = .next
  here : ∃ (a : Addr) (us : List Value) (ns : List Int) (c : Nat) (h : Heap) (tk : Nat), Good ns ∧ IntsAre us ns ∧ s' = { s with heap := h, toks := tk } ∧ Fr h₀ L h (fun y => if y = x then some (.ref a) else m y) ∧ News h₀ L h ((a, W.listOf us.toArray c) :: news)
theorem news_cons {h : Heap} {news' : List (Addr × Obj)} {p : Addr × Obj} (N : News h₀ L h news') (hp : p ∈ news') (hs : ∀ q ∈ news, q ∈ news') : News h₀ L h (p :: news) := fun q hq => by
  rcases List.mem_cons.mp hq with e | hq
  · rw [e]; exact N p hp
  · exact N q (hs q hq)
theorem JoinL.mk' {x : Str} {Good : List Int → Prop} {a : Addr} {us : List Value} {ns : List Int} {c : Nat} {h : Heap} {tk : Nat} {news' : List (Addr × Obj)} (F : Fr h₀ L h (fun y => if y = x then some (.ref a) else m y)) (N : News h₀ L h news') (hs : ∀ q ∈ news, q ∈ news') (hp : (a, W.listOf us.toArray c) ∈ news') (hi : IntsAre us ns) (g : Good ns) :
    JoinL x Good h₀ L m news s .next { s with heap := h, toks := tk } := ⟨rfl, a, us, ns, c, h, tk, g, hi, rfl, F, news_cons N hp hs⟩
theorem JoinL.same {x : Str} {Good : List Int → Prop} {a : Addr} {us : List Value} {ns : List Int} {c : Nat} {h : Heap} {tk : Nat} {news' : List (Addr × Obj)} (F : Fr h₀ L h m) (hm : m x = some (.ref a)) (N : News h₀ L h news') (hs : ∀ q ∈ news, q ∈ news') (hp : (a, W.listOf us.toArray c) ∈ news') (hi : IntsAre us ns) (g : Good ns) :
    JoinL x Good h₀ L m news s .next { s with heap := h, toks := tk } := ⟨rfl, a, us, ns, c, h, tk, g, hi, rfl, frame_same hm F, news_cons N hp hs⟩
theorem join_list (x : Str) (Good : List Int → Prop) (_F : Fr h₀ L s.heap m) (_N : News h₀ L s.heap news)
    (h1 : InJoin → wpAny M A (exec st env) (fun f s₃ => JoinL x Good h₀ L m news s f s₃) E s)
    (h2 : JoinK (∀ (a : Addr) (us : List Value) (ns : List Int) (c : Nat) (h : Heap) (tk : Nat), Good ns → IntsAre us ns → Fr h₀ L h (fun y => if y = x then some (.ref a) else m y) → News h₀ L h ((a, W.listOf us.toArray c) :: news) → Q .next { s with heap := h, toks := tk })) :
    wpAny M A (exec st env) Q E s := by
  refine wpAny_mono (h1 ⟨⟩) (fun f s₃ hf => ?_) fun _ _ h => h
  obtain ⟨hf, a, us, ns, c, h, tk, g, hi, e, F, N⟩ := hf
  subst hf
  subst e
  exact h2.out a us ns c h tk g hi F N
/-- the ways of a statement meet: x holds a bool of which Good is known -/
structure JoinB (x : Str) (Good : Bool → Prop) (h₀ : Heap) (L : Addr) (m : Str → Option Value) (news : List (Addr × Obj)) (s : Shared) (f : Flow) (s' : Shared) : Prop where
  next : f = .next
  here : ∃ (b : Bool) (h : Heap) (tk : Nat), Good b ∧ s' = { s with heap := h, toks := tk } ∧ Fr h₀ L h (fun y => if y = x then some (.bool b) else m y) ∧ News h₀ L h news
theorem JoinB.mk' {x : Str} {Good : Bool → Prop} {b : Bool} {h : Heap} {tk : Nat} (F : Fr h₀ L h (fun y => if y = x then some (.bool b) else m y)) (N : News h₀ L h news) (g : Good b) :
    JoinB x Good h₀ L m news s .next { s with heap := h, toks := tk } := ⟨rfl, b, h, tk, g, rfl, F, N⟩
theorem JoinB.same {x : Str} {Good : Bool → Prop} {b : Bool} {h : Heap} {tk : Nat} (F : Fr h₀ L h m) (hm : m x = some (.bool b)) (N : News h₀ L h news) (g : Good b) :
    JoinB x Good h₀ L m news s .next { s with heap := h, toks := tk } := ⟨rfl, b, h, tk, g, rfl, frame_same hm F, N⟩
theorem join_bool (x : Str) (Good : Bool → Prop) (_F : Fr h₀ L s.heap m) (_N : News h₀ L s.heap news)
    (h1 : InJoin → wpAny M A (exec st env) (fun f s₃ => JoinB x Good h₀ L m news s f s₃) E s)
    (h2 : JoinK (∀ (b : Bool) (h : Heap) (tk : Nat), Good b → Fr h₀ L h (fun y => if y = x then some (.bool b) else m y) → News h₀ L h news → Q .next { s with heap := h, toks := tk })) :
    wpAny M A (exec st env) Q E s := by
  refine wpAny_mono (h1 ⟨⟩) (fun f s₃ hf => ?_) fun _ _ h => h
  obtain ⟨hf, b, h, tk, g, e, F, N⟩ := hf
  subst hf
  subst e
  exact h2.out b h tk g F N
end
end Mine

namespace Mine
/-- the empty list's ints are told -/
structure NoneTold : Prop where
structure Short (ns : List Int) : Prop where
  le : ns.length ≤ 62
theorem acc63 {p : Nat} {n : Int} {ws : List Int} (h : Want p n ws) (hp : p ≤ 62) : Acc 63 (-(-1 * n)) := by
  have e : -(-1 * n) = n := by omega
  rw [e]
  exact ⟨h.acc.lo, h.acc.le 63 (by omega)⟩
theorem acc63' {p : Nat} {n : Int} {ws : List Int} (h : Want p n ws) (hp : p ≤ 62) : Acc 63 (1 * n) := by
  have e : 1 * n = n := by omega
  rw [e]
  exact ⟨h.acc.lo, h.acc.le 63 (by omega)⟩
theorem acc630 {n : Int} : Acc 63 (0 * n) := by
  rw [Int.zero_mul]
  exact ⟨by decide, Int.pow_pos (by decide)⟩
theorem all_tt {l : List Int} (h : ((List.filter (fun _ => true) l).all fun _ => true) = false) : False := by
  simp at h
theorem end_neg {p : Nat} {n m : Int} {ws ls : List Int} (h : (true && decide (ls = ws)) = false) (hF : Fi (-(-1 * n)) m ls) (hm : ¬ 0 < m) (hW : Want p n ws) : False := by
  have e : -(-1 * n) = n := by omega
  have h1 := hF.done hm
  rw [e, ← hW.eq] at h1
  subst h1
  simp at h
theorem end_pos {p : Nat} {n m : Int} {ws ls : List Int} (h : (true && decide (ls = ws)) = false) (hF : Fi (1 * n) m ls) (hm : ¬ 0 < m) (hW : Want p n ws) : False := by
  have e : 1 * n = n := by omega
  have h1 := hF.done hm
  rw [e, ← hW.eq] at h1
  subst h1
  simp at h
theorem end_nil {n m : Int} {ls : List Int} (hl : (ls.length : Int) = 0) (hF : Fi (1 * n) m ls) (hm : ¬ 0 < m) (hn : 0 < n) : False := by
  have h1 := hF.done hm
  rw [limbs_pos (by omega)] at h1
  rw [h1, List.length_cons] at hl
  omega
theorem end_zero {n m : Int} {ls : List Int} (hl : (ls.length : Int) ≠ 0) (hF : Fi (0 * n) m ls) (hm : ¬ 0 < m) : False := by
  have h1 := hF.done hm
  rw [limbs_nonpos (by omega)] at h1
  rw [h1] at hl
  exact hl rfl
theorem end_none {p : Nat} {n : Int} {ws : List Int} (h : (true && decide ([] = ws)) = false) (hW : Want p n ws) (hn : ¬ 0 < n) : False := by
  have h1 := hW.eq
  rw [limbs_nonpos (by omega)] at h1
  subst h1
  simp at h
theorem limb_rng (c : Int) : 0 ≤ (c.fdiv 4).fmod 10000 ∧ (c.fdiv 4).fmod 10000 ≤ 9999 := by
  have h1 := fmod_hi (c.fdiv 4) (n := 10000) (by decide)
  have h2 := fmod_lo (c.fdiv 4) (n := 10000) (by decide)
  omega
end Mine
local macro_rules | `(tactic| walk_at "binaryOp Mult int int") => `(tactic| first | (with_reducible refine mul_int ?_ (PySem.IntMulOk.of_right (by decide))) | (with_reducible refine mul_int ?_ (PySem.IntMulOk.of_left (by decide))))
local macro_rules | `(tactic| walk_at "compareOp NotEq ref ref") => `(tactic| (k_here; (with_reducible show wpAny _ _ (compareOp CmpOp.NotEq (Value.ref _) (Value.ref _)) _ _ _); (k_dflt (refine' Mine.ne_pairs ?N ?a ?b ?p ?i ?q ?j ?u ?_; (case N => k_asm); (case a => k_mem); (case b => k_mem); (case p => (first | exact News.isList (by k_asm) (by kd_mem) | is_list)); (case i => (first | assumption | l_ints)); (case q => (first | exact News.isList (by k_asm) (by kd_mem) | is_list)); (case j => (first | assumption | l_ints)); (case u => ke_room))); (try simp only [decide_true, Bool.and_true, Bool.not_true])))
local macro_rules | `(tactic| walk_at "exec Return some") => `(tactic| (exfalso; first | exact absurd trivial (fun _ => Mine.all_tt (by assumption)) | exact absurd trivial (fun _ => Mine.end_neg (by assumption) (by assumption) (by assumption) (by assumption)) | exact absurd trivial (fun _ => Mine.end_pos (by assumption) (by assumption) (by assumption) (by assumption)) | exact absurd trivial (fun _ => Mine.end_nil (by assumption) (by assumption) (by assumption) (by assumption)) | exact absurd trivial (fun _ => Mine.end_zero (by assumption) (by assumption) (by assumption)) | exact absurd trivial (fun _ => Mine.end_none (by assumption) (by assumption) (by assumption))))
local macro_rules | `(tactic| law_fin) => `(tactic| first | ((with_reducible show (true == true) = true); exact rfl) | exact absurd trivial (fun _ => Mine.all_tt (by assumption)) | exact absurd trivial (fun _ => Mine.end_neg (by assumption) (by assumption) (by assumption) (by assumption)) | exact absurd trivial (fun _ => Mine.end_pos (by assumption) (by assumption) (by assumption) (by assumption)) | exact absurd trivial (fun _ => Mine.end_nil (by assumption) (by assumption) (by assumption) (by assumption)) | exact absurd trivial (fun _ => Mine.end_zero (by assumption) (by assumption) (by assumption)) | exact absurd trivial (fun _ => Mine.end_none (by assumption) (by assumption) (by assumption)))
local macro_rules | `(tactic| walk_at "exec If") => `(tactic| (k_here; (with_reducible show wpAny _ _ (exec (Stmt.If _ [Stmt.Assign [Expr.Name (Str.ofString "pick") _] _ _] [] _) _) _ _ _); (fail_if_success (have kMk := (by assumption : Mine.InJoin))); ((refine' Mine.join_if (Str.ofString "pick") (fun _ => True) ?jF ?jN ?_ ?_); (case jF => k_asm); (case jN => k_asm); intro kMk)))
local macro_rules | `(tactic| walk_at "exec If") => `(tactic| (k_here; (with_reducible show wpAny _ _ (exec (Stmt.If _ [Stmt.Assign [Expr.Name (Str.ofString "cells") _] _ _] [] _) _) _ _ _); (fail_if_success (have kMk := (by assumption : Mine.InJoin))); ((refine' Mine.join_list (Str.ofString "cells") Mine.Short ?jF ?jN ?_ ?_); (case jF => k_asm); (case jN => k_asm); intro kMk)))
local macro_rules | `(tactic| walk_at "JoinP") => `(tactic| first | (k_dflt (refine Mine.JoinP.mk' (by assumption) (by assumption) True.intro)) | (k_dflt (refine Mine.JoinP.same (by assumption) (by rfl) (by assumption) True.intro)))
local macro_rules | `(tactic| walk_at "JoinL") => `(tactic| first | (k_dflt (refine Mine.JoinL.mk' (by assumption) (by assumption) (by kst_inAny) (by k_memK) (by first | assumption | l_ints) ?_)); (refine ⟨?_⟩; (try simp only [List.length_map, List.length_take, List.length_drop]); omega) | (k_dflt (refine Mine.JoinL.same (by assumption) (by rfl) (by assumption) (by kst_inAny) (by k_memK) (by first | assumption | l_ints) ?_)); (refine ⟨?_⟩; (try simp only [List.length_map, List.length_take, List.length_drop]); omega))
local macro_rules | `(tactic| walk_at "JoinK") => `(tactic| ((refine ⟨?_⟩); (first | ((with_reducible show ∀ (_ : Addr) (_ : List Value), _); (intro kAd kUs kNs kCt kH kTk kGood kInts kF kN; (have kShort := Mine.Short.le kGood))) | (intro kR kT kH kTk kGood kF kN)); (try dsimp only)))
local macro_rules | `(tactic| walk_at "subscriptTail Name Slice ref ref") => `(tactic| (k_here; (with_reducible show wpAny _ _ (subscriptTail _ (PySem.Expr.Slice none none none _) (Value.ref _) (Value.ref _)) _ _ _); (k_dflt (refine' kmk_slice_ints ?F ?N ?l ?p ?q ?i ?m ?c ?_ ?s ?t ?z; (case F => k_asm); (case N => k_asm); (case l => kmk_list); (case p => kmk_part); (case q => kmk_part); (case i => assumption); (case m => exact kmk_all (by assumption)); (case c => exact rfl); (case s => with_unfolding_all rfl); (case t => kmk_pure); (case z => (refine kmk_sz (by assumption) ?_; (simp only [sizeLine_eq]); omega)))); (intro D' ws' h' F' N' l1 hI' hC' hL'); (clear hC' hL'); (try k_lt l1); (try k_sweep)))
local macro_rules | `(tactic| walk_at "pyIter ref") => `(tactic| ((with_reducible show wpAny _ _ (pyIter _) (GenPost _ _ _ _ _ _ _ _ _ _ _ _ _ _ _ _ _ _) _ _); (fail_if_success (with_reducible rename Mine.NoneTold => xT9)); (have kT9 : Mine.NoneTold := Mine.NoneTold.mk); (have kE9 : IntsAre ([] : List Value) ([] : List Int) := IntsAre.nil); walk_at "pyIter ref"))
local macro_rules | `(tactic| walk_at "binaryOp Add ref ref") => `(tactic| (k_here; (k_dflt (refine' kmk_add_ints ?F ?N ?a ?b ?i ?j ?_ ?z; (case F => k_asm); (case N => k_asm); (case a => kmk_list); (case b => exact News.isList (by k_asm) (by kd_mem)); (case i => exact IntsAre.cons _ _ IntsAre.nil); (case j => assumption); (case z => first | ((simp only [sizeLine_eq, List.length_cons, List.length_nil]); omega) | kmk_sum))); (intro D' ws' h' F' N' l1 hI'); (try k_lt l1); (try k_sweep)))
local macro_rules | `(tactic| walk_at "InvEndN") => `(tactic| k_dflt kst_close)
local macro_rules | `(tactic| walk_at "InvEndN") => `(tactic| k_dflt ksr_close)
local macro_rules | `(tactic| walk_at "KswEnd") => `(tactic| k_dflt ksw_close)
local macro_rules | `(tactic| walk_at "InvEndG") => `(tactic| k_dflt (kd_ends 10; (case kdf => (refine ⟨?_, ?_⟩; (kd_mem); (first | assumption | l_ints | k_intsEnd))); (case kdp => (dsimp only; k_extra "state"))))
set_option maxRecDepth 100000 in
set_option maxHeartbeats 8000000 in
theorem PySem.Challenge.cw_k8_0023_holds : PySem.Challenge.rw_k8_0023.Holds := by
  k_with "exec While Compare cons nil" => k_while_given ["n!"] (fun n0 _ n ls => Mine.Fi n0 n ls ∧ Mine.Acc 63 n0 ∧ ls.length ≤ 63) (fun _ _ n _ => n.toNat) "n" "limbs"
  k_with "pyIter ref" => (k_of "c" => ((rename Fr _ _ _ _ => lF'); (rename News _ _ _ _ => lN'); (with_unfolding_all refine' Mine.want_loop (Str.ofString "n") (Str.ofString "want") [Str.ofString "limb"] (fun pre n ws => Mine.Want pre.length n ws) (by rfl) lF' lN' (by k_memK) (by assumption) (by rfl) (by rfl) (by k_memK) (by first | assumption | exact IntsAre.nil) Mine.Want.start ?_ ?_); (all_goals (clear lF' lN')); ((rintro ⟨kA, kB, kC, kD, kE, kG⟩ kTl kPre kPost kN kT kU kH kTk kOwn kEq kMem kSep kO4 ⟨kIn, kInts⟩ kInv kFr kNews); (have kL9 := congrArg List.length kEq); (simp only [List.length_append, List.length_cons] at kL9); (have kWl := Mine.Want.len kInv); (dsimp only at kWl); (have kMark := kstMark); (have kMark2 := kdMark); (dsimp only [kstB] at kFr kIn kInts kInv); (try simp only [List.nil_append, List.cons_append, List.append_nil] at kNews kIn); (try k_fold)); rotate_left; ((rintro ⟨kA, kB, kC, kD, kE, kG⟩ kTl kU kH kTk kO3 ⟨kIn, kInts⟩ kInv kFr kNews); (have kMark := kstMark); (have kMark2 := kdMark); (dsimp only [kstB] at kFr kIn kInts kInv); (try simp only [List.nil_append, List.cons_append, List.append_nil] at kNews kIn); (try k_fold))))
  k_with "state" => first | exact Mine.Want.start | exact Mine.Want.none (by assumption) (by decide) (by decide) (by assumption) | exact Mine.Want.none (by assumption) (Mine.limb_rng _).1 (Mine.limb_rng _).2 (by assumption) | exact Mine.Want.more (by assumption) (by decide) (by decide) (by assumption) | exact Mine.Want.more (by assumption) (Mine.limb_rng _).1 (Mine.limb_rng _).2 (by assumption) | exact ⟨Mine.Fi.start, by first | exact Mine.acc63 (by assumption) (Mine.Short.le (by assumption)) | exact Mine.acc63' (by assumption) (Mine.Short.le (by assumption)) | exact Mine.acc630, by decide⟩ | exact ⟨Mine.Fi.turn (by assumption) (by assumption), by assumption, Mine.Fi.len (by assumption) (by assumption) (Mine.Acc.hi (by assumption))⟩
  k_with "measure" => exact Mine.Fi.less (by assumption)
  open_k
