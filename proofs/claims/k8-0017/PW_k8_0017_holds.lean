import PyProof.Rows.All
import Wide.All
import OpenK.AllK
import Wide.FinOn
import PySem.Challenge.RW_k8_0017
set_option Elab.async false
namespace Mine
/-- the number that limbs spell, low end first -/
def val : List Int → Int
  | [] => 0
  | a :: r => a + 10000 * val r
def limbsN (n : Nat) : List Int := if h : n = 0 then [] else ((n % 10000 : Nat) : Int) :: limbsN (n / 10000)
termination_by n
decreasing_by omega
/-- the limbs of an int, low end first; none for what is not above zero -/
def limbs (n : Int) : List Int := limbsN n.toNat

theorem limbs_nonpos {n : Int} (h : n ≤ 0) : limbs n = [] := by
  unfold limbs
  rw [Int.toNat_of_nonpos h, limbsN]; rfl
theorem limbs_pos {n : Int} (h : 0 < n) : limbs n = (n % 10000) :: limbs (n / 10000) := by
  unfold limbs
  rw [limbsN, dif_neg (by omega)]
  congr 1
  · omega
  · congr 1; omega
theorem limbs_ind {P : Int → Prop} (h0 : ∀ n, n ≤ 0 → P n) (h1 : ∀ n, 0 < n → P (n / 10000) → P n) (n : Int) : P n := by
  have : ∀ k : Nat, ∀ n : Int, n.toNat ≤ k → P n := by
    intro k
    induction k with
    | zero => intro n hn; exact h0 n (by omega)
    | succ k ih =>
      intro n hn
      by_cases h : n ≤ 0
      · exact h0 n h
      · exact h1 n (by omega) (ih _ (by omega))
  exact this _ n (Nat.le_refl _)
theorem val_limbs (n : Int) : 0 ≤ n → val (limbs n) = n := by
  induction n using limbs_ind with
  | h0 n h => intro h'; rw [limbs_nonpos h, val]; omega
  | h1 n h ih => intro _; rw [limbs_pos h, val, ih (by omega)]; omega
theorem limbs_range (n : Int) : ∀ x ∈ limbs n, 0 ≤ x ∧ x ≤ 9999 := by
  induction n using limbs_ind with
  | h0 n h => rw [limbs_nonpos h]; intro x hx; cases hx
  | h1 n h ih =>
    rw [limbs_pos h]
    intro x hx
    rcases List.mem_cons.mp hx with rfl | hx
    · omega
    · exact ih x hx
/-- in normal form -/
def Nf (l : List Int) : Prop := (∀ x ∈ l, 0 ≤ x ∧ x ≤ 9999) ∧ ∀ h : l ≠ [], l.getLast h ≠ 0
theorem limbs_last (n : Int) : ∀ h : limbs n ≠ [], (limbs n).getLast h ≠ 0 := by
  induction n using limbs_ind with
  | h0 n h => intro h'; exact absurd (limbs_nonpos h) h'
  | h1 n h ih =>
    intro hne
    by_cases h2 : n / 10000 ≤ 0
    · have e : limbs n = [n % 10000] := by rw [limbs_pos h, limbs_nonpos h2]
      have : (limbs n).getLast hne = n % 10000 := by simp [e]
      omega
    · have hne2 : limbs (n / 10000) ≠ [] := by rw [limbs_pos (by omega)]; simp
      have : (limbs n).getLast hne = (limbs (n / 10000)).getLast hne2 := by
        simp [limbs_pos h, List.getLast_cons hne2]
      rw [this]; exact ih hne2
theorem limbs_nf (n : Int) : Nf (limbs n) := ⟨limbs_range n, limbs_last n⟩
theorem Nf.tail {a : Int} {l : List Int} (h : Nf (a :: l)) : Nf l :=
  ⟨fun x hx => h.1 x (.tail _ hx), fun hne => by have := h.2 (by simp); rwa [List.getLast_cons hne] at this⟩
theorem val_nonneg : ∀ {l : List Int}, (∀ x ∈ l, 0 ≤ x ∧ x ≤ 9999) → 0 ≤ val l
  | [], _ => Int.le_refl _
  | a :: r, h => by
    have h1 := h a (.head _)
    have h2 := val_nonneg (l := r) fun x hx => h x (.tail _ hx)
    rw [val]; omega
theorem val_pos_of_nf : ∀ {l : List Int}, Nf l → l ≠ [] → 0 < val l
  | [], _, h => absurd rfl h
  | [a], h, _ => by
    have h1 := h.1 a (.head _)
    have h2 := h.2 (by simp)
    simp at h2
    simp only [val]; omega
  | a :: b :: r, h, _ => by
    have h1 := h.1 a (.head _)
    have h2 := val_pos_of_nf h.tail (by simp)
    rw [val]; omega
theorem limbs_val : ∀ {l : List Int}, Nf l → limbs (val l) = l
  | [], _ => limbs_nonpos (Int.le_refl _)
  | a :: r, h => by
    have h1 := h.1 a (.head _)
    have hp := val_pos_of_nf h (by simp)
    rw [limbs_pos hp]
    have e1 : val (a :: r) % 10000 = a := by rw [val]; omega
    have e2 : val (a :: r) / 10000 = val r := by rw [val]; omega
    rw [e1, e2, limbs_val h.tail]
theorem nf_eq {a b : List Int} (ha : Nf a) (hb : Nf b) (h : val a = val b) : a = b := by
  rw [← limbs_val ha, ← limbs_val hb, h]
theorem limbs_len (k : Nat) : ∀ n : Int, n < 10000 ^ k → (limbs n).length ≤ k := by
  induction k with
  | zero => intro n h; rw [limbs_nonpos (by omega)]; simp
  | succ k ih =>
    intro n h
    by_cases h0 : n ≤ 0
    · rw [limbs_nonpos h0]; simp
    · rw [limbs_pos (by omega), List.length_cons]
      have := ih (n / 10000) (by rw [Int.pow_succ] at h; omega)
      omega
theorem val_append : ∀ (a b : List Int), val (a ++ b) = val a + 10000 ^ a.length * val b
  | [], b => by simp [val]
  | x :: r, b => by
    rw [List.cons_append, val, val, val_append r b, List.length_cons, Int.pow_succ, Int.mul_add]
    rw [Int.mul_comm (10000 ^ r.length) 10000, Int.mul_assoc]; omega
theorem val_lt : ∀ {l : List Int}, (∀ x ∈ l, 0 ≤ x ∧ x ≤ 9999) → val l < 10000 ^ l.length
  | [], _ => by decide
  | a :: r, h => by
    have h1 := h a (.head _)
    have h2 := val_lt (l := r) fun x hx => h x (.tail _ hx)
    rw [val, List.length_cons, Int.pow_succ]; omega
/-- the while's turn -/
theorem limbs_turn {n : Int} {ls l0 : List Int} (h : ls ++ limbs n = l0) (hn : 0 < n) : (ls ++ [n % 10000]) ++ limbs (n / 10000) = l0 := by
  rw [← h, limbs_pos hn]; simp
theorem limbs_done {n : Int} {ls l0 : List Int} (h : ls ++ limbs n = l0) (hn : n ≤ 0) : ls = l0 := by
  rw [← h, limbs_nonpos hn, List.append_nil]
/-- shifting -/
theorem val_replicate (k : Nat) (l : List Int) : val (List.replicate k 0 ++ l) = 10000 ^ k * val l := by
  induction k with
  | zero => simp
  | succ k ih => rw [List.replicate_succ, List.cons_append, val, ih, Int.pow_succ, Int.mul_comm (10000 ^ k) 10000, Int.mul_assoc]; omega
theorem limbs_shift {n : Int} (k : Nat) (hn : 0 < n) : limbs (n * 10000 ^ k) = List.replicate k 0 ++ limbs n := by
  induction k with
  | zero => simp
  | succ k ih =>
    have hp : (0 : Int) < 10000 ^ k := Int.pow_pos (by decide)
    have hp2 : 0 < n * 10000 ^ k := Int.mul_pos hn hp
    have e : n * 10000 ^ (k + 1) = 10000 * (n * 10000 ^ k) := by rw [Int.pow_succ, ← Int.mul_assoc, Int.mul_comm]
    rw [e, limbs_pos (by omega), List.replicate_succ, List.cons_append, ← ih]
    congr 1
    · omega
    · congr 1; omega
/-- the signs of an int's text -/
def dig (n : Nat) : List Nat := (Nat.toDigits 10 n).map Char.toNat
def dval (cs : List Nat) : Nat := cs.foldl (fun acc c => acc * 10 + (c - 48)) 0
theorem digitChar_nat : ∀ d : Nat, d < 10 → (Nat.digitChar d).toNat = 48 + d := by decide
theorem dig_lt {n : Nat} (h : n < 10) : dig n = [48 + n] := by
  unfold dig
  rw [Nat.toDigits_of_lt_base h, List.map_cons, List.map_nil, digitChar_nat n h]
theorem dig_ge {n : Nat} (h : 10 ≤ n) : dig n = dig (n / 10) ++ [48 + n % 10] := by
  unfold dig
  rw [Nat.toDigits_of_base_le (by decide) h, List.map_append, List.map_cons, List.map_nil, digitChar_nat _ (Nat.mod_lt _ (by decide))]
def pad4 (n : Nat) : List Nat := [48 + n / 1000, 48 + n / 100 % 10, 48 + n / 10 % 10, 48 + n % 10]
theorem pad4_eq {n : Nat} (h : n < 10000) : List.replicate (4 - (dig n).length) 48 ++ dig n = pad4 n := by
  unfold pad4
  by_cases h1 : n < 10
  · rw [dig_lt h1]
    simp; omega
  · by_cases h2 : n < 100
    · rw [dig_ge (by omega), dig_lt (by omega)]
      simp; omega
    · by_cases h3 : n < 1000
      · rw [dig_ge (by omega), dig_ge (n := n / 10) (by omega), dig_lt (by omega)]
        simp; omega
      · rw [dig_ge (by omega), dig_ge (n := n / 10) (by omega), dig_ge (n := n / 10 / 10) (by omega), dig_lt (by omega)]
        simp; omega
theorem dig_big {q r : Nat} (hq : 0 < q) (hr : r < 10000) : dig (q * 10000 + r) = dig q ++ pad4 r := by
  rw [dig_ge (by omega), dig_ge (n := (q * 10000 + r) / 10) (by omega), dig_ge (n := (q * 10000 + r) / 10 / 10) (by omega), dig_ge (n := (q * 10000 + r) / 10 / 10 / 10) (by omega)]
  have e : (q * 10000 + r) / 10 / 10 / 10 / 10 = q := by omega
  rw [e]
  unfold pad4
  simp only [List.append_assoc, List.cons_append, List.nil_append]
  congr 2
  · omega
  · congr 1
    · omega
    · congr 1
      · omega
      · congr 1; omega
theorem dval_foldl (cs : List Nat) : ∀ a : Nat, cs.foldl (fun acc c => acc * 10 + (c - 48)) a = a * 10 ^ cs.length + dval cs := by
  unfold dval
  induction cs with
  | nil => intro a; simp
  | cons c r ih =>
    intro a
    rw [List.foldl_cons, ih, List.foldl_cons, ih (0 * 10 + (c - 48)), List.length_cons, Nat.pow_succ, Nat.add_mul, Nat.zero_mul, Nat.zero_add, Nat.mul_assoc, Nat.mul_comm 10]
    omega
theorem dval_append (a b : List Nat) : dval (a ++ b) = dval a * 10 ^ b.length + dval b := by
  rw [← dval_foldl b (dval a)]
  unfold dval
  rw [List.foldl_append]
theorem dig_digits (n : Nat) : ∀ c ∈ dig n, 48 ≤ c ∧ c ≤ 57 := by
  induction n using Nat.strongRecOn with
  | _ n ih =>
    by_cases h : n < 10
    · rw [dig_lt h]; intro c hc; simp at hc; omega
    · rw [dig_ge (by omega)]
      intro c hc
      rcases List.mem_append.mp hc with hc | hc
      · exact ih (n / 10) (by omega) c hc
      · simp at hc; omega
theorem dig_ne (n : Nat) : dig n ≠ [] := by
  by_cases h : n < 10
  · rw [dig_lt h]; simp
  · rw [dig_ge (by omega)]; simp
theorem dval_dig (n : Nat) : dval (dig n) = n := by
  induction n using Nat.strongRecOn with
  | _ n ih =>
    by_cases h : n < 10
    · rw [dig_lt h]; simp [dval]
    · rw [dig_ge (by omega), dval_append, ih (n / 10) (by omega)]
      simp [dval]; omega
theorem dval_lt : ∀ cs : List Nat, (∀ c ∈ cs, 48 ≤ c ∧ c ≤ 57) → dval cs < 10 ^ cs.length := by
  intro cs
  induction cs with
  | nil => intro _; decide
  | cons c r ih =>
    intro h
    have h1 := h c (.head _)
    have h2 := ih fun x hx => h x (.tail _ hx)
    have e : dval (c :: r) = (c - 48) * 10 ^ r.length + dval r := by
      have := dval_append [c] r
      simpa [dval] using this
    rw [e, List.length_cons, Nat.pow_succ]
    have : (c - 48) * 10 ^ r.length ≤ 9 * 10 ^ r.length := Nat.mul_le_mul_right _ (by omega)
    omega
theorem dig_len_of {n k : Nat} (hk : 0 < k) (h : n < 10 ^ k) : (dig n).length ≤ k := by
  unfold dig
  rw [List.length_map]
  exact (Nat.length_toDigits_le_iff (by decide) hk).mpr h
/-- the chunks of four signs, from the low end -/
def chunks (cs : List Nat) : List Int := if h : cs = [] then [] else ((dval (cs.drop (cs.length - 4)) : Nat) : Int) :: chunks (cs.take (cs.length - 4))
termination_by cs.length
decreasing_by
  have : 0 < cs.length := List.length_pos_iff.mpr h
  rw [List.length_take]; omega
theorem chunks_nil : chunks [] = [] := by rw [chunks]; rfl
theorem chunks_ne {cs : List Nat} (h : cs ≠ []) : chunks cs = ((dval (cs.drop (cs.length - 4)) : Nat) : Int) :: chunks (cs.take (cs.length - 4)) := by
  rw [chunks, dif_neg h]
theorem val_cast_chunks : ∀ k : Nat, ∀ cs : List Nat, cs.length ≤ k → val (chunks cs) = ((dval cs : Nat) : Int) := by
  intro k
  induction k with
  | zero => intro cs h; have : cs = [] := List.length_eq_zero_iff.mp (by omega); subst this; rw [chunks_nil]; rfl
  | succ k ih =>
    intro cs h
    by_cases hc : cs = []
    · subst hc; rw [chunks_nil]; rfl
    · have hp : 0 < cs.length := List.length_pos_iff.mpr hc
      rw [chunks_ne hc, val, ih _ (by rw [List.length_take]; omega)]
      have e := dval_append (cs.take (cs.length - 4)) (cs.drop (cs.length - 4))
      rw [List.take_append_drop] at e
      by_cases h4 : 4 ≤ cs.length
      · have hl : (cs.drop (cs.length - 4)).length = 4 := by rw [List.length_drop]; omega
        rw [e, hl]; omega
      · have e0 : cs.length - 4 = 0 := by omega
        rw [e0] at e ⊢
        rw [e]
        simp [dval]
theorem val_chunks (cs : List Nat) : val (chunks cs) = ((dval cs : Nat) : Int) := val_cast_chunks _ cs (Nat.le_refl _)
theorem chunks_range : ∀ k : Nat, ∀ cs : List Nat, cs.length ≤ k → (∀ c ∈ cs, 48 ≤ c ∧ c ≤ 57) → ∀ x ∈ chunks cs, 0 ≤ x ∧ x ≤ 9999 := by
  intro k
  induction k with
  | zero => intro cs h _; have : cs = [] := List.length_eq_zero_iff.mp (by omega); subst this; rw [chunks_nil]; intro x hx; cases hx
  | succ k ih =>
    intro cs h hd
    by_cases hc : cs = []
    · subst hc; rw [chunks_nil]; intro x hx; cases hx
    · have hp : 0 < cs.length := List.length_pos_iff.mpr hc
      rw [chunks_ne hc]
      intro x hx
      rcases List.mem_cons.mp hx with rfl | hx
      · have h1 := dval_lt (cs.drop (cs.length - 4)) fun c hc => hd c (List.mem_of_mem_drop hc)
        have h2 : 10 ^ (cs.drop (cs.length - 4)).length ≤ 10 ^ 4 := Nat.pow_le_pow_right (by decide) (by rw [List.length_drop]; omega)
        omega
      · exact ih _ (by rw [List.length_take]; omega) (fun c hc => hd c (List.mem_of_mem_take hc)) x hx
theorem chunks_ok (cs : List Nat) (h : ∀ c ∈ cs, 48 ≤ c ∧ c ≤ 57) : ∀ x ∈ chunks cs, 0 ≤ x ∧ x ≤ 9999 := chunks_range _ cs (Nat.le_refl _) h
theorem val_take_zero {l : List Int} {n : Nat} (h : n < l.length) (h0 : l.getD n 0 = 0) : val (l.take n) = val (l.take (n + 1)) := by
  have e : l.take (n + 1) = l.take n ++ [l[n]] := List.take_succ_eq_append_getElem h
  have e0 : l[n] = 0 := by simpa [List.getD, h] using h0
  rw [e, val_append, e0]
  simp [val]
theorem trim_nf {l : List Int} {n : Nat} (hr : ∀ x ∈ l, 0 ≤ x ∧ x ≤ 9999) (hn : n ≤ l.length) (h : n = 0 ∨ l.getD (n - 1) 0 ≠ 0) : Nf (l.take n) := by
  refine ⟨fun x hx => hr x (List.mem_of_mem_take hx), fun hne => ?_⟩
  have hn0 : n ≠ 0 := by intro h0; subst h0; simp at hne
  rcases h with h | h
  · exact absurd h hn0
  · have hlt : n - 1 < l.length := by omega
    have e : (l.take n).getLast hne = l[n - 1] := by
      rw [List.getLast_eq_getElem]
      simp only [List.length_take, Nat.min_eq_left hn, List.getElem_take]
    rw [e]
    simpa [List.getD, hlt] using h
theorem trim_is {l : List Int} {n : Nat} (hr : ∀ x ∈ l, 0 ≤ x ∧ x ≤ 9999) (hn : n ≤ l.length) (h : n = 0 ∨ l.getD (n - 1) 0 ≠ 0) (hv : val (l.take n) = val l) : l.take n = limbs (val l) := by
  rw [← hv]; exact (limbs_val (trim_nf hr hn h)).symm
/-- the text of limbs, low end first -/
def textOf : List Int → List Nat
  | [] => []
  | [a] => dig a.toNat
  | a :: b :: r => textOf (b :: r) ++ pad4 a.toNat
theorem textOf_val : ∀ {l : List Int}, Nf l → l ≠ [] → textOf l = dig (val l).toNat
  | [], _, h => absurd rfl h
  | [a], _, _ => by simp [textOf, val]
  | a :: b :: r, h, _ => by
    have h1 := h.1 a (.head _)
    have hp := val_pos_of_nf h.tail (by simp)
    rw [textOf, textOf_val h.tail (by simp)]
    have e : (val (a :: b :: r)).toNat = (val (b :: r)).toNat * 10000 + a.toNat := by
      rw [val]; omega
    rw [e, dig_big (by omega) (by omega)]
/-- order -/
theorem limbs_len_mono (n : Int) : ∀ m : Int, n ≤ m → (limbs n).length ≤ (limbs m).length := by
  induction n using limbs_ind with
  | h0 n h => intro m _; rw [limbs_nonpos h]; simp
  | h1 n h ih =>
    intro m hm
    rw [limbs_pos h, limbs_pos (show 0 < m by omega), List.length_cons, List.length_cons]
    have := ih (m / 10000) (by omega)
    omega
theorem lt_of_len {m n : Int} (h : (limbs m).length < (limbs n).length) : m < n := by
  by_cases h' : m < n
  · exact h'
  · have := limbs_len_mono n m (by omega); omega
theorem val_lt_at : ∀ {a b : List Int} {i : Nat}, a.length = b.length → (∀ x ∈ a, 0 ≤ x ∧ x ≤ 9999) → (∀ x ∈ b, 0 ≤ x ∧ x ≤ 9999) → a.getD i 0 < b.getD i 0 → (∀ j, i < j → j < a.length → a.getD j 0 = b.getD j 0) → val a < val b
  | [], [], i, _, _, _, h, _ => by simp at h
  | [], y :: t, _, hl, _, _, _, _ => by simp at hl
  | x :: r, [], _, hl, _, _, _, _ => by simp at hl
  | x :: r, y :: t, 0, hl, ha, hb, h, he => by
    have e : r = t := by
      apply List.ext_getElem (by simpa using hl)
      intro j h1 h2
      have := he (j + 1) (by omega) (by rw [List.length_cons]; omega)
      simpa [List.getD, h1, h2] using this
    subst e
    simp at h
    rw [val, val]; omega
  | x :: r, y :: t, i + 1, hl, ha, hb, h, he => by
    have h1 := val_lt_at (a := r) (b := t) (i := i) (by simpa using hl) (fun z hz => ha z (.tail _ hz)) (fun z hz => hb z (.tail _ hz)) (by simpa [List.getD] using h) (fun j hj hj2 => by
      have := he (j + 1) (by omega) (by rw [List.length_cons]; omega)
      simpa [List.getD] using this)
    have h2 := ha x (.head _)
    have h3 := hb y (.head _)
    rw [val, val]; omega
theorem eq_of_getD {a b : List Int} (hl : a.length = b.length) (h : ∀ j, j < a.length → a.getD j 0 = b.getD j 0) : a = b := by
  apply List.ext_getElem hl
  intro j h1 h2
  have := h j h1
  simpa [List.getD, h1, h2] using this
theorem limbs_inj {m n : Int} (hm : 0 ≤ m) (hn : 0 ≤ n) (h : limbs m = limbs n) : m = n := by
  rw [← val_limbs m hm, ← val_limbs n hn, h]
end Mine

open PySem PySem.W PyProof.Rows
namespace Mine
/-- from_int's loop: what is laid out and what is still to come -/
structure Fi (n0 n : Int) (ls : List Int) : Prop where
  eq : ls ++ limbs n = limbs n0
theorem Fi.start {n : Int} : Fi n n [] := ⟨rfl⟩
theorem Fi.turn {n0 n : Int} {ls : List Int} (h : Fi n0 n ls) (hn : 0 < n) : Fi n0 (n.fdiv 10000) (ls ++ [n.fmod 10000]) := by
  rw [Int.fdiv_eq_ediv_of_nonneg _ (by decide), Int.fmod_eq_emod_of_nonneg _ (by decide)]
  exact ⟨limbs_turn h.eq hn⟩
theorem Fi.done {n0 n : Int} {ls : List Int} (h : Fi n0 n ls) (hn : ¬ 0 < n) : ls = limbs n0 := limbs_done h.eq (by omega)
theorem Fi.less {n : Int} (hn : 0 < n) : (n.fdiv 10000).toNat < n.toNat := by
  rw [Int.fdiv_eq_ediv_of_nonneg _ (by decide)]; omega
theorem Fi.len {n0 n : Int} {ls : List Int} {k : Nat} (h : Fi n0 n ls) (hn : 0 < n) (hb : n0 < 10000 ^ k) : (ls ++ [n.fmod 10000]).length ≤ k := by
  have h1 := limbs_len k n0 hb
  have h2 := (h.turn hn).eq
  rw [← h2, List.length_append] at h1
  omega
/-- few enough limbs -/
structure Cap (k : Nat) (n : Int) : Prop where
  lt : n < 10000 ^ k
end Mine

namespace Mine
/-- M is that power: kept shut, so that no closer writes it out -/
structure IsPow (b : Int) (e : Nat) (M : Int) : Prop where
  eq : M = b ^ e
theorem IsPow.pos {b : Int} {e : Nat} {M : Int} (h : IsPow b e M) (hb : 0 < b) : 0 < M := by
  rw [h.eq]; exact Int.pow_pos hb
theorem pow_up (a b : Nat) (h : a ≤ b) : (10000 : Int) ^ a ≤ 10000 ^ b := by
  obtain ⟨c, rfl⟩ := Nat.le.dest h
  rw [Int.pow_add]
  have h1 : (0 : Int) < 10000 ^ a := Int.pow_pos (by decide)
  have h2 : (0 : Int) < 10000 ^ c := Int.pow_pos (by decide)
  have h3 := Int.mul_le_mul_of_nonneg_left (show (1 : Int) ≤ 10000 ^ c by omega) (Int.le_of_lt h1)
  omega
theorem IsPow.le {e M : Int} {k : Nat} (h : IsPow 10000 e.toNat M) (he : e ≤ (k : Int)) : M ≤ 10000 ^ k := by
  rw [h.eq]
  exact pow_up _ _ (by omega)
section
variable {prog : Program} {w : World} {A : Around} {E : Value → Shared → Prop} {s : Shared} {t u : Tok} {Q : Value → Shared → Prop}
theorem pow_shut {b n : Int} (hb : 0 < b) (hb2 : b.natAbs < 2 ^ 64) (hn : 0 ≤ n) (hn2 : n ≤ 1000000) (h : ∀ M, IsPow b n.toNat M → 0 < M → Q (.int M s.toks) { s with toks := s.toks + 1 }) :
    wpAny (model prog w) A (binaryOp .Pow (.int b t) (.int n u)) Q E s :=
  pow_int_small hn hn2 hb2 (h _ ⟨rfl⟩ (Int.pow_pos hb))
end
end Mine

namespace Mine
/-- n is spelt by so many limbs, taken from the top -/
structure Acc (p : Nat) (n : Int) : Prop where
  lo : 0 ≤ n
  hi : n < 10000 ^ p
theorem Acc.start : Acc ([] : List Int).length 0 := ⟨by decide, by decide⟩
theorem Acc.turn {p : List Int} {n c k : Int} (h : Acc p.length n) : Acc (p ++ [k]).length (n * 10000 + c.fmod 10000) := by
  have h1 := fmod_lo c (n := 10000) (by decide)
  have h2 := fmod_hi c (n := 10000) (by decide)
  obtain ⟨h3, h4⟩ := h
  refine ⟨by omega, ?_⟩
  rw [List.length_append, List.length_cons, List.length_nil, Int.pow_succ]
  omega
theorem Acc.le {p : Nat} {n : Int} (h : Acc p n) (k : Nat) (hp : p ≤ k) : n < 10000 ^ k := Int.lt_of_lt_of_le h.hi (pow_up p k hp)
theorem Acc.cap {p : Nat} {n : Int} (h : Acc p n) {k : Nat} (hp : p ≤ k) : Cap k n := ⟨h.le k hp⟩
theorem Acc.bits {p : Nat} {n : Int} (h : Acc p n) (hp : p ≤ 4) : PySem.Builtin.Int.intBits n ≤ 64 := by
  have h1 := h.le 4 hp
  have h2 := h.lo
  have e : (10000 : Int) ^ 4 = 10000000000000000 := by decide
  exact PySem.intBits_le_64 (by omega) (by omega)
end Mine

namespace Mine
/-- the ways of a statement meet: x holds an int of which Good is known, all else stands -/
structure JoinP (x : Str) (Good : Int → Prop) (h₀ : Heap) (L : Addr) (m : Str → Option Value) (news : List (Addr × Obj)) (s : Shared) (f : Flow) (s' : Shared) : Prop where
  next : f = .next
  here : ∃ (r : Int) (t : Tok) (h : Heap) (tk : Nat), Good r ∧ s' = { s with heap := h, toks := tk } ∧ Fr h₀ L h (fun y => if y = x then some (.int r t) else m y) ∧ News h₀ L h news
/-- we are within such a statement -/
structure InJoin : Prop where
structure JoinK (P : Prop) : Prop where
  out : P
section
variable {M : Model} {A : Around} {E : Value → Shared → Prop} {s : Shared} {env : Env} {h₀ : Heap} {L : Addr} {m : Str → Option Value} {news : List (Addr × Obj)} {Q : Flow → Shared → Prop} {st : Stmt}
theorem JoinP.mk' {x : Str} {Good : Int → Prop} {r : Int} {t : Tok} {h : Heap} {tk : Nat} (F : Fr h₀ L h (fun y => if y = x then some (.int r t) else m y)) (N : News h₀ L h news) (g : Good r) :
    JoinP x Good h₀ L m news s .next { s with heap := h, toks := tk } := ⟨rfl, r, t, h, tk, g, rfl, F, N⟩
theorem join_if (x : Str) (Good : Int → Prop) (_F : Fr h₀ L s.heap m) (_N : News h₀ L s.heap news)
    (h1 : InJoin → wpAny M A (exec st env) (fun f s₃ => JoinP x Good h₀ L m news s f s₃) E s)
    (h2 : JoinK (∀ (r : Int) (t : Tok) (h : Heap) (tk : Nat), Good r → Fr h₀ L h (fun y => if y = x then some (.int r t) else m y) → News h₀ L h news → Q .next { s with heap := h, toks := tk })) :
    wpAny M A (exec st env) Q E s := by
  refine wpAny_mono (h1 ⟨⟩) (fun f s₃ hf => ?_) fun _ _ h => h
  obtain ⟨hf, r, t, h, tk, g, e, F, N⟩ := hf
  subst hf
  subst e
  exact h2.out r t h tk g F N
/-- the ways of a statement meet where it stores nothing -/
structure JoinS (h₀ : Heap) (L : Addr) (m : Str → Option Value) (news : List (Addr × Obj)) (s : Shared) (f : Flow) (s' : Shared) : Prop where
  next : f = .next
  here : ∃ (h : Heap) (tk : Nat), s' = { s with heap := h, toks := tk } ∧ Fr h₀ L h m ∧ News h₀ L h news
theorem JoinS.mk' {h : Heap} {tk : Nat} (F : Fr h₀ L h m) (N : News h₀ L h news) : JoinS h₀ L m news s .next { s with heap := h, toks := tk } := ⟨rfl, h, tk, rfl, F, N⟩
theorem join_stmt (_F : Fr h₀ L s.heap m) (_N : News h₀ L s.heap news)
    (h1 : InJoin → wpAny M A (exec st env) (fun f s₃ => JoinS h₀ L m news s f s₃) E s)
    (h2 : JoinK (∀ (h : Heap) (tk : Nat), Fr h₀ L h m → News h₀ L h news → Q .next { s with heap := h, toks := tk })) :
    wpAny M A (exec st env) Q E s := by
  refine wpAny_mono (h1 ⟨⟩) (fun f s₃ hf => ?_) fun _ _ h => h
  obtain ⟨hf, h, tk, e, F, N⟩ := hf
  subst hf
  subst e
  exact h2.out h tk F N
theorem frame_same {x : Str} {v : Value} {h : Heap} (hm : m x = some v) (F : Fr h₀ L h m) : Fr h₀ L h (fun y => if y = x then some v else m y) := by
  have e : (fun y => if y = x then some v else m y) = m := by
    funext y
    by_cases hy : y = x
    · rw [if_pos hy, hy, hm]
    · rw [if_neg hy]
  rw [e]; exact F
theorem JoinP.same {x : Str} {Good : Int → Prop} {r : Int} {t : Tok} {h : Heap} {tk : Nat} (F : Fr h₀ L h m) (hm : m x = some (.int r t)) (N : News h₀ L h news) (g : Good r) :
    JoinP x Good h₀ L m news s .next { s with heap := h, toks := tk } := ⟨rfl, r, t, h, tk, g, rfl, frame_same hm F, N⟩
/-- the ways of a statement meet: x holds a list of ints of which Good is known -/
structure JoinL (x : Str) (Good : List Int → Prop) (h₀ : Heap) (L : Addr) (m : Str → Option Value) (news : List (Addr × Obj)) (s : Shared) (f : Flow) (s' : Shared) : Prop where
  next : f = .next
  here : ∃ (a : Addr) (us : List Value) (ns : List Int) (c : Nat) (h : Heap) (tk : Nat), Good ns ∧ IntsAre us ns ∧ s' = { s with heap := h, toks := tk } ∧ Fr h₀ L h (fun y => if y = x then some (.ref a) else m y) ∧ News h₀ L h ((a, W.listOf us.toArray c) :: news)
theorem news_cons {h : Heap} {news' : List (Addr × Obj)} {p : Addr × Obj} (N : News h₀ L h news') (hp : p ∈ news') (hs : ∀ q ∈ news, q ∈ news') : News h₀ L h (p :: news) := fun q hq => by
  rcases List.mem_cons.mp hq with e | hq
  · rw [e]; exact N p hp
  · exact N q (hs q hq)
theorem JoinL.mk' {x : Str} {Good : List Int → Prop} {a : Addr} {us : List Value} {ns : List Int} {c : Nat} {h : Heap} {tk : Nat} {news' : List (Addr × Obj)} (F : Fr h₀ L h (fun y => if y = x then some (.ref a) else m y)) (N : News h₀ L h news') (hs : ∀ q ∈ news, q ∈ news') (hp : (a, W.listOf us.toArray c) ∈ news') (hi : IntsAre us ns) (g : Good ns) :
    JoinL x Good h₀ L m news s .next { s with heap := h, toks := tk } := ⟨rfl, a, us, ns, c, h, tk, g, hi, rfl, F, news_cons N hp hs⟩
theorem JoinL.same {x : Str} {Good : List Int → Prop} {a : Addr} {us : List Value} {ns : List Int} {c : Nat} {h : Heap} {tk : Nat} {news' : List (Addr × Obj)} (F : Fr h₀ L h m) (hm : m x = some (.ref a)) (N : News h₀ L h news') (hs : ∀ q ∈ news, q ∈ news') (hp : (a, W.listOf us.toArray c) ∈ news') (hi : IntsAre us ns) (g : Good ns) :
    JoinL x Good h₀ L m news s .next { s with heap := h, toks := tk } := ⟨rfl, a, us, ns, c, h, tk, g, hi, rfl, frame_same hm F, news_cons N hp hs⟩
theorem join_list (x : Str) (Good : List Int → Prop) (_F : Fr h₀ L s.heap m) (_N : News h₀ L s.heap news)
    (h1 : InJoin → wpAny M A (exec st env) (fun f s₃ => JoinL x Good h₀ L m news s f s₃) E s)
    (h2 : JoinK (∀ (a : Addr) (us : List Value) (ns : List Int) (c : Nat) (h : Heap) (tk : Nat), Good ns → IntsAre us ns → Fr h₀ L h (fun y => if y = x then some (.ref a) else m y) → News h₀ L h ((a, W.listOf us.toArray c) :: news) → Q .next { s with heap := h, toks := tk })) :
    wpAny M A (exec st env) Q E s := by
  refine wpAny_mono (h1 ⟨⟩) (fun f s₃ hf => ?_) fun _ _ h => h
  obtain ⟨hf, a, us, ns, c, h, tk, g, hi, e, F, N⟩ := hf
  subst hf
  subst e
  exact h2.out a us ns c h tk g hi F N
/-- the ways of a statement meet: x holds a bool of which Good is known -/
structure JoinB (x : Str) (Good : Bool → Prop) (h₀ : Heap) (L : Addr) (m : Str → Option Value) (news : List (Addr × Obj)) (s : Shared) (f : Flow) (s' : Shared) : Prop where
  next : f = .next
  here : ∃ (b : Bool) (h : Heap) (tk : Nat), Good b ∧ s' = { s with heap := h, toks := tk } ∧ Fr h₀ L h (fun y => if y = x then some (.bool b) else m y) ∧ News h₀ L h news
theorem JoinB.mk' {x : Str} {Good : Bool → Prop} {b : Bool} {h : Heap} {tk : Nat} (F : Fr h₀ L h (fun y => if y = x then some (.bool b) else m y)) (N : News h₀ L h news) (g : Good b) :
    JoinB x Good h₀ L m news s .next { s with heap := h, toks := tk } := ⟨rfl, b, h, tk, g, rfl, F, N⟩
theorem JoinB.same {x : Str} {Good : Bool → Prop} {b : Bool} {h : Heap} {tk : Nat} (F : Fr h₀ L h m) (hm : m x = some (.bool b)) (N : News h₀ L h news) (g : Good b) :
    JoinB x Good h₀ L m news s .next { s with heap := h, toks := tk } := ⟨rfl, b, h, tk, g, rfl, frame_same hm F, N⟩
theorem join_bool (x : Str) (Good : Bool → Prop) (_F : Fr h₀ L s.heap m) (_N : News h₀ L s.heap news)
    (h1 : InJoin → wpAny M A (exec st env) (fun f s₃ => JoinB x Good h₀ L m news s f s₃) E s)
    (h2 : JoinK (∀ (b : Bool) (h : Heap) (tk : Nat), Good b → Fr h₀ L h (fun y => if y = x then some (.bool b) else m y) → News h₀ L h news → Q .next { s with heap := h, toks := tk })) :
    wpAny M A (exec st env) Q E s := by
  refine wpAny_mono (h1 ⟨⟩) (fun f s₃ hf => ?_) fun _ _ h => h
  obtain ⟨hf, b, h, tk, g, e, F, N⟩ := hf
  subst hf
  subst e
  exact h2.out b h tk g F N
end
end Mine

namespace Mine
theorem str_ext {a b : Str} (h : a.cps.toList = b.cps.toList) : a = b := by
  cases a; cases b
  simp only [Str.mk.injEq]
  exact Array.toList_inj.mp h
theorem cps_app (a b : Str) : (a ++ b).cps.toList = a.cps.toList ++ b.cps.toList := by
  rw [Str.cps_append, Array.toList_append]
theorem cps_of (s : String) : (Str.ofString s).cps.toList = s.toList.map Char.toNat := by
  simp only [Str.ofString_eq_toList, List.toList_toArray]
theorem cps_nat (m : Nat) : (Str.ofString (toString ((m : Nat) : Int))).cps.toList = dig m := by
  rw [cps_of]
  show (Nat.repr m).toList.map Char.toNat = _
  rw [Nat.toList_repr]; rfl
theorem cps_num {n : Int} (h : 0 ≤ n) : (Str.ofString (toString n)).cps.toList = dig n.toNat := by
  obtain ⟨m, rfl⟩ := Int.eq_ofNat_of_zero_le h
  exact cps_nat m
theorem cps_neg {n : Int} (h : n < 0) : (Str.ofString (toString n)).cps.toList = 45 :: dig (-n).toNat := by
  obtain ⟨m, rfl⟩ : ∃ m : Nat, n = Int.negSucc m := by
    cases n with
    | ofNat k => exact absurd h (by simp)
    | negSucc m => exact ⟨m, rfl⟩
  rw [cps_of]
  show (("-" ++ Nat.repr (m + 1)) : String).toList.map Char.toNat = _
  rw [String.toList_append, List.map_append, Nat.toList_repr]
  rfl
theorem len_cps (x : Str) : x.length = x.cps.toList.length := Array.length_toList.symm
theorem cps_pad (x : Str) (k : Nat) : (Builtin.Str.padded x k 0 48).cps.toList = List.replicate k 48 ++ x.cps.toList := by
  unfold Builtin.Str.padded
  simp
theorem zf {n : Int} (h0 : 0 ≤ n) (h1 : n ≤ 9999) : (Txt.zfill (Str.ofString (toString n)) 4).cps.toList = pad4 n.toNat := by
  have e := cps_num h0
  rw [← pad4_eq (show n.toNat < 10000 by omega), ← e]
  have el := len_cps (Str.ofString (toString n))
  generalize hx : Str.ofString (toString n) = x at *
  unfold Txt.zfill
  by_cases h : (4 : Int) ≤ x.length
  · rw [if_pos h]
    have : 4 - x.cps.toList.length = 0 := by omega
    rw [this]; rfl
  · rw [if_neg h]
    have hz : zfilled x ((4 : Int).toNat - x.length) = Builtin.Str.padded x ((4 : Int).toNat - x.length) 0 48 := by
      unfold zfilled
      have hc : ∀ c, x.cps[0]? = some c → 48 ≤ c := by
        intro c hc
        have : c ∈ x.cps.toList := by
          rw [← Array.getElem?_toList] at hc
          exact List.mem_of_getElem? hc
        rw [e] at this
        exact (dig_digits _ c this).1
      split
      · rename_i hc'; exact absurd (hc _ hc') (by decide)
      · rename_i hc'; exact absurd (hc _ hc') (by decide)
      · rfl
    rw [hz, cps_pad, el]
    rfl
theorem join_cps (ys : List Str) : (Txt.join (Str.ofString "") ys).cps.toList = ys.flatMap (·.cps.toList) := by
  have e : Txt.join (Str.ofString "") ys = Str.join (Str.ofString "") ys := StrLaws.glued_eq_join _ _
  rw [e]
  have z : (Str.ofString "").cps.toList = [] := by rw [cps_of]; rfl
  have hj : ∀ ys : List Str, (Str.join (Str.ofString "") ys).cps.toList = ys.flatMap (·.cps.toList) := by
    intro ys
    induction ys with
    | nil => rfl
    | cons x r ih =>
      cases r with
      | nil => simp [Str.join]
      | cons y t =>
        rw [Str.join, cps_app, cps_app, z, ih, List.flatMap_cons]
        · simp
        · simp
  exact hj ys
/-- to_decimal's pieces: what the top part of a spells -/
structure Pieces (a pre : List Int) (ps : List Str) : Prop where
  eq : ps.flatMap (·.cps.toList) = textOf (a.drop (a.length - 1 - pre.length))
  w : (ps.map (·.length)).sum ≤ 4 * ps.length
theorem num_len {n : Int} (h0 : 0 ≤ n) (h1 : n ≤ 9999) : (Str.ofString (toString n)).length ≤ 4 := by
  rw [len_cps, cps_num h0]
  exact dig_len_of (by decide) (by omega)
theorem zf_len {n : Int} (h0 : 0 ≤ n) (h1 : n ≤ 9999) : (Txt.zfill (Str.ofString (toString n)) 4).length = 4 := by
  rw [len_cps, zf h0 h1]; rfl
theorem Pieces.start {a : List Int} {x : Int} (hx : x = a.getD ((a.length : Int) - 1).toNat 0) (hl : 0 < a.length) (h0 : 0 ≤ x) (h1 : x ≤ 9999) : Pieces a [] [Str.ofString (toString x)] := by
  refine ⟨?_, by simpa using num_len h0 h1⟩
  have e : a.length - 1 - ([] : List Int).length = a.length - 1 := by simp
  rw [e]
  have hlt : a.length - 1 < a.length := by omega
  rw [List.drop_eq_getElem_cons hlt]
  have e2 : a.length - 1 + 1 = a.length := by omega
  rw [e2, List.drop_length, textOf]
  have e3 : x = a[a.length - 1] := by
    rw [hx]
    have : ((a.length : Int) - 1).toNat = a.length - 1 := by omega
    rw [this]; simp [List.getD, hlt]
  rw [← e3, List.flatMap_cons, List.flatMap_nil, List.append_nil, cps_num h0]
theorem Pieces.turn {a pre : List Int} {ps : List Str} {k : Int} (h : Pieces a pre ps) (hk : k = (a.length : Int) - 2 - (pre.length : Int)) (hlt : 0 ≤ k) (h0 : 0 ≤ a.getD k.toNat 0) (h1 : a.getD k.toNat 0 ≤ 9999) : Pieces a (pre ++ [k]) (ps ++ [Txt.zfill (Str.ofString (toString (a.getD k.toNat 0))) 4]) := by
  have hl : k.toNat < a.length := by omega
  refine ⟨?_, by
    have hw := h.w
    have hz := zf_len h0 h1
    rw [List.map_append, List.sum_append, List.length_append, List.map_cons, List.map_nil, List.sum_cons, List.sum_nil, hz, List.length_cons, List.length_nil]
    omega⟩
  rw [List.flatMap_append, h.eq, List.length_append, List.length_cons, List.length_nil]
  have e : a.length - 1 - (pre.length + (0 + 1)) = k.toNat := by omega
  have e1 : a.length - 1 - pre.length = k.toNat + 1 := by omega
  rw [e, e1, List.drop_eq_getElem_cons hl]
  have hl2 : k.toNat + 1 < a.length := by omega
  have e4 : a.getD k.toNat 0 = a[k.toNat] := by simp [List.getD, hl]
  rw [List.drop_eq_getElem_cons hl2, textOf, ← List.drop_eq_getElem_cons hl2, ← e4, List.flatMap_cons, List.flatMap_nil, List.append_nil, zf h0 h1]
theorem Pieces.done {a p : List Int} {ps : List Str} (h : Pieces a p ps) (hp : a.length ≤ p.length + 1) : (Txt.join (Str.ofString "") ps).cps.toList = textOf a := by
  rw [join_cps, h.eq]
  have : a.length - 1 - p.length = 0 := by omega
  rw [this, List.drop_zero]
theorem Pieces.weight {a p : List Int} {ps : List Str} (h : Pieces a p ps) (hp : ps.length ≤ 1000) : (ps.map (·.length)).sum + ps.length ≤ 1048576 := by
  have := h.w
  omega
theorem join_len (ps : List Str) : (Txt.join (Str.ofString "") ps).length = (ps.map (·.length)).sum := by
  rw [len_cps, join_cps, List.length_flatMap]
  congr 1
theorem Pieces.minus {a p : List Int} {ps : List Str} (h : Pieces a p ps) (hp : ps.length ≤ 1000) : (Str.ofString "-").length + (Txt.join (Str.ofString "") ps).length ≤ sizeLine := by
  have h1 := h.w
  have h2 : (Str.ofString "-").length = 1 := by decide
  rw [join_len, h2, PySem.sizeLine_eq]
  omega
end Mine

namespace Mine
/-- from_decimal's loop: the chunks laid out, and those still to come -/
structure Ch (s : Str) (e : Int) (ls : List Int) : Prop where
  eq : ls ++ chunks (s.cps.toList.take e.toNat) = chunks s.cps.toList
theorem Ch.start {s : Str} : Ch s (s.length : Int) [] := by
  refine ⟨?_⟩
  rw [len_cps, Int.toNat_natCast, List.take_length]; rfl
theorem Ch.turn {s : Str} {e v : Int} {ls : List Int} (h : Ch s e ls) (h0 : 0 < e) (h1 : e ≤ (s.length : Int)) (hv : v = ((dval ((s.cps.toList.take e.toNat).drop (e.toNat - 4)) : Nat) : Int)) : Ch s (e - 4) (ls ++ [v]) := by
  refine ⟨?_⟩
  rw [len_cps] at h1
  have hl : (s.cps.toList.take e.toNat).length = e.toNat := by rw [List.length_take]; omega
  have hne : s.cps.toList.take e.toNat ≠ [] := by
    intro hz
    rw [hz] at hl
    simp at hl
    omega
  have h2 := chunks_ne hne
  rw [hl, List.take_take] at h2
  have e1 : min (e.toNat - 4) e.toNat = (e - 4).toNat := by omega
  rw [e1, ← hv] at h2
  rw [← h.eq, h2]; simp
theorem Ch.done {s : Str} {e : Int} {ls : List Int} (h : Ch s e ls) (h0 : ¬ 0 < e) : ls = chunks s.cps.toList := by
  have e1 : e.toNat = 0 := by omega
  have := h.eq
  rw [e1, List.take_zero, chunks_nil, List.append_nil] at this
  exact this
/-- trimmed's loop -/
structure Trim (a : List Int) (n : Int) : Prop where
  eq : val (a.take n.toNat) = val a
theorem Trim.start {a : List Int} : Trim a (a.length : Int) := ⟨by rw [Int.toNat_natCast, List.take_length]⟩
theorem Trim.turn {a : List Int} {n : Int} (h : Trim a n) (h0 : 0 < n) (h1 : n ≤ (a.length : Int)) (hz : a.getD (n - 1).toNat 0 = 0) : Trim a (n - 1) := by
  refine ⟨?_⟩
  have e : n.toNat = (n - 1).toNat + 1 := by omega
  rw [val_take_zero (by omega) hz, ← e, h.eq]
structure Digits (s : Str) : Prop where
  all : ∀ c ∈ s.cps.toList, 48 ≤ c ∧ c ≤ 57
/-- trimmed(limbs) where the loop ended at the head -/
theorem from_zero {s : Str} {e n : Int} {ls : List Int} (hd : Digits s) (h : Ch s e ls) (h0 : ¬ 0 < e) (ht : Trim ls n) (hn : ¬ 0 < n) : ls.take n.toNat = limbs ((dval s.cps.toList : Nat) : Int) := by
  have e1 := h.done h0
  have e2 : n.toNat = 0 := by omega
  have h3 := trim_is (l := ls) (n := n.toNat) (by rw [e1]; exact chunks_ok _ hd.all) (by omega) (Or.inl e2) ht.eq
  rw [h3, e1, val_chunks]
theorem from_last {s : Str} {e n : Int} {ls : List Int} (hd : Digits s) (h : Ch s e ls) (h0 : ¬ 0 < e) (ht : Trim ls n) (h1 : n ≤ (ls.length : Int)) (hn : 0 ≤ n) (hz : ls.getD (n - 1).toNat 0 ≠ 0) : ls.take n.toNat = limbs ((dval s.cps.toList : Nat) : Int) := by
  have e1 := h.done h0
  have e3 : (n - 1).toNat = n.toNat - 1 := by omega
  rw [e3] at hz
  have h3 := trim_is (l := ls) (n := n.toNat) (by rw [e1]; exact chunks_ok _ hd.all) (by omega) (Or.inr hz) ht.eq
  rw [h3, e1, val_chunks]
/-- the text of a natural -/
theorem text_num {n : Int} (h : 0 ≤ n) (s : Str) (hs : s.cps.toList = dig n.toNat) : s = Str.ofString (toString n) := str_ext (by rw [hs, cps_num h])
theorem text_limbs {n : Int} (h : 0 < n) : textOf (limbs n) = dig n.toNat := by
  have hne : limbs n ≠ [] := by rw [limbs_pos h]; simp
  rw [textOf_val (limbs_nf n) hne, val_limbs n (by omega)]
theorem zero_neg {n : Int} (h : n < 0) : Str.ofString "0" ≠ Str.ofString (toString n) := by
  intro e
  have e1 := congrArg (fun x : Str => x.cps.toList) e
  simp only [cps_neg h, cps_of] at e1
  exact absurd e1 (by
    intro e2
    have : (48 : Nat) = 45 := List.head_eq_of_cons_eq e2
    omega)
theorem digits_num {n : Int} (h : 0 ≤ n) : Digits (Str.ofString (toString n)) := ⟨by rw [cps_num h]; exact dig_digits _⟩
theorem dval_num {n : Int} (h : 0 ≤ n) : ((dval (Str.ofString (toString n)).cps.toList : Nat) : Int) = n := by
  rw [cps_num h, dval_dig]; omega
end Mine

namespace Mine
theorem is_digit (c : Nat) : c ∈ (Str.ofString "0123456789").cps.toList ↔ 48 ≤ c ∧ c ≤ 57 := by
  have e : (Str.ofString "0123456789").cps.toList = [48, 49, 50, 51, 52, 53, 54, 55, 56, 57] := by rw [cps_of]; rfl
  rw [e]
  simp only [List.mem_cons, List.not_mem_nil, or_false]
  omega
/-- what is read so far is all digits -/
structure Seen (pre : List Int) : Prop where
  all : ∀ v ∈ pre, 48 ≤ v ∧ v ≤ 57
theorem Seen.start : Seen [] := ⟨(fun _ h => nomatch h)⟩
theorem Seen.turn {pre : List Int} {n : Nat} (h : Seen pre) (hn : 48 ≤ n ∧ n ≤ 57) : Seen (pre ++ [(n : Int)]) := by
  refine ⟨fun v hv => ?_⟩
  rcases List.mem_append.mp hv with hv | hv
  · exact h.all v hv
  · rw [List.mem_singleton.mp hv]; omega
theorem Seen.done {s : Str} (h : Seen (KStt.codes s)) : Digits s := by
  refine ⟨fun c hc => ?_⟩
  have := h.all (c : Int) (List.mem_map.mpr ⟨c, hc, rfl⟩)
  omega
theorem Digits.at {s : Str} {pre post : List Int} {n : Nat} (h : Digits s) (e : KStt.codes s = pre ++ (n : Int) :: post) : 48 ≤ n ∧ n ≤ 57 := by
  have h1 : (n : Int) ∈ KStt.codes s := by rw [e]; simp
  obtain ⟨c, hc, e2⟩ := List.mem_map.mp h1
  have := h.all c hc
  omega
section
variable {prog : Program} {w : World} {A : Around} {E : Value → Shared → Prop} {s : Shared} {t u : Tok}
theorem notin_digits {c : Nat} {Q : Value → Shared → Prop} (h : Q (.bool (!decide (48 ≤ c ∧ c ≤ 57))) s) : wpAny (model prog w) A (compareOp .NotIn (.str ⟨#[c]⟩ u) (.str (Str.ofString "0123456789") t)) Q E s := by
  refine notIn_str ?_
  have e := StrLaws.found_one (Str.ofString "0123456789") c
  rw [e]
  have e2 : decide (c ∈ (Str.ofString "0123456789").cps.toList) = decide (48 ≤ c ∧ c ≤ 57) := decide_eq_decide.mpr (is_digit c)
  rw [e2]
  exact h
end
section
variable {prog : Program} {w : World} {A : Around} {E : Value → Shared → Prop} {s : Shared} {env : Env} {h₀ : Heap} {x : Str} {body : List Stmt} {Q : Flow → Shared → Prop}
/-- a loop over a text's signs that stores nothing -/
theorem text_loop {xt : Str} {tx : Tok} {m₀ : Str → Option Value} {news : List (Addr × Obj)} (P : List Int → Prop)
    (hh : A.handled = none) (F : Fr h₀ env.locals s.heap m₀) (N : News h₀ env.locals s.heap news) (hp : P [])
    (turn : ∀ (c : Unit) (pre post : List Int) (n : Nat) t (u : Str → Option Value) h tk own, KStt.codes xt = pre ++ (n : Int) :: post → OwnOff own (news.map (·.1)) → True → P pre →
      Fr h₀ env.locals h (fun y => if y = x then some (.str ⟨#[n]⟩ t) else kstB (fun z => if ([] : List Str).contains z then u z else m₀ z) [] y) → News h₀ env.locals h (news ++ own) →
      wpAny (model prog w) A (execs body env) (InvPostN h₀ env.locals (KstS (fun (_ : Unit) => news) (fun _ => []) (fun _ => True) x [] m₀ (fun pre _ => P pre) (pre ++ [(n : Int)])) own (news.map (·.1)) { s with heap := h, toks := tk } Q) E { s with heap := h, toks := tk })
    (done : ∀ (c : Unit) (u : Str → Option Value) h tk, True → P (KStt.codes xt) → Fr h₀ env.locals h (fun y => if y = x then u y else kstB (fun z => if ([] : List Str).contains z then u z else m₀ z) [] y) → News h₀ env.locals h news → Q .next { s with heap := h, toks := tk }) :
    wpAny (model prog w) A (pyIter (.str xt tx)) (fun it s₂ => LoopAtV prog w A h₀ env x body Q E it s₂) E s :=
  KStt.kst_text (fun (_ : Unit) => news) (fun _ => []) (fun _ => True) [] (fun pre _ => P pre) () hh F N True.intro (List.forall_mem_nil _) hp turn done
end
end Mine

namespace Mine
/-- s is n's own text -/
structure Tx (s : Str) (n : Int) : Prop where
  lo : 0 ≤ n
  hi : n < 10000 ^ 51
  eq : s.cps.toList = dig n.toNat
theorem tx0 {n m : Int} {ls : List Int} (hl : (ls.length : Int) = 0) (hF : Fi n m ls) (hm : ¬ 0 < m) (hA : Acc 51 n) : Tx (Str.ofString "0") n := by
  have h1 := hF.done hm
  have hn : n = 0 := by
    by_cases h : 0 < n
    · rw [h1, limbs_pos h, List.length_cons] at hl; omega
    · have := hA.lo; omega
  subst hn
  exact ⟨hA.lo, hA.hi, by rw [cps_of]; rfl⟩
theorem tx1 {n m : Int} {ls p : List Int} {ps : List Str} (hl : (ls.length : Int) ≠ 0) (hF : Fi n m ls) (hm : ¬ 0 < m) (hA : Acc 51 n) (hP : Pieces ls p ps) (hp : ls.length ≤ p.length + 1) : Tx (Txt.join (Str.ofString "") ps) n := by
  have h1 := hF.done hm
  have hn : 0 < n := by
    by_cases h : 0 < n
    · exact h
    · rw [h1, limbs_nonpos (by omega)] at hl; exact absurd rfl hl
  exact ⟨hA.lo, hA.hi, by rw [hP.done hp, h1, text_limbs hn]⟩
theorem Tx.is {s : Str} {n : Int} (h : Tx s n) : s = Str.ofString (toString n) := str_ext (by rw [h.eq, cps_num h.lo])
theorem Tx.ne {s : Str} {n : Int} (hs : (s == Str.ofString (toString n)) = false) (h : Tx s n) : False := by
  rw [h.is] at hs
  simp at hs
theorem Tx.dig {s : Str} {n : Int} (h : Tx s n) : Digits s := ⟨by rw [h.eq]; exact dig_digits _⟩
theorem Tx.nil {s : Str} {n : Int} (hs : (s == Str.ofString "") = true) (h : Tx s n) : False := by
  have e : s = Str.ofString "" := by simpa using hs
  have h1 := h.eq
  rw [e, cps_of] at h1
  exact absurd h1.symm (dig_ne _)
theorem Tx.sign {s : Str} {n : Int} {pre post : List Int} {c : Nat} (hc : (!decide (48 ≤ c ∧ c ≤ 57)) = true) (e : KStt.codes s = pre ++ (c : Int) :: post) (h : Tx s n) : False := by
  have := h.dig.at e
  simp at hc
  omega
theorem Tx.sign2 {s : Str} {n : Int} {pre post : List Int} {c : Nat} (hc : ¬ (48 ≤ c ∧ c ≤ 57)) (e : KStt.codes s = pre ++ (c : Int) :: post) (h : Tx s n) : False := hc (h.dig.at e)
theorem pow51 : ((10000 : Int) ^ 51) = ((10 ^ 204 : Nat) : Int) := by decide +kernel
theorem Tx.len {s : Str} {n : Int} (h : Tx s n) : s.length ≤ 204 := by
  rw [len_cps, h.eq]
  refine dig_len_of (by decide) ?_
  have h1 := h.hi
  rw [pow51] at h1
  have h2 := h.lo
  omega
theorem Tx.dval {s : Str} {n : Int} (h : Tx s n) : ((dval s.cps.toList : Nat) : Int) = n := by
  rw [h.eq, dval_dig]
  have := h.lo
  omega
theorem Tx.end_zero {s : Str} {n e k m : Int} {ls a : List Int} (hne : (decide (List.take k.toNat ls = a) != true) = true) (h : Tx s n) (hc : Ch s e ls) (he : ¬ 0 < e) (ht : Trim ls k) (hk : ¬ 0 < k) (hF : Fi n m a) (hm : ¬ 0 < m) : False := by
  have h1 := from_zero h.dig hc he ht hk
  rw [h.dval, ← hF.done hm] at h1
  rw [h1] at hne
  simp at hne
theorem Tx.end_last {s : Str} {n e k m : Int} {ls a : List Int} (hne : (decide (List.take k.toNat ls = a) != true) = true) (h : Tx s n) (hc : Ch s e ls) (he : ¬ 0 < e) (ht : Trim ls k) (h1 : k ≤ (ls.length : Int)) (h0 : 0 ≤ k) (hz : ls.getD (k - 1).toNat 0 ≠ 0) (hF : Fi n m a) (hm : ¬ 0 < m) : False := by
  have h1 := from_last h.dig hc he ht h1 h0 hz
  rw [h.dval, ← hF.done hm] at h1
  rw [h1] at hne
  simp at hne
theorem neg_text {n : Int} (hs : (Str.ofString "0" == Str.ofString (toString n)) = true) (h : n < 0) : False := zero_neg h (by simpa using hs)
theorem neg_limbs {n m : Int} {ls : List Int} (hl : (ls.length : Int) ≠ 0) (hF : Fi n m ls) (hm : ¬ 0 < m) (h : n < 0) : False := by
  rw [hF.done hm, limbs_nonpos (by omega)] at hl
  exact hl rfl
theorem below {c M : Int} (hp : 0 < M) : -1 - c.fmod M < 0 := by
  have := fmod_lo c hp
  omega
theorem cap_below {c M : Int} (hp : 0 < M) : Cap 51 (-1 - c.fmod M) := ⟨Int.lt_trans (below hp) (Int.pow_pos (by decide))⟩
theorem Fi.item {n m : Int} {ls : List Int} (hF : Fi n m ls) (hm : ¬ 0 < m) (k : Nat) : 0 ≤ ls.getD k 0 ∧ ls.getD k 0 ≤ 9999 := by
  rw [hF.done hm]
  by_cases hk : k < (limbs n).length
  · have e : (limbs n).getD k 0 = (limbs n)[k] := by simp [List.getD, hk]
    rw [e]; exact limbs_range n _ (List.getElem_mem hk)
  · have e : (limbs n).getD k 0 = 0 := by simp [List.getD, Nat.not_lt.mp hk]
    rw [e]; decide
theorem Fi.shown {n m : Int} {ls : List Int} (hF : Fi n m ls) (hm : ¬ 0 < m) (k : Nat) : (ls.getD k 0).natAbs.log2 < 1920 := by
  have := hF.item hm k
  exact PyProof.Rows.shown (N := 10001) (by omega) (by omega) (by decide +kernel)
theorem Acc.shown {n : Int} (h : Acc 51 n) : n.natAbs.log2 < 1920 := by
  have h1 := h.hi
  have h2 := h.lo
  have e : ((10000 : Int) ^ 51) ≤ 2 ^ 1920 := by decide +kernel
  have e2 : (0 : Int) < 2 ^ 1920 := by decide +kernel
  refine PyProof.Rows.shown (N := 2 ^ 1920) ?_ (Int.lt_of_lt_of_le h1 e) (Int.le_refl _)
  generalize (2 : Int) ^ 1920 = z at *
  omega
theorem shown_below {c M : Int} (h : IsPow 10 (Int.toNat 200) M) : (-1 - c.fmod M).natAbs.log2 < 1920 := by
  have hp := h.pos (by decide)
  have h1 := fmod_hi c hp
  have h2 := fmod_lo c hp
  have h3 := h.eq
  have e : ((10 : Int) ^ (Int.toNat 200)) + 2 ≤ 2 ^ 1920 := by decide +kernel
  rw [← h3] at e
  refine PyProof.Rows.shown (N := 2 ^ 1920) ?_ ?_ (Int.le_refl _)
  · generalize (2 : Int) ^ 1920 = z at *
    omega
  · generalize (2 : Int) ^ 1920 = z at *
    omega
theorem Ch.start0 : Ch (Str.ofString "0") ((1 : Nat) : Int) [] := Ch.start (s := Str.ofString "0")
theorem len_nought : (Str.ofString "0").length = 1 := by decide
/-- the four signs ahead of e -/
theorem cut_cps {s : Str} {e : Int} (h0 : 0 < e) (h1 : e ≤ (s.length : Int)) : (Txt.slice s (some (if e - 4 > 0 then e - 4 else 0)) (some e)).cps.toList = (s.cps.toList.take e.toNat).drop (e.toNat - 4) := by
  have hl := len_cps s
  have e0 : Txt.slice s (some (if e - 4 > 0 then e - 4 else 0)) (some e) = StrLaws.sliceText s (some (if e - 4 > 0 then e - 4 else 0)) (some e) := rfl
  have e1 : (if e - 4 > 0 then e - 4 else 0).toNat = e.toNat - 4 := by split <;> omega
  have e2 : (e - (if e - 4 > 0 then e - 4 else 0)).toNat = e.toNat - (e.toNat - 4) := by split <;> omega
  rw [e0, StrLaws.sliceText_plain ⟨by split <;> omega, by split <;> omega, by omega⟩, e1, e2, List.drop_take]
theorem int_cut {s : Str} {e : Int} (hd : Digits s) (h0 : 0 < e) (h1 : e ≤ (s.length : Int)) (h2 : s.length ≤ 204) : PySem.intText? (Txt.slice s (some (if e - 4 > 0 then e - 4 else 0)) (some e)) = some ((dval ((s.cps.toList.take e.toNat).drop (e.toNat - 4)) : Nat) : Int) := by
  have hc := cut_cps h0 h1
  have hl := len_cps s
  have h := PySem.intText_digits (x := Txt.slice s (some (if e - 4 > 0 then e - 4 else 0)) (some e)) (by
    rw [hc]
    intro c hm
    exact hd.all c (List.mem_of_mem_take (List.mem_of_mem_drop hm))) (by
    rw [hc]
    intro hz
    have := congrArg List.length hz
    rw [List.length_drop, List.length_take, List.length_nil] at this
    omega) (Nat.le_trans (Txt.slice_le _ _ _) (by omega))
  rw [h, hc]
  rfl
theorem cut_len {s : Str} {l u : Option Int} (h2 : s.length ≤ 204) : (Txt.slice s l u).length ≤ 640 := Nat.le_trans (Txt.slice_le _ _ _) (by omega)
theorem Tx.fit {s : Str} {n : Int} (h : Tx s n) : ¬ (s.length : Int) ≥ 2 ^ 63 := by
  have := h.len
  omega
end Mine

namespace Mine
/-- digits, and few -/
structure Dg (k : Nat) (ds : List Int) : Prop where
  all : ∀ d ∈ ds, 0 ≤ d ∧ d ≤ 9
  len : ds.length ≤ k
theorem dg_made {k : Int} {l : List Int} (hk : k < 10) (hl : l.length ≤ 16) : Dg 25 ((List.replicate k.toNat [0]).flatten ++ List.map (fun c => c.fmod 10) l) := by
  rw [List.flatten_replicate_singleton]
  refine ⟨fun d hd => ?_, ?_⟩
  · rcases List.mem_append.mp hd with hd | hd
    · rw [(List.mem_replicate.mp hd).2]; decide
    · obtain ⟨c, _, rfl⟩ := List.mem_map.mp hd
      have h1 := fmod_hi c (n := 10) (by decide)
      have h2 := fmod_lo c (n := 10) (by decide)
      omega
  · rw [List.length_append, List.length_replicate, List.length_map]; omega
theorem dg_cut {a b : List Int} {k : Nat} (ha : Dg 25 a) (hb : Dg 25 b) : Dg 50 (List.take k (a ++ b)) := by
  refine ⟨fun d hd => ?_, ?_⟩
  · rcases List.mem_append.mp (List.mem_of_mem_take hd) with hd | hd
    · exact ha.all d hd
    · exact hb.all d hd
  · have := ha.len
    have := hb.len
    rw [List.length_take, List.length_append]; omega
/-- the signs of digits -/
def sgns (ds : List Int) : List Nat := ds.map fun d => 48 + d.toNat
theorem sgns_digits {k : Nat} {ds : List Int} (h : Dg k ds) : ∀ c ∈ sgns ds, 48 ≤ c ∧ c ≤ 57 := by
  intro c hc
  obtain ⟨d, hd, rfl⟩ := List.mem_map.mp hc
  have := h.all d hd
  omega
theorem text_sgns {k : Nat} {ds : List Int} (h : Dg k ds) : (Txt.join (Str.ofString "") (ds.map fun d => Str.ofString (toString d))).cps.toList = sgns ds := by
  rw [join_cps]
  unfold sgns
  have : ∀ l : List Int, (∀ d ∈ l, 0 ≤ d ∧ d ≤ 9) → (l.map fun d => Str.ofString (toString d)).flatMap (·.cps.toList) = l.map fun d => 48 + d.toNat := by
    intro l
    induction l with
    | nil => intro _; rfl
    | cons d r ih =>
      intro hl
      have h1 := hl d (.head _)
      rw [List.map_cons, List.flatMap_cons, ih (fun x hx => hl x (.tail _ hx)), List.map_cons, cps_num h1.1, dig_lt (by omega)]
      rfl
  exact this ds h.all
/-- the number that the digits spell -/
structure Dn (pre : List Int) (n : Int) : Prop where
  eq : n = ((dval (sgns pre) : Nat) : Int)
theorem Dn.start : Dn [] 0 := ⟨rfl⟩
theorem Dn.turn {pre : List Int} {n d : Int} (h : Dn pre n) (h0 : 0 ≤ d) : Dn (pre ++ [d]) (n * 10 + d) := by
  refine ⟨?_⟩
  have e : sgns (pre ++ [d]) = sgns pre ++ [48 + d.toNat] := by simp [sgns]
  have e2 : dval [48 + d.toNat] = d.toNat := by simp [dval]
  rw [e, dval_append, e2, h.eq]
  simp
  omega
theorem Dn.acc {ds : List Int} {n : Int} (h : Dn ds n) (hd : Dg 50 ds) : Acc 13 n := by
  have h1 := dval_lt (sgns ds) (sgns_digits hd)
  have e : (sgns ds).length = ds.length := by simp [sgns]
  have h2 : 10 ^ (sgns ds).length ≤ 10 ^ 50 := Nat.pow_le_pow_right (by decide) (by have := hd.len; omega)
  have e3 : ((10 ^ 50 : Nat) : Int) < 10000 ^ 13 := by decide +kernel
  rw [h.eq]
  exact ⟨by omega, by omega⟩
theorem dg_shown {k : Nat} {ds : List Int} {d : Int} (h : Dg k ds) (hd : d ∈ ds) : d.natAbs.log2 < 1920 := by
  have := h.all d hd
  exact PyProof.Rows.shown (N := 10001) (by omega) (by omega) (by decide +kernel)
theorem dg_one {k : Nat} {ds : List Int} (h : Dg k ds) : ∀ d ∈ ds, (Str.ofString (toString d)).length ≤ 1 := by
  intro d hd
  have h1 := h.all d hd
  rw [len_cps, cps_num h1.1, dig_lt (by omega)]
  exact Nat.le_refl _
end Mine
namespace Mine
/-- s is the digits' text -/
structure T17 (s : Str) (ds : List Int) : Prop where
  eq : s.cps.toList = sgns ds
  few : s.length ≤ 50
theorem t17 {ds : List Int} (h : Dg 50 ds) : T17 (Txt.join (Str.ofString "") (ds.map fun d => Str.ofString (toString d))) ds := by
  refine ⟨text_sgns h, ?_⟩
  rw [len_cps, text_sgns h]
  unfold sgns
  rw [List.length_map]
  exact h.len
/-- a sign that is no digit stands in s -/
structure Foreign (s : Str) : Prop where
  out : ∃ c ∈ s.cps.toList, ¬ (48 ≤ c ∧ c ≤ 57)
theorem Foreign.mid {a b c : Str} (h : Foreign b) : Foreign (a ++ b ++ c) := by
  obtain ⟨d, hd, h2⟩ := h.out
  refine ⟨d, ?_, h2⟩
  rw [cps_app, cps_app]
  exact List.mem_append.mpr (Or.inl (List.mem_append.mpr (Or.inr hd)))
theorem Foreign.no {s : Str} (h : Foreign s) (hd : Digits s) : False := by
  obtain ⟨c, hc, h2⟩ := h.out
  exact h2 (hd.all c hc)
theorem Foreign.nil {s : Str} (hs : (s == Str.ofString "") = true) (h : Foreign s) : False := by
  have e : s = Str.ofString "" := by simpa using hs
  obtain ⟨c, hc, _⟩ := h.out
  rw [e, cps_of] at hc
  exact absurd hc (by simp)
theorem T17.dig {s : Str} {ds : List Int} (h : T17 s ds) (hd : Dg 50 ds) : Digits s := ⟨by rw [h.eq]; exact sgns_digits hd⟩
theorem slice17 {s : Str} {l u : Option Int} (h : s.length ≤ 50) : (Txt.slice s l u).length ≤ 50 := Nat.le_trans (Txt.slice_le _ _ _) h
end Mine

namespace Mine
theorem sign8 (c : Int) : Foreign ([Str.ofString " ", Str.ofString "_", Str.ofString "+", Str.ofString "-", Str.ofString "\n", Str.ofString "١", Str.ofString "１", Str.ofString "."].getD (c.fmod 8).toNat Str.empty) ∧ ([Str.ofString " ", Str.ofString "_", Str.ofString "+", Str.ofString "-", Str.ofString "\n", Str.ofString "١", Str.ofString "１", Str.ofString "."].getD (c.fmod 8).toNat Str.empty).length ≤ 1 := by
  have h1 := fmod_lo c (n := 8) (by decide)
  have h2 := fmod_hi c (n := 8) (by decide)
  rcases (by omega : c.fmod 8 = 0 ∨ c.fmod 8 = 1 ∨ c.fmod 8 = 2 ∨ c.fmod 8 = 3 ∨ c.fmod 8 = 4 ∨ c.fmod 8 = 5 ∨ c.fmod 8 = 6 ∨ c.fmod 8 = 7) with e | e | e | e | e | e | e | e <;> rw [e]
  · exact ⟨⟨32, by decide +kernel, by decide⟩, by decide +kernel⟩
  · exact ⟨⟨95, by decide +kernel, by decide⟩, by decide +kernel⟩
  · exact ⟨⟨43, by decide +kernel, by decide⟩, by decide +kernel⟩
  · exact ⟨⟨45, by decide +kernel, by decide⟩, by decide +kernel⟩
  · exact ⟨⟨10, by decide +kernel, by decide⟩, by decide +kernel⟩
  · exact ⟨⟨1633, by decide +kernel, by decide⟩, by decide +kernel⟩
  · exact ⟨⟨65297, by decide +kernel, by decide⟩, by decide +kernel⟩
  · exact ⟨⟨46, by decide +kernel, by decide⟩, by decide +kernel⟩
theorem add17 {s sg : Str} {l u : Option Int} (h : s.length ≤ 50) (hs : sg.length ≤ 1) : (Txt.slice s l u).length + sg.length ≤ sizeLine := by
  have := slice17 (l := l) (u := u) h
  rw [PySem.sizeLine_eq]; omega
theorem add17' {s sg : Str} {l u l' u' : Option Int} (h : s.length ≤ 50) (hs : sg.length ≤ 1) : (Txt.slice s l u ++ sg).length + (Txt.slice s l' u').length ≤ sizeLine := by
  have h1 := slice17 (l := l) (u := u) h
  have h2 := slice17 (l := l') (u := u') h
  rw [PySem.sizeLine_eq, Str.length_append]; omega
theorem no8 {a b : Str} {c : Int} (hd : Digits (a ++ ([Str.ofString " ", Str.ofString "_", Str.ofString "+", Str.ofString "-", Str.ofString "\n", Str.ofString "١", Str.ofString "１", Str.ofString "."].getD (c.fmod 8).toNat Str.empty) ++ b)) : False := (Foreign.mid (sign8 c).1).no hd
theorem nil8 {a b : Str} {c : Int} (hs : ((a ++ ([Str.ofString " ", Str.ofString "_", Str.ofString "+", Str.ofString "-", Str.ofString "\n", Str.ofString "١", Str.ofString "１", Str.ofString "."].getD (c.fmod 8).toNat Str.empty) ++ b) == Str.ofString "") = true) : False := Foreign.nil hs (Foreign.mid (sign8 c).1)
theorem signC (c : Int) : Foreign { cps := #[((58 + c.fmod 55286).fmod 55296).toNat] } ∧ ({ cps := #[((58 + c.fmod 55286).fmod 55296).toNat] } : Str).length ≤ 1 := by
  have h1 := fmod_lo c (n := 55286) (by decide)
  have h2 := fmod_hi c (n := 55286) (by decide)
  generalize c.fmod 55286 = d at *
  rw [Int.fmod_eq_emod_of_nonneg _ (by decide)]
  refine ⟨⟨((58 + d) % 55296).toNat, by simp, by omega⟩, Nat.le_refl _⟩
theorem noC {a b : Str} {c : Int} (hd : Digits (a ++ { cps := #[((58 + c.fmod 55286).fmod 55296).toNat] } ++ b)) : False := (Foreign.mid (signC c).1).no hd
theorem nilC {a b : Str} {c : Int} (hs : ((a ++ { cps := #[((58 + c.fmod 55286).fmod 55296).toNat] } ++ b) == Str.ofString "") = true) : False := Foreign.nil hs (Foreign.mid (signC c).1)
theorem two3 {r : Int} (h : r = 2) (h' : r = 3) : False := by omega
theorem T17.nil {s : Str} {ds : List Int} (hs : (s == Str.ofString "") = true) (h : T17 s ds) (hl : decide ((ds.length : Int) = 0) = false) : False := by
  have e : s = Str.ofString "" := by simpa using hs
  have h1 := h.eq
  rw [e, cps_of] at h1
  have h2 := congrArg List.length h1
  unfold sgns at h2
  rw [List.length_map] at h2
  simp at h2 hl
  exact hl (List.length_eq_zero_iff.mp h2.symm)
theorem T17.sign {s : Str} {ds pre post : List Int} {c : Nat} (hc : ¬ (48 ≤ c ∧ c ≤ 57)) (e : KStt.codes s = pre ++ (c : Int) :: post) (h : T17 s ds) (hd : Dg 50 ds) : False := hc ((h.dig hd).at e)
end Mine

namespace Mine
theorem dg_lo {k : Nat} {ds : List Int} {d : Int} (h : Dg k ds) (hd : d ∈ ds) : 0 ≤ d := (h.all d hd).1
theorem T17.len {s : Str} {ds : List Int} (h : T17 s ds) : s.length = ds.length := by
  rw [len_cps, h.eq]; unfold sgns; rw [List.length_map]
theorem empty_iff {s : Str} (hs : (s == Str.ofString "") = true) : s.length = 0 := by
  have e : s = Str.ofString "" := by simpa using hs
  rw [e]; decide
theorem empty_not {s : Str} (hs : (s == Str.ofString "") = false) : s.length ≠ 0 := by
  intro h
  have e : s = Str.ofString "" := str_ext (by
    rw [len_cps] at h
    rw [List.length_eq_zero_iff.mp h, cps_of]; rfl)
  rw [e] at hs
  simp at hs
theorem e17a {s : Str} {ds : List Int} (h : (true != decide ((ds.length : Int) = 0)) = true) (hs : (s == Str.ofString "") = true) (hT : T17 s ds) : False := by
  have h1 := empty_iff hs
  rw [hT.len] at h1
  rw [h1] at h
  simp at h
theorem e17b {s : Str} {ds : List Int} (h : (false != decide ((ds.length : Int) = 0)) = true) (hs : (s == Str.ofString "") = false) (hT : T17 s ds) : False := by
  have h1 := empty_not hs
  rw [hT.len] at h1
  have : decide ((ds.length : Int) = 0) = false := by simpa using h1
  rw [this] at h
  simp at h
theorem T17.val {s : Str} {ds : List Int} {n : Int} (h : T17 s ds) (hn : Dn ds n) : ((dval s.cps.toList : Nat) : Int) = n := by
  rw [h.eq, hn.eq]
theorem e17c {s : Str} {ds ls want : List Int} {n e k m : Int} (h : T17 s ds) (hd : Dg 50 ds) (hn : Dn ds n) (hc : Ch s e ls) (he : ¬ 0 < e) (ht : Trim ls k) (hk : ¬ 0 < k) (hF : Fi n m want) (hm : ¬ 0 < m) : List.take k.toNat ls = want := by
  have h1 := from_zero (h.dig hd) hc he ht hk
  rw [h.val hn] at h1
  rw [h1, hF.done hm]
theorem e17d {s : Str} {ds ls want : List Int} {n e k m : Int} (h : T17 s ds) (hd : Dg 50 ds) (hn : Dn ds n) (hc : Ch s e ls) (he : ¬ 0 < e) (ht : Trim ls k) (h1 : k ≤ (ls.length : Int)) (h0 : 0 ≤ k) (hz : ls.getD (k - 1).toNat 0 ≠ 0) (hF : Fi n m want) (hm : ¬ 0 < m) : List.take k.toNat ls = want := by
  have h1 := from_last (h.dig hd) hc he ht h1 h0 hz
  rw [h.val hn] at h1
  rw [h1, hF.done hm]
theorem few204 {s : Str} (h : s.length ≤ 50) : s.length ≤ 204 := by omega
end Mine

namespace Mine
theorem takek {l : List Int} {k : Nat} {p : Int → Bool} (hk : k ≤ 16) : (List.filter p (List.take k l)).length ≤ 16 := by
  have h := List.length_filter_le p (List.take k l)
  rw [List.length_take] at h; omega
theorem sum17 {c : Int} {l : List Int} {f : Int → Int} (hl : l.length ≤ 16) : (List.replicate (c.fmod 10).toNat [(0 : Int)]).flatten.length + (List.map f l).length ≤ sizeLine := by
  have h1 := fmod_hi c (n := 10) (by decide)
  rw [List.flatten_replicate_singleton, List.length_replicate, List.length_map, PySem.sizeLine_eq]; omega
end Mine
local macro_rules | `(tactic| walk_at "binaryOp Mult int int") => `(tactic| first | (with_reducible refine mul_int ?_ (PySem.IntMulOk.of_right (by decide))) | (with_reducible refine mul_int ?_ (PySem.IntMulOk.of_left (by decide))))
local macro_rules | `(tactic| walk_at "exec Raise some none") => `(tactic| (exfalso; first | exact absurd trivial (fun _ => Mine.nil8 (by assumption)) | exact absurd trivial (fun _ => Mine.nilC (by assumption)) | exact absurd trivial (fun _ => Mine.T17.sign (by assumption) (by assumption) (by assumption) (by assumption))))
local macro_rules | `(tactic| walk_at "exec Return some") => `(tactic| (exfalso; first | exact absurd trivial (fun _ => Mine.e17a (by assumption) (by assumption) (by assumption)) | exact absurd trivial (fun _ => Mine.e17b (by assumption) (by assumption) (by assumption))))
local macro_rules | `(tactic| walk_at "call type:int") => `(tactic| (k_here; (refine KIN.call_text (Mine.int_cut (by assumption) (by assumption) (by omega) (by assumption)) (Mine.cut_len (by assumption)) ?_)))
local macro_rules | `(tactic| law_fin) => `(tactic| first | ((with_reducible show (true == true) = true); exact rfl) | exact absurd trivial (fun _ => Mine.e17a (by assumption) (by assumption) (by assumption)) | exact absurd trivial (fun _ => Mine.e17b (by assumption) (by assumption) (by assumption)) | ((rw [Mine.e17c (by assumption) (by assumption) (by assumption) (by assumption) (by assumption) (by assumption) (by assumption) (by assumption) (by assumption)]); simp; done) | ((rw [Mine.e17d (by assumption) (by assumption) (by assumption) (by assumption) (by assumption) (by assumption) (by assumption) (by assumption) (by assumption) (by assumption) (by assumption)]); simp; done))
local macro_rules | `(tactic| walk_at "exec Assign") => `(tactic| (k_here; (with_reducible show wpAny _ _ (exec (Stmt.Assign [Expr.Name (Str.ofString "first") _] _ _) _) _ _ _); (fail_if_success (have kMk := (by assumption : Mine.InJoin))); ((refine' Mine.join_list (Str.ofString "first") (Mine.Dg 25) ?jF ?jN ?_ ?_); (case jF => k_asm); (case jN => k_asm); intro kMk)))
local macro_rules | `(tactic| walk_at "exec Assign") => `(tactic| (k_here; (with_reducible show wpAny _ _ (exec (Stmt.Assign [Expr.Name (Str.ofString "second") _] _ _) _) _ _ _); (fail_if_success (have kMk := (by assumption : Mine.InJoin))); ((refine' Mine.join_list (Str.ofString "second") (Mine.Dg 25) ?jF ?jN ?_ ?_); (case jF => k_asm); (case jN => k_asm); intro kMk)))
local macro_rules | `(tactic| walk_at "exec Assign") => `(tactic| (k_here; (with_reducible show wpAny _ _ (exec (Stmt.Assign [Expr.Name (Str.ofString "digits") _] _ _) _) _ _ _); (fail_if_success (have kMk := (by assumption : Mine.InJoin))); ((refine' Mine.join_list (Str.ofString "digits") (Mine.Dg 50) ?jF ?jN ?_ ?_); (case jF => k_asm); (case jN => k_asm); intro kMk)))
local macro_rules | `(tactic| walk_at "exec Assign") => `(tactic| (k_here; (with_reducible show wpAny _ _ (exec (Stmt.Assign [Expr.Name (Str.ofString "kind") _] _ _) _) _ _ _); (fail_if_success (have kMk := (by assumption : Mine.InJoin))); ((refine' Mine.join_if (Str.ofString "kind") (fun _ => True) ?jF ?jN ?_ ?_); (case jF => k_asm); (case jN => k_asm); intro kMk)))
local macro_rules | `(tactic| walk_at "exec Assign") => `(tactic| (k_here; (with_reducible show wpAny _ _ (exec (Stmt.Assign [Expr.Name (Str.ofString "where") _] _ _) _) _ _ _); (fail_if_success (have kMk := (by assumption : Mine.InJoin))); ((refine' Mine.join_if (Str.ofString "where") (fun _ => True) ?jF ?jN ?_ ?_); (case jF => k_asm); (case jN => k_asm); intro kMk)))
local macro_rules | `(tactic| walk_at "exec Assign") => `(tactic| (k_here; (with_reducible show wpAny _ _ (exec (Stmt.Assign [Expr.Name (Str.ofString "pick") _] _ _) _) _ _ _); (fail_if_success (have kMk := (by assumption : Mine.InJoin))); ((refine' Mine.join_if (Str.ofString "pick") (fun _ => True) ?jF ?jN ?_ ?_); (case jF => k_asm); (case jN => k_asm); intro kMk)))
local macro_rules | `(tactic| walk_at "JoinP") => `(tactic| (k_dflt (refine Mine.JoinP.mk' (by assumption) (by first | assumption | exact kst_newsOf (by assumption) (by kst_inAny)) True.intro)))
local macro_rules | `(tactic| walk_at "JoinL") => `(tactic| (k_dflt (refine Mine.JoinL.mk' (by assumption) (by assumption) (by kst_inAny) (by k_memK) (by first | assumption | l_ints) ?_)); first | exact Mine.dg_made (fmod_hi _ (by decide)) (Mine.takek (by omega)) | exact Mine.dg_cut (by assumption) (by assumption))
local macro_rules | `(tactic| walk_at "JoinK") => `(tactic| ((refine ⟨?_⟩); (first | ((with_reducible show ∀ (_ : Addr) (_ : List Value), _); (intro kAd kUs kNs kCt kH kTk kGood kInts kF kN; (have kShort := Mine.Dg.len kGood))) | (intro kR kT kH kTk kGood kF kN)); (try dsimp only)))
local macro_rules | `(tactic| walk_at "call type:str") => `(tactic| (k_here; (refine P.str_of_int (Mine.dg_shown (by assumption) (by assumption)) ?_)))
local macro_rules | `(tactic| walk_at "call builtin:str.join") => `(tactic| (k_here; ((with_reducible rename CarriedAll _ _ => ktC); (refine KT.join_B 1 (by first | assumption | is_list) ktC (Mine.dg_one (by assumption)) (by omega) (by decide) ?_); (intro _ _))))
local macro_rules | `(tactic| walk_at "binaryOp Add ref ref") => `(tactic| (k_here; (k_dflt (refine' kmk_add_ints ?F ?N ?a ?b ?i ?j ?_ ?z; (case F => k_asm); (case N => k_asm); (case a => kmk_list); (case b => kmk_list); (case i => first | assumption | exact CarriedAll.intsOf (by assumption) | l_ints); (case j => first | assumption | exact CarriedAll.intsOf (by assumption) | l_ints); (case z => first | exact Mine.sum17 (Mine.takek (by omega)) | ((simp only [sizeLine_eq]); omega) | kmk_sum))); (intro D' ws' h' F' N' l1 hI'); (try k_lt l1); (try k_sweep)))
local macro_rules | `(tactic| walk_at "eval ListComp Call cons") => `(tactic| (k_here; (k_dflt (refine LCg.ListComp_U (F₀ := by k_asm) (by with_unfolding_all rfl) (by decide) (by rfl) (by decide) (by rfl) ?_))))
local macro_rules | `(tactic| walk_at "CompSrc") => `(tactic| (k_here; (k_dflt ((refine LCg.CompSrc.ledger (by rfl) (by k_asm) (by k_asm) (by k_mem) (by (simp only [List.size_toArray, sizeLine_eq]; first | omega | ((have kl9 := IntsAre.length (by assumption)); omega))) ?_); (intro g'); (refine' kct_list (fun d => Str.ofString (toString d)) (by assumption) (fun k' t' I' oI' C' oC' D' m' ys' h' tk' E' hk' hC' hx' F' N' off' ne' hMark' => ?_) ?_)); (all_goals (try (simp only [LCg.Off3, and_true] at off'))))))
local macro_rules | `(tactic| walk_at "exec Assign cons BinOp") => `(tactic| (k_here; (with_reducible show wpAny _ _ (exec (Stmt.Assign [Expr.Name (Str.ofString "text") _] _ _) _) _ _ _); exfalso; exact Mine.two3 (by assumption) (by assumption)))
local macro_rules | `(tactic| walk_at "storeName str") => `(tactic| ((fail_if_success (have kT9 := (by assumption : Mine.T17 _ _))); (have kT17 := Mine.t17 (by assumption)); (have kFew := Mine.T17.few kT17)))
local macro_rules | `(tactic| walk_at "subscriptTail Name Slice str ref") => `(tactic| (k_here; ((with_reducible rename Fr _ _ _ _ => F'); (with_reducible rename News _ _ _ _ => N'); (first | (refine slice_strN_ns (hsz := ?hsz) (s := ⟨_, _, _, _, _⟩) F' N' ?_) | (refine slice_strN_sn (hsz := ?hsz) (s := ⟨_, _, _, _, _⟩) F' N' ?_) | (refine slice_strN_ss (hsz := ?hsz) (s := ⟨_, _, _, _, _⟩) F' N' ?_)); (case hsz => (simp only [sizeLine_eq]; omega))); (intro _ _ _ _ _)))
local macro_rules | `(tactic| walk_at "binaryOp Add str str") => `(tactic| (k_here; (first | (refine PyProof.Rows.add_str ?_ (Mine.add17 (by assumption) (Mine.sign8 _).2)) | (refine PyProof.Rows.add_str ?_ (Mine.add17' (by assumption) (Mine.sign8 _).2)) | (refine PyProof.Rows.add_str ?_ (Mine.add17 (by assumption) (Mine.signC _).2)) | (refine PyProof.Rows.add_str ?_ (Mine.add17' (by assumption) (Mine.signC _).2))); (intro _ _)))
local macro_rules | `(tactic| walk_at "compareOp NotIn str str") => `(tactic| (k_here; (refine Mine.notin_digits ?_)))
local macro_rules | `(tactic| walk_at "InvEndN") => `(tactic| k_dflt kst_close)
local macro_rules | `(tactic| walk_at "InvEndN") => `(tactic| k_dflt ksr_close)
local macro_rules | `(tactic| walk_at "KswEnd") => `(tactic| k_dflt ksw_close)
set_option maxRecDepth 100000 in
set_option maxHeartbeats 8000000 in
theorem PySem.Challenge.cw_k8_0017_holds : PySem.Challenge.rw_k8_0017.Holds := by
  k_with "exec While Compare cons nil" => k_while_given ["n!"] (fun n0 _ n ls => Mine.Fi n0 n ls ∧ Mine.Acc 13 n0 ∧ ls.length ≤ 13) (fun _ _ n _ => n.toNat) "n" "want"
  k_with "exec While Compare cons nil" => k_while_given ["s"] (fun s _ e ls => Mine.Ch s e ls ∧ 4 * (ls.length : Int) + e = (s.length : Int) ∧ -4 < e ∧ s.length ≤ 204) (fun _ _ e _ => e.toNat) "end" "limbs"
  k_with "exec While BoolOp cons nil" => k_while_given ["a"] (fun a _ n => 0 ≤ n ∧ n ≤ (a.length : Int) ∧ Mine.Trim a n) (fun _ _ n => n.toNat) "n"
  k_with "pyIter ref" => (k_of "d" => k_state (fun pre n => Mine.Dn pre n) "n")
  k_with "pyIter ref" => (k_of "limb" => k_search (fun _ => True))
  k_with "table" => skip
  k_with "pyIter str" => ((rename Fr _ _ _ _ => lF'); (rename News _ _ _ _ => lN'); (with_unfolding_all refine' Mine.text_loop (fun pre => Mine.Seen pre) (by rfl) lF' lN' Mine.Seen.start ?_ ?_); (all_goals (clear lF' lN')); ((rintro kC kPre kPost kN kT kU kH kTk kOwn kEq kOff kFacts kInv kFr kNews); (have kMark := kstMark); (dsimp only [kstB] at kFr); (try simp only [List.nil_append, List.cons_append, List.append_nil] at kNews); (try k_fold)); rotate_left; ((rintro kC kU kH kTk kFacts kInv kFr kNews); (have kMark := kstMark); (have kDig := Mine.Seen.done kInv); first | (exfalso; exact Mine.no8 kDig) | (exfalso; exact Mine.noC kDig) | ((dsimp only [kstB] at kFr); (try simp only [List.nil_append, List.cons_append, List.append_nil] at kNews); (try k_fold); rotate_left)))
  k_with "state" => first | exact True.intro | exact Mine.Dn.start | exact Mine.Dn.turn (by assumption) (Mine.dg_lo (by assumption) kMem) | exact ⟨Mine.Fi.start, Mine.Dn.acc (by assumption) (by assumption), by decide⟩ | exact ⟨Mine.Fi.turn (by assumption) (by assumption), by assumption, Mine.Fi.len (by assumption) (by assumption) (Mine.Acc.hi (by assumption))⟩ | exact ⟨by omega, by omega, Mine.Trim.start⟩ | exact ⟨by omega, by omega, Mine.Trim.turn (by assumption) (by assumption) (by assumption) (by assumption)⟩ | exact ⟨Mine.Ch.start, by simp only [List.length_nil]; omega, by omega, Mine.few204 (by assumption)⟩ | exact Mine.Seen.turn (by assumption) (by assumption) | exact ⟨Mine.Ch.turn (by assumption) (by assumption) (by omega) rfl, by simp only [List.length_append, List.length_cons, List.length_nil]; omega, by omega, by assumption⟩
  k_with "measure" => first | exact Mine.Fi.less (by assumption) | omega
  open_k
