import PyProof.Rows.All
import Wide.All
import OpenK.AllK
import Wide.FinOn
import PySem.Challenge.RW_k8_0003
set_option Elab.async false
namespace Mine
/-- the number that limbs spell, low end first -/
def val : List Int → Int
  | [] => 0
  | a :: r => a + 10000 * val r
def limbsN (n : Nat) : List Int := if h : n = 0 then [] else ((n % 10000 : Nat) : Int) :: limbsN (n / 10000)
termination_by n
decreasing_by omega
/-- the limbs of an int, low end first; none for what is not above zero -/
def limbs (n : Int) : List Int := limbsN n.toNat

theorem limbs_nonpos {n : Int} (h : n ≤ 0) : limbs n = [] := by
  unfold limbs
  rw [Int.toNat_of_nonpos h, limbsN]; rfl
theorem limbs_pos {n : Int} (h : 0 < n) : limbs n = (n % 10000) :: limbs (n / 10000) := by
  unfold limbs
  rw [limbsN, dif_neg (by omega)]
  congr 1
  · omega
  · congr 1; omega
theorem limbs_ind {P : Int → Prop} (h0 : ∀ n, n ≤ 0 → P n) (h1 : ∀ n, 0 < n → P (n / 10000) → P n) (n : Int) : P n := by
  have : ∀ k : Nat, ∀ n : Int, n.toNat ≤ k → P n := by
    intro k
    induction k with
    | zero => intro n hn; exact h0 n (by omega)
    | succ k ih =>
      intro n hn
      by_cases h : n ≤ 0
      · exact h0 n h
      · exact h1 n (by omega) (ih _ (by omega))
  exact this _ n (Nat.le_refl _)
theorem val_limbs (n : Int) : 0 ≤ n → val (limbs n) = n := by
  induction n using limbs_ind with
  | h0 n h => intro h'; rw [limbs_nonpos h, val]; omega
  | h1 n h ih => intro _; rw [limbs_pos h, val, ih (by omega)]; omega
theorem limbs_range (n : Int) : ∀ x ∈ limbs n, 0 ≤ x ∧ x ≤ 9999 := by
  induction n using limbs_ind with
  | h0 n h => rw [limbs_nonpos h]; intro x hx; cases hx
  | h1 n h ih =>
    rw [limbs_pos h]
    intro x hx
    rcases List.mem_cons.mp hx with rfl | hx
    · omega
    · exact ih x hx
/-- in normal form -/
def Nf (l : List Int) : Prop := (∀ x ∈ l, 0 ≤ x ∧ x ≤ 9999) ∧ ∀ h : l ≠ [], l.getLast h ≠ 0
theorem limbs_last (n : Int) : ∀ h : limbs n ≠ [], (limbs n).getLast h ≠ 0 := by
  induction n using limbs_ind with
  | h0 n h => intro h'; exact absurd (limbs_nonpos h) h'
  | h1 n h ih =>
    intro hne
    by_cases h2 : n / 10000 ≤ 0
    · have e : limbs n = [n % 10000] := by rw [limbs_pos h, limbs_nonpos h2]
      have : (limbs n).getLast hne = n % 10000 := by simp [e]
      omega
    · have hne2 : limbs (n / 10000) ≠ [] := by rw [limbs_pos (by omega)]; simp
      have : (limbs n).getLast hne = (limbs (n / 10000)).getLast hne2 := by
        simp [limbs_pos h, List.getLast_cons hne2]
      rw [this]; exact ih hne2
theorem limbs_nf (n : Int) : Nf (limbs n) := ⟨limbs_range n, limbs_last n⟩
theorem Nf.tail {a : Int} {l : List Int} (h : Nf (a :: l)) : Nf l :=
  ⟨fun x hx => h.1 x (.tail _ hx), fun hne => by have := h.2 (by simp); rwa [List.getLast_cons hne] at this⟩
theorem val_nonneg : ∀ {l : List Int}, (∀ x ∈ l, 0 ≤ x ∧ x ≤ 9999) → 0 ≤ val l
  | [], _ => Int.le_refl _
  | a :: r, h => by
    have h1 := h a (.head _)
    have h2 := val_nonneg (l := r) fun x hx => h x (.tail _ hx)
    rw [val]; omega
theorem val_pos_of_nf : ∀ {l : List Int}, Nf l → l ≠ [] → 0 < val l
  | [], _, h => absurd rfl h
  | [a], h, _ => by
    have h1 := h.1 a (.head _)
    have h2 := h.2 (by simp)
    simp at h2
    simp only [val]; omega
  | a :: b :: r, h, _ => by
    have h1 := h.1 a (.head _)
    have h2 := val_pos_of_nf h.tail (by simp)
    rw [val]; omega
theorem limbs_val : ∀ {l : List Int}, Nf l → limbs (val l) = l
  | [], _ => limbs_nonpos (Int.le_refl _)
  | a :: r, h => by
    have h1 := h.1 a (.head _)
    have hp := val_pos_of_nf h (by simp)
    rw [limbs_pos hp]
    have e1 : val (a :: r) % 10000 = a := by rw [val]; omega
    have e2 : val (a :: r) / 10000 = val r := by rw [val]; omega
    rw [e1, e2, limbs_val h.tail]
theorem nf_eq {a b : List Int} (ha : Nf a) (hb : Nf b) (h : val a = val b) : a = b := by
  rw [← limbs_val ha, ← limbs_val hb, h]
theorem limbs_len (k : Nat) : ∀ n : Int, n < 10000 ^ k → (limbs n).length ≤ k := by
  induction k with
  | zero => intro n h; rw [limbs_nonpos (by omega)]; simp
  | succ k ih =>
    intro n h
    by_cases h0 : n ≤ 0
    · rw [limbs_nonpos h0]; simp
    · rw [limbs_pos (by omega), List.length_cons]
      have := ih (n / 10000) (by rw [Int.pow_succ] at h; omega)
      omega
theorem val_append : ∀ (a b : List Int), val (a ++ b) = val a + 10000 ^ a.length * val b
  | [], b => by simp [val]
  | x :: r, b => by
    rw [List.cons_append, val, val, val_append r b, List.length_cons, Int.pow_succ, Int.mul_add]
    rw [Int.mul_comm (10000 ^ r.length) 10000, Int.mul_assoc]; omega
theorem val_lt : ∀ {l : List Int}, (∀ x ∈ l, 0 ≤ x ∧ x ≤ 9999) → val l < 10000 ^ l.length
  | [], _ => by decide
  | a :: r, h => by
    have h1 := h a (.head _)
    have h2 := val_lt (l := r) fun x hx => h x (.tail _ hx)
    rw [val, List.length_cons, Int.pow_succ]; omega
/-- the while's turn -/
theorem limbs_turn {n : Int} {ls l0 : List Int} (h : ls ++ limbs n = l0) (hn : 0 < n) : (ls ++ [n % 10000]) ++ limbs (n / 10000) = l0 := by
  rw [← h, limbs_pos hn]; simp
theorem limbs_done {n : Int} {ls l0 : List Int} (h : ls ++ limbs n = l0) (hn : n ≤ 0) : ls = l0 := by
  rw [← h, limbs_nonpos hn, List.append_nil]
/-- shifting -/
theorem val_replicate (k : Nat) (l : List Int) : val (List.replicate k 0 ++ l) = 10000 ^ k * val l := by
  induction k with
  | zero => simp
  | succ k ih => rw [List.replicate_succ, List.cons_append, val, ih, Int.pow_succ, Int.mul_comm (10000 ^ k) 10000, Int.mul_assoc]; omega
theorem limbs_shift {n : Int} (k : Nat) (hn : 0 < n) : limbs (n * 10000 ^ k) = List.replicate k 0 ++ limbs n := by
  induction k with
  | zero => simp
  | succ k ih =>
    have hp : (0 : Int) < 10000 ^ k := Int.pow_pos (by decide)
    have hp2 : 0 < n * 10000 ^ k := Int.mul_pos hn hp
    have e : n * 10000 ^ (k + 1) = 10000 * (n * 10000 ^ k) := by rw [Int.pow_succ, ← Int.mul_assoc, Int.mul_comm]
    rw [e, limbs_pos (by omega), List.replicate_succ, List.cons_append, ← ih]
    congr 1
    · omega
    · congr 1; omega
/-- the signs of an int's text -/
def dig (n : Nat) : List Nat := (Nat.toDigits 10 n).map Char.toNat
def dval (cs : List Nat) : Nat := cs.foldl (fun acc c => acc * 10 + (c - 48)) 0
theorem digitChar_nat : ∀ d : Nat, d < 10 → (Nat.digitChar d).toNat = 48 + d := by decide
theorem dig_lt {n : Nat} (h : n < 10) : dig n = [48 + n] := by
  unfold dig
  rw [Nat.toDigits_of_lt_base h, List.map_cons, List.map_nil, digitChar_nat n h]
theorem dig_ge {n : Nat} (h : 10 ≤ n) : dig n = dig (n / 10) ++ [48 + n % 10] := by
  unfold dig
  rw [Nat.toDigits_of_base_le (by decide) h, List.map_append, List.map_cons, List.map_nil, digitChar_nat _ (Nat.mod_lt _ (by decide))]
def pad4 (n : Nat) : List Nat := [48 + n / 1000, 48 + n / 100 % 10, 48 + n / 10 % 10, 48 + n % 10]
theorem pad4_eq {n : Nat} (h : n < 10000) : List.replicate (4 - (dig n).length) 48 ++ dig n = pad4 n := by
  unfold pad4
  by_cases h1 : n < 10
  · rw [dig_lt h1]
    simp; omega
  · by_cases h2 : n < 100
    · rw [dig_ge (by omega), dig_lt (by omega)]
      simp; omega
    · by_cases h3 : n < 1000
      · rw [dig_ge (by omega), dig_ge (n := n / 10) (by omega), dig_lt (by omega)]
        simp; omega
      · rw [dig_ge (by omega), dig_ge (n := n / 10) (by omega), dig_ge (n := n / 10 / 10) (by omega), dig_lt (by omega)]
        simp; omega
theorem dig_big {q r : Nat} (hq : 0 < q) (hr : r < 10000) : dig (q * 10000 + r) = dig q ++ pad4 r := by
  rw [dig_ge (by omega), dig_ge (n := (q * 10000 + r) / 10) (by omega), dig_ge (n := (q * 10000 + r) / 10 / 10) (by omega), dig_ge (n := (q * 10000 + r) / 10 / 10 / 10) (by omega)]
  have e : (q * 10000 + r) / 10 / 10 / 10 / 10 = q := by omega
  rw [e]
  unfold pad4
  simp only [List.append_assoc, List.cons_append, List.nil_append]
  congr 2
  · omega
  · congr 1
    · omega
    · congr 1
      · omega
      · congr 1; omega
theorem dval_foldl (cs : List Nat) : ∀ a : Nat, cs.foldl (fun acc c => acc * 10 + (c - 48)) a = a * 10 ^ cs.length + dval cs := by
  unfold dval
  induction cs with
  | nil => intro a; simp
  | cons c r ih =>
    intro a
    rw [List.foldl_cons, ih, List.foldl_cons, ih (0 * 10 + (c - 48)), List.length_cons, Nat.pow_succ, Nat.add_mul, Nat.zero_mul, Nat.zero_add, Nat.mul_assoc, Nat.mul_comm 10]
    omega
theorem dval_append (a b : List Nat) : dval (a ++ b) = dval a * 10 ^ b.length + dval b := by
  rw [← dval_foldl b (dval a)]
  unfold dval
  rw [List.foldl_append]
theorem dig_digits (n : Nat) : ∀ c ∈ dig n, 48 ≤ c ∧ c ≤ 57 := by
  induction n using Nat.strongRecOn with
  | _ n ih =>
    by_cases h : n < 10
    · rw [dig_lt h]; intro c hc; simp at hc; omega
    · rw [dig_ge (by omega)]
      intro c hc
      rcases List.mem_append.mp hc with hc | hc
      · exact ih (n / 10) (by omega) c hc
      · simp at hc; omega
theorem dig_ne (n : Nat) : dig n ≠ [] := by
  by_cases h : n < 10
  · rw [dig_lt h]; simp
  · rw [dig_ge (by omega)]; simp
theorem dval_dig (n : Nat) : dval (dig n) = n := by
  induction n using Nat.strongRecOn with
  | _ n ih =>
    by_cases h : n < 10
    · rw [dig_lt h]; simp [dval]
    · rw [dig_ge (by omega), dval_append, ih (n / 10) (by omega)]
      simp [dval]; omega
theorem dval_lt : ∀ cs : List Nat, (∀ c ∈ cs, 48 ≤ c ∧ c ≤ 57) → dval cs < 10 ^ cs.length := by
  intro cs
  induction cs with
  | nil => intro _; decide
  | cons c r ih =>
    intro h
    have h1 := h c (.head _)
    have h2 := ih fun x hx => h x (.tail _ hx)
    have e : dval (c :: r) = (c - 48) * 10 ^ r.length + dval r := by
      have := dval_append [c] r
      simpa [dval] using this
    rw [e, List.length_cons, Nat.pow_succ]
    have : (c - 48) * 10 ^ r.length ≤ 9 * 10 ^ r.length := Nat.mul_le_mul_right _ (by omega)
    omega
theorem dig_len_of {n k : Nat} (hk : 0 < k) (h : n < 10 ^ k) : (dig n).length ≤ k := by
  unfold dig
  rw [List.length_map]
  exact (Nat.length_toDigits_le_iff (by decide) hk).mpr h
/-- the chunks of four signs, from the low end -/
def chunks (cs : List Nat) : List Int := if h : cs = [] then [] else ((dval (cs.drop (cs.length - 4)) : Nat) : Int) :: chunks (cs.take (cs.length - 4))
termination_by cs.length
decreasing_by
  have : 0 < cs.length := List.length_pos_iff.mpr h
  rw [List.length_take]; omega
theorem chunks_nil : chunks [] = [] := by rw [chunks]; rfl
theorem chunks_ne {cs : List Nat} (h : cs ≠ []) : chunks cs = ((dval (cs.drop (cs.length - 4)) : Nat) : Int) :: chunks (cs.take (cs.length - 4)) := by
  rw [chunks, dif_neg h]
theorem val_cast_chunks : ∀ k : Nat, ∀ cs : List Nat, cs.length ≤ k → val (chunks cs) = ((dval cs : Nat) : Int) := by
  intro k
  induction k with
  | zero => intro cs h; have : cs = [] := List.length_eq_zero_iff.mp (by omega); subst this; rw [chunks_nil]; rfl
  | succ k ih =>
    intro cs h
    by_cases hc : cs = []
    · subst hc; rw [chunks_nil]; rfl
    · have hp : 0 < cs.length := List.length_pos_iff.mpr hc
      rw [chunks_ne hc, val, ih _ (by rw [List.length_take]; omega)]
      have e := dval_append (cs.take (cs.length - 4)) (cs.drop (cs.length - 4))
      rw [List.take_append_drop] at e
      by_cases h4 : 4 ≤ cs.length
      · have hl : (cs.drop (cs.length - 4)).length = 4 := by rw [List.length_drop]; omega
        rw [e, hl]; omega
      · have e0 : cs.length - 4 = 0 := by omega
        rw [e0] at e ⊢
        rw [e]
        simp [dval]
theorem val_chunks (cs : List Nat) : val (chunks cs) = ((dval cs : Nat) : Int) := val_cast_chunks _ cs (Nat.le_refl _)
theorem chunks_range : ∀ k : Nat, ∀ cs : List Nat, cs.length ≤ k → (∀ c ∈ cs, 48 ≤ c ∧ c ≤ 57) → ∀ x ∈ chunks cs, 0 ≤ x ∧ x ≤ 9999 := by
  intro k
  induction k with
  | zero => intro cs h _; have : cs = [] := List.length_eq_zero_iff.mp (by omega); subst this; rw [chunks_nil]; intro x hx; cases hx
  | succ k ih =>
    intro cs h hd
    by_cases hc : cs = []
    · subst hc; rw [chunks_nil]; intro x hx; cases hx
    · have hp : 0 < cs.length := List.length_pos_iff.mpr hc
      rw [chunks_ne hc]
      intro x hx
      rcases List.mem_cons.mp hx with rfl | hx
      · have h1 := dval_lt (cs.drop (cs.length - 4)) fun c hc => hd c (List.mem_of_mem_drop hc)
        have h2 : 10 ^ (cs.drop (cs.length - 4)).length ≤ 10 ^ 4 := Nat.pow_le_pow_right (by decide) (by rw [List.length_drop]; omega)
        omega
      · exact ih _ (by rw [List.length_take]; omega) (fun c hc => hd c (List.mem_of_mem_take hc)) x hx
theorem chunks_ok (cs : List Nat) (h : ∀ c ∈ cs, 48 ≤ c ∧ c ≤ 57) : ∀ x ∈ chunks cs, 0 ≤ x ∧ x ≤ 9999 := chunks_range _ cs (Nat.le_refl _) h
theorem val_take_zero {l : List Int} {n : Nat} (h : n < l.length) (h0 : l.getD n 0 = 0) : val (l.take n) = val (l.take (n + 1)) := by
  have e : l.take (n + 1) = l.take n ++ [l[n]] := List.take_succ_eq_append_getElem h
  have e0 : l[n] = 0 := by simpa [List.getD, h] using h0
  rw [e, val_append, e0]
  simp [val]
theorem trim_nf {l : List Int} {n : Nat} (hr : ∀ x ∈ l, 0 ≤ x ∧ x ≤ 9999) (hn : n ≤ l.length) (h : n = 0 ∨ l.getD (n - 1) 0 ≠ 0) : Nf (l.take n) := by
  refine ⟨fun x hx => hr x (List.mem_of_mem_take hx), fun hne => ?_⟩
  have hn0 : n ≠ 0 := by intro h0; subst h0; simp at hne
  rcases h with h | h
  · exact absurd h hn0
  · have hlt : n - 1 < l.length := by omega
    have e : (l.take n).getLast hne = l[n - 1] := by
      rw [List.getLast_eq_getElem]
      simp only [List.length_take, Nat.min_eq_left hn, List.getElem_take]
    rw [e]
    simpa [List.getD, hlt] using h
theorem trim_is {l : List Int} {n : Nat} (hr : ∀ x ∈ l, 0 ≤ x ∧ x ≤ 9999) (hn : n ≤ l.length) (h : n = 0 ∨ l.getD (n - 1) 0 ≠ 0) (hv : val (l.take n) = val l) : l.take n = limbs (val l) := by
  rw [← hv]; exact (limbs_val (trim_nf hr hn h)).symm
/-- the text of limbs, low end first -/
def textOf : List Int → List Nat
  | [] => []
  | [a] => dig a.toNat
  | a :: b :: r => textOf (b :: r) ++ pad4 a.toNat
theorem textOf_val : ∀ {l : List Int}, Nf l → l ≠ [] → textOf l = dig (val l).toNat
  | [], _, h => absurd rfl h
  | [a], _, _ => by simp [textOf, val]
  | a :: b :: r, h, _ => by
    have h1 := h.1 a (.head _)
    have hp := val_pos_of_nf h.tail (by simp)
    rw [textOf, textOf_val h.tail (by simp)]
    have e : (val (a :: b :: r)).toNat = (val (b :: r)).toNat * 10000 + a.toNat := by
      rw [val]; omega
    rw [e, dig_big (by omega) (by omega)]
/-- order -/
theorem limbs_len_mono (n : Int) : ∀ m : Int, n ≤ m → (limbs n).length ≤ (limbs m).length := by
  induction n using limbs_ind with
  | h0 n h => intro m _; rw [limbs_nonpos h]; simp
  | h1 n h ih =>
    intro m hm
    rw [limbs_pos h, limbs_pos (show 0 < m by omega), List.length_cons, List.length_cons]
    have := ih (m / 10000) (by omega)
    omega
theorem lt_of_len {m n : Int} (h : (limbs m).length < (limbs n).length) : m < n := by
  by_cases h' : m < n
  · exact h'
  · have := limbs_len_mono n m (by omega); omega
theorem val_lt_at : ∀ {a b : List Int} {i : Nat}, a.length = b.length → (∀ x ∈ a, 0 ≤ x ∧ x ≤ 9999) → (∀ x ∈ b, 0 ≤ x ∧ x ≤ 9999) → a.getD i 0 < b.getD i 0 → (∀ j, i < j → j < a.length → a.getD j 0 = b.getD j 0) → val a < val b
  | [], [], i, _, _, _, h, _ => by simp at h
  | [], y :: t, _, hl, _, _, _, _ => by simp at hl
  | x :: r, [], _, hl, _, _, _, _ => by simp at hl
  | x :: r, y :: t, 0, hl, ha, hb, h, he => by
    have e : r = t := by
      apply List.ext_getElem (by simpa using hl)
      intro j h1 h2
      have := he (j + 1) (by omega) (by rw [List.length_cons]; omega)
      simpa [List.getD, h1, h2] using this
    subst e
    simp at h
    rw [val, val]; omega
  | x :: r, y :: t, i + 1, hl, ha, hb, h, he => by
    have h1 := val_lt_at (a := r) (b := t) (i := i) (by simpa using hl) (fun z hz => ha z (.tail _ hz)) (fun z hz => hb z (.tail _ hz)) (by simpa [List.getD] using h) (fun j hj hj2 => by
      have := he (j + 1) (by omega) (by rw [List.length_cons]; omega)
      simpa [List.getD] using this)
    have h2 := ha x (.head _)
    have h3 := hb y (.head _)
    rw [val, val]; omega
theorem eq_of_getD {a b : List Int} (hl : a.length = b.length) (h : ∀ j, j < a.length → a.getD j 0 = b.getD j 0) : a = b := by
  apply List.ext_getElem hl
  intro j h1 h2
  have := h j h1
  simpa [List.getD, h1, h2] using this
theorem limbs_inj {m n : Int} (hm : 0 ≤ m) (hn : 0 ≤ n) (h : limbs m = limbs n) : m = n := by
  rw [← val_limbs m hm, ← val_limbs n hn, h]
end Mine

open PySem PySem.W PyProof.Rows
namespace Mine
/-- from_int's loop: what is laid out and what is still to come -/
structure Fi (n0 n : Int) (ls : List Int) : Prop where
  eq : ls ++ limbs n = limbs n0
theorem Fi.start {n : Int} : Fi n n [] := ⟨rfl⟩
theorem Fi.turn {n0 n : Int} {ls : List Int} (h : Fi n0 n ls) (hn : 0 < n) : Fi n0 (n.fdiv 10000) (ls ++ [n.fmod 10000]) := by
  rw [Int.fdiv_eq_ediv_of_nonneg _ (by decide), Int.fmod_eq_emod_of_nonneg _ (by decide)]
  exact ⟨limbs_turn h.eq hn⟩
theorem Fi.done {n0 n : Int} {ls : List Int} (h : Fi n0 n ls) (hn : ¬ 0 < n) : ls = limbs n0 := limbs_done h.eq (by omega)
theorem Fi.less {n : Int} (hn : 0 < n) : (n.fdiv 10000).toNat < n.toNat := by
  rw [Int.fdiv_eq_ediv_of_nonneg _ (by decide)]; omega
theorem Fi.len {n0 n : Int} {ls : List Int} {k : Nat} (h : Fi n0 n ls) (hn : 0 < n) (hb : n0 < 10000 ^ k) : (ls ++ [n.fmod 10000]).length ≤ k := by
  have h1 := limbs_len k n0 hb
  have h2 := (h.turn hn).eq
  rw [← h2, List.length_append] at h1
  omega
/-- few enough limbs -/
structure Cap (k : Nat) (n : Int) : Prop where
  lt : n < 10000 ^ k
end Mine

namespace Mine
/-- M is that power: kept shut, so that no closer writes it out -/
structure IsPow (b : Int) (e : Nat) (M : Int) : Prop where
  eq : M = b ^ e
theorem IsPow.pos {b : Int} {e : Nat} {M : Int} (h : IsPow b e M) (hb : 0 < b) : 0 < M := by
  rw [h.eq]; exact Int.pow_pos hb
theorem pow_up (a b : Nat) (h : a ≤ b) : (10000 : Int) ^ a ≤ 10000 ^ b := by
  obtain ⟨c, rfl⟩ := Nat.le.dest h
  rw [Int.pow_add]
  have h1 : (0 : Int) < 10000 ^ a := Int.pow_pos (by decide)
  have h2 : (0 : Int) < 10000 ^ c := Int.pow_pos (by decide)
  have h3 := Int.mul_le_mul_of_nonneg_left (show (1 : Int) ≤ 10000 ^ c by omega) (Int.le_of_lt h1)
  omega
theorem IsPow.le {e M : Int} {k : Nat} (h : IsPow 10000 e.toNat M) (he : e ≤ (k : Int)) : M ≤ 10000 ^ k := by
  rw [h.eq]
  exact pow_up _ _ (by omega)
section
variable {prog : Program} {w : World} {A : Around} {E : Value → Shared → Prop} {s : Shared} {t u : Tok} {Q : Value → Shared → Prop}
theorem pow_shut {b n : Int} (hb : 0 < b) (hb2 : b.natAbs < 2 ^ 64) (hn : 0 ≤ n) (hn2 : n ≤ 1000000) (h : ∀ M, IsPow b n.toNat M → 0 < M → Q (.int M s.toks) { s with toks := s.toks + 1 }) :
    wpAny (model prog w) A (binaryOp .Pow (.int b t) (.int n u)) Q E s :=
  pow_int_small hn hn2 hb2 (h _ ⟨rfl⟩ (Int.pow_pos hb))
end
end Mine

namespace Mine
/-- n is spelt by so many limbs, taken from the top -/
structure Acc (p : Nat) (n : Int) : Prop where
  lo : 0 ≤ n
  hi : n < 10000 ^ p
theorem Acc.start : Acc ([] : List Int).length 0 := ⟨by decide, by decide⟩
theorem Acc.turn {p : List Int} {n c k : Int} (h : Acc p.length n) : Acc (p ++ [k]).length (n * 10000 + c.fmod 10000) := by
  have h1 := fmod_lo c (n := 10000) (by decide)
  have h2 := fmod_hi c (n := 10000) (by decide)
  obtain ⟨h3, h4⟩ := h
  refine ⟨by omega, ?_⟩
  rw [List.length_append, List.length_cons, List.length_nil, Int.pow_succ]
  omega
theorem Acc.le {p : Nat} {n : Int} (h : Acc p n) (k : Nat) (hp : p ≤ k) : n < 10000 ^ k := Int.lt_of_lt_of_le h.hi (pow_up p k hp)
theorem Acc.cap {p : Nat} {n : Int} (h : Acc p n) {k : Nat} (hp : p ≤ k) : Cap k n := ⟨h.le k hp⟩
theorem Acc.bits {p : Nat} {n : Int} (h : Acc p n) (hp : p ≤ 4) : PySem.Builtin.Int.intBits n ≤ 64 := by
  have h1 := h.le 4 hp
  have h2 := h.lo
  have e : (10000 : Int) ^ 4 = 10000000000000000 := by decide
  exact PySem.intBits_le_64 (by omega) (by omega)
end Mine

namespace Mine
/-- a number laid out limb by limb: the row, how far it reaches without zeros on top, its value and the next place's weight -/
structure Lay (row : List Int) (top value weight : Int) : Prop where
  lim : ∀ x ∈ row, 0 ≤ x ∧ x ≤ 9999
  v : value = val row
  w : weight = 10000 ^ row.length
  tv : val (row.take top.toNat) = val row
  tn : top.toNat = 0 ∨ row.getD (top.toNat - 1) 0 ≠ 0
theorem Lay.start : Lay [] 0 0 1 := ⟨(fun _ h => nomatch h), rfl, rfl, rfl, Or.inl rfl⟩
theorem snoc_lim {l : List Int} {x : Int} (h : ∀ x ∈ l, 0 ≤ x ∧ x ≤ 9999) (h0 : 0 ≤ x) (h1 : x ≤ 9999) : ∀ y ∈ l ++ [x], 0 ≤ y ∧ y ≤ 9999 := by
  intro y hy
  rcases List.mem_append.mp hy with hy | hy
  · exact h y hy
  · rw [List.mem_singleton.mp hy]; exact ⟨h0, h1⟩
theorem val_snoc (l : List Int) (x : Int) : val (l ++ [x]) = val l + x * 10000 ^ l.length := by
  rw [val_append, val, val, Int.mul_comm x]; simp
theorem Lay.more {row : List Int} {top value weight i x : Int} (h : Lay row top value weight) (hi : i.toNat = row.length) (h2 : 0 ≤ i) (h0 : 0 ≤ x) (h1 : x ≤ 9999) (hx : x ≠ 0) : Lay (row ++ [x]) (i + 1) (value + x * weight) (weight * 10000) := by
  have e : (i + 1).toNat = row.length + 1 := by omega
  have e2 : (row ++ [x]).length = row.length + 1 := by simp
  refine ⟨snoc_lim h.lim h0 h1, ?_, ?_, ?_, ?_⟩
  · rw [val_snoc, h.v, h.w]
  · rw [h.w, e2, Int.pow_succ]
  · rw [e, ← e2, List.take_length]
  · right
    rw [e]
    have : (row ++ [x]).getD (row.length + 1 - 1) 0 = x := by simp [List.getD]
    rw [this]; exact hx
theorem Lay.zero {row : List Int} {top value weight x : Int} (h : Lay row top value weight) (ht : top.toNat ≤ row.length) (hx : x = 0) : Lay (row ++ [x]) top (value + x * weight) (weight * 10000) := by
  subst hx
  have e2 : (row ++ [(0 : Int)]).length = row.length + 1 := by simp
  refine ⟨snoc_lim h.lim (by decide) (by decide), ?_, ?_, ?_, ?_⟩
  · rw [val_snoc, h.v, h.w]
  · rw [h.w, e2, Int.pow_succ]
  · rw [List.take_append_of_le_length ht, h.tv, val_snoc]; omega
  · rcases h.tn with h3 | h3
    · exact Or.inl h3
    · by_cases h4 : top.toNat = 0
      · exact Or.inl h4
      · right
        have e3 : (row ++ [(0 : Int)]).getD (top.toNat - 1) 0 = row.getD (top.toNat - 1) 0 := by
          have hl : top.toNat - 1 < row.length := by omega
          simp [List.getD, List.getElem?_append_left hl]
        rw [e3]; exact h3
/-- value 0 * weight may be written so -/
theorem Lay.is {row : List Int} {top value weight : Int} (h : Lay row top value weight) (ht : top.toNat ≤ row.length) : row.take top.toNat = limbs value := by
  rw [h.v]; exact trim_is h.lim ht h.tn h.tv
theorem Lay.lt {row : List Int} {top value weight : Int} (h : Lay row top value weight) : value < 10000 ^ row.length := by
  rw [h.v]; exact val_lt h.lim
/-- spelt from the high end -/
structure Back (pre : List Int) (b : Int) : Prop where
  eq : b = val pre.reverse
theorem Back.start : Back [] 0 := ⟨rfl⟩
theorem Back.turn {pre : List Int} {b x : Int} (h : Back pre b) : Back (pre ++ [x]) (b * 10000 + x) := by
  refine ⟨?_⟩
  rw [List.reverse_append, List.reverse_cons, List.reverse_nil, List.nil_append, List.cons_append, List.nil_append, val, h.eq]
  omega
theorem Back.done {ls : List Int} {b : Int} (h : Back ls.reverse b) : b = val ls := by
  rw [h.eq, List.reverse_reverse]
end Mine

namespace Mine
theorem bits_mod {c : Int} : PySem.Builtin.Int.intBits (c.fmod 10000) ≤ 64 := by
  have h1 := fmod_hi c (n := 10000) (by decide)
  have h2 := fmod_lo c (n := 10000) (by decide)
  exact PySem.intBits_le_64 (by omega) (by omega)
theorem Lay.acc {row : List Int} {top value weight : Int} (h : Lay row top value weight) (hl : row.length < 8) : Acc 11 value := by
  refine ⟨by rw [h.v]; exact val_nonneg h.lim, ?_⟩
  exact Int.lt_of_lt_of_le h.lt (pow_up _ 11 (by omega))
theorem acc40 {c M : Int} (h : IsPow 10 (Int.toNat 40) M) : Acc 11 (c.fmod M) := by
  have hp := h.pos (by decide)
  have h1 := fmod_hi c hp
  have h2 := h.eq
  have e : (10 : Int) ^ (Int.toNat 40) < 10000 ^ 11 := by decide
  exact ⟨fmod_lo c hp, by omega⟩
theorem fm_rng (c : Int) : 0 ≤ c.fmod 10000 ∧ c.fmod 10000 ≤ 9999 := by
  have h1 := fmod_hi c (n := 10000) (by decide)
  have h2 := fmod_lo c (n := 10000) (by decide)
  omega
theorem bad_row {row ls : List Int} {top value weight m : Int} (hne : ¬ ls = List.take top.toNat row) (hL : Lay row top value weight) (h1 : top ≤ (row.length : Int)) (hF : Fi value m ls) (hm : ¬ 0 < m) : False :=
  hne ((hF.done hm).trans (hL.is (by omega)).symm)
theorem bad_lo {n m x : Int} {ls : List Int} (hx : x < 0) (hmem : x ∈ ls.reverse) (hF : Fi n m ls) (hm : ¬ 0 < m) : False := by
  rw [hF.done hm] at hmem
  have := limbs_range n x (List.mem_reverse.mp hmem)
  omega
theorem bad_hi {n m x : Int} {ls : List Int} (hx : 9999 < x) (hmem : x ∈ ls.reverse) (hF : Fi n m ls) (hm : ¬ 0 < m) : False := by
  rw [hF.done hm] at hmem
  have := limbs_range n x (List.mem_reverse.mp hmem)
  omega
theorem bad_back {n m b : Int} {ls : List Int} (hb : Back ls.reverse b) (hF : Fi n m ls) (hm : ¬ 0 < m) (hA : Acc 11 n) (hne : b ≠ n) : False := by
  have := hb.done
  rw [hF.done hm, val_limbs n hA.lo] at this
  exact hne this
theorem bad_top {n m : Int} {ls : List Int} (h0 : ls.getD (-1 + (ls.length : Int)).toNat 0 = 0) (hl : 0 < (ls.length : Int)) (hF : Fi n m ls) (hm : ¬ 0 < m) : False := by
  have e := hF.done hm
  subst e
  have hne : limbs n ≠ [] := by intro h; rw [h] at hl; exact absurd hl (by decide)
  have h1 := limbs_last n hne
  have e2 : (-1 + ((limbs n).length : Int)).toNat = (limbs n).length - 1 := by omega
  rw [e2] at h0
  have hlt : (limbs n).length - 1 < (limbs n).length := by omega
  rw [List.getLast_eq_getElem] at h1
  exact h1 (by simpa [List.getD, hlt] using h0)
end Mine
local macro_rules | `(tactic| walk_at "binaryOp Mult int int") => `(tactic| first | (with_reducible refine mul_int ?_ (PySem.IntMulOk.of_right (by decide))) | (with_reducible refine mul_int ?_ (PySem.IntMulOk.of_left (by decide))) | (with_reducible refine mul_int ?_ (PySem.IntMulOk.of_left Mine.bits_mod)))
local macro_rules | `(tactic| walk_at "binaryOp Pow int int") => `(tactic| ((try k_fmods); (with_reducible refine Mine.pow_shut (by decide) (by decide) ?pa ?pb ?_); (case pa => omega); (case pb => omega); (intro kM kPow kPos)))
local macro_rules | `(tactic| walk_at "call type:range") => `(tactic| ((rename Fr _ _ _ _ => F'); (rename News _ _ _ _ => N'); (with_unfolding_all refine range1_rows F' N' ?_); (intro _ _ _ _ _ _ _ _ _)))
local macro_rules | `(tactic| walk_at "exec Return some") => `(tactic| (exfalso; first | exact absurd trivial (fun _ => Mine.bad_top (by assumption) (by assumption) (by assumption) (by assumption)) | exact absurd trivial (fun _ => Mine.bad_row (by assumption) (by assumption) (by assumption) (by assumption) (by assumption)) | exact absurd trivial (fun _ => Mine.bad_lo (by assumption) (by assumption) (by assumption) (by assumption)) | exact absurd trivial (fun _ => Mine.bad_hi (by assumption) (by assumption) (by assumption) (by assumption)) | exact absurd trivial (fun _ => Mine.bad_back (by assumption) (by assumption) (by assumption) (by assumption) (by assumption))))
local macro_rules | `(tactic| law_fin) => `(tactic| first | exact absurd trivial (fun _ => Mine.bad_top (by assumption) (by assumption) (by assumption) (by assumption)) | exact absurd trivial (fun _ => Mine.bad_row (by assumption) (by assumption) (by assumption) (by assumption) (by assumption)) | exact absurd trivial (fun _ => Mine.bad_lo (by assumption) (by assumption) (by assumption) (by assumption)) | exact absurd trivial (fun _ => Mine.bad_hi (by assumption) (by assumption) (by assumption) (by assumption)) | exact absurd trivial (fun _ => Mine.bad_back (by assumption) (by assumption) (by assumption) (by assumption) (by assumption)))
local macro_rules | `(tactic| walk_at "InvEndN") => `(tactic| k_dflt kst_close)
local macro_rules | `(tactic| walk_at "InvEndN") => `(tactic| k_dflt ksr_close)
local macro_rules | `(tactic| walk_at "KswEnd") => `(tactic| k_dflt ksw_close)
set_option maxRecDepth 100000 in
set_option maxHeartbeats 8000000 in
theorem PySem.Challenge.cw_k8_0003_holds : PySem.Challenge.rw_k8_0003.Holds := by
  k_with "exec While Compare cons nil" => k_while_given ["n!"] (fun n0 _ n ls => Mine.Fi n0 n ls ∧ Mine.Acc 11 n0 ∧ ls.length ≤ 11) (fun _ _ n _ => n.toNat) "n" "limbs"
  k_with "pyIter ref" => (k_of "i" => k_state (fun pre row top value weight => row.length = pre.length ∧ row.length < 8 ∧ 0 ≤ top ∧ top ≤ (row.length : Int) ∧ Mine.Lay row top value weight) "row" "top" "value" "weight")
  k_with "pyIter ref" => (k_of "x" => k_state (fun pre b => Mine.Back pre b) "back")
  k_with "state" => first | exact ⟨rfl, by decide, by decide, by decide, Mine.Lay.start⟩ | exact Mine.Back.start | exact Mine.Back.turn (by assumption) | exact ⟨by simp only [List.length_append, List.length_cons, List.length_nil]; omega, by simp only [List.length_append, List.length_cons, List.length_nil]; k_fmods; omega, by omega, by simp only [List.length_append, List.length_cons, List.length_nil]; omega, Mine.Lay.zero (by assumption) (by omega) rfl⟩ | exact ⟨by simp only [List.length_append, List.length_cons, List.length_nil]; omega, by simp only [List.length_append, List.length_cons, List.length_nil]; k_fmods; omega, by omega, by simp only [List.length_append, List.length_cons, List.length_nil]; omega, Mine.Lay.more (by assumption) (by omega) (by omega) (by decide) (by decide) (by decide)⟩ | exact ⟨by simp only [List.length_append, List.length_cons, List.length_nil]; omega, by simp only [List.length_append, List.length_cons, List.length_nil]; k_fmods; omega, by omega, by simp only [List.length_append, List.length_cons, List.length_nil]; omega, Mine.Lay.more (by assumption) (by omega) (by omega) (Mine.fm_rng _).1 (Mine.fm_rng _).2 (by assumption)⟩ | exact ⟨by simp only [List.length_append, List.length_cons, List.length_nil]; omega, by simp only [List.length_append, List.length_cons, List.length_nil]; k_fmods; omega, by omega, by simp only [List.length_append, List.length_cons, List.length_nil]; omega, Mine.Lay.zero (by assumption) (by omega) (by assumption)⟩ | exact ⟨Mine.Fi.start, Mine.Lay.acc (by assumption) (by assumption), by decide⟩ | exact ⟨Mine.Fi.start, Mine.acc40 (by assumption), by decide⟩ | exact ⟨Mine.Fi.turn (by assumption) (by assumption), by assumption, Mine.Fi.len (by assumption) (by assumption) (Mine.Acc.hi (by assumption))⟩
  k_with "measure" => exact Mine.Fi.less (by assumption)
  open_k
