import PyProof.Rows.All
import Wide.All
import OpenK.AllK
import Wide.FinOn
import PySem.Challenge.RW_k8_0022
set_option Elab.async false
open PySem PySem.W PyProof.Rows
namespace Mine
section
variable {prog : Program} {w : World} {A : Around} {E : Value → Shared → Prop} {s : Shared} {h₀ : Heap} {L a b l l' : Addr} {news : List (Addr × Obj)} {x y : Int} {t u : Tok} {vs us : List Value} {ns ms : List Int} {c d : Nat} {Q : Value → Shared → Prop}
theorem shaped_pair (x : Int) (ns : List Int) : SeqAt.shaped (.tuple [.int x, .list (ns.map PyData.int)]) = true := by
  simp [SeqAt.shaped, PyData.canLay0, PyData.canLayAll0, PyData.depth, PyData.depthAll, ke_canLayAll0, ke_depthAll]
theorem eqv_pair (x y : Int) (ns ms : List Int) : PyData.eqv (.tuple [.int x, .list (ns.map PyData.int)]) (.tuple [.int y, .list (ms.map PyData.int)]) = (decide (x = y) && decide (ns = ms)) := by
  simp only [PyData.eqv, PyData.eqvAll, ked_eqvAll, Bool.and_true]
  by_cases h : x = y <;> simp [h]
theorem reads_pair (N : News h₀ L s.heap news) (ha : (a, ({ cls := .type "tuple", data := .seq #[.int x t, .ref l] c } : Obj)) ∈ news) (hl : s.heap.IsList l vs.toArray) (hi : IntsAre vs ns) :
    Reads s.heap (.ref a) (.tuple [.int x, .list (ns.map PyData.int)]) ([] ++ ([l] ++ [])) :=
  Reads.tuple (N _ ha).1 rfl rfl (.cons (.int x t) (.cons (reads_newData hl (ke_carried hi)) .nil))
theorem ne_pairs (N : News h₀ L s.heap news) (ha : (a, ({ cls := .type "tuple", data := .seq #[.int x t, .ref l] c } : Obj)) ∈ news) (hb : (b, ({ cls := .type "tuple", data := .seq #[.int y u, .ref l'] d } : Obj)) ∈ news)
    (hl : s.heap.IsList l vs.toArray) (hi : IntsAre vs ns) (hl' : s.heap.IsList l' us.toArray) (hi' : IntsAre us ms) (hu : A.units + 64 < cLine) (h : Q (.bool (!(decide (x = y) && decide (ns = ms)))) s) :
    wpAny (model prog w) A (compareOp .NotEq (.ref a) (.ref b)) Q E s := by
  refine ne_dataH (reads_pair N ha hl hi) (reads_pair N hb hl' hi') (shaped_pair _ _) (shaped_pair _ _) hu ?_
  rw [eqv_pair]
  exact h
end
end Mine

namespace Mine
/-- the ways of a statement meet: x holds an int of which Good is known, all else stands -/
structure JoinP (x : Str) (Good : Int → Prop) (h₀ : Heap) (L : Addr) (m : Str → Option Value) (news : List (Addr × Obj)) (s : Shared) (f : Flow) (s' : Shared) : Prop where
  next : f = .next
  here : ∃ (r : Int) (t : Tok) (h : Heap) (tk : Nat), Good r ∧ s' = { s with heap := h, toks := tk } ∧ Fr h₀ L h (fun y => if y = x then some (.int r t) else m y) ∧ News h₀ L h news
/-- we are within such a statement -/
structure InJoin : Prop where
structure JoinK (P : Prop) : Prop where
  out : P
section
variable {M : Model} {A : Around} {E : Value → Shared → Prop} {s : Shared} {env : Env} {h₀ : Heap} {L : Addr} {m : Str → Option Value} {news : List (Addr × Obj)} {Q : Flow → Shared → Prop} {st : Stmt}
theorem JoinP.mk' {x : Str} {Good : Int → Prop} {r : Int} {t : Tok} {h : Heap} {tk : Nat} (F : Fr h₀ L h (fun y => if y = x then some (.int r t) else m y)) (N : News h₀ L h news) (g : Good r) :
    JoinP x Good h₀ L m news s .next { s with heap := h, toks := tk } := ⟨rfl, r, t, h, tk, g, rfl, F, N⟩
theorem join_if (x : Str) (Good : Int → Prop) (_F : Fr h₀ L s.heap m) (_N : News h₀ L s.heap news)
    (h1 : InJoin → wpAny M A (exec st env) (fun f s₃ => JoinP x Good h₀ L m news s f s₃) E s)
    (h2 : JoinK (∀ (r : Int) (t : Tok) (h : Heap) (tk : Nat), Good r → Fr h₀ L h (fun y => if y = x then some (.int r t) else m y) → News h₀ L h news → Q .next { s with heap := h, toks := tk })) :
    wpAny M A (exec st env) Q E s := by
  refine wpAny_mono (h1 ⟨⟩) (fun f s₃ hf => ?_) fun _ _ h => h
  obtain ⟨hf, r, t, h, tk, g, e, F, N⟩ := hf
  subst hf
  subst e
  exact h2.out r t h tk g F N
/-- the ways of a statement meet where it stores nothing -/
structure JoinS (h₀ : Heap) (L : Addr) (m : Str → Option Value) (news : List (Addr × Obj)) (s : Shared) (f : Flow) (s' : Shared) : Prop where
  next : f = .next
  here : ∃ (h : Heap) (tk : Nat), s' = { s with heap := h, toks := tk } ∧ Fr h₀ L h m ∧ News h₀ L h news
theorem JoinS.mk' {h : Heap} {tk : Nat} (F : Fr h₀ L h m) (N : News h₀ L h news) : JoinS h₀ L m news s .next { s with heap := h, toks := tk } := ⟨rfl, h, tk, rfl, F, N⟩
theorem join_stmt (_F : Fr h₀ L s.heap m) (_N : News h₀ L s.heap news)
    (h1 : InJoin → wpAny M A (exec st env) (fun f s₃ => JoinS h₀ L m news s f s₃) E s)
    (h2 : JoinK (∀ (h : Heap) (tk : Nat), Fr h₀ L h m → News h₀ L h news → Q .next { s with heap := h, toks := tk })) :
    wpAny M A (exec st env) Q E s := by
  refine wpAny_mono (h1 ⟨⟩) (fun f s₃ hf => ?_) fun _ _ h => h
  obtain ⟨hf, h, tk, e, F, N⟩ := hf
  subst hf
  subst e
  exact h2.out h tk F N
theorem frame_same {x : Str} {v : Value} {h : Heap} (hm : m x = some v) (F : Fr h₀ L h m) : Fr h₀ L h (fun y => if y = x then some v else m y) := by
  have e : (fun y => if y = x then some v else m y) = m := by
    funext y
    by_cases hy : y = x
    · rw [if_pos hy, hy, hm]
    · rw [if_neg hy]
  rw [e]; exact F
theorem JoinP.same {x : Str} {Good : Int → Prop} {r : Int} {t : Tok} {h : Heap} {tk : Nat} (F : Fr h₀ L h m) (hm : m x = some (.int r t)) (N : News h₀ L h news) (g : Good r) :
    JoinP x Good h₀ L m news s .next { s with heap := h, toks := tk } := ⟨rfl, r, t, h, tk, g, rfl, frame_same hm F, N⟩
/-- the ways of a statement meet: x holds a list of ints of which Good is known -/
structure JoinL (x : Str) (Good : List Int → Prop) (h₀ : Heap) (L : Addr) (m : Str → Option Value) (news : List (Addr × Obj)) (s : Shared) (f : Flow) (s' : Shared) : Prop where
  next : f = .next
  here : ∃ (a : Addr) (us : List Value) (ns : List Int) (c : Nat) (h : Heap) (tk : Nat), Good ns ∧ IntsAre us ns ∧ s' = { s with heap := h, toks := tk } ∧ Fr h₀ L h (fun y => if y = x then some (.ref a) else m y) ∧ News h₀ L h ((a, W.listOf us.toArray c) :: news)
theorem news_cons {h : Heap} {news' : List (Addr × Obj)} {p : Addr × Obj} (N : News h₀ L h news') (hp : p ∈ news') (hs : ∀ q ∈ news, q ∈ news') : News h₀ L h (p :: news) := fun q hq => by
  rcases List.mem_cons.mp hq with e | hq
  · rw [e]; exact N p hp
  · exact N q (hs q hq)
theorem JoinL.mk' {x : Str} {Good : List Int → Prop} {a : Addr} {us : List Value} {ns : List Int} {c : Nat} {h : Heap} {tk : Nat} {news' : List (Addr × Obj)} (F : Fr h₀ L h (fun y => if y = x then some (.ref a) else m y)) (N : News h₀ L h news') (hs : ∀ q ∈ news, q ∈ news') (hp : (a, W.listOf us.toArray c) ∈ news') (hi : IntsAre us ns) (g : Good ns) :
    JoinL x Good h₀ L m news s .next { s with heap := h, toks := tk } := ⟨rfl, a, us, ns, c, h, tk, g, hi, rfl, F, news_cons N hp hs⟩
theorem JoinL.same {x : Str} {Good : List Int → Prop} {a : Addr} {us : List Value} {ns : List Int} {c : Nat} {h : Heap} {tk : Nat} {news' : List (Addr × Obj)} (F : Fr h₀ L h m) (hm : m x = some (.ref a)) (N : News h₀ L h news') (hs : ∀ q ∈ news, q ∈ news') (hp : (a, W.listOf us.toArray c) ∈ news') (hi : IntsAre us ns) (g : Good ns) :
    JoinL x Good h₀ L m news s .next { s with heap := h, toks := tk } := ⟨rfl, a, us, ns, c, h, tk, g, hi, rfl, frame_same hm F, news_cons N hp hs⟩
theorem join_list (x : Str) (Good : List Int → Prop) (_F : Fr h₀ L s.heap m) (_N : News h₀ L s.heap news)
    (h1 : InJoin → wpAny M A (exec st env) (fun f s₃ => JoinL x Good h₀ L m news s f s₃) E s)
    (h2 : JoinK (∀ (a : Addr) (us : List Value) (ns : List Int) (c : Nat) (h : Heap) (tk : Nat), Good ns → IntsAre us ns → Fr h₀ L h (fun y => if y = x then some (.ref a) else m y) → News h₀ L h ((a, W.listOf us.toArray c) :: news) → Q .next { s with heap := h, toks := tk })) :
    wpAny M A (exec st env) Q E s := by
  refine wpAny_mono (h1 ⟨⟩) (fun f s₃ hf => ?_) fun _ _ h => h
  obtain ⟨hf, a, us, ns, c, h, tk, g, hi, e, F, N⟩ := hf
  subst hf
  subst e
  exact h2.out a us ns c h tk g hi F N
/-- the ways of a statement meet: x holds a bool of which Good is known -/
structure JoinB (x : Str) (Good : Bool → Prop) (h₀ : Heap) (L : Addr) (m : Str → Option Value) (news : List (Addr × Obj)) (s : Shared) (f : Flow) (s' : Shared) : Prop where
  next : f = .next
  here : ∃ (b : Bool) (h : Heap) (tk : Nat), Good b ∧ s' = { s with heap := h, toks := tk } ∧ Fr h₀ L h (fun y => if y = x then some (.bool b) else m y) ∧ News h₀ L h news
theorem JoinB.mk' {x : Str} {Good : Bool → Prop} {b : Bool} {h : Heap} {tk : Nat} (F : Fr h₀ L h (fun y => if y = x then some (.bool b) else m y)) (N : News h₀ L h news) (g : Good b) :
    JoinB x Good h₀ L m news s .next { s with heap := h, toks := tk } := ⟨rfl, b, h, tk, g, rfl, F, N⟩
theorem JoinB.same {x : Str} {Good : Bool → Prop} {b : Bool} {h : Heap} {tk : Nat} (F : Fr h₀ L h m) (hm : m x = some (.bool b)) (N : News h₀ L h news) (g : Good b) :
    JoinB x Good h₀ L m news s .next { s with heap := h, toks := tk } := ⟨rfl, b, h, tk, g, rfl, frame_same hm F, N⟩
theorem join_bool (x : Str) (Good : Bool → Prop) (_F : Fr h₀ L s.heap m) (_N : News h₀ L s.heap news)
    (h1 : InJoin → wpAny M A (exec st env) (fun f s₃ => JoinB x Good h₀ L m news s f s₃) E s)
    (h2 : JoinK (∀ (b : Bool) (h : Heap) (tk : Nat), Good b → Fr h₀ L h (fun y => if y = x then some (.bool b) else m y) → News h₀ L h news → Q .next { s with heap := h, toks := tk })) :
    wpAny M A (exec st env) Q E s := by
  refine wpAny_mono (h1 ⟨⟩) (fun f s₃ hf => ?_) fun _ _ h => h
  obtain ⟨hf, b, h, tk, g, e, F, N⟩ := hf
  subst hf
  subst e
  exact h2.out b h tk g F N
end
end Mine

namespace Mine
/-- the number that limbs spell, low end first -/
def val : List Int → Int
  | [] => 0
  | a :: r => a + 10000 * val r
def limbsN (n : Nat) : List Int := if h : n = 0 then [] else ((n % 10000 : Nat) : Int) :: limbsN (n / 10000)
termination_by n
decreasing_by omega
/-- the limbs of an int, low end first; none for what is not above zero -/
def limbs (n : Int) : List Int := limbsN n.toNat

theorem limbs_nonpos {n : Int} (h : n ≤ 0) : limbs n = [] := by
  unfold limbs
  rw [Int.toNat_of_nonpos h, limbsN]; rfl
theorem limbs_pos {n : Int} (h : 0 < n) : limbs n = (n % 10000) :: limbs (n / 10000) := by
  unfold limbs
  rw [limbsN, dif_neg (by omega)]
  congr 1
  · omega
  · congr 1; omega
theorem limbs_ind {P : Int → Prop} (h0 : ∀ n, n ≤ 0 → P n) (h1 : ∀ n, 0 < n → P (n / 10000) → P n) (n : Int) : P n := by
  have : ∀ k : Nat, ∀ n : Int, n.toNat ≤ k → P n := by
    intro k
    induction k with
    | zero => intro n hn; exact h0 n (by omega)
    | succ k ih =>
      intro n hn
      by_cases h : n ≤ 0
      · exact h0 n h
      · exact h1 n (by omega) (ih _ (by omega))
  exact this _ n (Nat.le_refl _)
theorem val_limbs (n : Int) : 0 ≤ n → val (limbs n) = n := by
  induction n using limbs_ind with
  | h0 n h => intro h'; rw [limbs_nonpos h, val]; omega
  | h1 n h ih => intro _; rw [limbs_pos h, val, ih (by omega)]; omega
theorem limbs_range (n : Int) : ∀ x ∈ limbs n, 0 ≤ x ∧ x ≤ 9999 := by
  induction n using limbs_ind with
  | h0 n h => rw [limbs_nonpos h]; intro x hx; cases hx
  | h1 n h ih =>
    rw [limbs_pos h]
    intro x hx
    rcases List.mem_cons.mp hx with rfl | hx
    · omega
    · exact ih x hx
/-- in normal form -/
def Nf (l : List Int) : Prop := (∀ x ∈ l, 0 ≤ x ∧ x ≤ 9999) ∧ ∀ h : l ≠ [], l.getLast h ≠ 0
theorem limbs_last (n : Int) : ∀ h : limbs n ≠ [], (limbs n).getLast h ≠ 0 := by
  induction n using limbs_ind with
  | h0 n h => intro h'; exact absurd (limbs_nonpos h) h'
  | h1 n h ih =>
    intro hne
    by_cases h2 : n / 10000 ≤ 0
    · have e : limbs n = [n % 10000] := by rw [limbs_pos h, limbs_nonpos h2]
      have : (limbs n).getLast hne = n % 10000 := by simp [e]
      omega
    · have hne2 : limbs (n / 10000) ≠ [] := by rw [limbs_pos (by omega)]; simp
      have : (limbs n).getLast hne = (limbs (n / 10000)).getLast hne2 := by
        simp [limbs_pos h, List.getLast_cons hne2]
      rw [this]; exact ih hne2
theorem limbs_nf (n : Int) : Nf (limbs n) := ⟨limbs_range n, limbs_last n⟩
theorem Nf.tail {a : Int} {l : List Int} (h : Nf (a :: l)) : Nf l :=
  ⟨fun x hx => h.1 x (.tail _ hx), fun hne => by have := h.2 (by simp); rwa [List.getLast_cons hne] at this⟩
theorem val_nonneg : ∀ {l : List Int}, (∀ x ∈ l, 0 ≤ x ∧ x ≤ 9999) → 0 ≤ val l
  | [], _ => Int.le_refl _
  | a :: r, h => by
    have h1 := h a (.head _)
    have h2 := val_nonneg (l := r) fun x hx => h x (.tail _ hx)
    rw [val]; omega
theorem val_pos_of_nf : ∀ {l : List Int}, Nf l → l ≠ [] → 0 < val l
  | [], _, h => absurd rfl h
  | [a], h, _ => by
    have h1 := h.1 a (.head _)
    have h2 := h.2 (by simp)
    simp at h2
    simp only [val]; omega
  | a :: b :: r, h, _ => by
    have h1 := h.1 a (.head _)
    have h2 := val_pos_of_nf h.tail (by simp)
    rw [val]; omega
theorem limbs_val : ∀ {l : List Int}, Nf l → limbs (val l) = l
  | [], _ => limbs_nonpos (Int.le_refl _)
  | a :: r, h => by
    have h1 := h.1 a (.head _)
    have hp := val_pos_of_nf h (by simp)
    rw [limbs_pos hp]
    have e1 : val (a :: r) % 10000 = a := by rw [val]; omega
    have e2 : val (a :: r) / 10000 = val r := by rw [val]; omega
    rw [e1, e2, limbs_val h.tail]
theorem nf_eq {a b : List Int} (ha : Nf a) (hb : Nf b) (h : val a = val b) : a = b := by
  rw [← limbs_val ha, ← limbs_val hb, h]
theorem limbs_len (k : Nat) : ∀ n : Int, n < 10000 ^ k → (limbs n).length ≤ k := by
  induction k with
  | zero => intro n h; rw [limbs_nonpos (by omega)]; simp
  | succ k ih =>
    intro n h
    by_cases h0 : n ≤ 0
    · rw [limbs_nonpos h0]; simp
    · rw [limbs_pos (by omega), List.length_cons]
      have := ih (n / 10000) (by rw [Int.pow_succ] at h; omega)
      omega
theorem val_append : ∀ (a b : List Int), val (a ++ b) = val a + 10000 ^ a.length * val b
  | [], b => by simp [val]
  | x :: r, b => by
    rw [List.cons_append, val, val, val_append r b, List.length_cons, Int.pow_succ, Int.mul_add]
    rw [Int.mul_comm (10000 ^ r.length) 10000, Int.mul_assoc]; omega
theorem val_lt : ∀ {l : List Int}, (∀ x ∈ l, 0 ≤ x ∧ x ≤ 9999) → val l < 10000 ^ l.length
  | [], _ => by decide
  | a :: r, h => by
    have h1 := h a (.head _)
    have h2 := val_lt (l := r) fun x hx => h x (.tail _ hx)
    rw [val, List.length_cons, Int.pow_succ]; omega
/-- the while's turn -/
theorem limbs_turn {n : Int} {ls l0 : List Int} (h : ls ++ limbs n = l0) (hn : 0 < n) : (ls ++ [n % 10000]) ++ limbs (n / 10000) = l0 := by
  rw [← h, limbs_pos hn]; simp
theorem limbs_done {n : Int} {ls l0 : List Int} (h : ls ++ limbs n = l0) (hn : n ≤ 0) : ls = l0 := by
  rw [← h, limbs_nonpos hn, List.append_nil]
/-- shifting -/
theorem val_replicate (k : Nat) (l : List Int) : val (List.replicate k 0 ++ l) = 10000 ^ k * val l := by
  induction k with
  | zero => simp
  | succ k ih => rw [List.replicate_succ, List.cons_append, val, ih, Int.pow_succ, Int.mul_comm (10000 ^ k) 10000, Int.mul_assoc]; omega
theorem limbs_shift {n : Int} (k : Nat) (hn : 0 < n) : limbs (n * 10000 ^ k) = List.replicate k 0 ++ limbs n := by
  induction k with
  | zero => simp
  | succ k ih =>
    have hp : (0 : Int) < 10000 ^ k := Int.pow_pos (by decide)
    have hp2 : 0 < n * 10000 ^ k := Int.mul_pos hn hp
    have e : n * 10000 ^ (k + 1) = 10000 * (n * 10000 ^ k) := by rw [Int.pow_succ, ← Int.mul_assoc, Int.mul_comm]
    rw [e, limbs_pos (by omega), List.replicate_succ, List.cons_append, ← ih]
    congr 1
    · omega
    · congr 1; omega
/-- the signs of an int's text -/
def dig (n : Nat) : List Nat := (Nat.toDigits 10 n).map Char.toNat
def dval (cs : List Nat) : Nat := cs.foldl (fun acc c => acc * 10 + (c - 48)) 0
theorem digitChar_nat : ∀ d : Nat, d < 10 → (Nat.digitChar d).toNat = 48 + d := by decide
theorem dig_lt {n : Nat} (h : n < 10) : dig n = [48 + n] := by
  unfold dig
  rw [Nat.toDigits_of_lt_base h, List.map_cons, List.map_nil, digitChar_nat n h]
theorem dig_ge {n : Nat} (h : 10 ≤ n) : dig n = dig (n / 10) ++ [48 + n % 10] := by
  unfold dig
  rw [Nat.toDigits_of_base_le (by decide) h, List.map_append, List.map_cons, List.map_nil, digitChar_nat _ (Nat.mod_lt _ (by decide))]
def pad4 (n : Nat) : List Nat := [48 + n / 1000, 48 + n / 100 % 10, 48 + n / 10 % 10, 48 + n % 10]
theorem pad4_eq {n : Nat} (h : n < 10000) : List.replicate (4 - (dig n).length) 48 ++ dig n = pad4 n := by
  unfold pad4
  by_cases h1 : n < 10
  · rw [dig_lt h1]
    simp; omega
  · by_cases h2 : n < 100
    · rw [dig_ge (by omega), dig_lt (by omega)]
      simp; omega
    · by_cases h3 : n < 1000
      · rw [dig_ge (by omega), dig_ge (n := n / 10) (by omega), dig_lt (by omega)]
        simp; omega
      · rw [dig_ge (by omega), dig_ge (n := n / 10) (by omega), dig_ge (n := n / 10 / 10) (by omega), dig_lt (by omega)]
        simp; omega
theorem dig_big {q r : Nat} (hq : 0 < q) (hr : r < 10000) : dig (q * 10000 + r) = dig q ++ pad4 r := by
  rw [dig_ge (by omega), dig_ge (n := (q * 10000 + r) / 10) (by omega), dig_ge (n := (q * 10000 + r) / 10 / 10) (by omega), dig_ge (n := (q * 10000 + r) / 10 / 10 / 10) (by omega)]
  have e : (q * 10000 + r) / 10 / 10 / 10 / 10 = q := by omega
  rw [e]
  unfold pad4
  simp only [List.append_assoc, List.cons_append, List.nil_append]
  congr 2
  · omega
  · congr 1
    · omega
    · congr 1
      · omega
      · congr 1; omega
theorem dval_foldl (cs : List Nat) : ∀ a : Nat, cs.foldl (fun acc c => acc * 10 + (c - 48)) a = a * 10 ^ cs.length + dval cs := by
  unfold dval
  induction cs with
  | nil => intro a; simp
  | cons c r ih =>
    intro a
    rw [List.foldl_cons, ih, List.foldl_cons, ih (0 * 10 + (c - 48)), List.length_cons, Nat.pow_succ, Nat.add_mul, Nat.zero_mul, Nat.zero_add, Nat.mul_assoc, Nat.mul_comm 10]
    omega
theorem dval_append (a b : List Nat) : dval (a ++ b) = dval a * 10 ^ b.length + dval b := by
  rw [← dval_foldl b (dval a)]
  unfold dval
  rw [List.foldl_append]
theorem dig_digits (n : Nat) : ∀ c ∈ dig n, 48 ≤ c ∧ c ≤ 57 := by
  induction n using Nat.strongRecOn with
  | _ n ih =>
    by_cases h : n < 10
    · rw [dig_lt h]; intro c hc; simp at hc; omega
    · rw [dig_ge (by omega)]
      intro c hc
      rcases List.mem_append.mp hc with hc | hc
      · exact ih (n / 10) (by omega) c hc
      · simp at hc; omega
theorem dig_ne (n : Nat) : dig n ≠ [] := by
  by_cases h : n < 10
  · rw [dig_lt h]; simp
  · rw [dig_ge (by omega)]; simp
theorem dval_dig (n : Nat) : dval (dig n) = n := by
  induction n using Nat.strongRecOn with
  | _ n ih =>
    by_cases h : n < 10
    · rw [dig_lt h]; simp [dval]
    · rw [dig_ge (by omega), dval_append, ih (n / 10) (by omega)]
      simp [dval]; omega
theorem dval_lt : ∀ cs : List Nat, (∀ c ∈ cs, 48 ≤ c ∧ c ≤ 57) → dval cs < 10 ^ cs.length := by
  intro cs
  induction cs with
  | nil => intro _; decide
  | cons c r ih =>
    intro h
    have h1 := h c (.head _)
    have h2 := ih fun x hx => h x (.tail _ hx)
    have e : dval (c :: r) = (c - 48) * 10 ^ r.length + dval r := by
      have := dval_append [c] r
      simpa [dval] using this
    rw [e, List.length_cons, Nat.pow_succ]
    have : (c - 48) * 10 ^ r.length ≤ 9 * 10 ^ r.length := Nat.mul_le_mul_right _ (by omega)
    omega
theorem dig_len_of {n k : Nat} (hk : 0 < k) (h : n < 10 ^ k) : (dig n).length ≤ k := by
  unfold dig
  rw [List.length_map]
  exact (Nat.length_toDigits_le_iff (by decide) hk).mpr h
/-- the chunks of four signs, from the low end -/
def chunks (cs : List Nat) : List Int := if h : cs = [] then [] else ((dval (cs.drop (cs.length - 4)) : Nat) : Int) :: chunks (cs.take (cs.length - 4))
termination_by cs.length
decreasing_by
  have : 0 < cs.length := List.length_pos_iff.mpr h
  rw [List.length_take]; omega
theorem chunks_nil : chunks [] = [] := by rw [chunks]; rfl
theorem chunks_ne {cs : List Nat} (h : cs ≠ []) : chunks cs = ((dval (cs.drop (cs.length - 4)) : Nat) : Int) :: chunks (cs.take (cs.length - 4)) := by
  rw [chunks, dif_neg h]
theorem val_cast_chunks : ∀ k : Nat, ∀ cs : List Nat, cs.length ≤ k → val (chunks cs) = ((dval cs : Nat) : Int) := by
  intro k
  induction k with
  | zero => intro cs h; have : cs = [] := List.length_eq_zero_iff.mp (by omega); subst this; rw [chunks_nil]; rfl
  | succ k ih =>
    intro cs h
    by_cases hc : cs = []
    · subst hc; rw [chunks_nil]; rfl
    · have hp : 0 < cs.length := List.length_pos_iff.mpr hc
      rw [chunks_ne hc, val, ih _ (by rw [List.length_take]; omega)]
      have e := dval_append (cs.take (cs.length - 4)) (cs.drop (cs.length - 4))
      rw [List.take_append_drop] at e
      by_cases h4 : 4 ≤ cs.length
      · have hl : (cs.drop (cs.length - 4)).length = 4 := by rw [List.length_drop]; omega
        rw [e, hl]; omega
      · have e0 : cs.length - 4 = 0 := by omega
        rw [e0] at e ⊢
        rw [e]
        simp [dval]
theorem val_chunks (cs : List Nat) : val (chunks cs) = ((dval cs : Nat) : Int) := val_cast_chunks _ cs (Nat.le_refl _)
theorem chunks_range : ∀ k : Nat, ∀ cs : List Nat, cs.length ≤ k → (∀ c ∈ cs, 48 ≤ c ∧ c ≤ 57) → ∀ x ∈ chunks cs, 0 ≤ x ∧ x ≤ 9999 := by
  intro k
  induction k with
  | zero => intro cs h _; have : cs = [] := List.length_eq_zero_iff.mp (by omega); subst this; rw [chunks_nil]; intro x hx; cases hx
  | succ k ih =>
    intro cs h hd
    by_cases hc : cs = []
    · subst hc; rw [chunks_nil]; intro x hx; cases hx
    · have hp : 0 < cs.length := List.length_pos_iff.mpr hc
      rw [chunks_ne hc]
      intro x hx
      rcases List.mem_cons.mp hx with rfl | hx
      · have h1 := dval_lt (cs.drop (cs.length - 4)) fun c hc => hd c (List.mem_of_mem_drop hc)
        have h2 : 10 ^ (cs.drop (cs.length - 4)).length ≤ 10 ^ 4 := Nat.pow_le_pow_right (by decide) (by rw [List.length_drop]; omega)
        omega
      · exact ih _ (by rw [List.length_take]; omega) (fun c hc => hd c (List.mem_of_mem_take hc)) x hx
theorem chunks_ok (cs : List Nat) (h : ∀ c ∈ cs, 48 ≤ c ∧ c ≤ 57) : ∀ x ∈ chunks cs, 0 ≤ x ∧ x ≤ 9999 := chunks_range _ cs (Nat.le_refl _) h
theorem val_take_zero {l : List Int} {n : Nat} (h : n < l.length) (h0 : l.getD n 0 = 0) : val (l.take n) = val (l.take (n + 1)) := by
  have e : l.take (n + 1) = l.take n ++ [l[n]] := List.take_succ_eq_append_getElem h
  have e0 : l[n] = 0 := by simpa [List.getD, h] using h0
  rw [e, val_append, e0]
  simp [val]
theorem trim_nf {l : List Int} {n : Nat} (hr : ∀ x ∈ l, 0 ≤ x ∧ x ≤ 9999) (hn : n ≤ l.length) (h : n = 0 ∨ l.getD (n - 1) 0 ≠ 0) : Nf (l.take n) := by
  refine ⟨fun x hx => hr x (List.mem_of_mem_take hx), fun hne => ?_⟩
  have hn0 : n ≠ 0 := by intro h0; subst h0; simp at hne
  rcases h with h | h
  · exact absurd h hn0
  · have hlt : n - 1 < l.length := by omega
    have e : (l.take n).getLast hne = l[n - 1] := by
      rw [List.getLast_eq_getElem]
      simp only [List.length_take, Nat.min_eq_left hn, List.getElem_take]
    rw [e]
    simpa [List.getD, hlt] using h
theorem trim_is {l : List Int} {n : Nat} (hr : ∀ x ∈ l, 0 ≤ x ∧ x ≤ 9999) (hn : n ≤ l.length) (h : n = 0 ∨ l.getD (n - 1) 0 ≠ 0) (hv : val (l.take n) = val l) : l.take n = limbs (val l) := by
  rw [← hv]; exact (limbs_val (trim_nf hr hn h)).symm
/-- the text of limbs, low end first -/
def textOf : List Int → List Nat
  | [] => []
  | [a] => dig a.toNat
  | a :: b :: r => textOf (b :: r) ++ pad4 a.toNat
theorem textOf_val : ∀ {l : List Int}, Nf l → l ≠ [] → textOf l = dig (val l).toNat
  | [], _, h => absurd rfl h
  | [a], _, _ => by simp [textOf, val]
  | a :: b :: r, h, _ => by
    have h1 := h.1 a (.head _)
    have hp := val_pos_of_nf h.tail (by simp)
    rw [textOf, textOf_val h.tail (by simp)]
    have e : (val (a :: b :: r)).toNat = (val (b :: r)).toNat * 10000 + a.toNat := by
      rw [val]; omega
    rw [e, dig_big (by omega) (by omega)]
/-- order -/
theorem limbs_len_mono (n : Int) : ∀ m : Int, n ≤ m → (limbs n).length ≤ (limbs m).length := by
  induction n using limbs_ind with
  | h0 n h => intro m _; rw [limbs_nonpos h]; simp
  | h1 n h ih =>
    intro m hm
    rw [limbs_pos h, limbs_pos (show 0 < m by omega), List.length_cons, List.length_cons]
    have := ih (m / 10000) (by omega)
    omega
theorem lt_of_len {m n : Int} (h : (limbs m).length < (limbs n).length) : m < n := by
  by_cases h' : m < n
  · exact h'
  · have := limbs_len_mono n m (by omega); omega
theorem val_lt_at : ∀ {a b : List Int} {i : Nat}, a.length = b.length → (∀ x ∈ a, 0 ≤ x ∧ x ≤ 9999) → (∀ x ∈ b, 0 ≤ x ∧ x ≤ 9999) → a.getD i 0 < b.getD i 0 → (∀ j, i < j → j < a.length → a.getD j 0 = b.getD j 0) → val a < val b
  | [], [], i, _, _, _, h, _ => by simp at h
  | [], y :: t, _, hl, _, _, _, _ => by simp at hl
  | x :: r, [], _, hl, _, _, _, _ => by simp at hl
  | x :: r, y :: t, 0, hl, ha, hb, h, he => by
    have e : r = t := by
      apply List.ext_getElem (by simpa using hl)
      intro j h1 h2
      have := he (j + 1) (by omega) (by rw [List.length_cons]; omega)
      simpa [List.getD, h1, h2] using this
    subst e
    simp at h
    rw [val, val]; omega
  | x :: r, y :: t, i + 1, hl, ha, hb, h, he => by
    have h1 := val_lt_at (a := r) (b := t) (i := i) (by simpa using hl) (fun z hz => ha z (.tail _ hz)) (fun z hz => hb z (.tail _ hz)) (by simpa [List.getD] using h) (fun j hj hj2 => by
      have := he (j + 1) (by omega) (by rw [List.length_cons]; omega)
      simpa [List.getD] using this)
    have h2 := ha x (.head _)
    have h3 := hb y (.head _)
    rw [val, val]; omega
theorem eq_of_getD {a b : List Int} (hl : a.length = b.length) (h : ∀ j, j < a.length → a.getD j 0 = b.getD j 0) : a = b := by
  apply List.ext_getElem hl
  intro j h1 h2
  have := h j h1
  simpa [List.getD, h1, h2] using this
theorem limbs_inj {m n : Int} (hm : 0 ≤ m) (hn : 0 ≤ n) (h : limbs m = limbs n) : m = n := by
  rw [← val_limbs m hm, ← val_limbs n hn, h]
end Mine

namespace Mine
/-- what the law asks of a pair -/
structure W22 (r : Int) (L : List Int) (b : Bool) : Prop where
  iff : b = true ↔ (r = 0 ∧ L = []) ∨ ((r = 1 ∨ r = -1) ∧ L ≠ [] ∧ 0 < L.getD (-1 + (L.length : Int)).toNat 0 ∧ ∀ x ∈ L, 0 ≤ x ∧ x ≤ 9999)
theorem W22.w1 {r : Int} {L : List Int} (h0 : r ≠ 0) (h : decide (L = []) = true) : W22 r L (!decide (L = [])) := by
  have e : L = [] := by simpa using h
  refine ⟨⟨fun hb => ?_, fun hs => ?_⟩⟩
  · rw [h] at hb; exact absurd hb (by decide)
  · rcases hs with hs | hs
    · exact absurd hs.1 h0
    · exact absurd e hs.2.1
theorem any_sign {r : Int} (h : ([-1, 1].any fun x => x == r) = true) : r = 1 ∨ r = -1 := by
  simp at h
  omega
theorem W22.w2 {r M N : Int} {L : List Int} (h0 : r ≠ 0) (hn : ([-1, 1].any fun x => x == r) = true) (hd : decide (L = []) = false) (hl : 0 < L.getD (-1 + (L.length : Int)).toNat 0) (b1 : ∀ a, a ∈ L → N ≤ a) (h1 : 0 ≤ N) (a2 : M ∈ L) (b2 : ∀ a, a ∈ L → a ≤ M) : W22 r L (decide (M ≤ 9999)) := by
  have e : L ≠ [] := by simpa using hd
  refine ⟨⟨fun hb => ?_, fun hs => ?_⟩⟩
  · have hM : M ≤ 9999 := by simpa using hb
    refine Or.inr ⟨any_sign hn, e, hl, fun x hx => ?_⟩
    have := b1 x hx
    have := b2 x hx
    omega
  · rcases hs with hs | hs
    · exact absurd hs.1 h0
    · have := hs.2.2.2 M a2
      simpa using this.2
theorem W22.w3 {r M : Int} {L : List Int} (h0 : r ≠ 0) (a1 : M ∈ L) (h1 : ¬ 0 ≤ M) : W22 r L (decide (0 ≤ M)) := by
  refine ⟨⟨fun hb => absurd (by simpa using hb) h1, fun hs => ?_⟩⟩
  rcases hs with hs | hs
  · exact absurd hs.1 h0
  · exact absurd (hs.2.2.2 M a1).1 h1
theorem W22.w4 {r : Int} {L : List Int} (h0 : r ≠ 0) (h1 : ¬ 0 < L.getD (-1 + (L.length : Int)).toNat 0) : W22 r L (decide (0 < L.getD (-1 + (L.length : Int)).toNat 0)) := by
  refine ⟨⟨fun hb => absurd (of_decide_eq_true hb) h1, fun hs => ?_⟩⟩
  rcases hs with hs | hs
  · exact absurd hs.1 h0
  · exact absurd hs.2.2.1 h1
theorem W22.w5 {r : Int} {L : List Int} (h0 : r ≠ 0) (h : ([-1, 1].any fun x => x == r) = false) : W22 r L ([-1, 1].any fun x => x == r) := by
  refine ⟨⟨fun hb => ?_, fun hs => ?_⟩⟩
  · rw [h] at hb; exact absurd hb (by decide)
  · simp at h
    rcases hs with hs | hs
    · exact absurd hs.1 h0
    · omega
theorem W22.w6 {r : Int} {L : List Int} (h0 : r = 0) : W22 r L (decide (L = [])) := by
  refine ⟨⟨fun hb => Or.inl ⟨h0, by simpa using hb⟩, fun hs => ?_⟩⟩
  rcases hs with hs | hs
  · simpa using hs.2
  · omega
theorem tt_of {b : Bool} (h : (false != b) = true) : b = true := by cases b <;> simp_all
theorem W22.e_lo {r : Int} {L : List Int} {b : Bool} (h : (false != b) = true) (hW : W22 r L b) (hr : r < -1) : False := by
  have := hW.iff.mp (tt_of h); omega
theorem W22.e_hi {r : Int} {L : List Int} {b : Bool} (h : (false != b) = true) (hW : W22 r L b) (hr : 1 < r) : False := by
  have := hW.iff.mp (tt_of h); omega
theorem W22.e_neg {r x : Int} {L : List Int} {b : Bool} (h : (false != b) = true) (hW : W22 r L b) (hx : x ∈ L) (hr : x < 0) : False := by
  rcases hW.iff.mp (tt_of h) with h1 | h1
  · rw [h1.2] at hx; cases hx
  · have := h1.2.2.2 x hx; omega
theorem W22.e_big {r x : Int} {L : List Int} {b : Bool} (h : (false != b) = true) (hW : W22 r L b) (hx : x ∈ L) (hr : 10000 ≤ x) : False := by
  rcases hW.iff.mp (tt_of h) with h1 | h1
  · rw [h1.2] at hx; cases hx
  · have := h1.2.2.2 x hx; omega
theorem W22.e_last {r : Int} {L : List Int} {b : Bool} (h : ((L.getD ((L.length : Int) - 1).toNat 0 != 0) != b) = true) (hW : W22 r L b) (hl : (L.length : Int) ≠ 0) (hz : L.getD ((L.length : Int) - 1).toNat 0 = 0) : False := by
  rw [hz] at h
  have e : ((0 : Int) != 0) = false := by decide
  rw [e] at h
  rcases hW.iff.mp (tt_of h) with h1 | h1
  · rw [h1.2] at hl; exact hl rfl
  · have e2 : (-1 + (L.length : Int)).toNat = ((L.length : Int) - 1).toNat := by omega
    rw [e2, hz] at h1
    omega
theorem W22.fin {r : Int} {L : List Int} {b : Bool} (hW : W22 r L b) (h1 : ¬ r < -1) (h2 : ¬ 1 < r) (h3 : ∀ v ∈ L, 0 ≤ v ∧ v < 10000) (h4 : L = [] ∨ 0 < L.getD (-1 + (L.length : Int)).toNat 0) : b = ((r == 0) == ((L.length : Int) == 0)) := by
  have hb := hW.iff
  by_cases hL : L = []
  · subst hL
    have e : ((([] : List Int).length : Int) == 0) = true := rfl
    rw [e]
    by_cases hr : r = 0
    · subst hr
      have : b = true := hb.mpr (Or.inl ⟨rfl, rfl⟩)
      rw [this]; rfl
    · have e2 : (r == 0) = false := by simpa using hr
      rw [e2]
      cases b with
      | false => rfl
      | true =>
        rcases hb.mp rfl with h | h
        · exact absurd h.1 hr
        · exact absurd rfl h.2.1
  · have hlen : 0 < L.length := List.length_pos_iff.mpr hL
    have e : ((L.length : Int) == 0) = false := by simpa using hL
    rw [e]
    have hp : 0 < L.getD (-1 + (L.length : Int)).toNat 0 := h4.resolve_left hL
    by_cases hr : r = 0
    · subst hr
      cases b with
      | false => rfl
      | true =>
        rcases hb.mp rfl with h | h
        · exact absurd h.2 hL
        · omega
    · have e2 : (r == 0) = false := by simpa using hr
      rw [e2]
      have : b = true := hb.mpr (Or.inr ⟨by omega, hL, hp, fun x hx => by have := h3 x hx; omega⟩)
      rw [this]; rfl
theorem ne_self {b : Bool} (h : (b != b) = true) : False := by cases b <;> simp at h
theorem W22.e_a {r : Int} {L : List Int} {b : Bool} (h : (((r == 0) == ((L.length : Int) == 0)) != b) = true) (hW : W22 r L b) (h1 : ¬ r < -1) (h2 : ¬ 1 < r) (h3 : ∀ v ∈ L, 0 ≤ v ∧ v < 10000) (hl : (L.length : Int) = 0) : False := by
  rw [← hW.fin h1 h2 h3 (Or.inl (List.length_eq_zero_iff.mp (by omega)))] at h
  exact ne_self h
theorem W22.e_b {r : Int} {L : List Int} {b : Bool} (h : (((r == 0) == ((L.length : Int) == 0)) != b) = true) (hW : W22 r L b) (h1 : ¬ r < -1) (h2 : ¬ 1 < r) (h3 : ∀ v ∈ L, 0 ≤ v ∧ v < 10000) (hl : (L.length : Int) ≠ 0) (hz : L.getD ((L.length : Int) - 1).toNat 0 ≠ 0) : False := by
  have e2 : (-1 + (L.length : Int)).toNat = ((L.length : Int) - 1).toNat := by omega
  have hlt : ((L.length : Int) - 1).toNat < L.length := by omega
  have hm : L.getD ((L.length : Int) - 1).toNat 0 ∈ L := by
    generalize ((L.length : Int) - 1).toNat = k at hlt
    have e : L.getD k 0 = L[k] := by simp [List.getD, hlt]
    rw [e]; exact List.getElem_mem hlt
  have h5 := h3 _ hm
  have h6 : 0 < L.getD (-1 + (L.length : Int)).toNat 0 := by
    rw [e2]
    generalize L.getD ((L.length : Int) - 1).toNat 0 = z at *
    omega
  rw [← hW.fin h1 h2 h3 (Or.inr h6)] at h
  exact ne_self h
structure Few (L : List Int) : Prop where
  le : L.length ≤ 5
theorem gen22 {ys : List Value} {F : Int → Int} {c : Int} (h : IntsAre ys (List.map F (rangeKs 0 (c.fmod 5 - 0).toNat))) : ∃ L, IntsAre ys L ∧ L.length ≤ 5 := by
  refine ⟨_, h, ?_⟩
  have h1 := fmod_hi c (n := 5) (by decide)
  rw [List.length_map, rangeKs_length]; omega
section
variable {M : Model} {A : Around} {E : Value → Shared → Prop} {s : Shared} {env : Env} {h₀ : Heap} {L : Addr} {m : Str → Option Value} {news : List (Addr × Obj)} {Q : Flow → Shared → Prop} {st : Stmt}
theorem join_want {r : Int} {t : Tok} {a : Addr} {us : List Value} {ns : List Int} {c : Nat} (F : Fr h₀ L s.heap m) (N : News h₀ L s.heap news) (_hs : m (Str.ofString "sign") = some (.int r t)) (_hb : m (Str.ofString "before") = some (.ref a)) (_hm : (a, W.listOf us.toArray c) ∈ news) (_hi : IntsAre us ns)
    (h1 : InJoin → wpAny M A (exec st env) (fun f s₃ => JoinB (Str.ofString "want") (fun b => W22 r ns b) h₀ L m news s f s₃) E s)
    (h2 : JoinK (∀ (b : Bool) (h : Heap) (tk : Nat), W22 r ns b → Fr h₀ L h (fun y => if y = Str.ofString "want" then some (.bool b) else m y) → News h₀ L h news → Q .next { s with heap := h, toks := tk })) :
    wpAny M A (exec st env) Q E s := join_bool (Str.ofString "want") (fun b => W22 r ns b) F N h1 h2
end
end Mine

namespace Mine
theorem seen22 {pre : List Int} {n : Int} (h : ∀ v ∈ pre, 0 ≤ v ∧ v < 10000) (h0 : ¬ n < 0) (h1 : ¬ 10000 ≤ n) : ∀ v ∈ pre ++ [n], 0 ≤ v ∧ v < 10000 := by
  intro v hv
  rcases List.mem_append.mp hv with hv | hv
  · exact h v hv
  · rw [List.mem_singleton.mp hv]; omega
theorem pos1 {L : List Int} (h : decide (L = []) = false) : 0 < L.length := List.length_pos_iff.mpr (by simpa using h)
theorem pos2 {L : List Int} (h : ¬ L = []) : 0 < L.length := List.length_pos_iff.mpr h
theorem pos3 {L : List Int} (h : (!decide (L = [])) = true) : 0 < L.length := List.length_pos_iff.mpr (by simpa using h)
end Mine
local macro_rules | `(tactic| walk_at "compareOp NotEq ref ref") => `(tactic| (k_here; (with_reducible show wpAny _ _ (compareOp CmpOp.NotEq (Value.ref _) (Value.ref _)) _ _ _); (k_dflt (refine' Mine.ne_pairs ?N ?a ?b ?p ?i ?q ?j ?u ?_; (case N => k_asm); (case a => k_mem); (case b => k_mem); (case p => kmk_list); (case i => assumption); (case q => kmk_list); (case j => assumption); (case u => ke_room))); (try simp only [decide_true, Bool.and_true, Bool.not_true])))
local macro_rules | `(tactic| walk_at "exec Return some") => `(tactic| (exfalso; first | exact absurd trivial (fun _ => Mine.W22.e_a (by assumption) (by assumption) (by assumption) (by assumption) (by assumption) (by assumption)) | exact absurd trivial (fun _ => Mine.W22.e_b (by assumption) (by assumption) (by assumption) (by assumption) (by assumption) (by assumption) (by assumption)) | exact absurd trivial (fun _ => Mine.W22.e_lo (by assumption) (by assumption) (by assumption)) | exact absurd trivial (fun _ => Mine.W22.e_hi (by assumption) (by assumption) (by assumption)) | exact absurd trivial (fun _ => Mine.W22.e_neg (by assumption) (by assumption) (by assumption) (by assumption)) | exact absurd trivial (fun _ => Mine.W22.e_big (by assumption) (by assumption) (by assumption) (by assumption)) | exact absurd trivial (fun _ => Mine.W22.e_last (by assumption) (by assumption) (by assumption) (by assumption))))
local macro_rules | `(tactic| law_fin) => `(tactic| first | ((with_reducible show (true == true) = true); exact rfl) | exact absurd trivial (fun _ => Mine.W22.e_a (by assumption) (by assumption) (by assumption) (by assumption) (by assumption) (by assumption)) | exact absurd trivial (fun _ => Mine.W22.e_b (by assumption) (by assumption) (by assumption) (by assumption) (by assumption) (by assumption) (by assumption)) | exact absurd trivial (fun _ => Mine.W22.e_lo (by assumption) (by assumption) (by assumption)) | exact absurd trivial (fun _ => Mine.W22.e_hi (by assumption) (by assumption) (by assumption)) | exact absurd trivial (fun _ => Mine.W22.e_neg (by assumption) (by assumption) (by assumption) (by assumption)) | exact absurd trivial (fun _ => Mine.W22.e_big (by assumption) (by assumption) (by assumption) (by assumption)) | exact absurd trivial (fun _ => Mine.W22.e_last (by assumption) (by assumption) (by assumption) (by assumption)))
local macro_rules | `(tactic| walk_at "exec Assign cons Call") => `(tactic| (k_here; (with_reducible show wpAny _ _ (exec (Stmt.Assign [Expr.Name (Str.ofString "sign") _] _ _) _) _ _ _); (fail_if_success (have kMk := (by assumption : Mine.InJoin))); ((refine' Mine.join_if (Str.ofString "sign") (fun _ => True) ?jF ?jN ?_ ?_); (case jF => k_asm); (case jN => k_asm); intro kMk)))
local macro_rules | `(tactic| walk_at "exec Assign") => `(tactic| (k_here; (with_reducible rename IntsAre _ (List.map _ (rangeKs _ _)) => hG9); ((obtain ⟨L9, hI9, kLn⟩ := Mine.gen22 hG9); (try (with_reducible rename (_ = List.length (List.map _ _)) => hG8; clear hG8)); (clear hG9))))
local macro_rules | `(tactic| walk_at "exec If") => `(tactic| (k_here; (with_reducible show wpAny _ _ (exec (Stmt.If _ [Stmt.Assign [Expr.Name (Str.ofString "want") _] _ _] [] _) _) _ _ _); (fail_if_success (have kMk := (by assumption : Mine.InJoin))); ((rename Fr _ _ _ _ => lF'); (rename News _ _ _ _ => lN'); (with_unfolding_all refine' Mine.join_want lF' lN' (by rfl) (by rfl) (by k_memK) (by assumption) ?_ ?_); intro kMk)))
local macro_rules | `(tactic| walk_at "JoinP") => `(tactic| (k_dflt (refine Mine.JoinP.mk' (by assumption) (by assumption) True.intro)))
local macro_rules | `(tactic| walk_at "JoinB") => `(tactic| (k_dflt (first | (refine Mine.JoinB.mk' (by assumption) (by first | assumption | exact kst_newsOf (by assumption) (by kst_inAny)) ?_) | (refine Mine.JoinB.same (by assumption) (by rfl) (by first | assumption | exact kst_newsOf (by assumption) (by kst_inAny)) ?_)); first | exact Mine.W22.w1 (by assumption) (by assumption) | exact Mine.W22.w2 (by assumption) (by assumption) (by assumption) (by assumption) (by assumption) (by assumption) (by assumption) (by assumption) | exact Mine.W22.w3 (by assumption) (by assumption) (by assumption) | exact Mine.W22.w4 (by assumption) (by assumption) | exact Mine.W22.w5 (by assumption) (by assumption) | exact Mine.W22.w6 (by assumption)))
local macro_rules | `(tactic| walk_at "JoinK") => `(tactic| ((refine ⟨?_⟩); (first | ((with_reducible show ∀ (_ : Bool) (_ : Heap), _); (intro kR kH kTk kGood kF kN)) | (intro kR kT kH kTk kGood kF kN)); (try dsimp only)))
local macro_rules | `(tactic| walk_at "subscriptTail Name Slice ref ref") => `(tactic| (k_here; (with_reducible show wpAny _ _ (subscriptTail _ (PySem.Expr.Slice none none none _) (Value.ref _) (Value.ref _)) _ _ _); (k_dflt (refine' kmk_slice_ints ?F ?N ?l ?p ?q ?i ?m ?c ?_ ?s ?t ?z; (case F => k_asm); (case N => k_asm); (case l => kmk_list); (case p => kmk_part); (case q => kmk_part); (case i => assumption); (case m => exact kmk_all (by assumption)); (case c => exact rfl); (case s => with_unfolding_all rfl); (case t => kmk_pure); (case z => (refine kmk_sz (by assumption) ?_; (simp only [sizeLine_eq]); omega)))); (intro D' ws' h' F' N' l1 hI' hC' hL'); (clear hC' hL'); (try k_lt l1); (try k_sweep)))
local macro_rules | `(tactic| walk_at "subscriptTail Name UnaryOp ref int") => `(tactic| (k_here; (fail_if_success (have kP9 := (by assumption : 0 < List.length (_ : List Int)))); first | (have kP9 := Mine.pos1 (by assumption)) | (have kP9 := Mine.pos2 (by assumption)) | (have kP9 := Mine.pos3 (by assumption))))
local macro_rules | `(tactic| walk_at "InvEndN") => `(tactic| k_dflt kst_close)
local macro_rules | `(tactic| walk_at "InvEndN") => `(tactic| k_dflt ksr_close)
set_option maxRecDepth 100000 in
set_option maxHeartbeats 8000000 in
theorem PySem.Challenge.cw_k8_0022_holds : PySem.Challenge.rw_k8_0022.Holds := by
  k_with "pyIter ref" => (k_of "limb" => k_search (fun pre => ∀ v ∈ pre, 0 ≤ v ∧ v < 10000))
  k_with "state" => first | exact List.forall_mem_nil _ | exact Mine.seen22 (by assumption) (by assumption) (by assumption)
  open_k
