import PyProof.Rows.All
import Wide.All
import OpenK.AllK
import Wide.FinOn
import PySem.Challenge.RW_k8_0001
set_option Elab.async false
open PySem PySem.W PyProof.Rows
namespace Mine
/-- the ways of a statement meet: x holds an int of which Good is known, all else stands -/
structure JoinP (x : Str) (Good : Int → Prop) (h₀ : Heap) (L : Addr) (m : Str → Option Value) (news : List (Addr × Obj)) (s : Shared) (f : Flow) (s' : Shared) : Prop where
  next : f = .next
  here : ∃ (r : Int) (t : Tok) (h : Heap) (tk : Nat), Good r ∧ s' = { s with heap := h, toks := tk } ∧ Fr h₀ L h (fun y => if y = x then some (.int r t) else m y) ∧ News h₀ L h news
/-- we are within such a statement -/
structure InJoin : Prop where
structure JoinK (P : Prop) : Prop where
  out : P
section
variable {M : Model} {A : Around} {E : Value → Shared → Prop} {s : Shared} {env : Env} {h₀ : Heap} {L : Addr} {m : Str → Option Value} {news : List (Addr × Obj)} {Q : Flow → Shared → Prop} {st : Stmt}
theorem JoinP.mk' {x : Str} {Good : Int → Prop} {r : Int} {t : Tok} {h : Heap} {tk : Nat} (F : Fr h₀ L h (fun y => if y = x then some (.int r t) else m y)) (N : News h₀ L h news) (g : Good r) :
    JoinP x Good h₀ L m news s .next { s with heap := h, toks := tk } := ⟨rfl, r, t, h, tk, g, rfl, F, N⟩
theorem join_if (x : Str) (Good : Int → Prop) (_F : Fr h₀ L s.heap m) (_N : News h₀ L s.heap news)
    (h1 : InJoin → wpAny M A (exec st env) (fun f s₃ => JoinP x Good h₀ L m news s f s₃) E s)
    (h2 : JoinK (∀ (r : Int) (t : Tok) (h : Heap) (tk : Nat), Good r → Fr h₀ L h (fun y => if y = x then some (.int r t) else m y) → News h₀ L h news → Q .next { s with heap := h, toks := tk })) :
    wpAny M A (exec st env) Q E s := by
  refine wpAny_mono (h1 ⟨⟩) (fun f s₃ hf => ?_) fun _ _ h => h
  obtain ⟨hf, r, t, h, tk, g, e, F, N⟩ := hf
  subst hf
  subst e
  exact h2.out r t h tk g F N
/-- the ways of a statement meet where it stores nothing -/
structure JoinS (h₀ : Heap) (L : Addr) (m : Str → Option Value) (news : List (Addr × Obj)) (s : Shared) (f : Flow) (s' : Shared) : Prop where
  next : f = .next
  here : ∃ (h : Heap) (tk : Nat), s' = { s with heap := h, toks := tk } ∧ Fr h₀ L h m ∧ News h₀ L h news
theorem JoinS.mk' {h : Heap} {tk : Nat} (F : Fr h₀ L h m) (N : News h₀ L h news) : JoinS h₀ L m news s .next { s with heap := h, toks := tk } := ⟨rfl, h, tk, rfl, F, N⟩
theorem join_stmt (_F : Fr h₀ L s.heap m) (_N : News h₀ L s.heap news)
    (h1 : InJoin → wpAny M A (exec st env) (fun f s₃ => JoinS h₀ L m news s f s₃) E s)
    (h2 : JoinK (∀ (h : Heap) (tk : Nat), Fr h₀ L h m → News h₀ L h news → Q .next { s with heap := h, toks := tk })) :
    wpAny M A (exec st env) Q E s := by
  refine wpAny_mono (h1 ⟨⟩) (fun f s₃ hf => ?_) fun _ _ h => h
  obtain ⟨hf, h, tk, e, F, N⟩ := hf
  subst hf
  subst e
  exact h2.out h tk F N
theorem frame_same {x : Str} {v : Value} {h : Heap} (hm : m x = some v) (F : Fr h₀ L h m) : Fr h₀ L h (fun y => if y = x then some v else m y) := by
  have e : (fun y => if y = x then some v else m y) = m := by
    funext y
    by_cases hy : y = x
    · rw [if_pos hy, hy, hm]
    · rw [if_neg hy]
  rw [e]; exact F
theorem JoinP.same {x : Str} {Good : Int → Prop} {r : Int} {t : Tok} {h : Heap} {tk : Nat} (F : Fr h₀ L h m) (hm : m x = some (.int r t)) (N : News h₀ L h news) (g : Good r) :
    JoinP x Good h₀ L m news s .next { s with heap := h, toks := tk } := ⟨rfl, r, t, h, tk, g, rfl, frame_same hm F, N⟩
/-- the ways of a statement meet: x holds a list of ints of which Good is known -/
structure JoinL (x : Str) (Good : List Int → Prop) (h₀ : Heap) (L : Addr) (m : Str → Option Value) (news : List (Addr × Obj)) (s : Shared) (f : Flow) (s' : Shared) : Prop where
  next : f = .next
  here : ∃ (a : Addr) (us : List Value) (ns : List Int) (c : Nat) (h : Heap) (tk : Nat), Good ns ∧ IntsAre us ns ∧ s' = { s with heap := h, toks := tk } ∧ Fr h₀ L h (fun y => if y = x then some (.ref a) else m y) ∧ News h₀ L h ((a, W.listOf us.toArray c) :: news)
theorem news_cons {h : Heap} {news' : List (Addr × Obj)} {p : Addr × Obj} (N : News h₀ L h news') (hp : p ∈ news') (hs : ∀ q ∈ news, q ∈ news') : News h₀ L h (p :: news) := fun q hq => by
  rcases List.mem_cons.mp hq with e | hq
  · rw [e]; exact N p hp
  · exact N q (hs q hq)
theorem JoinL.mk' {x : Str} {Good : List Int → Prop} {a : Addr} {us : List Value} {ns : List Int} {c : Nat} {h : Heap} {tk : Nat} {news' : List (Addr × Obj)} (F : Fr h₀ L h (fun y => if y = x then some (.ref a) else m y)) (N : News h₀ L h news') (hs : ∀ q ∈ news, q ∈ news') (hp : (a, W.listOf us.toArray c) ∈ news') (hi : IntsAre us ns) (g : Good ns) :
    JoinL x Good h₀ L m news s .next { s with heap := h, toks := tk } := ⟨rfl, a, us, ns, c, h, tk, g, hi, rfl, F, news_cons N hp hs⟩
theorem JoinL.same {x : Str} {Good : List Int → Prop} {a : Addr} {us : List Value} {ns : List Int} {c : Nat} {h : Heap} {tk : Nat} {news' : List (Addr × Obj)} (F : Fr h₀ L h m) (hm : m x = some (.ref a)) (N : News h₀ L h news') (hs : ∀ q ∈ news, q ∈ news') (hp : (a, W.listOf us.toArray c) ∈ news') (hi : IntsAre us ns) (g : Good ns) :
    JoinL x Good h₀ L m news s .next { s with heap := h, toks := tk } := ⟨rfl, a, us, ns, c, h, tk, g, hi, rfl, frame_same hm F, news_cons N hp hs⟩
theorem join_list (x : Str) (Good : List Int → Prop) (_F : Fr h₀ L s.heap m) (_N : News h₀ L s.heap news)
    (h1 : InJoin → wpAny M A (exec st env) (fun f s₃ => JoinL x Good h₀ L m news s f s₃) E s)
    (h2 : JoinK (∀ (a : Addr) (us : List Value) (ns : List Int) (c : Nat) (h : Heap) (tk : Nat), Good ns → IntsAre us ns → Fr h₀ L h (fun y => if y = x then some (.ref a) else m y) → News h₀ L h ((a, W.listOf us.toArray c) :: news) → Q .next { s with heap := h, toks := tk })) :
    wpAny M A (exec st env) Q E s := by
  refine wpAny_mono (h1 ⟨⟩) (fun f s₃ hf => ?_) fun _ _ h => h
  obtain ⟨hf, a, us, ns, c, h, tk, g, hi, e, F, N⟩ := hf
  subst hf
  subst e
  exact h2.out a us ns c h tk g hi F N
/-- the ways of a statement meet: x holds a bool of which Good is known -/
structure JoinB (x : Str) (Good : Bool → Prop) (h₀ : Heap) (L : Addr) (m : Str → Option Value) (news : List (Addr × Obj)) (s : Shared) (f : Flow) (s' : Shared) : Prop where
  next : f = .next
  here : ∃ (b : Bool) (h : Heap) (tk : Nat), Good b ∧ s' = { s with heap := h, toks := tk } ∧ Fr h₀ L h (fun y => if y = x then some (.bool b) else m y) ∧ News h₀ L h news
theorem JoinB.mk' {x : Str} {Good : Bool → Prop} {b : Bool} {h : Heap} {tk : Nat} (F : Fr h₀ L h (fun y => if y = x then some (.bool b) else m y)) (N : News h₀ L h news) (g : Good b) :
    JoinB x Good h₀ L m news s .next { s with heap := h, toks := tk } := ⟨rfl, b, h, tk, g, rfl, F, N⟩
theorem JoinB.same {x : Str} {Good : Bool → Prop} {b : Bool} {h : Heap} {tk : Nat} (F : Fr h₀ L h m) (hm : m x = some (.bool b)) (N : News h₀ L h news) (g : Good b) :
    JoinB x Good h₀ L m news s .next { s with heap := h, toks := tk } := ⟨rfl, b, h, tk, g, rfl, frame_same hm F, N⟩
theorem join_bool (x : Str) (Good : Bool → Prop) (_F : Fr h₀ L s.heap m) (_N : News h₀ L s.heap news)
    (h1 : InJoin → wpAny M A (exec st env) (fun f s₃ => JoinB x Good h₀ L m news s f s₃) E s)
    (h2 : JoinK (∀ (b : Bool) (h : Heap) (tk : Nat), Good b → Fr h₀ L h (fun y => if y = x then some (.bool b) else m y) → News h₀ L h news → Q .next { s with heap := h, toks := tk })) :
    wpAny M A (exec st env) Q E s := by
  refine wpAny_mono (h1 ⟨⟩) (fun f s₃ hf => ?_) fun _ _ h => h
  obtain ⟨hf, b, h, tk, g, e, F, N⟩ := hf
  subst hf
  subst e
  exact h2.out b h tk g F N
end
end Mine

namespace Mine
/-- the law's own answer so far -/
structure Nat1 (w0 : Bool) (pre : List Int) (w : Bool) : Prop where
  eq : w = (w0 && pre.all fun x => decide (x.fdiv 10000 = 0))
theorem Nat1.start {w0 : Bool} : Nat1 w0 [] w0 := ⟨by simp⟩
theorem Nat1.bad {w0 : Bool} {pre : List Int} {x : Int} (h : x.fdiv 10000 ≠ 0) : Nat1 w0 (pre ++ [x]) false := ⟨by simp [h]⟩
theorem Nat1.good {w0 w : Bool} {pre : List Int} {x : Int} (hw : Nat1 w0 pre w) (h : x.fdiv 10000 = 0) : Nat1 w0 (pre ++ [x]) w := ⟨by rw [hw.eq]; simp [h]⟩
structure Short (ns : List Int) : Prop where
  le : ns.length ≤ 63
theorem fdiv_small {x : Int} (h : x.fdiv 10000 = 0) : 0 ≤ x ∧ x < 10000 := by
  rw [Int.fdiv_eq_ediv_of_nonneg _ (by decide)] at h; omega
theorem small_fdiv {x : Int} (h0 : 0 ≤ x) (h1 : x < 10000) : x.fdiv 10000 = 0 := by
  rw [Int.fdiv_eq_ediv_of_nonneg _ (by decide)]; omega
theorem Nat1.mem {w0 w : Bool} {ns : List Int} {x : Int} (h : (false != w) = true) (hw : Nat1 w0 ns w) (hx : x ∈ ns) : 0 ≤ x ∧ x < 10000 := by
  have e : w = true := by cases w <;> simp_all
  have h1 := hw.eq
  rw [e] at h1
  have h2 := (Bool.and_eq_true _ _ ▸ h1.symm).2
  exact fdiv_small (by simpa using List.all_eq_true.mp h2 x hx)
theorem bad_lo {w0 w : Bool} {ns : List Int} {x : Int} (h : (false != w) = true) (hw : Nat1 w0 ns w) (hx : x ∈ ns) (h0 : x < 0) : False := by
  have := hw.mem h hx; omega
theorem bad_hi {w0 w : Bool} {ns : List Int} {x : Int} (h : (false != w) = true) (hw : Nat1 w0 ns w) (hx : x ∈ ns) (h0 : 10000 ≤ x) : False := by
  have := hw.mem h hx; omega
theorem Nat1.all {w0 w : Bool} {ns : List Int} (hw : Nat1 w0 ns w) (h : ∀ v ∈ ns, 0 ≤ v ∧ v < 10000) : w = w0 := by
  have : (ns.all fun x => decide (x.fdiv 10000 = 0)) = true := List.all_eq_true.mpr (fun x hx => by
    have := h x hx
    simpa using small_fdiv this.1 this.2)
  rw [hw.eq, this, Bool.and_true]
theorem last_drop {ns : List Int} (hl : (ns.length : Int) ≠ 0) : List.drop (ns.length - 1) ns = [ns.getD ((ns.length : Int) - 1).toNat 0] := by
  have hlt : ns.length - 1 < ns.length := by omega
  rw [List.drop_eq_getElem_cons hlt]
  have e2 : ns.length - 1 + 1 = ns.length := by omega
  have e3 : ((ns.length : Int) - 1).toNat = ns.length - 1 := by omega
  rw [e2, List.drop_length, e3]
  simp [List.getD, hlt]
theorem bad_nil {w0 w : Bool} {ns : List Int} (h : (true != w) = true) (hw : Nat1 true ns w) (h2 : ∀ v ∈ ns, 0 ≤ v ∧ v < 10000) : False := by
  rw [hw.all h2] at h; exact absurd h (by decide)
theorem bad_nil0 {w : Bool} {ns : List Int} (h : (((ns.length : Int) == 0) != w) = true) (hl : (ns.length : Int) = 0) (hw : Nat1 true ns w) (h2 : ∀ v ∈ ns, 0 ≤ v ∧ v < 10000) : False := by
  rw [hw.all h2, hl] at h; exact absurd h (by decide)
theorem bad_nil' {ns : List Int} (hl : (ns.length : Int) = 0) (hd : List.drop (ns.length - 1) ns = [0]) : False := by
  have e : ns = [] := List.length_eq_zero_iff.mp (by omega)
  rw [e] at hd; exact absurd hd (by simp)
theorem bad_last {w : Bool} {ns : List Int} (h : ((ns.getD ((ns.length : Int) - 1).toNat 0 != 0) != w) = true) (hw : Nat1 true ns w) (h2 : ∀ v ∈ ns, 0 ≤ v ∧ v < 10000) (hl : (ns.length : Int) ≠ 0) (hd : ¬ List.drop (ns.length - 1) ns = [0]) : False := by
  rw [hw.all h2] at h
  have e : ns.getD ((ns.length : Int) - 1).toNat 0 = 0 := by
    by_cases hz : ns.getD ((ns.length : Int) - 1).toNat 0 = 0
    · exact hz
    · rw [bne_iff_ne.mpr hz] at h; exact absurd h (by decide)
  exact hd (by rw [last_drop hl, e])
theorem bad_last' {w : Bool} {ns : List Int} (h : ((ns.getD ((ns.length : Int) - 1).toNat 0 != 0) != w) = true) (hw : Nat1 false ns w) (hl : (ns.length : Int) ≠ 0) (hd : List.drop (ns.length - 1) ns = [0]) : False := by
  rw [last_drop hl] at hd
  have e := List.cons.inj hd
  have e2 := hw.eq
  rw [Bool.false_and] at e2
  rw [e.1, e2] at h
  exact absurd h (by decide)
end Mine
local macro_rules | `(tactic| walk_at "exec Return some") => `(tactic| (exfalso; first | exact absurd trivial (fun _ => Mine.bad_lo (by assumption) (by assumption) (by assumption) (by assumption)) | exact absurd trivial (fun _ => Mine.bad_hi (by assumption) (by assumption) (by assumption) (by assumption)) | exact absurd trivial (fun _ => Mine.bad_last (by assumption) (by assumption) (by assumption) (by assumption) (by assumption)) | exact absurd trivial (fun _ => Mine.bad_last' (by assumption) (by assumption) (by assumption) (by assumption)) | exact absurd trivial (fun _ => Mine.bad_nil (by assumption) (by assumption) (by assumption)) | exact absurd trivial (fun _ => Mine.bad_nil' (by assumption) (by assumption)) | exact absurd trivial (fun _ => Mine.bad_nil0 (by assumption) (by assumption) (by assumption) (by assumption))))
local macro_rules | `(tactic| law_fin) => `(tactic| first | ((with_reducible show (true == true) = true); exact rfl) | exact absurd trivial (fun _ => Mine.bad_lo (by assumption) (by assumption) (by assumption) (by assumption)) | exact absurd trivial (fun _ => Mine.bad_hi (by assumption) (by assumption) (by assumption) (by assumption)) | exact absurd trivial (fun _ => Mine.bad_last (by assumption) (by assumption) (by assumption) (by assumption) (by assumption)) | exact absurd trivial (fun _ => Mine.bad_last' (by assumption) (by assumption) (by assumption) (by assumption)) | exact absurd trivial (fun _ => Mine.bad_nil (by assumption) (by assumption) (by assumption)) | exact absurd trivial (fun _ => Mine.bad_nil' (by assumption) (by assumption)) | exact absurd trivial (fun _ => Mine.bad_nil0 (by assumption) (by assumption) (by assumption) (by assumption)))
local macro_rules | `(tactic| walk_at "exec If") => `(tactic| (k_here; (with_reducible show wpAny _ _ (exec (Stmt.If _ [Stmt.Assign [Expr.Name (Str.ofString "case") _] _ _] [] _) _) _ _ _); (fail_if_success (have kMk := (by assumption : Mine.InJoin))); ((refine' Mine.join_if (Str.ofString "case") (fun r => 0 ≤ r ∧ r < 8) ?jF ?jN ?_ ?_); (case jF => k_asm); (case jN => k_asm); intro kMk)))
local macro_rules | `(tactic| walk_at "exec If") => `(tactic| (k_here; (with_reducible show wpAny _ _ (exec (Stmt.If _ [Stmt.Assign [Expr.Name (Str.ofString "xs") _] _ _] [] _) _) _ _ _); (fail_if_success (have kMk := (by assumption : Mine.InJoin))); ((refine' Mine.join_list (Str.ofString "xs") Mine.Short ?jF ?jN ?_ ?_); (case jF => k_asm); (case jN => k_asm); intro kMk)))
local macro_rules | `(tactic| walk_at "JoinP") => `(tactic| first | (k_dflt (refine Mine.JoinP.mk' (by assumption) (by assumption) ⟨fmod_lo _ (by decide), fmod_hi _ (by decide)⟩)) | (k_dflt (refine Mine.JoinP.same (by assumption) (by rfl) (by assumption) ⟨by decide, by decide⟩)))
local macro_rules | `(tactic| walk_at "JoinL") => `(tactic| first | (k_dflt (refine Mine.JoinL.mk' (by assumption) (by assumption) (by kst_inAny) (by k_memK) (by first | assumption | l_ints) ?_)); (refine ⟨?_⟩; (try simp only [List.length_map, List.length_take, List.length_drop]); omega) | (k_dflt (refine Mine.JoinL.same (by assumption) (by rfl) (by assumption) (by kst_inAny) (by k_memK) (by first | assumption | l_ints) ?_)); first | assumption | (refine ⟨?_⟩; (try simp only [List.length_map, List.length_take, List.length_drop]); omega))
local macro_rules | `(tactic| walk_at "JoinK") => `(tactic| ((refine ⟨?_⟩); (first | ((with_reducible show ∀ (_ : Addr) (_ : List Value), _); (intro kAd kUs kNs kCt kH kTk kGood kInts kF kN; (have kShort := Mine.Short.le kGood))) | (intro kR kT kH kTk kGood kF kN)); (try dsimp only)))
local macro_rules | `(tactic| walk_at "subscriptTail Name Slice ref ref") => `(tactic| (k_here; (with_reducible show wpAny _ _ (subscriptTail _ (PySem.Expr.Slice none none none _) (Value.ref _) (Value.ref _)) _ _ _); (k_dflt (refine' kmk_slice_ints ?F ?N ?l ?p ?q ?i ?m ?c ?_ ?s ?t ?z; (case F => k_asm); (case N => k_asm); (case l => kmk_list); (case p => kmk_part); (case q => kmk_part); (case i => (first | assumption | l_ints)); (case m => (first | exact kmk_all (by assumption) | kmk_nums)); (case c => exact rfl); (case s => with_unfolding_all rfl); (case t => kmk_pure); (case z => (refine kmk_sz (by first | assumption | l_ints) ?_; (simp only [sizeLine_eq]); omega)))); (intro D' ws' h' F' N' l1 hI' hC' hL'); (clear hC' hL'); (try k_lt l1); (try k_sweep)))
local macro_rules | `(tactic| walk_at "InvEndN") => `(tactic| k_dflt kst_close)
local macro_rules | `(tactic| walk_at "InvEndN") => `(tactic| k_dflt ksr_close)
set_option maxRecDepth 100000 in
set_option maxHeartbeats 8000000 in
theorem PySem.Challenge.cw_k8_0001_holds : PySem.Challenge.rw_k8_0001.Holds := by
  k_with "pyIter ref" => (k_of "limb" => k_search (fun pre => ∀ v ∈ pre, 0 ≤ v ∧ v < 10000))
  k_with "pyIter ref" => (k_of "x" => k_state_given ["want!"] (fun w0 pre w => Mine.Nat1 w0 pre w) "want")
  k_with "state" => first | exact Mine.Nat1.start | exact Mine.Nat1.bad (by assumption) | exact Mine.Nat1.good (by assumption) (by first | assumption | omega) | exact List.forall_mem_nil _ | exact absurd (List.length_pos_of_mem kMem) (by omega)
  open_k
