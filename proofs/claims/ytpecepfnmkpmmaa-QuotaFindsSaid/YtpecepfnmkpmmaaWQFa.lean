/- QuotaFinds: the easy ways, and what the walk of the long way needs. -/
import Derived.Test.YtpecepfnmkpmmaaSk
import Derived.Test.YtpecepfnmkpmmaaQu
import Derived.Test.YtpecepfnmkpmmaaQp
import Derived.Test.YtpecepfnmkpmmaaQt
import Derived.Deep.CutRange
namespace Go.Proofs.Ytpecepfnmkpmmaa
open Go.RowKit Go.Kin Quo
set_option maxRecDepth 100000
set_option linter.unusedVariables false
theorem finds_low (ta : Option Addr) (n tc : Nat) (T : Tab) (qa : Option Addr) (m qc : Nat) (oa : Option Addr) (k oc : Nat) (w : World) (h : RdT w ta n tc T) (hl : ¬ Low T 12 1000) :
    Calls Try.prog 9 #[.slice ta n tc, .slice qa m qc, .slice oa k oc] w fun e w' => e = .returned (.bool true) ∧ Below w.heap.size w w' := by
  have H := Lib.hid h
  have hd := decide_eq_false hl
  clear h hl
  go_enter Try.func9, Try.ntmps9
  go_wp2_with (first
    | (go_at_call 14; refine (awake_any _).mono ?_; rintro e w1 ⟨rfl, b1⟩; have H1 := Lib.hid (H.out.fw b1); have B1 := Lib.hid b1; clear b1)
    | (go_at_call 16; refine (low_any _ _ _ T _ _ _ H1.out).mono ?_; rw [hd]; rintro e w' ⟨rfl, rfl⟩)
    | fail)
  go_ret
  exact ⟨rfl, B1.out⟩
theorem finds_bad (ta : Option Addr) (n tc : Nat) (T : Tab) (qa : Option Addr) (m qc : Nat) (oa : Option Addr) (k oc : Nat) (w : World) (h : RdT w ta n tc T) (hl : Low T 12 1000) (hT : ¬ VT T) :
    Calls Try.prog 9 #[.slice ta n tc, .slice qa m qc, .slice oa k oc] w fun e w' => e = .returned (.bool true) ∧ Below w.heap.size w w' := by
  have H := Lib.hid h
  have hd := decide_eq_true hl
  have hd2 := decide_eq_false hT
  clear h hl hT
  go_enter Try.func9, Try.ntmps9
  go_wp2_with (first
    | (go_at_call 14; refine (awake_any _).mono ?_; rintro e w1 ⟨rfl, b1⟩; have H1 := Lib.hid (H.out.fw b1); have B1 := Lib.hid b1; clear b1)
    | (go_at_call 16; refine (low_any _ _ _ T _ _ _ H1.out).mono ?_; rw [hd]; rintro e w' ⟨rfl, rfl⟩)
    | (go_at_call 15; refine (valid_any _ _ _ T _ H1.out).mono ?_; rw [hd2]; rintro e w' ⟨rfl, rfl⟩)
    | fail)
  go_ret
  exact ⟨rfl, B1.out⟩
theorem finds_len (ta : Option Addr) (n tc : Nat) (T : Tab) (qa : Option Addr) (m qc : Nat) (oa : Option Addr) (k oc : Nat) (w : World) (h : RdT w ta n tc T) (hl : Low T 12 1000) (hT : VT T) (hm : m ≠ n) :
    Calls Try.prog 9 #[.slice ta n tc, .slice qa m qc, .slice oa k oc] w fun e w' => e = .returned (.bool true) ∧ Below w.heap.size w w' := by
  have H := Lib.hid h
  have hd := decide_eq_true hl
  have hd2 := decide_eq_true hT
  have hne : ((m : Int) != (n : Int)) = true := by simp; omega
  clear h hl hT hm
  go_enter Try.func9, Try.ntmps9
  go_wp2_with (first
    | (go_at_call 14; refine (awake_any _).mono ?_; rintro e w1 ⟨rfl, b1⟩; have H1 := Lib.hid (H.out.fw b1); have B1 := Lib.hid b1; clear b1)
    | (go_at_call 16; refine (low_any _ _ _ T _ _ _ H1.out).mono ?_; rw [hd]; rintro e w' ⟨rfl, rfl⟩)
    | (go_at_call 15; refine (valid_any _ _ _ T _ H1.out).mono ?_; rw [hd2]; rintro e w' ⟨rfl, rfl⟩)
    | fail)
  go_ret
  exact ⟨rfl, B1.out⟩
theorem finds_long (ta : Option Addr) (n tc : Nat) (T : Tab) (qa : Option Addr) (qc : Nat) (oa : Option Addr) (k oc : Nat) (w : World) (h : RdT w ta n tc T) (hl : Low T 12 1000) (hT : VT T) (hk : 12 < k) (hkl : k ≤ 9223372036854775807) :
    Calls Try.prog 9 #[.slice ta n tc, .slice qa n qc, .slice oa k oc] w fun e w' => e = .returned (.bool true) ∧ Below w.heap.size w w' := by
  have H := Lib.hid h
  have hd := decide_eq_true hl
  have hd2 := decide_eq_true hT
  have hne : ((n : Int) != (n : Int)) = false := by simp
  have hk2 : decide ((12 : Int) < (k : Int)) = true := decide_eq_true (by omega)
  clear h hl hT hk
  go_enter Try.func9, Try.ntmps9
  go_wp2_with (first
    | (go_at_call 14; refine (awake_any _).mono ?_; rintro e w1 ⟨rfl, b1⟩; have H1 := Lib.hid (H.out.fw b1); have B1 := Lib.hid b1; clear b1)
    | (go_at_call 16; refine (low_any _ _ _ T _ _ _ H1.out).mono ?_; rw [hd]; rintro e w' ⟨rfl, rfl⟩)
    | (go_at_call 15; refine (valid_any _ _ _ T _ H1.out).mono ?_; rw [hd2]; rintro e w' ⟨rfl, rfl⟩)
    | fail)
  go_ret
  exact ⟨rfl, B1.out⟩
theorem finds_no (ta : Option Addr) (n tc : Nat) (T : Tab) (qa : Option Addr) (qc : Nat) (q : List Int) (oa : Option Addr) (k oc : Nat) (w : World) (h : RdT w ta n tc T) (h2 : Rd vi w qa n qc q) (hf : ¬ Fit T q) (hl : Low T 12 1000) (hT : VT T) (hk : k ≤ 12) :
    Calls Try.prog 9 #[.slice ta n tc, .slice qa n qc, .slice oa k oc] w fun e w' => e = .returned (.bool true) ∧ Below w.heap.size w w' := by
  have H := Lib.hid h; have H2 := Lib.hid h2; have HNO := Lib.hid hf; have HV := Lib.hid hT
  have hd := decide_eq_true hl
  have hd2 := decide_eq_true hT
  have hne : ((n : Int) != (n : Int)) = false := by simp
  have hk2 : decide ((12 : Int) < (k : Int)) = false := decide_eq_false (by omega)
  clear h h2 hl hT hf hk
  go_enter Try.func9, Try.ntmps9
  go_wp2_with (first
    | (go_at_call 14; refine (awake_any _).mono ?_; rintro e w1 ⟨rfl, b1⟩; have H1 := Lib.hid (H.out.fw b1); have H21 := Lib.hid (H2.out.fw b1); have B1 := Lib.hid b1; clear b1)
    | (go_at_call 16; refine (low_any _ _ _ T _ _ _ H1.out).mono ?_; rw [hd]; rintro e w' ⟨rfl, rfl⟩)
    | (go_at_call 15; refine (valid_any _ _ _ T _ H1.out).mono ?_; rw [hd2]; rintro e w' ⟨rfl, rfl⟩)
    | (go_at_call 28; refine (settle_no _ _ _ T _ _ _ q _ H1.out H21.out HNO.out).mono ?_; rintro e w' ⟨rfl, rfl⟩)
    | (go_at_call 30; refine (Held_any _ _ _ T _ H1.out HV.out).mono ?_; rintro e w5 ⟨g5, rfl, hg5, r5, b5⟩; have B5 := Lib.hid (bt B1.out b5); clear hg5 r5 b5)
    | fail)
  go_ret
  exact ⟨rfl, B5.out⟩
theorem run_min3 (ats : Array TypeId) (ty : TypeId) (x y z : Int) (w : World) : (Builtin.min_ ats ty #[.int .i64 x, .int .i64 y, .int .i64 z]).run Try.prog w = .ok (.int .i64 (min x (min y z))) w := by
  have e3 : min x (min y z) = min (min x y) z := by omega
  rw [e3]
  have e : (if y < x then y else x) = min x y := by split <;> omega
  have e2 : (if z < min x y then z else min x y) = min (min x y) z := by split <;> omega
  rw [← e2, ← e]
  simp [Builtin.min_, Builtin.min2]
theorem wpList_min3 {w : World} {ops : Array Oper} {rest : List Oper} {o : Oper} {a : Act} {Q : Exit → Act → World → Prop} (hgd : o.guard = none) (s x y : Operand) (t : TypeId)
    (ho : o.op = .call { callee := .builtin .min, args := #[s, x, y], argTypes := #[t, t, t] }) (p q r : Int) (hs : a.eval s = .int .i64 p) (hx : a.eval x = .int .i64 q) (hy : a.eval y = .int .i64 r)
    (h : wpList Try.prog ops Q rest (a.put o.dst (.int .i64 (min p (min q r)))) w) : wpList Try.prog ops Q (o :: rest) a w := by
  refine wpList_plain hgd fun K hK => ?_
  have hr := run_min3 #[t, t, t] o.type p q r w
  unfold Oper.wp
  simp [execOp, ho, resolve, invoke, builtin, hs, hx, hy, hr, Result.andThen]
  exact hK _ _ h
theorem OwnT.low {w : World} {B : Nat} {a : Option Addr} {n c : Nat} {T : Tab} (h : OwnT w B a n c T) {p : Addr} (hp : p.block < B) (v : Value) : OwnT (w.setCell p v) B a n c T := by
  obtain ⟨L, h1, h2, h3, h4⟩ := h
  exact ⟨L, h1.other (fun x hx => by have := h1.bge hx; omega) v, h2, h3, fun i x m hi hm => (h4 i x m hi hm).other (fun y hy => by have := (h4 i x m hi hm).bge hy; omega) v⟩
/-- How the greedy moving stands. -/
def GInv (w : World) (B gz zc g5 n : Nat) (T : Tab) (q : List Int) : Prop :=
  ∃ M N l, Greedy T q M (at2 N) (fun d => l.getD d 0) ∧ OwnT w B (some ⟨gz, 0, none⟩) n zc N ∧ Sq N ∧ Blk vi 3 w g5 l ∧ l.length = n
theorem GInv.fw {w w' : World} {B gz zc g5 n : Nat} {T : Tab} {q : List Int} (h : GInv w B gz zc g5 n T q) (hb : Below w.heap.size w w') : GInv w' B gz zc g5 n T q := by
  obtain ⟨M, N, l, h1, h2, h3, h4, h5⟩ := h
  exact ⟨M, N, l, h1, h2.fw hb, h3, h4.fw hb, h5⟩
theorem settle_ev (ta : Option Addr) (n tc : Nat) (T : Tab) (qa : Option Addr) (qc : Nat) (q : List Int) (w : World) (h : RdT w ta n tc T) (h2 : Rd vi w qa n qc q) (hf : Fit T q) :
    Calls Try.prog 28 #[.slice ta n tc, .slice qa n qc] w fun e w' => Below w.heap.size w w' ∧ ∃ a m c ev, e = .returned (.tuple #[.slice a m c, .int .i64 ev]) ∧ (ev ≠ 0 → Full T q) ∧ ev ≠ 1 := by
  refine (settle_any ta n tc T qa qc q w h h2 hf).mono ?_
  rintro e w' ⟨hb, ⟨hF, rfl⟩ | ⟨φ, ma, mc, hB, rfl, hm⟩⟩
  · exact ⟨hb, _, _, _, _, rfl, fun _ => hF, by decide⟩
  · exact ⟨hb, _, _, _, _, rfl, fun h => absurd rfl h, by decide⟩
theorem sumR_nn3 {n : Nat} {f : Nat → Nat → Int} (h : ∀ i j, 0 ≤ f i j) : 0 ≤ sumR n fun i => sumR n fun j => f i j := sumR_nonneg fun i _ => sumR_nonneg fun j _ => h i j
theorem greedy_bd {T : Tab} {q : List Int} {M : Nat → Nat → Nat → Int} {A : Nat → Nat → Int} {B : Nat → Int} (h : Greedy T q M A B) (hT : VT T) (hq : Cnt q) {d : Nat} (hd : d < T.length) : 0 ≤ B d ∧ B d ≤ 13194139533312 := by
  have h1 := h.held d hd
  have l1 := load_bound hT d
  have q1 := quota_bound hq d
  have n1 : 0 ≤ sumR T.length fun o => sumR T.length fun t => M d o t := sumR_nn3 fun o t => h.nn d o t
  have n2 : 0 ≤ sumR T.length fun i => sumR T.length fun o => M i o d := sumR_nn3 fun i o => h.nn i o d
  unfold topB at l1
  by_cases hv : over T q d
  · have z : (sumR T.length fun i => sumR T.length fun o => M i o d) = 0 := sumR_zero fun i _ => sumR_zero fun o _ => Classical.byContradiction fun hz => (h.dom i o d hz).2.1 hv
    have := h.give d hd hv
    omega
  · have z : (sumR T.length fun o => sumR T.length fun t => M d o t) = 0 := sumR_zero fun o _ => sumR_zero fun t _ => Classical.byContradiction fun hz => hv (h.dom d o t hz).1
    have := h.take d hd hv
    omega
theorem greedy_bdA {T : Tab} {q : List Int} {M : Nat → Nat → Nat → Int} {A : Nat → Nat → Int} {B : Nat → Int} (h : Greedy T q M A B) (hT : VT T) {i o : Nat} (hi : i < T.length) (ho : o < T.length) : 0 ≤ A i o ∧ A i o ≤ 1099511627776 := by
  have h1 := h.now i o hi ho
  have n1 : 0 ≤ sumR T.length fun t => M i o t := sumR_nonneg fun t _ => h.nn i o t
  obtain ⟨r, _, _, _, x0, x1⟩ := hT.cell hi ho
  have : at2 T i o ≤ 1099511627776 := x1
  exact ⟨h.pos i o hi ho, by omega⟩
theorem at2_put {N : Tab} {a o : Nat} (ha : a < N.length) (ho : o < (N.getD a []).length) (v : Int) (i o' : Nat) : at2 (N.set a ((N.getD a []).set o v)) i o' = if i = a ∧ o' = o then v else at2 N i o' := by
  unfold at2
  rw [set_getD ha]
  by_cases e : i = a
  · subst e
    rw [if_pos rfl, set_getD ho]
    by_cases e' : o' = o
    · rw [if_pos e', if_pos ⟨rfl, e'⟩]
    · rw [if_neg e', if_neg fun c => e' c.2]
  · rw [if_neg e, if_neg fun c => e c.1]
theorem sq_put {N : Tab} (h : Sq N) {a o : Nat} (ha : a < N.length) (v : Int) : Sq (N.set a ((N.getD a []).set o v)) := by
  intro i hi
  rw [List.length_set] at hi ⊢
  rw [set_getD ha]
  by_cases e : i = a
  · rw [if_pos e, List.length_set]; exact h a ha
  · rw [if_neg e]; exact h i hi
theorem ginv_step {w : World} {B gz zc g5 n : Nat} {T : Tab} {q : List Int} {M : Nat → Nat → Nat → Int} {N : Tab} {l : List Int} {a o t : Nat} {x : Int} (hG : Greedy T q M (at2 N) (fun d => l.getD d 0)) (hsq : Sq N) (hTl : T.length = n) (hNl : N.length = n) (hll : l.length = n)
    (ha : a < n) (ho : o < n) (ht : t < n) (hto : t ≠ o) (hta : t ≠ a) (hx : 0 < x) (h1 : x ≤ l.getD a 0 - q.getD a 0) (h2 : x ≤ at2 N a o) (h3 : x ≤ q.getD t 0 - l.getD t 0)
    (hO : OwnT w B (some ⟨gz, 0, none⟩) n zc (N.set a ((N.getD a []).set o (at2 N a o - x)))) (hB : Blk vi 3 w g5 ((l.set a (l.getD a 0 - x)).set t (l.getD t 0 + x))) : GInv w B gz zc g5 n T q := by
  have hs := hG.step (a := a) (o := o) (t := t) (x := x) (by omega) (by omega) (by omega) hto hta hx h1 h2 h3
  have e1 : (fun i o' => if i = a ∧ o' = o then at2 N a o - x else at2 N i o') = at2 (N.set a ((N.getD a []).set o (at2 N a o - x))) := by
    funext i o'
    exact (at2_put (by omega) (by rw [hsq a (by omega)]; omega) _ i o').symm
  have e2 : (fun d => if d = a then l.getD a 0 - x else if d = t then l.getD t 0 + x else l.getD d 0) = fun d => ((l.set a (l.getD a 0 - x)).set t (l.getD t 0 + x)).getD d 0 := by
    funext d
    rw [set_getD (by rw [List.length_set]; omega), set_getD (by omega)]
    by_cases e : d = a
    · subst e; rw [if_pos rfl, if_neg (fun c => hta c.symm), if_pos rfl]
    · rw [if_neg e, if_neg e]
  rw [e1, e2] at hs
  exact ⟨_, _, _, hs, hO, sq_put hsq (by omega) _, hB, by rw [List.length_set, List.length_set]; exact hll⟩
end Go.Proofs.Ytpecepfnmkpmmaa
