/- The polynomial functions as what they give to read; kinkeepref06.Same. -/
import Derived.Test.YtkbcingibgnnpaaPolyI
import Derived.Test.YtkbcingibgnnpaaPolyR
import Derived.Test.YtkbcingibgnnpaaPolyE
namespace Go.Kin
open Go.RowKit
section
variable {α : Type}
/-- The call returns a slice that reads as l. -/
def Gives (f : α → Value) (w : World) (l : List α) (e : Ending) (w' : World) : Prop :=
  ∃ a n c, e = .returned (.slice a n c) ∧ Rd f w' a n c l ∧ Below w.heap.size w w'
def GivesErr (f : α → Value) (w : World) (l : List α) (r : Int) (e : Ending) (w' : World) : Prop :=
  ∃ a n c, e = .returned (.tuple #[.slice a n c, .int .i64 r]) ∧ Rd f w' a n c l ∧ Below w.heap.size w w'
theorem RetBlk.gives {f : α → Value} {E : TypeId} {w : World} {l : List α} {e : Ending} {w' : World} (h : RetBlk f E w l e w') (hm : l.length ≤ maxLen) : Gives f w l e w' := by
  obtain ⟨g, he, hg, hB, hb⟩ := h
  exact ⟨_, _, _, he, hB.rd (Nat.le_refl _) hm, hb⟩
theorem RetBlkErr.gives {f : α → Value} {E : TypeId} {w : World} {l : List α} {r : Int} {e : Ending} {w' : World} (h : RetBlkErr f E w l r e w') (hm : l.length ≤ maxLen) : GivesErr f w l r e w' := by
  obtain ⟨g, he, hg, hB, hb⟩ := h
  exact ⟨_, _, _, he, hB.rd (Nat.le_refl _) hm, hb⟩
theorem RetOwn.gives {f : α → Value} {E : TypeId} {w : World} {l : List α} {e : Ending} {w' : World} (h : RetOwn f E w l e w') : Gives f w l e w' := by
  obtain ⟨a, c, he, hO, hb⟩ := h
  exact ⟨_, _, _, he, hO.rd, hb⟩
theorem RetOwnErr.gives {f : α → Value} {E : TypeId} {w : World} {l : List α} {r : Int} {e : Ending} {w' : World} (h : RetOwnErr f E w l r e w') : GivesErr f w l r e w' := by
  obtain ⟨a, c, he, hO, hb⟩ := h
  exact ⟨_, _, _, he, hO.rd, hb⟩
theorem Rd.alloc {f : α → Value} {w : World} {a : Option Addr} {n c : Nat} {l : List α} (o : Obj) (h : Rd f w a n c l) : Rd f (w.alloc o) a n c l := h.fw ((Below.refl _ _).alloc (Nat.le_refl _) o)
theorem below_alloc {w0 w : World} (o : Obj) (h : Below w0.heap.size w0 w) : Below w0.heap.size w0 (w.alloc o) := h.alloc h.size o
theorem rd_new (f : α → Value) (E : TypeId) (w : World) (l : List α) {n : Nat} (hn : l.length = n) (hm : n ≤ 9223372036854775807) : Rd f (w.alloc (.cells (row f l) E (0, 0))) (some ⟨w.heap.size, 0, none⟩) n n l :=
  (blk_new f E w l).rdn hn (Nat.le_refl _) hm
theorem rd_new1 (f : α → Value) (E : TypeId) (w : World) (o : Obj) (l : List α) {n : Nat} (hn : l.length = n) (hm : n ≤ 9223372036854775807) : Rd f ((w.alloc o).alloc (.cells (row f l) E (0, 0))) (some ⟨w.heap.size + 1, 0, none⟩) n n l := by
  have h := rd_new f E (w.alloc o) l hn hm
  have e : (w.alloc o).heap.size = w.heap.size + 1 := by simp
  rw [e] at h
  exact h
theorem rd_newe (f : α → Value) (E : TypeId) (w : World) (l : List α) {n g : Nat} (hn : l.length = n) (hm : n ≤ 9223372036854775807) (hg : g = w.heap.size) : Rd f (w.alloc (.cells (row f l) E (0, 0))) (some ⟨g, 0, none⟩) n n l := by
  rw [hg]; exact rd_new f E w l hn hm
end
end Go.Kin
namespace Go.Proofs.Ytkbcingibgnnpaa
open Go.RowKit Go.Kin
set_option maxRecDepth 100000

theorem psame_any (a b : Option Addr) (n m c d : Nat) (p q : List Nat) (w : World) (h1 : Rd vb w a n c p) (h2 : Rd vb w b m d q) (hp : Gf.Byt p) (hq : Gf.Byt q) :
    Calls Try.prog 49 #[.slice a n c, .slice b m d] w fun e w' => e = .returned (.bool (decide (p = q))) ∧ w = w' := by
  have s1 := run_string_rd (P := Try.prog) h1 Try.underlying22 Try.underlying5 Try.underlying9
  have s2 := run_string_rd (P := Try.prog) h2 Try.underlying22 Try.underlying5 Try.underlying9
  have e1 := Lib.hid (strB_toList hp hq)
  clear h1 h2
  go_enter Try.func49, Try.ntmps49
  go_wp2
  go_ret
  exact ⟨ret_bool e1.out, rfl⟩

theorem lsame_any (a b : Option Addr) (n m c d : Nat) (p q : List Nat) (w : World) (h1 : Rd vb w a n c p) (h2 : Rd vb w b m d q) (hp : Gf.Byt p) (hq : Gf.Byt q) :
    Calls Try.prog 16 #[.slice a n c, .slice b m d] w fun e w' => e = .returned (.bool (decide (p = q))) ∧ w = w' := by
  have H1 := Lib.hid h1; have H2 := Lib.hid h2; clear h1 h2
  go_enter Try.func16, Try.ntmps16
  go_wp2_with (go_at_call 49; refine (psame_any _ _ _ _ _ _ p q _ H1.out H2.out hp hq).mono ?_; rintro e w' ⟨rfl, rfl⟩)
  go_ret
  exact ⟨rfl, rfl⟩

theorem lsame_eq (a b : Option Addr) (n m c d : Nat) (p q : List Nat) (w : World) (h1 : Rd vb w a n c p) (h2 : Rd vb w b m d q) (hp : Gf.Byt p) (hq : Gf.Byt q) (h : p = q) :
    Calls Try.prog 16 #[.slice a n c, .slice b m d] w fun e w' => e = .returned (.bool true) ∧ w = w' :=
  (lsame_any a b n m c d p q w h1 h2 hp hq).mono fun _ _ ⟨he, hw⟩ => ⟨by rw [he, decide_eq_true h], hw⟩

theorem sz_max {p : List Nat} {n : Nat} (h : p.length = n) (hn : n ≤ 140737488355328) : (Poly.out (Poly.of p)).length ≤ maxLen := by
  have := Poly.sz_of_le p
  rw [Poly.out_length]; unfold maxLen; omega

theorem trim_g (a : Option Addr) (n c : Nat) (l : List Nat) (w : World) (h : Rd vb w a n c l) (hl : Gf.Byt l) (hn : n ≤ 140737488355328) :
    Calls Try.prog 22 #[.slice a n c] w (Gives vb w (Poly.out (Poly.of l))) :=
  (trim_any a n c l w h hl hn).mono fun _ _ hr => hr.gives (sz_max h.len hn)

theorem padd_g (a b : Option Addr) (n m c d : Nat) (p q : List Nat) (w : World) (h1 : Rd vb w a n c p) (h2 : Rd vb w b m d q) (hp : Gf.Byt p) (hq : Gf.Byt q) (hn : n ≤ 140737488355328) (hm : m ≤ 140737488355328) :
    Calls Try.prog 25 #[.slice a n c, .slice b m d] w (Gives vb w (Poly.out (Poly.of p + Poly.of q))) :=
  (padd_any a b n m c d p q w h1 h2 hp hq hn hm).mono fun _ _ hr => hr.gives (by
    have h := Poly.sz_add_le (Poly.of p) (Poly.of q)
    have := Poly.sz_of_le p; have := Poly.sz_of_le q; have := h1.len; have := h2.len
    rw [Poly.out_length]; unfold maxLen; omega)

theorem pmul_g (a b : Option Addr) (n m c d : Nat) (p q : List Nat) (w : World) (h1 : Rd vb w a n c p) (h2 : Rd vb w b m d q) (hp : Gf.Byt p) (hq : Gf.Byt q) (hn : n + m ≤ 1025) :
    Calls Try.prog 27 #[.slice a n c, .slice b m d] w (GivesErr vb w (Poly.out (Poly.of p * Poly.of q)) 0) := by
  have k1 := Poly.sz_of_le p; have k2 := Poly.sz_of_le q; have k3 := h1.len; have k4 := h2.len
  by_cases h0 : Poly.of p = 0 ∨ Poly.of q = 0
  · have hz : Poly.of p * Poly.of q = 0 := by
      rcases h0 with h0 | h0
      · rw [h0, Poly.zero_mul]
      · rw [h0, Poly.mul_zero]
    rw [hz, Poly.out_zero]
    exact (pmul_zero a b n m c d p q w h1 h2 hp hq (by omega) (by omega) h0).mono fun _ w' ⟨he, hb⟩ => ⟨none, 0, 0, he, Rd.nil _ w', hb⟩
  · have q1 : 0 < (Poly.of p).sz := Poly.sz_pos.2 fun e => h0 (.inl e)
    have q2 : 0 < (Poly.of q).sz := Poly.sz_pos.2 fun e => h0 (.inr e)
    refine (pmul_any a b n m c d p q w h1 h2 hp hq (by omega) (by omega) q1 q2 (by omega)).mono fun _ _ hr => hr.gives ?_
    have := Poly.sz_mul_le (Poly.of p) (Poly.of q)
    rw [Poly.out_length]; unfold maxLen; omega

/-- What DivMod gives to read. -/
def GivesDiv (w : World) (P Q : Poly) (e : Ending) (w' : World) : Prop :=
  ∃ (d r : Poly) (a1 : Option Addr) (n1 c1 : Nat) (a2 : Option Addr) (n2 c2 : Nat), P = d * Q + r ∧ r.sz < Q.sz ∧ e = .returned (.tuple #[.slice a1 n1 c1, .slice a2 n2 c2, .int .i64 0]) ∧ Rd vb w' a1 n1 c1 (Poly.out d) ∧ Rd vb w' a2 n2 c2 (Poly.out r) ∧ Below w.heap.size w w'

theorem divmod_g (a b : Option Addr) (n m c d : Nat) (p q : List Nat) (w : World) (h1 : Rd vb w a n c p) (h2 : Rd vb w b m d q) (hp : Gf.Byt p) (hq : Gf.Byt q) (hn : n ≤ 140737488355328) (hm : m ≤ 140737488355328) (h0 : 0 < (Poly.of q).sz) :
    Calls Try.prog 30 #[.slice a n c, .slice b m d] w (GivesDiv w (Poly.of p) (Poly.of q)) := by
  have k1 := Poly.sz_of_le p; have k2 := Poly.sz_of_le q; have k3 := h1.len; have k4 := h2.len
  refine (divmod_any a b n m c d p q w h1 h2 hp hq hn hm h0).mono ?_
  rintro e w' ⟨D, R, g1, g2, hv, hr, he, hg1, hg2, hB1, hB2, hb⟩
  have := Poly.div_sz hv hr
  exact ⟨D, R, _, _, _, _, _, _, hv, hr, he, hB1.rdn (Poly.out_length D) (Nat.le_refl _) (by omega), hB2.rdn (Poly.out_length R) (Nat.le_refl _) (by omega), hb⟩

theorem roots_g (a : Option Addr) (n c : Nat) (p : List Nat) (w : World) (h1 : Rd vb w a n c p) (hp : Gf.Byt p) (hn : n ≤ 140737488355328) (h0 : 0 < (Poly.of p).sz) :
    Calls Try.prog 39 #[.slice a n c] w (GivesErr vb w (Poly.rootsTo (Poly.of p) 256) 0) :=
  (roots_any a n c p w h1 hp hn h0).mono fun _ _ hr => hr.gives

theorem interp_g (a b : Option Addr) (n c d : Nat) (xs ys : List Nat) (w : World) (h1 : Rd vb w a n c xs) (h2 : Rd vb w b n d ys) (hx : Gf.Byt xs) (hy : Gf.Byt ys) (hn : n ≤ 140737488355000) (hd : xs.Nodup) :
    Calls Try.prog 14 #[.slice a n c, .slice b n d] w fun e w' => ∃ p : Poly, p.sz ≤ n ∧ Poly.Takes p xs ys ∧ GivesErr vb w (Poly.out p) 0 e w' :=
  (interp_any a b n c d xs ys w h1 h2 hx hy hn).mono fun _ _ hr => by
    obtain ⟨p, hs, ht, hB⟩ := hr.2 hd
    rw [h1.len] at hs
    exact ⟨p, hs, ht, hB.gives (by rw [Poly.out_length]; unfold maxLen; omega)⟩
end Go.Proofs.Ytkbcingibgnnpaa
