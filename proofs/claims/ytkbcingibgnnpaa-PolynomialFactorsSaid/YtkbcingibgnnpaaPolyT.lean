/- The polynomial functions with bounds on what they give. -/
import Derived.Test.YtkbcingibgnnpaaMany
namespace Go.Proofs.Ytkbcingibgnnpaa
open Go.RowKit Go.Kin
set_option maxRecDepth 100000

theorem _root_.Go.Kin.Rd.fw2 {α : Type} {f : α → Value} {w w' : World} {a : Option Addr} {n c : Nat} {l : List α} (hb : Below w.heap.size w w') (h : Rd f w a n c l) : Rd f w' a n c l := h.fw hb

/-- The call returns a slice of at most N bytes that reads as l. -/
def GivesS (w : World) (N : Nat) (l : List Nat) (e : Ending) (w' : World) : Prop :=
  ∃ a n c, e = .returned (.slice a n c) ∧ Rd vb w' a n c l ∧ n ≤ N ∧ Below w.heap.size w w'

theorem lmul_s (a b : Option Addr) (n m c d : Nat) (p q : List Nat) (w : World) (h1 : Rd vb w a n c p) (h2 : Rd vb w b m d q) (hp : Gf.Byt p) (hq : Gf.Byt q) (hn : n + m ≤ 1025) :
    Calls Try.prog 31 #[.slice a n c, .slice b m d] w (GivesS w (n + m) (Poly.out (Poly.of p * Poly.of q))) :=
  (lmul_any a b n m c d p q w h1 h2 hp hq hn).mono fun _ _ ⟨a', n', c', he, hr, hb⟩ => ⟨a', n', c', he, hr, by
    have := Poly.sz_mul_le (Poly.of p) (Poly.of q); have := Poly.sz_of_le p; have := Poly.sz_of_le q; have := h1.len; have := h2.len
    have := hr.len; rw [Poly.out_length] at this; omega, hb⟩
theorem padd_s (a b : Option Addr) (n m c d : Nat) (p q : List Nat) (w : World) (h1 : Rd vb w a n c p) (h2 : Rd vb w b m d q) (hp : Gf.Byt p) (hq : Gf.Byt q) (hn : n + m ≤ 140737488355328) :
    Calls Try.prog 25 #[.slice a n c, .slice b m d] w (GivesS w (n + m) (Poly.out (Poly.of p + Poly.of q))) :=
  (padd_g a b n m c d p q w h1 h2 hp hq (by omega) (by omega)).mono fun _ _ ⟨a', n', c', he, hr, hb⟩ => ⟨a', n', c', he, hr, by
    have := Poly.sz_add_le (Poly.of p) (Poly.of q); have := Poly.sz_of_le p; have := Poly.sz_of_le q; have := h1.len; have := h2.len
    have := hr.len; rw [Poly.out_length] at this; omega, hb⟩
theorem trim_s (a : Option Addr) (n c : Nat) (p : List Nat) (w : World) (h1 : Rd vb w a n c p) (hp : Gf.Byt p) (hn : n ≤ 140737488355328) :
    Calls Try.prog 22 #[.slice a n c] w (GivesS w n (Poly.out (Poly.of p))) :=
  (trim_g a n c p w h1 hp hn).mono fun _ _ ⟨a', n', c', he, hr, hb⟩ => ⟨a', n', c', he, hr, by
    have := Poly.sz_of_le p; have := h1.len
    have := hr.len; rw [Poly.out_length] at this; omega, hb⟩
theorem padd_self (a : Option Addr) (n c : Nat) (p : List Nat) (w : World) (h1 : Rd vb w a n c p) (hp : Gf.Byt p) (hn : n ≤ 140737488355328) :
    Calls Try.prog 25 #[.slice a n c, .slice a n c] w fun e w' => ∃ a' c', e = .returned (.slice a' 0 c') ∧ Below w.heap.size w w' :=
  (padd_g a a n n c c p p w h1 h1 hp hp hn hn).mono fun _ _ ⟨a', n', c', he, hr, hb⟩ => by
    have := hr.len
    rw [Poly.add_self, Poly.out_zero] at this
    subst this
    exact ⟨a', c', he, hb⟩
theorem one_of : Poly.of [1] = 1 := rfl
theorem many3 (a b r : Option Addr) (n m k c d f : Nat) (w : World) (g : Nat) (hg : g = w.heap.size) :
    Calls Try.prog 18 #[.slice (some ⟨g, 0, none⟩) 3 3] (w.alloc (.cells #[.slice a n c, .slice b m d, .slice r k f] 22 (0, 0))) fun e w' => e = .returned (.bool (decide (30 < n) || (decide (30 < m) || decide (30 < k)))) ∧ (w.alloc (.cells #[.slice a n c, .slice b m d, .slice r k f] 22 (0, 0))) = w' :=
  (many_any (some ⟨g, 0, none⟩) 3 3 [(a, n, c), (b, m, d), (r, k, f)] _ (rd_newe vs 22 w [(a, n, c), (b, m, d), (r, k, f)] rfl (by omega) hg)).mono fun _ _ ⟨he, hw⟩ => ⟨by rw [he]; simp, hw⟩
theorem many2 (a b : Option Addr) (n m c d : Nat) (w : World) (g : Nat) (hg : g = w.heap.size) :
    Calls Try.prog 18 #[.slice (some ⟨g, 0, none⟩) 2 2] (w.alloc (.cells #[.slice a n c, .slice b m d] 22 (0, 0))) fun e w' => e = .returned (.bool (decide (30 < n) || decide (30 < m))) ∧ (w.alloc (.cells #[.slice a n c, .slice b m d] 22 (0, 0))) = w' :=
  (many_any (some ⟨g, 0, none⟩) 2 2 [(a, n, c), (b, m, d)] _ (rd_newe vs 22 w [(a, n, c), (b, m, d)] rfl (by omega) hg)).mono fun _ _ ⟨he, hw⟩ => ⟨by rw [he]; simp, hw⟩
theorem many1 (a : Option Addr) (n c : Nat) (w : World) (g : Nat) (hg : g = w.heap.size) :
    Calls Try.prog 18 #[.slice (some ⟨g, 0, none⟩) 1 1] (w.alloc (.cells #[.slice a n c] 22 (0, 0))) fun e w' => e = .returned (.bool (decide (30 < n))) ∧ (w.alloc (.cells #[.slice a n c] 22 (0, 0))) = w' :=
  (many_any (some ⟨g, 0, none⟩) 1 1 [(a, n, c)] _ (rd_newe vs 22 w [(a, n, c)] rfl (by omega) hg)).mono fun _ _ ⟨he, hw⟩ => ⟨by rw [he]; simp, hw⟩
end Go.Proofs.Ytkbcingibgnnpaa
