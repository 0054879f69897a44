/- Slices that a call gives to read; new blocks; worlds that only grew. -/
import Derived.Test.YtioiaiifkfopnaaKitP
namespace Go.Kin
open Go.RowKit
section
variable {α : Type}
/-- The call returns a slice that reads as l. -/
def Gives (f : α → Value) (w : World) (l : List α) (e : Ending) (w' : World) : Prop :=
  ∃ a n c, e = .returned (.slice a n c) ∧ Rd f w' a n c l ∧ Below w.heap.size w w'
def GivesErr (f : α → Value) (w : World) (l : List α) (r : Int) (e : Ending) (w' : World) : Prop :=
  ∃ a n c, e = .returned (.tuple #[.slice a n c, .int .i64 r]) ∧ Rd f w' a n c l ∧ Below w.heap.size w w'
theorem RetBlk.gives {f : α → Value} {E : TypeId} {w : World} {l : List α} {e : Ending} {w' : World} (h : RetBlk f E w l e w') (hm : l.length ≤ maxLen) : Gives f w l e w' := by
  obtain ⟨g, he, hg, hB, hb⟩ := h
  exact ⟨_, _, _, he, hB.rd (Nat.le_refl _) hm, hb⟩
theorem RetBlkErr.gives {f : α → Value} {E : TypeId} {w : World} {l : List α} {r : Int} {e : Ending} {w' : World} (h : RetBlkErr f E w l r e w') (hm : l.length ≤ maxLen) : GivesErr f w l r e w' := by
  obtain ⟨g, he, hg, hB, hb⟩ := h
  exact ⟨_, _, _, he, hB.rd (Nat.le_refl _) hm, hb⟩
theorem RetOwn.gives {f : α → Value} {E : TypeId} {w : World} {l : List α} {e : Ending} {w' : World} (h : RetOwn f E w l e w') : Gives f w l e w' := by
  obtain ⟨a, c, he, hO, hb⟩ := h
  exact ⟨_, _, _, he, hO.rd, hb⟩
theorem RetOwnErr.gives {f : α → Value} {E : TypeId} {w : World} {l : List α} {r : Int} {e : Ending} {w' : World} (h : RetOwnErr f E w l r e w') : GivesErr f w l r e w' := by
  obtain ⟨a, c, he, hO, hb⟩ := h
  exact ⟨_, _, _, he, hO.rd, hb⟩
theorem Rd.alloc {f : α → Value} {w : World} {a : Option Addr} {n c : Nat} {l : List α} (o : Obj) (h : Rd f w a n c l) : Rd f (w.alloc o) a n c l := h.fw ((Below.refl _ _).alloc (Nat.le_refl _) o)
theorem below_alloc {w0 w : World} (o : Obj) (h : Below w0.heap.size w0 w) : Below w0.heap.size w0 (w.alloc o) := h.alloc h.size o
theorem rd_new (f : α → Value) (E : TypeId) (w : World) (l : List α) {n : Nat} (hn : l.length = n) (hm : n ≤ 9223372036854775807) : Rd f (w.alloc (.cells (row f l) E (0, 0))) (some ⟨w.heap.size, 0, none⟩) n n l :=
  (blk_new f E w l).rdn hn (Nat.le_refl _) hm
theorem rd_new1 (f : α → Value) (E : TypeId) (w : World) (o : Obj) (l : List α) {n : Nat} (hn : l.length = n) (hm : n ≤ 9223372036854775807) : Rd f ((w.alloc o).alloc (.cells (row f l) E (0, 0))) (some ⟨w.heap.size + 1, 0, none⟩) n n l := by
  have h := rd_new f E (w.alloc o) l hn hm
  have e : (w.alloc o).heap.size = w.heap.size + 1 := by simp
  rw [e] at h
  exact h
theorem rd_newe (f : α → Value) (E : TypeId) (w : World) (l : List α) {n g : Nat} (hn : l.length = n) (hm : n ≤ 9223372036854775807) (hg : g = w.heap.size) : Rd f (w.alloc (.cells (row f l) E (0, 0))) (some ⟨g, 0, none⟩) n n l := by
  rw [hg]; exact rd_new f E w l hn hm
theorem Rd.fw2 {f : α → Value} {w w' : World} {a : Option Addr} {n c : Nat} {l : List α} (hb : Below w.heap.size w w') (h : Rd f w a n c l) : Rd f w' a n c l := h.fw hb
theorem below_refl (w : World) : Below w.heap.size w w := Below.refl _ _
end
end Go.Kin
