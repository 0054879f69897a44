/- quota: what Settle does, plain. -/
import Derived.Test.YtpecepfnmkpmmaaNg
namespace Quo
structure Mv where
  fr : Nat
  dst : Nat
  ow : Nat
  amt : Int
def clearC (g : Net) (c : Ch) : Net := (g.setRoom c.num 0).setRoom (c.num ^^^ 1) 0
def mvOf (c : Ch) (x : Int) : List Mv := if x = 0 then [] else [⟨c.fr, c.dst, c.ow, x⟩]
/-- The loop over the choices: network, moves so far, choices, all moves. -/
def Run : Net → List Mv → List Ch → List Mv → Prop
  | _, mv, [], r => mv = r
  | g, mv, c :: cs, r => ∃ f g2 y, pushF c.goal c.stock f (clearC g c) 0 = some (g2, y) ∧ (-lim ≤ g.room (c.num ^^^ 1) + y ∧ g.room (c.num ^^^ 1) + y ≤ lim) ∧ Run g2 (mv ++ mvOf c (g.room (c.num ^^^ 1) + y)) cs r
/-- The loop, to be reckoned. -/
def runF (f : Nat) : Net → List Mv → List Ch → Option (List Mv)
  | _, mv, [] => some mv
  | g, mv, c :: cs => match pushF c.goal c.stock f (clearC g c) 0 with
    | none => none
    | some (g2, y) => if -lim ≤ g.room (c.num ^^^ 1) + y ∧ g.room (c.num ^^^ 1) + y ≤ lim then runF f g2 (mv ++ mvOf c (g.room (c.num ^^^ 1) + y)) cs else none
theorem run_of {f : Nat} : ∀ (cs : List Ch) (g : Net) (mv r : List Mv), runF f g mv cs = some r → Run g mv cs r
  | [], g, mv, r, h => by unfold runF at h; unfold Run; exact Option.some.inj h
  | c :: cs, g, mv, r, h => by
    unfold runF at h
    cases hp : pushF c.goal c.stock f (clearC g c) 0 with
    | none => rw [hp] at h; cases h
    | some p =>
      rw [hp] at h
      obtain ⟨g2, y⟩ := p
      replace h : (if -lim ≤ g.room (c.num ^^^ 1) + y ∧ g.room (c.num ^^^ 1) + y ≤ lim then runF f g2 (mv ++ mvOf c (g.room (c.num ^^^ 1) + y)) cs else none) = some r := h
      split at h
      · rename_i hb
        exact ⟨f, g2, y, hp, hb, run_of cs _ _ _ h⟩
      · cases h
/-- A choice that means something in the network. -/
structure ChOk (g : Net) (c : Ch) : Prop where
  num : c.num < g.arcs.length
  stock : c.stock < g.out.length
  goal : c.goal < g.out.length
  ne : c.goal ≠ c.stock
instance (g : Net) (c : Ch) : Decidable (ChOk g c) := decidable_of_iff (c.num < g.arcs.length ∧ c.stock < g.out.length ∧ c.goal < g.out.length ∧ c.goal ≠ c.stock) ⟨fun h => ⟨h.1, h.2.1, h.2.2.1, h.2.2.2⟩, fun h => ⟨h.num, h.stock, h.goal, h.ne⟩⟩
theorem clearC_ok {g : Net} (h : NetOk g) (c : Ch) : NetOk (clearC g c) := (h.setRoom _ _).setRoom _ _
theorem clearC_len (g : Net) (c : Ch) : (clearC g c).arcs.length = g.arcs.length := by unfold clearC; rw [setRoom_len, setRoom_len]
theorem clearC_out (g : Net) (c : Ch) : (clearC g c).out = g.out := rfl
end Quo
namespace Go.Proofs.Ytpecepfnmkpmmaa
open Go.RowKit Go.Kin Quo
/-- A move's cells. -/
def vm (m : Mv) : List Value := [.int .i64 (m.fr : Int), .int .i64 (m.dst : Int), .int .i64 (m.ow : Int), .int .i64 m.amt]
theorem vm_len (m : Mv) : (vm m).length = 4 := rfl
/-- The cells of one element. -/
theorem flat_cells {α : Type} {f : α → List Value} {s : Nat} (hs : ∀ x, (f x).length = s) : ∀ (l : List α) (i : Nat) (x : α), l[i]? = some x → ∀ k, k < s → (l.flatMap f)[i * s + k]? = (f x)[k]?
  | [], i, x, h, k, hk => by simp at h
  | y :: l, 0, x, h, k, hk => by
    cases h
    rw [List.flatMap_cons, Nat.zero_mul, Nat.zero_add, List.getElem?_append_left (by rw [hs]; exact hk)]
  | y :: l, i + 1, x, h, k, hk => by
    have := flat_cells hs l i x h k hk
    rw [List.flatMap_cons, List.getElem?_append_right (by rw [hs, Nat.succ_mul]; omega), hs, ← this]
    congr 1
    rw [Nat.succ_mul]; omega
theorem OwnA.cells {α : Type} {f : α → List Value} {s B : Nat} {E : TypeId} {w : World} {a : Option Addr} {n c : Nat} {l : List α} (h : OwnA f s B E w a n c l) (hs : ∀ x, (f x).length = s) {i : Nat} {x : α} (hx : l[i]? = some x) :
    ∃ g, a = some ⟨g, 0, none⟩ ∧ ∀ k v, (f x)[k]? = some v → w.cell? ⟨g, i * s + k, none⟩ = some v := by
  obtain ⟨hl, ⟨rfl, rfl, rfl⟩ | ⟨g, cur, rfl, hB, hg, hnc, hm, hc, ht⟩⟩ := h
  · obtain rfl : l = [] := List.eq_nil_of_length_eq_zero hl
    simp at hx
  · have hi : i < n := by rw [← hl]; exact (List.getElem?_eq_some_iff.1 hx).1
    refine ⟨g, rfl, fun k v hk => ?_⟩
    have hks : k < s := by rw [← hs x]; exact (List.getElem?_eq_some_iff.1 hk).1
    rw [cell_of_row w g _ cur _ _ hg, ← Array.getElem?_toList]
    have e := flat_cells hs l i x hx k hks
    rw [hk] at e
    have hlt : i * s + k < n * s := by
      have : (i + 1) * s ≤ n * s := Nat.mul_le_mul_right s hi
      rw [Nat.succ_mul] at this; omega
    rw [← e, ← ht, List.getElem?_take, if_pos hlt]
end Go.Proofs.Ytpecepfnmkpmmaa
