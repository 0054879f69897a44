/- A choice appended, plain: network and choices behind it. (To be imported by XNh.) -/
import Derived.Test.YtpecepfnmkpmmaaNg
import Derived.Test.YtpecepfnmkpmmaaQl
namespace Go.Proofs.Ytpecepfnmkpmmaa
open Go.RowKit Go.Kin Quo
set_option maxRecDepth 100000
set_option linter.unusedVariables false
theorem NetM.cons {w : World} {B : Nat} {X : List Nat} {bg : Nat} {g : Net} (h : NetM w B X bg g) {x : Nat} (hx : x ∈ X ∨ w.heap.size ≤ x) : NetM w B (x :: X) bg g := by
  rcases hx with hx | hx
  · obtain ⟨aa, ac, oo, oc, L, h1, h2, h3, h4, h5, h6, h7, h8, h9, h10⟩ := h
    have key : ∀ k, k ∉ X → k ∉ x :: X := fun k hk hm => by
      rcases List.mem_cons.1 hm with e | e
      · subst e; exact hk hx
      · exact hk e
    exact ⟨aa, ac, oo, oc, L, h1, h2, h3, h4, h5, h6, key _ h7, key _ h8, fun y hy => key _ (h9 y hy), fun i hd y hi hy => key _ (h10 i hd y hi hy)⟩
  · exact h.exclude hx
/-- The network behind an append to a slice that lies in the blocks X. -/
theorem NetM.appended {w w' : World} {B : Nat} {X : List Nat} {bg : Nat} {g : Net} (h : NetM w B X bg g) {ca : Option Addr} {n cc g5 : Nat} (hca : ∀ x, ca = some x → x.block ∈ X) (hg : w.grownBy w' (Value.slice ca n cc).ownBlock) (hl : (Value.slice ca n cc).ownBlock = some g5 ∨ g5 = w.heap.size) : NetM w' B (g5 :: X) bg g := by
  have h5 : g5 ∈ X ∨ w.heap.size ≤ g5 := by
    rcases hl with e | e
    · obtain ⟨x, hx, rfl⟩ := ownBlock_eq e
      exact .inl (hca x hx)
    · exact .inr (by omega)
  refine (h.cons h5).fr (Y := []) fun k hk hkX _ => hg.block k hk fun e => ?_
  obtain ⟨x, hx, hb⟩ := ownBlock_eq e.symm
  exact hkX (List.mem_cons_of_mem _ (by rw [← hb]; exact hca x hx))
end Go.Proofs.Ytpecepfnmkpmmaa
namespace Go.Proofs.Ytpecepfnmkpmmaa
open Go.RowKit Go.Kin Quo
theorem infoCh : (Try.prog.info? 71).map (fun i => (i.zero, i.size, i.bytes)) = some (some (.agg #[.int .i64 0, .int .i64 0, .int .i64 0, .int .i64 0, .int .i64 0, .int .i64 0, .int .i64 0]), 7, 56) := by kernel_rfl
theorem infoMv : (Try.prog.info? 47).map (fun i => (i.zero, i.size, i.bytes)) = some (some (.agg #[.int .i64 0, .int .i64 0, .int .i64 0, .int .i64 0]), 4, 32) := by kernel_rfl
end Go.Proofs.Ytpecepfnmkpmmaa
