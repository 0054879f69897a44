/- copy into a block that is known whole. -/
import Derived.Test.YtioiaiifkfopnaaKitB
import Derived.Laws.CopyOwn
namespace Go.Kin
open Go.RowKit
section
variable {α : Type}

/-- The list cs laid over L from a place on. -/
def over (L : List α) (off : Nat) (cs : List α) : List α := L.take off ++ (cs ++ L.drop (off + cs.length))
theorem over_length (L : List α) (off : Nat) (cs : List α) (h : off + cs.length ≤ L.length) : (over L off cs).length = L.length := by simp [over]; omega
theorem over_get (L : List α) (off : Nat) (cs : List α) (h : off + cs.length ≤ L.length) (i : Nat) :
    (over L off cs)[i]? = if i < off then L[i]? else if i < off + cs.length then cs[i - off]? else L[i]? := by
  unfold over
  have ht : (L.take off).length = off := by simp; omega
  rw [List.getElem?_append, ht]
  by_cases h1 : i < off
  · rw [if_pos h1, if_pos h1, List.getElem?_take, if_pos h1]
  · rw [if_neg h1, if_neg h1, List.getElem?_append]
    by_cases h2 : i < off + cs.length
    · rw [if_pos (by omega), if_pos h2]
    · rw [if_neg (by omega), if_neg h2, List.getElem?_drop]
      congr 1; omega
theorem over_nil (L : List α) (off : Nat) : over L off [] = L := by simp [over]
theorem over_all (L cs : List α) (h : cs.length = L.length) : over L 0 cs = cs := by simp [over, h]

theorem Wrote.blk {f : α → Value} {w w' : World} {g : Nat} {l : List α} {E : TypeId} (h : Wrote w g (Kin.row f l) E w') : Blk f E w' g l := h.row

theorem Wrote.bfw {w w' : World} {g : Nat} {cs : Array Value} {t : TypeId} (h : Wrote w g cs t w') {w0 : World} (hb : Below w0.heap.size w0 w) (hB : w0.heap.size ≤ g) : Below w0.heap.size w0 w' := h.below hb hB

theorem wpList_copy_blk {P : Program} {w : World} {ops : Array Oper} {rest : List Oper} {o : Oper} {a : Act} {Q : Exit → Act → World → Prop} (hgd : o.guard = none) (d s : Operand) (dT sT : TypeId)
    (ho : o.op = .call { callee := .builtin .copy, args := #[d, s], argTypes := #[dT, sT] }) (elem : TypeId) (hu : P.underlying dT = some (.slice elem)) (hsz : (P.info? elem).map (·.size) = some 1)
    (f : α → Value) (h1 : ∀ x, (f x).oneCell' = true) (g off dLen dCap sLen sCap : Nat) (sp : Option Addr) (hd : a.eval d = .slice (some ⟨g, off, none⟩) dLen dCap) (hs : a.eval s = .slice sp sLen sCap)
    (L S : List α) (t : TypeId) (hB : Blk f t w g L) (hS : Rd f w sp sLen sCap S) (hfit : off + Nat.min sLen dLen ≤ L.length)
    (h : ∀ w', Wrote w g (row f (over L off (S.take (Nat.min sLen dLen)))) t w' → wpList P ops Q rest (a.put o.dst (goInt (Nat.min sLen dLen : Nat))) w') : wpList P ops Q (o :: rest) a w := by
  have hk : (S.take (Nat.min sLen dLen)).length = Nat.min sLen dLen := by
    rw [List.length_take, hS.len]; exact Nat.min_eq_left (Nat.min_le_left _ _)
  by_cases h0 : Nat.min sLen dLen = 0
  · refine wpList_copy_nothing hgd d s dT sT ho elem hu hsz _ sp dLen dCap sLen sCap hd hs h0 ?_
    have e : (S.take (Nat.min sLen dLen)) = [] := List.eq_nil_of_length_eq_zero (by rw [hk]; exact h0)
    rw [e, over_nil, h0] at h
    exact h w ⟨rfl, rfl, rfl, rfl, hB, fun _ _ => rfl⟩
  · have hpos : 0 < sLen := by
      rcases Nat.eq_zero_or_pos sLen with e | e
      · rw [e] at h0; exact absurd (Nat.zero_min _) h0
      · exact e
    obtain ⟨b, o', ha⟩ := hS.lt_of_pos hpos
    subst ha
    have hrun := wpList_copy_own (P := P) (w := w) (ops := ops) (rest := rest) (Q := Q) hgd d s dT sT ho elem hu hsz g off dLen dCap ⟨b, o', none⟩ sLen sCap hd hs (row f L) t hB ((S.take (Nat.min sLen dLen)).map f) (by rw [List.length_map, hk])
      (fun j v hv => by
        rw [List.getElem?_map] at hv
        cases hx : (S.take (Nat.min sLen dLen))[j]? with
        | none => simp [hx] at hv
        | some x =>
          rw [hx] at hv
          simp only [Option.map_some, Option.some.injEq] at hv
          rw [List.getElem?_take] at hx
          split at hx
          · obtain ⟨b2, o2, hb2, hc⟩ := hS.cell j x hx
            cases hb2
            have hplain : (⟨b, o', none⟩ : Addr).add j = ⟨b, o' + j, none⟩ := by unfold Addr.add; split <;> simp_all
            rw [hplain, hc, hv]
          · cases hx)
      (by rw [List.length_map, hk, row_size]; exact hfit)
      (fun v hv => by obtain ⟨x, _, rfl⟩ := List.mem_map.1 hv; exact h1 x)
    have hw := Wrote.of_setRow w g (row f L) (row f (over L off (S.take (Nat.min sLen dLen)))) t hB
    refine hrun ?_
    have e : ((row f L).toList.take off ++ ((S.take (Nat.min sLen dLen)).map f ++ (row f L).toList.drop (off + ((S.take (Nat.min sLen dLen)).map f).length))).toArray = row f (over L off (S.take (Nat.min sLen dLen))) := by
      simp [row, over]
    rw [e, List.length_map, hk]
    exact h _ hw
theorem Blk.grown {f : α → Value} {E : TypeId} {w w' : World} {g b : Nat} {l : List α} (h : Blk f E w g l) (hg : w.grownBy w' (some b)) (hne : g ≠ b) : Blk f E w' g l :=
  (hg.block g h.lt (by intro e; cases e; exact hne rfl)).trans h
theorem below_grown {w0 w w' : World} {b : Nat} (hb : Below w0.heap.size w0 w) (hg : w.grownBy w' (some b)) (hB : w0.heap.size ≤ b) : Below w0.heap.size w0 w' :=
  hb.grown hg hb.size fun k e => by cases e; exact hB
theorem grown_fw {w w1 w2 : World} {b : Nat} (h : Below w.heap.size w w1) (hg : w1.grownBy w2 (some b)) : w.grownBy w2 (some b) :=
  ⟨hg.os.trans h.os, hg.tape.trans h.tape, hg.output.trans h.output, Nat.le_trans h.size hg.size, fun k hk hne => (hg.block k (Nat.lt_of_lt_of_le hk h.size) hne).trans (h.block k hk)⟩
theorem grown_set {w w1 : World} {b : Nat} (h : w.grownBy w1 (some b)) (a : Addr) (v : Value) (ha : a.block = b) : w.grownBy (w1.setCell a v) (some b) :=
  ⟨h.os, h.tape, h.output, by simp [World.setCell]; exact h.size, fun k hk hne => by
    rw [Below.heap_setCell _ _ _ _ (by intro e; apply hne; rw [e, ha])]
    exact h.block k hk hne⟩
theorem grown_refl (w : World) (r : Option Nat) : w.grownBy w r := ⟨rfl, rfl, rfl, Nat.le_refl _, fun _ _ _ => rfl⟩
theorem grown_of_fw {w w1 : World} (h : Below w.heap.size w w1) (r : Option Nat) : w.grownBy w1 r := ⟨h.os, h.tape, h.output, h.size, fun k hk _ => h.block k hk⟩
theorem Rd.grown {f : α → Value} {w w' : World} {a : Option Addr} {n c : Nat} {l : List α} (h : Rd f w a n c l) {b : Nat} (hg : w.grownBy w' (some b)) (hne : ∀ x, a = some x → x.block ≠ b) : Rd f w' a n c l := by
  refine ⟨h.len, h.cap, h.max, h.none0, fun i x hx => ?_⟩
  obtain ⟨b2, o, ha, hc⟩ := h.cell i x hx
  refine ⟨b2, o, ha, ?_⟩
  have hlt := lt_of_cell hc
  have := hne _ ha
  rw [World.cell?_of_block (w := w) (hg.block b2 hlt (by intro e; cases e; exact this rfl))]
  exact hc
/-- Nothing but draws. -/
def Drw (w w' : World) : Prop := ∃ m, w' = w.drewN m
theorem Drw.refl (w : World) : Drw w w := ⟨0, rfl⟩
theorem Drw.step {w w1 : World} (h : Drw w w1) (n : Nat) : Drw w (w1.drewN n) := by
  obtain ⟨m, rfl⟩ := h
  exact ⟨m + n, by rw [World.drewN_drewN]⟩
theorem Drw.trans {w w1 w2 : World} (h : Drw w w1) (k : Drw w1 w2) : Drw w w2 := by
  obtain ⟨m, rfl⟩ := k
  exact h.step m
theorem Drw.fw {w w1 : World} (h : Drw w w1) : Below w.heap.size w w1 := by
  obtain ⟨m, rfl⟩ := h
  exact below_drewN (Below.refl _ _) m
theorem Rd.drw {f : α → Value} {w w1 : World} {a : Option Addr} {n c : Nat} {l : List α} (h : Rd f w a n c l) (hd : Drw w w1) : Rd f w1 a n c l := h.fw hd.fw
theorem Blk.drw {f : α → Value} {E : TypeId} {w w1 : World} {g : Nat} {l : List α} (h : Blk f E w g l) (hd : Drw w w1) : Blk f E w1 g l := h.fw hd.fw
/-- A callee that only draws, met inside a region that only reads. -/
theorem qdrw {P : Program} {f : FuncId} {args : Array Value} {w : World} {n : Nat} {v : Value}
    (h : Calls P f args (w.drewN n) fun e w' => e = .returned v ∧ Drw (w.drewN n) w') : Calls P f args (w.drewN n) fun e w'' => e = .returned v ∧ ∃ m, w'' = w.drewN m :=
  h.mono fun _ _ ⟨he, m, hm⟩ => ⟨he, n + m, by rw [hm, World.drewN_drewN]⟩
end

theorem vb_one (x : Nat) : (vb x).oneCell' = true := rfl
theorem vi_one (x : Int) : (vi x).oneCell' = true := rfl
end Go.Kin
