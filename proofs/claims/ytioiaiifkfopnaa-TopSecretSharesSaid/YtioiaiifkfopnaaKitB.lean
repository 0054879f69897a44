/- Blocks that are known whole, as lists; make of such a block; slices that come in and slices of the call's own. -/
import Derived.Test.YtioiaiifkfopnaaKit
import Derived.OwnWalk
import Derived.Laws.MakeOwn
import Derived.Laws.BytesArg
namespace Go.Kin
open Go.RowKit
section
variable {α : Type}

/-- The cells of a row that holds the list l. -/
def row (f : α → Value) (l : List α) : Array Value := (l.map f).toArray
theorem row_size (f : α → Value) (l : List α) : (row f l).size = l.length := by simp [row]
theorem row_get (f : α → Value) (l : List α) (i : Nat) : (row f l)[i]? = (l[i]?).map f := by simp [row]
theorem row_set (f : α → Value) (l : List α) (i : Nat) (x : α) : (row f l).setIfInBounds i (f x) = row f (l.set i x) := by simp [row, List.map_set]
theorem row_toList (f : α → Value) (l : List α) : (row f l).toList = l.map f := by simp [row]

/-- Block g holds just the list l. -/
def Blk (f : α → Value) (E : TypeId) (w : World) (g : Nat) (l : List α) : Prop := w.heap[g]? = some (.cells (row f l) E (0, 0))

theorem Blk.cell {f : α → Value} {E : TypeId} {w : World} {g : Nat} {l : List α} (h : Blk f E w g l) {i : Nat} {x : α} (hx : l[i]? = some x) : w.cell? ⟨g, i, none⟩ = some (f x) := by
  rw [cell_of_row w g i _ _ _ h, row_get, hx]; rfl
theorem Blk.frozen {f : α → Value} {E : TypeId} {w : World} {g : Nat} {l : List α} (h : Blk f E w g l) (i : Nat) : w.frozen? ⟨g, i, none⟩ = false := frozen_of_row w g i _ _ h
theorem Blk.set {f : α → Value} {E : TypeId} {w : World} {g : Nat} {l : List α} (h : Blk f E w g l) (i : Nat) (x : α) : Blk f E (w.setCell ⟨g, i, none⟩ (f x)) g (l.set i x) := by
  unfold Blk
  rw [← row_set]
  exact heap_setCell_same w g i _ E _ h
theorem Blk.other {f : α → Value} {E : TypeId} {w : World} {g : Nat} {l : List α} (h : Blk f E w g l) (a : Addr) (v : Value) (hne : g ≠ a.block) : Blk f E (w.setCell a v) g l := by
  unfold Blk
  rw [heap_setCell_other w a g v hne]; exact h
theorem Blk.lt {f : α → Value} {E : TypeId} {w : World} {g : Nat} {l : List α} (h : Blk f E w g l) : g < w.heap.size := (Array.getElem?_eq_some_iff.1 h).1
theorem Blk.below {f : α → Value} {E : TypeId} {w w' : World} {g : Nat} {l : List α} (h : Blk f E w g l) {B : Nat} (hb : Below B w w') (hB : g < B) : Blk f E w' g l := (hb.block g hB).trans h
theorem Blk.fw {f : α → Value} {E : TypeId} {w w' : World} {g : Nat} {l : List α} (h : Blk f E w g l) (hb : Below w.heap.size w w') : Blk f E w' g l := h.below hb h.lt
theorem Blk.wrote {f : α → Value} {E T : TypeId} {w w' : World} {g b : Nat} {l : List α} {cs : Array Value} (h : Blk f E w g l) (hw : Wrote w b cs T w') (hne : g ≠ b) : Blk f E w' g l := (hw.other g hne).trans h
theorem Blk.drew {f : α → Value} {E : TypeId} {w : World} {g : Nat} {l : List α} (h : Blk f E w g l) (n : Nat) : Blk f E (w.drewN n) g l := h

theorem Blk.rd {f : α → Value} {E : TypeId} {w : World} {g : Nat} {l : List α} (h : Blk f E w g l) {c : Nat} (hc : l.length ≤ c) (hm : c ≤ maxLen) : Rd f w (some ⟨g, 0, none⟩) l.length c l :=
  ⟨rfl, hc, hm, by simp, fun i x hx => ⟨g, 0, rfl, by rw [Nat.zero_add]; exact h.cell hx⟩⟩

theorem Blk.rdn {f : α → Value} {E : TypeId} {w : World} {g : Nat} {l : List α} (h : Blk f E w g l) {n c : Nat} (hn : l.length = n) (hc : n ≤ c) (hm : c ≤ 9223372036854775807) : Rd f w (some ⟨g, 0, none⟩) n c l := by
  subst hn
  exact h.rd hc (by unfold maxLen; omega)

theorem Blk.own {f : α → Value} {E : TypeId} {w : World} {g : Nat} {l : List α} (h : Blk f E w g l) {B : Nat} (hB : B ≤ g) (hm : l.length ≤ maxLen) : Own f B E w (some ⟨g, 0, none⟩) l.length l.length l :=
  ⟨rfl, .inr ⟨g, row f l, rfl, hB, h, Nat.le_refl _, hm, row_size f l, by rw [row_toList, List.take_of_length_le (by simp)]⟩⟩

theorem Rd.lt_of_pos {f : α → Value} {w : World} {a : Option Addr} {n c : Nat} {l : List α} (h : Rd f w a n c l) (hn : 0 < n) : ∃ b o, a = some ⟨b, o, none⟩ := by
  obtain ⟨b, o, ha, _⟩ := h.at hn
  exact ⟨b, o, ha⟩

theorem Rd.fw {f : α → Value} {w w' : World} {a : Option Addr} {n c : Nat} {l : List α} (h : Rd f w a n c l) (hb : Below w.heap.size w w') : Rd f w' a n c l := h.below hb (Nat.le_refl _)
theorem Own.fw {f : α → Value} {B : Nat} {E : TypeId} {w w' : World} {a : Option Addr} {n c : Nat} {l : List α} (h : Own f B E w a n c l) (hb : Below w.heap.size w w') : Own f B E w' a n c l := h.below hb (Nat.le_refl _)
theorem Own.mono {f : α → Value} {B B' : Nat} {E : TypeId} {w : World} {a : Option Addr} {n c : Nat} {l : List α} (h : Own f B E w a n c l) (hB : B' ≤ B) : Own f B' E w a n c l := by
  obtain ⟨hl, h | ⟨g, cur, rfl, hB1, r⟩⟩ := h
  · exact ⟨hl, .inl h⟩
  · exact ⟨hl, .inr ⟨g, cur, rfl, Nat.le_trans hB hB1, r⟩⟩
theorem Own.len {f : α → Value} {B : Nat} {E : TypeId} {w : World} {a : Option Addr} {n c : Nat} {l : List α} (h : Own f B E w a n c l) : l.length = n := h.1

theorem made_row (f : α → Value) (z : α) (hz : (f z).cells = #[f z]) (n : Nat) : madeCells (f z).cells (n * 1) = row f (List.replicate n z) := by
  apply Array.ext
  · simp [madeCells, row]
  · intro i h1 h2
    simp [madeCells, row, hz, Nat.mod_one]

/-- make([]T, n), for elements of one cell: a block that holds n zeros. -/
theorem wpList_make_blk {P : Program} {w : World} {ops : Array Oper} {rest : List Oper} {o : Oper} {a : Act} {Q : Exit → Act → World → Prop}
    (hg : o.guard = none) (x y : Operand) (t : TypeId) (hop : o.op = Op.makeSlice t x y) (f : α → Value) (z : α) (e : TypeId) (i : TypeInfo)
    (h1 : P.underlying t = some (.slice e)) (h2 : P.info? e = some i) (h3 : i.zero = some (f z)) (h4 : i.size = 1) (hz : (f z).cells = #[f z])
    (kl kc : IntKind) (L C : Int) (n : Nat) (hl : a.eval x = .int kl L) (hc : a.eval y = .int kc C) (hL : L = (n : Int)) (hC : C = (n : Int)) (b2 : i.bytes * n ≤ 281474976710656) (b3 : n ≤ 9223372036854775807)
    (hK : ∀ w', Blk f e w' w.heap.size (List.replicate n z) → Below w.heap.size w w' → w'.heap.size = w.heap.size + 1 → wpList P ops Q rest (a.put o.dst (.slice (some ⟨w.heap.size, 0, none⟩) n n)) w') :
    wpList P ops Q (o :: rest) a w := by
  refine wpList_plain hg fun K hK' => ?_
  have hb' : (i.bytes : Int) * (n : Int) ≤ 281474976710656 := by
    have h : ((i.bytes * n : Nat) : Int) ≤ 281474976710656 := by omega
    rwa [Int.natCast_mul] at h
  have hrun := run_make (P := P) w t e i (f z) h1 h2 h3 kl kc (n : Int) (n : Int) (by omega) (by omega) hb' (by omega)
  rw [h4, Int.toNat_natCast, made_row f z hz n] at hrun
  subst hL
  subst hC
  unfold Oper.wp
  simp [execOp, hop, hl, hc, hrun, Result.andThen]
  refine hK' _ _ (hK _ (heap_alloc_new w _) ((Below.refl _ _).alloc (Nat.le_refl _) _) (by simp))

theorem bt {a b c : World} (h : Below a.heap.size a b) (k : Below b.heap.size b c) : Below a.heap.size a c := h.trans (k.mono h.size)
theorem bt' {a b c : World} (k : Below b.heap.size b c) (h : Below a.heap.size a b) : Below a.heap.size a c := h.trans (k.mono h.size)
theorem fdrewN {a b : World} (h : Below a.heap.size a b) (n : Nat) : Below a.heap.size a (b.drewN n) := below_drewN h n

/-- The call returns a new block that holds just the list l, as a slice of its length. -/
def RetBlk (f : α → Value) (E : TypeId) (w : World) (l : List α) (e : Ending) (w' : World) : Prop :=
  ∃ g, e = .returned (.slice (some ⟨g, 0, none⟩) l.length l.length) ∧ w.heap.size ≤ g ∧ Blk f E w' g l ∧ Below w.heap.size w w'
/-- The same beside an error number. -/
def RetBlkErr (f : α → Value) (E : TypeId) (w : World) (l : List α) (r : Int) (e : Ending) (w' : World) : Prop :=
  ∃ g, e = .returned (.tuple #[.slice (some ⟨g, 0, none⟩) l.length l.length, .int .i64 r]) ∧ w.heap.size ≤ g ∧ Blk f E w' g l ∧ Below w.heap.size w w'

/-- The call returns the list l in a slice of its own (nil, or grown by appends). -/
def RetOwn (f : α → Value) (E : TypeId) (w : World) (l : List α) (e : Ending) (w' : World) : Prop :=
  ∃ a c, e = .returned (.slice a l.length c) ∧ Own f w.heap.size E w' a l.length c l ∧ Below w.heap.size w w'
def RetOwnErr (f : α → Value) (E : TypeId) (w : World) (l : List α) (r : Int) (e : Ending) (w' : World) : Prop :=
  ∃ a c, e = .returned (.tuple #[.slice a l.length c, .int .i64 r]) ∧ Own f w.heap.size E w' a l.length c l ∧ Below w.heap.size w w'

theorem own_snoc {f : α → Value} {w : World} {B : Nat} {E : TypeId} {v : Value} {n : Nat} {l : List α} {x : α} {y : Value} (h : w.ownsRow B E 1 v n (l.map f ++ [y])) (hy : y = f x) : w.ownsRow B E 1 v n ((l ++ [x]).map f) := by
  rw [List.map_append, List.map_singleton, ← hy]; exact h

theorem below_append {w w1 w2 : World} {B : Nat} {E : TypeId} {v : Value} {n : Nat} {xs : List Value} (hb : Below w.heap.size w w1) (hown : w1.ownsRow w.heap.size E 1 v n xs) (hB : B = w.heap.size) (hg : w1.grownBy w2 v.ownBlock) : Below B w w2 := by
  subst hB
  exact hb.grown hg hb.size fun k hk => (hown.lt k hk).1

/-- A list of bytes as a string. -/
def strB (l : List Nat) : ByteArray := strOfNums (l.map Int.ofNat)

theorem strB_inj {p q : List Nat} (hp : ∀ x ∈ p, x < 256) (hq : ∀ x ∈ q, x < 256) (h : strB p = strB q) : p = q := by
  have e : (strB p).data.toList = (strB q).data.toList := by rw [h]
  rw [strB, strB, strOfNums_data, strOfNums_data, List.map_map, List.map_map] at e
  have key : ∀ l : List Nat, (∀ x ∈ l, x < 256) → (l.map ((fun n : Int => UInt8.ofNat n.toNat) ∘ Int.ofNat)).map UInt8.toNat = l := by
    intro l hl
    rw [List.map_map]
    conv => rhs; rw [← List.map_id l]
    apply List.map_congr_left
    intro x hx
    have := hl x hx
    simp [Function.comp, UInt8.toNat_ofNat']
    omega
  rw [← key p hp, ← key q hq, e]

theorem strB_toList {p q : List Nat} (hp : ∀ x ∈ p, x < 256) (hq : ∀ x ∈ q, x < 256) : ((strB p).toList == (strB q).toList) = decide (p = q) := by
  by_cases h : p = q
  · subst h; simp
  · rw [decide_eq_false h]
    rw [beq_eq_false_iff_ne]
    intro e
    apply h
    apply strB_inj hp hq
    have e2 : (strB p).data.toList = (strB q).data.toList := by
      rw [← ByteArray.toList_eq, ← ByteArray.toList_eq]
      exact e
    have : (strB p).data = (strB q).data := Array.toList_inj.1 e2
    cases hA : strB p; cases hB : strB q
    rw [hA, hB] at this
    simpa using this

theorem run_string_rd {P : Program} {w : World} {a : Option Addr} {n c : Nat} {l : List Nat} (h : Rd vb w a n c l) {src e dst : TypeId} (hs : P.underlying src = some (.slice e)) (he : P.underlying e = some (.int .u8)) (hd : P.underlying dst = some .string) :
    (convert src dst (.slice a n c)).run P w = .ok (.string (strB l)) w := by
  rw [run_convert_bytes_string w src dst e _ n c hs he hd]
  cases a with
  | none =>
    have h0 := h.none0 rfl
    have h1 := h.cap
    have h2 := h.len
    obtain rfl : l = [] := List.eq_nil_of_length_eq_zero (by omega)
    simp [Conv.bytesToString]
    rfl
  | some x =>
    have hl : (loadCells x n).run P w = .ok ((l.map Int.ofNat).map (Value.int .u8)).toArray w := by
      have := run_loadCells_list (P := P) w x ((l.map Int.ofNat).map (Value.int .u8)) (fun j v hj => by
        rw [List.map_map, List.getElem?_map] at hj
        cases hx : l[j]? with
        | none => simp [hx] at hj
        | some y =>
          obtain ⟨b, o, hb, hc⟩ := h.cell j y hx
          cases hb
          have hplain : (⟨b, o, none⟩ : Addr).add j = ⟨b, o + j, none⟩ := by unfold Addr.add; split <;> simp_all
          rw [hplain, hc]
          simp [hx] at hj
          rw [← hj]; rfl)
      simpa [h.len] using this
    rw [run_bytesToString w x n c _ hl, foldl_push_bytes]
    simp [strB, strOfNums, ByteArray.empty, ByteArray.emptyWithCapacity]
    rfl

theorem Rd.blt {f : α → Value} {w : World} {b o n c : Nat} {l : List α} (h : Rd f w (some ⟨b, o, none⟩) n c l) {i : Nat} {x : α} (hx : l[i]? = some x) : b < w.heap.size := by
  obtain ⟨b', o', hb, hc⟩ := h.cell i x hx
  cases hb
  exact lt_of_cell hc

theorem own_ne {w : World} {B : Nat} {E : TypeId} {s : Nat} {v : Value} {n : Nat} {xs : List Value} (h : w.ownsRow B E s v n xs) {b : Nat} (hb : b < B) : some b ≠ v.ownBlock := by
  intro e
  have := (h.lt b e.symm).1
  omega

theorem list_ext_of {L l : List α} {β : Type} {l0 : List β} {n : Nat} (h1 : L.length = n) (h2 : l.length = n) (_h3 : l0.length = n) (h : ∀ (j : Nat) (z : β), l0[j]? = some z → L[j]? = l[j]?) : L = l := by
  apply List.ext_getElem?
  intro j
  by_cases hj : j < n
  · exact h j (l0[j]) (List.getElem?_eq_getElem (by omega))
  · rw [List.getElem?_eq_none_iff.2 (by omega), List.getElem?_eq_none_iff.2 (by omega)]

end
end Go.Kin
