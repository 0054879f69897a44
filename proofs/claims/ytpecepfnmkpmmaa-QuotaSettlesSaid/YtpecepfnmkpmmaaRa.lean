/- Moves: what they are, plain; slices of structs that can be read. -/
import Derived.Test.YtpecepfnmkpmmaaRz
import Derived.Test.YtpecepfnmkpmmaaQw
namespace Quo
set_option linter.unusedVariables false
structure Mz where
  fr : Int
  dst : Int
  ow : Int
  amt : Int
def MovOk (n : Nat) (m : Mz) : Prop := 0 ≤ m.fr ∧ m.fr < n ∧ 0 ≤ m.dst ∧ m.dst < n ∧ 0 ≤ m.ow ∧ m.ow < n ∧ m.fr ≠ m.dst ∧ m.fr ≠ m.ow ∧ m.dst ≠ m.ow ∧ 1 ≤ m.amt ∧ m.amt ≤ maxC
instance (n : Nat) (m : Mz) : Decidable (MovOk n m) := by unfold MovOk; infer_instance
def movA (T : Tab) (m : Mz) : Tab := put2 T m.fr.toNat m.ow.toNat (at2 T m.fr.toNat m.ow.toNat - m.amt)
def movT (T : Tab) (m : Mz) : Tab := put2 (movA T m) m.dst.toNat m.ow.toNat (at2 (movA T m) m.dst.toNat m.ow.toNat + m.amt)
/-- What a list of moves that are allowed makes of a table. -/
def appR : Tab → List Mz → Int × Tab
  | T, [] => (0, T)
  | T, m :: ms => if at2 T m.fr.toNat m.ow.toNat < m.amt then (6, []) else if maxC - m.amt < at2 T m.dst.toNat m.ow.toNat then (2, []) else appR (movT T m) ms
def appF (T : Tab) (ms : List Mz) : Int × Tab := if VT T then (if ∀ m ∈ ms, MovOk T.length m then appR T ms else (1, [])) else (1, [])
/-- The same move, with natural numbers. -/
theorem MovOk.nat {n : Nat} {m : Mz} (h : MovOk n m) : ∃ f t o : Nat, m.fr = (f : Int) ∧ m.dst = (t : Int) ∧ m.ow = (o : Int) ∧ f < n ∧ t < n ∧ o < n ∧ f ≠ t ∧ f ≠ o ∧ t ≠ o := by
  obtain ⟨h1, h2, h3, h4, h5, h6, h7, h8, h9, _⟩ := h
  obtain ⟨f, hf⟩ := Int.eq_ofNat_of_zero_le h1
  obtain ⟨t, ht⟩ := Int.eq_ofNat_of_zero_le h3
  obtain ⟨o, ho⟩ := Int.eq_ofNat_of_zero_le h5
  exact ⟨f, t, o, hf, ht, ho, by omega, by omega, by omega, by omega, by omega, by omega⟩
theorem movA_at {T : Tab} (hT : VT T) {n : Nat} (hn : T.length = n) {m : Mz} {f o : Nat} (e1 : m.fr = (f : Int)) (e3 : m.ow = (o : Int)) (hf : f < n) (ho : o < n) (a b : Nat) :
    at2 (movA T m) a b = if a = f ∧ b = o then at2 T f o - m.amt else at2 T a b := by
  have hr := (hT.row (get_some (show f < T.length by omega) [])).1
  unfold movA
  rw [e1, e3, Int.toNat_natCast, Int.toNat_natCast, put2_at (by omega) (by omega)]
theorem movA_sq {T : Tab} (hT : VT T) {m : Mz} {f : Nat} (e1 : m.fr = (f : Int)) (hf : f < T.length) : (movA T m).length = T.length ∧ Sq (movA T m) := by
  have hl : (movA T m).length = T.length := put2_length ..
  refine ⟨hl, fun i hi => ?_⟩
  rw [hl] at hi ⊢
  unfold movA
  rw [e1, Int.toNat_natCast, put2_rowlen hf]
  exact hT.sq i hi
theorem movT_at {T : Tab} (hT : VT T) {n : Nat} (hn : T.length = n) {m : Mz} {f t o : Nat} (e1 : m.fr = (f : Int)) (e2 : m.dst = (t : Int)) (e3 : m.ow = (o : Int)) (hf : f < n) (ht : t < n) (ho : o < n) (hft : f ≠ t) (a b : Nat) :
    at2 (movT T m) a b = if a = t ∧ b = o then at2 T t o + m.amt else if a = f ∧ b = o then at2 T f o - m.amt else at2 T a b := by
  obtain ⟨hl, hs⟩ := movA_sq hT (m := m) e1 (by omega)
  have hr := hs t (by rw [hl]; omega)
  unfold movT
  have h1 := movA_at hT hn e1 e3 hf ho a b
  have h2 := movA_at hT hn e1 e3 hf ho t o
  rw [if_neg (show ¬ (t = f ∧ o = o) from fun h => hft h.1.symm)] at h2
  have h3 : t < (movA T m).length := by rw [hl]; omega
  have h4 : o < ((movA T m).getD t []).length := by rw [hr, hl]; omega
  rw [e2, e3, Int.toNat_natCast, Int.toNat_natCast, put2_at h3 h4, h1, h2]
theorem movT_vt {T : Tab} (hT : VT T) {m : Mz} (hm : MovOk T.length m) (h1 : ¬ at2 T m.fr.toNat m.ow.toNat < m.amt) (h2 : ¬ maxC - m.amt < at2 T m.dst.toNat m.ow.toNat) : VT (movT T m) ∧ (movT T m).length = T.length := by
  obtain ⟨f, t, o, e1, e2, e3, hf, ht, ho, hft, hfo, hto⟩ := hm.nat
  obtain ⟨hl, hs⟩ := movA_sq hT (m := m) e1 hf
  have hl2 : (movT T m).length = T.length := by unfold movT; rw [put2_length, hl]
  have hs2 : Sq (movT T m) := by
    intro i hi
    rw [hl2] at hi ⊢
    unfold movT
    rw [e2, Int.toNat_natCast, put2_rowlen (by rw [hl]; exact ht)]
    exact (hs i (by rw [hl]; exact hi)).trans hl
  rw [e1, e3, Int.toNat_natCast, Int.toNat_natCast] at h1
  rw [e2, e3, Int.toNat_natCast, Int.toNat_natCast] at h2
  have hpos := hm.2.2.2.2.2.2.2.2.2.1
  have hat := fun a b => movT_at hT rfl e1 e2 e3 hf ht ho hft a b
  refine ⟨vt_of (by rw [hl2]; exact hT.1) hs2 (fun i hi => ?_) (fun i j hi hj => ?_), hl2⟩
  · rw [hl2] at hi
    rw [hat, if_neg (by omega), if_neg (by omega)]
    exact hT.diag hi
  · rw [hl2] at hi hj
    rw [hat]
    have b1 := hT.bound ht ho
    have b2 := hT.bound hf ho
    have b3 := hT.bound hi hj
    split
    · omega
    · split <;> omega
end Quo
namespace Go.Kin
open Go.RowKit
/-- A slice of structs that can be read: s cells each. -/
def RdA {α : Type} (f : α → List Value) (s : Nat) (w : World) (a : Option Addr) (n c : Nat) (l : List α) : Prop :=
  l.length = n ∧ n ≤ c ∧ c ≤ maxLen ∧ ∀ (i : Nat) (x : α), l[i]? = some x → ∃ b o, a = some ⟨b, o, none⟩ ∧ ∀ (k : Nat) (v : Value), (f x)[k]? = some v → w.cell? ⟨b, o + i * s + k, none⟩ = some v
theorem RdA.fw {α : Type} {f : α → List Value} {s : Nat} {w w' : World} {a : Option Addr} {n c : Nat} {l : List α} (h : RdA f s w a n c l) (hb : Below w.heap.size w w') : RdA f s w' a n c l :=
  ⟨h.1, h.2.1, h.2.2.1, fun i x hx => by
    obtain ⟨b, o, ha, hc⟩ := h.2.2.2 i x hx
    exact ⟨b, o, ha, fun k v hk => (cellBelow hb (lt_of_cell (hc k v hk))).trans (hc k v hk)⟩⟩
theorem RdA.lim {α : Type} {f : α → List Value} {s : Nat} {w : World} {a : Option Addr} {n c : Nat} {l : List α} (h : RdA f s w a n c l) : n ≤ 9223372036854775807 := by
  have := h.2.1; have := h.2.2.1; unfold maxLen at *; omega
end Go.Kin
namespace Go.Proofs.Ytpecepfnmkpmmaa
open Go.RowKit Go.Kin Quo
theorem OwnA.rda {α : Type} {f : α → List Value} {s B : Nat} {E : TypeId} {w : World} {a : Option Addr} {n c : Nat} {l : List α} (h : OwnA f s B E w a n c l) (hs : ∀ x, (f x).length = s) : RdA f s w a n c l := by
  refine ⟨h.1, ?_, ?_, fun i x hx => ?_⟩
  · obtain ⟨_, ⟨_, h1, h2⟩ | ⟨_, _, _, _, _, h1, _⟩⟩ := h <;> omega
  · obtain ⟨_, ⟨_, h1, h2⟩ | ⟨_, _, _, _, _, _, h1, _⟩⟩ := h
    · rw [h2]; exact Nat.zero_le _
    · exact h1
  · obtain ⟨g, ha, hc⟩ := OwnA.cells h hs hx
    exact ⟨g, 0, ha, fun k v hk => by rw [Nat.zero_add]; exact hc k v hk⟩
def vmz (m : Mz) : List Value := [.int .i64 m.fr, .int .i64 m.dst, .int .i64 m.ow, .int .i64 m.amt]
theorem vmz_len (m : Mz) : (vmz m).length = 4 := rfl
theorem vmz_one (m : Mz) : ∀ u ∈ vmz m, u.oneCell' = true := by
  intro u hu
  unfold vmz at hu
  simp only [List.mem_cons, List.not_mem_nil, or_false] at hu
  rcases hu with rfl | rfl | rfl | rfl <;> rfl
/-- The four cells of a move in a slice. -/
theorem RdA.mov {w : World} {a : Option Addr} {n c : Nat} {l : List Mz} (h : RdA vmz 4 w a n c l) {i : Nat} {m : Mz} (hm : l[i]? = some m) :
    ∃ b o, a = some ⟨b, o, none⟩ ∧ w.cell? ⟨b, o + i * 4, none⟩ = some (.int .i64 m.fr) ∧ w.cell? ⟨b, o + i * 4 + 1, none⟩ = some (.int .i64 m.dst) ∧ w.cell? ⟨b, o + i * 4 + 2, none⟩ = some (.int .i64 m.ow) ∧ w.cell? ⟨b, o + i * 4 + 3, none⟩ = some (.int .i64 m.amt) := by
  obtain ⟨b, o, ha, hc⟩ := h.2.2.2 i m hm
  exact ⟨b, o, ha, hc 0 _ rfl, hc 1 _ rfl, hc 2 _ rfl, hc 3 _ rfl⟩
theorem within_yes (x : Int) (n : Nat) (g : Nat) (w : World) (hg : w.cell? ⟨g, 0, none⟩ = some (.int .i64 (n : Int))) (h0 : 0 ≤ x) (h1 : x < n) :
    Calls Try.prog 50 #[.int .i64 x, .pointer (some ⟨g, 0, none⟩)] w fun e w' => e = .returned (.bool true) ∧ w = w' := by
  go_enter Try.func50, Try.ntmps50
  go_wp2_with fail
  go_ret
  exact ⟨rfl, rfl⟩
theorem within_not (x : Int) (n : Nat) (g : Nat) (w : World) (hg : w.cell? ⟨g, 0, none⟩ = some (.int .i64 (n : Int))) (h : x < 0 ∨ (0 ≤ x ∧ (n : Int) ≤ x)) :
    Calls Try.prog 50 #[.int .i64 x, .pointer (some ⟨g, 0, none⟩)] w fun e w' => e = .returned (.bool false) ∧ w = w' := by
  rcases h with h | ⟨h0, h1⟩
  · go_enter Try.func50, Try.ntmps50
    go_wp2_with fail
    go_ret
    exact ⟨ret_bool (by first | rfl | (simp; omega)), rfl⟩
  · go_enter Try.func50, Try.ntmps50
    go_wp2_with fail
    go_ret
    exact ⟨ret_bool (by first | rfl | (simp; omega)), rfl⟩
theorem dev_yes (x n : Int) (w : World) (h0 : 0 ≤ x) (h1 : x < n) :
    Calls Try.prog 63 #[.int .i64 n, .int .i64 x] w fun e w' => e = .returned (.bool true) ∧ w = w' := by
  go_enter Try.func63, Try.ntmps63
  go_wp2_with fail
  go_ret
  exact ⟨rfl, rfl⟩
theorem dev_not (x n : Int) (w : World) (h : x < 0 ∨ (0 ≤ x ∧ n ≤ x)) :
    Calls Try.prog 63 #[.int .i64 n, .int .i64 x] w fun e w' => e = .returned (.bool false) ∧ w = w' := by
  rcases h with h | ⟨h0, h1⟩
  · go_enter Try.func63, Try.ntmps63
    go_wp2_with fail
    go_ret
    exact ⟨ret_bool (by first | rfl | (simp; omega)), rfl⟩
  · go_enter Try.func63, Try.ntmps63
    go_wp2_with fail
    go_ret
    exact ⟨ret_bool (by first | rfl | (simp; omega)), rfl⟩
end Go.Proofs.Ytpecepfnmkpmmaa
