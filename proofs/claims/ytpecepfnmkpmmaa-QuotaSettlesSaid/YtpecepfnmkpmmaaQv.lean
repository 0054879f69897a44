/- The reference's search for cycles. -/
import Derived.Test.YtpecepfnmkpmmaaQt
import Derived.Test.YtpecepfnmkpmmaaQk
namespace Go.Proofs.Ytpecepfnmkpmmaa
open Go.RowKit Go.Kin Quo
set_option maxRecDepth 100000
set_option linter.unusedVariables false
theorem in_any (a : Option Addr) (n c : Nat) (l : List Int) (x : Int) (w : World) (h : Rd vi w a n c l) :
    Calls Try.prog 64 #[.slice a n c, .int .i64 x] w fun e w' => e = .returned (.bool (decide (x ∈ l))) ∧ w = w' := by
  have hlim : n ≤ 9223372036854775807 := by have := h.cap; have := h.max; unfold maxLen at *; omega
  have H := Lib.hid h
  have hlen := Lib.hid h.len
  clear h
  go_enter Try.func64, Try.ntmps64
  go_wp2
  go_loopw [5] (fun i wr => ∃ j : Nat, j ≤ n ∧ i = .int .i64 (j : Int) ∧ Hid (∀ y ∈ l.take j, y ≠ x) ∧ wr = w) (fun i _ => n - (intOf i).toNat)
  case atStart => exact ⟨0, by omega, rfl, fun y hy => by simp at hy, rfl⟩
  case round =>
    obtain ⟨j, hj, rfl, hv, rfl⟩ := hrel
    by_cases hlt : j < n
    · have i2 : (j : Int) < (n : Int) := by omega
      obtain ⟨y, hy⟩ : ∃ y, l[j]? = some y := ⟨_, List.getElem?_eq_getElem (by rw [hlen.out]; exact hlt)⟩
      obtain ⟨b1, o1, rfl, c1⟩ := H.out.cell j y hy
      unfold vi at c1
      have HY := Lib.hid hy
      clear hy
      by_cases hxy : y = x
      · subst hxy
        have hf : Hid (decide (y ∈ l) = true) := decide_eq_true (List.mem_of_getElem? HY.out)
        have e1 : (y == y) = true := by simp
        go_wp2_with fail
        go_ret
        exact ⟨ret_bool hf.out.symm, rfl⟩
      · have e1 : (y == x) = false := by simpa using hxy
        have hv2 : Hid (∀ z ∈ l.take (j + 1), z ≠ x) := by
          intro z hz
          rw [List.take_add_one, HY.out] at hz
          rcases List.mem_append.1 hz with hz | hz
          · exact hv.out z hz
          · have e : z = y := by simpa using hz
            rw [e]; exact hxy
        clear hxy
        go_wp2_with fail
        go_roundw
        case rel => exact ⟨j + 1, by omega, by go_num, hv2, by trivial⟩
        case measure => simp [intOf]; omega
    · have hjn : j = n := by omega
      subst hjn
      have hf : Hid (decide (x ∈ l) = false) := by
        refine decide_eq_false fun hx => ?_
        have := hv.out
        rw [List.take_of_length_le (by rw [hlen.out]; exact Nat.le_refl _)] at this
        exact this x hx rfl
      go_wp2_with fail
      go_ret
      exact ⟨ret_bool hf.out.symm, rfl⟩
/-- What extend and Cycle give: a slice that can be read, or nil. -/
def GivesC (B : Nat) (w : World) (R : Option (List Nat)) (e : Ending) (w' : World) : Prop :=
  Below w.heap.size w w' ∧ ((R = none ∧ e = .returned (.slice none 0 0)) ∨ ∃ q g o fc, R = some q ∧ e = .returned (.slice (some ⟨g, o, none⟩) q.length fc) ∧ B ≤ g ∧ Rd vi w' (some ⟨g, o, none⟩) q.length fc (q.map Int.ofNat))
theorem mem_ofNat {p : List Nat} {d : Nat} : ((d : Int) ∈ p.map Int.ofNat) ↔ d ∈ p := by
  constructor
  · intro h
    obtain ⟨x, hx, e⟩ := List.mem_map.1 h
    have : x = d := by have : (x : Int) = (d : Int) := e; omega
    rwa [this] at hx
  · intro h
    exact List.mem_map.2 ⟨d, h, rfl⟩
theorem GivesC.no {B : Nat} {w : World} {R : Option (List Nat)} {e : Ending} {w' : World} (h : GivesC B w R e w') (hR : R = none) : e = .returned (.slice none 0 0) ∧ Below w.heap.size w w' := by
  obtain ⟨hb, ⟨_, h2⟩ | ⟨q, g, o, fc, h1, _⟩⟩ := h
  · exact ⟨h2, hb⟩
  · rw [hR] at h1; cases h1
theorem GivesC.yes {B : Nat} {w : World} {R : Option (List Nat)} {e : Ending} {w' : World} (h : GivesC B w R e w') {q : List Nat} (hR : R = some q) (L : Nat) (hL : L = q.length) : ∃ g o fc, e = .returned (.slice (some ⟨g, o, none⟩) L fc) ∧ B ≤ g ∧ Rd vi w' (some ⟨g, o, none⟩) L fc (q.map Int.ofNat) ∧ Below w.heap.size w w' := by
  obtain ⟨hb, ⟨h1, _⟩ | ⟨q', g, o, fc, h1, h2, h4, h3⟩⟩ := h
  · rw [hR] at h1; cases h1
  · rw [hR] at h1
    cases h1
    subst hL
    exact ⟨g, o, fc, h2, h4, h3, hb⟩
def extS (T : Tab) (k : Nat) (p : List Nat) (d : Nat) : Option (List Nat) := if d ∈ p ∨ at2 T (p.getLastD 0) d = 0 then none else ext T k (p ++ [d])
theorem ext_succ (T : Tab) (k : Nat) (p : List Nat) : ext T (k + 1) p = (List.range' (p.headD 0 + 1) (T.length - (p.headD 0 + 1))).findSome? (extS T k p) := rfl
set_option maxHeartbeats 4000000 in
theorem rext_any (ta : Option Addr) (n tc : Nat) (T : Tab) (hT : VT T) : ∀ (k : Nat) (p : List Nat) (B pb po pc m : Nat) (w : World), B ≤ pb → B ≤ w.heap.size → RdT w ta n tc T → Path n p → p.length = m → m + k ≤ 13 → Rd vi w (some ⟨pb, po, none⟩) m pc (p.map Int.ofNat) → ∀ len : Int, Hid (len = ((m + k : Nat) : Int)) →
    Calls Try.prog 57 #[.slice ta n tc, .slice (some ⟨pb, po, none⟩) m pc, .int .i64 len] w (GivesC B w (ext T k p)) := by
  have hq : ∀ (w : World) (a : Option Addr) (l c : Nat), (binOp .neq 26 (.slice a l c) (.slice none 0 0)).run Try.prog w = .ok (.bool (!a.isNone)) w := fun w a l c => run_neq_slice_nil_any w _ _ a l c 0 0 Try.underlying26
  have HT := Lib.hid hT
  intro k
  induction k with
  | zero =>
    intro p B pb po pc m w hBp hBw h hp hpm hm13 hr len hlen
    have hln : Hid (T.length = n) := h.len
    have hn12 : n ≤ 12 := by rw [← hln.out]; exact hT.1
    have hm0 : 0 < m := by rw [← hpm]; exact List.length_pos_iff.2 hp.1
    have hll := hlen.out
    rw [Nat.add_zero] at hll
    subst hll
    obtain ⟨f, hf⟩ : ∃ f, f = p.headD 0 := ⟨_, rfl⟩
    obtain ⟨a, ha⟩ : ∃ a, a = p.getLastD 0 := ⟨_, rfl⟩
    have p0 := hp.first
    have p1 := hp.last
    rw [← hf] at p0
    rw [← ha, hpm] at p1
    obtain ⟨r, t1, t2, t3, t4, t5⟩ := hT.cell (i := a) (j := f) (by rw [hln.out]; exact p1.2) (by rw [hln.out]; exact p0.2)
    obtain ⟨x, hx⟩ : ∃ x, x = at2 T a f := ⟨_, rfl⟩
    rw [← hx] at t3 t4 t5
    obtain ⟨ra, rc, tb, to, rfl, c1, hrow⟩ := h.at t1
    rw [t2, hln.out] at c1 hrow
    obtain ⟨rb, ro, rfl, c2⟩ := hrow.cell f x t3
    obtain ⟨b', o', e', c3⟩ := hr.cell 0 (f : Int) (by rw [List.getElem?_map, p0.1]; rfl)
    cases e'
    obtain ⟨b', o', e', c4⟩ := hr.cell (m - 1) (a : Int) (by rw [List.getElem?_map, p1.1]; rfl)
    cases e'
    rw [Nat.add_zero] at c3
    unfold vi at c2 c3 c4
    have i1 : (a : Int) < (n : Int) := by omega
    have i2 : (f : Int) < (n : Int) := by omega
    have i3 : ((m - 1 : Nat) : Int) = (m : Int) - 1 := by omega
    have i4 : ((m : Int) - 1).toNat = m - 1 := by omega
    have i5 : (m : Int) - 1 < (m : Int) := by omega
    have i6 : 0 ≤ (m : Int) - 1 := by omega
    have i7 : (0 : Int) < (m : Int) := by omega
    have i8 := iwq (a := (m : Int) - 1) (by omega)
    have i9 := w64q (a := (m : Int) - 1) (by omega)
    have HR := Lib.hid hr
    have HBP := Lib.hid hBp; have HBW := Lib.hid hBw
    clear hBp hBw
    have hext : ext T 0 p = if x = 0 then none else some p := by show (if at2 T (p.getLastD 0) (p.headD 0) = 0 then none else some p) = _; rw [← hf, ← ha, ← hx]
    rw [hext]
    have HPM := Lib.hid hpm
    clear h hT t1 t2 t3 t5 hrow hr hf ha hx p0 p1 hp hext hpm hlen
    by_cases hx0 : x = 0
    · subst hx0
      rw [if_pos rfl]
      go_enter Try.func57, Try.ntmps57
      go_wp2_with fail
      go_quiet (fail)
      go_wp2_with fail
      go_ret
      exact ⟨fdrewN (below_refl w) nq, .inl ⟨rfl, rfl⟩⟩
    · have hx1 : 0 < x := by omega
      rw [if_neg hx0]
      clear hx0
      go_enter Try.func57, Try.ntmps57
      go_wp2_with fail
      go_quiet (fail)
      go_wp2_with fail
      go_ret
      have h1 := HPM.out
      subst h1
      exact ⟨fdrewN (below_refl w) nq,   .inr ⟨p, pb, po, pc, rfl, rfl, HBP.out, HR.out.fw (fdrewN (below_refl w) nq)⟩⟩
  | succ k ih =>
    intro p B pb po pc m w hBp hBw h hp hpm hm13 hr len hlen
    obtain ⟨i0, hi, hz0, hz1, hz2⟩ := info_parts infoI
    have u0 := Try.underlying26
    have hln : Hid (T.length = n) := h.len
    have hn12 : n ≤ 12 := by rw [← hln.out]; exact hT.1
    have hm0 : 0 < m := by rw [← hpm]; exact List.length_pos_iff.2 hp.1
    have hll := hlen.out
    obtain ⟨f, hf⟩ : ∃ f, f = p.headD 0 := ⟨_, rfl⟩
    obtain ⟨a, ha⟩ : ∃ a, a = p.getLastD 0 := ⟨_, rfl⟩
    have p0 := hp.first
    have p1 := hp.last
    rw [← hf] at p0
    rw [← ha, hpm] at p1
    obtain ⟨b', o', e', c3⟩ := hr.cell 0 (f : Int) (by rw [List.getElem?_map, p0.1]; rfl)
    cases e'
    obtain ⟨b', o', e', c4⟩ := hr.cell (m - 1) (a : Int) (by rw [List.getElem?_map, p1.1]; rfl)
    cases e'
    rw [Nat.add_zero] at c3
    unfold vi at c3 c4
    have hfn := p0.2
    have i1 : (a : Int) < (n : Int) := by omega
    have i3 : ((m - 1 : Nat) : Int) = (m : Int) - 1 := by omega
    have i4 : ((m : Int) - 1).toNat = m - 1 := by omega
    have i5 : (m : Int) - 1 < (m : Int) := by omega
    have i6 : 0 ≤ (m : Int) - 1 := by omega
    have i7 : (0 : Int) < (m : Int) := by omega
    have i8 := iwq (a := (m : Int) - 1) (by omega)
    have i9 := w64q (a := (m : Int) - 1) (by omega)
    have j1 : ((m : Int) == len) = false := by simp; omega
    have HR := Lib.hid hr
    have HBP := Lib.hid hBp; have HBW := Lib.hid hBw
    clear hBp hBw
    have HH := Lib.hid h
    have HP := Lib.hid hp; have HPM := Lib.hid hpm; have HF := Lib.hid hf; have HA := Lib.hid ha; have HIH := Lib.hid ih
    have HAN := Lib.hid p1.2
    have HST : Hid ((List.range' (f + 1) (n - (f + 1))).findSome? (extS T k p) = ext T (k + 1) p) := by
      show _ = _
      rw [ext_succ, ← hf, hln.out]
    have HLE := Lib.hid hll
    clear h hT hr hf ha p0 p1 hp hpm ih hlen hll
    go_enter Try.func57, Try.ntmps57
    go_wp2_with fail
    clear i3 i4 i5 i6 i8 i9 j1 c3 c4
    go_loopw [8, 9] (fun z _ wr => ∃ d : Nat, f < d ∧ d ≤ n ∧ z = .int .i64 (d : Int) ∧ Hid ((List.range' d (n - d)).findSome? (extS T k p) = ext T (k + 1) p) ∧ Hid (Below w.heap.size w wr)) (fun z _ _ => n - (intOf z).toNat)
    case atStart => exact ⟨f + 1, by omega, by omega, by go_num, HST.out, below_refl w⟩
    case round =>
      obtain ⟨d, hd1, hd2, rfl, hfs, hbe⟩ := hrel
      by_cases hlt : d < n
      · have i2 : (d : Int) < (n : Int) := by omega
        have hsp := findSome_range (extS T k p) d (n - (d + 1))
        rw [show n - (d + 1) + 1 = n - d by omega, hfs.out] at hsp
        have HSP := Lib.hid hsp
        obtain ⟨r, t1, t2, t3, t4, t5⟩ := HT.out.cell (i := a) (j := d) (by rw [hln.out]; exact HAN.out) (by rw [hln.out]; exact hlt)
        obtain ⟨x, hx⟩ : ∃ x, x = at2 T a d := ⟨_, rfl⟩
        rw [← hx] at t3 t4 t5
        obtain ⟨ra, rc, tb, to, rfl, c1, hrow⟩ := (HH.out.fw hbe.out).at t1
        rw [t2, hln.out] at c1 hrow
        obtain ⟨rb, ro, rfl, c2⟩ := hrow.cell d x t3
        unfold vi at c2
        have HR1 := Lib.hid (HR.out.fw hbe.out)
        have HX := Lib.hid hx
        clear t1 t2 t3 t5 hrow hx hsp
        by_cases hx0 : x = 0
        · subst hx0
          have hnx : Hid ((List.range' (d + 1) (n - (d + 1))).findSome? (extS T k p) = ext T (k + 1) p) := by
            have h1 := HSP.out
            have : extS T k p d = none := by unfold extS; rw [if_pos (.inr (by rw [← HA.out, ← HX.out]))]
            rw [this] at h1
            exact h1.symm
          go_wp2_with fail
          go_roundw
          case rel => exact ⟨d + 1, by omega, by omega, by go_num, hnx, hbe.out⟩
          case measure => simp [intOf]; omega
        · have hx1 : 0 < x := by omega
          by_cases hdp : d ∈ p
          · have hin := decide_eq_true (mem_ofNat.2 hdp)
            have hnx : Hid ((List.range' (d + 1) (n - (d + 1))).findSome? (extS T k p) = ext T (k + 1) p) := by
              have h1 := HSP.out
              have : extS T k p d = none := by unfold extS; rw [if_pos (.inl hdp)]
              rw [this] at h1
              exact h1.symm
            clear hx0 hdp
            go_wp2_with (go_at_call 64; refine (in_any _ _ _ _ _ _ HR1.out).mono ?_; rw [hin]; rintro e w' ⟨rfl, rfl⟩)
            go_roundw
            case rel => exact ⟨d + 1, by omega, by omega, by go_num, hnx, hbe.out⟩
            case measure => simp [intOf]; omega
          · have hin := decide_eq_false (fun h => hdp (mem_ofNat.1 h))
            have HEX : Hid (extS T k p d = ext T k (p ++ [d])) := by
              show extS T k p d = _
              unfold extS
              rw [if_neg]
              rintro (h | h)
              · exact hdp h
              · rw [← HA.out, ← HX.out] at h; exact hx0 h
            have hb1 := below_alloc (.cells #[] 3 (0, 0)) (below_refl wr)
            have N1 := Lib.hid ((blk_new vi 3 wr []).own (Nat.le_refl _) (by simp [maxLen]))
            have HR2 := Lib.hid (HR1.out.fw hb1)
            have B1 := Lib.hid hb1
            have HPP := Lib.hid (HP.out.snoc (d := d) (by rw [← HF.out]; exact hd1) hlt)
            have HLL : Hid ((p ++ [d]).length = m + 1) := by show _ = _; rw [List.length_append, HPM.out]; rfl
            have HLM : Hid (len = ((m + 1 + k : Nat) : Int)) := by show _ = _; rw [HLE.out]; omega
            have HMA : Hid ((p ++ [d]).map Int.ofNat = p.map Int.ofNat ++ [(d : Int)]) := by show _ = _; rw [List.map_append]; rfl
            have hm12 : m + 1 + k ≤ 13 := by omega
            clear hx0 hb1 hdp
            cases hR : ext T k (p ++ [d]) with
            | none =>
              have HRR := Lib.hid hR
              have hnx : Hid ((List.range' (d + 1) (n - (d + 1))).findSome? (extS T k p) = ext T (k + 1) p) := by
                have h1 := HSP.out
                rw [HEX.out, HRR.out] at h1
                exact h1.symm
              go_wp2_with (first
                | (go_at_call 64; refine (in_any _ _ _ _ _ _ HR1.out).mono ?_; rw [hin]; rintro e w' ⟨rfl, rfl⟩)
                | (at_builtin; refine wpList_append_rd rfl (.tmp 56) (.tmp 57) 26 rfl vi vi_one wr.heap.size 3 i0 (.int .i64 0) 8 u0 hi hz0 hz1 hz2 rfl _ 0 0 [] rfl N1.out _ m pc (p.map Int.ofNat) rfl HR2.out (by unfold maxLen; omega) (by omega) B1.out.size ?_; simp only [Nat.zero_add, List.nil_append]; intro ra2 rc2 w5 hown5 hgr5; have b5 : Below wr.heap.size wr w5 := B1.out.grown hgr5 B1.out.size (fun x hx => (N1.out.ownsRow.lt x hx).1); have ba6 := below_alloc (.cells (row vi [(d : Int)]) 3 (0, 0)) (below_refl w5); have N6 := Lib.hid (rd_new vi 3 w5 [(d : Int)] (n := 1) rfl (by omega)); have O6 := Lib.hid (hown5.fw ba6); have B6 := Lib.hid (bt b5 ba6); clear hown5 hgr5 b5 ba6)
                | (at_builtin; refine wpList_append_rd rfl (.tmp 58) (.tmp 60) 26 rfl vi vi_one wr.heap.size 3 i0 (.int .i64 0) 8 u0 hi hz0 hz1 hz2 rfl ra2 m rc2 (p.map Int.ofNat) rfl O6.out (some ⟨w5.heap.size, 0, none⟩) 1 1 [(d : Int)] rfl N6.out (by unfold maxLen; omega) (by omega) B6.out.size ?_; intro ra3 rc3 w7 hown7 hgr7; have b7 : Below wr.heap.size wr w7 := B6.out.grown hgr7 B6.out.size (fun x hx => (O6.out.ownsRow.lt x hx).1); have B7 := Lib.hid (bt hbe.out b7); rw [← HMA.out] at hown7; obtain ⟨g7, rfl⟩ := own_some hown7 (by omega); have S7 := Lib.hid (Nat.le_trans HBW.out B7.out.size); have G7 := Lib.hid (Nat.le_trans (Nat.le_trans HBW.out hbe.out.size) (hown7.bge rfl)); have R7 := Lib.hid hown7.rd; have H7 := Lib.hid (HH.out.fw B7.out); clear hown7 hgr7 b7)
                | (go_at_call 57; refine (HIH.out (p ++ [d]) B g7 0 rc3 (m + 1) _ G7.out S7.out H7.out HPP.out HLL.out hm12 R7.out _ HLM.out).mono ?_; intro e w8 hA; obtain ⟨rfl, hb8⟩ := hA.no HRR.out; have B8 := Lib.hid (bt B7.out hb8); clear hA hb8)
                | fail)
              go_roundw
              case rel => exact ⟨d + 1, by omega, by omega, by go_num, hnx, B8.out⟩
              case measure => simp [intOf]; omega
            | some q =>
              have HRR := Lib.hid hR
              have hnx : Hid (ext T (k + 1) p = some q) := by
                have h1 := HSP.out
                rw [HEX.out, HRR.out] at h1
                exact h1
              obtain ⟨L, hL⟩ : ∃ L, L = q.length := ⟨_, rfl⟩
              have HL := Lib.hid hL
              clear hL
              go_wp2_with (first
                | (go_at_call 64; refine (in_any _ _ _ _ _ _ HR1.out).mono ?_; rw [hin]; rintro e w' ⟨rfl, rfl⟩)
                | (at_builtin; refine wpList_append_rd rfl (.tmp 56) (.tmp 57) 26 rfl vi vi_one wr.heap.size 3 i0 (.int .i64 0) 8 u0 hi hz0 hz1 hz2 rfl _ 0 0 [] rfl N1.out _ m pc (p.map Int.ofNat) rfl HR2.out (by unfold maxLen; omega) (by omega) B1.out.size ?_; simp only [Nat.zero_add, List.nil_append]; intro ra2 rc2 w5 hown5 hgr5; have b5 : Below wr.heap.size wr w5 := B1.out.grown hgr5 B1.out.size (fun x hx => (N1.out.ownsRow.lt x hx).1); have ba6 := below_alloc (.cells (row vi [(d : Int)]) 3 (0, 0)) (below_refl w5); have N6 := Lib.hid (rd_new vi 3 w5 [(d : Int)] (n := 1) rfl (by omega)); have O6 := Lib.hid (hown5.fw ba6); have B6 := Lib.hid (bt b5 ba6); clear hown5 hgr5 b5 ba6)
                | (at_builtin; refine wpList_append_rd rfl (.tmp 58) (.tmp 60) 26 rfl vi vi_one wr.heap.size 3 i0 (.int .i64 0) 8 u0 hi hz0 hz1 hz2 rfl ra2 m rc2 (p.map Int.ofNat) rfl O6.out (some ⟨w5.heap.size, 0, none⟩) 1 1 [(d : Int)] rfl N6.out (by unfold maxLen; omega) (by omega) B6.out.size ?_; intro ra3 rc3 w7 hown7 hgr7; have b7 : Below wr.heap.size wr w7 := B6.out.grown hgr7 B6.out.size (fun x hx => (O6.out.ownsRow.lt x hx).1); have B7 := Lib.hid (bt hbe.out b7); rw [← HMA.out] at hown7; obtain ⟨g7, rfl⟩ := own_some hown7 (by omega); have S7 := Lib.hid (Nat.le_trans HBW.out B7.out.size); have G7 := Lib.hid (Nat.le_trans (Nat.le_trans HBW.out hbe.out.size) (hown7.bge rfl)); have R7 := Lib.hid hown7.rd; have H7 := Lib.hid (HH.out.fw B7.out); clear hown7 hgr7 b7)
                | (go_at_call 57; refine (HIH.out (p ++ [d]) B g7 0 rc3 (m + 1) _ G7.out S7.out H7.out HPP.out HLL.out hm12 R7.out _ HLM.out).mono ?_; intro e w8 hA; obtain ⟨g8, o8, c8, rfl, hg8, hr8, hb8⟩ := hA.yes HRR.out L HL.out; have G8 := Lib.hid hg8; have B8 := Lib.hid (bt B7.out hb8); have R8 := Lib.hid hr8; clear hA hb8 hr8 hg8)
                | fail)
              go_ret
              have h1 := HL.out
              subst h1
              exact ⟨B8.out, .inr ⟨q, g8, o8, c8, hnx.out, rfl, G8.out, R8.out⟩⟩
      · have hdn : d = n := by omega
        subst hdn
        have hnone : Hid (ext T (k + 1) p = none) := by
          have := hfs.out
          rw [Nat.sub_self] at this
          exact this.symm
        go_wp2_with fail
        go_ret
        exact ⟨hbe.out, .inl ⟨hnone.out, rfl⟩⟩
end Go.Proofs.Ytpecepfnmkpmmaa
