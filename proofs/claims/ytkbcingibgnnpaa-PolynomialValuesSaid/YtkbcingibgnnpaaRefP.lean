/- kinkeepref06.Trim, Degree, At, Add, Mul. -/
import Derived.Test.YtkbcingibgnnpaaPolyT
namespace Go.Proofs.Ytkbcingibgnnpaa
open Go.RowKit Go.Kin
set_option maxRecDepth 100000

theorem below_refl (w : World) : Below w.heap.size w w := Below.refl _ _
/-- The call returns a slice of its own, of at most N bytes, that reads as l. -/
def GivesO (w : World) (N : Nat) (l : List Nat) (e : Ending) (w' : World) : Prop :=
  ∃ a n c, e = .returned (.slice a n c) ∧ Own vb w.heap.size 5 w' a n c l ∧ n ≤ N ∧ Below w.heap.size w w'
theorem GivesO.s {w : World} {N : Nat} {l : List Nat} {e : Ending} {w' : World} (h : GivesO w N l e w') : GivesS w N l e w' := by
  obtain ⟨a, n, c, he, ho, hn, hb⟩ := h
  exact ⟨a, n, c, he, ho.rd, hn, hb⟩
theorem Own.giveso {w w' : World} {a : Option Addr} {n c : Nat} {l : List Nat} (h : Own vb w.heap.size 5 w' a n c l) {N : Nat} (hn : n ≤ N) (hb : Below w.heap.size w w') : GivesO w N l (.returned (.slice a n c)) w' := ⟨a, n, c, rfl, h, hn, hb⟩
theorem Own.gives {E : TypeId} {w w' : World} {a : Option Addr} {n c : Nat} {l : List Nat} (h : Own vb w.heap.size E w' a n c l) {N : Nat} (hn : n ≤ N) (hb : Below w.heap.size w w') : GivesS w N l (.returned (.slice a n c)) w' := ⟨a, n, c, rfl, h.rd, hn, hb⟩

theorem rtrim_o (a : Option Addr) (n c : Nat) (l : List Nat) (w : World) (h : Rd vb w a n c l) (hl : Gf.Byt l) (hn : n ≤ 140737488355328) :
    Calls Try.prog 23 #[.slice a n c] w (GivesO w n (Poly.out (Poly.of l))) := by
  obtain ⟨i0, hi, hz0, hz1, hz2⟩ := info_parts info5
  have u1 := Try.underlying22
  have H := Lib.hid h
  have hc := h.cap
  have hmx := h.max
  unfold maxLen at hmx
  clear h
  have N0 := blk_new vb 5 w []
  have N1 := Lib.hid (N0.own (B := w.heap.size) (Nat.le_refl _) (by simp [maxLen]))
  have hb1 : Below w.heap.size w (w.alloc (.cells (row vb []) 5 (0, 0))) := (Below.refl _ _).alloc (Nat.le_refl _) _
  have A1 := Lib.hid (H.out.fw hb1)
  clear N0
  have hout : ∀ k : Nat, (Poly.of l).sz = k → k ≤ n → l.take k = Poly.out (Poly.of l) := by
    intro k hs hk
    have hlen : (l.take k).length = k := by rw [List.length_take, H.out.len]; omega
    refine Poly.eq_out (fun x hx => hl x (List.mem_of_mem_take hx)) ?_ (by rw [hlen, hs])
    apply Poly.ext
    intro i
    rw [Poly.cf_of, Poly.cf_of, List.getD_eq_getElem?_getD, List.getD_eq_getElem?_getD, List.getElem?_take]
    by_cases hi : i < k
    · rw [if_pos hi]
    · rw [if_neg hi]
      have := Poly.cf_of_ge (p := Poly.of l) (i := i) (by omega)
      rw [Poly.cf_of, List.getD_eq_getElem?_getD] at this
      rw [this]; rfl
  have HO := Lib.hid hout; clear hout
  go_enter Try.func23, Try.ntmps23
  go_wp2
  go_loop [3] (fun i => ∃ k : Nat, k ≤ n ∧ i = .int .i64 (k : Int) ∧ Hid (∀ j x, k ≤ j → l[j]? = some x → x = 0)) (fun i => (intOf i).toNat)
  case atStart => exact ⟨n, Nat.le_refl _, rfl, fun j x hj hx => by have := (List.getElem?_eq_some_iff.1 hx).1; rw [H.out.len] at this; omega⟩
  case round =>
    obtain ⟨k, hk, rfl, hz⟩ := hrel
    by_cases hk0 : k = 0
    · subst hk0
      have hs : (Poly.of l).sz = 0 := Poly.sz_of_eq hl (by omega) hz.out (by omega)
      have HS := Lib.hid hs; clear hs
      go_wp2_with (at_builtin; refine wpList_append_rd rfl (.tmp 18) (.tmp 21) 22 rfl vb vb_one w.heap.size 5 i0 (.int .u8 0) 1 u1 hi hz0 hz1 hz2 rfl _ 0 0 [] rfl N1.out _ 0 c (l.take 0) rfl (A1.out.take (by omega)) (by unfold maxLen; omega) (by omega) hb1.size ?_; intro sa c2 w2 hown hgr; rw [List.nil_append, HO.out 0 HS.out (by omega)] at hown; have HW := Lib.hid hown; clear hown)
      go_ret
      exact Own.giveso HW.out (by omega) (hb1.grown hgr hb1.size (fun j e => by cases e; exact Nat.le_refl _))
    · have hkp : 0 < k := by omega
      obtain ⟨x, hx⟩ : ∃ x, l[k - 1]? = some x := ⟨_, List.getElem?_eq_getElem (by rw [H.out.len]; omega)⟩
      obtain ⟨b, o, rfl, c1⟩ := H.out.cell (k - 1) x hx
      have bx := hl.at hx
      unfold vb at c1
      have i1 : ((k : Int) - 1) < (n : Int) := by omega
      have i9 : 0 ≤ ((k : Int) - 1) := by omega
      have e1 : decide ((0 : Int) < (k : Int)) = true := by simp; omega
      by_cases hx0 : x = 0
      · subst hx0
        have hz2 : Hid (∀ j x, k - 1 ≤ j → l[j]? = some x → x = 0) := by
          intro j y hj hy
          by_cases e : j = k - 1
          · rw [e, hx] at hy; cases hy; rfl
          · exact hz.out j y (by omega) hy
        have HX := Lib.hid hx; clear hx hk0
        go_wp2
        go_round
        case rel => exact ⟨k - 1, by omega, by rw [show ((k - 1 : Nat) : Int) = (k : Int) - 1 from by omega], hz2⟩
        case measure => simp [intOf]; omega
      · have e2 : (((x : Nat) : Int) == 0) = false := by simp; omega
        have hs : (Poly.of l).sz = k := by
          refine Poly.sz_of_eq hl (by rw [H.out.len]; exact hk) hz.out fun _ y hy => ?_
          rw [hx] at hy; cases hy; exact hx0
        have HS := Lib.hid hs; clear hs hx hx0 hk0
        go_wp2_with (at_builtin; refine wpList_append_rd rfl (.tmp 18) (.tmp 21) 22 rfl vb vb_one w.heap.size 5 i0 (.int .u8 0) 1 u1 hi hz0 hz1 hz2 rfl _ 0 0 [] rfl N1.out _ k c (l.take k) rfl (A1.out.take (by omega)) (by unfold maxLen; omega) (by omega) hb1.size ?_; intro sa c2 w2 hown hgr; rw [List.nil_append, HO.out k HS.out (by omega), Nat.zero_add] at hown; have HW := Lib.hid hown; clear hown)
        have hkn : k ≤ n := by omega
        go_ret
        exact Own.giveso HW.out hkn (hb1.grown hgr hb1.size (fun j e => by cases e; exact Nat.le_refl _))

theorem rtrim_any (a : Option Addr) (n c : Nat) (l : List Nat) (w : World) (h : Rd vb w a n c l) (hl : Gf.Byt l) (hn : n ≤ 140737488355328) :
    Calls Try.prog 23 #[.slice a n c] w (GivesS w n (Poly.out (Poly.of l))) := (rtrim_o a n c l w h hl hn).mono fun _ _ h => h.s

theorem rdegree_any (a : Option Addr) (n c : Nat) (l : List Nat) (w : World) (h : Rd vb w a n c l) (hl : Gf.Byt l) (hn : n ≤ 140737488355328) :
    Calls Try.prog 24 #[.slice a n c] w fun e w' => e = .returned (.int .i64 (((Poly.of l).sz : Nat) - 1 : Int)) ∧ Below w.heap.size w w' := by
  have H := Lib.hid h; clear h
  go_enter Try.func24, Try.ntmps24
  go_wp2_with (go_at_call 23; refine (rtrim_any _ _ _ l _ H.out hl hn).mono ?_; rintro e w1 ⟨a1, n1, c1, rfl, r1, l1, b1⟩; have k1 := r1.len; rw [Poly.out_length] at k1; have K1 := Lib.hid k1; clear r1 k1)
  go_ret
  exact ⟨ret_int (by rw [K1.out]), b1⟩

theorem rat_any (a : Option Addr) (n c : Nat) (l : List Nat) (i : Nat) (w : World) (h : Rd vb w a n c l) :
    Calls Try.prog 29 #[.slice a n c, .int .i64 (i : Int)] w fun e w' => e = .returned (.int .u8 ((l.getD i 0 : Nat) : Int)) ∧ w = w' := by
  have hm : n ≤ 9223372036854775807 := by have := h.cap; have := h.max; unfold maxLen at *; omega
  by_cases hlt : i < n
  · obtain ⟨x, hx⟩ : ∃ x, l[i]? = some x := ⟨_, List.getElem?_eq_getElem (by rw [h.len]; exact hlt)⟩
    obtain ⟨b, o, rfl, c1⟩ := h.cell i x hx
    have hg : l.getD i 0 = x := by rw [List.getD_eq_getElem?_getD, hx]; rfl
    have HG := Lib.hid hg
    clear hx hg h
    unfold vb at c1
    have i1 : (i : Int) < (n : Int) := by omega
    go_enter Try.func29, Try.ntmps29
    go_wp2
    go_ret
    exact ⟨ret_int (by rw [HG.out]), rfl⟩
  · have hg : l.getD i 0 = 0 := by rw [List.getD_eq_getElem?_getD, List.getElem?_eq_none (by rw [h.len]; omega)]; rfl
    have HG := Lib.hid hg
    clear hg h
    go_enter Try.func29, Try.ntmps29
    go_wp2
    go_ret
    exact ⟨ret_int (by rw [HG.out]; rfl), rfl⟩

set_option maxHeartbeats 400000 in
theorem radd_o (a b : Option Addr) (n m c d : Nat) (p q : List Nat) (w : World) (h1 : Rd vb w a n c p) (h2 : Rd vb w b m d q) (hp : Gf.Byt p) (hq : Gf.Byt q) (hnm : n + m ≤ 140737488355000) :
    Calls Try.prog 26 #[.slice a n c, .slice b m d] w (GivesO w (n + m) (Poly.out (Poly.of p + Poly.of q))) := by
  obtain ⟨i0, hi, hz0, hz1, hz2⟩ := info_parts info5
  have u1 := Try.underlying22
  have H1 := Lib.hid h1; have H2 := Lib.hid h2; clear h1 h2
  go_enter Try.func26, Try.ntmps26
  go_wp2_with fail
  go_loopw [5, 6] (fun o i wr => ∃ (k : Nat) (oa : Option Addr) (oc : Nat) (L : List Nat), k ≤ max n m ∧ i = .int .i64 (k : Int) ∧ o = .slice oa k oc ∧ Hid (Own vb w.heap.size 5 wr oa k oc L) ∧ Hid (∀ j, L[j]? = if j < k then some (p.getD j 0 ^^^ q.getD j 0) else none) ∧ Below w.heap.size w wr) (fun _ i _ => max n m - (intOf i).toNat)
  case atStart => exact ⟨0, none, 0, [], by omega, rfl, rfl, ⟨rfl, .inl ⟨rfl, rfl, rfl⟩⟩, fun j => by simp, below_refl _⟩
  case round =>
    obtain ⟨k, oa, oc, L, hk, rfl, rfl, hO, hL, hbe⟩ := hrel
    have hws := hbe.size
    by_cases hlt : k < max n m
    · obtain ⟨x, hx⟩ : ∃ x, x = p.getD k 0 := ⟨_, rfl⟩
      obtain ⟨y, hy⟩ : ∃ y, y = q.getD k 0 := ⟨_, rfl⟩
      have bx : x < 256 := by
        rw [hx, List.getD_eq_getElem?_getD]
        cases h : p[k]? with
        | none => simp
        | some z => exact hp.at h
      have bx2 : y < 256 := by
        rw [hy, List.getD_eq_getElem?_getD]
        cases h : q[k]? with
        | none => simp
        | some z => exact hq.at h
      have ex : bits .xor .u8 ((x : Nat) : Int) ((y : Nat) : Int) = ((x ^^^ y : Nat) : Int) := by rw [xor8 _ _ (by omega) (by omega) (by omega) (by omega)]; rfl
      have EX := Lib.hid ex; have HX := Lib.hid hx; have HY := Lib.hid hy; clear ex hx hy
      have tok : True := trivial
      rcases Nat.lt_or_ge k n with hkn | hkn
      all_goals
        go_wp2_with (first
          | (go_at_call 29; have _t := tok; refine (rat_any _ _ _ p k _ (H1.out.fw hbe)).mono ?_; rw [← HX.out]; rintro e w' ⟨rfl, rfl⟩; clear _t tok)
          | (go_at_call 29; refine (rat_any _ _ _ q k _ (H2.out.fw hbe)).mono ?_; rw [← HY.out]; rintro e w' ⟨rfl, rfl⟩; have N3 := Lib.hid ((rd_new vb 5 wr [x ^^^ y] (n := 1) rfl (by omega))); have O3 := Lib.hid (hO.out.fw ((below_refl wr).alloc (Nat.le_refl _) (.cells (row vb [x ^^^ y]) 5 (0, 0)))); have b3 := below_alloc (.cells (row vb [x ^^^ y]) 5 (0, 0)) hbe)
          | (at_builtin; rw [EX.out]; refine wpList_append_rd rfl (.tmp 19) (.tmp 27) 22 rfl vb vb_one w.heap.size 5 i0 (.int .u8 0) 1 u1 hi hz0 hz1 hz2 rfl _ k oc _ rfl O3.out (some ⟨wr.heap.size, 0, none⟩) 1 1 [x ^^^ y] rfl N3.out (by unfold maxLen; omega) (by omega) b3.size ?_; intro sa c2 w4 hown hgr))
        go_roundw
        case rel =>
          refine ⟨k + 1, sa, c2, L ++ [x ^^^ y], by omega, by go_num, rfl, hown, ?_, b3.grown hgr b3.size fun j hj => (O3.out.ownsRow.lt j hj).1⟩
          intro j
          have hlen := hO.out.len
          rw [List.getElem?_append]
          by_cases h1 : j < k
          · rw [hlen, if_pos h1, if_pos (by omega), hL.out, if_pos h1]
          · rw [hlen, if_neg h1]
            by_cases h2 : j = k
            · subst h2
              rw [if_pos (by omega), Nat.sub_self, HX.out, HY.out]; rfl
            · rw [if_neg (by omega)]
              exact List.getElem?_eq_none (by simp; omega)
        case measure => simp [intOf]; omega
    · have hlen := hO.out.len
      have hv : Poly.of L = Poly.of p + Poly.of q := by
        apply Poly.ext
        intro j
        rw [Poly.cf_add, Poly.cf_of, Poly.cf_of, Poly.cf_of, List.getD_eq_getElem?_getD, hL.out]
        have bx : p.getD j 0 < 256 := by
          rw [List.getD_eq_getElem?_getD]
          cases h : p[j]? with
          | none => simp
          | some z => exact hp.at h
        have bx2 : q.getD j 0 < 256 := by
          rw [List.getD_eq_getElem?_getD]
          cases h : q[j]? with
          | none => simp
          | some z => exact hq.at h
        by_cases h1 : j < k
        · rw [if_pos h1, ← Fq.of_add bx bx2]; rfl
        · have e1 : p.getD j 0 = 0 := by rw [List.getD_eq_getElem?_getD, List.getElem?_eq_none (by rw [H1.out.len]; omega)]; rfl
          have e2 : q.getD j 0 = 0 := by rw [List.getD_eq_getElem?_getD, List.getElem?_eq_none (by rw [H2.out.len]; omega)]; rfl
          rw [if_neg h1, e1, e2]; rfl
      have hb : Gf.Byt L := by
        intro z hz
        obtain ⟨j, hj⟩ := List.mem_iff_getElem?.1 hz
        rw [hL.out] at hj
        split at hj
        · cases hj
          refine Gf.xor_lt ?_ ?_
          · rw [List.getD_eq_getElem?_getD]
            cases h : p[j]? with
            | none => simp
            | some z => exact hp.at h
          · rw [List.getD_eq_getElem?_getD]
            cases h : q[j]? with
            | none => simp
            | some z => exact hq.at h
        · cases hj
      have HV := Lib.hid hv
      clear hv hlen
      go_wp2_with (go_at_call 23; refine (rtrim_o _ _ _ L _ hO.out.rd hb (by omega)).mono ?_; rintro e w1 ⟨a1, n1, c1, rfl, r1, l1, b1⟩; rw [HV.out] at r1)
      go_ret
      exact ⟨a1, n1, c1, rfl, r1.mono hbe.size, by omega, bt hbe b1⟩

theorem radd_any (a b : Option Addr) (n m c d : Nat) (p q : List Nat) (w : World) (h1 : Rd vb w a n c p) (h2 : Rd vb w b m d q) (hp : Gf.Byt p) (hq : Gf.Byt q) (hnm : n + m ≤ 140737488355000) :
    Calls Try.prog 26 #[.slice a n c, .slice b m d] w (GivesS w (n + m) (Poly.out (Poly.of p + Poly.of q))) := (radd_o a b n m c d p q w h1 h2 hp hq hnm).mono fun _ _ h => h.s
end Go.Proofs.Ytkbcingibgnnpaa
