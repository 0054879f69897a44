/- MatrixAnyRows: the walk. -/
import Derived.Test.YtchhfpaicdhjbaaPolyZ
import Derived.Test.YtchhfpaicdhjbaaMw
import Derived.Test.YtchhfpaicdhjbaaMkd
namespace Mat
theorem range_snoc (i : Nat) : (List.range (i + 1)).map Int.ofNat = (List.range i).map Int.ofNat ++ [(i : Int)] := by
  rw [List.range_succ, List.map_append]; rfl
/-- One element moved from the second list to the first. -/
theorem move_nodup {l q : List Nat} {k x : Nat} (h : (l ++ q).Nodup) (hk : q[k]? = some x) : ((l ++ [x]) ++ (q.take k ++ q.drop (k + 1))).Nodup := by
  have hlt := (List.getElem?_eq_some_iff.1 hk).1
  have hx := (List.getElem?_eq_some_iff.1 hk).2
  have e : q = q.take k ++ x :: q.drop (k + 1) := by
    conv => lhs; rw [← List.take_append_drop k q]
    rw [List.drop_eq_getElem_cons hlt, hx]
  have hp : List.Perm ((l ++ [x]) ++ (q.take k ++ q.drop (k + 1))) (l ++ q) := by
    conv => rhs; rw [e]
    rw [List.append_assoc]
    refine List.Perm.append_left l ?_
    show List.Perm (x :: (List.take k q ++ List.drop (k + 1) q)) _
    exact List.perm_middle.symm
  exact (hp.nodup_iff).2 h
end Mat
namespace Go.Proofs.Ytchhfpaicdhjbaa
open Go.RowKit Go.Kin Mat
open Fq (sum)
set_option maxRecDepth 100000
set_option linter.unusedVariables false

theorem matR_app {w w' : World} {B B2 : Nat} {a b : Option Addr} {n c m d k : Nat} {f g : Mat} (h1 : MatR w B a n c k f) (h2 : MatR w B2 b m d k g) :
    ∃ L X, Own vh B 34 w a n c L ∧ Rd vh w b m d X ∧ ∀ (sa : Option Addr) (c' : Nat) (w' : World), Own vh B 34 w' sa (n + m) c' (L ++ X) → w.grownBy w' (Value.slice a n c).ownBlock → MatR w' B sa (n + m) c' k (fun i => if i < n then f i else g (i - n)) := by
  obtain ⟨L, h3, h4⟩ := h1
  obtain ⟨X, h5, h6⟩ := h2
  refine ⟨L, X, h3, h5.rd, fun sa c' w' hown hgr => ⟨L ++ X, hown, fun i h hi => ?_⟩⟩
  have hlen := h3.len
  by_cases e : i < n
  · rw [List.getElem?_append_left (by omega)] at hi
    show Own _ _ _ _ _ _ _ (mrow k (if i < n then f i else _))
    rw [if_pos e]
    exact (h4 i h hi).grownT h3 tt' hgr
  · rw [List.getElem?_append_right (by omega), hlen] at hi
    show Own _ _ _ _ _ _ _ (mrow k (if i < n then f i else _))
    rw [if_neg e]
    exact (h6 _ h hi).grownT h3 tt' hgr

theorem rd_behindG {α : Type} {f : α → Value} {w : World} {b o n c : Nat} {l : List α} (h : Rd f w (some ⟨b, o, none⟩) n c l) {k : Nat} (hk : k ≤ n) :
    ∃ ad, (if c - k = 0 then (⟨b, o, none⟩ : Addr) else ⟨b, o + k, none⟩) = ad ∧ Rd f w (some ad) (n - k) (c - k) (l.drop k) := by
  refine ⟨_, rfl, ?_⟩
  by_cases e : c - k = 0
  · rw [if_pos e]
    have h1 := h.cap
    have h2 : l.drop k = [] := List.drop_of_length_le (by rw [h.len]; omega)
    rw [h2, e, show n - k = 0 by omega]
    exact ⟨rfl, by omega, by simp [maxLen], by simp, by simp⟩
  · rw [if_neg e]; exact h.dropk hk

theorem pick_push {w : World} {B : Nat} {a : Option Addr} {i c n y : Nat} {l : List Nat} (hl : l.length = i) (h : MatR w B a (i + 1) c n (fun t => if t < i then (fun t => allM n (l.getD t 0)) t else allM n y)) : MatR w B a (i + 1) c n (fun t => allM n ((l ++ [y]).getD t 0)) := by
  refine h.congr fun t c ht _ => ?_
  rw [List.getD_eq_getElem?_getD (l := l ++ [y])]
  by_cases e : t < i
  · rw [if_pos e, List.getElem?_append_left (by omega), ← List.getD_eq_getElem?_getD]
  · rw [if_neg e, List.getElem?_append_right (by omega), hl, show t - i = 0 by omega]; rfl

set_option maxHeartbeats 2000000 in
theorem walk_MatrixAnyRows (n r : Int) (b : Option Addr) (m d : Nat) (p : List Nat) (w : World) (_h0 : -9223372036854775808 ≤ n ∧ n ≤ 9223372036854775807) (_h1 : -9223372036854775808 ≤ r ∧ r ≤ 9223372036854775807) (h2 : Rd vb w b m d p) (hb2 : ∀ x ∈ p, x < 256) :
    Calls Try.prog 9 #[.int .i64 n, .int .i64 r, .slice b m d] w fun e w' => e = .returned (.bool true) ∧ Below w.heap.size w w' := by
  clear _h0 _h1
  have hm63 : m ≤ 9223372036854775807 := by have := h2.cap; have := h2.max; unfold maxLen at *; omega
  by_cases hn : 1 ≤ n ∧ n ≤ 8 ∧ 0 ≤ r ∧ r ≤ 8 ∧ m ≤ 64
  case neg =>
    have hsel : n < 1 ∨ (1 ≤ n ∧ 8 < n) ∨ (1 ≤ n ∧ n ≤ 8 ∧ r < 0) ∨ (1 ≤ n ∧ n ≤ 8 ∧ 0 ≤ r ∧ 8 < r) ∨ (1 ≤ n ∧ n ≤ 8 ∧ 0 ≤ r ∧ r ≤ 8 ∧ (64 : Int) < (m : Int)) := by omega
    clear hn h2 hb2
    rcases hsel with h | ⟨h, h'⟩ | ⟨h, h', h''⟩ | ⟨h, h', h'', h3⟩ | ⟨h, h', h'', h3, h4⟩
    all_goals
      go_enter Try.func9, Try.ntmps9
      go_wp2_with (go_at_call 14; refine (awake_any _).mono ?_; rintro e w1 ⟨rfl, b1⟩)
      go_ret
      exact ⟨rfl, b1⟩
  obtain ⟨hn1, hn8, hr0, hr8, hm64⟩ := hn
  obtain ⟨n, rfl⟩ := Int.eq_ofNat_of_zero_le (show 0 ≤ n by omega)
  obtain ⟨r, rfl⟩ := Int.eq_ofNat_of_zero_le hr0
  have t1 : decide (((n : Nat) : Int) < 1) = false := by simp; omega
  have t2 : decide ((8 : Int) < ((n : Nat) : Int)) = false := by simp; omega
  have t3 : decide (((r : Nat) : Int) < 0) = false := by simp
  have t4 : decide ((8 : Int) < ((r : Nat) : Int)) = false := by simp; omega
  have t5 : decide ((64 : Int) < ((m : Nat) : Int)) = false := by simp; omega
  obtain ⟨ii, hii, hiz0, hiz1, hiz2⟩ := info_parts infoI
  have ui := Try.underlying29
  obtain ⟨i1, hi1, hy0, hy1, hy2⟩ := info_parts infoB
  have u1 := Try.underlying22
  have H2 := Lib.hid h2; have BY := Lib.hid hb2
  clear h2 hb2
  have g1 : (r : Int) + (n : Int) = ((n + r : Nat) : Int) := by omega
  have g2 : (((n + r : Nat) : Int) != ((n + r : Nat) : Int)) = false := by simp
  go_enter Try.func9, Try.ntmps9
  go_wp2_with (first
    | (go_at_call 34; refine (cauchy_any r n _ (by omega) (by omega)).mono ?_; rintro e w1 ⟨o1, rfl, hM, b1⟩; have HC := Lib.hid (hM.r (by omega)); have B1 := Lib.hid b1; clear hM b1)
    | (go_at_call 35; refine (ident_any n _ (by omega)).mono ?_; rintro e w2 ⟨o2, rfl, hM, b2⟩; obtain ⟨L, X, hL, hX, hmk⟩ := matR_app (w' := w2) ((hM.r (by omega)).mono (show w.heap.size ≤ _ from B1.out.size)) (HC.out.fw b2); have HL := Lib.hid hL; have HXX := Lib.hid hX; have HMK := Lib.hid hmk; have B2 := Lib.hid (bt B1.out b2); clear hM b2 hL hX hmk)
    | (at_builtin; refine wpList_append_rd rfl (.tmp 46) (.tmp 47) 22 rfl vh vh_one w.heap.size 34 i1 (.slice none 0 0) 24 u1 hi1 hy0 hy1 hy2 rfl (some ⟨o2, 0, none⟩) n n L rfl HL.out (some ⟨o1, 0, none⟩) r r X rfl HXX.out (by unfold maxLen; omega) (by omega) B2.out.size ?_; intro aa ac w3 hown3 hgr3; have MA := Lib.hid (HMK.out aa ac w3 hown3 hgr3); have B3 : Hid (Below w.heap.size w w3) := B2.out.grown hgr3 B2.out.size (fun x hx => own_ge HL.out hx); clear hown3 hgr3))
  have MA2 : Hid (MatR w3 w.heap.size aa (n + r) ac n (allM n)) := MA.out.congr fun i c hi _ => by
    unfold allM
    by_cases e : i < n
    · rw [if_pos e, if_pos e]
    · rw [if_neg e, if_neg e]; unfold cauchyM; rw [show n + (i - n) = i by omega]
  clear MA
  have MA := MA2
  clear MA2 HC HL HXX HMK B1 B2
  have bq1 := below_alloc (.cells (row vi []) 3 (0, 0)) (below_refl w3)
  have bq2 := below_alloc (.cells (row vh []) 34 (0, 0)) bq1
  have OL0 := Lib.hid (((blk_new vi 3 w3 []).own (B := w3.heap.size) (Nat.le_refl _) (by simp [maxLen])).fw (below_alloc (.cells (row vh []) 34 (0, 0)) (below_refl _)))
  have OS0 : Hid (Own vh w3.heap.size 34 ((w3.alloc (.cells (row vi []) 3 (0, 0))).alloc (.cells (row vh []) 34 (0, 0))) (some ⟨w3.heap.size + 1, 0, none⟩) 0 0 []) := by
    have := (blk_new vh 34 (w3.alloc (.cells (row vi []) 3 (0, 0))) []).own (B := w3.heap.size) (by simp) (by simp [maxLen])
    have e : (w3.alloc (.cells (row vi []) 3 (0, 0))).heap.size = w3.heap.size + 1 := by simp
    rw [e] at this; exact this
  have BQ2 := Lib.hid bq2
  clear bq1 bq2
  go_loopw [10, 12] (fun lf i wr => ∃ (j : Nat) (la : Option Addr) (lc : Nat), j ≤ n + r ∧ i = .int .i64 (j : Int) ∧ lf = .slice la j lc ∧ Hid (Own vi w3.heap.size 3 wr la j lc ((List.range j).map Int.ofNat)) ∧ Hid (Own vh w3.heap.size 34 wr (some ⟨w3.heap.size + 1, 0, none⟩) 0 0 []) ∧ Hid (Below w3.heap.size w3 wr)) (fun _ i _ => n + r - (intOf i).toNat)
  case atStart => exact ⟨0, _, 0, by omega, rfl, rfl, OL0.out, OS0.out, BQ2.out⟩
  case round =>
    obtain ⟨j, la, lc, hj, rfl, rfl, hL, hS, hbe⟩ := hrel
    by_cases hlt : j < n + r
    · have i2 : (j : Int) < ((n + r : Nat) : Int) := by omega
      have i3 : (j : Int) < (n : Int) + (r : Int) := by omega
      have b6 := below_alloc (.cells (row vi [(j : Int)]) 3 (0, 0)) (below_refl wr)
      have L6 := Lib.hid (hL.out.fw b6); have S6 := Lib.hid (hS.out.fw b6)
      have N6 := Lib.hid (rd_new vi 3 wr [(j : Int)] (n := 1) rfl (by omega))
      have B6 := Lib.hid (bt hbe.out b6)
      clear b6
      go_wp2_with (at_builtin; refine wpList_append_rd rfl (.tmp 63) (.tmp 65) 29 rfl vi vi_one w3.heap.size 3 ii (.int .i64 0) 8 ui hii hiz0 hiz1 hiz2 rfl la j lc ((List.range j).map Int.ofNat) rfl L6.out (some ⟨wr.heap.size, 0, none⟩) 1 1 [(j : Int)] rfl N6.out (by unfold maxLen; omega) (by omega) B6.out.size ?_; rw [← range_snoc]; intro sa c2 w7 hown7 hgr7; have O7 := Lib.hid hown7; have S7 := Lib.hid (S6.out.grownT L6.out tie hgr7); have B7 : Hid (Below w3.heap.size w3 w7) := B6.out.grown hgr7 B6.out.size (fun x hx => own_ge L6.out hx); clear hown7 hgr7)
      go_roundw
      case rel => exact ⟨j + 1, sa, c2, by omega, by go_num, rfl, O7.out, S7.out, B7.out⟩
      case measure => simp [intOf]; omega
    · have hjn : j = n + r := by omega
      subst hjn
      go_wp2_with fail
      simp only [Int.natCast_add]
      go_loopw [10, 11, 13, 14] (fun lf sm i _ wr => ∃ (i' : Nat) (la : Option Addr) (lc : Nat) (sa : Option Addr) (sc : Nat) (l q : List Nat), i' ≤ n ∧ i = .int .i64 (i' : Int) ∧ lf = .slice la (n + r - i') lc ∧ sm = .slice sa i' sc ∧ Hid (Own vi w3.heap.size 3 wr la (n + r - i') lc (q.map Int.ofNat)) ∧ Hid (MatR wr w3.heap.size sa i' sc n (fun t => allM n (l.getD t 0))) ∧ Hid (l.length = i' ∧ (l ++ q).Nodup ∧ ∀ x ∈ l ++ q, x < n + r) ∧ Hid (Below w3.heap.size w3 wr)) (fun _ _ i _ _ => n - (intOf i).toNat)
      case atStart => exact ⟨0, la, lc, _, 0, [], List.range (n + r), by omega, rfl, rfl, rfl, hL.out, ⟨[], hS.out, by simp⟩, ⟨rfl, by simpa using List.nodup_range, fun x hx => by simpa using hx⟩, hbe.out⟩
      case round =>
        clear hL hS hbe
        obtain ⟨i, la, lc, sa, sc, l, q, hi, rfl, rfl, rfl, hL, hM, HQ, hbe⟩ := hrel
        by_cases hlt : i < n
        · have i2 : (i : Int) < (n : Int) := by omega
          obtain ⟨ln, hln⟩ : ∃ ln, ln = n + r - i := ⟨_, rfl⟩
          rw [← hln] at hL ⊢
          have hln0 : 0 < ln := by omega
          have hln1 : ln + i ≤ n + r := by omega
          have hln2 : n + r ≤ ln + i := by omega
          clear hln
          by_cases hlm : i < m
          · have i3 : (i : Int) < (m : Int) := by omega
            obtain ⟨x, hx⟩ : ∃ x, p[i]? = some x := ⟨_, List.getElem?_eq_getElem (by rw [H2.out.len]; omega)⟩
            obtain ⟨bx, ox, rfl, d0⟩ := (H2.out.fw (bt B3.out hbe.out)).cell i x hx
            have bx1 := BY.out x (List.mem_of_getElem? hx)
            unfold vb at d0
            obtain ⟨kk, hkk⟩ : ∃ kk, kk = x % ln := ⟨_, rfl⟩
            have hkl : kk < ln := by rw [hkk]; exact Nat.mod_lt _ hln0
            have zk : (x : Int) % (ln : Int) = (kk : Int) := by rw [hkk]; simp
            clear hx hkk
            go_upto_region 20 with (fail)
            simp only [zk]
            clear d0 zk
            obtain ⟨y, hy⟩ : ∃ y, q[kk]? = some y := ⟨_, List.getElem?_eq_getElem (by have := hL.out.len; rw [List.length_map] at this; omega)⟩
            have hyn : y < n + r := HQ.out.2.2 y (List.mem_append_right _ (List.mem_of_getElem? hy))
            obtain ⟨gl, rfl, hgl, ly, lf, curl, hcurl⟩ := hL.out.cell (i := kk) (x := (y : Int)) (by rw [List.getElem?_map, hy]; rfl)
            unfold vi at ly
            have HY := Lib.hid hy
            obtain ⟨oo, ra, rc, hoo, _, c0w, _, hrow, _⟩ := MA.out.at hyn
            subst hoo
            have c0 := (cellBelow hbe.out (lt_of_cell c0w)).trans c0w
            have hrow2 := hrow.fw hbe.out
            have HROW := Lib.hid hrow2
            obtain ⟨LS, h3, h4⟩ := hM.out
            have ba6 := below_alloc (.cells (row vh [(ra, n, rc)]) 34 (0, 0)) (below_refl wr)
            have H3 := Lib.hid (h3.fw ba6); have H4 := Lib.hid h4; have H6 := Lib.hid (hrow2.fw ba6); have BA6 := Lib.hid ba6
            have HL6 := Lib.hid (hL.out.fw ba6)
            have N6 := Lib.hid (rd_new vh 34 wr [(ra, n, rc)] (n := 1) rfl (by omega))
            have B6 := Lib.hid (bt hbe.out ba6)
            have j4 : (kk : Int) < ((ln : Nat) : Int) := by omega
            have j5 : (y : Int) < ((n + r : Nat) : Int) := by omega
            have j6 : (y : Int) < (n : Int) + (r : Int) := by omega
            clear hy c0w hrow hrow2 h3 h4 hM hcurl ba6
            go_wp2_with (at_builtin; refine wpList_append_rd rfl (.tmp 84) (.tmp 92) 22 rfl vh vh_one w3.heap.size 34 i1 (.slice none 0 0) 24 u1 hi1 hy0 hy1 hy2 rfl sa i sc LS rfl H3.out (some ⟨wr.heap.size, 0, none⟩) 1 1 [(ra, n, rc)] rfl N6.out (by unfold maxLen; omega) (by omega) B6.out.size ?_; intro sb sd w7 hown7 hgr7; have M7' := matR_push (f := fun t => allM n (l.getD t 0)) H3.out (fun i g hg => (H4.out i g hg).fw BA6.out) H6.out hown7 hgr7; have M7 := Lib.hid (pick_push (y := y) HQ.out.1 M7'); have L7 := Lib.hid (HL6.out.grownT H3.out tib hgr7); have B7 : Hid (Below w3.heap.size w3 w7) := B6.out.grown hgr7 B6.out.size (fun x hx => own_ge H3.out hx); clear hown7 hgr7 M7')
            have hlr := L7.out.rd
            have hcap := hlr.cap
            have hmx := hlr.max
            unfold maxLen at hmx
            obtain ⟨ad, had, hbeh⟩ := rd_behindG hlr (k := kk + 1) (by omega)
            have htk := hlr.take (k := kk) (by omega)
            have QTE : Hid ((q.map Int.ofNat).take kk = (q.take kk).map Int.ofNat ∧ (q.map Int.ofNat).drop (kk + 1) = (q.drop (kk + 1)).map Int.ofNat) := ⟨List.map_take.symm, List.map_drop.symm⟩
            rw [QTE.out.1] at htk
            rw [QTE.out.2] at hbeh
            have HBH := Lib.hid hbeh; have TK := Lib.hid htk; have HAD := Lib.hid had
            have BA8 : Hid (Below w7.heap.size w7 (w7.drew.alloc (.cells (row vi []) 3 (0, 0)))) := below_alloc _ (below_refl w7).drew
            have O8 := Lib.hid ((blk_new vi 3 w7.drew []).own (B := w7.heap.size) (Nat.le_refl _) (by simp [maxLen]))
            have z1 : (kk : Int) ≤ (lc : Int) := by omega
            have z2 : (kk : Int) + 1 ≤ (ln : Int) := by omega
            have z3 : IntKind.i64.wrap ((kk : Int) + 1) = (kk : Int) + 1 := IntWalk.i64_in _ (by omega)
            have z4 : ((kk : Int) + 1).toNat = kk + 1 := by omega
            have z5 : 0 ≤ (kk : Int) + 1 := by omega
            have z7 : (ln : Int) - ((kk : Int) + 1) = ((ln - (kk + 1) : Nat) : Int) := by omega
            clear hlr hbeh htk had ly lf c0
            by_cases hrc : lc = kk + 1
            · have z6 : lc - (kk + 1) = 0 := by omega
              have z9 : lc ≤ kk + 1 := by omega
              have zif : (if lc = kk + 1 then some (⟨gl, 0, none⟩ : Addr) else some ⟨gl, 0 + (kk + 1), none⟩) = some ⟨gl, 0, none⟩ := if_pos hrc
              have zif2 : (if lc = kk + 1 then some (⟨gl, 0, none⟩ : Addr) else some ⟨gl, kk + 1, none⟩) = some ⟨gl, 0, none⟩ := if_pos hrc
              have HBH0 : Hid (Rd vi w7 (some ⟨gl, 0, none⟩) (ln - (kk + 1)) 0 ((q.drop (kk + 1)).map Int.ofNat)) := by
                have := HBH.out
                rw [← HAD.out, if_pos z6, z6] at this; exact this
              clear hrc
              go_wp2_with fail
              go_region_held3 (fun _ => True)
                (first
                  | exact trivial
                  | go_keep)
                (first
                  | (refine step_append_rd _ (by rfl) (.tmp 94) (.tmp 97) 29 (by rfl) vi vi_one w7.heap.size 3 ii (.int .i64 0) 8 ui hii hiz0 hiz1 hiz2 rfl (some ⟨w7.heap.size, 0, none⟩) 0 0 [] (by rfl) O8.out ⟨gl, 0, none⟩ kk lc ((q.take kk).map Int.ofNat) (by rfl) (TK.out.fw BA8.out) (by unfold maxLen; omega) (by omega) (by simp) ?_; rw [Nat.zero_add, List.nil_append]; intro sa5 sc5 w9 hown9 hgr9; have B9 : Hid (Below w7.heap.size w7 w9) := BA8.out.grown hgr9 BA8.out.size (fun x hx => by cases hx; exact Nat.le_refl _); have O9 := Lib.hid hown9; clear hown9 hgr9)
                  | (refine step_append_rd _ (by rfl) (.tmp 98) (.tmp 102) 29 (by rfl) vi vi_one w7.heap.size 3 ii (.int .i64 0) 8 ui hii hiz0 hiz1 hiz2 rfl sa5 kk sc5 _ (by rfl) O9.out ⟨gl, 0, none⟩ (ln - (kk + 1)) 0 _ (by rfl) (HBH0.out.fw B9.out) (by unfold maxLen; omega) (by omega) B9.out.size ?_; rw [← List.map_append, show kk + (ln - (kk + 1)) = n + r - (i + 1) by omega]; intro sa6 sc6 w10 hown10 hgr10; have B10 : Hid (Below w7.heap.size w7 w10) := B9.out.grown hgr10 B9.out.size (fun x hx => own_ge O9.out hx); have O10 := Lib.hid hown10; clear hown10 hgr10))
              go_wp2_with fail
              go_roundw
              case rel =>
                refine ⟨i + 1, sa6, sc6, sb, sd, l ++ [y], q.take kk ++ q.drop (kk + 1), by omega, by go_num, rfl, rfl, O10.out.mono B7.out.size, M7.out.fw B10.out, ?_, bt B7.out B10.out⟩
                refine ⟨by rw [List.length_append, HQ.out.1]; rfl, move_nodup HQ.out.2.1 HY.out, fun z hz => HQ.out.2.2 z ?_⟩
                rcases List.mem_append.1 hz with hz | hz
                · rcases List.mem_append.1 hz with hz | hz
                  · exact List.mem_append_left _ hz
                  · rw [List.mem_singleton.1 hz]; exact List.mem_append_right _ (List.mem_of_getElem? HY.out)
                · rcases List.mem_append.1 hz with hz | hz
                  · exact List.mem_append_right _ (List.mem_of_mem_take hz)
                  · exact List.mem_append_right _ (List.mem_of_mem_drop hz)
              case measure => simp [intOf]; omega
            · have z6 : ¬ lc - (kk + 1) = 0 := by omega
              have HBH1 : Hid (Rd vi w7 (some ⟨gl, kk + 1, none⟩) (ln - (kk + 1)) (lc - (kk + 1)) ((q.drop (kk + 1)).map Int.ofNat)) := by
                have := HBH.out
                rw [← HAD.out, if_neg z6, Nat.zero_add] at this; exact this
              go_wp2_with fail
              go_region_held3 (fun _ => True)
                (first
                  | exact trivial
                  | go_keep)
                (first
                  | (refine step_append_rd _ (by rfl) (.tmp 94) (.tmp 97) 29 (by rfl) vi vi_one w7.heap.size 3 ii (.int .i64 0) 8 ui hii hiz0 hiz1 hiz2 rfl (some ⟨w7.heap.size, 0, none⟩) 0 0 [] (by rfl) O8.out ⟨gl, 0, none⟩ kk lc ((q.take kk).map Int.ofNat) (by rfl) (TK.out.fw BA8.out) (by unfold maxLen; omega) (by omega) (by simp) ?_; rw [Nat.zero_add, List.nil_append]; intro sa5 sc5 w9 hown9 hgr9; have B9 : Hid (Below w7.heap.size w7 w9) := BA8.out.grown hgr9 BA8.out.size (fun x hx => by cases hx; exact Nat.le_refl _); have O9 := Lib.hid hown9; clear hown9 hgr9)
                  | (refine step_append_rd _ (by rfl) (.tmp 98) (.tmp 102) 29 (by rfl) vi vi_one w7.heap.size 3 ii (.int .i64 0) 8 ui hii hiz0 hiz1 hiz2 rfl sa5 kk sc5 _ (by rfl) O9.out ⟨gl, kk + 1, none⟩ (ln - (kk + 1)) (lc - (kk + 1)) _ (by rfl) (HBH1.out.fw B9.out) (by unfold maxLen; omega) (by omega) B9.out.size ?_; rw [← List.map_append, show kk + (ln - (kk + 1)) = n + r - (i + 1) by omega]; intro sa6 sc6 w10 hown10 hgr10; have B10 : Hid (Below w7.heap.size w7 w10) := B9.out.grown hgr10 B9.out.size (fun x hx => own_ge O9.out hx); have O10 := Lib.hid hown10; clear hown10 hgr10))
              go_wp2_with fail
              go_roundw
              case rel =>
                refine ⟨i + 1, sa6, sc6, sb, sd, l ++ [y], q.take kk ++ q.drop (kk + 1), by omega, by go_num, rfl, rfl, O10.out.mono B7.out.size, M7.out.fw B10.out, ?_, bt B7.out B10.out⟩
                refine ⟨by rw [List.length_append, HQ.out.1]; rfl, move_nodup HQ.out.2.1 HY.out, fun z hz => HQ.out.2.2 z ?_⟩
                rcases List.mem_append.1 hz with hz | hz
                · rcases List.mem_append.1 hz with hz | hz
                  · exact List.mem_append_left _ hz
                  · rw [List.mem_singleton.1 hz]; exact List.mem_append_right _ (List.mem_of_getElem? HY.out)
                · rcases List.mem_append.1 hz with hz | hz
                  · exact List.mem_append_right _ (List.mem_of_mem_take hz)
                  · exact List.mem_append_right _ (List.mem_of_mem_drop hz)
              case measure => simp [intOf]; omega
          · have i3 : decide ((i : Int) < (m : Int)) = false := by simp; omega
            go_upto_region 20 with (fail)
            obtain ⟨y, hy⟩ : ∃ y, q[0]? = some y := ⟨_, List.getElem?_eq_getElem (by have := hL.out.len; rw [List.length_map] at this; omega)⟩
            have hyn : y < n + r := HQ.out.2.2 y (List.mem_append_right _ (List.mem_of_getElem? hy))
            obtain ⟨gl, rfl, hgl, ly, lf, curl, hcurl⟩ := hL.out.cell (i := 0) (x := (y : Int)) (by rw [List.getElem?_map, hy]; rfl)
            unfold vi at ly
            have HY := Lib.hid hy
            obtain ⟨oo, ra, rc, hoo, _, c0w, _, hrow, _⟩ := MA.out.at hyn
            subst hoo
            have c0 := (cellBelow hbe.out (lt_of_cell c0w)).trans c0w
            have hrow2 := hrow.fw hbe.out
            have HROW := Lib.hid hrow2
            obtain ⟨LS, h3, h4⟩ := hM.out
            have ba6 := below_alloc (.cells (row vh [(ra, n, rc)]) 34 (0, 0)) (below_refl wr)
            have H3 := Lib.hid (h3.fw ba6); have H4 := Lib.hid h4; have H6 := Lib.hid (hrow2.fw ba6); have BA6 := Lib.hid ba6
            have HL6 := Lib.hid (hL.out.fw ba6)
            have N6 := Lib.hid (rd_new vh 34 wr [(ra, n, rc)] (n := 1) rfl (by omega))
            have B6 := Lib.hid (bt hbe.out ba6)
            have j4 : (0 : Int) < ((ln : Nat) : Int) := by omega
            have j5 : (y : Int) < ((n + r : Nat) : Int) := by omega
            have j6 : (y : Int) < (n : Int) + (r : Int) := by omega
            clear hy c0w hrow hrow2 h3 h4 hM hcurl ba6
            go_wp2_with (at_builtin; refine wpList_append_rd rfl (.tmp 84) (.tmp 92) 22 rfl vh vh_one w3.heap.size 34 i1 (.slice none 0 0) 24 u1 hi1 hy0 hy1 hy2 rfl sa i sc LS rfl H3.out (some ⟨wr.heap.size, 0, none⟩) 1 1 [(ra, n, rc)] rfl N6.out (by unfold maxLen; omega) (by omega) B6.out.size ?_; intro sb sd w7 hown7 hgr7; have M7' := matR_push (f := fun t => allM n (l.getD t 0)) H3.out (fun i g hg => (H4.out i g hg).fw BA6.out) H6.out hown7 hgr7; have M7 := Lib.hid (pick_push (y := y) HQ.out.1 M7'); have L7 := Lib.hid (HL6.out.grownT H3.out tib hgr7); have B7 : Hid (Below w3.heap.size w3 w7) := B6.out.grown hgr7 B6.out.size (fun x hx => own_ge H3.out hx); clear hown7 hgr7 M7')
            have hlr := L7.out.rd
            have hcap := hlr.cap
            have hmx := hlr.max
            unfold maxLen at hmx
            obtain ⟨ad, had, hbeh⟩ := rd_behindG hlr (k := 1) (by omega)
            have htk := hlr.take (k := 0) (by omega)
            have QTE : Hid ((q.map Int.ofNat).take 0 = (q.take 0).map Int.ofNat ∧ (q.map Int.ofNat).drop (1) = (q.drop (1)).map Int.ofNat) := ⟨List.map_take.symm, List.map_drop.symm⟩
            rw [QTE.out.1] at htk
            rw [QTE.out.2] at hbeh
            have HBH := Lib.hid hbeh; have TK := Lib.hid htk; have HAD := Lib.hid had
            have BA8 : Hid (Below w7.heap.size w7 (w7.drew.alloc (.cells (row vi []) 3 (0, 0)))) := below_alloc _ (below_refl w7).drew
            have O8 := Lib.hid ((blk_new vi 3 w7.drew []).own (B := w7.heap.size) (Nat.le_refl _) (by simp [maxLen]))
            have z1 : (0 : Int) ≤ (lc : Int) := by omega
            have z2 : (1 : Int) ≤ (ln : Int) := by omega
            have z3 : IntKind.i64.wrap ((1 : Int)) = (1 : Int) := IntWalk.i64_in _ (by omega)
            have z4 : ((1 : Int)).toNat = 1 := by omega
            have z5 : 0 ≤ (1 : Int) := by omega
            have z7 : (ln : Int) - ((1 : Int)) = ((ln - (1) : Nat) : Int) := by omega
            clear hlr hbeh htk had ly lf c0
            by_cases hrc : lc = 1
            · have z6 : lc - (1) = 0 := by omega
              have z9 : lc ≤ 1 := by omega
              have zif : (if lc = 1 then some (⟨gl, 0, none⟩ : Addr) else some ⟨gl, 0 + (1), none⟩) = some ⟨gl, 0, none⟩ := if_pos hrc
              have zif2 : (if lc = 1 then some (⟨gl, 0, none⟩ : Addr) else some ⟨gl, 1, none⟩) = some ⟨gl, 0, none⟩ := if_pos hrc
              have HBH0 : Hid (Rd vi w7 (some ⟨gl, 0, none⟩) (ln - (1)) 0 ((q.drop (1)).map Int.ofNat)) := by
                have := HBH.out
                rw [← HAD.out, if_pos z6, z6] at this; exact this
              clear hrc
              go_wp2_with fail
              go_region_held3 (fun _ => True)
                (first
                  | exact trivial
                  | go_keep)
                (first
                  | (refine step_append_rd _ (by rfl) (.tmp 94) (.tmp 97) 29 (by rfl) vi vi_one w7.heap.size 3 ii (.int .i64 0) 8 ui hii hiz0 hiz1 hiz2 rfl (some ⟨w7.heap.size, 0, none⟩) 0 0 [] (by rfl) O8.out ⟨gl, 0, none⟩ 0 lc ((q.take 0).map Int.ofNat) (by rfl) (TK.out.fw BA8.out) (by unfold maxLen; omega) (by omega) (by simp) ?_; rw [Nat.zero_add, List.nil_append]; intro sa5 sc5 w9 hown9 hgr9; have B9 : Hid (Below w7.heap.size w7 w9) := BA8.out.grown hgr9 BA8.out.size (fun x hx => by cases hx; exact Nat.le_refl _); have O9 := Lib.hid hown9; clear hown9 hgr9)
                  | (refine step_append_rd _ (by rfl) (.tmp 98) (.tmp 102) 29 (by rfl) vi vi_one w7.heap.size 3 ii (.int .i64 0) 8 ui hii hiz0 hiz1 hiz2 rfl sa5 0 sc5 _ (by rfl) O9.out ⟨gl, 0, none⟩ (ln - (1)) 0 _ (by rfl) (HBH0.out.fw B9.out) (by unfold maxLen; omega) (by omega) B9.out.size ?_; rw [← List.map_append, show 0 + (ln - (1)) = n + r - (i + 1) by omega]; intro sa6 sc6 w10 hown10 hgr10; have B10 : Hid (Below w7.heap.size w7 w10) := B9.out.grown hgr10 B9.out.size (fun x hx => own_ge O9.out hx); have O10 := Lib.hid hown10; clear hown10 hgr10))
              go_wp2_with fail
              go_roundw
              case rel =>
                refine ⟨i + 1, sa6, sc6, sb, sd, l ++ [y], q.take 0 ++ q.drop (1), by omega, by go_num, rfl, rfl, O10.out.mono B7.out.size, M7.out.fw B10.out, ?_, bt B7.out B10.out⟩
                refine ⟨by rw [List.length_append, HQ.out.1]; rfl, move_nodup HQ.out.2.1 HY.out, fun z hz => HQ.out.2.2 z ?_⟩
                rcases List.mem_append.1 hz with hz | hz
                · rcases List.mem_append.1 hz with hz | hz
                  · exact List.mem_append_left _ hz
                  · rw [List.mem_singleton.1 hz]; exact List.mem_append_right _ (List.mem_of_getElem? HY.out)
                · rcases List.mem_append.1 hz with hz | hz
                  · exact List.mem_append_right _ (List.mem_of_mem_take hz)
                  · exact List.mem_append_right _ (List.mem_of_mem_drop hz)
              case measure => simp [intOf]; omega
            · have z6 : ¬ lc - (1) = 0 := by omega
              have HBH1 : Hid (Rd vi w7 (some ⟨gl, 1, none⟩) (ln - (1)) (lc - (1)) ((q.drop (1)).map Int.ofNat)) := by
                have := HBH.out
                rw [← HAD.out, if_neg z6, Nat.zero_add] at this; exact this
              go_wp2_with fail
              go_region_held3 (fun _ => True)
                (first
                  | exact trivial
                  | go_keep)
                (first
                  | (refine step_append_rd _ (by rfl) (.tmp 94) (.tmp 97) 29 (by rfl) vi vi_one w7.heap.size 3 ii (.int .i64 0) 8 ui hii hiz0 hiz1 hiz2 rfl (some ⟨w7.heap.size, 0, none⟩) 0 0 [] (by rfl) O8.out ⟨gl, 0, none⟩ 0 lc ((q.take 0).map Int.ofNat) (by rfl) (TK.out.fw BA8.out) (by unfold maxLen; omega) (by omega) (by simp) ?_; rw [Nat.zero_add, List.nil_append]; intro sa5 sc5 w9 hown9 hgr9; have B9 : Hid (Below w7.heap.size w7 w9) := BA8.out.grown hgr9 BA8.out.size (fun x hx => by cases hx; exact Nat.le_refl _); have O9 := Lib.hid hown9; clear hown9 hgr9)
                  | (refine step_append_rd _ (by rfl) (.tmp 98) (.tmp 102) 29 (by rfl) vi vi_one w7.heap.size 3 ii (.int .i64 0) 8 ui hii hiz0 hiz1 hiz2 rfl sa5 0 sc5 _ (by rfl) O9.out ⟨gl, 1, none⟩ (ln - (1)) (lc - (1)) _ (by rfl) (HBH1.out.fw B9.out) (by unfold maxLen; omega) (by omega) B9.out.size ?_; rw [← List.map_append, show 0 + (ln - (1)) = n + r - (i + 1) by omega]; intro sa6 sc6 w10 hown10 hgr10; have B10 : Hid (Below w7.heap.size w7 w10) := B9.out.grown hgr10 B9.out.size (fun x hx => own_ge O9.out hx); have O10 := Lib.hid hown10; clear hown10 hgr10))
              go_wp2_with fail
              go_roundw
              case rel =>
                refine ⟨i + 1, sa6, sc6, sb, sd, l ++ [y], q.take 0 ++ q.drop (1), by omega, by go_num, rfl, rfl, O10.out.mono B7.out.size, M7.out.fw B10.out, ?_, bt B7.out B10.out⟩
                refine ⟨by rw [List.length_append, HQ.out.1]; rfl, move_nodup HQ.out.2.1 HY.out, fun z hz => HQ.out.2.2 z ?_⟩
                rcases List.mem_append.1 hz with hz | hz
                · rcases List.mem_append.1 hz with hz | hz
                  · exact List.mem_append_left _ hz
                  · rw [List.mem_singleton.1 hz]; exact List.mem_append_right _ (List.mem_of_getElem? HY.out)
                · rcases List.mem_append.1 hz with hz | hz
                  · exact List.mem_append_right _ (List.mem_of_mem_take hz)
                  · exact List.mem_append_right _ (List.mem_of_mem_drop hz)
              case measure => simp [intOf]; omega
        · have hin : i = n := by omega
          subst hin
          have hlen := HQ.out.1
          have hnd : l.Nodup := (List.nodup_append.1 HQ.out.2.1).1
          have hbd : ∀ x ∈ l, x < 256 := fun x hx => by have := HQ.out.2.2 x (List.mem_append_left _ hx); omega
          have hfull := pick_full (n := i) (by omega) hlen hnd hbd
          obtain ⟨F, hF⟩ : ∃ F : Mat, F = fun t => allM i (l.getD t 0) := ⟨_, rfl⟩
          rw [← hF] at hM hfull
          have hfull2 : (elimE i (aug i F idm) i).piv.length = i := by rw [aug_len]; exact hfull
          obtain ⟨j1, _⟩ := inv_both hfull2
          obtain ⟨XX, hX⟩ : ∃ XX : Mat, XX = fun a c => (elimE i (aug i F idm) i).R a (i + c) := ⟨_, rfl⟩
          rw [← hX] at j1
          have I1 : Hid (mlist i i (mul i F XX) = mlist i i idm) := mlist_congr j1
          have HX := Lib.hid hX; have HFU := Lib.hid hfull2
          have rS := hM.out.rdm
          have bw := bt B3.out hbe.out
          clear hlen hnd hbd hfull hfull2 j1 hX hF HQ hL hM hbe MA B3
          go_wp2_with (first
            | (go_at_call 36; refine (inv_ok _ _ _ F _ (by repeat (first | assumption | apply RdM.alloc | (apply RdM.fw2; assumption))) (by omega) HFU.out).mono ?_; rw [← HX.out]; rintro e w20 ⟨o20, rfl, hM, b20⟩; have r20 := hM.rdm; clear hM)
            | (go_at_call 22; refine (rprod_any _ _ _ _ _ _ _ F XX _ (by repeat (first | assumption | apply RdM.alloc | (apply RdM.fw2; assumption))) (by repeat (first | assumption | apply RdM.alloc | (apply RdM.fw2; assumption))) (by omega) (by omega) (fun e => e)).mono ?_; rintro e w21 ⟨a21, c21, rfl, hM, b21⟩; have r21 := hM.rdm (by omega); rw [I1.out] at r21; clear hM)
            | (go_at_call 37; refine (rident_any i _ (by omega)).mono ?_; rintro e w22 ⟨a22, c22, rfl, hM, b22⟩; have r22 := hM.rdm (by omega); clear hM)
            | (go_at_call 21; refine (msame_eq _ _ _ _ _ _ _ _ _ (by repeat (first | assumption | apply RdM.alloc | (apply RdM.fw2; assumption))) (by repeat (first | assumption | apply RdM.alloc | (apply RdM.fw2; assumption))) mlist_b rfl).mono ?_; rintro e w23 ⟨rfl, hd⟩; have b23 := hd.fw; clear hd)
            | (go_at_call 14; refine (awake_any _).mono ?_; rintro e w24 ⟨rfl, b24⟩))
          go_ret
          exact ⟨rfl, (by repeat (first | assumption | apply below_alloc | (apply bt'; assumption)))⟩
end Go.Proofs.Ytchhfpaicdhjbaa
