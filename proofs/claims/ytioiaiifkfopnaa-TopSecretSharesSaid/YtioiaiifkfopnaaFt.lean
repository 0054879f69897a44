/- shamir.Fits, where its arguments are good. -/
import Derived.Test.YtioiaiifkfopnaaFg
import Derived.Test.YtioiaiifkfopnaaPolyI
import Derived.StillTailTactics
namespace Go.Proofs.Ytioiaiifkfopnaa
open Go.RowKit Go.Kin Mat
set_option maxRecDepth 100000
set_option linter.unusedVariables false
theorem set_nextA {α : Type} {A : List α} {z x : α} {j r : Nat} (hA : A.length = j) (hj : j < r) : (A ++ List.replicate (r - j) z).set j x = (A ++ [x]) ++ List.replicate (r - (j + 1)) z := by
  rw [List.set_append, if_neg (by omega), hA, Nat.sub_self, show r - j = (r - (j + 1)) + 1 from by omega, List.replicate_succ, List.set_cons_zero, List.append_assoc]; rfl
theorem get_nextA {α : Type} {A : List α} {z : α} {j r : Nat} (hA : A.length = j) (hj : j < r) : (A ++ List.replicate (r - j) z)[j]? = some z := by
  rw [List.getElem?_append_right (by omega), hA, Nat.sub_self, List.getElem?_replicate, if_pos (by omega)]
/-- What the first loop has made. -/
structure Ft1 (w wr : World) (q n k gC : Nat) (T : List (Nat × Option Addr × Nat × Nat)) (xg xc : Nat) (G : List Nat) : Prop where
  len : G.length = k
  nd : G.Nodup
  lt : ∀ g ∈ G, w.heap.size ≤ g ∧ g < wr.heap.size
  ap : xg ∉ G
  xs : Kin.Own vb w.heap.size 5 wr (some ⟨xg, 0, none⟩) (1 + k) xc (0 :: (T.take k).map Prod.fst)
  cs : Blk vh 23 wr gC (G.map (hdr n) ++ List.replicate (q - k) (none, 0, 0))
  rs : ∀ (i g : Nat), G[i]? = some g → Blk vb 5 wr g (List.replicate n 0)
  bl : Below w.heap.size w wr
/-- Behind the append to xs. -/
theorem Ft1.mid {w wr wA w7 : World} {q n k gC : Nat} {T : List (Nat × Option Addr × Nat × Nat)} {xg xc : Nat} {G : List Nat} (h : Ft1 w wr q n k gC T xg xc G) (hA : Below wr.heap.size wr wA) (hgr : wA.grownBy w7 (Value.slice (some ⟨xg, 0, none⟩) (1 + k) xc).ownBlock) :
    Blk vh 23 w7 gC (G.map (hdr n) ++ List.replicate (q - k) (none, 0, 0)) ∧ (∀ (i g : Nat), G[i]? = some g → Blk vb 5 w7 g (List.replicate n 0)) ∧ Below w.heap.size w w7 := by
  refine ⟨(h.cs.fw hA).grownT (h.xs.fw hA) tt hgr, fun i g hg => ?_, (bt h.bl hA).grown hgr (bt h.bl hA).size fun y hy => (h.xs.ownsRow.lt y hy).1⟩
  refine (hgr.block g ((h.rs i g hg).fw hA).lt (fun e => h.ap ?_)).trans ((h.rs i g hg).fw hA)
  have e2 : g = xg := by simpa [Value.ownBlock] using e
  rw [← e2]
  exact List.mem_of_getElem? hg
theorem Ft1.step {w wr wA w7 w8 : World} {q n k gC : Nat} {T : List (Nat × Option Addr × Nat × Nat)} {xg xc : Nat} {G : List Nat} (h : Ft1 w wr q n k gC T xg xc G) (hA : Below wr.heap.size wr wA) (hgr : wA.grownBy w7 (Value.slice (some ⟨xg, 0, none⟩) (1 + k) xc).ownBlock)
    {g7 c7 X : Nat} {t : Nat × Option Addr × Nat × Nat} (hk : k < q) (ht : T[k]? = some t) (hX : t.1 = X) (hown : Kin.Own vb w.heap.size 5 w7 (some ⟨g7, 0, none⟩) (1 + k + 1) c7 ((0 :: (T.take k).map Prod.fst) ++ [X])) (hl : (Value.slice (some ⟨xg, 0, none⟩) (1 + k) xc).ownBlock = some g7 ∨ g7 = wA.heap.size)
    (h8 : Blk vb 5 w8 w7.heap.size (List.replicate n 0)) (hb8 : Below w7.heap.size w7 w8) (hgc : w.heap.size ≤ gC) (hs8 : w8.heap.size = w7.heap.size + 1) : Ft1 w (w8.setCell ⟨gC, k, none⟩ (vh (hdr n w7.heap.size))) q n (k + 1) gC T g7 c7 (G ++ [w7.heap.size]) := by
  obtain ⟨m1, m2, m3⟩ := h.mid hA hgr
  have hlm : (G.map (hdr n)).length = k := by rw [List.length_map]; exact h.len
  have hsz7 : ∀ g ∈ G, g < w7.heap.size := fun g hg => by
    obtain ⟨i, hi⟩ := List.mem_iff_getElem?.1 hg
    exact (m2 i g hi).lt
  have m1' := m1.fw hb8
  have hg7 : g7 < w7.heap.size := by
    have := (hown.ownsRow.lt g7 rfl).2
    exact this
  refine ⟨by rw [List.length_append, h.len]; rfl, nodup_snoc' h.nd (fun hm => by have := hsz7 _ hm; omega), fun g hg => ?_, ?_, ?_, ?_, ?_, ((bt m3 hb8).setCell (p := ⟨gC, k, none⟩) hgc _)⟩
  · have e : (w8.setCell ⟨gC, k, none⟩ (vh (hdr n w7.heap.size))).heap.size = w8.heap.size := by simp [World.setCell]
    rw [e, hs8]
    rcases List.mem_append.1 hg with hg | hg
    · have := hsz7 g hg
      exact ⟨(h.lt g hg).1, by omega⟩
    · have := List.mem_singleton.1 hg
      have := m3.size
      omega
  · intro hm
    rcases List.mem_append.1 hm with hm | hm
    · rcases hl with hl | hl
      · have e2 : xg = g7 := by simpa [Value.ownBlock] using hl
        exact h.ap (e2 ▸ hm)
      · have := (h.lt _ hm).2
        have := hA.size
        omega
    · have := List.mem_singleton.1 hm
      omega
  · have e : (T.take (k + 1)).map Prod.fst = (T.take k).map Prod.fst ++ [X] := by
      rw [take_succ_getA ht, List.map_append, ← hX]; rfl
    rw [e, ← List.cons_append]
    exact (hown.fw hb8).otherT (p := ⟨gC, k, none⟩) m1' tt' _
  · have := m1'.set k (hdr n w7.heap.size)
    rw [set_nextA hlm hk] at this
    rw [List.map_append]
    exact this
  · intro i g hg
    by_cases hi2 : i < G.length
    · rw [List.getElem?_append_left hi2] at hg
      exact ((m2 i g hg).fw hb8).other _ _ (((m2 i g hg).fw hb8).ne m1' tt')
    · rw [List.getElem?_append_right (by omega)] at hg
      have hg2 : g = w7.heap.size := by
        rcases Nat.eq_zero_or_pos (i - G.length) with e | e
        · rw [e] at hg; simpa using hg.symm
        · rw [List.getElem?_eq_none (by simp; omega)] at hg; cases hg
      rw [hg2]
      exact h8.other _ _ (h8.ne m1' tt')
/-- .. and in the end. -/
theorem Ft1.mat {w wr : World} {q n gC : Nat} {T : List (Nat × Option Addr × Nat × Nat)} {xg xc : Nat} {G : List Nat} (h : Ft1 w wr q n q gC T xg xc G) (hgc : w.heap.size ≤ gC) (hq : q ≤ 1000) : MatG wr w.heap.size gC G q n fun _ _ => 0 := by
  have hc := h.cs
  rw [Nat.sub_self, List.replicate_zero, List.append_nil] at hc
  have hl : (G.map (hdr n)).length = q := by rw [List.length_map]; exact h.len
  have hown := hc.own (B := w.heap.size) hgc (by rw [hl]; unfold maxLen; omega)
  rw [hl] at hown
  refine ⟨h.nd, fun g hg => (h.lt g hg).1, hown, fun i g hg => ?_⟩
  rw [← mrow_zero]
  exact h.rs i g hg
/-- The column b of the coefficients is that of a polynomial that takes these values. -/
def ColOk (q : Nat) (S xs : List Nat) (D : List (List Nat)) (f : Mat) (b : Nat) : Prop :=
  ∃ p : Poly, p.sz ≤ q + 1 ∧ Poly.Takes p (0 :: xs) (S.getD b 0 :: Sss.col b D) ∧ ∀ i, i < q → f i b = p.cf (i + 1)
/-- What the second loop has made. -/
structure Ft2 (w wr : World) (q n gC : Nat) (G : List Nat) (f : Mat) (xg xc : Nat) (xs : List Nat) : Prop where
  m : MatG wr w.heap.size gC G q n f
  xs : Kin.Own vb w.heap.size 5 wr (some ⟨xg, 0, none⟩) (1 + q) xc (0 :: xs)
  bl : Below w.heap.size w wr
theorem Ft2.fw {w wr w' : World} {q n gC : Nat} {G : List Nat} {f : Mat} {xg xc : Nat} {xs : List Nat} (h : Ft2 w wr q n gC G f xg xc xs) (hb : Below wr.heap.size wr w') : Ft2 w w' q n gC G f xg xc xs := ⟨h.m.fw hb, h.xs.fw hb, bt h.bl hb⟩
theorem iwn9 (m : Nat) (h : m ≤ 1000) : IntKind.i64.wrap (m : Int) = (m : Int) := by rw [IntKind.wrap_i64]; omega
theorem fit_of {q n : Nat} {S xs : List Nat} {D : List (List Nat)} {f : Mat} (hl : xs.length = q) (h : ∀ e, e < n → ColOk q S xs D f e) : FitOk n S xs D (mlist q n f) := by
  refine ⟨by rw [mlist_length, hl], fun l hl => ⟨?_, mlist_byt l hl⟩, fun e he => ?_⟩
  · obtain ⟨i, _, rfl⟩ := List.mem_map.1 hl
    exact mrow_length _ _
  · obtain ⟨p, h1, h2, h3⟩ := h e he
    refine ⟨p, by rw [hl]; exact h1, h2, fun i l hi => ?_⟩
    have hlt : i < q := by
      have := (List.getElem?_eq_some_iff.1 hi).1
      rwa [mlist_length] at this
    rw [mlist_get f hlt] at hi
    cases hi
    rw [List.getD_eq_getElem?_getD, mrow_get _ he, Option.getD_some, Fq.of_val]
    exact h3 i hlt
set_option maxHeartbeats 8000000 in
theorem fits_any (a : Option Addr) (n c : Nat) (S : List Nat) (sa : Option Addr) (q sc : Nat) (T : List (Nat × Option Addr × Nat × Nat)) (D : List (List Nat)) (w : World)
    (hS : Rd vb w a n c S) (hT : RdA vsh 2 w sa q sc T) (hD : ∀ (i : Nat) (x : Nat × Option Addr × Nat × Nat) (d : List Nat), T[i]? = some x → D[i]? = some d → Rd vb w x.2.1 x.2.2.1 x.2.2.2 d)
    (hDl : D.length = q) (hDn : ∀ d ∈ D, d.length = n) (hDb : ∀ d ∈ D, Gf.Byt d) (hSb : Gf.Byt S) (hq : q ≤ 15) (hn : n ≤ 1024) (hx : ∀ x ∈ T.map Prod.fst, 1 ≤ x ∧ x ≤ 255) (hnd : (T.map Prod.fst).Nodup) :
    Calls Try.prog 7 #[.slice a n c, .slice sa q sc, .int .i64 ((q : Int) + 1)] w fun e w' => ∃ o L, e = .returned (.tuple #[.slice (some ⟨o, 0, none⟩) q q, .int .i64 0]) ∧ RdM w' (some ⟨o, 0, none⟩) q q L ∧ FitOk n S (T.map Prod.fst) D L ∧ Below w.heap.size w w' := by
  obtain ⟨i0, hi, hz0, hz1, hz2⟩ := info_parts info5
  obtain ⟨iH, hi1, hy0, hy1, hy2⟩ := info_parts infoH
  have u0 := Try.underlying23
  have u1 := Try.underlying30
  have hTl := Lib.hid hT.1
  have hTn : Hid (∀ x ∈ T, x.2.2.1 = n) := fun x hx => by
    obtain ⟨i, hi⟩ := List.mem_iff_getElem?.1 hx
    have hd := List.getElem?_eq_getElem (show i < D.length by have := (List.getElem?_eq_some_iff.1 hi).1; rw [hDl, ← hT.1]; exact this)
    rw [← (hD i x _ hi hd).len]
    exact hDn _ (List.mem_of_getElem? hd)
  have HS := Lib.hid hS; have HT := Lib.hid hT; have HD := Lib.hid hD
  have j1 : ((q : Int) + 1 - 1) = (q : Int) := by omega
  have j2 : ¬ ((1024 : Int) < (n : Int)) := by omega
  have hSmax := hS.cap
  have hSm2 := hS.max
  unfold maxLen at hSm2
  have hTc := hT.2.1
  have hTm := hT.2.2.1
  unfold maxLen at hTm
  clear hS hT hD
  go_enter Try.func7, Try.ntmps7
  go_wp2_with (first
    | (go_at_call 25; refine (validShares_any sa q sc n T _ HT.out (by omega) hn hTn.out hx hnd).mono ?_; rintro e w1 ⟨rfl, hb1⟩; have B1 := Lib.hid hb1; clear hb1)
    | (go_at_call 26; refine (validT_any ((q : Int) + 1) (by omega) (by omega) _).mono ?_; rintro e w1' ⟨rfl, hw'⟩; obtain rfl : w1 = w1' := hw'.symm)
    | (at_make; refine wpList_make_blk rfl (.tmp 42) (.tmp 42) 30 rfl vh (none, 0, 0) 23 iH u1 hi1 hy0 hy1 rfl _ _ _ _ q rfl rfl rfl rfl (by rw [hy2]; omega) (by omega) ?_; intro w2 hk2 hb2 hs2; have HK2 := Lib.hid hk2; have HB2 := Lib.hid hb2; have HS2 := Lib.hid hs2; clear hk2 hb2 hs2)
    | fail)
  have F0 : Hid (Ft1 w w2 q n 0 (w1.heap.size + 1) T w1.heap.size 1 []) := by
    have bA := (Below.refl w1.heap.size w1).alloc (Nat.le_refl _) (.cells #[.int .u8 0] 5)
    have hb := B1.out.size
    have hx0 : Kin.Own vb w.heap.size 5 (w1.alloc (.cells #[.int .u8 0] 5)) (some ⟨w1.heap.size, 0, none⟩) 1 1 [0] := (blk_new vb 5 w1 [0]).own (B := w.heap.size) hb (by simp [maxLen])
    refine ⟨rfl, List.nodup_nil, fun g hg => absurd hg List.not_mem_nil, List.not_mem_nil, hx0.fw HB2.out, ?_, fun i g h => by simp at h, bt (bt B1.out bA) HB2.out⟩
    have := HK2.out
    rw [World.size_alloc] at this
    exact this
  have HGC : Hid (w.heap.size < w1.heap.size + 1) := by have := B1.out.size; show _ < _; omega
  have hs2 := HS2.out
  rw [World.size_alloc] at hs2
  clear HK2 HB2 HS2 B1
  obtain ⟨gC, hgC⟩ : ∃ gC, gC = w1.heap.size + 1 := ⟨_, rfl⟩
  obtain ⟨g1, hg1⟩ : ∃ g1, g1 = w1.heap.size := ⟨_, rfl⟩
  try simp only [World.size_alloc]
  rw [← hgC] at F0 HGC
  try rw [← hgC]
  rw [← hg1] at F0
  try rw [← hg1]
  clear hg1 hgC hs2
  go_loopw [8, 46] (fun xv i wr => ∃ (k xg xc : Nat) (G : List Nat), k ≤ q ∧ i = .int .i64 (k : Int) ∧ xv = .slice (some ⟨xg, 0, none⟩) (1 + k) xc ∧ Hid (Ft1 w wr q n k gC T xg xc G)) (fun _ i _ => q - (intOf i).toNat)
  case atStart => exact ⟨0, _, _, [], by omega, rfl, rfl, F0⟩
  case round =>
    obtain ⟨k, xg, xc, G, hk, rfl, rfl, HF⟩ := hrel
    by_cases hlt : k < q
    · have i2 : (k : Int) < (q : Int) := by omega
      obtain ⟨⟨X, da, dn, dc⟩, hTk⟩ : ∃ t, T[k]? = some t := ⟨_, List.getElem?_eq_getElem (by rw [hTl.out]; exact hlt)⟩
      have HBr := Lib.hid HF.out.bl
      obtain ⟨b, o, rfl, c0, c1⟩ := RdA.sh (HT.out.fw HBr.out) hTk
      obtain rfl : dn = n := hTn.out _ (List.mem_of_getElem? hTk)
      obtain ⟨x1, x2⟩ := hx X (List.mem_map_of_mem (List.mem_of_getElem? hTk))
      dsimp only at c0 c1
      have HTK := Lib.hid hTk
      clear hTk
      have hba := below_alloc (.cells #[.int .i64 (X : Int), .slice da dn dc] 52) (below_refl wr)
      have hnew := heap_alloc_new wr (.cells #[.int .i64 (X : Int), .slice da dn dc] 52)
      have f0 := cell_of_row _ wr.heap.size 0 _ _ _ hnew
      have f1 := cell_of_row _ wr.heap.size 1 _ _ _ hnew
      have hbb := below_alloc (.cells #[.int .u8 (X : Int)] 5) hba
      have O8 := Lib.hid (HF.out.xs.fw hbb)
      have BB := Lib.hid hbb
      have N8 : Hid (((wr.alloc (.cells #[.int .i64 (X : Int), .slice da dn dc] 52)).alloc (.cells #[.int .u8 (X : Int)] 5)).heap[wr.heap.size + 1]? = some (.cells #[vb X] 5 (0, 0))) := by
        have := heap_alloc_new (wr.alloc (.cells #[.int .i64 (X : Int), .slice da dn dc] 52)) (.cells #[.int .u8 (X : Int)] 5)
        rw [World.size_alloc] at this
        exact this
      clear hba hnew hbb
      go_wp2_with (first
        | (at_builtin; refine wpList_pushL rfl (.tmp 57) (.tmp 61) 23 rfl vb vb_one w.heap.size 5 i0 (vb 0) 1 u0 hi hz0 hz1 hz2 rfl (some ⟨xg, 0, none⟩) (1 + k) xc _ rfl O8.out (wr.heap.size + 1) X 5 (0, 0) rfl N8.out (by omega) (by omega) (bt HBr.out BB.out).size ?_; intro g7 c7 w7 hown hgr hl; have HOW := Lib.hid hown; have HGR := Lib.hid hgr; have HL := Lib.hid hl; clear hown hgr hl)
        | (at_make; refine wpList_make_blk rfl (.tmp 66) (.tmp 66) 23 rfl vb 0 5 i0 u0 hi hz0 hz1 rfl _ _ _ _ dn rfl rfl rfl rfl (by rw [hz2]; omega) (by omega) ?_; intro w8 hk8 hb8 hs8; have HK8 := Lib.hid hk8; have HB8 := Lib.hid hb8; have HS8 := Lib.hid hs8
           have hC8 := (HF.out.mid BB.out HGR.out).1.fw hb8
           have d8 := hC8.cell (get_nextA (show (G.map (hdr dn)).length = k by rw [List.length_map]; exact HF.out.len) hlt); have f8 := hC8.frozen k; unfold vh at d8; clear hk8 hb8 hs8 hC8)
        | fail)
      go_roundw
      case rel => exact ⟨k + 1, g7, c7, _, by omega, by go_num, rfl, HF.out.step BB.out HGR.out hlt HTK.out rfl HOW.out HL.out HK8.out HB8.out (Nat.le_of_lt HGC.out) HS8.out⟩
      case measure => simp [intOf]; omega
    · obtain rfl : k = q := by omega
      have F2 : Hid (Ft2 w wr k n gC G (fun _ _ => 0) xg xc (T.map Prod.fst)) := by
        have h := HF.out.xs
        rw [List.take_of_length_le (by rw [hTl.out]; exact Nat.le_refl _)] at h
        exact ⟨HF.out.mat (Nat.le_of_lt HGC.out) (by omega), h, HF.out.bl⟩
      have HAP := Lib.hid HF.out.ap
      clear HF
      go_wp2_with fail
      rename World => wo
      go_loopw [72] (fun i wr => ∃ (b : Nat) (f : Mat), b ≤ n ∧ i = .int .i64 (b : Int) ∧ Hid (Ft2 w wr k n gC G f xg xc (T.map Prod.fst)) ∧ Hid (∀ e, e < b → ColOk k S (T.map Prod.fst) D f e) ∧ Hid (∀ i e, b ≤ e → f i e = 0)) (fun i _ => n - (intOf i).toNat)
      case atStart => exact ⟨0, _, by omega, rfl, F2, fun e he => absurd he (by omega), fun _ _ _ => rfl⟩
      case round =>
        obtain ⟨b, f, hb, rfl, HF, HC, HZ⟩ := hrel
        by_cases hlb : b < n
        · have i3 : (b : Int) < (n : Int) := by omega
          obtain ⟨s, hs⟩ : ∃ s, S[b]? = some s := ⟨_, List.getElem?_eq_getElem (by rw [HS.out.len]; exact hlb)⟩
          obtain ⟨ab, ao, rfl, c0⟩ := (HS.out.fw HF.out.bl).cell b s hs
          unfold vb at c0
          have hsb := hSb.at hs
          have Y0 : Hid (Kin.Own vb wr.heap.size 5 (wr.alloc (.cells #[.int .u8 (s : Int)] 5)) (some ⟨wr.heap.size, 0, none⟩) 1 1 [s]) := (blk_new vb 5 wr [s]).own (B := wr.heap.size) (Nat.le_refl _) (by simp [maxLen])
          have HSB : Hid (S.getD b 0 = s) := by show _ = _; rw [List.getD_eq_getElem?_getD, hs]; rfl
          clear hs
          go_wp2_with fail
          rename World => wp
          go_loopw [14, 81] (fun yv i wr => ∃ (j yg yc : Nat), j ≤ k ∧ i = .int .i64 (j : Int) ∧ yv = .slice (some ⟨yg, 0, none⟩) (1 + j) yc ∧ Hid (Kin.Own vb wp.heap.size 5 wr (some ⟨yg, 0, none⟩) (1 + j) yc (s :: (Sss.col b D).take j)) ∧ Hid (Below wp.heap.size wp wr)) (fun _ i _ => k - (intOf i).toNat)
          case atStart => exact ⟨0, _, _, by omega, rfl, rfl, Y0, (Below.refl _ _).alloc (Nat.le_refl _) _⟩
          case round =>
            obtain ⟨j, yg, yc, hj, rfl, rfl, HY, HB⟩ := hrel
            by_cases hlj : j < k
            · have i4 : (j : Int) < (k : Int) := by omega
              obtain ⟨⟨X, da, dn, dc⟩, hTj⟩ : ∃ t, T[j]? = some t := ⟨_, List.getElem?_eq_getElem (by rw [hTl.out]; exact hlj)⟩
              obtain ⟨d, hDj⟩ : ∃ d, D[j]? = some d := ⟨_, List.getElem?_eq_getElem (by rw [hDl]; exact hlj)⟩
              have hbt := bt HF.out.bl HB.out
              obtain ⟨tb, to_, rfl, c1, c2⟩ := RdA.sh (HT.out.fw hbt) hTj
              obtain rfl : dn = n := hTn.out _ (List.mem_of_getElem? hTj)
              obtain ⟨y, hy⟩ : ∃ y, d[b]? = some y := ⟨_, List.getElem?_eq_getElem (by rw [hDn d (List.mem_of_getElem? hDj)]; exact hlb)⟩
              have hdr := (HD.out j _ d hTj hDj).fw hbt
              dsimp only at c1 c2 hdr
              obtain ⟨eb, eo, rfl, c3⟩ := hdr.cell b y hy
              unfold vb at c3
              have hdcap := hdr.cap
              have hdmax := hdr.max
              unfold maxLen at hdmax
              have hyb := (hDb d (List.mem_of_getElem? hDj)).at hy
              have HCJ : Hid ((Sss.col b D)[j]? = some y) := by
                show _ = _
                rw [Sss.col_get hDj, List.getD_eq_getElem?_getD, hy]; rfl
              have hba := below_alloc (.cells #[.int .i64 (X : Int), .slice (some ⟨eb, eo, none⟩) dn dc] 52) (below_refl wr)
              have hnew := heap_alloc_new wr (.cells #[.int .i64 (X : Int), .slice (some ⟨eb, eo, none⟩) dn dc] 52)
              have f0 := cell_of_row _ wr.heap.size 0 _ _ _ hnew
              have f1 := cell_of_row _ wr.heap.size 1 _ _ _ hnew
              have c4 := (cellBelow hba (lt_of_cell c3)).trans c3
              have hbb := below_alloc (.cells #[.int .u8 (y : Int)] 5) hba
              have O8 := Lib.hid (HY.out.fw hbb)
              have BB := Lib.hid (bt HB.out hbb)
              have N8 : Hid (((wr.alloc (.cells #[.int .i64 (X : Int), .slice (some ⟨eb, eo, none⟩) dn dc] 52)).alloc (.cells #[.int .u8 (y : Int)] 5)).heap[wr.heap.size + 1]? = some (.cells #[vb y] 5 (0, 0))) := by
                have := heap_alloc_new (wr.alloc (.cells #[.int .i64 (X : Int), .slice (some ⟨eb, eo, none⟩) dn dc] 52)) (.cells #[.int .u8 (y : Int)] 5)
                rw [World.size_alloc] at this
                exact this
              clear hba hnew hbb hdr hbt hTj hDj hy
              go_wp2_with (first
                | (at_builtin; refine wpList_pushL rfl (.tmp 85) (.tmp 91) 23 rfl vb vb_one wp.heap.size 5 i0 (vb 0) 1 u0 hi hz0 hz1 hz2 rfl (some ⟨yg, 0, none⟩) (1 + j) yc _ rfl O8.out (wr.heap.size + 1) y 5 (0, 0) rfl N8.out (by omega) (by omega) BB.out.size ?_; intro g7 c7 w7 hown hgr hl; have HOW := Lib.hid hown; have HB7 := Lib.hid (BB.out.grown hgr BB.out.size fun y hy => (O8.out.ownsRow.lt y hy).1); clear hown hgr hl)
                | fail)
              go_roundw
              case rel =>
                refine ⟨j + 1, g7, c7, by omega, by go_num, rfl, ?_, HB7.out⟩
                show Kin.Own _ _ _ _ _ _ _ (s :: (Sss.col b D).take (j + 1))
                rw [take_succ_getA HCJ.out, ← List.cons_append]
                exact HOW.out
              case measure => simp [intOf]; omega
            · obtain rfl : j = k := by omega
              have HF3 := Lib.hid (HF.out.fw HB.out)
              have RX := Lib.hid HF3.out.xs.rd
              have RY : Hid (Rd vb wr (some ⟨yg, 0, none⟩) (1 + j) yc (s :: Sss.col b D)) := by
                have h := HY.out.rd
                rw [List.take_of_length_le (by rw [Sss.col, List.length_map, hDl]; exact Nat.le_refl _)] at h
                exact h
              have hxb : Gf.Byt (0 :: T.map Prod.fst) := fun z hz => by
                rcases List.mem_cons.1 hz with rfl | hz
                · omega
                · have := hx z hz; omega
              have hyb : Gf.Byt (s :: Sss.col b D) := fun z hz => by
                rcases List.mem_cons.1 hz with rfl | hz
                · exact hsb
                · obtain ⟨d, hd, rfl⟩ := List.mem_map.1 hz
                  exact (hDb d hd).getD b
              have hnd0 : (0 :: T.map Prod.fst).Nodup := List.nodup_cons.2 ⟨fun h => by have := hx 0 h; omega, hnd⟩
              have HNX := Lib.hid hxb; have HNY := Lib.hid hyb; have HN0 := Lib.hid hnd0
              clear hxb hyb hnd0
              go_wp2_with (first
                | (go_at_call 27; refine (interp_any (some ⟨xg, 0, none⟩) (some ⟨yg, 0, none⟩) (1 + j) xc yc _ _ wr RX.out RY.out HNX.out HNY.out (by omega)).mono ?_; intro e w5 hr; obtain ⟨p, hsz, htk, gp, rfl, hgp, hG, hb5⟩ := hr.2 HN0.out
                   rw [List.length_cons, List.length_map, hTl.out] at hsz; have HSZ := Lib.hid hsz; have HTK := Lib.hid htk; have HGP := Lib.hid hgp; have HPB := Lib.hid hG; have HB5 := Lib.hid hb5; clear hr hsz htk hgp hG hb5)
                | fail)
              have HGG : Hid (∀ g ∈ G, g ≠ gp) := fun g hg e => by
                have h1 := HF3.out.m.lt g hg
                have := HGP.out
                omega
              have HF5 : Hid (Ft2 w w5 j n gC G (fun i e => if e = b then (if i < 0 then p.cf (i + 1) else 0) else f i e) xg xc (T.map Prod.fst)) := by
                have h := HF3.out.fw HB5.out
                refine ⟨h.m.congr fun i e _ _ => ?_, h.xs, h.bl⟩
                by_cases h1 : e = b
                · rw [if_pos h1, if_neg (by omega), h1]
                  exact HZ.out i b (Nat.le_refl _)
                · rw [if_neg h1]
              have hol : (Poly.out p).length = p.sz := Poly.out_length p
              have HOL := Lib.hid hol
              rw [hol]
              clear hol HF3
              rename World => wq
              go_loopw [19] (fun i wr => ∃ (m : Nat), m ≤ p.sz - 1 ∧ i = .int .i64 ((m : Int) + 1) ∧ Hid (Ft2 w wr j n gC G (fun i e => if e = b then (if i < m then p.cf (i + 1) else 0) else f i e) xg xc (T.map Prod.fst)) ∧ Hid (Blk vb 5 wr gp (Poly.out p))) (fun i _ => p.sz - (intOf i).toNat)
              case atStart => exact ⟨0, by omega, rfl, HF5, HPB⟩
              case round =>
                obtain ⟨m, hm, rfl, HM, HP⟩ := hrel
                by_cases hlm : m + 1 < p.sz
                · have i4 : ((m : Int) + 1) < (p.sz : Int) := by omega
                  have HSZ2 := HSZ.out
                  have i5 : (m : Int) < (j : Int) := by omega
                  have i6 : (0 : Int) ≤ (m : Int) + 1 := by omega
                  have e9 : IntKind.i64.wrap (m : Int) = (m : Int) := iwn9 m (by omega)
                  obtain ⟨g, hg1, hg2, c1, hK, hset⟩ := HM.out.m.at (show m < j by omega)
                  have c2 := hK.cell (mrow_get _ hlb)
                  have f2 := hK.frozen b
                  have c3 := HP.out.cell (i := m + 1) (x := (p.cf (m + 1)).n) (Poly.out_get hlm)
                  have HS8 := Lib.hid (hset b (p.cf (m + 1)).n (p.cf (m + 1)).h)
                  have HG1 := Lib.hid hg1; have HG2 := Lib.hid hg2
                  unfold vb at c2 c3
                  clear hK hset hg1 hg2
                  go_wp2_with fail
                  go_still_tail 11, (by kernel_rfl)
                  change wpList _ _ _ _ _ wr.drew
                  go_wp2_with fail
                  go_roundw
                  case rel =>
                    refine ⟨m + 1, by omega, by go_num, ?_, ?_⟩
                    · refine (Ft2.mk (HS8.out.congr fun i e _ _ => ?_) (Own.apart HM.out.xs (p := ⟨g, b, none⟩) (fun x hx => ?_) _) (HM.out.bl.setCell (p := ⟨g, b, none⟩) HG2.out _)).fw (Below.refl _ _).drew
                      · unfold setEl
                        by_cases h1 : e = b
                        · by_cases h2 : i = m
                          · rw [if_pos ⟨h2, h1⟩, if_pos h1, if_pos (by omega), Fq.of_val, h2]
                          · rw [if_neg (fun h => h2 h.1), if_pos h1]
                            show (if e = b then _ else _) = _
                            rw [if_pos h1]
                            by_cases h3 : i < m
                            · rw [if_pos h3, if_pos (by omega)]
                            · rw [if_neg h3, if_neg (by omega)]
                        · rw [if_neg (fun h => h1 h.2), if_neg h1]
                          show (if e = b then _ else _) = _
                          rw [if_neg h1]
                      · cases hx
                        exact fun e => HAP.out (show xg ∈ G from (show xg = g from e) ▸ HG1.out)
                    · exact (HP.out.other ⟨g, b, none⟩ _ (HGG.out g HG1.out).symm).fw (Below.refl _ _).drew
                  case measure => simp [intOf]; omega
                · have i4 : ¬ (((m : Int) + 1) < (p.sz : Int)) := by omega
                  have HC2 : Hid (∀ e, e < b + 1 → ColOk j S (T.map Prod.fst) D (fun i e => if e = b then (if i < m then p.cf (i + 1) else 0) else f i e) e) := fun e he => by
                    by_cases h1 : e = b
                    · refine ⟨p, HSZ.out, ?_, fun i hi => ?_⟩
                      · rw [h1, HSB.out]; exact HTK.out
                      · show (if e = b then _ else _) = _
                        rw [if_pos h1]
                        by_cases h2 : i < m
                        · rw [if_pos h2]
                        · rw [if_neg h2, Poly.cf_of_ge (by omega)]
                    · obtain ⟨p', h2, h3, h4⟩ := HC.out e (by omega)
                      refine ⟨p', h2, h3, fun i hi => ?_⟩
                      show (if e = b then _ else _) = _
                      rw [if_neg h1]
                      exact h4 i hi
                  have HZ2 : Hid (∀ i e, b + 1 ≤ e → (if e = b then (if i < m then p.cf (i + 1) else 0) else f i e) = 0) := fun i e he => by
                    rw [if_neg (by omega)]
                    exact HZ.out i e (by omega)
                  go_wp2_with fail
                  go_roundw
                  case rel => exact ⟨b + 1, _, by omega, by go_num, HM.out, HC2.out, HZ2.out⟩
                  case measure => simp [intOf]; omega
        · obtain rfl : b = n := by omega
          go_wp2_with fail
          go_ret2
          exact ⟨gC, _, rfl, HF.out.m.b.rdm (by omega), fit_of (by rw [List.length_map, hTl.out]) HC.out, HF.out.bl⟩
end Go.Proofs.Ytioiaiifkfopnaa
