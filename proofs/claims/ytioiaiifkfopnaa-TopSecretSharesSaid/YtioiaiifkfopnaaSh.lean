/- keyring.Shares. -/
import Derived.Test.YtioiaiifkfopnaaTs
namespace Go.Proofs.Ytioiaiifkfopnaa
open Go.RowKit Go.Kin Go.Shelf
set_option linter.unusedVariables false
attribute [local go_sem] Oper.semAt_some
set_option maxRecDepth 100000
set_option maxHeartbeats 4000000
theorem own_bge {α : Type} {f : α → Value} {B : Nat} {E : TypeId} {w : World} {a : Option Addr} {n c : Nat} {l : List α} (h : Kin.Own f B E w a n c l) {x : Addr} (hx : a = some x) : B ≤ x.block := (h.ownsRow.lt x.block (by rw [hx]; rfl)).1
theorem Rd.putN {α : Type} {f : α → Value} {W : World} {a : Option Addr} {n c : Nat} {l : List α} (h : Rd f W a n c l) {D : Nat} {o : Obj} (o' : Obj) (hD : W.heap[D]? = some o) (ho : o.isCells = false) : Rd f (W.putObj D o') a n c l :=
  ⟨h.len, h.cap, h.max, h.none0, fun i x hx => by
    obtain ⟨b, q, ha, hc⟩ := h.cell i x hx
    exact ⟨b, q, ha, cell_kept hc (grownBy_putObj' W D o') (fun r e => by cases e; exact ⟨_, hD, ho⟩)⟩⟩
theorem RdA.putN {α : Type} {f : α → List Value} {s : Nat} {W : World} {a : Option Addr} {n c : Nat} {l : List α} (h : RdA f s W a n c l) {D : Nat} {o : Obj} (o' : Obj) (hD : W.heap[D]? = some o) (ho : o.isCells = false) : RdA f s (W.putObj D o') a n c l :=
  ⟨h.1, h.2.1, h.2.2.1, fun i x hx => by
    obtain ⟨b, q, ha, hc⟩ := h.2.2.2 i x hx
    exact ⟨b, q, ha, fun k v hk => cell_kept (hc k v hk) (grownBy_putObj' W D o') (fun r e => by cases e; exact ⟨_, hD, ho⟩)⟩⟩
theorem part_rd {w : World} {b : Option Addr} {m d cb co : Nat} {cs : List Nat} (h : Rd vb w b (32 * m) d cs) (hb : b = some ⟨cb, co, none⟩) {i : Nat} (hi : i < m) : Rd vb w (some ⟨cb, co + 32 * i, none⟩) 32 32 ((cs.drop (32 * i)).take 32) := by
  have hl := h.len
  refine ⟨by rw [List.length_take, List.length_drop]; omega, Nat.le_refl _, by simp [maxLen], fun e => (by cases e), fun j x hx => ⟨cb, co + 32 * i, rfl, ?_⟩⟩
  rw [List.getElem?_take] at hx
  split at hx
  · rw [List.getElem?_drop] at hx
    obtain ⟨b', o', e, hc⟩ := h.cell _ _ hx
    rw [hb] at e
    cases e
    rw [Nat.add_assoc]
    exact hc
  · cases hx
/-- What keyring.Shares returns. -/
def ShOk (w : World) (M : List Nat) (t q : Nat) (ds cs : List Nat) (e : Ending) (w' : World) : Prop :=
  ∃ (sa : Option Addr) (sc : Nat) (T : List (Nat × Option Addr × Nat × Nat)), e = .returned (.tuple #[.slice sa q sc, .int .i64 0]) ∧ RdA vsh 2 w' sa q sc T ∧ T.map Prod.fst = ds.map (· + 1) ∧
    (∀ x ∈ T, Rd vb w' x.2.1 x.2.2.1 x.2.2.2 (evR x.1 32 (M :: Sss.rows (t - 1) cs))) ∧ Below w.heap.size w w'
theorem xs_ok {ds : List Nat} (hd : ∀ x ∈ ds, x < 12) : ∀ x ∈ ds.map (· + 1), 1 ≤ x ∧ x ≤ 255 := fun x hx => by
  obtain ⟨y, hy, rfl⟩ := List.mem_map.1 hx
  have := hd y hy
  omega
theorem xs_nodup {ds : List Nat} (h : ds.Nodup) : (ds.map (· + 1)).Nodup := List.Pairwise.map _ (fun a b hab e => hab (by omega)) h
theorem infoN : (Try.prog.info? 3).map (fun i => (i.zero, i.size, i.bytes)) = some (some (.int .i64 0), 1, 8) := by kernel_rfl
theorem shares_any (ms : ByteArray) (hms : ms.size = 32) (t : Nat) (ht1 : 1 ≤ t) (ht2 : t ≤ 5) (a : Option Addr) (q c : Nat) (ds : List Nat) (b : Option Addr) (d : Nat) (cs : List Nat) (w : World)
    (hD : Rd vn w a q c ds) (hq : q ≤ 12) (htq : t ≤ q) (hd : ∀ x ∈ ds, x < 12) (hnd : ds.Nodup) (hC : Rd vb w b (32 * (t - 1)) d cs) (hcb : Gf.Byt cs) :
    Calls Try.prog 6 #[.string ms, .int .i64 (t : Int), .slice a q c, .slice b (32 * (t - 1)) d] w (ShOk w (bl ms) t q ds cs) := by
  obtain ⟨i0, hi, hz0, hz1, hz2⟩ := info_parts infoN
  have u0 := Try.underlying22
  obtain ⟨iH, hi1, hy0, hy1, hy2⟩ := info_parts infoH
  have u1 := Try.underlying30
  have HD := Lib.hid hD; have HC := Lib.hid hC
  have hms2 : ((ms.size : Nat) : Int) = 32 := by omega
  have i1 : ¬ ((t : Int) < 1) := by omega
  have i2 : ¬ (12 < (t : Int)) := by omega
  clear hD hC
  refine (callsIn_wide (n := 5)).1 ?_
  refine callsIn_of_wp_marks Try.func6 rfl trivial ?_ rfl
  simp only [Try.ntmps6, List.size_toArray, List.length_cons, List.length_nil, Nat.reduceAdd, Nat.reduceSub, Array.replicate_succ, Array.replicate_zero, List.push_toArray, List.append_toArray, List.nil_append, List.cons_append]
  gi_wp2
  gi_loopw [10, 11, 12, 28] (fun xv _ _ i wr => ∃ (k : Nat) (xa : Option Addr) (xc : Nat), k ≤ q ∧ i = .int .i64 (k : Int) ∧ xv = .slice xa k xc ∧ Hid (Kin.Own vn w.heap.size 3 wr xa k xc ((ds.take k).map (· + 1))) ∧ Hid (Below w.heap.size w wr)) (fun _ _ _ i _ => q - (intOf i).toNat)
  case atStart => exact ⟨0, none, 0, Nat.zero_le _, rfl, rfl, ⟨rfl, .inl ⟨rfl, rfl, rfl⟩⟩, Below.refl _ _⟩
  case round =>
    obtain ⟨k, xa, xc, hk, rfl, rfl, HO, HB⟩ := hrel
    by_cases hlt : k < q
    · obtain ⟨x, hxx⟩ : ∃ x, ds[k]? = some x := ⟨_, List.getElem?_eq_getElem (by rw [HD.out.len]; omega)⟩
      obtain ⟨o1, o2, rfl, c1⟩ := (HD.out.fw HB.out).cell k x hxx
      have hx := hd x (List.mem_of_getElem? hxx)
      have HXX := Lib.hid hxx; clear hxx
      unfold vn at c1
      have j1 : (k : Int) < (q : Int) := by omega
      have j2 : ¬ ((x : Int) < 0) := by omega
      have j3 : ¬ (12 ≤ (x : Int)) := by omega
      have hcap := HD.out.cap
      have hmax := HD.out.max
      unfold maxLen at hmax
      have j4 : (k : Int) ≤ (c : Int) := by omega
      have hnot : Hid (x ∉ ds.take k) := fun hm => by
        have h2 := hnd.sublist (List.take_sublist (k + 1) ds)
        rw [take_succ_get HXX.out, List.nodup_append] at h2
        exact h2.2.2 x hm x (by simp) rfl
      have HTk := Lib.hid ((HD.out.fw HB.out).take (show k ≤ q by omega))
      have hw1 : wrap64 ((x : Int) + 1) = (x : Int) + 1 := by unfold wrap64; omega
      have OA := Lib.hid (HO.out.fw ((Below.refl wr.heap.size wr).alloc (Nat.le_refl _) (.cells #[.int .i64 ((x : Int) + 1)] 3)))
      have BA := Lib.hid (HB.out.alloc HB.out.size (.cells #[.int .i64 ((x : Int) + 1)] 3))
      have N1 : Hid (Rd vn (wr.alloc (.cells #[.int .i64 ((x : Int) + 1)] 3)) (some ⟨wr.heap.size, 0, none⟩) 1 1 [x + 1]) := rd_new vn 3 wr [x + 1] (n := 1) rfl (by omega)
      gi_wp2_with (first
        | (refine ⟨trivial, ?_⟩; gi_at_call 22; refine (callsIn_wide.2 (contains_not _ k c _ x _ HTk.out (by omega) hnot.out)).mono ?_; rintro e w' ⟨rfl, hw'⟩; obtain rfl : wr = w' := hw'.symm)
        | (gi_at_builtin; refine wpListIn_append_rd rfl (.tmp 46) (.tmp 49) 22 rfl vn (fun _ => rfl) w.heap.size 3 i0 (.int .i64 0) 8 u0 hi hz0 hz1 hz2 rfl xa k xc _ rfl OA.out ⟨wr.heap.size, 0, none⟩ 1 1 [x + 1] rfl N1.out (by unfold maxLen; omega) (by omega) BA.out.size ?_; intro sa' c' w7 hown hgr)
        | fail)
      refine ⟨⟨k + 1, sa', c', by omega, rfl, rfl, ?_, ?_⟩, by simp [intOf]; omega⟩
      · show Kin.Own vn w.heap.size 3 w7 sa' (k + 1) c' (List.map (· + 1) (ds.take (k + 1)))
        rw [take_succ_get HXX.out, List.map_append]
        exact hown
      · exact BA.out.grown hgr BA.out.size fun y hy => (OA.out.ownsRow.lt y hy).1
    · obtain rfl : k = q := by omega
      have k1 : ¬ ((k : Int) < (t : Int)) := by omega
      have k2 : (((32 * (t - 1) : Nat)) : Int) = 32 * ((t : Int) - 1) := by omega
      gi_wp2_with (refine ⟨trivial, ?_⟩; gi_at_call 23; refine (chunk_in Fence.wide _ trivial rfl _ _ _ _).mono ?_; rintro e w' ⟨rfl, rfl⟩)
      obtain ⟨cb, co, hb⟩ : ∃ cb co, b = some ⟨cb, co, none⟩ ∨ t - 1 = 0 := by
        by_cases h0 : t - 1 = 0
        · exact ⟨0, 0, .inr h0⟩
        · obtain ⟨cb, co, e, _⟩ := HC.out.cell 0 _ (List.getElem?_eq_getElem (show 0 < cs.length by rw [HC.out.len]; omega))
          exact ⟨cb, co, .inl e⟩
      have hccap := HC.out.cap
      have hcmax := HC.out.max
      unfold maxLen at hcmax
      have bV := Boxed.new wr 30 (.slice none 0 0)
      have bS := Boxed.new (wr.alloc (.cells #[.slice none 0 0] 30)) 23 (.slice b (32 * (t - 1)) d)
      rw [World.size_alloc] at bS
      have bN := Boxed.new ((wr.alloc (.cells #[.slice none 0 0] 30)).alloc (.cells #[.slice b (32 * (t - 1)) d] 23)) 3 (.int .i64 32)
      rw [World.size_alloc, World.size_alloc] at bN
      have hB3 : Below wr.heap.size wr (((wr.alloc (.cells #[.slice none 0 0] 30)).alloc (.cells #[.slice b (32 * (t - 1)) d] 23)).alloc (.cells #[.int .i64 32] 3)) := (((Below.refl _ wr).alloc (Nat.le_refl _) _).alloc (by simp) _).alloc (by simp; omega) _
      refine wpIn_rangeFunc_ownG rfl (by omega) (gf := 43) (lb := #[.pointer (some ⟨wr.heap.size + 1, 0, none⟩), .pointer (some ⟨wr.heap.size + 1 + 1, 0, none⟩)]) rfl trivial (enters_of Try.func43 (by kernel_rfl) rfl)
        (chunk_stops Fence.wide _ trivial rfl (by omega) (wr.heap.size + 1) (wr.heap.size + 1 + 1) cb co (t - 1) d b (by omega) hb hccap (by omega) _ (by simp) (by simp) (bS.alloc _).cell bN.cell) KeepS.trans (keepS_b (by rintro k (rfl | rfl) <;> simp)) (Below.refl _ _) (fun _ => rfl)
        (fun pre W => (∃ (la : Option Addr) (lc : Nat), Boxed W wr.heap.size 30 (.slice la pre.length lc) ∧ Kin.Own vh (wr.heap.size + 3) 23 W la pre.length lc (pre.map fun x => (some ⟨cb, co + 32 * x, none⟩, 32, 32))) ∧ Below wr.heap.size (((wr.alloc (.cells #[.slice none 0 0] 30)).alloc (.cells #[.slice b (32 * (t - 1)) d] 23)).alloc (.cells #[.int .i64 32] 3)) W)
        (fun _ _ _ => False) ?hI (fun _ _ _ _ _ hs _ _ => hs) ?h0 ?a1 ?assign ?body ?done ?stop
      case hI =>
        refine OwnFrom.and (Own.from (fun s A C row hs hg hr => ?_) _) (ownFrom_below (by simp; omega) (by simp; omega))
        obtain ⟨la, lc, h1, h3⟩ := hs
        refine ⟨la, lc, h1.kept hg (fun e' => ?_), Kin.Own.same h3 fun x hx => ?_⟩
        · obtain ⟨o, ho, hc⟩ := hr _ e'.symm
          rw [show A.heap[_]? = _ from h1] at ho; cases ho; cases hc
        · obtain ⟨cur, hcu⟩ := Kin.Own.typ h3 hx
          exact grownBy_keeps_cells hg hr hcu rfl
      case h0 => exact ⟨⟨none, 0, (bV.alloc _).alloc _, ⟨rfl, .inl ⟨rfl, rfl, rfl⟩⟩⟩, Below.refl _ _⟩
      case assign =>
        intro l y W K hK
        gi_wp2
        exact hK
      case body =>
        rintro l pre y W ⟨⟨la, lc, h1, h3⟩, hbe⟩ hlen
        have hsz := hbe.size
        simp only [World.size_alloc] at hsz
        have hc1 := h1.cell
        have bW : Below W.heap.size W (W.alloc (.cells #[.slice (some ⟨cb, co + 32 * y, none⟩) 32 32] 23)) := (Below.refl _ _).alloc (Nat.le_refl _) _
        have O1 := Lib.hid (h3.fw bW)
        have N2 : Hid (Rd vh (W.alloc (.cells #[.slice (some ⟨cb, co + 32 * y, none⟩) 32 32] 23)) (some ⟨W.heap.size, 0, none⟩) 1 1 [(some ⟨cb, co + 32 * y, none⟩, 32, 32)]) := rd_new vh 23 W [(some ⟨cb, co + 32 * y, none⟩, 32, 32)] (n := 1) rfl (by omega)
        gi_wp2_with (gi_at_builtin; refine wpListIn_append_rd rfl (.tmp 67) (.tmp 69) 30 rfl vh vh_one (wr.heap.size + 3) 23 iH (.slice none 0 0) 24 u1 hi1 hy0 hy1 hy2 rfl la pre.length lc _ rfl O1.out ⟨W.heap.size, 0, none⟩ 1 1 [(some ⟨cb, co + 32 * y, none⟩, 32, 32)] rfl N2.out (by unfold maxLen; omega) (by omega) (by simp; omega) ?_; intro sa' c' w7 hown hgr
                     obtain ⟨bx7, bx8, ow8, ko8, be8⟩ := Boxed.appended (tmp := .cells #[.slice (some ⟨cb, co + 32 * y, none⟩) 32 32] 23) h1 (by decide) (h3.mono (show wr.heap.size ≤ wr.heap.size + 3 by omega)).ownsRow (by omega) (Nat.le_refl _) (hown.mono (show wr.heap.size ≤ wr.heap.size + 3 by omega)).ownsRow hgr
                     have c7 := bx7.cell; have f7 := bx7.frozen)
        refine ⟨ko8.from _, ?_, ⟨sa', c', ?_, ?_⟩, hbe.trans be8⟩
        · intro k hk
          have hkl : k < W.heap.size := by rcases hk with rfl | rfl <;> omega
          rw [heap_setCell_other _ _ _ _ (by show k ≠ wr.heap.size; rcases hk with rfl | rfl <;> omega), hgr.block k (by simp; omega) (fun e' => ?_)]
          · exact bW.block k hkl
          · have := (h3.ownsRow.lt k e'.symm).1
            rcases hk with rfl | rfl <;> omega
        · show Boxed _ _ _ (.slice sa' (pre ++ [y]).length c')
          rw [List.length_append]
          exact bx8
        · show Kin.Own vh _ _ _ sa' (pre ++ [y]).length c' _
          rw [List.length_append, List.map_append]
          exact hown.same fun x hx => heap_setCell_other _ _ _ _ (by
            show x.block ≠ wr.heap.size
            have := own_bge hown hx
            omega)
      case done =>
        rintro D ys W hD rfl ⟨⟨la, lc, h1, h3⟩, hbe⟩ hK
        rw [List.length_range] at h1 h3
        have hc1 := h1.cell
        have hcv := conv_str ms W
        have hR2 := conv_rd ms (by omega) W
        have hB2 := conv_below ms W
        obtain ⟨cap, hcap2⟩ : ∃ cap, cap = grownCap W ms.size 0 5 := ⟨_, rfl⟩
        obtain ⟨W2, hW2⟩ : ∃ W2, W2 = Lib.bytesWorld W 5 ms := ⟨_, rfl⟩
        rw [← hcap2] at hcv hR2
        rw [← hW2] at hcv hR2 hB2
        rw [hms] at hcv hR2
        have hc2 := (cellBelow hB2 h1.lt).trans hc1
        have hbe2 := (hB3.trans hbe).trans (hB2.mono (hB3.trans hbe).size)
        have R2 := Lib.hid hR2
        have RX2 : Hid (Rd vn W2 xa k xc (ds.map (· + 1))) := by
          have h9 := (HO.out.rd.fw hbe2)
          rw [List.take_of_length_le (by rw [HD.out.len]; exact Nat.le_refl _)] at h9
          exact h9
        have HCW := HC.out.fw (HB.out.trans (hbe2.mono HB.out.size))
        have RM2 : Hid (RdM W2 la (t - 1) lc (Sss.rows (t - 1) cs)) := by
          refine ⟨_, h3.rd.fw hB2, Sss.rows_length _ _, fun i h m hi hm => ?_⟩
          have hlt : i < t - 1 := by
            have := (List.getElem?_eq_some_iff.1 hm).1
            rwa [Sss.rows_length] at this
          rw [List.getElem?_map, List.getElem?_range hlt] at hi
          cases hi
          rw [Sss.rows_get _ _ _ hlt] at hm
          cases hm
          exact part_rd HCW (hb.resolve_right (by omega)) hlt
        have HK2 : Hid (W2.heap[D]? = some (.deferred (some []))) := (hB2.block D (Array.getElem?_eq_some_iff.1 hK).1).trans hK
        have HB2 := Lib.hid (HB.out.trans (hbe2.mono HB.out.size))
        have hDl := Lib.hid (Array.getElem?_eq_some_iff.1 hK).1
        have HS2 := Lib.hid hB2.size
        have hlc := HC.out.len
        clear hR2 hB2 hcap2 hW2 hbe2 HCW hK bV bS bN hB3 hbe h3
        gi_wp2_with (refine ⟨trivial, ?_⟩; gi_at_call 24; refine (callsIn_wide.2 (split_any (some ⟨W.heap.size, 0, none⟩) 32 cap (bl ms) la (t - 1) lc (Sss.rows (t - 1) cs) xa k xc (ds.map (· + 1)) W2 R2.out RM2.out RX2.out (bl_byt ms) (Sss.rows_byt _ _ hcb) (Sss.rows_mem _ _ hlc) (by omega) (by omega) (by omega) (xs_ok hd) (xs_nodup hnd))).mono ?_
                     rintro e w9 ⟨sa, sc, T, rfl, hT, hfst, hv, hb9⟩; have HT := Lib.hid hT; have HF := Lib.hid hfst; have HV := Lib.hid hv; have HB9 := Lib.hid hb9; clear hT hfst hv hb9)
        have hK9 := (HB9.out.block D (Nat.lt_of_lt_of_le hDl.out HS2.out)).trans HK2.out
        refine ⟨by simp, .inl ⟨_, _, rfl, run_takeDeferred hK9, ?_⟩⟩
        refine ⟨_, results_tmp2 rfl _ _ _, sa, sc, T, rfl, RdA.putN HT.out _ hK9 rfl, HF.out, fun x hx => Rd.putN (HV.out x hx) _ hK9 rfl, ?_⟩
        have hwr := HB.out.size
        exact (HB2.out.trans (HB9.out.mono (HB2.out.size))).trans (belowK_b (w := wr) (by omega) w9 D _ _ (by simp at hD; omega) hK9 rfl rfl)
      case stop =>
        rintro D c pre W _ _ h _
        exact h.elim
end Go.Proofs.Ytioiaiifkfopnaa
