/- TopSecretShares: the walk. -/
import Derived.Test.YtioiaiifkfopnaaWTSb
import Derived.BigQuiet
import Derived.Deep.QuietTactic
namespace Go.Proofs.Ytioiaiifkfopnaa
open Go.RowKit Go.Kin
set_option maxRecDepth 100000
set_option linter.unusedVariables false
theorem infoIt : (Try.prog.info? 3).map (fun i => (i.zero, i.size, i.bytes)) = some (some (.int .i64 0), 1, 8) := by kernel_rfl
theorem key12w (x : Int) : ∃ k : Nat, k < 12 ∧ (wrap64 (x.tmod 12 + 12)).tmod 12 = (k : Int) := by
  have h1 : x.tmod 12 < 12 := Int.tmod_lt_of_pos x (by omega)
  have h2 : -12 < x.tmod 12 := Int.lt_tmod_of_pos x (by omega)
  rw [show wrap64 (x.tmod 12 + 12) = x.tmod 12 + 12 from by unfold wrap64; omega]
  exact key12 x
/-- What the loop over the seats has made. -/
structure Mem1 (w wr : World) (bm : Nat) (ma : Option Addr) (mc : Nat) (M : List Nat) (r : Nat) : Prop where
  o : Kin.Own vn w.heap.size 3 wr ma M.length mc M
  u : Usd wr bm (M.map Int.ofNat)
  nd : M.Nodup
  lt : ∀ x ∈ M, x < 12
  bl : Below w.heap.size w wr
/-- The map is written. -/
theorem Mem1.put {w wr w5 : World} {bm : Nat} {ma : Option Addr} {mc : Nat} {M : List Nat} {r k : Nat} (h : Mem1 w wr bm ma mc M r) (hk : k ∉ M) (hk12 : k < 12) (hB : w.heap.size ≤ bm) (hu : Usd w5 bm (M.map Int.ofNat ++ [(k : Int)])) (hg : wr.grownBy w5 (some bm)) :
    Kin.Own vn w.heap.size 3 w5 ma M.length mc M ∧ Below w.heap.size w w5 := by
  refine ⟨h.o.same fun x hx => ?_, h.bl.grown hg h.bl.size fun y hy => (by cases hy; exact hB)⟩
  obtain ⟨cur, hcu⟩ := Kin.Own.typ h.o hx
  refine hg.block _ (Array.getElem?_eq_some_iff.1 hcu).1 (fun e => ?_)
  obtain ⟨D, ⟨es, clock, hb, _⟩, _⟩ := h.u
  cases e
  rw [hb] at hcu
  cases hcu
theorem Usd.grown {α : Type} {f : α → Value} {B : Nat} {E : TypeId} {w w' : World} {bm : Nat} {U : List Int} {a : Option Addr} {n c : Nat} {l : List α} (h : Usd w bm U) (ho : Kin.Own f B E w a n c l) (hg : w.grownBy w' (Value.slice a n c).ownBlock) : Usd w' bm U := by
  obtain ⟨D, h1, h2⟩ := h
  refine ⟨D, h1.kept hg ?_, h2⟩
  obtain ⟨es, clock, hb, _⟩ := h1
  obtain ⟨_, h3 | ⟨g, cur, rfl, _, hgr, _⟩⟩ := ho
  · rw [h3.1]; intro e; cases e
  · intro e
    have e2 : bm = g := by simpa [Value.ownBlock] using e
    subst e2
    rw [hb] at hgr
    cases hgr
set_option maxHeartbeats 8000000 in
theorem ts_main (ms os : ByteArray) (hms : ms.size = 32) (hos : os.size = 32) (r : Nat) (hr : r ≤ 4) (a : Option Addr) (n c : Nat) (S : List Int) (b : Option Addr) (d : Nat) (cs : List Nat) (g : Option Addr) (e : Nat) (gs : List Nat) (w : World)
    (hS : Rd vi w a n c S) (hSb : ∀ z ∈ S, -9223372036854775808 ≤ z ∧ z ≤ 9223372036854775807) (hn : n ≤ 30) (hC : Rd vb w b (32 * r) d cs) (hcb : Gf.Byt cs) (hG : Rd vb w g (32 * r) e gs) (hgb : Gf.Byt gs) :
    Calls Try.prog 3 #[.string ms, .string os, .int .i64 ((r : Int) + 1), .slice a n c, .slice b (32 * r) d, .slice g (32 * r) e] w fun e w' => e = .returned (.bool true) ∧ Below w.heap.size w w' := by
  have hmm := @run_makeMap Try.prog
  obtain ⟨i0, hi, hz0, hz1, hz2⟩ := info_parts infoIt
  have u0 := Try.underlying22
  have e1 : (((ms.size : Nat) : Int) != 32) = false := by rw [hms]; rfl
  have e2 : (((os.size : Nat) : Int) != 32) = false := by rw [hos]; rfl
  have e3 : ¬ ((r : Int) + 1 < 1) := by omega
  have e4 : ¬ (5 < (r : Int) + 1) := by omega
  have e5 : (((32 * r : Nat) : Int) != 32 * ((r : Int) + 1 - 1)) = false := by simp
  have e7 : ¬ (30 < (n : Int)) := by omega
  have H1 := Lib.hid hS; have H2 := Lib.hid hC; have H3 := Lib.hid hG; have HSB := Lib.hid hSb
  clear hS hC hG hSb
  go_enter Try.func3, Try.ntmps3
  go_wp2_with (first
    | (go_at_call 5; refine (awake16 _).mono ?_; rintro e w1 ⟨rfl, hb1⟩; have HB1 := Lib.hid hb1; clear hb1)
    | fail)
  have M0 : Hid (Mem1 w ((w1.alloc (.cells #[] 3)).alloc (.map #[] 0)) (w1.heap.size + 1) (some ⟨w1.heap.size, 0, none⟩) 0 [] r) := by
    have hb := HB1.out.size
    have u := Usd.new (w1.alloc (.cells #[] 3))
    rw [World.size_alloc] at u
    refine ⟨((blk_new vn 3 w1 []).own (B := w.heap.size) hb (by simp [maxLen])).fw (below_alloc _ (below_refl _)), u, List.nodup_nil, by simp, bt HB1.out (below_alloc _ (below_alloc _ (below_refl _)))⟩
  have HBM : Hid (w.heap.size ≤ w1.heap.size + 1) := by have := HB1.out.size; show _ ≤ _; omega
  obtain ⟨bm, hbm⟩ : ∃ bm, bm = w1.heap.size + 1 := ⟨_, rfl⟩
  rw [← hbm] at M0 HBM
  rw [← hbm]
  clear hbm HB1
  go_loopw [13, 74] (fun mv i wr => ∃ (j : Nat) (ma : Option Addr) (mc : Nat) (M : List Nat), j ≤ n ∧ i = .int .i64 (j : Int) ∧ mv = .slice ma M.length mc ∧ M.length ≤ r + 1 ∧ Hid (Mem1 w wr bm ma mc M r)) (fun _ i _ => n - (intOf i).toNat)
  case atStart => exact ⟨0, _, _, [], by omega, rfl, rfl, by simp, M0⟩
  case round =>
    obtain ⟨j, ma, mc, M, hj, rfl, rfl, hMl, HM⟩ := hrel
    by_cases hlt : j < n
    · have i2 : (j : Int) < (n : Int) := by omega
      obtain ⟨x, hx⟩ : ∃ x, S[j]? = some x := ⟨_, List.getElem?_eq_getElem (by rw [H1.out.len]; exact hlt)⟩
      obtain ⟨b1, o1, rfl, c1⟩ := (H1.out.fw HM.out.bl).cell j x hx
      have hxb := HSB.out x (List.mem_of_getElem? hx)
      unfold vi at c1
      obtain ⟨k, hk12, hk⟩ := key12w x
      clear hx
      have hlook := HM.out.u.look (k : Int) (by omega) (by omega)
      by_cases hks : k ∈ M
      · rw [decide_eq_true (mem_intn.2 hks)] at hlook
        go_wp2_with fail
        go_roundw
        case rel => exact ⟨j + 1, ma, mc, M, by omega, by go_num, rfl, hMl, HM⟩
        case measure => simp [intOf]; omega
      · rw [decide_eq_false (fun h => hks (mem_intn.1 h))] at hlook
        by_cases hml : M.length < r + 1
        · have i3 : ((M.length : Nat) : Int) < (r : Int) + 1 := by omega
          obtain ⟨w5, hput, hU5, hg5⟩ := HM.out.u.put (k : Int) (by omega) (by omega) (by rw [List.length_map]; omega)
          have M5 := HM.out.put hks hk12 HBM.out hU5 hg5
          have ba := below_alloc (.cells #[.int .i64 (k : Int)] 3) (below_refl w5)
          have O8 := Lib.hid (M5.1.fw ba)
          have U8 := Lib.hid (hU5.fw ba)
          have B8 := Lib.hid (bt M5.2 ba)
          have N8 : Hid (Rd vn (w5.alloc (.cells #[.int .i64 (k : Int)] 3)) (some ⟨w5.heap.size, 0, none⟩) 1 1 [k]) := rd_new vn 3 w5 [k] (n := 1) rfl (by omega)
          have HKS := Lib.hid hks
          have ND := Lib.hid (nodup_snoc' HM.out.nd hks)
          clear M5 ba hU5 hg5 hks
          go_wp2_with (first
            | (at_builtin; refine wpList_append_rd rfl (.tmp 94) (.tmp 96) 22 rfl vn (fun _ => rfl) w.heap.size 3 i0 (.int .i64 0) 8 u0 hi hz0 hz1 hz2 rfl ma M.length mc _ rfl O8.out (some ⟨w5.heap.size, 0, none⟩) 1 1 [k] rfl N8.out (by unfold maxLen; omega) (by omega) B8.out.size ?_; intro sa' c' w7 hown hgr)
            | fail)
          go_roundw
          case rel =>
            refine ⟨j + 1, sa', c', M ++ [k], by omega, by go_num, by rw [List.length_append]; rfl, by rw [List.length_append]; exact hml, ⟨?_, ?_, ND.out, fun x hx => ?_, ?_⟩⟩
            · rw [List.length_append]; exact hown
            · rw [List.map_append]; exact U8.out.grown O8.out hgr
            · rcases List.mem_append.1 hx with h | h
              · exact HM.out.lt x h
              · have := List.mem_singleton.1 h
                omega
            · exact B8.out.grown hgr B8.out.size fun y hy => (O8.out.ownsRow.lt y hy).1
          case measure => simp [intOf]; omega
        · have i3 : ¬ (((M.length : Nat) : Int) < (r : Int) + 1) := by omega
          go_wp2_with fail
          go_roundw
          case rel => exact ⟨j + 1, ma, mc, M, by omega, by go_num, rfl, hMl, HM⟩
          case measure => simp [intOf]; omega
    · obtain rfl : j = n := by omega
      by_cases hml : M.length < r + 1
      · have i3 : ((M.length : Nat) : Int) < (r : Int) + 1 := by omega
        go_wp2_with fail
        go_ret
        exact ⟨rfl, HM.out.bl⟩
      · have hml2 : M.length = r + 1 := by omega
        have HO : Hid (Rd vn wr ma (r + 1) mc M) := by
          have h := HM.out.o.rd
          rw [hml2] at h
          exact h
        have HLT := Lib.hid HM.out.lt; have HND := Lib.hid HM.out.nd; have HBL := Lib.hid HM.out.bl; have HL := Lib.hid hml2
        have HR1 := Lib.hid (row_cons ((bl_len ms).trans hms) (Sss.rows_mem r cs H2.out.len)); have HR2 := Lib.hid (byt_cons (bl_byt ms) (Sss.rows_byt r cs hcb))
        have i3 : ¬ ((r : Int) + 1 < (r : Int) + 1) := by omega
        have i4 : (((r : Nat) : Int) + 1 != ((r : Nat) : Int) + 1) = false := by simp
        have i5 : (((r : Nat) : Int) != ((r : Nat) : Int)) = false := by simp
        rw [hml2]
        clear HM hml2 hml hMl
        go_wp2_with (first
          | (go_at_call_of 6 ms; refine (shares_r ms hms r hr ma mc M b d cs wr HO.out HLT.out HND.out (H2.out.fw HBL.out) hcb).mono ?_; rintro e' w3 ⟨sa, sc, rfl, hsh, hb3⟩
             have hcv := conv_str os w3
             have hR4 := conv_rd os (by omega) w3
             have hB4 := conv_below os w3
             obtain ⟨cap, hcap2⟩ : ∃ cap, cap = grownCap w3 os.size 0 5 := ⟨_, rfl⟩
             obtain ⟨w4, hw4⟩ : ∃ w4, w4 = Lib.bytesWorld w3 5 os := ⟨_, rfl⟩
             rw [← hcap2] at hcv hR4
             rw [← hw4] at hcv hR4 hB4
             rw [hos] at hcv hR4
             obtain ⟨k1, k2⟩ := hsh.lim
             have SH4 : Hid (RdSh w4 sa r sc ((M.map (· + 1)).take r) (shD M r (bl ms :: Sss.rows r cs))) := (hsh.take (Nat.le_add_right r 1)).fw hB4; have R4 := Lib.hid hR4; have B34 := Lib.hid (bt hb3 hB4)
             have k3 : (r : Int) ≤ (sc : Int) := by omega
             clear hR4 hB4 hcap2 hw4 hsh hb3)
          | (go_at_call 7; refine (fits_r (some ⟨w3.heap.size, 0, none⟩) 32 cap (bl os) sa r sc _ _ w4 R4.out SH4.out (shD_len HR1.out) (shD_byt HLT.out HR2.out) (bl_byt os) (by omega) (by omega) (xs_take_ok HLT.out) (xs_take_nd HND.out)).mono ?_
             rintro e' w5 ⟨o, L, rfl, hL, hF, hb5⟩; have HLM := Lib.hid hL; have HF := Lib.hid hF; have B5 := Lib.hid hb5; clear hL hF hb5)
          | fail)
        obtain ⟨iB, hiB, hzB0, hzB1, hzB2⟩ := info_parts info5
        have uB := Try.underlying23
        have HLl : Hid (L.length = r) := HLM.out.len
        have HLn : Hid (∀ l ∈ L, l.length = 32) := fun l hl => (HF.out.2.1 l hl).1
        have O5 : Hid (Kin.Own vb w5.heap.size 5 (w5.alloc (.cells #[] 5)) (some ⟨w5.heap.size, 0, none⟩) 0 0 []) := (blk_new vb 5 w5 []).own (B := w5.heap.size) (Nat.le_refl _) (by simp [maxLen])
        have B45 := Lib.hid (bt B34.out B5.out)
        have HO5 := Lib.hid (HO.out.fw B45.out)
        have HW5 := Lib.hid (bt HBL.out B45.out)
        have SH5 := Lib.hid (SH4.out.fw B5.out)
        clear HO HBL SH4 R4 B34 B5 B45 hcv
        go_loopw [22, 143] (fun fv i wr => ∃ (j : Nat) (fa : Option Addr) (fc : Nat), j ≤ r ∧ i = .int .i64 (j : Int) ∧ fv = .slice fa (32 * j) fc ∧ Hid (Kin.Own vb w5.heap.size 5 wr fa (32 * j) fc (L.take j).flatten) ∧ Hid (Below w5.heap.size w5 wr)) (fun _ i _ => r - (intOf i).toNat)
        case atStart => exact ⟨0, _, _, by omega, rfl, rfl, O5.out, below_alloc _ (below_refl _)⟩
        case round =>
          obtain ⟨j', fa, fc, hj', rfl, rfl, HY, HB⟩ := hrel
          by_cases hlj : j' < r
          · have i6 : (j' : Int) < (r : Int) := by omega
            obtain ⟨l, la, ln, lc, bb, bo, hl, hoo, cl, hrl⟩ := (HLM.out.fw HB.out).row hlj
            cases hoo
            rw [Nat.zero_add] at cl
            obtain rfl : ln = 32 := by rw [← hrl.len]; exact HLn.out l (List.mem_of_getElem? hl)
            have HRL := Lib.hid hrl; have HLJ := Lib.hid hl
            clear hrl hl
            go_wp2_with (first
              | (at_builtin; refine wpList_append_rd rfl (.tmp 147) (.tmp 148) 23 rfl vb vb_one w5.heap.size 5 iB (vb 0) 1 uB hiB hzB0 hzB1 hzB2 rfl fa (32 * j') fc _ rfl HY.out la 32 lc l rfl HRL.out (by unfold maxLen; omega) (by omega) HB.out.size ?_; intro sa' c' w7 hown hgr)
              | fail)
            go_roundw
            case rel =>
              refine ⟨j' + 1, sa', c', by omega, by go_num, rfl, ?_, HB.out.grown hgr HB.out.size fun y hy => (HY.out.ownsRow.lt y hy).1⟩
              show Kin.Own vb _ _ _ sa' (32 * j' + 32) c' (L.take (j' + 1)).flatten
              rw [take_succ_getA HLJ.out, List.flatten_append, List.flatten_singleton]
              exact hown
            case measure => simp [intOf]; omega
          · obtain rfl : r = j' := by omega
            have HFD : Hid (Kin.Own vb w5.heap.size 5 wr fa (32 * r) fc L.flatten) := by
              have h := HY.out
              rw [List.take_of_length_le (by rw [HLl.out]; exact Nat.le_refl _)] at h
              exact h
            have HFB : Hid (Gf.Byt L.flatten) := fun x hx => by
              obtain ⟨l, hl, hxl⟩ := List.mem_flatten.1 hx
              exact (HF.out.2.1 l hl).2 x hxl
            have HRW : Hid (Sss.rows r L.flatten = L) := by
              have h := Sss.rows_flatten L HLn.out
              rw [HLl.out] at h
              exact h
            have HAG := Lib.hid (end_again HL.out HLT.out ((bl_len ms).trans hms) (bl_byt ms) ((bl_len os).trans hos) (bl_byt os) (Sss.rows_mem r cs H2.out.len) (Sss.rows_byt r cs hcb) HF.out)
            obtain ⟨V, hV⟩ : ∃ V : Bool, V = decide (gs = L.flatten) := ⟨_, rfl⟩
            have HGU : Hid (decide (shD M r (bl os :: Sss.rows r gs) = shD M r (bl ms :: Sss.rows r cs)) = V) := (end_guess HL.out HLT.out HND.out ((bl_len ms).trans hms) (bl_byt ms) ((bl_len os).trans hos) (bl_byt os) (Sss.rows_mem r cs H2.out.len) (Sss.rows_byt r cs hcb) HF.out H3.out.len hgb).trans hV.symm
            have HE1 : Hid (((strB gs).toList == (strB L.flatten).toList) = V) := (strB_toList hgb HFB.out).trans hV.symm
            clear hV HY
            go_wp2_with (first
              | (go_at_call_of 6 fa; refine (shares_r os hos r hr ma mc M fa fc L.flatten wr (HO5.out.fw HB.out) HLT.out HND.out HFD.out.rd HFB.out).mono ?_; rintro e' w6 ⟨ga, gc, rfl, hsh, hb6⟩
                 rw [HRW.out] at hsh
                 obtain ⟨k4, k5⟩ := hsh.lim
                 have SH6 : Hid (RdSh w6 ga r gc ((M.map (· + 1)).take r) (shD M r (bl os :: L))) := hsh.take (Nat.le_add_right r 1)
                 have k6 : (r : Int) ≤ (gc : Int) := by omega
                 have B6 := Lib.hid (bt HB.out hb6); have B6r := Lib.hid hb6
                 clear hsh hb6)
              | (go_at_call_of 8 ga; refine (same16 ga sa r gc sc _ _ _ w6 SH6.out (SH5.out.fw B6.out) (shD_byt HLT.out (byt_cons (bl_byt os) fun l hl => (HF.out.2.1 l hl).2)) (shD_byt HLT.out HR2.out)).mono ?_
                 rw [decide_eq_true HAG.out]; rintro e' w7 ⟨rfl, hd7⟩; have B7 := Lib.hid (bt B6.out hd7.fw); have B67 := Lib.hid (bt B6r.out hd7.fw); clear hd7)
              | (go_at_call_of 6 g; refine (shares_r os hos r hr ma mc M g e gs w7 (HO5.out.fw B7.out) HLT.out HND.out (H3.out.fw (bt HW5.out B7.out)) hgb).mono ?_; rintro e' w8 ⟨ua, uc, rfl, hsh, hb8⟩
                 obtain ⟨k7, k8⟩ := hsh.lim
                 have SH8 : Hid (RdSh w8 ua r uc ((M.map (· + 1)).take r) (shD M r (bl os :: Sss.rows r gs))) := hsh.take (Nat.le_add_right r 1)
                 have k9 : (r : Int) ≤ (uc : Int) := by omega
                 have B8 := Lib.hid (bt B7.out hb8); have B68 := Lib.hid (bt B67.out hb8)
                 clear hsh hb8)
              | fail)
            have SF8 := Lib.hid (SH5.out.fw B8.out)
            have HRO := Lib.hid (byt_cons (bl_byt os) (Sss.rows_byt r gs hgb))
            have E1 : ∀ m : Nat, Calls Try.prog 8 #[.slice ua r uc, .slice sa r sc] (w8.drewN m) fun e' w' => e' = .returned (.bool V) ∧ Drw (w8.drewN m) w' := fun m => by
              have h := same16 ua sa r uc sc _ _ _ (w8.drewN m) (SH8.out.fw (fdrewN (below_refl w8) m)) (SF8.out.fw (fdrewN (below_refl w8) m)) (shD_byt HLT.out HRO.out) (shD_byt HLT.out HR2.out)
              rwa [HGU.out] at h
            have hg8 := H3.out.fw (bt HW5.out B8.out)
            have hf8 : Rd vb w8 fa (32 * r) fc L.flatten := HFD.out.rd.fw B68.out
            have s1 := fun m => run_string_rd (P := Try.prog) (hg8.drw ((Drw.refl _).step m)) Try.underlying23 Try.underlying5 Try.underlying9
            have s2 := fun m => run_string_rd (P := Try.prog) (hf8.drw ((Drw.refl _).step m)) Try.underlying23 Try.underlying5 Try.underlying9
            have e9 := HE1.out
            have HB8 := Lib.hid (bt HW5.out B8.out)
            clear hg8 hf8
            go_wp2_with fail
            go_quiet ((first
              | (go_at_call 8; exact qdrw (E1 _))))
            go_wp2_with fail
            go_ret
            exact ⟨rfl, fdrewN HB8.out nq⟩
theorem walk_TopSecretShares (ms os : ByteArray) (t : Int) (a : Option Addr) (n c : Nat) (S : List Int) (b : Option Addr) (m d : Nat) (cs : List Nat) (g : Option Addr) (k e : Nat) (gs : List Nat) (w : World) (_h0 : ms.size ≤ maxLen) (_h1 : os.size ≤ maxLen) (h2 : -9223372036854775808 ≤ t ∧ t ≤ 9223372036854775807)
    (h3 : Rd vi w a n c S) (h3b : ∀ z ∈ S, -9223372036854775808 ≤ z ∧ z ≤ 9223372036854775807) (h4 : Rd vb w b m d cs) (h4b : Gf.Byt cs) (h5 : Rd vb w g k e gs) (h5b : Gf.Byt gs) :
    Calls Try.prog 3 #[.string ms, .string os, .int .i64 t, .slice a n c, .slice b m d, .slice g k e] w fun e w' => e = .returned (.bool true) ∧ Below w.heap.size w w' := by
  by_cases hv : ms.size = 32 ∧ os.size = 32 ∧ 1 ≤ t ∧ t ≤ 5 ∧ (m : Int) = 32 * (t - 1) ∧ k = m ∧ n ≤ 30
  · obtain ⟨h6, h7, h8, h9, h10, rfl, h11⟩ := hv
    obtain ⟨r, hr⟩ := Int.eq_ofNat_of_zero_le (show 0 ≤ t - 1 by omega)
    obtain rfl : t = (r : Int) + 1 := by omega
    obtain rfl : k = 32 * r := by omega
    exact ts_main ms os h6 h7 r (by omega) a n c S b d cs g e gs w h3 h3b h11 h4 h4b h5 h5b
  · have l1 := h3.cap; have l2 := h3.max; have l3 := h4.cap; have l4 := h4.max; have l5 := h5.cap; have l6 := h5.max
    unfold maxLen at l2 l4 l6
    exact ts_no ms os t a n c b m d g k e w h2 (by omega) (by omega) (by omega) hv
end Go.Proofs.Ytioiaiifkfopnaa
