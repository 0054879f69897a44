/- TopAnyPieces: the walk. -/
import Derived.Test.YtioiaiifkfopnaaTri
namespace Go.Proofs.Ytioiaiifkfopnaa
open Go.RowKit Go.Kin Mat
open Fq (sum)
set_option maxRecDepth 100000
set_option linter.unusedVariables false

theorem blocks_yes (d : Nat) (a : Option Addr) (c L : Nat) (F : Mat) (w : World) (h : RdM w a d c (mlist d L F)) (hd : 0 < d) (hL : 0 < L) (hL2 : L ≤ 40) :
    Calls Try.prog 11 #[.int .i64 (d : Int), .slice a d c, .int .i64 40] w fun e w' => e = .returned (.bool true) ∧ Below w.heap.size w w' := by
  have hgood : GoodB (mlist d L F) 40 := by
    intro x hx
    obtain ⟨i, hi, rfl⟩ := List.mem_map.1 hx
    rw [mrow_length, colsL_mlist F hd]
    exact ⟨hL, hL2, rfl⟩
  refine (blocks_any (d : Int) a d c 40 (mlist d L F) w h (by omega)).mono fun e w' h => ⟨?_, h.2⟩
  rw [h.1, decide_eq_true (show GoodB (mlist d L F) 40 ∧ (d : Int) = (d : Int) from ⟨hgood, rfl⟩)]

theorem key_ok (x : Int) (t : Nat) (h0 : 0 < t) (ht : t ≤ 16) : ∃ k : Nat, k < t ∧ (wrap64 (x.tmod (t : Int) + (t : Int))).tmod (t : Int) = (k : Int) := by
  have h1 : x.tmod (t : Int) < (t : Int) := Int.tmod_lt_of_pos x (by omega)
  have h2 : -(t : Int) < x.tmod (t : Int) := Int.lt_tmod_of_pos x (by omega)
  have h3 : wrap64 (x.tmod (t : Int) + (t : Int)) = x.tmod (t : Int) + (t : Int) := by unfold wrap64; omega
  rw [h3]
  have h4 : 0 ≤ (x.tmod (t : Int) + (t : Int)).tmod (t : Int) := Int.tmod_nonneg _ (by omega)
  have h5 : (x.tmod (t : Int) + (t : Int)).tmod (t : Int) < (t : Int) := Int.tmod_lt_of_pos _ (by omega)
  exact ⟨((x.tmod (t : Int) + (t : Int)).tmod (t : Int)).toNat, by omega, by omega⟩
theorem hp_new {w : World} {o : Obj} {g : Nat} (h : w.heap.size = g) : (w.alloc o).heap[g]? = some o := by subst h; exact heap_alloc_new w o
theorem hp_old {w : World} {o x : Obj} {g : Nat} (h : w.heap[g]? = some x) : (w.alloc o).heap[g]? = some x := by
  have hlt := (Array.getElem?_eq_some_iff.1 h).1
  exact ((Below.refl w.heap.size w).alloc (Nat.le_refl _) o).block g hlt |>.trans h
theorem kp_of {wn wc w' : World} {a : Option Addr} {n c : Nat} (hg : wc.grownBy w' (Value.slice a n c).ownBlock) (ha : ∀ x, a = some x → x.block < wn.heap.size) : ∀ g x, wn.heap.size ≤ g → wc.heap[g]? = some x → w'.heap[g]? = some x := by
  intro g x hg1 hx
  refine (hg.block g (Array.getElem?_eq_some_iff.1 hx).1 ?_).trans hx
  cases a with
  | none => simp [Value.ownBlock]
  | some y => 
    have := ha y rfl
    simp [Value.ownBlock]; omega
theorem mem_int {k : Nat} {S : List Nat} : (k : Int) ∈ S.map Int.ofNat ↔ k ∈ S := by
  constructor
  · intro h
    obtain ⟨y, hy, e⟩ := List.mem_map.1 h
    have : (y : Int) = (k : Int) := e
    have : y = k := by omega
    rwa [← this]
  · intro h
    exact List.mem_map.2 ⟨k, h, rfl⟩
/-- The pieces, multiplied with the factors, are the blocks. -/
theorem back_eq {d : Nat} {S : List Nat} (hd : d ≤ 8) (hS : S.length = d) (hn : S.Nodup) (h16 : ∀ x ∈ S, x < 16) (F : Mat) {i c : Nat} (hi : i < d) : mul d (invM d S) (fun t => mul d (allM d) F (S.getD t 0)) i c = F i c := by
  have h := (inv_both (pick_piv hd hS hn h16)).2
  have e1 : mul d (invM d S) (fun t => mul d (allM d) F (S.getD t 0)) i c = mul d (invM d S) (mul d (pickA d S) F) i c := rfl
  rw [e1, ← mul_assoc]
  exact (mul_congr (C := idm) (D := F) (fun j hj => h i j hi hj) (fun j _ => rfl)).trans (idm_mul F hi)
theorem new_own {α : Type} (f : α → Value) (B : Nat) (E : TypeId) (w : World) (g : Nat) (hg : w.heap.size = g) (hB : B ≤ g) : Own f B E (w.alloc (.cells #[] E (0, 0))) (some ⟨g, 0, none⟩) 0 0 [] := by
  subst hg
  exact (blk_new f E w []).own hB (by simp [maxLen])
theorem tri_new (wa : World) (L d : Nat) (G : Mat) : TR3 wa ((((wa.alloc (.map #[] 0)).alloc (.cells #[] 3)).alloc (.cells #[] 23)).alloc (.cells #[] 23)) wa.heap.size L d G [] [] [] [] (some ⟨wa.heap.size + 1, 0, none⟩) 0 (some ⟨wa.heap.size + 2, 0, none⟩) 0 (some ⟨wa.heap.size + 3, 0, none⟩) 0 := by
  have z1 : (wa.alloc (.map #[] 0)).heap.size = wa.heap.size + 1 := by simp
  have z2 : ((wa.alloc (.map #[] 0)).alloc (.cells #[] 3)).heap.size = wa.heap.size + 2 := by simp
  have z3 : (((wa.alloc (.map #[] 0)).alloc (.cells #[] 3)).alloc (.cells #[] 23)).heap.size = wa.heap.size + 3 := by simp
  have u0 := Usd.new wa
  refine ⟨(new_own vi _ 3 _ _ z1 (by omega)).fw (below_alloc _ (below_alloc _ (below_refl _))), ⟨[], (new_own vh _ 23 _ _ z2 (by omega)).fw (below_alloc _ (below_refl _)), by simp⟩, ⟨[], new_own vh _ 23 _ _ z3 (by omega), by simp⟩, ?_, u0.fw (below_alloc _ (below_alloc _ (below_alloc _ (below_refl _)))), below_alloc _ (below_alloc _ (below_alloc _ (below_alloc _ (below_refl _))))⟩
  intro x y hx hy
  cases hx; cases hy
  simp

set_option maxHeartbeats 4000000 in
theorem any_main (d t : Nat) (a : Option Addr) (c L : Nat) (F : Mat) (b : Option Addr) (m e : Nat) (p : List Int) (w : World) (h1 : RdM w a d c (mlist d L F)) (h2 : Rd vi w b m e p) (hp : ∀ z ∈ p, -9223372036854775808 ≤ z ∧ z ≤ 9223372036854775807)
    (hd : 0 < d) (hd8 : d ≤ 8) (hdt : d ≤ t) (ht : t ≤ 16) (hL : 0 < L) (hL2 : L ≤ 40) (hm : m ≤ 40) :
    Calls Try.prog 4 #[.int .i64 (d : Int), .int .i64 (t : Int), .slice a d c, .slice b m e] w fun e w' => e = .returned (.bool true) ∧ Below w.heap.size w w' := by
  have hmm := @run_makeMap Try.prog
  obtain ⟨G, hG⟩ : ∃ G, G = mul d (allM d) F := ⟨_, rfl⟩
  have HGE := Lib.hid hG
  have e0 : decide ((40 : Int) < (m : Int)) = false := by simp; omega
  have e1 : ((t : Int) != (t : Int)) = false := by simp
  have H1 := Lib.hid h1; have H2 := Lib.hid h2; have HP := Lib.hid hp
  clear h1 h2 hp
  go_enter Try.func4, Try.ntmps4
  go_wp2_with (first
    | (go_at_call 9; refine (t04awake _).mono ?_; rintro e w1 ⟨rfl, hb1⟩; have HB1 := Lib.hid hb1; clear hb1)
    | (go_at_call 10; refine (code_yes d t _ hd hd8 hdt ht).mono ?_; rintro e w' ⟨rfl, rfl⟩)
    | (go_at_call 11; refine (blocks_yes d a c L F _ (H1.out.fw HB1.out) hd hL hL2).mono ?_; rintro e w2 ⟨rfl, hb2⟩; have HB2 := Lib.hid (bt HB1.out hb2); clear hb2)
    | (go_at_call 12; refine (encode_ok a d t c L F _ (H1.out.fw HB2.out) hd hd8 hdt ht hL (by omega)).mono ?_; rw [← HGE.out]; rintro e wa ⟨oa, rfl, hMA, hba⟩; have HMA := Lib.hid hMA; have HBA := Lib.hid (bt HB2.out hba); clear hMA hba))
  clear HB1 HB2 e0 e1 hG
  have T0 := Lib.hid (tri_new wa L d G)
  have ht0 : (t : Int) ≠ 0 := by omega
  go_loopw [12, 13, 14, 15] (fun x12 x13 x14 i wr => ∃ (j : Nat) (S : List Nat) (ia : Option Addr) (ic : Nat) (pa : Option Addr) (pc : Nat) (ra : Option Addr) (rc : Nat), j ≤ m ∧ i = .int .i64 (j : Int) ∧ x12 = .slice ia S.length ic ∧ x13 = .slice pa S.length pc ∧ x14 = .slice ra S.length rc ∧ S.length ≤ d ∧ Hid (TR3 wa wr wa.heap.size L d G S S S (S.map Int.ofNat) ia ic pa pc ra rc) ∧ Hid (S.Nodup ∧ ∀ x ∈ S, x < t)) (fun _ _ _ i _ => m - (intOf i).toNat)
  case atStart => exact ⟨0, [], _, _, _, _, _, _, by omega, rfl, rfl, rfl, rfl, by simp, T0.out, List.nodup_nil, by simp⟩
  case round =>
    obtain ⟨j, S, ia, ic, pa, pc, ra, rc, hj, rfl, rfl, rfl, rfl, hSd, hT, hS⟩ := hrel
    by_cases hjm : j < m
    · have i2 : (j : Int) < (m : Int) := by omega
      by_cases hsd : S.length < d
      · have i3 : ((S.length : Nat) : Int) < (d : Int) := by omega
        obtain ⟨x, hx⟩ : ∃ x, p[j]? = some x := ⟨_, List.getElem?_eq_getElem (by rw [H2.out.len]; exact hjm)⟩
        have hxb := HP.out x (List.mem_of_getElem? hx)
        obtain ⟨b1, o1, rfl, c1w⟩ := H2.out.cell j x hx
        have c1 := (cellBelow (bt HBA.out hT.out.bl) (lt_of_cell c1w)).trans c1w
        change wr.cell? _ = some (.int .i64 x) at c1
        clear hx c1w
        obtain ⟨k, hkt, hk⟩ := key_ok x t (by omega) ht
        have hlook := hT.out.us.look (k : Int) (by omega) (by omega)
        by_cases hks : k ∈ S
        · rw [decide_eq_true (mem_int.2 hks)] at hlook
          go_wp2_with fail
          go_roundw
          case rel => exact ⟨j + 1, S, ia, ic, pa, pc, ra, rc, by omega, by go_num, rfl, rfl, rfl, hSd, hT, hS⟩
          case measure => simp [intOf]; omega
        · rw [decide_eq_false (fun h => hks (mem_int.1 h))] at hlook
          obtain ⟨w5, hput, hU5, hg5⟩ := hT.out.us.put (k : Int) (by omega) (by omega) (by rw [List.length_map]; omega)
          have T5 := Lib.hid (hT.out.used hg5 hU5 (Nat.le_refl _))
          have HU := Lib.hid hU5
          have e9 : decide ((t : Int) ≤ (k : Int)) = false := by simp; omega
          have i9 : (k : Int) < (t : Int) := by omega
          clear hU5 hg5
          go_wp2_with (go_at_call 13; refine (row_ok d t k _ hd hd8 hdt ht hkt).mono ?_; rintro e w6 ⟨ka, kc, rfl, hO6, hb6⟩; have HO6 := Lib.hid hO6; have T6 := Lib.hid (T5.out.fw hb6); clear hO6 hb6)
          obtain ⟨oa', hra, hrc, hoa, hob, c0a, _, hoa2, _⟩ := HMA.out.at hkt
          cases hoa
          have lta := lt_of_cell c0a
          have HRA := Lib.hid hoa2.rd
          have C0A := Lib.hid c0a
          have LTA := Lib.hid lta
          have IL := Lib.hid (show S.length ≤ 1000 by omega)
          have HPA : Hid (∀ x, pa = some x → x.block < w6.heap.size) := fun x hx => by obtain ⟨L2, q, _⟩ := T6.out.o2; exact q.blt hx
          obtain ⟨i0, hi, hz0, hz1, hz2⟩ := info_parts infoI
          obtain ⟨i1, hi1, hy0, hy1, hy2⟩ := info_parts infoB
          have u0 := Try.underlying22
          have u1 := Try.underlying30
          have c06 : w6.drew.cell? ⟨oa, k, none⟩ = some (.slice hra L hrc) := (cellBelow T6.out.bl lta).trans c0a
          clear hlook hput c1 c0a hoa2 hob hk e9 hmm
          go_region_held3 (fun w' => w'.cell? ⟨oa, k, none⟩ = some (.slice hra L hrc))
            (first
              | exact c06
              | exact (cellBelow (bt T9.out.bl (by repeat (first | exact below_refl _ | refine Below.drew ?_ | refine below_alloc _ ?_))) LTA.out).trans C0A.out
              | exact (cellBelow (bt T8.out.bl (by repeat (first | exact below_refl _ | refine Below.drew ?_ | refine below_alloc _ ?_))) LTA.out).trans C0A.out
              | exact (cellBelow (bt T7.out.bl (by repeat (first | exact below_refl _ | refine Below.drew ?_ | refine below_alloc _ ?_))) LTA.out).trans C0A.out
              | exact (cellBelow (bt T6.out.bl (by repeat (first | exact below_refl _ | refine Below.drew ?_ | refine below_alloc _ ?_))) LTA.out).trans C0A.out
              | go_keep)
            (first
              | (refine step_push _ (by rfl) (.tmp 104) (.tmp 106) 22 (by rfl) vi vi_one wa.heap.size 3 i0 (.int .i64 0) 8 u0 hi hz0 hz1 hz2 rfl ia S.length ic (S.map Int.ofNat) (by rfl) (T6.out.fw (by repeat (first | exact below_refl _ | refine Below.drew ?_ | refine below_alloc _ ?_))).o1 _ (k : Int) 3 (0, 0) (by rfl) (by repeat (first | exact hp_new (by simp) | refine hp_old ?_)) IL.out (by omega) (T6.out.fw (by repeat (first | exact below_refl _ | refine Below.drew ?_ | refine below_alloc _ ?_))).bl.size ?_
                 intro g7 c7 w7 hown7 hgr7 _; have hs7 : w6.heap.size ≤ w7.heap.size := Nat.le_trans (show Below w6.heap.size w6 _ from (by repeat (first | exact below_refl _ | refine Below.drew ?_ | refine below_alloc _ ?_))).size hgr7.size; have T7 := Lib.hid ((T6.out.fw (by repeat (first | exact below_refl _ | refine Below.drew ?_ | refine below_alloc _ ?_))).push1 hown7 hgr7); have KP7 := kp_of (wn := w6) hgr7 (fun x hx => T6.out.o1.blt hx); have HO7 := Lib.hid ((HO6.out.fw (by repeat (first | exact below_refl _ | refine Below.drew ?_ | refine below_alloc _ ?_))).grownT (T6.out.fw (by repeat (first | exact below_refl _ | refine Below.drew ?_ | refine below_alloc _ ?_))).o1 tu hgr7); obtain ⟨L2, q2a, q2b⟩ := T7.out.o2; have Q2A := Lib.hid q2a; have Q2B := Lib.hid q2b; clear hown7 hgr7 q2a q2b)
              | (refine step_push _ (by rfl) (.tmp 108) (.tmp 113) 30 (by rfl) vh vh_one wa.heap.size 23 i1 (.slice none 0 0) 24 u1 hi1 hy0 hy1 hy2 rfl pa S.length pc L2 (by rfl) (Q2A.out.fw (by repeat (first | exact below_refl _ | refine Below.drew ?_ | refine below_alloc _ ?_))) _ (hra, L, hrc) 23 (0, 0) (by rfl) (by repeat (first | exact hp_new (by simp) | refine hp_old ?_ | refine KP7 _ _ (by first | omega | simp) ?_)) IL.out (by omega) (T7.out.fw (by repeat (first | exact below_refl _ | refine Below.drew ?_ | refine below_alloc _ ?_))).bl.size ?_
                 intro g8 c8 w8 hown8 hgr8 hl8; have T8 := Lib.hid ((T7.out.fw (by repeat (first | exact below_refl _ | refine Below.drew ?_ | refine below_alloc _ ?_))).push2 (Q2A.out.fw (by repeat (first | exact below_refl _ | refine Below.drew ?_ | refine below_alloc _ ?_))) Q2B.out HRA.out hown8 hgr8 hl8); have KP8 := kp_of (wn := w6) hgr8 HPA.out; have HO8 := Lib.hid ((HO7.out.fw (by repeat (first | exact below_refl _ | refine Below.drew ?_ | refine below_alloc _ ?_))).grownT (Q2A.out.fw (by repeat (first | exact below_refl _ | refine Below.drew ?_ | refine below_alloc _ ?_))) tt' hgr8); obtain ⟨L3, q3a, q3b⟩ := T8.out.o3; have Q3A := Lib.hid q3a; have Q3B := Lib.hid q3b; clear hown8 hgr8 hl8 q3a q3b)
              | (refine step_push _ (by rfl) (.tmp 115) (.tmp 117) 30 (by rfl) vh vh_one wa.heap.size 23 i1 (.slice none 0 0) 24 u1 hi1 hy0 hy1 hy2 rfl ra S.length rc L3 (by rfl) (Q3A.out.fw (by repeat (first | exact below_refl _ | refine Below.drew ?_ | refine below_alloc _ ?_))) _ (ka, d, kc) 23 (0, 0) (by rfl) (by repeat (first | exact hp_new (by simp) | refine hp_old ?_ | refine KP8 _ _ (by first | omega | simp) ?_ | refine KP7 _ _ (by first | omega | simp) ?_)) IL.out (by omega) (T8.out.fw (by repeat (first | exact below_refl _ | refine Below.drew ?_ | refine below_alloc _ ?_))).bl.size ?_
                 intro g9 c9 w9 hown9 hgr9 hl9; have T9 := Lib.hid ((T8.out.fw (by repeat (first | exact below_refl _ | refine Below.drew ?_ | refine below_alloc _ ?_))).push3 (Q3A.out.fw (by repeat (first | exact below_refl _ | refine Below.drew ?_ | refine below_alloc _ ?_))) (fun i x hx => (Q3B.out i x hx).fw (by repeat (first | exact below_refl _ | refine Below.drew ?_ | refine below_alloc _ ?_))) (HO8.out.fw (by repeat (first | exact below_refl _ | refine Below.drew ?_ | refine below_alloc _ ?_))) hown9 hgr9 hl9); clear hown9 hgr9 hl9)
              | fail)
          all_goals
            have TN : Hid (TR3 wa w9 wa.heap.size L d G (S ++ [k]) (S ++ [k]) (S ++ [k]) ((S ++ [k]).map Int.ofNat) (some ⟨g7, 0, none⟩) c7 (some ⟨g8, 0, none⟩) c8 (some ⟨g9, 0, none⟩) c9) := by
              show TR3 _ _ _ _ _ _ _ _ _ _ _ _ _ _ _ _
              rw [List.map_append]; exact T9.out
            have SN : Hid ((S ++ [k]).Nodup ∧ ∀ x ∈ S ++ [k], x < t) := ⟨nodup_snoc' hS.out.1 hks, fun x hx => by
              rcases List.mem_append.1 hx with h | h
              · exact hS.out.2 x h
              · have : x = k := by simpa using h
                omega⟩
            go_wp2_with fail
            go_roundw
            case rel => exact ⟨j + 1, S ++ [k], _, c7, _, c8, _, c9, by omega, by go_num, by simp, by simp, by simp, by simp; omega, TN, SN⟩
            case measure => simp [intOf]; omega
      · have hsd2 : S.length = d := by omega
        have i3 : decide (((S.length : Nat) : Int) < (d : Int)) = false := by simp; omega
        have h16 : ∀ x ∈ S, x < 16 := fun x hx => by have := hS.out.2 x hx; omega
        have PV := Lib.hid (pick_piv hd8 hsd2 hS.out.1 h16)
        have PV2 := Lib.hid (show (elimE d (pickA d S) d).piv.length = d by rw [← aug_len d (pickA d S) idm d]; exact PV.out)
        have hTP := Lib.hid (hT.out.pieces hT.out.bl)
        have hTR := Lib.hid hT.out.rows
        have hTI := Lib.hid hT.out.o1.rd
        have HBT := Lib.hid (bt HBA.out hT.out.bl)
        rw [hsd2] at hTP hTR hTI i3 ⊢
        have ME : Hid (mlist d L (mul d (invM d S) fun i => G (S.getD i 0)) = mlist d L F) := mlist_congr fun i c hi _ => by rw [HGE.out]; exact back_eq hd8 hsd2 hS.out.1 h16 F hi
        go_wp2_with (first
          | (go_at_call 15; refine (inv_ok ra d rc (pickA d S) _ hTR.out (by omega) PV.out).mono ?_; rintro e w7 ⟨o7, rfl, hM7, hb7⟩; have HM7 := Lib.hid hM7; have B7 := Lib.hid hb7; clear hM7 hb7)
          | (go_at_call 14; refine (recon_ok d t ia pa ic pc L S (fun i => G (S.getD i 0)) _ (hTI.out.fw B7.out) (hTP.out.fw B7.out) hS.out.1 hS.out.2 hd hd8 hdt ht hL (by omega)).mono ?_; rintro e w8 ⟨o8, rfl, hM8, hb8⟩; have HM8 := Lib.hid hM8; have B8 := Lib.hid (bt B7.out hb8); have B78 := Lib.hid hb8; clear hM8 hb8)
          | (go_at_call 16; refine (rank_ok ra d rc d (pickA d S) _ (hTR.out.fw B8.out) ⟨by omega, by omega, fun e => by omega⟩).mono ?_; rw [PV2.out]; rintro e w9 ⟨rfl, hb9⟩; have B9 := Lib.hid (bt B8.out hb9); have B89 := Lib.hid hb9; clear hb9)
          | (go_at_call 17; refine (apply_ok _ pa d d d pc L (invM d S) (fun i => G (S.getD i 0)) _ (HM7.out.rdm.fw (bt B78.out B89.out)) (hTP.out.fw B9.out) ⟨by omega, by omega, fun e => by omega⟩ (by omega) (fun e => by omega)).mono ?_; rintro e w10 ⟨o10, rfl, hM10, hb10⟩; have HM10 := Lib.hid hM10; have B10 := Lib.hid (bt B9.out hb10); have B910 := Lib.hid hb10; clear hM10 hb10)
          | (go_at_call 18; refine (check_ok d t ia pa ic pc L S (fun i => G (S.getD i 0)) _ (hTI.out.fw B10.out) (hTP.out.fw B10.out) hS.out.1 hS.out.2 hd hd8 hdt ht hL (by omega)).mono ?_; rintro e w11 ⟨rfl, hb11⟩; have B11 := Lib.hid (bt B10.out hb11); have B1011 := Lib.hid hb11; clear hb11)
          | (go_at_call_of 19 o8; refine (tsame_eq _ a d d d c _ _ _ ((HM8.out.rdm.fw (bt B89.out B910.out)).fw B1011.out) (H1.out.fw (bt HBT.out B11.out)) mlist_byt ME.out).mono ?_; rintro e w12 ⟨rfl, hd12⟩; have B1112 := Lib.hid hd12.fw; have B12 := Lib.hid (bt B11.out hd12.fw); clear hd12)
          | (go_at_call_of 19 o10; refine (tsame_eq _ a d d d c _ _ _ ((HM10.out.rdm.fw B1011.out).fw B1112.out) (H1.out.fw (bt HBT.out B12.out)) mlist_byt ME.out).mono ?_; rintro e w13 ⟨rfl, hd13⟩; have B13 := Lib.hid (bt B12.out hd13.fw); clear hd13))
        go_ret
        exact ⟨rfl, bt HBT.out B13.out⟩
    · have hjm2 : j = m := by omega
      subst hjm2
      by_cases hsd : S.length < d
      · have i3 : ((S.length : Nat) : Int) < (d : Int) := by omega
        have hTP := Lib.hid (hT.out.pieces hT.out.bl)
        go_wp2_with (go_at_call 14; refine (recon_short d t _ _ _ _ _ L S (fun i => G (S.getD i 0)) _ hT.out.o1.rd hTP.out hS.out.1 hS.out.2 hd hd8 hdt ht hsd hL (by omega)).mono ?_; rintro e w9 ⟨rfl, hb9⟩; have HB9 := Lib.hid (bt (bt HBA.out hT.out.bl) hb9); clear hb9)
        go_ret
        exact ⟨rfl, HB9.out⟩
      · have hsd2 : S.length = d := by omega
        have i3 : decide (((S.length : Nat) : Int) < (d : Int)) = false := by simp; omega
        have h16 : ∀ x ∈ S, x < 16 := fun x hx => by have := hS.out.2 x hx; omega
        have PV := Lib.hid (pick_piv hd8 hsd2 hS.out.1 h16)
        have PV2 := Lib.hid (show (elimE d (pickA d S) d).piv.length = d by rw [← aug_len d (pickA d S) idm d]; exact PV.out)
        have hTP := Lib.hid (hT.out.pieces hT.out.bl)
        have hTR := Lib.hid hT.out.rows
        have hTI := Lib.hid hT.out.o1.rd
        have HBT := Lib.hid (bt HBA.out hT.out.bl)
        rw [hsd2] at hTP hTR hTI i3 ⊢
        have ME : Hid (mlist d L (mul d (invM d S) fun i => G (S.getD i 0)) = mlist d L F) := mlist_congr fun i c hi _ => by rw [HGE.out]; exact back_eq hd8 hsd2 hS.out.1 h16 F hi
        go_wp2_with (first
          | (go_at_call 15; refine (inv_ok ra d rc (pickA d S) _ hTR.out (by omega) PV.out).mono ?_; rintro e w7 ⟨o7, rfl, hM7, hb7⟩; have HM7 := Lib.hid hM7; have B7 := Lib.hid hb7; clear hM7 hb7)
          | (go_at_call 14; refine (recon_ok d t ia pa ic pc L S (fun i => G (S.getD i 0)) _ (hTI.out.fw B7.out) (hTP.out.fw B7.out) hS.out.1 hS.out.2 hd hd8 hdt ht hL (by omega)).mono ?_; rintro e w8 ⟨o8, rfl, hM8, hb8⟩; have HM8 := Lib.hid hM8; have B8 := Lib.hid (bt B7.out hb8); have B78 := Lib.hid hb8; clear hM8 hb8)
          | (go_at_call 16; refine (rank_ok ra d rc d (pickA d S) _ (hTR.out.fw B8.out) ⟨by omega, by omega, fun e => by omega⟩).mono ?_; rw [PV2.out]; rintro e w9 ⟨rfl, hb9⟩; have B9 := Lib.hid (bt B8.out hb9); have B89 := Lib.hid hb9; clear hb9)
          | (go_at_call 17; refine (apply_ok _ pa d d d pc L (invM d S) (fun i => G (S.getD i 0)) _ (HM7.out.rdm.fw (bt B78.out B89.out)) (hTP.out.fw B9.out) ⟨by omega, by omega, fun e => by omega⟩ (by omega) (fun e => by omega)).mono ?_; rintro e w10 ⟨o10, rfl, hM10, hb10⟩; have HM10 := Lib.hid hM10; have B10 := Lib.hid (bt B9.out hb10); have B910 := Lib.hid hb10; clear hM10 hb10)
          | (go_at_call 18; refine (check_ok d t ia pa ic pc L S (fun i => G (S.getD i 0)) _ (hTI.out.fw B10.out) (hTP.out.fw B10.out) hS.out.1 hS.out.2 hd hd8 hdt ht hL (by omega)).mono ?_; rintro e w11 ⟨rfl, hb11⟩; have B11 := Lib.hid (bt B10.out hb11); have B1011 := Lib.hid hb11; clear hb11)
          | (go_at_call_of 19 o8; refine (tsame_eq _ a d d d c _ _ _ ((HM8.out.rdm.fw (bt B89.out B910.out)).fw B1011.out) (H1.out.fw (bt HBT.out B11.out)) mlist_byt ME.out).mono ?_; rintro e w12 ⟨rfl, hd12⟩; have B1112 := Lib.hid hd12.fw; have B12 := Lib.hid (bt B11.out hd12.fw); clear hd12)
          | (go_at_call_of 19 o10; refine (tsame_eq _ a d d d c _ _ _ ((HM10.out.rdm.fw B1011.out).fw B1112.out) (H1.out.fw (bt HBT.out B12.out)) mlist_byt ME.out).mono ?_; rintro e w13 ⟨rfl, hd13⟩; have B13 := Lib.hid (bt B12.out hd13.fw); clear hd13))
        go_ret
        exact ⟨rfl, bt HBT.out B13.out⟩

theorem walk_TopAnyPieces (n r : Int) (a : Option Addr) (k c : Nat) (M : List (List Nat)) (b : Option Addr) (m e : Nat) (p : List Int) (w : World) (_h0 : -9223372036854775808 ≤ n ∧ n ≤ 9223372036854775807) (_h1 : -9223372036854775808 ≤ r ∧ r ≤ 9223372036854775807) (h2 : RdM w a k c M) (hb2 : ∀ m ∈ M, Gf.Byt m) (h3 : Rd vi w b m e p) (hp : ∀ z ∈ p, -9223372036854775808 ≤ z ∧ z ≤ 9223372036854775807) :
    Calls Try.prog 4 #[.int .i64 n, .int .i64 r, .slice a k c, .slice b m e] w fun e w' => e = .returned (.bool true) ∧ Below w.heap.size w w' := by
  clear _h0 _h1
  have hm63 : m ≤ 9223372036854775807 := by have := h3.cap; have := h3.max; unfold maxLen at *; omega
  by_cases hv : 1 ≤ n ∧ n ≤ 8 ∧ n ≤ r ∧ r ≤ 16
  case neg =>
    have HV := Lib.hid hv
    clear hv
    go_enter Try.func4, Try.ntmps4
    go_wp2_with (first
      | (go_at_call 9; refine (t04awake _).mono ?_; rintro e w2 ⟨rfl, hb2⟩; have HB2 := Lib.hid (bt HB1.out hb2); clear hb2)
      | (go_at_call 9; refine (t04awake _).mono ?_; rintro e w1 ⟨rfl, hb1⟩; have HB1 := Lib.hid hb1; clear hb1)
      | (go_at_call 10; refine (code_no n r _ HV.out).mono ?_; rintro e w' ⟨rfl, rfl⟩))
    go_ret
    exact ⟨rfl, HB2.out⟩
  obtain ⟨hn1, hn8, hnr, hr16⟩ := hv
  obtain ⟨n, rfl⟩ := Int.eq_ofNat_of_zero_le (show 0 ≤ n by omega)
  obtain ⟨r, rfl⟩ := Int.eq_ofNat_of_zero_le (show 0 ≤ r by omega)
  by_cases hg : GoodB M 40 ∧ (k : Int) = (n : Int)
  case neg =>
    have HG := decide_eq_false hg
    have H2 := Lib.hid h2
    clear hg h2 h3 hp hb2
    go_enter Try.func4, Try.ntmps4
    go_wp2_with (first
      | (go_at_call 9; refine (t04awake _).mono ?_; rintro e w3 ⟨rfl, hb3⟩; have HB3 := Lib.hid (bt HB2.out hb3); clear hb3)
      | (go_at_call 9; refine (t04awake _).mono ?_; rintro e w1 ⟨rfl, hb1⟩; have HB1 := Lib.hid hb1; clear hb1)
      | (go_at_call 10; refine (code_yes n r _ (by omega) (by omega) (by omega) (by omega)).mono ?_; rintro e w' ⟨rfl, rfl⟩)
      | (go_at_call 11; refine (blocks_any (n : Int) a k c 40 M _ (H2.out.fw HB1.out) (by omega)).mono ?_; rw [HG]; rintro e w2 ⟨rfl, hb2⟩; have HB2 := Lib.hid (bt HB1.out hb2); clear hb2))
    go_ret
    exact ⟨rfl, HB3.out⟩
  by_cases hm : m ≤ 40
  case neg =>
    have HG := decide_eq_true hg
    have H2 := Lib.hid h2
    have e0 : (40 : Int) < (m : Int) := by omega
    clear hg h2 h3 hp hb2 hm
    go_enter Try.func4, Try.ntmps4
    go_wp2_with (first
      | (go_at_call 9; refine (t04awake _).mono ?_; rintro e w3 ⟨rfl, hb3⟩; have HB3 := Lib.hid (bt HB2.out hb3); clear hb3)
      | (go_at_call 9; refine (t04awake _).mono ?_; rintro e w1 ⟨rfl, hb1⟩; have HB1 := Lib.hid hb1; clear hb1)
      | (go_at_call 10; refine (code_yes n r _ (by omega) (by omega) (by omega) (by omega)).mono ?_; rintro e w' ⟨rfl, rfl⟩)
      | (go_at_call 11; refine (blocks_any (n : Int) a k c 40 M _ (H2.out.fw HB1.out) (by omega)).mono ?_; rw [HG]; rintro e w2 ⟨rfl, hb2⟩; have HB2 := Lib.hid (bt HB1.out hb2); clear hb2))
    go_ret
    exact ⟨rfl, HB3.out⟩
  obtain ⟨hg, hk⟩ := hg
  obtain rfl : k = n := by omega
  have hlen := h2.len
  have hpos : 0 < M.length := by omega
  have h0 := hg (M[0]) (List.getElem_mem hpos)
  have hM := mlist_fnOf (k := colsL M) hlen (fun x hx => (hg x hx).2.2) hb2
  rw [hM] at h2
  exact any_main k r a c (colsL M) (fnOf M) b m e p w h2 h3 hp (by omega) (by omega) (by omega) (by omega) (by have := h0.1; have := h0.2.2; omega) (by have := h0.2.1; have := h0.2.2; omega) hm
end Go.Proofs.Ytioiaiifkfopnaa
