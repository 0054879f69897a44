/- shamir.Split. -/
import Derived.Test.YtioiaiifkfopnaaCo
import Derived.Test.YtioiaiifkfopnaaOa
namespace Go.Kin
open Go.RowKit
/-- make([]T, 0, n), for elements of s cells. -/
theorem wpList_make_A {α : Type} {P : Program} {w : World} {ops : Array Oper} {rest : List Oper} {o : Oper} {a : Act} {Q : Exit → Act → World → Prop}
    (hg : o.guard = none) (x y : Operand) (t : TypeId) (hop : o.op = Op.makeSlice t x y) (f : α → List Value) (s : Nat) (z : Value) (e : TypeId) (i : TypeInfo)
    (h1 : P.underlying t = some (.slice e)) (h2 : P.info? e = some i) (h3 : i.zero = some z) (h4 : i.size = s)
    (kl kc : IntKind) (L C : Int) (n : Nat) (hl : a.eval x = .int kl L) (hc : a.eval y = .int kc C) (hL : L = 0) (hC : C = (n : Int)) (b2 : i.bytes * n ≤ 281474976710656) (b3 : n ≤ 140737488355328)
    (hK : ∀ w', OwnA f s w.heap.size e w' (some ⟨w.heap.size, 0, none⟩) 0 n [] → Below w.heap.size w w' → w'.heap.size = w.heap.size + 1 → wpList P ops Q rest (a.put o.dst (.slice (some ⟨w.heap.size, 0, none⟩) 0 n)) w') :
    wpList P ops Q (o :: rest) a w := by
  refine wpList_plain hg fun K hK' => ?_
  have hb' : (i.bytes : Int) * (n : Int) ≤ 281474976710656 := by
    have h : ((i.bytes * n : Nat) : Int) ≤ 281474976710656 := by omega
    rwa [Int.natCast_mul] at h
  have hrun := run_make (P := P) w t e i z h1 h2 h3 kl kc 0 (n : Int) (by omega) (by omega) hb' (by omega)
  rw [h4, Int.toNat_natCast] at hrun
  subst hL
  subst hC
  unfold Oper.wp
  simp [execOp, hop, hl, hc, hrun, Result.andThen]
  refine hK' _ _ (hK _ ⟨rfl, .inr ⟨_, _, rfl, Nat.le_refl _, heap_alloc_new w _, Nat.zero_le _, by unfold maxLen; omega, by simp [madeCells], by simp⟩⟩ ((Below.refl _ _).alloc (Nat.le_refl _) _) (by simp))
end Go.Kin
namespace Go.Proofs.Ytioiaiifkfopnaa
open Go.RowKit Go.Kin
set_option maxRecDepth 100000
set_option linter.unusedVariables false
set_option maxHeartbeats 4000000
/-- A share's cells. -/
def vsh (t : Nat × Option Addr × Nat × Nat) : List Value := [.int .i64 (t.1 : Int), vh t.2]
theorem vsh_len (t : Nat × Option Addr × Nat × Nat) : (vsh t).length = 2 := rfl
theorem vsh_one (t : Nat × Option Addr × Nat × Nat) : ∀ u ∈ vsh t, u.oneCell' = true := by
  intro u hu
  simp only [vsh, List.mem_cons, List.not_mem_nil, or_false] at hu
  rcases hu with rfl | rfl <;> rfl
/-- The values at x of the polynomials whose coefficients are the rows of R. -/
def evR (x n : Nat) (R : List (List Nat)) : List Nat := hornL x n (fun k : Fin R.length => R.get k) (backL R.length R.length)
theorem evR_len {x n : Nat} {R : List (List Nat)} (h : ∀ l ∈ R, l.length = n) : (evR x n R).length = n := hornL_len (fun k => h _ (List.get_mem _ _)) _
theorem evR_byt {x n : Nat} (hx : x < 256) {R : List (List Nat)} (h : ∀ l ∈ R, Gf.Byt l) : Gf.Byt (evR x n R) := hornL_byt hx (fun k => h _ (List.get_mem _ _)) _
theorem infoSh : (Try.prog.info? 52).map (fun i => (i.zero, i.size, i.bytes)) = some (some (.agg #[.int .i64 0, .slice none 0 0]), 2, 32) := by kernel_rfl
theorem at_any (ca : Option Addr) (r cc n x : Nat) (H : List (Option Addr × Nat × Nat)) (R : List (List Nat)) (Bl : Nat) (w : World) (ho : Rd vh w ca r cc H) (hR : R.length = r) (hr1 : 1 ≤ r) (hr : r ≤ 16) (hn : n ≤ 1024) (hx : x < 256)
    (hrow : ∀ (i : Nat) (h : Option Addr × Nat × Nat) (l : List Nat), H[i]? = some h → R[i]? = some l → Rd vb w h.1 h.2.1 h.2.2 l) (hln : ∀ l ∈ R, l.length = n) (hb : ∀ l ∈ R, Gf.Byt l) (hBl : w.cell? ⟨Bl, 0, none⟩ = some (.slice ca r cc)) :
    Calls Try.prog 64 #[.int .i64 (x : Int), .pointer (some ⟨Bl, 0, none⟩)] w (RetBlk vb 5 w (evR x n R)) := by
  subst hR
  have hl := ho.len
  have hg : ∀ k : Fin R.length, H[k.1]? = some (H.get ⟨k.1, by rw [hl]; exact k.2⟩) := fun k => List.getElem?_eq_getElem _
  have hgR : ∀ k : Fin R.length, R[k.1]? = some (R.get k) := fun k => List.getElem?_eq_getElem _
  have h3 := fun k : Fin R.length => hrow k.1 _ _ (hg k) (hgR k)
  have hnn : ∀ k : Fin R.length, (H.get ⟨k.1, by rw [hl]; exact k.2⟩).2.1 = n := fun k => by rw [← (h3 k).len]; exact hln _ (List.get_mem _ _)
  obtain ⟨b, o, rfl, _⟩ := ho.cell 0 _ (hg ⟨0, by omega⟩)
  refine ev1_any b o R.length cc n x hr1 hr hn hx (fun k => (H.get ⟨k.1, by rw [hl]; exact k.2⟩).1) (fun k => (H.get ⟨k.1, by rw [hl]; exact k.2⟩).2.2) (fun k => R.get k) Bl w hBl (fun k => ?_) (fun k => ?_) (fun k => hb _ (List.get_mem _ _))
  · obtain ⟨b', o', e, hc⟩ := ho.cell k.1 _ (hg k)
    cases e
    rw [hc]
    unfold vh
    rw [hnn k]
  · have := h3 k
    rw [hnn k] at this
    exact this
theorem split_any (a : Option Addr) (n c : Nat) (s : List Nat) (la : Option Addr) (m lc : Nat) (M : List (List Nat)) (xa : Option Addr) (q xc : Nat) (xs : List Nat) (w : World)
    (hs : Rd vb w a n c s) (hM : RdM w la m lc M) (hX : Rd vn w xa q xc xs) (hsb : Gf.Byt s) (hMb : ∀ l ∈ M, Gf.Byt l) (hMn : ∀ l ∈ M, l.length = n) (hm : m ≤ 14) (hn : n ≤ 1024) (hq : q ≤ 64) (hx : ∀ x ∈ xs, 1 ≤ x ∧ x ≤ 255) (hnd : xs.Nodup) :
    Calls Try.prog 24 #[.slice a n c, .slice la m lc, .slice xa q xc] w fun e w' => ∃ (sa : Option Addr) (sc : Nat) (T : List (Nat × Option Addr × Nat × Nat)), e = .returned (.tuple #[.slice sa q sc, .int .i64 0]) ∧ RdA vsh 2 w' sa q sc T ∧ T.map Prod.fst = xs ∧
      (∀ t ∈ T, Rd vb w' t.2.1 t.2.2.1 t.2.2.2 (evR t.1 n (s :: M))) ∧ Below w.heap.size w w' := by
  obtain ⟨i0, hi, hz0, hz1, hz2⟩ := info_parts infoSh
  have u0 := Try.underlying26
  obtain ⟨L, hL, hML, hrows⟩ := hM
  have HM : Hid (RdM w la m lc M) := ⟨L, hL, hML, hrows⟩
  have HL := Lib.hid hL; have HR := Lib.hid hrows; have HS := Lib.hid hs; have HX := Lib.hid hX
  have i5 : ¬ (1024 < (n : Int)) := by omega
  clear hL hrows hs hX
  go_enter Try.func24, Try.ntmps24
  go_wp2_with (first
    | (go_at_call 44; refine (validLists_any la m lc n M _ HM.out (by omega) hn hMn).mono ?_; rintro e w' ⟨rfl, rfl⟩)
    | (go_at_call 45; refine (validXs_any xa q xc xs _ HX.out hq hx hnd).mono ?_; rintro e w3 ⟨rfl, hb3⟩; have B3 := Lib.hid hb3; clear hb3)
    | (go_at_call 47
       have hb5 := ((Below.refl w3.heap.size w3).alloc (Nat.le_refl _) (.cells #[.slice a n c] 23)).alloc (by simp) (.cells #[.slice (some ⟨w3.heap.size, 0, none⟩) 1 1, .slice la m lc] 30)
       have hN := heap_alloc_new (w3.alloc (.cells #[.slice a n c] 23)) (.cells #[.slice (some ⟨w3.heap.size, 0, none⟩) 1 1, .slice la m lc] 30)
       rw [World.size_alloc] at hN
       refine (concat_any (w3.heap.size + 1) (some ⟨w3.heap.size, 0, none⟩, 1, 1) (la, m, lc) [(a, n, c)] L _ (cell_of_row _ _ 0 _ _ _ hN) (cell_of_row _ _ 1 _ _ _ hN) ((rd_new vh 23 w3 [(a, n, c)] (n := 1) rfl (by omega)).fw ((Below.refl _ _).alloc (Nat.le_refl _) _)) ((HL.out.fw B3.out).fw hb5) (by show 1 ≤ 1 + m; omega) (by show 1 + m ≤ 100; omega)).mono ?_
       rintro e w6 ⟨ca, cc, rfl, hO, hb6⟩
       have O6 := Lib.hid hO; have B6 := Lib.hid (bt B3.out (hb5.trans (hb6.mono hb5.size))); clear hb5 hN hO hb6)
    | (go_at_call 46; refine (ev_any ca (1 + m) cc w6).mono ?_; rintro e w' ⟨rfl, rfl⟩)
    | (at_make; refine wpList_make_A rfl (.const (.int .i64 0)) (.tmp 32) 26 rfl vsh 2 _ 52 i0 u0 hi hz0 hz1 _ _ _ _ q rfl rfl rfl rfl (by rw [hz2]; omega) (by omega) ?_; intro w8 hk8 hb8 hs8; have O8 := Lib.hid hk8; have B8 := Lib.hid hb8; clear hk8 hb8 hs8)
    | fail)
  have hca := O6.out.rd
  have b7 : Below w6.heap.size w6 (w6.alloc (.cells #[.slice ca (1 + m) cc] 30)) := (Below.refl _ _).alloc (Nat.le_refl _) _
  have B7 := Lib.hid (bt B6.out b7)
  have bx := Boxed.new w6 30 (.slice ca (1 + m) cc)
  have C7 := Lib.hid bx.cell
  have R7 := Lib.hid (hca.fw b7)
  have Hrow7 : Hid (∀ (i : Nat) (h : Option Addr × Nat × Nat) (l : List Nat), ([(a, n, c)] ++ L)[i]? = some h → (s :: M)[i]? = some l → Rd vb (w6.alloc (.cells #[.slice ca (1 + m) cc] 30)) h.1 h.2.1 h.2.2 l) := by
    intro i h l h1 h2
    cases i with
    | zero => cases h1; cases h2; exact HS.out.fw B7.out
    | succ i => exact (HR.out i h l h1 h2).fw B7.out
  have hsl := HS.out.len
  obtain ⟨w7, hw7⟩ : ∃ w7, w7 = w6.alloc (.cells #[.slice ca (1 + m) cc] 30) := ⟨_, rfl⟩
  rw [← hw7] at B7 C7 R7 Hrow7 O8 B8
  have hsz7 : w7.heap.size = w6.heap.size + 1 := by rw [hw7]; simp
  have HSZ := Lib.hid hsz7
  clear hca b7 bx hw7 hsz7
  go_loopw [9, 11, 36] (fun sv _ i wr => ∃ (k : Nat) (sa : Option Addr) (sc : Nat) (T : List (Nat × Option Addr × Nat × Nat)), k ≤ q ∧ i = .int .i64 (k : Int) ∧ sv = .slice sa k sc ∧ Hid (OwnA vsh 2 w7.heap.size 52 wr sa k sc T) ∧ Hid (T.map Prod.fst = xs.take k) ∧
    Hid (∀ t ∈ T, ∃ g, t.2 = (some ⟨g, 0, none⟩, n, n) ∧ Blk vb 5 wr g (evR t.1 n (s :: M))) ∧ Hid (Below w7.heap.size w7 wr)) (fun _ _ i _ => q - (intOf i).toNat)
  case atStart => exact ⟨0, _, _, [], by omega, rfl, rfl, by rw [← HSZ.out]; exact O8, by first | exact ⟨rfl, fun t ht => absurd ht List.not_mem_nil, B8.out⟩ | exact ⟨fun t ht => absurd ht List.not_mem_nil, B8.out⟩⟩
  case round =>
    obtain ⟨k, sa, sc, T, hk, rfl, rfl, HO, HT, HV, HB⟩ := hrel
    by_cases hlt : k < q
    · have i2 : (k : Int) < (q : Int) := by omega
      obtain ⟨x, hxx⟩ : ∃ x, xs[k]? = some x := ⟨_, List.getElem?_eq_getElem (by rw [HX.out.len]; omega)⟩
      obtain ⟨o1, o2, rfl, c1⟩ := ((HX.out.fw B7.out).fw HB.out).cell k x hxx
      obtain ⟨bx1, bx2⟩ := hx x (List.mem_of_getElem? hxx)
      have HXX := Lib.hid hxx; clear hxx
      unfold vn at c1
      have cB := Lib.hid ((HB.out.cell (p := ⟨w6.heap.size, 0, none⟩) (by show w6.heap.size < w7.heap.size; have := HSZ.out; omega)).trans C7.out)
      have RB := Lib.hid (R7.out.fw HB.out)
      have RwB : Hid (∀ (i : Nat) (h : Option Addr × Nat × Nat) (l : List Nat), ([(a, n, c)] ++ L)[i]? = some h → (s :: M)[i]? = some l → Rd vb wr h.1 h.2.1 h.2.2 l) := fun i h l h1 h2 => (Hrow7.out i h l h1 h2).fw HB.out
      have hRl : Hid ((s :: M).length = 1 + m) := by show (s :: M).length = 1 + m; rw [List.length_cons, hML]; omega
      have hRn : Hid (∀ l ∈ s :: M, l.length = n) := fun l hl => by rcases List.mem_cons.1 hl with rfl | hl; · exact HS.out.len
                                                                    · exact hMn l hl
      have hRb : Hid (∀ l ∈ s :: M, Gf.Byt l) := fun l hl => by rcases List.mem_cons.1 hl with rfl | hl; · exact hsb
                                                                · exact hMb l hl
      go_wp2_with (first
        | (go_at_call 64; refine (at_any ca (1 + m) cc n x ([(a, n, c)] ++ L) (s :: M) w6.heap.size wr RB.out hRl.out (by omega) (by omega) hn (by omega) RwB.out hRn.out hRb.out cB.out).mono ?_; rintro e w9 ⟨g9, rfl, hg9, hG9, hb9⟩; rw [evR_len hRn.out]
           have ba9 : Below w9.heap.size w9 (w9.alloc (.cells #[.int .i64 (x : Int), .slice (some ⟨g9, 0, none⟩) n n] 52)) := (Below.refl _ _).alloc (Nat.le_refl _) _
           have bb9 := bt hb9 ba9
           have OA := Lib.hid (HO.out.fw bb9)
           have G9 := Lib.hid (hG9.fw ba9); have B9 := Lib.hid bb9; have VA : Hid (∀ t ∈ T, ∃ g, t.2 = (some ⟨g, 0, none⟩, n, n) ∧ Blk vb 5 (w9.alloc (.cells #[.int .i64 (x : Int), .slice (some ⟨g9, 0, none⟩) n n] 52)) g (evR t.1 n (s :: M))) := (fun t ht => (by obtain ⟨g, e, hg⟩ := HV.out t ht; exact ⟨g, e, hg.fw bb9⟩))
           have hnew : Hid ((w9.alloc (.cells #[.int .i64 (x : Int), .slice (some ⟨g9, 0, none⟩) n n] 52)).heap[w9.heap.size]? = some (.cells #[.int .i64 (x : Int), .slice (some ⟨g9, 0, none⟩) n n] 52 (0, 0))) := heap_alloc_new w9 _
           clear hG9 hb9 hg9 ba9 bb9)
        | (at_builtin; refine wpList_pushA rfl (.tmp 40) (.tmp 46) 26 rfl vsh 2 vsh_len vsh_one w7.heap.size 52 i0 (.agg #[.int .i64 0, .slice none 0 0]) 32 u0 hi hz0 hz1 hz2 rfl (by omega) sa k sc _ rfl OA.out w9.heap.size (x, some ⟨g9, 0, none⟩, n, n) _ rfl _ _ rfl hnew.out (by omega) (by omega) (Nat.le_trans HB.out.size B9.out.size) ?_; intro g5 c5 w10 hown hgr hl; have O10 := Lib.hid hown; have B10 : Hid (Below w7.heap.size w7 w10) := (bt HB.out B9.out).grown hgr (Nat.le_trans HB.out.size B9.out.size) (fun k hk => (OA.out.lt k hk).1)
           have KT : Hid (∀ (g : Nat) (l : List Nat), Blk vb 5 (w9.alloc (.cells #[.int .i64 (x : Int), .slice (some ⟨g9, 0, none⟩) n n] 52)) g l → Blk vb 5 w10 g l) := fun g l hg => (hgr.block g hg.lt (by
             intro e
             cases sa with
             | none => simp [Value.ownBlock] at e
             | some y =>
               obtain ⟨_, _, cur, hcu⟩ := OA.out.blt rfl
               have e2 : g = y.block := by simpa [Value.ownBlock] using e
               subst e2
               rw [show _ = _ from hg] at hcu
               cases hcu)).trans hg
           clear hown hgr hl)
        | fail)
      go_roundw
      case rel =>
        refine ⟨k + 1, _, _, _, by omega, by go_num, rfl, O10.out, ?_, ?_, B10.out⟩
        · show List.map Prod.fst _ = _
          rw [List.map_append, HT.out, take_succ_get HXX.out]; rfl
        · intro t ht
          rcases List.mem_append.1 ht with ht | ht
          · obtain ⟨g, e, hg⟩ := VA.out t ht
            exact ⟨g, e, KT.out g _ hg⟩
          · obtain rfl := List.mem_singleton.1 ht
            exact ⟨g9, rfl, KT.out g9 _ G9.out⟩
      case measure => simp [intOf]; omega
    · obtain rfl : k = q := by omega
      have BB := Lib.hid (bt B7.out HB.out)
      go_wp2_with fail
      go_ret2
      refine ⟨sa, sc, T, rfl, HO.out.rda vsh_len, ?_, ?_, BB.out⟩
      · rw [HT.out, List.take_of_length_le (by rw [HX.out.len]; omega)]
      · intro t ht
        obtain ⟨g, e, hg⟩ := HV.out t ht
        rw [e]
        have hRn : ∀ l ∈ s :: M, l.length = n := fun l hl => by
          rcases List.mem_cons.1 hl with rfl | hl
          · exact HS.out.len
          · exact hMn l hl
        show Rd vb _ (some ⟨g, 0, none⟩) n n (evR t.1 n (s :: M))
        exact hg.rdn (evR_len hRn) (Nat.le_refl n) (by omega)
end Go.Proofs.Ytioiaiifkfopnaa
