/- kinkeepref02.Same, Dot, MulAdd. -/
import Derived.Test.YtgjfgmapdnohhaaRefA
import Derived.Test.YtgjfgmapdnohhaaScale
import Derived.Deep.RegionHeld3
import Derived.Deep.AppendLies
namespace Go.Proofs.Ytgjfgmapdnohhaa
open Go.RowKit Go.Kin
set_option maxRecDepth 100000

theorem rsame_any (a b : Option Addr) (n m c d : Nat) (p q : List Nat) (w : World) (h1 : Rd vb w a n c p) (h2 : Rd vb w b m d q) (hp : Gf.Byt p) (hq : Gf.Byt q) :
    Calls Try.prog 29 #[.slice a n c, .slice b m d] w fun e w' => e = .returned (.bool (decide (p = q))) ∧ w = w' := by
  have s1 := run_string_rd (P := Try.prog) h1 Try.underlying40 Try.underlying5 Try.underlying9
  have s2 := run_string_rd (P := Try.prog) h2 Try.underlying40 Try.underlying5 Try.underlying9
  have e1 := Lib.hid (strB_toList hp hq)
  clear h1 h2
  go_enter Try.func29, Try.ntmps29
  go_wp2
  go_ret
  exact ⟨ret_bool e1.out, rfl⟩

theorem rsame_eq (a b : Option Addr) (n m c d : Nat) (p q : List Nat) (w : World) (h1 : Rd vb w a n c p) (h2 : Rd vb w b m d q) (hp : Gf.Byt p) (hq : Gf.Byt q) (h : p = q) :
    Calls Try.prog 29 #[.slice a n c, .slice b m d] w fun e w' => e = .returned (.bool true) ∧ w = w' :=
  (rsame_any a b n m c d p q w h1 h2 hp hq).mono fun _ _ ⟨he, hw⟩ => ⟨by rw [he, decide_eq_true h], hw⟩

theorem rdot_any (a b : Option Addr) (n c d : Nat) (p q : List Nat) (w : World) (h1 : Rd vb w a n c p) (h2 : Rd vb w b n d q) (hp : Gf.Byt p) (hq : Gf.Byt q) :
    Calls Try.prog 32 #[.slice a n c, .slice b n d] w fun e w' => e = .returned (.int .u8 (Gf.dot p q : Nat)) ∧ Below w.heap.size w w' := by
  have hm : n ≤ 9223372036854775807 := by have := h1.cap; have := h1.max; unfold maxLen at *; omega
  have H1 := Lib.hid h1; have H2 := Lib.hid h2; clear h1 h2
  go_enter Try.func32, Try.ntmps32
  go_wp2
  go_loopw [5, 6, 9] (fun s _ i wr => ∃ k : Nat, k ≤ n ∧ i = .int .i64 (k : Int) ∧ s = .int .u8 ((Gf.dotTo p q k : Nat) : Int) ∧ Below w.heap.size w wr) (fun _ _ i _ => n - (intOf i).toNat)
  case atStart => exact ⟨0, by omega, rfl, rfl, Below.refl _ _⟩
  case round =>
    obtain ⟨k, hk, rfl, rfl, hB⟩ := hrel
    have hs := Gf.dotTo_lt (q := q) hp k
    by_cases hlt : k < n
    · obtain ⟨x, hx⟩ : ∃ x, p[k]? = some x := ⟨_, List.getElem?_eq_getElem (by rw [H1.out.len]; exact hlt)⟩
      obtain ⟨y, hy⟩ : ∃ y, q[k]? = some y := ⟨_, List.getElem?_eq_getElem (by rw [H2.out.len]; exact hlt)⟩
      obtain ⟨b1, o1, rfl, c1⟩ := (H1.out.fw hB).cell k x hx
      obtain ⟨b2, o2, rfl, c2⟩ := (H2.out.fw hB).cell k y hy
      have bx := hp.at hx
      have bY := hq.at hy
      have hmul := Gf.mul_lt x y bx
      have e1 : bits .xor .u8 ((Gf.dotTo p q k : Nat) : Int) ((Gf.mul x y : Nat) : Int) = ((Gf.dotTo p q (k + 1) : Nat) : Int) := by
        rw [xor8 _ _ (by omega) (by omega) (by omega) (by omega), Gf.dotTo, List.getD_eq_getElem?_getD, List.getD_eq_getElem?_getD, hx, hy]
        simp
      have E1 := Lib.hid e1; clear e1 hx hy
      unfold vb at c1 c2
      have i1 : (k : Int) < (n : Int) := by omega
      go_wp2_with fail
      go_quiet ((go_at_call 18; exact qsame (rmul_any _ _ _ (by omega) (by omega) (by omega) (by omega))))
      go_wp2
      go_roundw
      case rel => exact ⟨k + 1, by omega, by go_num, by rw [E1.out], below_drewN hB _⟩
      case measure => simp [intOf]; omega
    · have hkn : k = n := by omega
      have e1 : Gf.dotTo p q k = Gf.dot p q := by rw [Gf.dot, H1.out.len, hkn]
      have E1 := Lib.hid e1; clear e1 hkn
      go_wp2
      go_ret
      exact ⟨ret_int (by rw [E1.out]), hB⟩

theorem rmuladd_any (a b : Option Addr) (n c d : Nat) (p q : List Nat) (x : Int) (w : World) (h1 : Rd vb w a n c p) (h2 : Rd vb w b n d q) (hp : Gf.Byt p) (hq : Gf.Byt q) (hx0 : 0 ≤ x) (hx1 : x < 256) (hn : n ≤ 140737488355328) :
    Calls Try.prog 31 #[.slice a n c, .slice b n d, .int .u8 x] w (RetOwn vb 5 w (Gf.mulAdd p q x.toNat)) := by
  obtain ⟨y, rfl⟩ := Int.eq_ofNat_of_zero_le hx0
  have hy : y < 256 := by omega
  obtain ⟨i0, hi, hz0, hz1, hz2⟩ := info_parts info5
  have H1 := Lib.hid h1; have H2 := Lib.hid h2; clear h1 h2
  go_enter Try.func31, Try.ntmps31
  go_wp2
  go_loopw [7, 8, 11] (fun s _ i wr => ∃ (k : Nat) (L : List Nat), k ≤ n ∧ i = .int .i64 (k : Int) ∧ Hid (L.length = k) ∧ Hid (∀ j, j < k → L[j]? = (Gf.mulAdd p q y)[j]?) ∧ Hid (wr.ownsRow w.heap.size 5 1 s k (L.map vb)) ∧ Below w.heap.size w wr) (fun _ _ i _ => n - (intOf i).toNat)
  case atStart => exact ⟨0, [], by omega, rfl, rfl, fun j hj => by omega, World.ownsRow_nil _ _ _ _, Below.refl _ _⟩
  case round =>
    obtain ⟨k, L, hk, rfl, hL, hval, hown, hbe⟩ := hrel
    by_cases hlt : k < n
    · obtain ⟨u, hu⟩ : ∃ u, p[k]? = some u := ⟨_, List.getElem?_eq_getElem (by rw [H1.out.len]; exact hlt)⟩
      obtain ⟨t, ht⟩ : ∃ t, q[k]? = some t := ⟨_, List.getElem?_eq_getElem (by rw [H2.out.len]; exact hlt)⟩
      obtain ⟨b1, o1, rfl, c1⟩ := (H1.out.fw hbe).cell k u hu
      obtain ⟨b2, o2, rfl, c2⟩ := (H2.out.fw hbe).cell k t ht
      have nb1 : some b1 ≠ u7.ownBlock := own_ne hown.out (H1.out.blt hu)
      have nb2 : some b2 ≠ u7.ownBlock := own_ne hown.out (H2.out.blt ht)
      have bu := hp.at hu
      have bt1 := hq.at ht
      have lm := Gf.mul_lt t y bt1
      have ex : bits .xor .u8 ((u : Nat) : Int) ((Gf.mul t y : Nat) : Int) = ((Gf.mul y t ^^^ u : Nat) : Int) := by
        rw [xor8 _ _ (by omega) (by omega) (by omega) (by omega), Nat.xor_comm, Gf.mul_comm t y bt1 hy]; rfl
      have hnew : (Gf.mulAdd p q y)[k]? = some (Gf.mul y t ^^^ u) := Gf.mulAdd_get _ _ _ _ _ _ hu ht
      have HN := Lib.hid hnew; have EX := Lib.hid ex; clear hu ht ex hnew
      unfold vb at c1 c2
      have i1 : (k : Int) < (n : Int) := by omega
      have g1 := lt_of_cell c1
      have g2 := lt_of_cell c2
      have gW := hbe.size
      have HOWN := hown
      go_wp2_with fail
      go_region_held3 (fun w' => w'.cell? ⟨b1, o1 + k, none⟩ = some (.int .u8 (u : Int)) ∧ w'.cell? ⟨b2, o2 + k, none⟩ = some (.int .u8 (t : Int)))
        (first
          | go_keep
          | (go_split_ands
             refine ⟨?_, ?_⟩
             · (rw [hgrow.cell_far _ (by simp; omega) nb1]; assumption)
             · (rw [hgrow.cell_far _ (by simp; omega) nb2]; assumption)))
        (first
          | (go_simp; go_at_call 18; refine (rmul_any _ _ _ (by omega) (by omega) (by omega) (by omega)).mono ?_; rintro e w' ⟨rfl, rfl⟩)
          | (refine step_append_lies _ (by rfl) _ _ _ (by rfl) w.heap.size 5 i0 _ 1 1 Try.underlying40 hi hz0 hz1 hz2 rfl (by omega) u7 k (L.map vb) (by rfl) ((HOWN.out.alloc _).drew) ⟨wr.heap.size, 0, none⟩ 1 1 [.int .u8 (bits .xor .u8 ((u : Nat) : Int) ((Gf.mul t y : Nat) : Int))] (by rfl) (by rfl) (World.news_of_block (cs := #[.int .u8 (bits .xor .u8 ((u : Nat) : Int) ((Gf.mul t y : Nat) : Int))]) (t := 5) (fr := (0, 0)) (heap_alloc_new wr _)) (by simp [Value.oneCell']) (by omega) (by unfold maxLen; omega) (by omega) (by simp; omega) (wr.heap.size + 1) (by simp) ?_; intro gg cap w1 hown1 hgrow hat hlt1))
      go_wp2
      go_roundw
      case rel =>
        refine ⟨k + 1, L ++ [Gf.mul y t ^^^ u], by omega, by go_num, ?_, ?_, ?_, ?_⟩
        · show (L ++ [_]).length = k + 1
          rw [List.length_append, hL.out]; rfl
        · intro j hj
          rw [List.getElem?_append]
          by_cases e : j < k
          · rw [if_pos (by rw [hL.out]; exact e)]; exact hval.out j e
          · have : j = k := by omega
            subst this
            rw [if_neg (by rw [hL.out]; omega), hL.out, HN.out]; simp
        · exact own_snoc hown1 (by rw [EX.out]; rfl)
        · exact below_append ((hbe.alloc hbe.size _).drew) ((hown.out.alloc _).drew) rfl hgrow
      case measure => simp [intOf]; omega
    · have hkn : k = n := by omega
      have hlen : (Gf.mulAdd p q y).length = n := by rw [Gf.mulAdd_length _ _ _ (by rw [H1.out.len, H2.out.len]), H1.out.len]
      have hfin : L = Gf.mulAdd p q y := by
        refine list_ext_of (hL.out.trans hkn) hlen H1.out.len fun j u hu => ?_
        have hj := (List.getElem?_eq_some_iff.1 hu).1
        rw [H1.out.len] at hj
        exact hval.out j (by omega)
      obtain ⟨a', c', hv, ho⟩ := Own.of_ownsRow hown.out
      have HV := Lib.hid hv; have HO := Lib.hid ho
      have HF := Lib.hid hfin; have HL2 := Lib.hid hlen; have HK := Lib.hid hkn; clear hfin hkn hlen hv ho
      go_wp2
      go_ret
      refine ⟨a', c', ?_, ?_, hbe⟩
      · rw [Int.toNat_natCast, HL2.out, ← HK.out, ← HV.out]; rfl
      · rw [Int.toNat_natCast, HL2.out, ← HK.out, ← HF.out]
        exact HO.out
end Go.Proofs.Ytgjfgmapdnohhaa
