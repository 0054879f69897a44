/- PolynomialUnique: the walk. -/
import Derived.Test.YtkbcingibgnnpaaDist
import Derived.Test.YtkbcingibgnnpaaPolyU
namespace Go.Proofs.Ytkbcingibgnnpaa
open Go.RowKit Go.Kin
set_option maxRecDepth 100000

/-- The values of p at xs. -/
def valsAt (p : Poly) (xs : List Nat) : List Nat := xs.map fun x => (Poly.eval p (Fq.of x)).n
theorem valsAt_byt (p : Poly) (xs : List Nat) : Gf.Byt (valsAt p xs) := fun x hx => by
  obtain ⟨y, _, rfl⟩ := List.mem_map.1 hx
  exact (Poly.eval p (Fq.of y)).h
theorem valsAt_takes (p : Poly) (xs : List Nat) : Poly.Takes p xs (valsAt p xs) := fun i x y hx hy => by
  rw [valsAt, List.getElem?_map, hx] at hy
  cases hy
  rw [Fq.of_val]

set_option maxHeartbeats 1600000 in
theorem walk_PolynomialUnique (a : Option Addr) (n c : Nat) (p : List Nat) (b : Option Addr) (m d : Nat) (xs : List Nat) (g : Option Addr) (k f : Nat) (ys : List Nat) (w : World) (h1 : Rd vb w a n c p) (hp : ∀ x ∈ p, x < 256) (h2 : Rd vb w b m d xs) (hq : ∀ x ∈ xs, x < 256) (h3 : Rd vb w g k f ys) (hr : ∀ x ∈ ys, x < 256) :
    Calls Try.prog 4 #[.slice a n c, .slice b m d, .slice g k f] w fun e w' => e = .returned (.bool true) ∧ Below w.heap.size w w' := by
  obtain ⟨i0, hi, hz0, hz1, hz2⟩ := info_parts info5
  have u1 := Try.underlying22
  have bp : Gf.Byt p := hp
  have bx : Gf.Byt xs := hq
  have byy : Gf.Byt ys := hr
  clear hp hq hr
  have hk9 : k ≤ 9223372036854775807 := by have := h3.cap; have := h3.max; unfold maxLen at *; omega
  have kp := Poly.sz_of_le p
  rw [h1.len] at kp
  obtain ⟨s, HS⟩ : ∃ s, Hid ((Poly.of p).sz = s) := ⟨_, rfl⟩
  rw [HS.out] at kp
  by_cases hbig : 30 < n ∨ 30 < m
  · have mb : (decide (30 < n) || decide (30 < m)) = true := by simpa using hbig
    have MB := Lib.hid mb
    clear mb hbig
    go_enter Try.func4, Try.ntmps4
    go_wp2_with (first
      | (go_at_call 13; refine (awake_any _).mono ?_; rintro e w1 ⟨rfl, b1⟩)
      | (go_at_call 18; refine (many2 a b n m c d _ _ rfl).mono ?_; rintro e w' ⟨rfl, rfl⟩; rw [MB.out]))
    go_ret
    exact ⟨rfl, below_alloc _ b1⟩
  · have mb : (decide (30 < n) || decide (30 < m)) = false := by simp; omega
    have MB := Lib.hid mb
    have hn : n ≤ 30 := by omega
    have hm : m ≤ 30 := by omega
    clear mb hbig
    by_cases hnd : xs.Nodup
    · have hf : decide xs.Nodup = true := decide_eq_true hnd
      have ND := Lib.hid hnd
      have HF := Lib.hid hf
      clear hnd hf
      go_enter Try.func4, Try.ntmps4
      go_wp2_with (first
        | (go_at_call 13; refine (awake_any _).mono ?_; rintro e w1 ⟨rfl, b1⟩)
        | (go_at_call 18; refine (many2 a b n m c d _ _ rfl).mono ?_; rintro e w' ⟨rfl, rfl⟩; rw [MB.out])
        | (go_at_call 19; refine (ldistinct_any _ _ _ xs _ (by repeat (first | assumption | apply Rd.alloc | (apply Rd.fw2; assumption))) bx).mono ?_; rintro e w2 ⟨rfl, b2⟩; rw [HF.out]))
      have B2 : Below w.heap.size w w2 := by repeat (first | assumption | apply below_alloc | (apply bt'; assumption))
      clear b1 b2
      have hw2 := B2.size
      go_loopw [7, 9, 29] (fun o _ i wr => ∃ (j : Nat) (oa : Option Addr) (oc : Nat), j ≤ m ∧ i = .int .i64 (j : Int) ∧ o = .slice oa j oc ∧ Hid (Own vb w.heap.size 5 wr oa j oc (valsAt (Poly.of p) (xs.take j))) ∧ Below w.heap.size w wr) (fun _ _ i _ => m - (intOf i).toNat)
      case atStart => exact ⟨0, none, 0, by omega, rfl, rfl, ⟨rfl, .inl ⟨rfl, rfl, rfl⟩⟩, B2⟩
      case round =>
        obtain ⟨j, oa, oc, hj, rfl, rfl, hO, hbe⟩ := hrel
        have hws := hbe.size
        by_cases hlt : j < m
        · obtain ⟨x, hxx⟩ : ∃ x, xs[j]? = some x := ⟨_, List.getElem?_eq_getElem (by rw [h2.len]; omega)⟩
          obtain ⟨o1, o2, rfl, c1⟩ := (h2.fw hbe).cell j x hxx
          have bxx := bx.at hxx
          have HX := Lib.hid hxx; clear hxx
          unfold vb at c1
          have i1 : (j : Int) < (m : Int) := by omega
          obtain ⟨z, HZ⟩ : ∃ z, Hid (Poly.eval (Poly.of p) (Fq.of x) = z) := ⟨_, rfl⟩
          go_wp2_with (first
            | (go_at_call 20; refine (eval_any a n c p ((x : Nat) : Int) _ (h1.fw hbe) bp (by omega) (by omega)).mono ?_; rw [Int.toNat_natCast, HZ.out]; rintro e w3 ⟨rfl, hd⟩; have N3 := Lib.hid (((blk_new vb 5 w3 [z.n]).rdn (n := 1) (c := 1) rfl (Nat.le_refl _) (by omega))); have ba3 : Below w3.heap.size w3 (w3.alloc (.cells (row vb [z.n]) 5 (0, 0))) := (Below.refl _ _).alloc (Nat.le_refl _) _; have O3 := Lib.hid ((hO.out.fw hd.fw).fw ba3); have b3 := bt (bt hbe hd.fw) ba3)
            | (at_builtin; refine wpList_append_rd rfl (.tmp 33) (.tmp 37) 22 rfl vb vb_one w.heap.size 5 i0 (.int .u8 0) 1 u1 hi hz0 hz1 hz2 rfl _ j oc _ rfl O3.out (some ⟨w3.heap.size, 0, none⟩) 1 1 [z.n] rfl N3.out (by unfold maxLen; omega) (by omega) b3.size ?_; intro sa c2 w4 hown hgr))
          go_roundw
          case rel =>
            refine ⟨j + 1, sa, c2, by omega, by go_num, rfl, ?_, b3.grown hgr b3.size fun y hy => (O3.out.ownsRow.lt y hy).1⟩
            show Own _ _ _ _ _ _ _ _
            rw [take_succ_get HX.out, valsAt, List.map_append, List.map_singleton, HZ.out]
            exact hown
          case measure => simp [intOf]; omega
        · have hjm : j = m := by omega
          subst hjm
          have rv := hO.out.rd
          rw [List.take_of_length_le (by rw [h2.len]; omega)] at rv
          clear hO hlt
          rename World => w5
          have T1 := Lib.hid (valsAt_takes (Poly.of p) xs)
          have kx := h2.len
          have rv0 := rv
          by_cases hkm : k = j
          · subst hkm
            rcases Nat.lt_or_ge k s with hsm | hsm
            all_goals
              go_wp2_with (first
                | (go_at_call_of 14 oa; refine (interp_g _ _ _ _ _ xs (valsAt (Poly.of p) xs) _ (h2.fw hbe) rv bx (valsAt_byt _ _) (by omega) ND.out).mono ?_; rintro e w6 ⟨P1, hs1, ht1, a6, n6, c6, rfl, r6, b6⟩; have hl6 := r6.len; rw [Poly.out_length] at hl6; have L6 := Lib.hid hl6; have HS1 := Lib.hid hs1; rw [hl6] at hs1; have HT1 := Lib.hid ht1; clear hl6 ht1)
                | (go_at_call_of 21 a; refine (degree_any _ _ _ p _ (by repeat (first | assumption | apply Rd.alloc | (apply Rd.fw2; assumption))) bp).mono ?_; rintro e w' ⟨rfl, rfl⟩; rw [HS.out])
                | (go_at_call_of 21 a6; refine (degree_any _ _ _ _ _ (by repeat (first | assumption | apply Rd.alloc | (apply Rd.fw2; assumption))) (Poly.out_byt _)).mono ?_; rintro e w' ⟨rfl, rfl⟩; rw [Poly.of_out, L6.out])
                | (go_at_call 22; refine (trim_s _ _ _ p _ (by repeat (first | assumption | apply Rd.alloc | (apply Rd.fw2; assumption))) bp (by omega)).mono ?_; rintro e w7 ⟨a7, n7, c7, rfl, r7, l7, b7⟩)
                | (go_at_call 16; refine (lsame_eq _ _ _ _ _ _ _ _ _ (by repeat (first | assumption | apply Rd.alloc | (apply Rd.fw2; assumption))) (by repeat (first | assumption | apply Rd.alloc | (apply Rd.fw2; assumption))) (Poly.out_byt _) (Poly.out_byt _) (congrArg Poly.out (Poly.takes_unique bx ND.out (by simp [valsAt]) HT1.out T1.out (by rw [kx]; exact HS1.out) (by rw [kx, HS.out]; exact hsm)))).mono ?_; rintro e w' ⟨rfl, rfl⟩)
                | (go_at_call_of 14 g; refine (interp_g _ _ _ _ _ xs ys _ (by repeat (first | assumption | apply Rd.alloc | (apply Rd.fw2; assumption))) (by repeat (first | assumption | apply Rd.alloc | (apply Rd.fw2; assumption))) bx byy (by omega) ND.out).mono ?_; rintro e w8 ⟨P2, hs2, ht2, a8, n8, c8, rfl, r8, b8⟩; have hl8 := r8.len; rw [Poly.out_length] at hl8; have L8 := Lib.hid hl8; rw [hl8] at hs2; have HT2 := Lib.hid ht2; clear hl8 ht2))
              have B8 : Below w.heap.size w w8 := by repeat (first | assumption | apply below_alloc | (apply bt'; assumption))
              clear b6
              try clear b7
              go_loopw [14, 15, 82] (fun _ _ i wr => ∃ (l : Nat), l ≤ k ∧ i = .int .i64 (l : Int) ∧ Hid (Drw w8 wr)) (fun _ _ i _ => k - (intOf i).toNat)
              case atStart => exact ⟨0, by omega, rfl, Drw.refl _⟩
              case round =>
                obtain ⟨l, hl, rfl, hd⟩ := hrel
                by_cases hlt : l < k
                · obtain ⟨x, hxx⟩ : ∃ x, xs[l]? = some x := ⟨_, List.getElem?_eq_getElem (by rw [h2.len]; omega)⟩
                  obtain ⟨y, hyy⟩ : ∃ y, ys[l]? = some y := ⟨_, List.getElem?_eq_getElem (by rw [h3.len]; omega)⟩
                  have hB := bt B8 hd.out.fw
                  obtain ⟨o1, o2, rfl, c1⟩ := (h2.fw hB).cell l x hxx
                  obtain ⟨o3, o4, rfl, c2⟩ := (h3.fw hB).cell l y hyy
                  have bxx := bx.at hxx
                  have bhy := byy.at hyy
                  unfold vb at c1 c2
                  have i1 : (l : Int) < (k : Int) := by omega
                  have ev : Hid ((Poly.eval P2 (Fq.of x)).n = y) := by
                    show _ = _
                    rw [HT2.out l x y hxx hyy, Fq.of_n bhy]
                  have E1 : ∀ i : Nat, Calls Try.prog 20 #[.slice a8 n8 c8, .int .u8 ((x : Nat) : Int)] (wr.drewN i) fun e w' => e = .returned (.int .u8 ((y : Nat) : Int)) ∧ Drw (wr.drewN i) w' := by
                    intro i
                    have := eval_any a8 n8 c8 (Poly.out P2) ((x : Nat) : Int) (wr.drewN i) (r8.drw (hd.out.step i)) (Poly.out_byt _) (by omega) (by omega)
                    rwa [Int.toNat_natCast, Poly.of_out, ev.out] at this
                  clear hxx hyy
                  go_wp2_with fail
                  go_quiet ((go_at_call 20; exact qdrw (E1 _)))
                  go_wp2
                  go_roundw
                  case rel => exact ⟨l + 1, by omega, by go_num, hd.out.step nq⟩
                  case measure => simp [intOf]; omega
                · have hB := bt B8 hd.out.fw
                  have R8 := r8.drw hd.out
                  go_wp2_with (go_at_call 21; refine (degree_any _ _ _ _ _ R8 (Poly.out_byt _)).mono ?_; rintro e w' ⟨rfl, rfl⟩; rw [Poly.of_out, L8.out])
                  go_ret
                  exact ⟨ret_bool (by simp; omega), hB⟩
          · rcases Nat.lt_or_ge j s with hsm | hsm
            all_goals
              go_wp2_with (first
                | (go_at_call_of 14 oa; refine (interp_g _ _ _ _ _ xs (valsAt (Poly.of p) xs) _ (h2.fw hbe) rv bx (valsAt_byt _ _) (by omega) ND.out).mono ?_; rintro e w6 ⟨P1, hs1, ht1, a6, n6, c6, rfl, r6, b6⟩; have hl6 := r6.len; rw [Poly.out_length] at hl6; have L6 := Lib.hid hl6; have HS1 := Lib.hid hs1; rw [hl6] at hs1; have HT1 := Lib.hid ht1; clear hl6 ht1)
                | (go_at_call_of 21 a; refine (degree_any _ _ _ p _ (by repeat (first | assumption | apply Rd.alloc | (apply Rd.fw2; assumption))) bp).mono ?_; rintro e w' ⟨rfl, rfl⟩; rw [HS.out])
                | (go_at_call_of 21 a6; refine (degree_any _ _ _ _ _ (by repeat (first | assumption | apply Rd.alloc | (apply Rd.fw2; assumption))) (Poly.out_byt _)).mono ?_; rintro e w' ⟨rfl, rfl⟩; rw [Poly.of_out, L6.out])
                | (go_at_call 22; refine (trim_s _ _ _ p _ (by repeat (first | assumption | apply Rd.alloc | (apply Rd.fw2; assumption))) bp (by omega)).mono ?_; rintro e w7 ⟨a7, n7, c7, rfl, r7, l7, b7⟩)
                | (go_at_call 16; refine (lsame_eq _ _ _ _ _ _ _ _ _ (by repeat (first | assumption | apply Rd.alloc | (apply Rd.fw2; assumption))) (by repeat (first | assumption | apply Rd.alloc | (apply Rd.fw2; assumption))) (Poly.out_byt _) (Poly.out_byt _) (congrArg Poly.out (Poly.takes_unique bx ND.out (by simp [valsAt]) HT1.out T1.out (by rw [kx]; exact HS1.out) (by rw [kx, HS.out]; exact hsm)))).mono ?_; rintro e w' ⟨rfl, rfl⟩))
              go_ret
              exact ⟨rfl, by repeat (first | assumption | apply below_alloc | (apply bt'; assumption))⟩
    · have hf : decide xs.Nodup = false := decide_eq_false hnd
      have HF := Lib.hid hf
      clear hnd hf
      go_enter Try.func4, Try.ntmps4
      go_wp2_with (first
        | (go_at_call 13; refine (awake_any _).mono ?_; rintro e w1 ⟨rfl, b1⟩)
        | (go_at_call 18; refine (many2 a b n m c d _ _ rfl).mono ?_; rintro e w' ⟨rfl, rfl⟩; rw [MB.out])
        | (go_at_call 19; refine (ldistinct_any _ _ _ xs _ (by repeat (first | assumption | apply Rd.alloc | (apply Rd.fw2; assumption))) bx).mono ?_; rintro e w2 ⟨rfl, b2⟩; rw [HF.out]))
      go_ret
      exact ⟨rfl, by repeat (first | assumption | apply below_alloc | (apply bt'; assumption))⟩
end Go.Proofs.Ytkbcingibgnnpaa
