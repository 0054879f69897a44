/- gf256.multiplier, Scale, MulAdd. -/
import Derived.Test.YtioiaiifkfopnaaGfC
import Derived.Deep.RegionWith
namespace Gf
/-- The two tables of a multiplier after k steps. -/
def mlL (c : Nat) : Nat → List Nat
  | 0 => List.replicate 16 0
  | k + 1 => (mlL c k).set k (mul c k)
def mhL (c : Nat) : Nat → List Nat
  | 0 => List.replicate 16 0
  | k + 1 => (mhL c k).set k (mul c (k * 16))
theorem mlL_length (c k : Nat) : (mlL c k).length = 16 := by
  induction k with
  | zero => exact List.length_replicate
  | succ k ih => simp [mlL, ih]
theorem mhL_length (c k : Nat) : (mhL c k).length = 16 := by
  induction k with
  | zero => exact List.length_replicate
  | succ k ih => simp [mhL, ih]
theorem mlL_get (c k i : Nat) (h : i < k) (h2 : i < 16) : (mlL c k)[i]? = some (mul c i) := by
  induction k with
  | zero => omega
  | succ k ih =>
    rw [mlL, List.getElem?_set]
    by_cases e : k = i
    · subst e; rw [if_pos rfl, if_pos (by rw [mlL_length]; exact h2)]
    · rw [if_neg e]; exact ih (by omega)
theorem mhL_get (c k i : Nat) (h : i < k) (h2 : i < 16) : (mhL c k)[i]? = some (mul c (i * 16)) := by
  induction k with
  | zero => omega
  | succ k ih =>
    rw [mhL, List.getElem?_set]
    by_cases e : k = i
    · subst e; rw [if_pos rfl, if_pos (by rw [mhL_length]; exact h2)]
    · rw [if_neg e]; exact ih (by omega)
theorem mul_split (c a : Nat) (ha : a < 256) : mul c (a % 16) ^^^ mul c (a / 16 * 16) = mul c a := by
  rw [← mul_xor]
  have : ∀ a, a < 256 → (a % 16) ^^^ (a / 16 * 16) = a := by decide +kernel
  rw [this a ha]
end Gf
namespace Go.Proofs.Ytioiaiifkfopnaa
open Go.RowKit Go.Kin
set_option maxRecDepth 100000

def mlA (c k : Nat) : Array Value := ((Gf.mlL c k).map vb).toArray
def mhA (c k : Nat) : Array Value := ((Gf.mhL c k).map vb).toArray
theorem mlA_size (c k : Nat) : (mlA c k).size = 16 := by simp [mlA, Gf.mlL_length]
theorem mhA_size (c k : Nat) : (mhA c k).size = 16 := by simp [mhA, Gf.mhL_length]
theorem mlA_succ (c k : Nat) : mlA c (k + 1) = (mlA c k).setIfInBounds k (.int .u8 ((Gf.mul c k : Nat) : Int)) := by
  simp [mlA, Gf.mlL, List.map_set, vb]
theorem mhA_succ (c k : Nat) : mhA c (k + 1) = (mhA c k).setIfInBounds k (.int .u8 ((Gf.mul c (k * 16) : Nat) : Int)) := by
  simp [mhA, Gf.mhL, List.map_set, vb]
theorem mlA_some (c k i : Nat) (h : i < 16) : ∃ n : Nat, (mlA c k)[i]? = some (.int .u8 (n : Int)) := by
  exact ⟨_, by simp [mlA, Gf.mlL_length, h, vb]; rfl⟩
theorem mhA_some (c k i : Nat) (h : i < 16) : ∃ n : Nat, (mhA c k)[i]? = some (.int .u8 (n : Int)) := by
  exact ⟨_, by simp [mhA, Gf.mhL_length, h, vb]; rfl⟩
theorem mlA_get (c i : Nat) (h : i < 16) : (mlA c 16)[i]? = some (.int .u8 ((Gf.mul c i : Nat) : Int)) := by
  simp [mlA, Gf.mlL_get c 16 i h h, vb]
theorem mhA_get (c i : Nat) (h : i < 16) : (mhA c 16)[i]? = some (.int .u8 ((Gf.mul c (i * 16) : Nat) : Int)) := by
  simp [mhA, Gf.mhL_get c 16 i h h, vb]
theorem zero16 (c : Nat) (w : World) : (zeroValue 114).run Try.prog w = .ok (.agg (mlA c 0)) w := by kernel_rfl
theorem m16_eq (c d : Nat) : mlA c 0 = mhA d 0 := rfl
attribute [irreducible] mlA mhA

/-- The tables of the multiplier of c lie in the blocks b and b + 1. -/
def Mult (w : World) (c b : Nat) : Prop :=
  w.heap[b]? = some (.cells (mlA c 16) 114 (0, 0)) ∧ w.heap[b + 1]? = some (.cells (mhA c 16) 114 (0, 0))

theorem times_any (c b : Nat) (a : Int) (w : World) (ha0 : 0 ≤ a) (ha1 : a < 256) (hc : c < 256) (hM : Mult w c b) :
    Calls Try.prog 73 #[.int .u8 a, .pointer (some ⟨b, 0, none⟩), .pointer (some ⟨b + 1, 0, none⟩)] w fun e w' => e = .returned (.int .u8 (Gf.mul c a.toNat : Nat)) ∧ ∃ m, w' = w.drewN m := by
  obtain ⟨x, rfl⟩ := Int.eq_ofNat_of_zero_le ha0
  have hx : x < 256 := by omega
  have e1 : bits .and .u8 ((x : Nat) : Int) 15 = ((x % 16 : Nat) : Int) := by
    rw [show (15 : Int) = ((15 : Nat) : Int) from rfl, u8_and_nat x 15 hx (by omega), nat_mask4]
  have c1 : w.cell? ⟨b, x % 16, none⟩ = some (.int .u8 ((Gf.mul c (x % 16) : Nat) : Int)) := (cell_of_row w _ _ _ _ _ hM.1).trans (mlA_get c _ (by omega))
  have c2 : w.cell? ⟨b + 1, x / 16, none⟩ = some (.int .u8 ((Gf.mul c (x / 16 * 16) : Nat) : Int)) := (cell_of_row w _ _ _ _ _ hM.2).trans (mhA_get c _ (by omega))
  have l1 := Gf.mul_lt c (x % 16) hc
  have l2 := Gf.mul_lt c (x / 16 * 16) hc
  have hr : bits .xor .u8 ((Gf.mul c (x % 16) : Nat) : Int) ((Gf.mul c (x / 16 * 16) : Nat) : Int) = ((Gf.mul c x : Nat) : Int) := by
    rw [xor8 _ _ (by omega) (by omega) (by omega) (by omega), ← Gf.mul_split c x hx]; rfl
  have HR := Lib.hid hr; clear hr hM
  have b1 : ((x % 16 : Nat) : Int) < 16 := by omega
  have b2 : ((x / 16 : Nat) : Int) < 16 := by omega
  go_enter Try.func73, Try.ntmps73
  go_wp2
  go_quiet (fail)
  go_wp2
  go_ret
  exact ⟨ret_int HR.out, _, rfl⟩

theorem multiplier_any (c : Int) (w : World) (hc0 : 0 ≤ c) (hc1 : c < 256) :
    Calls Try.prog 72 #[.int .u8 c] w fun e w' => e = .returned (.func (Fn.func 73) #[] #[.pointer (some ⟨w.heap.size, 0, none⟩), .pointer (some ⟨w.heap.size + 1, 0, none⟩)]) ∧ Below w.heap.size w w' ∧ w'.heap.size = w.heap.size + 2 ∧ Mult w' c.toNat w.heap.size := by
  obtain ⟨x, rfl⟩ := Int.eq_ofNat_of_zero_le hc0
  have hx : x < 256 := by omega
  have z0 := zero16 x
  go_enter Try.func72, Try.ntmps72
  go_wp2
  go_loopw [5, 6] (fun _ i wr => ∃ k : Nat, k ≤ 16 ∧ i = .int .i64 (k : Int) ∧ wr.heap[w.heap.size]? = some (.cells (mlA x k) 114 (0, 0)) ∧ wr.heap[w.heap.size + 1]? = some (.cells (mhA x k) 114 (0, 0)) ∧ Below w.heap.size w wr ∧ wr.heap.size = w.heap.size + 2) (fun _ i _ => 16 - (intOf i).toNat)
  case atStart =>
    refine ⟨0, by omega, rfl, heap_alloc2_old w _ _, by rw [← m16_eq x x]; exact heap_alloc2_new w _ _, ((Below.refl _ _).alloc (Nat.le_refl _) _).alloc (by simp) _, by simp⟩
  case round =>
    obtain ⟨k, hk, rfl, h1, h2, h3, hsz⟩ := hrel
    have H1 := Lib.hid h1; have H2 := Lib.hid h2; have HZ := Lib.hid hsz; clear h1 h2 hsz
    by_cases hlt : k < 16
    · obtain ⟨n1, c1⟩ := mlA_some x k k hlt
      obtain ⟨n2, c2⟩ := mhA_some x k k hlt
      have d1 : wr.cell? ⟨w.heap.size, k, none⟩ = some (.int .u8 (n1 : Int)) := (cell_of_row wr _ k _ _ _ H1.out).trans c1
      have d2 : wr.cell? ⟨w.heap.size + 1, k, none⟩ = some (.int .u8 (n2 : Int)) := (cell_of_row wr _ _ _ _ _ H2.out).trans c2
      have f1 : wr.frozen? ⟨w.heap.size, k, none⟩ = false := frozen_of_row wr _ _ _ _ H1.out
      have f2 : wr.frozen? ⟨w.heap.size + 1, k, none⟩ = false := frozen_of_row wr _ _ _ _ H2.out
      have l1 := Gf.mul_lt x k hx
      clear c1 c2 z0
      go_wp2_with (go_at_call 29; refine (mul_any _ _ _ (by omega) (by omega) (by omega) (by omega)).mono ?_; rintro e w' ⟨rfl, rfl⟩)
      go_roundw
      case rel =>
        refine ⟨k + 1, by omega, by go_num, ?_, ?_, ?_, ?_⟩
        · rw [heap_setCell_other _ _ _ _ (by simp), mlA_succ]
          exact heap_setCell_same _ _ _ _ _ _ H1.out
        · rw [mhA_succ]
          refine heap_setCell_same _ _ _ _ _ _ ?_
          rw [heap_setCell_other _ _ _ _ (by simp)]
          exact H2.out
        · exact (h3.setCell (by simp) _).setCell (by simp) _
        · simpa [World.setCell] using HZ.out
      case measure => simp [intOf]; omega
    · have hk2 : k = 16 := by omega
      subst hk2
      go_wp2
      go_ret
      exact ⟨rfl, h3, HZ.out, H1.out, H2.out⟩

theorem Mult.below {w w' : World} {c b B : Nat} (h : Mult w c b) (hb : Below B w w') (hB : b + 2 ≤ B) : Mult w' c b :=
  ⟨(hb.block b (by omega)).trans h.1, (hb.block (b + 1) (by omega)).trans h.2⟩

theorem info5 : (Try.prog.info? 5).map (fun i => (i.zero, i.size, i.bytes)) = some (some (.int .u8 0), 1, 1) := by kernel_rfl

theorem scale_any (a : Option Addr) (n c : Nat) (l : List Nat) (x : Int) (w : World) (h : Rd vb w a n c l) (hl : Gf.Byt l) (hx0 : 0 ≤ x) (hx1 : x < 256) (hn : n ≤ 140737488355328) :
    Calls Try.prog 67 #[.slice a n c, .int .u8 x] w (RetBlk vb 5 w (l.map (Gf.mul x.toNat))) := by
  obtain ⟨y, rfl⟩ := Int.eq_ofNat_of_zero_le hx0
  obtain ⟨i0, hi, hz0, hz1, hz2⟩ := info_parts info5
  have hy : y < 256 := by omega
  have H := Lib.hid h; clear h
  go_enter Try.func67, Try.ntmps67
  go_wp2_with (first
    | (go_at_call 72; refine (multiplier_any _ _ (by omega) (by omega)).mono ?_; rintro e w1 ⟨rfl, hb1, hs1, hM1⟩; have HM := Lib.hid hM1; have HS := Lib.hid hs1; clear hM1 hs1)
    | (at_make; refine wpList_make_blk rfl (.tmp 12) (.tmp 12) 23 rfl vb 0 5 i0 Try.underlying23 hi hz0 hz1 rfl _ _ _ _ n rfl rfl rfl rfl (by rw [hz2]; omega) (by omega) ?_; intro w2 hk2 hb2 hs2; have HK2 := Lib.hid hk2; have HS2 := Lib.hid hs2; clear hk2 hs2))
  go_loopw [7, 8, 16] (fun _ _ i wr => ∃ (k : Nat) (L : List Nat), k ≤ n ∧ i = .int .i64 (k : Int) ∧ Hid (L.length = n) ∧ Hid (∀ j z, j < k → l[j]? = some z → L[j]? = some (Gf.mul y z)) ∧ Hid (Blk vb 5 wr w1.heap.size L) ∧ Below w1.heap.size w1 wr) (fun _ _ i _ => n - (intOf i).toNat)
  case atStart => exact ⟨0, List.replicate n 0, by omega, rfl, List.length_replicate, fun j z hj => by omega, HK2.out, hb2⟩
  case round =>
    obtain ⟨k, L, hk, rfl, hL, hval, hB, hbe⟩ := hrel
    by_cases hlt : k < n
    · obtain ⟨z, hz⟩ : ∃ z, l[k]? = some z := ⟨_, List.getElem?_eq_getElem (by rw [H.out.len]; exact hlt)⟩
      obtain ⟨b1, o1, rfl, c1⟩ := (H.out.fw (bt hb1 hbe)).cell k z hz
      have bz := hl.at hz
      have lm := Gf.mul_lt y z hy
      obtain ⟨q, hq⟩ : ∃ q, L[k]? = some q := ⟨_, List.getElem?_eq_getElem (by rw [hL.out]; exact hlt)⟩
      have hM : Mult wr y w.heap.size := HM.out.below hbe (by have := HS.out; omega)
      have d1 := hB.out.cell hq
      have f1 := hB.out.frozen k
      have HZ := Lib.hid hz; have HQ := Lib.hid hq; have HMM := Lib.hid hM; clear hz hq hM
      unfold vb at c1 d1
      have i1 : (k : Int) < (n : Int) := by omega
      go_wp2_with (go_at_call 73; refine (times_any y w.heap.size _ _ (by omega) (by omega) hy HMM.out).mono ?_; rintro e w3 ⟨rfl, m, rfl⟩; have d2 : (wr.drewN m).cell? ⟨w1.heap.size, k, none⟩ = some (.int .u8 (q : Int)) := d1; have f2 : (wr.drewN m).frozen? ⟨w1.heap.size, k, none⟩ = false := f1)
      go_roundw
      case rel =>
        refine ⟨k + 1, L.set k (Gf.mul y z), by omega, by go_num, ?_, ?_, ?_, ?_⟩
        · show (L.set k _).length = n
          rw [List.length_set]; exact hL.out
        · intro j x hj hx
          rw [List.getElem?_set]
          by_cases e : k = j
          · subst e
            rw [if_pos rfl, if_pos (by rw [hL.out]; exact hlt)]
            rw [HZ.out] at hx
            cases hx; rfl
          · rw [if_neg e]; exact hval.out j x (by omega) hx
        · exact (hB.out.drew m).set k _
        · exact (below_drewN hbe m).setCell (Nat.le_refl _) _
      case measure => simp [intOf]; omega
    · have hkn : k = n := by omega
      have hfin : L = l.map (Gf.mul y) := by
        apply List.ext_getElem?
        intro j
        rw [List.getElem?_map]
        cases hx : l[j]? with
        | none =>
          have := List.getElem?_eq_none_iff.1 hx
          exact List.getElem?_eq_none_iff.2 (by rw [hL.out, ← H.out.len]; exact this)
        | some x =>
          have hj := (List.getElem?_eq_some_iff.1 hx).1
          rw [H.out.len] at hj
          exact hval.out j x (by omega) hx
      have HF := Lib.hid hfin; clear hfin hkn
      go_wp2
      go_ret
      refine ⟨w1.heap.size, ?_, hb1.size, ?_, bt hb1 hbe⟩
      · rw [List.length_map, H.out.len]; rfl
      · have := hB.out
        rw [HF.out] at this
        exact this

theorem muladd_ne (a b : Option Addr) (n m c d : Nat) (x : Int) (w : World) (h : n ≠ m) :
    Calls Try.prog 59 #[.slice a n c, .slice b m d, .int .u8 x] w fun e w' => e = .returned (.tuple #[.slice none 0 0, .int .i64 1]) ∧ w = w' := by
  have h0 : (((n : Nat) : Int) != ((m : Nat) : Int)) = true := by simp; omega
  go_enter Try.func59, Try.ntmps59
  go_wp2
  go_ret2
  exact ⟨rfl, rfl⟩

end Go.Proofs.Ytioiaiifkfopnaa
namespace Gf
/-- The sums of the elements of p and the products of those of q with x. -/
def mulAdd (p q : List Nat) (x : Nat) : List Nat := List.zipWith (fun a b => mul x b ^^^ a) p q
theorem mulAdd_length (p q : List Nat) (x : Nat) (h : p.length = q.length) : (mulAdd p q x).length = p.length := by simp [mulAdd, h]
theorem mulAdd_get (p q : List Nat) (x i a b : Nat) (h : p[i]? = some a) (g : q[i]? = some b) : (mulAdd p q x)[i]? = some (mul x b ^^^ a) := by
  simp [mulAdd, List.getElem?_zipWith, h, g]
theorem mulAdd_byt (p q : List Nat) (x : Nat) (hp : Byt p) (hx : x < 256) : Byt (mulAdd p q x) := by
  intro z hz
  obtain ⟨i, hi⟩ := List.mem_iff_getElem?.1 hz
  simp only [mulAdd, List.getElem?_zipWith] at hi
  cases ha : p[i]? with
  | none => simp [ha] at hi
  | some a =>
    cases hb : q[i]? with
    | none => simp [ha, hb] at hi
    | some b =>
      simp [ha, hb] at hi
      subst hi
      exact xor_lt (mul_lt _ _ hx) (hp.at ha)
theorem scale_byt (q : List Nat) (x : Nat) (hx : x < 256) : Byt (q.map (mul x)) := by
  intro z hz
  obtain ⟨y, _, rfl⟩ := List.mem_map.1 hz
  exact mul_lt _ _ hx
end Gf
namespace Go.Proofs.Ytioiaiifkfopnaa
open Go.RowKit Go.Kin

theorem muladd_any (a b : Option Addr) (n c d : Nat) (p q : List Nat) (x : Int) (w : World) (h1 : Rd vb w a n c p) (h2 : Rd vb w b n d q) (hp : Gf.Byt p) (hq : Gf.Byt q) (hx0 : 0 ≤ x) (hx1 : x < 256) (hn : n ≤ 140737488355328) :
    Calls Try.prog 59 #[.slice a n c, .slice b n d, .int .u8 x] w (RetBlkErr vb 5 w (Gf.mulAdd p q x.toNat) 0) := by
  obtain ⟨y, rfl⟩ := Int.eq_ofNat_of_zero_le hx0
  have hy : y < 256 := by omega
  have H1 := Lib.hid h1; have H2 := Lib.hid h2; clear h1 h2
  go_enter Try.func59, Try.ntmps59
  go_wp2_with (go_at_call 67; refine (scale_any _ _ _ q _ _ H2.out hq (by omega) (by omega) hn).mono ?_; rintro e w1 ⟨g, rfl, hg, hG, hb1⟩; rw [List.length_map, H2.out.len]; have HG := Lib.hid hG; clear hG)
  go_loopw [9, 10, 21] (fun _ _ i wr => ∃ (k : Nat) (L : List Nat), k ≤ n ∧ i = .int .i64 (k : Int) ∧ Hid (L.length = n) ∧ Hid (∀ j u v, p[j]? = some u → q[j]? = some v → L[j]? = some (if j < k then Gf.mul y v ^^^ u else Gf.mul y v)) ∧ Hid (Blk vb 5 wr g L) ∧ Below w.heap.size w wr) (fun _ _ i _ => n - (intOf i).toNat)
  case atStart =>
    refine ⟨0, q.map (Gf.mul y), by omega, rfl, ?_, ?_, HG.out, hb1⟩
    · show (q.map _).length = n
      rw [List.length_map, H2.out.len]
    · intro j u v _ hv
      simp [hv]
  case round =>
    obtain ⟨k, L, hk, rfl, hL, hval, hB, hbe⟩ := hrel
    by_cases hlt : k < n
    · obtain ⟨u, hu⟩ : ∃ u, p[k]? = some u := ⟨_, List.getElem?_eq_getElem (by rw [H1.out.len]; exact hlt)⟩
      obtain ⟨v, hv⟩ : ∃ v, q[k]? = some v := ⟨_, List.getElem?_eq_getElem (by rw [H2.out.len]; exact hlt)⟩
      obtain ⟨b1, o1, rfl, c1⟩ := (H1.out.fw hbe).cell k u hu
      have bu := hp.at hu
      have lm := Gf.mul_lt y v hy
      have hLk : L[k]? = some (Gf.mul y v) := by rw [hval.out k u v hu hv, if_neg (by omega)]
      have d1 := hB.out.cell hLk
      have f1 := hB.out.frozen k
      have ex : bits .xor .u8 ((Gf.mul y v : Nat) : Int) ((u : Nat) : Int) = ((Gf.mul y v ^^^ u : Nat) : Int) := by rw [xor8 _ _ (by omega) (by omega) (by omega) (by omega)]; rfl
      have HU := Lib.hid hu; have HV := Lib.hid hv; have EX := Lib.hid ex; clear hu hv hLk ex
      unfold vb at c1 d1
      have i1 : (k : Int) < (n : Int) := by omega
      go_wp2
      go_roundw
      case rel =>
        refine ⟨k + 1, L.set k (Gf.mul y v ^^^ u), by omega, by go_num, ?_, ?_, ?_, ?_⟩
        · show (L.set k _).length = n
          rw [List.length_set]; exact hL.out
        · intro j s t hs ht
          rw [List.getElem?_set]
          by_cases e : k = j
          · subst e
            rw [if_pos rfl, if_pos (by rw [hL.out]; exact hlt)]
            rw [HU.out] at hs
            rw [HV.out] at ht
            cases hs; cases ht
            simp
          · rw [if_neg e, hval.out j s t hs ht]
            by_cases e2 : j < k
            · rw [if_pos e2, if_pos (by omega)]
            · rw [if_neg e2, if_neg (by omega)]
        · rw [EX.out]
          exact hB.out.set k _
        · exact hbe.setCell hg _
      case measure => simp [intOf]; omega
    · have hkn : k = n := by omega
      have hfin : L = Gf.mulAdd p q y := by
        refine list_ext_of hL.out (by rw [Gf.mulAdd_length _ _ _ (by rw [H1.out.len, H2.out.len]), H1.out.len]) H1.out.len fun j u hu => ?_
        have hj := (List.getElem?_eq_some_iff.1 hu).1
        rw [H1.out.len] at hj
        obtain ⟨v, hv⟩ : ∃ v, q[j]? = some v := ⟨_, List.getElem?_eq_getElem (by rw [H2.out.len]; exact hj)⟩
        rw [hval.out j u v hu hv, if_pos (by omega), Gf.mulAdd_get p q y j u v hu hv]
      have hlen : (Gf.mulAdd p q y).length = n := by rw [Gf.mulAdd_length _ _ _ (by rw [H1.out.len, H2.out.len]), H1.out.len]
      have HF := Lib.hid hfin; have HL2 := Lib.hid hlen; clear hfin hkn hlen
      go_wp2
      go_ret2
      refine ⟨g, ?_, hg, ?_, hbe⟩
      · rw [Int.toNat_natCast, HL2.out]; rfl
      · have := hB.out
        rw [HF.out] at this
        exact this
end Go.Proofs.Ytioiaiifkfopnaa
