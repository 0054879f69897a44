/- quota: Apply. -/
import Derived.Test.YtpecepfnmkpmmaaRa
import Derived.Test.YtpecepfnmkpmmaaQf
namespace Quo
theorem movok_split {n : Nat} {m : Mz} (h : ¬ MovOk n m) (hn : n ≤ 12) :
    (m.fr < 0 ∨ (0 ≤ m.fr ∧ (n : Int) ≤ m.fr)) ∨ (0 ≤ m.fr ∧ m.fr < n ∧ (m.dst < 0 ∨ (0 ≤ m.dst ∧ (n : Int) ≤ m.dst))) ∨ (0 ≤ m.fr ∧ m.fr < n ∧ 0 ≤ m.dst ∧ m.dst < n ∧ (m.ow < 0 ∨ (0 ≤ m.ow ∧ (n : Int) ≤ m.ow))) ∨
    (0 ≤ m.fr ∧ m.fr < n ∧ 0 ≤ m.dst ∧ m.dst < n ∧ 0 ≤ m.ow ∧ m.ow < n ∧ (m.fr = m.dst ∨ (m.fr ≠ m.dst ∧ m.fr = m.ow) ∨ (m.fr ≠ m.dst ∧ m.fr ≠ m.ow ∧ m.dst = m.ow) ∨ (m.fr ≠ m.dst ∧ m.fr ≠ m.ow ∧ m.dst ≠ m.ow ∧ m.amt < 1) ∨ (m.fr ≠ m.dst ∧ m.fr ≠ m.ow ∧ m.dst ≠ m.ow ∧ 1 ≤ m.amt ∧ 1099511627776 < m.amt))) := by
  unfold MovOk maxC at h
  omega
theorem appF_no {T : Tab} {ms : List Mz} (hT : VT T) {m : Mz} (hm : m ∈ ms) (h : ¬ MovOk T.length m) : appF T ms = (1, []) := by
  unfold appF
  rw [if_pos hT, if_neg (fun k => h (k m hm))]
theorem appR_cons (T : Tab) (m : Mz) (ms : List Mz) : appR T (m :: ms) = if at2 T m.fr.toNat m.ow.toNat < m.amt then (6, []) else if maxC - m.amt < at2 T m.dst.toNat m.ow.toNat then (2, []) else appR (movT T m) ms := rfl
theorem appF_yes {T : Tab} {ms : List Mz} (hT : VT T) (h : ∀ m ∈ ms, MovOk T.length m) : appF T ms = appR T ms := by
  unfold appF
  rw [if_pos hT, if_pos h]
end Quo
namespace Go.Proofs.Ytpecepfnmkpmmaa
open Go.RowKit Go.Kin Quo
set_option maxRecDepth 100000
set_option linter.unusedVariables false
theorem apply_no (ta : Option Addr) (n tc : Nat) (T : Tab) (ma : Option Addr) (k mc : Nat) (w : World) (h : RdT w ta n tc T) (hT : ¬ VT T) :
    Calls Try.prog 34 #[.slice ta n tc, .slice ma k mc] w fun e w' => e = .returned (.tuple #[.slice none 0 0, .int .i64 1]) ∧ w = w' := by
  have H := Lib.hid h
  have hd := decide_eq_false hT
  clear h hT
  go_enter Try.func34, Try.ntmps34
  go_wp2_with (go_at_call 15; refine (valid_any _ _ _ T _ H.out).mono ?_; rw [hd]; rintro e w' ⟨rfl, rfl⟩)
  go_ret2
  exact ⟨rfl, rfl⟩
/-- What Apply gives. -/
def GivesApp (w : World) (R : Int × Tab) (e : Ending) (w' : World) : Prop :=
  ∃ ra rc, e = .returned (.tuple #[.slice ra R.2.length rc, .int .i64 R.1]) ∧ RdT w' ra R.2.length rc R.2 ∧ Below w.heap.size w w'
theorem givesApp_err {w w' : World} {R : Int × Tab} {c : Int} (hR : R = (c, [])) (hb : Below w.heap.size w w') : GivesApp w R (.returned (.tuple #[.slice none 0 0, .int .i64 c])) w' := by
  subst hR
  exact ⟨none, 0, rfl, RdT.nil w', hb⟩
set_option maxHeartbeats 8000000 in
theorem apply_ok (ta : Option Addr) (n tc : Nat) (T : Tab) (ma : Option Addr) (k mc : Nat) (ms : List Mz) (w : World) (h : RdT w ta n tc T) (hm : RdA vmz 4 w ma k mc ms) (hT : VT T) :
    Calls Try.prog 34 #[.slice ta n tc, .slice ma k mc] w (GivesApp w (appF T ms)) := by
  have hmf : ∀ (fn : Fn) (first cap : Array Value) (w : World), (Instr.makeFunc fn first cap).run Try.prog w = .ok (.func fn first cap) w := fun _ _ _ _ => rfl
  have hn : n ≤ 12 := by have := hT.1; rw [h.len] at this; exact this
  have hklim := hm.lim
  have H := Lib.hid h
  have HMS := Lib.hid hm
  have hlen := Lib.hid h.len
  have hkl := Lib.hid hm.1
  have HV := Lib.hid hT
  have hd := decide_eq_true hT
  have b0 := below_alloc (.cells #[.int .i64 (n : Int)] 3) (below_refl w)
  have B0 := Lib.hid b0
  have hcn : Hid ((w.alloc (.cells #[.int .i64 (n : Int)] 3)).heap[w.heap.size]? = some (.cells #[.int .i64 (n : Int)] 3 (0, 0))) := heap_alloc_new w _
  clear h hT b0 hm
  go_enter Try.func34, Try.ntmps34
  go_wp2_with (go_at_call 15; refine (valid_any _ _ _ T _ H.out).mono ?_; rw [hd]; rintro e w' ⟨rfl, rfl⟩)
  generalize w.alloc (.cells #[.int .i64 (n : Int)] 3) = w1 at *
  obtain ⟨gn, hgn⟩ : ∃ gn, gn = w.heap.size := ⟨_, rfl⟩
  rw [← hgn] at hcn ⊢
  have HGN := Lib.hid hgn
  clear hgn
  go_loopw [9, 21] (fun _ i wr => ∃ j : Nat, j ≤ k ∧ i = .int .i64 (j : Int) ∧ Hid (∀ m ∈ ms.take j, MovOk T.length m) ∧ Hid (Below w1.heap.size w1 wr)) (fun _ i _ => k - (intOf i).toNat)
  case atStart => exact ⟨0, by omega, rfl, fun m hm => by simp at hm, below_refl w1⟩
  case round =>
    obtain ⟨j, hj, rfl, hv, hbe⟩ := hrel
    by_cases hlt : j < k
    · have i2 : (j : Int) < (k : Int) := by omega
      obtain ⟨m, hm⟩ : ∃ m, ms[j]? = some m := ⟨_, List.getElem?_eq_getElem (by rw [hkl.out]; exact hlt)⟩
      obtain ⟨mb, mo, rfl, c0, c1, c2, c3⟩ := RdA.mov (HMS.out.fw (bt B0.out hbe.out)) hm
      have HM := Lib.hid hm
      clear hm
      have hba := below_alloc (.cells #[.int .i64 m.fr, .int .i64 m.dst, .int .i64 m.ow, .int .i64 m.amt] 47) (below_refl wr)
      have HBA := Lib.hid (bt hbe.out hba)
      have hnc := cell_of_row _ gn 0 _ _ _ ((HBA.out.block gn (Array.getElem?_eq_some_iff.1 hcn.out).1).trans hcn.out)
      have hnew := heap_alloc_new wr (.cells #[.int .i64 m.fr, .int .i64 m.dst, .int .i64 m.ow, .int .i64 m.amt] 47)
      have f0 := cell_of_row _ wr.heap.size 0 _ _ _ hnew
      have f1 := cell_of_row _ wr.heap.size 1 _ _ _ hnew
      have f2 := cell_of_row _ wr.heap.size 2 _ _ _ hnew
      have f3 := cell_of_row _ wr.heap.size 3 _ _ _ hnew
      clear hba hnew
      obtain ⟨fr, dst, ow, amt⟩ := m
      dsimp only at c0 c1 c2 c3 f0 f1 f2 f3 HBA hnc
      go_upto_region 8 with fail
      clear c0 c1 c2 c3 hmf hd
      generalize wr.alloc (.cells #[.int .i64 fr, .int .i64 dst, .int .i64 ow, .int .i64 amt] 47) = wq at *
      generalize wr.heap.size = gm at *
      have hnc : wq.cell? ⟨gn, 0, none⟩ = some (.int .i64 (n : Int)) := hnc
      have f0 : wq.cell? ⟨gm, 0, none⟩ = some (.int .i64 fr) := f0
      have f1 : wq.cell? ⟨gm, 1, none⟩ = some (.int .i64 dst) := f1
      have f2 : wq.cell? ⟨gm, 2, none⟩ = some (.int .i64 ow) := f2
      have f3 : wq.cell? ⟨gm, 3, none⟩ = some (.int .i64 amt) := f3
      by_cases hok : MovOk n ⟨fr, dst, ow, amt⟩
      · have hv2 : Hid (∀ m ∈ ms.take (j + 1), MovOk T.length m) := by
          intro m hm
          rw [List.take_add_one, HM.out] at hm
          rcases List.mem_append.1 hm with hm | hm
          · exact hv.out m hm
          · have e : m = ⟨fr, dst, ow, amt⟩ := by simpa using hm
            rw [e, hlen.out]; exact hok
        have g7 := hok.2.2.2.2.2.2.1; have g8 := hok.2.2.2.2.2.2.2.1; have g9 := hok.2.2.2.2.2.2.2.2.1
        have e1 : (fr == dst) = false := by simpa using g7
        have e2 : (fr == ow) = false := by simpa using g8
        have e3 : (dst == ow) = false := by simpa using g9
        have h1 := hok.1; have h2 := hok.2.1; have h3 := hok.2.2.1; have h4 := hok.2.2.2.1; have h5 := hok.2.2.2.2.1; have h6 := hok.2.2.2.2.2.1
        have h10 : 1 ≤ amt := hok.2.2.2.2.2.2.2.2.2.1
        have h11 : amt ≤ 1099511627776 := hok.2.2.2.2.2.2.2.2.2.2
        dsimp only at h1 h2 h3 h4 h5 h6
        clear hok g7 g8 g9
        go_wp2_with (first
          | (go_at_call_of 50 fr; refine (within_yes fr n gn _ hnc h1 h2).mono ?_; rintro e w' ⟨rfl, rfl⟩)
          | (go_at_call_of 50 dst; refine (within_yes dst n gn _ hnc h3 h4).mono ?_; rintro e w' ⟨rfl, rfl⟩)
          | (go_at_call_of 50 ow; refine (within_yes ow n gn _ hnc h5 h6).mono ?_; rintro e w' ⟨rfl, rfl⟩)
          | fail)
        go_roundw
        case rel => exact ⟨j + 1, by omega, by go_num, hv2, HBA⟩
        case measure => simp [intOf]; omega
      · have hR := Lib.hid (appF_no HV.out (List.mem_of_getElem? HM.out) (by rw [hlen.out]; exact hok))
        have BB := Lib.hid (bt B0.out HBA.out)
        have hs := movok_split hok hn
        dsimp only at hs
        clear hok
        rcases hs with h | ⟨h1, h2, h⟩ | ⟨h1, h2, h3, h4, h⟩ | ⟨h1, h2, h3, h4, h5, h6, h⟩
        · have h' := Lib.hid h
          clear h
          go_wp2_with (first
            | (go_at_call_of 50 fr; refine (within_not fr n gn _ hnc h'.out).mono ?_; rintro e w' ⟨rfl, rfl⟩)
            | fail)
          go_ret2
          exact givesApp_err hR.out BB.out
        · have h' := Lib.hid h
          clear h
          go_wp2_with (first
            | (go_at_call_of 50 fr; refine (within_yes fr n gn _ hnc h1 h2).mono ?_; rintro e w' ⟨rfl, rfl⟩)
            | (go_at_call_of 50 dst; refine (within_not dst n gn _ hnc h'.out).mono ?_; rintro e w' ⟨rfl, rfl⟩)
            | fail)
          go_ret2
          exact givesApp_err hR.out BB.out
        · have h' := Lib.hid h
          clear h
          go_wp2_with (first
            | (go_at_call_of 50 fr; refine (within_yes fr n gn _ hnc h1 h2).mono ?_; rintro e w' ⟨rfl, rfl⟩)
            | (go_at_call_of 50 dst; refine (within_yes dst n gn _ hnc h3 h4).mono ?_; rintro e w' ⟨rfl, rfl⟩)
            | (go_at_call_of 50 ow; refine (within_not ow n gn _ hnc h'.out).mono ?_; rintro e w' ⟨rfl, rfl⟩)
            | fail)
          go_ret2
          exact givesApp_err hR.out BB.out
        · rcases h with h7 | ⟨h7, h8⟩ | ⟨h7, h8, h9⟩ | ⟨h7, h8, h9, h10⟩ | ⟨h7, h8, h9, h10, h11⟩
          · have e1 : (fr == dst) = true := by simpa using h7
            clear h7
            go_wp2_with (first
              | (go_at_call_of 50 fr; refine (within_yes fr n gn _ hnc h1 h2).mono ?_; rintro e w' ⟨rfl, rfl⟩)
              | (go_at_call_of 50 dst; refine (within_yes dst n gn _ hnc h3 h4).mono ?_; rintro e w' ⟨rfl, rfl⟩)
              | (go_at_call_of 50 ow; refine (within_yes ow n gn _ hnc h5 h6).mono ?_; rintro e w' ⟨rfl, rfl⟩)
              | fail)
            go_ret2
            exact givesApp_err hR.out BB.out
          · have e1 : (fr == dst) = false := by simpa using h7
            have e2 : (fr == ow) = true := by simpa using h8
            clear h7 h8
            go_wp2_with (first
              | (go_at_call_of 50 fr; refine (within_yes fr n gn _ hnc h1 h2).mono ?_; rintro e w' ⟨rfl, rfl⟩)
              | (go_at_call_of 50 dst; refine (within_yes dst n gn _ hnc h3 h4).mono ?_; rintro e w' ⟨rfl, rfl⟩)
              | (go_at_call_of 50 ow; refine (within_yes ow n gn _ hnc h5 h6).mono ?_; rintro e w' ⟨rfl, rfl⟩)
              | fail)
            go_ret2
            exact givesApp_err hR.out BB.out
          · have e1 : (fr == dst) = false := by simpa using h7
            have e2 : (fr == ow) = false := by simpa using h8
            have e3 : (dst == ow) = true := by simpa using h9
            clear h7 h8 h9
            go_wp2_with (first
              | (go_at_call_of 50 fr; refine (within_yes fr n gn _ hnc h1 h2).mono ?_; rintro e w' ⟨rfl, rfl⟩)
              | (go_at_call_of 50 dst; refine (within_yes dst n gn _ hnc h3 h4).mono ?_; rintro e w' ⟨rfl, rfl⟩)
              | (go_at_call_of 50 ow; refine (within_yes ow n gn _ hnc h5 h6).mono ?_; rintro e w' ⟨rfl, rfl⟩)
              | fail)
            go_ret2
            exact givesApp_err hR.out BB.out
          · have e1 : (fr == dst) = false := by simpa using h7
            have e2 : (fr == ow) = false := by simpa using h8
            have e3 : (dst == ow) = false := by simpa using h9
            clear h7 h8 h9
            go_wp2_with (first
              | (go_at_call_of 50 fr; refine (within_yes fr n gn _ hnc h1 h2).mono ?_; rintro e w' ⟨rfl, rfl⟩)
              | (go_at_call_of 50 dst; refine (within_yes dst n gn _ hnc h3 h4).mono ?_; rintro e w' ⟨rfl, rfl⟩)
              | (go_at_call_of 50 ow; refine (within_yes ow n gn _ hnc h5 h6).mono ?_; rintro e w' ⟨rfl, rfl⟩)
              | fail)
            go_ret2
            exact givesApp_err hR.out BB.out
          · have e1 : (fr == dst) = false := by simpa using h7
            have e2 : (fr == ow) = false := by simpa using h8
            have e3 : (dst == ow) = false := by simpa using h9
            clear h7 h8 h9
            go_wp2_with (first
              | (go_at_call_of 50 fr; refine (within_yes fr n gn _ hnc h1 h2).mono ?_; rintro e w' ⟨rfl, rfl⟩)
              | (go_at_call_of 50 dst; refine (within_yes dst n gn _ hnc h3 h4).mono ?_; rintro e w' ⟨rfl, rfl⟩)
              | (go_at_call_of 50 ow; refine (within_yes ow n gn _ hnc h5 h6).mono ?_; rintro e w' ⟨rfl, rfl⟩)
              | fail)
            go_ret2
            exact givesApp_err hR.out BB.out
    · have hjk : j = k := by omega
      subst hjk
      have hall : Hid (∀ m ∈ ms, MovOk T.length m) := by have := hv.out; rwa [List.take_of_length_le (by rw [hkl.out]; exact Nat.le_refl _)] at this
      have hAR : Hid (appF T ms = appR T ms) := appF_yes HV.out hall.out
      have BB := Lib.hid (bt B0.out hbe.out)
      have H1 := Lib.hid (H.out.fw BB.out)
      clear hv hd hmf
      go_wp2_with (first
        | (go_at_call 42; refine (copy_any _ _ _ T _ H1.out HV.out).mono ?_; rintro e w2 ⟨g, rfl, hO, hb2⟩; have HO := Lib.hid hO; have HB2 := Lib.hid (bt BB.out hb2); have HSW := Lib.hid (Nat.le_trans BB.out.size hb2.size); have HO2 := Lib.hid (hO.mono BB.out.size); clear hO hb2)
        | fail)
      go_loopw [12, 76] (fun _ i wr => ∃ (u : Nat) (S : Tab), u ≤ j ∧ i = .int .i64 (u : Int) ∧ Hid (appR S (ms.drop u) = appR T ms) ∧ Hid (VT S) ∧ Hid (S.length = n) ∧ Hid (OwnTU wr w.heap.size w2.heap.size (some ⟨g, 0, none⟩) n n S) ∧ Hid (Below w.heap.size w wr) ∧ Hid (w2.heap.size ≤ wr.heap.size)) (fun _ i _ => j - (intOf i).toNat)
      case atStart => exact ⟨0, T, by omega, rfl, (show _ = _ by rw [List.drop_zero]), HV.out, hlen.out, HO2.out.up, HB2.out, Nat.le_refl _⟩
      case round =>
        obtain ⟨u, S, hu, rfl, hap, hS, hSl, hO, hbe2, hsz⟩ := hrel
        by_cases hlt2 : u < j
        · have i3 : (u : Int) < (j : Int) := by omega
          obtain ⟨m, hm⟩ : ∃ m, ms[u]? = some m := ⟨_, List.getElem?_eq_getElem (by rw [hkl.out]; exact hlt2)⟩
          obtain ⟨mb, mo, rfl, c0, c1, c2, c3⟩ := RdA.mov (HMS.out.fw hbe2.out) hm
          have hok := hall.out m (List.mem_of_getElem? hm)
          rw [hlen.out] at hok
          have hdr : ms.drop u = m :: ms.drop (u + 1) := by
            have hlt3 : u < ms.length := by rw [hkl.out]; exact hlt2
            rw [List.drop_eq_getElem_cons hlt3]
            rw [List.getElem?_eq_getElem hlt3] at hm
            rw [Option.some.inj hm]
          have hap2 := hap.out
          rw [hdr] at hap2
          obtain ⟨f, t, o, e1, e2, e3, hf, ht, ho, hft, hfo, hto⟩ := hok.nat
          obtain ⟨d, hd⟩ : ∃ d, d = m.amt := ⟨_, rfl⟩
          have hdb : 1 ≤ d ∧ d ≤ 1099511627776 := by rw [hd]; exact ⟨hok.2.2.2.2.2.2.2.2.2.1, hok.2.2.2.2.2.2.2.2.2.2⟩
          rw [e1] at c0; rw [e2] at c1; rw [e3] at c2; rw [← hd] at c3
          obtain ⟨r1, s1, s2, s3, s4, s5⟩ := hS.out.cell (i := f) (j := o) (by rw [hSl.out]; exact hf) (by rw [hSl.out]; exact ho)
          obtain ⟨x, hx⟩ : ∃ x, x = at2 S f o := ⟨_, rfl⟩
          obtain ⟨y, hy⟩ : ∃ y, y = at2 S t o := ⟨_, rfl⟩
          rw [← hx] at s3 s4 s5
          have hxm : x ≤ 1099511627776 := s5
          have hba := below_alloc (.cells #[.int .i64 (f : Int), .int .i64 (t : Int), .int .i64 (o : Int), .int .i64 d] 47) (below_refl wr)
          have OA := hO.out.fw hba
          obtain ⟨o1, ga, ra, k1, k2, k3, k4, k5, k6, k7, kset, _⟩ := OA.at s1 s3
          cases k1
          rw [s2, hSl.out] at k5
          have HM := Lib.hid hm; have HAP := Lib.hid hap2; have HOK := Lib.hid hok; have HD := Lib.hid hd; have HX := Lib.hid hx; have HY := Lib.hid hy; have HE1 := Lib.hid e1; have HE2 := Lib.hid e2; have HE3 := Lib.hid e3; have HKS := Lib.hid kset; have HS1 := Lib.hid s1; have HS2 := Lib.hid s2
          have hnew := heap_alloc_new wr (.cells #[.int .i64 (f : Int), .int .i64 (t : Int), .int .i64 (o : Int), .int .i64 d] 47)
          have f0 := cell_of_row _ wr.heap.size 0 _ _ _ hnew
          have f1 := cell_of_row _ wr.heap.size 1 _ _ _ hnew
          have f2 := cell_of_row _ wr.heap.size 2 _ _ _ hnew
          have f3 := cell_of_row _ wr.heap.size 3 _ _ _ hnew
          have HNEW := Lib.hid hnew
          have HBA := Lib.hid (bt hbe2.out hba)
          have HSZ : Hid (w2.heap.size ≤ wr.heap.size) := hsz
          have HGA : Hid (w.heap.size ≤ ga ∧ ga < w2.heap.size) := ⟨k3, k4⟩
          have HOA := Lib.hid OA
          have j1 : (f : Int) < (n : Int) := by omega
          have j2 : (t : Int) < (n : Int) := by omega
          have j3 : (o : Int) < (n : Int) := by omega
          clear hnew hba OA kset s1 s2 s3 hx hy hd e1 e2 e3 hm hap2 hok hdr
          go_upto_region 19 with fail
          clear c0 c1 c2 c3
          generalize wr.alloc (.cells #[.int .i64 (f : Int), .int .i64 (t : Int), .int .i64 (o : Int), .int .i64 d] 47) = wq at *
          generalize wr.heap.size = gm at *
          have f0 : wq.cell? ⟨gm, 0, none⟩ = some (.int .i64 (f : Int)) := f0
          have f1 : wq.cell? ⟨gm, 1, none⟩ = some (.int .i64 (t : Int)) := f1
          have f2 : wq.cell? ⟨gm, 2, none⟩ = some (.int .i64 (o : Int)) := f2
          have f3 : wq.cell? ⟨gm, 3, none⟩ = some (.int .i64 d) := f3
          have hfm : Hid (m.fr.toNat = f ∧ m.dst.toNat = t ∧ m.ow.toNat = o) := ⟨by rw [HE1.out]; rfl, by rw [HE2.out]; rfl, by rw [HE3.out]; rfl⟩
          by_cases hxd : x < d
          · have hR : Hid (appF T ms = (6, [])) := by
              show _ = _
              rw [hAR.out, ← HAP.out]
              unfold appR
              rw [hfm.out.1, hfm.out.2.2, ← HX.out, ← HD.out, if_pos hxd]
            go_quiet (fail)
            go_wp2_with fail
            go_ret2
            exact givesApp_err hR.out (fdrewN HBA.out nq)
          · have hxd2 : d ≤ x := by omega
            clear hxd
            go_quiet (fail)
            go_wp2_with fail
            have hq1 := fdrewN (below_refl wq) nq
            have f0 := (cellBelow hq1 (lt_of_cell f0)).trans f0
            have f1 := (cellBelow hq1 (lt_of_cell f1)).trans f1
            have f2 := (cellBelow hq1 (lt_of_cell f2)).trans f2
            have f3 := (cellBelow hq1 (lt_of_cell f3)).trans f3
            have HB1 := Lib.hid (bt HBA.out hq1)
            have OB := HOA.out.fw hq1
            have HNB := Lib.hid ((hq1.block _ (Array.getElem?_eq_some_iff.1 HNEW.out).1).trans HNEW.out)
            clear k5 k6 k7
            generalize wq.drewN nq = wp at *
            obtain ⟨r2, s1, s2, s3, s4b, s5b⟩ := hS.out.cell (i := t) (j := o) (by rw [hSl.out]; exact ht) (by rw [hSl.out]; exact ho)
            rw [← HY.out] at s3 s4b s5b
            have hym : y ≤ 1099511627776 := s5b
            obtain ⟨o2, gb, rb, k1, _, _, _, k5, k6, k7, _, _⟩ := OB.at s1 s3
            cases k1
            rw [s2, hSl.out] at k5
            have HOB := Lib.hid OB
            have z1 := iwq (a := 1099511627776 - d) (by omega)
            have z2 := w64q (a := 1099511627776 - d) (by omega)
            clear s1 s2 s3 OB hq1
            by_cases hyd : 1099511627776 - d < y
            · have hR : Hid (appF T ms = (2, [])) := by
                show _ = _
                rw [hAR.out, ← HAP.out]
                unfold appR maxC
                rw [hfm.out.1, hfm.out.2.1, hfm.out.2.2, ← HX.out, ← HY.out, ← HD.out, if_neg (by omega), if_pos hyd]
              go_quiet (fail)
              go_wp2_with fail
              go_ret2
              exact givesApp_err hR.out (fdrewN HB1.out nq)
            · have hyd2 : y ≤ 1099511627776 - d := by omega
              clear hyd
              go_quiet (fail)
              go_wp2_with fail
              have hq2 := fdrewN (below_refl wp) nq
              have f0 := (cellBelow hq2 (lt_of_cell f0)).trans f0
              have f1 := (cellBelow hq2 (lt_of_cell f1)).trans f1
              have f2 := (cellBelow hq2 (lt_of_cell f2)).trans f2
              have f3 := (cellBelow hq2 (lt_of_cell f3)).trans f3
              have HB2 := Lib.hid (bt HB1.out hq2)
              have OC := HOB.out.fw hq2
              have HNC := Lib.hid ((hq2.block _ (Array.getElem?_eq_some_iff.1 HNB.out).1).trans HNB.out)
              clear k5 k6 k7 z1 z2
              generalize wp.drewN nq = wz at *
              obtain ⟨r3, s1, s2, s3, s4c, s5c⟩ := hS.out.cell (i := f) (j := o) (by rw [hSl.out]; exact hf) (by rw [hSl.out]; exact ho)
              rw [← HX.out] at s3
              obtain ⟨o3, ga3, ra3, k1, _, k3b, k4b, k5, k6, k7, kset, _⟩ := OC.at s1 s3
              cases k1
              rw [s2, hSl.out] at k5
              have HA1 : Hid (S.set f (r3.set o (x - d)) = movA S m) := by
                show _ = _
                unfold movA put2
                rw [hfm.out.1, hfm.out.2.2, ← HX.out, ← HD.out, getD_of s1]
              have HGA3 : Hid (w.heap.size ≤ ga3 ∧ ga3 < w2.heap.size) := ⟨k3b, k4b⟩
              have hset := kset (x - d)
              rw [HA1.out] at hset
              have HSET := Lib.hid hset
              have z1 := iwq (a := x - d) (by omega)
              have z2 := w64q (a := x - d) (by omega)
              clear s1 s2 s3 s4c s5c OC hq2 kset hset k3b k4b
              go_still_tail 13, (by kernel_rfl)
              change wpList _ _ _ _ _ wz.drew
              go_wp2_with fail
              clear z1 z2 k5 k6 k7
              have hne : gm ≠ ga3 := by have := HGA3.out; have := HSZ.out; omega
              have hblk : ((wz.setCell ⟨ga3, o, none⟩ (.int .i64 (x - d))).drew).heap[gm]? = some (.cells #[.int .i64 (f : Int), .int .i64 (t : Int), .int .i64 (o : Int), .int .i64 d] 47 (0, 0)) := (Below.heap_setCell _ _ _ _ (by show gm ≠ ga3; exact hne)).trans HNC.out
              have HB3 : Hid (Below w.heap.size w (wz.setCell ⟨ga3, o, none⟩ (.int .i64 (x - d))).drew) := Below.drew (HB2.out.setCell (p := ⟨ga3, o, none⟩) HGA3.out.1 _)
              have HOD : Hid (OwnTU (wz.setCell ⟨ga3, o, none⟩ (.int .i64 (x - d))).drew w.heap.size w2.heap.size (some ⟨g, 0, none⟩) n n (movA S m)) := HSET.out.fw (below_refl _).drew
              have HSW2 : Hid (w2.heap.size ≤ (wz.setCell ⟨ga3, o, none⟩ (.int .i64 (x - d))).drew.heap.size) := by
                have h1 := (Array.getElem?_eq_some_iff.1 hblk).1
                have h2 := HSZ.out
                show _ ≤ _
                omega
              clear f0 f1 f2 f3
              generalize (wz.setCell ⟨ga3, o, none⟩ (.int .i64 (x - d))).drew = wy at hblk HB3 HOD HSW2 ⊢
              have f1 : wy.cell? ⟨gm, 1, none⟩ = some (.int .i64 (t : Int)) := by rw [cell_of_row wy gm 1 _ _ _ hblk]; rfl
              have f2 : wy.cell? ⟨gm, 2, none⟩ = some (.int .i64 (o : Int)) := by rw [cell_of_row wy gm 2 _ _ _ hblk]; rfl
              have f3 : wy.cell? ⟨gm, 3, none⟩ = some (.int .i64 d) := by rw [cell_of_row wy gm 3 _ _ _ hblk]; rfl
              have hsq := movA_sq hS.out (m := m) HE1.out (by rw [hSl.out]; exact hf)
              have hml : (movA S m).length = n := by rw [hsq.1, hSl.out]
              have s1 := get_some (show t < (movA S m).length by rw [hml]; exact ht) ([] : List Int)
              have s2 := hsq.2 t (by rw [hml]; exact ht)
              rw [hml] at s2
              have s3 := get_some (show o < ((movA S m).getD t []).length by rw [s2]; exact ho) (0 : Int)
              have hval : ((movA S m).getD t []).getD o 0 = y := by
                have h1 := movA_at hS.out hSl.out HE1.out HE3.out hf ho t o
                rw [if_neg (fun h => hft h.1.symm), ← HY.out] at h1
                exact h1
              rw [hval] at s3
              obtain ⟨o4, gb4, rb4, k1, _, k3b, k4b, k5, k6, k7, kset, _⟩ := HOD.out.at s1 s3
              cases k1
              rw [s2] at k5
              have HA2 : Hid ((movA S m).set t (((movA S m).getD t []).set o (y + d)) = movT S m) := by
                show _ = _
                unfold movT put2
                rw [hfm.out.2.1, hfm.out.2.2, ← HD.out]
                have : at2 (movA S m) t o = y := hval
                rw [this]
              have hset := kset (y + d)
              rw [HA2.out] at hset
              have HSET2 := Lib.hid hset
              have HK3 : Hid (w.heap.size ≤ gb4) := k3b
              have z1 := iwq (a := y + d) (by omega)
              have z2 := w64q (a := y + d) (by omega)
              have HVT := Lib.hid (movT_vt hS.out (by rw [hSl.out]; exact HOK.out) (by rw [hfm.out.1, hfm.out.2.2, ← HX.out, ← HD.out]; omega) (by unfold maxC; rw [hfm.out.2.1, hfm.out.2.2, ← HY.out, ← HD.out]; omega))
              have HAP2 : Hid (appR (movT S m) (ms.drop (u + 1)) = appR T ms) := by
                show _ = _
                have h1 := HAP.out
                rw [appR_cons] at h1
                unfold maxC at h1
                rw [hfm.out.1, hfm.out.2.1, hfm.out.2.2, ← HX.out, ← HY.out, ← HD.out, if_neg (by omega), if_neg (by omega)] at h1
                exact h1
              clear s1 s2 s3 kset hset k3b k4b hval hml hsq hblk hne
              go_still_tail 13, (by kernel_rfl)
              change wpList _ _ _ _ _ wy.drew
              go_wp2_with fail
              clear z1 z2 k5 k6 k7 f1 f2 f3
              go_roundw
              case rel =>
                refine ⟨u + 1, movT S m, by omega, by go_num, HAP2.out, HVT.out.1, (show _ = _ by rw [HVT.out.2, hSl.out]), HSET2.out.fw (below_refl _).drew, Below.drew (HB3.out.setCell (p := ⟨gb4, o, none⟩) HK3.out _), ?_⟩
                have := HSW2.out
                show _ ≤ _
                simpa [World.setCell] using this
              case measure => simp [intOf]; omega
        · have huj : u = j := by omega
          subst huj
          have hr := hap.out
          rw [List.drop_of_length_le (by rw [hkl.out]; exact Nat.le_refl _)] at hr
          have HR : Hid (appF T ms = (0, S)) := by rw [hAR.out, ← hr]; exact rfl
          clear hr
          go_wp2_with fail
          go_ret2
          rw [HR.out]
          refine ⟨some ⟨g, 0, none⟩, n, ?_, ?_, hbe2.out⟩
          · show Ending.returned (.tuple #[.slice (some ⟨g, 0, none⟩) n n, .int .i64 0]) = .returned (.tuple #[.slice (some ⟨g, 0, none⟩) S.length n, .int .i64 0])
            rw [hSl.out]
          · show RdT _ _ S.length _ S
            rw [hSl.out]; exact hO.out.own.rdt
end Go.Proofs.Ytpecepfnmkpmmaa
