/- The reference's Settle: its start. -/
import Derived.Test.YtpecepfnmkpmmaaTy
import Derived.Test.YtpecepfnmkpmmaaQs
import Derived.Test.YtpecepfnmkpmmaaRa
namespace Go.Kin
open Go.RowKit
set_option linter.unusedVariables false
theorem Jn.rename {w0 w : World} {R : Rs} (h : Jn w0 R w) (σ : Nat → Nat) (hσ : ∀ i j, i ≠ j → σ i ≠ σ j) : Jn w0 (fun i => R (σ i)) w :=
  ⟨fun i => h.fp (σ i), fun i j b hij hb => h.dis (σ i) (σ j) b (hσ i j hij) hb, fun i b hb => h.lo (σ i) b hb, h.be⟩
theorem atB3a {g : Nat} {a b c : Value} {T : TypeId} {w : World} (h : atB g (.cells #[a, b, c] T (0, 0)) w) : (∀ o, (w.alloc o).cell? ⟨g, 0, none⟩ = some a) ∧ (∀ o, (w.alloc o).cell? ⟨g, 1, none⟩ = some b) ∧ (∀ o, (w.alloc o).cell? ⟨g, 2, none⟩ = some c) ∧ ∀ o k, (w.alloc o).frozen? ⟨g, k, none⟩ = false := by
  have k : ∀ o, atB g (.cells #[a, b, c] T (0, 0)) (w.alloc o) := fun o => ((below_alloc o (below_refl w)).block g (Array.getElem?_eq_some_iff.1 h).1).trans h
  exact ⟨fun o => (atB3 (k o)).1, fun o => (atB3 (k o)).2.1, fun o => (atB3 (k o)).2.2.1, fun o => (atB3 (k o)).2.2.2⟩
theorem atB3b {g : Nat} {a b c : Value} {T : TypeId} {w : World} (h : atB g (.cells #[a, b, c] T (0, 0)) w) : (∀ o p, ((w.alloc o).alloc p).cell? ⟨g, 0, none⟩ = some a) ∧ (∀ o p, ((w.alloc o).alloc p).cell? ⟨g, 1, none⟩ = some b) ∧ (∀ o p, ((w.alloc o).alloc p).cell? ⟨g, 2, none⟩ = some c) ∧ ∀ o p k, ((w.alloc o).alloc p).frozen? ⟨g, k, none⟩ = false := by
  have k : ∀ o p, atB g (.cells #[a, b, c] T (0, 0)) ((w.alloc o).alloc p) := fun o p => ((below_alloc p (below_alloc o (below_refl w))).block g (Array.getElem?_eq_some_iff.1 h).1).trans h
  exact ⟨fun o p => (atB3 (k o p)).1, fun o p => (atB3 (k o p)).2.1, fun o p => (atB3 (k o p)).2.2.1, fun o p => (atB3 (k o p)).2.2.2⟩
def sw02 (i : Nat) : Nat := if i = 0 then 2 else if i = 2 then 0 else i
theorem Jn.swap {w0 w : World} {R : Rs} (h : Jn w0 R w) : Jn w0 (fun i => R (sw02 i)) w :=
  h.rename sw02 fun i j hij => by unfold sw02; split <;> (try split) <;> (try split) <;> (try split) <;> omega
end Go.Kin
namespace Go.Proofs.Ytpecepfnmkpmmaa
open Go.RowKit Go.Kin Quo
set_option maxRecDepth 100000
set_option linter.unusedVariables false
theorem made_dir {wq w : World} {n : Nat} {G : List Int} {N : Tab} {K : List Int} {gr gr' g1 g1' d1 gz zc g2 g2' d2 lo hi : Nat} {R : Rs} (h : Jn wq R w) (h0 : R 0 = (fun x => x = g1', ownB vi wq.heap.size 3 g1' n d1 G)) (h1 : R 1 = (fun b => lo ≤ b ∧ b < hi, ownTB lo hi gz n zc N)) (h2 : R 2 = (fun x => x = g2', ownB vi wq.heap.size 3 g2' n d2 K))
    (h3 : R 3 = (fun x => x = gr', atB gr' (.cells #[.slice (some ⟨g1, 0, none⟩) n d1, .slice (some ⟨gz, 0, none⟩) n zc, .slice (some ⟨g2, 0, none⟩) n d2] 78 (0, 0)))) (e1 : g1 = g1') (e2 : g2 = g2') (e3 : gr = gr') : Hid (Made wq n G N K gr g1 d1 gz zc g2 d2 w) := by
  subst e1 e2 e3
  exact ⟨R, lo, hi, h, h0, h1, h2, h3⟩
theorem made_of2 {wq w : World} {n : Nat} {G : List Int} {N : Tab} {K : List Int} {gr gr' g1 g1' d1 gz zc g2 g2' d2 lo hi : Nat} {R : Rs} {a b c : Value} (h : Jn wq R w) (h0 : R 0 = (fun x => x = g1', ownB vi wq.heap.size 3 g1' n d1 G)) (h1 : R 1 = (fun b => lo ≤ b ∧ b < hi, ownTB lo hi gz n zc N)) (h2 : R 2 = (fun x => x = g2', ownB vi wq.heap.size 3 g2' n d2 K))
    (h3 : R 3 = (fun x => x = gr', atB gr' (.cells #[a, b, c] 78 (0, 0)))) (e1 : g1 = g1') (e2 : g2 = g2') (e : gr = gr') :
    Hid (Made wq n G N K gr g1 d1 gz zc g2 d2 (((w.setCell ⟨gr, 0, none⟩ (.slice (some ⟨g1, 0, none⟩) n d1)).setCell ⟨gr, 1, none⟩ (.slice (some ⟨gz, 0, none⟩) n zc)).setCell ⟨gr, 2, none⟩ (.slice (some ⟨g2, 0, none⟩) n d2))) := by
  subst e1 e2
  exact made_of h h0 h1 h2 h3 e
theorem Jn.make {w0 w : World} {R : Rs} (h : Jn w0 R w) (i : Nat) {Z : Array Value} {n : Nat} (hz : Z = row vi (List.replicate n 0)) (hn : n ≤ 12) : Jn w0 (R.put i (fun b => b = w.heap.size) (ownB vi w0.heap.size 3 w.heap.size n n (List.replicate n 0))) (w.alloc (.cells Z 3)) := by
  have hb := below_alloc (.cells Z 3) (below_refl w)
  have hB : Blk vi 3 (w.alloc (.cells Z 3)) w.heap.size (List.replicate n 0) := by rw [hz]; exact blk_new vi 3 w _
  have hO := hB.own (B := w0.heap.size) h.be.size (by simp; unfold maxLen; omega)
  rw [List.length_replicate] at hO
  exact h.step i (bt h.be hb) (fun b hb2 _ => hb.block b hb2) (own_fp hO) fun b e => .inr (by rw [e]; exact Nat.le_refl _)
end Go.Proofs.Ytpecepfnmkpmmaa
/- The reference's Settle: what its loops keep. -/
namespace Go.Proofs.Ytpecepfnmkpmmaa
open Go.RowKit Go.Kin Quo
set_option maxRecDepth 100000
set_option linter.unusedVariables false
def rdB (n : Nat) (ga : Option Addr) (gc : Nat) (ha : Option Addr) (hc : Nat) (ka : Option Addr) (kc : Nat) (G : List Int) (N : Tab) (K : List Int) (w : World) : Prop := Rd vi w ga n gc G ∧ RdT w ha n hc N ∧ Rd vi w ka n kc K
/-- The relief in the cell gr, and the moves so far. -/
def SInv (gr B n : Nat) (G : List Int) (N : Tab) (K : List Int) (oa : Option Addr) (L oc : Nat) (ms : List Mz) (w : World) : Prop :=
  ∃ (ga : Option Addr) (gc : Nat) (ha : Option Addr) (hc : Nat) (ka : Option Addr) (kc : Nat) (S : Nat → Prop), w.heap[gr]? = some (.cells #[.slice ga n gc, .slice ha n hc, .slice ka n kc] 78 (0, 0)) ∧ Fp S (rdB n ga gc ha hc ka kc G N K) w ∧ ¬ S gr ∧
    OwnA vmz 4 B 48 w oa L oc ms ∧ gr < B ∧ (∀ k, (Value.slice oa L oc).ownBlock = some k → ¬ S k) ∧ B ≤ w.heap.size
section
variable {gr B n : Nat} {G : List Int} {N : Tab} {K : List Int} {oa : Option Addr} {L oc : Nat} {ms : List Mz} {w : World}
theorem SInv.fw {w' : World} (h : SInv gr B n G N K oa L oc ms w) (hb : Below w.heap.size w w') : SInv gr B n G N K oa L oc ms w' := by
  obtain ⟨ga, gc, ha, hc, ka, kc, S, h1, h2, h3, h4, h5, h6, h7⟩ := h
  exact ⟨ga, gc, ha, hc, ka, kc, S, (hb.block gr (Array.getElem?_eq_some_iff.1 h1).1).trans h1, h2.move fun b hs => hb.block b (h2.lt b hs), h3, h4.fw hb, h5, h6, Nat.le_trans h7 hb.size⟩
theorem SInv.len (h : SInv gr B n G N K oa L oc ms w) : ms.length = L := by
  obtain ⟨ga, gc, ha, hc, ka, kc, S, h1, h2, h3, h4, h5, h6, h7⟩ := h
  exact h4.1
theorem SInv.lt (h : SInv gr B n G N K oa L oc ms w) : gr < w.heap.size := by
  obtain ⟨ga, gc, ha, hc, ka, kc, S, h1, _⟩ := h
  exact (Array.getElem?_eq_some_iff.1 h1).1
theorem SInv.base (h : SInv gr B n G N K oa L oc ms w) : B ≤ w.heap.size := by
  obtain ⟨ga, gc, ha, hc, ka, kc, S, h1, h2, h3, h4, h5, h6, h7⟩ := h
  exact h7
theorem SInv.out (h : SInv gr B n G N K oa L oc ms w) : OwnA vmz 4 B 48 w oa L oc ms := by
  obtain ⟨ga, gc, ha, hc, ka, kc, S, h1, h2, h3, h4, h5, h6, h7⟩ := h
  exact h4
theorem SInv.cells (h : SInv gr B n G N K oa L oc ms w) : ∃ ga gc ha hc ka kc, (w.cell? ⟨gr, 0, none⟩ = some (.slice ga n gc) ∧ w.cell? ⟨gr, 1, none⟩ = some (.slice ha n hc) ∧ w.cell? ⟨gr, 2, none⟩ = some (.slice ka n kc) ∧ ∀ k, w.frozen? ⟨gr, k, none⟩ = false) ∧ Rd vi w ga n gc G ∧ RdT w ha n hc N ∧ Rd vi w ka n kc K := by
  obtain ⟨ga, gc, ha, hc, ka, kc, S, h1, h2, h3, h4, h5, h6, h7⟩ := h
  exact ⟨ga, gc, ha, hc, ka, kc, atB3 h1, h2.now⟩
/-- The start, behind 'out := []Move{}'. -/
theorem SInv.start {wq w' : World} {g1 d1 gz zc g2 d2 : Nat} (h : Made wq n G N K gr g1 d1 gz zc g2 d2 w) (hO : OwnA vmz 4 w.heap.size 48 w' oa 0 oc []) (hb : Below w.heap.size w w') : SInv gr w.heap.size n G N K oa 0 oc [] w' := by
  have hr := h.reads (w' := w) fun _ _ => rfl
  obtain ⟨R, lo, hi, hJ, h0, h1, h2, h3⟩ := h
  have hc := (hJ.fp 3).now
  rw [h3] at hc
  have hlt : gr < w.heap.size := (Array.getElem?_eq_some_iff.1 hc).1
  have k0 := hJ.fp 0; have k1 := hJ.fp 1; have k2 := hJ.fp 2
  have F : Fp (fun b => (R 0).1 b ∨ (R 1).1 b ∨ (R 2).1 b) (rdB n (some ⟨g1, 0, none⟩) d1 (some ⟨gz, 0, none⟩) zc (some ⟨g2, 0, none⟩) d2 G N K) w := by
    refine ⟨hr, fun b hb => ?_, fun w2 hk => ?_⟩
    · rcases hb with hb | hb | hb
      · exact k0.lt b hb
      · exact k1.lt b hb
      · exact k2.lt b hb
    · have a0 := k0.keep w2 fun b hb => hk b (.inl hb)
      have a1 := k1.keep w2 fun b hb => hk b (.inr (.inl hb))
      have a2 := k2.keep w2 fun b hb => hk b (.inr (.inr hb))
      rw [h0] at a0; rw [h1] at a1; rw [h2] at a2
      exact ⟨Own.rd a0, a1.1.own.rdt, Own.rd a2⟩
  have g3 : (R 3).1 gr := by rw [h3]
  refine ⟨_, _, _, _, _, _, _, (hb.block gr hlt).trans hc, F.move fun b hs => hb.block b (F.lt b hs), ?_, hO, hlt, fun k hk hs => ?_, hb.size⟩
  · rintro (c | c | c)
    · exact hJ.dis 3 0 gr (by decide) g3 c
    · exact hJ.dis 3 1 gr (by decide) g3 c
    · exact hJ.dis 3 2 gr (by decide) g3 c
  · have := (hO.lt k hk).1
    have := F.lt k hs
    omega
/-- Behind 'r = r.moved(..)'. -/
theorem SInv.moved {w' : World} {G' : List Int} {N' : Tab} {K' : List Int} {g1 d1 gz zc g2 d2 : Nat} (h : SInv gr B n G N K oa L oc ms w) (hb : Below w.heap.size w w') (m1 : Own vi w.heap.size 3 w' (some ⟨g1, 0, none⟩) n d1 G') (m2 : OwnT w' w.heap.size (some ⟨gz, 0, none⟩) n zc N') (m3 : Own vi w.heap.size 3 w' (some ⟨g2, 0, none⟩) n d2 K') :
    SInv gr B n G' N' K' oa L oc ms (((w'.setCell ⟨gr, 0, none⟩ (.slice (some ⟨g1, 0, none⟩) n d1)).setCell ⟨gr, 1, none⟩ (.slice (some ⟨gz, 0, none⟩) n zc)).setCell ⟨gr, 2, none⟩ (.slice (some ⟨g2, 0, none⟩) n d2)) := by
  have hlt := h.lt
  obtain ⟨ga, gc, ha, hc, ka, kc, S, h1, h2, h3, h4, h5, h6, h7⟩ := h
  have q0 := (hb.block gr hlt).trans h1
  have q1 : (w'.setCell ⟨gr, 0, none⟩ (.slice (some ⟨g1, 0, none⟩) n d1)).heap[gr]? = some (.cells #[.slice (some ⟨g1, 0, none⟩) n d1, .slice ha n hc, .slice ka n kc] 78 (0, 0)) := heap_setCell_same _ gr 0 _ _ _ q0
  have q2 : ((w'.setCell ⟨gr, 0, none⟩ (.slice (some ⟨g1, 0, none⟩) n d1)).setCell ⟨gr, 1, none⟩ (.slice (some ⟨gz, 0, none⟩) n zc)).heap[gr]? = some (.cells #[.slice (some ⟨g1, 0, none⟩) n d1, .slice (some ⟨gz, 0, none⟩) n zc, .slice ka n kc] 78 (0, 0)) := heap_setCell_same _ gr 1 _ _ _ q1
  have q3 : (((w'.setCell ⟨gr, 0, none⟩ (.slice (some ⟨g1, 0, none⟩) n d1)).setCell ⟨gr, 1, none⟩ (.slice (some ⟨gz, 0, none⟩) n zc)).setCell ⟨gr, 2, none⟩ (.slice (some ⟨g2, 0, none⟩) n d2)).heap[gr]? = some (.cells #[.slice (some ⟨g1, 0, none⟩) n d1, .slice (some ⟨gz, 0, none⟩) n zc, .slice (some ⟨g2, 0, none⟩) n d2] 78 (0, 0)) := heap_setCell_same _ gr 2 _ _ _ q2
  have hk : ∀ b, b ≠ gr → (((w'.setCell ⟨gr, 0, none⟩ (.slice (some ⟨g1, 0, none⟩) n d1)).setCell ⟨gr, 1, none⟩ (.slice (some ⟨gz, 0, none⟩) n zc)).setCell ⟨gr, 2, none⟩ (.slice (some ⟨g2, 0, none⟩) n d2)).heap[b]? = w'.heap[b]? := fun b hne => by
    rw [Below.heap_setCell _ _ _ _ hne, Below.heap_setCell _ _ _ _ hne, Below.heap_setCell _ _ _ _ hne]
  have F : Fp (fun b => w.heap.size ≤ b ∧ b < w'.heap.size) (rdB n (some ⟨g1, 0, none⟩) d1 (some ⟨gz, 0, none⟩) zc (some ⟨g2, 0, none⟩) d2 G' N' K') w' := by
    have t1 : ownTB w.heap.size w'.heap.size gz n zc N' w' := ⟨m2.up, by obtain ⟨L, l1, _⟩ := m2; exact l1.blt rfl⟩
    have k1 := ownTB_fp t1 (Nat.le_refl _)
    refine ⟨⟨m1.rd, m2.rdt, m3.rd⟩, fun b hb => hb.2, fun w2 hk => ⟨?_, ?_, ?_⟩⟩
    · exact (m1.same fun x hx => hk _ ⟨m1.bge hx, m1.blt hx⟩).rd
    · exact (k1.keep w2 hk).1.own.rdt
    · exact (m3.same fun x hx => hk _ ⟨m3.bge hx, m3.blt hx⟩).rd
  refine ⟨_, _, _, _, _, _, _, q3, F.move fun b hs => hk b (fun e => by rw [e] at hs; omega), fun c => by omega, (h4.fw hb).same fun x hx => hk _ fun e => ?_, h5, fun k hk2 hs => ?_, ?_⟩
  · have := (h4.blt hx).2.1; omega
  · have := (h4.lt k hk2).2; omega
  · have := hb.size
    simpa [World.setCell] using Nat.le_trans h7 this
/-- Behind 'out = append(out, ..)'. -/
theorem SInv.push {w' : World} {g c' : Nat} {m : Mz} (h : SInv gr B n G N K oa L oc ms w) (hO : OwnA vmz 4 B 48 w' (some ⟨g, 0, none⟩) (L + 1) c' (ms ++ [m])) (hg : w.grownBy w' (Value.slice oa L oc).ownBlock) (hl : (Value.slice oa L oc).ownBlock = some g ∨ g = w.heap.size) : SInv gr B n G N K (some ⟨g, 0, none⟩) (L + 1) c' (ms ++ [m]) w' := by
  obtain ⟨ga, gc, ha, hc, ka, kc, S, h1, h2, h3, h4, h5, h6, h7⟩ := h
  refine ⟨ga, gc, ha, hc, ka, kc, S, (hg.block gr (Array.getElem?_eq_some_iff.1 h1).1 fun e => ?_).trans h1, h2.move fun b hs => hg.block b (h2.lt b hs) fun e => h6 b e.symm hs, h3, hO, h5, fun k hk hs => ?_, Nat.le_trans h7 hg.size⟩
  · have := (h4.lt gr e.symm).1; omega
  · have e : g = k := by cases hk; rfl
    subst e
    rcases hl with c | c
    · exact h6 g c hs
    · have := h2.lt g hs; omega
end
end Go.Proofs.Ytpecepfnmkpmmaa
/- The reference's Settle: its start. -/
namespace Go.Proofs.Ytpecepfnmkpmmaa
open Go.RowKit Go.Kin Quo
set_option maxRecDepth 100000
set_option linter.unusedVariables false
/-- f up to d, and 0 behind. -/
def iniL (n d : Nat) (f : Nat → Int) : List Int := (List.range n).map fun i => if i < d then f i else 0
theorem iniL_len (n d : Nat) (f : Nat → Int) : (iniL n d f).length = n := by simp [iniL]
theorem iniL_zero (n : Nat) (f : Nat → Int) : iniL n 0 f = List.replicate n 0 := by
  unfold iniL
  rw [map_range_congr (g := fun _ => 0) fun d _ => if_neg (Nat.not_lt_zero d), List.map_const', List.length_range]
theorem iniL_all (n : Nat) (f : Nat → Int) : iniL n n f = (List.range n).map f := map_range_congr fun d hd => if_pos hd
theorem iniL_set {n d : Nat} {f : Nat → Int} (h : d < n) : (iniL n d f).set d (f d) = iniL n (d + 1) f := by
  unfold iniL
  refine map_range_set h (if_pos (Nat.lt_succ_self d)) fun i hi => ?_
  by_cases e : i < d
  · rw [if_pos e, if_pos (by omega)]
  · rw [if_neg e, if_neg (by omega)]
theorem RS.bdG {T : Tab} {q : List Int} {z : Nat → Nat → Nat → Int} {G : List Int} {N : Tab} {K : List Int} (h : RS T q z G N K) {d : Nat} (hd : d < T.length) : 0 ≤ G.getD d 0 ∧ G.getD d 0 ≤ 13194139533312 := by
  have h1 := h.give d hd; have h2 := h.zout hd; have h3 := h.g0 d hd
  have h4 := load_bound h.vt d; have h5 := quota_bound h.cnt d
  unfold topB at h4
  unfold gvT at h1
  omega
theorem RS.bdK {T : Tab} {q : List Int} {z : Nat → Nat → Nat → Int} {G : List Int} {N : Tab} {K : List Int} (h : RS T q z G N K) {d : Nat} (hd : d < T.length) : 0 ≤ K.getD d 0 ∧ K.getD d 0 ≤ 13194139533312 := by
  have h1 := h.take d hd; have h2 := h.zin hd; have h3 := h.k0 d hd
  have h4 := load_bound h.vt d; have h5 := quota_bound h.cnt d
  unfold topB at h4
  unfold tkT at h1
  omega
/-- What Settle returns. -/
def SRet (T : Tab) (q : List Int) (x : Nat → Nat → Nat → Int) (n : Nat) (w : World) (e : Ending) (w' : World) : Prop :=
  (((∀ y, ¬ Relx T.length (gvT T q) (at2 T) (tkT T q) y) ∧ e = .returned (.tuple #[.slice none 0 0, .bool false])) ∨
    (BestX T q x ∧ ∃ oa oc, e = .returned (.tuple #[.slice oa (movA' x n n).length oc, .bool true]) ∧ OwnA vmz 4 w.heap.size 48 w' oa (movA' x n n).length oc ((movA' x n n).map mzOf))) ∧ Below w.heap.size w w'
theorem run_min3s (ats : Array TypeId) (ty : TypeId) (x y z : Int) (w : World) : (Builtin.min_ ats ty #[.int .i64 x, .int .i64 y, .int .i64 z]).run Try.prog w = .ok (.int .i64 (min x (min y z))) w := by
  have e3 : min x (min y z) = min (min x y) z := by omega
  rw [e3]
  have e : (if y < x then y else x) = min x y := by split <;> omega
  have e2 : (if z < min x y then z else min x y) = min (min x y) z := by split <;> omega
  rw [← e2, ← e]
  simp [Builtin.min_, Builtin.min2]
theorem wpList_min3s {w : World} {ops : Array Oper} {rest : List Oper} {o : Oper} {a : Act} {Q : Exit → Act → World → Prop} (hgd : o.guard = none) (s x y : Operand) (t : TypeId)
    (ho : o.op = .call { callee := .builtin .min, args := #[s, x, y], argTypes := #[t, t, t] }) (p q r : Int) (hs : a.eval s = .int .i64 p) (hx : a.eval x = .int .i64 q) (hy : a.eval y = .int .i64 r)
    (h : wpList Try.prog ops Q rest (a.put o.dst (.int .i64 (min p (min q r)))) w) : wpList Try.prog ops Q (o :: rest) a w := by
  refine wpList_plain hgd fun K hK => ?_
  have hr := run_min3s #[t, t, t] o.type p q r w
  unfold Oper.wp
  simp [execOp, ho, resolve, invoke, builtin, hs, hx, hy, hr, Result.andThen]
  exact hK _ _ h
theorem sumR_set {G : List Int} {n a : Nat} (ha : a < n) (hl : G.length = n) (v : Int) : (sumR n fun d => (G.set a v).getD d 0) = (sumR n fun d => G.getD d 0) - G.getD a 0 + v := by
  have e : ∀ d, d < n → (G.set a v).getD d 0 = G.getD d 0 + if d = a then v - G.getD a 0 else 0 := fun d _ => by
    rw [set_getD (by rw [hl]; exact ha)]
    by_cases c : d = a
    · subst c; rw [if_pos rfl, if_pos rfl]; omega
    · rw [if_neg c, if_neg c]; omega
  rw [sumR_congr e, sumR_add, sumR_pick ha fun _ => v - G.getD a 0]
  omega
theorem infoRMv : (Try.prog.info? 48).map (fun i => (i.zero, i.size, i.bytes)) = some (some (.agg #[.int .i64 0, .int .i64 0, .int .i64 0, .int .i64 0]), 4, 32) := by kernel_rfl
/-- How the loops stand ahead of the place (h, o, t), ms having been moved. -/
def LI (T : Tab) (q : List Int) (x : Nat → Nat → Nat → Int) (n gr B : Nat) (w : World) (h o t : Nat) (ms : List Mv) (nv ov : Value) (wr : World) : Prop :=
  ∃ (L : Nat) (z : Int) (oa : Option Addr) (oc : Nat) (G : List Int) (N : Tab) (K : List Int), nv = .int .i64 z ∧ ov = .slice oa L oc ∧ z = (sumR T.length fun d => G.getD d 0) ∧ RS T q (uptoZ x h o t) G N K ∧ SInv gr B n G N K oa L oc (ms.map mzOf) wr ∧ Below w.heap.size w wr
theorem Made.grl {wq w : World} {n : Nat} {G : List Int} {N : Tab} {K : List Int} {gr g1 d1 gz zc g2 d2 : Nat} (h : Made wq n G N K gr g1 d1 gz zc g2 d2 w) : wq.heap.size ≤ gr ∧ gr < w.heap.size := by
  obtain ⟨R, lo, hi, hJ, h0, h1, h2, h3⟩ := h
  exact ⟨hJ.lo 3 gr (by rw [h3]), (hJ.fp 3).lt gr (by rw [h3])⟩
set_option maxHeartbeats 16000000 in
theorem rsettle_any (x : Nat → Nat → Nat → Int) (ta : Option Addr) (n tc : Nat) (T : Tab) (qa : Option Addr) (qc : Nat) (q : List Int) (w : World) (h : RdT w ta n tc T) (h2 : Rd vi w qa n qc q) (hf : Fit T q) (hD : (∀ y, ¬ Relx T.length (gvT T q) (at2 T) (tkT T q) y) ∨ BestX T q x) :
    Calls Try.prog 29 #[.slice ta n tc, .slice qa n qc] w (SRet T q x n w) := by
  have HD := Lib.hid hD
  clear hD
  obtain ⟨i0, hi, hz0, hz1, hz2⟩ := info_parts infoI
  have u0 := Try.underlying26
  have hnm : n ≤ 12 := by have := hf.1.1; rw [h.len] at this; exact this
  have hlen := Lib.hid h.len
  have H := Lib.hid h; have H2 := Lib.hid h2; have HF := Lib.hid hf; have HV := Lib.hid hf.1
  obtain ⟨Z, hZ⟩ : ∃ Z, Z = row vi (List.replicate n 0) := ⟨_, rfl⟩
  have hmk : ∀ w : World, (Instr.makeSlice 26 (.int .i64 (n : Int)) (.int .i64 (n : Int))).run Try.prog w = .ok (.slice (some ⟨w.heap.size, 0, none⟩) n n) (w.alloc (.cells Z 3)) := fun w => by
    have := run_make (P := Try.prog) (w := w) 26 3 i0 (.int .i64 0) u0 hi hz0 .i64 .i64 (n : Int) (n : Int) (by omega) (by omega) (by rw [hz2]; omega) (by omega)
    have e := made_row vi 0 rfl n
    change madeCells (Value.int .i64 0).cells (n * 1) = _ at e
    rw [hz1, Int.toNat_natCast, e, ← hZ] at this
    exact this
  have HZ := Lib.hid hZ
  have al1 : ∀ (W : World) (o : Obj), atB W.heap.size (.cells #[.slice none 0 0, .slice none 0 0, .slice none 0 0] 78 (0, 0)) ((W.alloc (.cells #[.slice none 0 0, .slice none 0 0, .slice none 0 0] 78 (0, 0))).alloc o) := fun W o => ((below_alloc o (below_refl _)).block W.heap.size (by simp)).trans (heap_alloc_new W _)
  have al2 : ∀ (W : World) (o p : Obj), atB W.heap.size (.cells #[.slice none 0 0, .slice none 0 0, .slice none 0 0] 78 (0, 0)) (((W.alloc (.cells #[.slice none 0 0, .slice none 0 0, .slice none 0 0] 78 (0, 0))).alloc o).alloc p) := fun W o p => ((below_alloc p (below_refl _)).block W.heap.size (by simp; omega)).trans (al1 W o)
  have a10 := fun W o => (atB3 (al1 W o)).1
  have a11 := fun W o => (atB3 (al1 W o)).2.1
  have a12 := fun W o => (atB3 (al1 W o)).2.2.1
  have a13 := fun W o => (atB3 (al1 W o)).2.2.2
  have a20 := fun W o p => (atB3 (al2 W o p)).1
  have a21 := fun W o p => (atB3 (al2 W o p)).2.1
  have a22 := fun W o p => (atB3 (al2 W o p)).2.2.1
  have a23 := fun W o p => (atB3 (al2 W o p)).2.2.2
  clear al1 al2
  clear h h2 hf hZ
  go_enter Try.func29, Try.ntmps29
  go_wp2_with (first
    | (go_at_call 21; refine (rheld_any _ _ _ T _ H.out HV.out).mono ?_; rintro e wq ⟨gh, rfl, hgh, hBh, hb1⟩; have HBH := Lib.hid hBh; have HB1 := Lib.hid hb1; have HGH := Lib.hid hgh; have HT := Lib.hid (H.out.fw hb1); have HQ := Lib.hid (H2.out.fw hb1); clear hgh hBh hb1)
    | fail)
  have HJ := Lib.hid (Jn.start wq)
  go_cut [8] from 20 to 26 (fun v wz => ∃ gr g1 d1 gz zc g2 d2 : Nat, v = .pointer (some ⟨gr, 0, none⟩) ∧ Hid (Made wq n (List.replicate n 0) T (List.replicate n 0) gr g1 d1 gz zc g2 d2 wz))
  case first =>
    go_region_held3 (fun _ => True)
      (trivial)
      (first
          | (go_at_call 31; (refine (clone_any ta n tc T _ (HT.out.fw (HJ.out.fw (below_refl _).drew).be) HV.out).mono ?_); rintro e w6 ⟨gz, zc, rfl, hO, hb⟩; have HJ6 := Lib.hid (Jn.table (HJ.out.fw (below_refl _).drew) 1 hb hO); clear hO hb; (try (have s3 := atB3 (HJ6.out.fp 3).now; obtain ⟨s0, s1, s2, s4⟩ := s3; have s5 := atB3a (HJ6.out.fp 3).now; obtain ⟨t0, t1, t2, t4⟩ := s5; have s6 := atB3b (HJ6.out.fp 3).now; obtain ⟨r0, r1, r2, r4⟩ := s6; (try simp only [World.size_alloc] at s0 s1 s2 s4 t0 t1 t2 t4 r0 r1 r2 r4))))
          | (go_at_call 31; (refine (clone_any ta n tc T _ (HT.out.fw ((Jn.make HJ.out 0 HZ.out hnm).fw (below_refl _).drew).be) HV.out).mono ?_); rintro e w6 ⟨gz, zc, rfl, hO, hb⟩; have HJ6 := Lib.hid (Jn.table ((Jn.make HJ.out 0 HZ.out hnm).fw (below_refl _).drew) 1 hb hO); clear hO hb; (try (have s3 := atB3 (HJ6.out.fp 3).now; obtain ⟨s0, s1, s2, s4⟩ := s3; have s5 := atB3a (HJ6.out.fp 3).now; obtain ⟨t0, t1, t2, t4⟩ := s5; have s6 := atB3b (HJ6.out.fp 3).now; obtain ⟨r0, r1, r2, r4⟩ := s6; (try simp only [World.size_alloc] at s0 s1 s2 s4 t0 t1 t2 t4 r0 r1 r2 r4))))
          | (go_at_call 31; (refine (clone_any ta n tc T _ (HT.out.fw ((HJ.out.alloc 3 (.cells #[.slice none 0 0, .slice none 0 0, .slice none 0 0] 78 (0, 0)) (heap_alloc_new _ _)).fw (below_refl _).drew).be) HV.out).mono ?_); rintro e w6 ⟨gz, zc, rfl, hO, hb⟩; have HJ6 := Lib.hid (Jn.table ((HJ.out.alloc 3 (.cells #[.slice none 0 0, .slice none 0 0, .slice none 0 0] 78 (0, 0)) (heap_alloc_new _ _)).fw (below_refl _).drew) 1 hb hO); clear hO hb; (try (have s3 := atB3 (HJ6.out.fp 3).now; obtain ⟨s0, s1, s2, s4⟩ := s3; have s5 := atB3a (HJ6.out.fp 3).now; obtain ⟨t0, t1, t2, t4⟩ := s5; have s6 := atB3b (HJ6.out.fp 3).now; obtain ⟨r0, r1, r2, r4⟩ := s6; (try simp only [World.size_alloc] at s0 s1 s2 s4 t0 t1 t2 t4 r0 r1 r2 r4))))
          | (go_at_call 31; (refine (clone_any ta n tc T _ (HT.out.fw ((Jn.make (Jn.make HJ.out 0 HZ.out hnm) 2 HZ.out hnm).fw (below_refl _).drew).be) HV.out).mono ?_); rintro e w6 ⟨gz, zc, rfl, hO, hb⟩; have HJ6 := Lib.hid (Jn.table ((Jn.make (Jn.make HJ.out 0 HZ.out hnm) 2 HZ.out hnm).fw (below_refl _).drew) 1 hb hO); clear hO hb; (try (have s3 := atB3 (HJ6.out.fp 3).now; obtain ⟨s0, s1, s2, s4⟩ := s3; have s5 := atB3a (HJ6.out.fp 3).now; obtain ⟨t0, t1, t2, t4⟩ := s5; have s6 := atB3b (HJ6.out.fp 3).now; obtain ⟨r0, r1, r2, r4⟩ := s6; (try simp only [World.size_alloc] at s0 s1 s2 s4 t0 t1 t2 t4 r0 r1 r2 r4))))
          | (go_at_call 31; (refine (clone_any ta n tc T _ (HT.out.fw (((Jn.make HJ.out 0 HZ.out hnm).alloc 3 (.cells #[.slice none 0 0, .slice none 0 0, .slice none 0 0] 78 (0, 0)) (heap_alloc_new _ _)).fw (below_refl _).drew).be) HV.out).mono ?_); rintro e w6 ⟨gz, zc, rfl, hO, hb⟩; have HJ6 := Lib.hid (Jn.table (((Jn.make HJ.out 0 HZ.out hnm).alloc 3 (.cells #[.slice none 0 0, .slice none 0 0, .slice none 0 0] 78 (0, 0)) (heap_alloc_new _ _)).fw (below_refl _).drew) 1 hb hO); clear hO hb; (try (have s3 := atB3 (HJ6.out.fp 3).now; obtain ⟨s0, s1, s2, s4⟩ := s3; have s5 := atB3a (HJ6.out.fp 3).now; obtain ⟨t0, t1, t2, t4⟩ := s5; have s6 := atB3b (HJ6.out.fp 3).now; obtain ⟨r0, r1, r2, r4⟩ := s6; (try simp only [World.size_alloc] at s0 s1 s2 s4 t0 t1 t2 t4 r0 r1 r2 r4))))
          | (go_at_call 31; (refine (clone_any ta n tc T _ (HT.out.fw ((Jn.make (HJ.out.alloc 3 (.cells #[.slice none 0 0, .slice none 0 0, .slice none 0 0] 78 (0, 0)) (heap_alloc_new _ _)) 0 HZ.out hnm).fw (below_refl _).drew).be) HV.out).mono ?_); rintro e w6 ⟨gz, zc, rfl, hO, hb⟩; have HJ6 := Lib.hid (Jn.table ((Jn.make (HJ.out.alloc 3 (.cells #[.slice none 0 0, .slice none 0 0, .slice none 0 0] 78 (0, 0)) (heap_alloc_new _ _)) 0 HZ.out hnm).fw (below_refl _).drew) 1 hb hO); clear hO hb; (try (have s3 := atB3 (HJ6.out.fp 3).now; obtain ⟨s0, s1, s2, s4⟩ := s3; have s5 := atB3a (HJ6.out.fp 3).now; obtain ⟨t0, t1, t2, t4⟩ := s5; have s6 := atB3b (HJ6.out.fp 3).now; obtain ⟨r0, r1, r2, r4⟩ := s6; (try simp only [World.size_alloc] at s0 s1 s2 s4 t0 t1 t2 t4 r0 r1 r2 r4))))
          | (go_at_call 31; (refine (clone_any ta n tc T _ (HT.out.fw (((Jn.make (Jn.make HJ.out 0 HZ.out hnm) 2 HZ.out hnm).alloc 3 (.cells #[.slice none 0 0, .slice none 0 0, .slice none 0 0] 78 (0, 0)) (heap_alloc_new _ _)).fw (below_refl _).drew).be) HV.out).mono ?_); rintro e w6 ⟨gz, zc, rfl, hO, hb⟩; have HJ6 := Lib.hid (Jn.table (((Jn.make (Jn.make HJ.out 0 HZ.out hnm) 2 HZ.out hnm).alloc 3 (.cells #[.slice none 0 0, .slice none 0 0, .slice none 0 0] 78 (0, 0)) (heap_alloc_new _ _)).fw (below_refl _).drew) 1 hb hO); clear hO hb; (try (have s3 := atB3 (HJ6.out.fp 3).now; obtain ⟨s0, s1, s2, s4⟩ := s3; have s5 := atB3a (HJ6.out.fp 3).now; obtain ⟨t0, t1, t2, t4⟩ := s5; have s6 := atB3b (HJ6.out.fp 3).now; obtain ⟨r0, r1, r2, r4⟩ := s6; (try simp only [World.size_alloc] at s0 s1 s2 s4 t0 t1 t2 t4 r0 r1 r2 r4))))
          | (go_at_call 31; (refine (clone_any ta n tc T _ (HT.out.fw ((Jn.make ((Jn.make HJ.out 0 HZ.out hnm).alloc 3 (.cells #[.slice none 0 0, .slice none 0 0, .slice none 0 0] 78 (0, 0)) (heap_alloc_new _ _)) 2 HZ.out hnm).fw (below_refl _).drew).be) HV.out).mono ?_); rintro e w6 ⟨gz, zc, rfl, hO, hb⟩; have HJ6 := Lib.hid (Jn.table ((Jn.make ((Jn.make HJ.out 0 HZ.out hnm).alloc 3 (.cells #[.slice none 0 0, .slice none 0 0, .slice none 0 0] 78 (0, 0)) (heap_alloc_new _ _)) 2 HZ.out hnm).fw (below_refl _).drew) 1 hb hO); clear hO hb; (try (have s3 := atB3 (HJ6.out.fp 3).now; obtain ⟨s0, s1, s2, s4⟩ := s3; have s5 := atB3a (HJ6.out.fp 3).now; obtain ⟨t0, t1, t2, t4⟩ := s5; have s6 := atB3b (HJ6.out.fp 3).now; obtain ⟨r0, r1, r2, r4⟩ := s6; (try simp only [World.size_alloc] at s0 s1 s2 s4 t0 t1 t2 t4 r0 r1 r2 r4))))
          | (go_at_call 31; (refine (clone_any ta n tc T _ (HT.out.fw ((Jn.make (Jn.make (HJ.out.alloc 3 (.cells #[.slice none 0 0, .slice none 0 0, .slice none 0 0] 78 (0, 0)) (heap_alloc_new _ _)) 0 HZ.out hnm) 2 HZ.out hnm).fw (below_refl _).drew).be) HV.out).mono ?_); rintro e w6 ⟨gz, zc, rfl, hO, hb⟩; have HJ6 := Lib.hid (Jn.table ((Jn.make (Jn.make (HJ.out.alloc 3 (.cells #[.slice none 0 0, .slice none 0 0, .slice none 0 0] 78 (0, 0)) (heap_alloc_new _ _)) 0 HZ.out hnm) 2 HZ.out hnm).fw (below_refl _).drew) 1 hb hO); clear hO hb; (try (have s3 := atB3 (HJ6.out.fp 3).now; obtain ⟨s0, s1, s2, s4⟩ := s3; have s5 := atB3a (HJ6.out.fp 3).now; obtain ⟨t0, t1, t2, t4⟩ := s5; have s6 := atB3b (HJ6.out.fp 3).now; obtain ⟨r0, r1, r2, r4⟩ := s6; (try simp only [World.size_alloc] at s0 s1 s2 s4 t0 t1 t2 t4 r0 r1 r2 r4))))
          | fail)
    all_goals
      go_wp2_with fail
      go_meet
      first
        | (with_reducible exact ⟨_, _, _, gz, zc, _, _, rfl, made_of2 HJ6.out (by with_unfolding_all rfl) (by with_unfolding_all rfl) (by with_unfolding_all rfl) (by with_unfolding_all rfl) (by first | rfl | (simp; done) | fail) (by first | rfl | (simp; done) | fail) (by first | rfl | (simp; done) | fail)⟩)
        | (with_reducible exact ⟨_, _, _, gz, zc, _, _, rfl, made_of2 (Jn.make HJ6.out 2 HZ.out hnm) (by with_unfolding_all rfl) (by with_unfolding_all rfl) (by with_unfolding_all rfl) (by with_unfolding_all rfl) (by first | rfl | (simp; done) | fail) (by first | rfl | (simp; done) | fail) (by first | rfl | (simp; done) | fail)⟩)
        | (with_reducible exact ⟨_, _, _, gz, zc, _, _, rfl, made_of2 (Jn.make (Jn.make HJ6.out 0 HZ.out hnm) 2 HZ.out hnm) (by with_unfolding_all rfl) (by with_unfolding_all rfl) (by with_unfolding_all rfl) (by with_unfolding_all rfl) (by first | rfl | (simp; done) | fail) (by first | rfl | (simp; done) | fail) (by first | rfl | (simp; done) | fail)⟩)
        | (with_reducible exact ⟨_, _, _, gz, zc, _, _, rfl, made_dir (HJ6.out.alloc 3 _ (heap_alloc_new _ _)) (by with_unfolding_all rfl) (by with_unfolding_all rfl) (by with_unfolding_all rfl) (by with_unfolding_all rfl) (by first | rfl | (simp; done) | fail) (by first | rfl | (simp; done) | fail) (by first | rfl | (simp; done) | fail)⟩)
        | (with_reducible exact ⟨_, _, _, gz, zc, _, _, rfl, made_dir ((Jn.make HJ6.out 2 HZ.out hnm).alloc 3 _ (heap_alloc_new _ _)) (by with_unfolding_all rfl) (by with_unfolding_all rfl) (by with_unfolding_all rfl) (by with_unfolding_all rfl) (by first | rfl | (simp; done) | fail) (by first | rfl | (simp; done) | fail) (by first | rfl | (simp; done) | fail)⟩)
        | (with_reducible exact ⟨_, _, _, gz, zc, _, _, rfl, made_dir (Jn.make (HJ6.out.alloc 3 _ (heap_alloc_new _ _)) 2 HZ.out hnm) (by with_unfolding_all rfl) (by with_unfolding_all rfl) (by with_unfolding_all rfl) (by with_unfolding_all rfl) (by first | rfl | (simp; done) | fail) (by first | rfl | (simp; done) | fail) (by first | rfl | (simp; done) | fail)⟩)
        | (with_reducible exact ⟨_, _, _, gz, zc, _, _, rfl, made_dir ((Jn.make (Jn.make HJ6.out 0 HZ.out hnm) 2 HZ.out hnm).alloc 3 _ (heap_alloc_new _ _)) (by with_unfolding_all rfl) (by with_unfolding_all rfl) (by with_unfolding_all rfl) (by with_unfolding_all rfl) (by first | rfl | (simp; done) | fail) (by first | rfl | (simp; done) | fail) (by first | rfl | (simp; done) | fail)⟩)
        | (with_reducible exact ⟨_, _, _, gz, zc, _, _, rfl, made_dir (Jn.make ((Jn.make HJ6.out 0 HZ.out hnm).alloc 3 _ (heap_alloc_new _ _)) 2 HZ.out hnm) (by with_unfolding_all rfl) (by with_unfolding_all rfl) (by with_unfolding_all rfl) (by with_unfolding_all rfl) (by first | rfl | (simp; done) | fail) (by first | rfl | (simp; done) | fail) (by first | rfl | (simp; done) | fail)⟩)
        | (with_reducible exact ⟨_, _, _, gz, zc, _, _, rfl, made_dir (Jn.make (Jn.make (HJ6.out.alloc 3 _ (heap_alloc_new _ _)) 0 HZ.out hnm) 2 HZ.out hnm) (by with_unfolding_all rfl) (by with_unfolding_all rfl) (by with_unfolding_all rfl) (by with_unfolding_all rfl) (by first | rfl | (simp; done) | fail) (by first | rfl | (simp; done) | fail) (by first | rfl | (simp; done) | fail)⟩)
        | (with_reducible exact ⟨_, _, _, gz, zc, _, _, rfl, made_of2 HJ6.out.swap (by with_unfolding_all rfl) (by with_unfolding_all rfl) (by with_unfolding_all rfl) (by with_unfolding_all rfl) (by first | rfl | (simp; done) | fail) (by first | rfl | (simp; done) | fail) (by first | rfl | (simp; done) | fail)⟩)
        | (with_reducible exact ⟨_, _, _, gz, zc, _, _, rfl, made_of2 (Jn.make HJ6.out 2 HZ.out hnm).swap (by with_unfolding_all rfl) (by with_unfolding_all rfl) (by with_unfolding_all rfl) (by with_unfolding_all rfl) (by first | rfl | (simp; done) | fail) (by first | rfl | (simp; done) | fail) (by first | rfl | (simp; done) | fail)⟩)
        | (with_reducible exact ⟨_, _, _, gz, zc, _, _, rfl, made_of2 (Jn.make (Jn.make HJ6.out 0 HZ.out hnm) 2 HZ.out hnm).swap (by with_unfolding_all rfl) (by with_unfolding_all rfl) (by with_unfolding_all rfl) (by with_unfolding_all rfl) (by first | rfl | (simp; done) | fail) (by first | rfl | (simp; done) | fail) (by first | rfl | (simp; done) | fail)⟩)
        | (with_reducible exact ⟨_, _, _, gz, zc, _, _, rfl, made_dir (HJ6.out.alloc 3 _ (heap_alloc_new _ _)).swap (by with_unfolding_all rfl) (by with_unfolding_all rfl) (by with_unfolding_all rfl) (by with_unfolding_all rfl) (by first | rfl | (simp; done) | fail) (by first | rfl | (simp; done) | fail) (by first | rfl | (simp; done) | fail)⟩)
        | (with_reducible exact ⟨_, _, _, gz, zc, _, _, rfl, made_dir ((Jn.make HJ6.out 2 HZ.out hnm).alloc 3 _ (heap_alloc_new _ _)).swap (by with_unfolding_all rfl) (by with_unfolding_all rfl) (by with_unfolding_all rfl) (by with_unfolding_all rfl) (by first | rfl | (simp; done) | fail) (by first | rfl | (simp; done) | fail) (by first | rfl | (simp; done) | fail)⟩)
        | (with_reducible exact ⟨_, _, _, gz, zc, _, _, rfl, made_dir (Jn.make (HJ6.out.alloc 3 _ (heap_alloc_new _ _)) 2 HZ.out hnm).swap (by with_unfolding_all rfl) (by with_unfolding_all rfl) (by with_unfolding_all rfl) (by with_unfolding_all rfl) (by first | rfl | (simp; done) | fail) (by first | rfl | (simp; done) | fail) (by first | rfl | (simp; done) | fail)⟩)
        | (with_reducible exact ⟨_, _, _, gz, zc, _, _, rfl, made_dir ((Jn.make (Jn.make HJ6.out 0 HZ.out hnm) 2 HZ.out hnm).alloc 3 _ (heap_alloc_new _ _)).swap (by with_unfolding_all rfl) (by with_unfolding_all rfl) (by with_unfolding_all rfl) (by with_unfolding_all rfl) (by first | rfl | (simp; done) | fail) (by first | rfl | (simp; done) | fail) (by first | rfl | (simp; done) | fail)⟩)
        | (with_reducible exact ⟨_, _, _, gz, zc, _, _, rfl, made_dir (Jn.make ((Jn.make HJ6.out 0 HZ.out hnm).alloc 3 _ (heap_alloc_new _ _)) 2 HZ.out hnm).swap (by with_unfolding_all rfl) (by with_unfolding_all rfl) (by with_unfolding_all rfl) (by with_unfolding_all rfl) (by first | rfl | (simp; done) | fail) (by first | rfl | (simp; done) | fail) (by first | rfl | (simp; done) | fail)⟩)
        | (with_reducible exact ⟨_, _, _, gz, zc, _, _, rfl, made_dir (Jn.make (Jn.make (HJ6.out.alloc 3 _ (heap_alloc_new _ _)) 0 HZ.out hnm) 2 HZ.out hnm).swap (by with_unfolding_all rfl) (by with_unfolding_all rfl) (by with_unfolding_all rfl) (by with_unfolding_all rfl) (by first | rfl | (simp; done) | fail) (by first | rfl | (simp; done) | fail) (by first | rfl | (simp; done) | fail)⟩)
        | fail
  case rest =>
  obtain ⟨gr, g1, d1, gz, zc, g2, d2, rfl, hM⟩ := hcut
  clear a10 a11 a12 a13 a20 a21 a22 a23 hmk u0 hi hz0 hz1 hz2 HZ HJ
  have hgw : Hid (wq.heap.size ≤ gr ∧ gr < wc.heap.size) := hM.out.grl
  have HQL := Lib.hid HQ.out.len
  go_wp2_with fail
  go_loopw [9, 10] (fun nd dv wr => ∃ d : Nat, d ≤ n ∧ dv = .int .i64 (d : Int) ∧ nd = .int .i64 (sumR d (gvT T q)) ∧ Hid (Made wq n (iniL n d (gvT T q)) T (iniL n d (tkT T q)) gr g1 d1 gz zc g2 d2 wr)) (fun _ dv _ => n - (intOf dv).toNat)
  case atStart => exact ⟨0, by omega, rfl, rfl, by rw [iniL_zero, iniL_zero]; exact hM.out⟩
  obtain ⟨d, hd, rfl, rfl, hM2⟩ := hrel
  by_cases hlt : d < n
  · have i1 : (d : Int) < (n : Int) := by omega
    obtain ⟨m0, m1, m2, m3⟩ := hM2.out.cells
    have c1 := (HBH.out.fw hM2.out.be).cell (get_some (show d < (heldF T).length by rw [held_length, hlen.out]; exact hlt) 0)
    obtain ⟨qb, qo, rfl, c2⟩ := (HQ.out.fw hM2.out.be).cell d _ (get_some (show d < q.length by rw [HQL.out]; exact hlt) 0)
    have hld : (heldF T).getD d 0 = loadOf T d := rfl
    rw [hld] at c1
    have v1 := load_bound HV.out d
    have v2 := quota_bound HF.out.2.2 d
    unfold topB at v1
    obtain ⟨x, hx⟩ : ∃ v, v = loadOf T d := ⟨_, rfl⟩
    obtain ⟨y, hy⟩ : ∃ v, v = q.getD d 0 := ⟨_, rfl⟩
    rw [← hx] at c1 v1; rw [← hy] at c2 v2
    unfold vi at c1 c2
    obtain ⟨gv, hgv⟩ : ∃ v, v = gvT T q d := ⟨_, rfl⟩
    obtain ⟨tk, htk⟩ : ∃ v, v = tkT T q d := ⟨_, rfl⟩
    have e1 : max 0 (x - y) = gv := by rw [hgv, hx, hy]; rfl
    have e2 : max 0 (y - x) = tk := by rw [htk, hx, hy]; rfl
    have x1 : ∀ ats ty w, (Builtin.max_ ats ty #[.int .i64 0, .int .i64 (x - y)]).run Try.prog w = .ok (.int .i64 gv) w := fun ats ty w => by rw [run_max2, e1]
    have x2 : ∀ ats ty w, (Builtin.max_ ats ty #[.int .i64 0, .int .i64 (y - x)]).run Try.prog w = .ok (.int .i64 tk) w := fun ats ty w => by rw [run_max2, e2]
    have vg : 0 ≤ gv ∧ gv ≤ 13194139533312 := by omega
    have HS := Lib.hid (sumR_succ d (gvT T q))
    have vs := sumR_bd12 (k := d) (f := gvT T q) (c := 13194139533312) (by omega) (by decide) fun i hi => by
      have := load_bound HV.out i; unfold topB at this; have := quota_bound HF.out.2.2 i; unfold gvT; omega
    rw [← hgv] at HS
    obtain ⟨sm, hsm⟩ : ∃ v, v = sumR d (gvT T q) := ⟨_, rfl⟩
    rw [← hsm] at HS vs ⊢
    have k1 := iwq (a := x - y) (by omega)
    have k2 := w64q (a := x - y) (by omega)
    have k3 := iwq (a := y - x) (by omega)
    have k4 := w64q (a := y - x) (by omega)
    have k5 := iwq (a := sm + gv) (by omega)
    have k6 := w64q (a := sm + gv) (by omega)
    have HA := Lib.hid (hM2.out.setG d gv)
    have HA2 := Lib.hid (HA.out.setK d tk)
    rw [hgv, iniL_set hlt, htk, iniL_set hlt, ← hgv, ← htk] at HA2
    obtain ⟨_, eg, _, cg, fg, _⟩ := hM2.out.g.cell (get_some (show d < (iniL n d (gvT T q)).length by rw [iniL_len]; exact hlt) 0)
    cases eg
    obtain ⟨_, ek, _, ck, fk, _⟩ := HA.out.k.cell (get_some (show d < (iniL n d (tkT T q)).length by rw [iniL_len]; exact hlt) 0)
    cases ek
    obtain ⟨a0, a1, a2, a3⟩ := HA.out.cells
    obtain ⟨b0, b1, b2, b3⟩ := HA2.out.cells
    have ca := (HBH.out.fw HA.out.be).cell (get_some (show d < (heldF T).length by rw [held_length, hlen.out]; exact hlt) 0)
    have cb := (HBH.out.fw HA2.out.be).cell (get_some (show d < (heldF T).length by rw [held_length, hlen.out]; exact hlt) 0)
    obtain ⟨_, _, e1', da⟩ := (HQ.out.fw HA.out.be).cell d _ (get_some (show d < q.length by rw [HQL.out]; exact hlt) 0)
    cases e1'
    obtain ⟨_, _, e1', db⟩ := (HQ.out.fw HA2.out.be).cell d _ (get_some (show d < q.length by rw [HQL.out]; exact hlt) 0)
    cases e1'
    rw [hld, ← hx] at ca cb; rw [← hy] at da db
    unfold vi at ca cb da db
    obtain ⟨_, eg, _, cg2, _, _⟩ := HA2.out.g.cell (get_some (show d < (iniL n (d + 1) (gvT T q)).length by rw [iniL_len]; exact hlt) 0)
    cases eg
    have hgd : (iniL n (d + 1) (gvT T q)).getD d 0 = gv := by
      unfold iniL
      rw [List.getD_eq_getElem?_getD, List.getElem?_map, List.getElem?_range hlt, hgv]
      exact if_pos (Nat.lt_succ_self d)
    rw [hgd] at cg2
    unfold vi at cg2
    clear hgd
    clear hx hy hgv htk e1 e2 v1 v2 vs hsm hld
    go_wp2_with fail
    go_region_held3 (fun w' => w'.cell? ⟨gr, 0, none⟩ = some (.slice (some ⟨g1, 0, none⟩) n d1) ∧ w'.cell? ⟨gr, 2, none⟩ = some (.slice (some ⟨g2, 0, none⟩) n d2) ∧ w'.cell? ⟨gh, d, none⟩ = some (.int .i64 x) ∧ w'.cell? ⟨qb, qo + d, none⟩ = some (.int .i64 y))
      (go_keep)
      (fail)
    all_goals
      go_wp2_with fail
      clear k1 k2 k3 k4 k5 k6 x1 x2
      go_roundw
      case rel => exact ⟨d + 1, by omega, by go_num, by rw [HS.out], HA2.out.fw (below_refl _).drew⟩
      case measure => simp [intOf] <;> omega
  obtain rfl : n = d := by omega
  rw [iniL_all, iniL_all] at hM2
  have hR : RS T q (fun _ _ _ => 0) ((List.range n).map (gvT T q)) T ((List.range n).map (tkT T q)) := by
    have := RS.start HV.out HF.out.2.2 HF.out.2.1
    rw [hlen.out] at this; exact this
  have hsum : sumR T.length (fun d => ((List.range n).map (gvT T q)).getD d 0) = sumR n (gvT T q) := by
    rw [hlen.out]
    refine sumR_congr fun i hi => ?_
    rw [List.getD_eq_getElem?_getD, List.getElem?_map, List.getElem?_range hi]; rfl
  generalize (List.range n).map (gvT T q) = GG at hR hsum hM2
  generalize (List.range n).map (tkT T q) = KK at hR hM2
  have HR := Lib.hid hR
  have HSUM := Lib.hid hsum
  obtain ⟨m0, m1, m2, m3⟩ := hM2.out.cells
  have hrd := Lib.hid (hM2.out.reads (w' := wr) fun _ _ => rfl)
  have bG : ∀ d, d < n → 0 ≤ GG.getD d 0 ∧ GG.getD d 0 ≤ 13194139533312 := fun d hd => RS.bdG HR.out (by rw [hlen.out]; exact hd)
  have bK : ∀ d, d < n → 0 ≤ KK.getD d 0 ∧ KK.getD d 0 ≤ 13194139533312 := fun d hd => RS.bdK HR.out (by rw [hlen.out]; exact hd)
  have HBG := Lib.hid bG; have HBK := Lib.hid bK
  clear hR hsum bG bK
  obtain ⟨nd, hnd⟩ : ∃ v, v = sumR n (gvT T q) := ⟨_, rfl⟩
  rw [← hnd] at HSUM ⊢
  clear hnd
  go_wp2_with fail
  go_at_call 47
  refine (flow_any _ _ _ _ _ _ _ GG T KK _ hrd.out.1 hrd.out.2.1 hrd.out.2.2 HV.out HBG.out HBK.out).mono ?_
  clear m0 m1 m2 m3
  rintro e w8 ⟨v, rfl, hv, hb8⟩
  have hv' : FlowV T.length (fun d => GG.getD d 0) (at2 T) (fun d => KK.getD d 0) v := by rw [hlen.out]; exact hv
  have HFL := Lib.hid (HR.out.flow hv')
  have HM8 := Lib.hid (hM2.out.fw hb8)
  have HB8 := Lib.hid (bt HB1.out HM8.out.be)
  clear hv hv' hb8
  by_cases hvn : v < nd
  · have hno : ∀ y, ¬ Relx T.length (gvT T q) (at2 T) (tkT T q) y := fun y hy => by
      have := (HFL.out).2 ⟨_, HR.out.rest hy fun i o t hi ho ht => hy.nn i o t hi ho ht⟩
      rw [HSUM.out] at this
      exact this hvn
    have HNO := Lib.hid hno
    clear hno
    go_wp2_with fail
    go_ret2
    exact ⟨.inl ⟨HNO.out, rfl⟩, HB8.out⟩
  have hBX : BestX T q x := by
    rcases HD.out with hno | hB
    · have h1 : ∃ y, Relx T.length (fun d => GG.getD d 0) (at2 T) (fun d => KK.getD d 0) y := HFL.out.1 (by rw [HSUM.out]; exact hvn)
      obtain ⟨y, hy⟩ := h1
      exact absurd (HR.out.join hy) (hno _)
    · exact hB
  have HX := Lib.hid hBX
  clear hBX HFL HBG HBK hrd
  have O4 : OwnA vmz 4 w8.heap.size 48 (w8.alloc (.cells #[] 48 (0, 0))) (some ⟨w8.heap.size, 0, none⟩) 0 0 [] := ⟨rfl, .inr ⟨w8.heap.size, #[], rfl, Nat.le_refl _, heap_alloc_new w8 _, Nat.le_refl _, by simp [maxLen], rfl, rfl⟩⟩
  have hba := below_alloc (.cells #[] 48 (0, 0)) (below_refl w8)
  have S9 := Lib.hid (SInv.start HM8.out O4 hba)
  have B9 := Lib.hid (bt HB8.out hba)
  have R9 : Hid (RS T q (uptoZ x 0 0 0) GG T KK) := by show RS _ _ _ _ _ _; rw [upto_0]; exact HR.out
  have hgr2 : w.heap.size ≤ gr := Nat.le_trans HB1.out.size hgw.out.1
  have HGR := Lib.hid hgr2
  have HBS : Hid (w.heap.size ≤ w8.heap.size) := HB8.out.size
  have N9 : Hid (nd = sumR T.length fun d => GG.getD d 0) := HSUM.out.symm
  clear O4 hba hgr2
  go_wp2_with fail
  go_loopw [9, 11, 12, 13, 14, 15] (fun nv ov hv _ _ _ wr => ∃ h : Nat, h ≤ n ∧ hv = .int .i64 (h : Int) ∧ LI T q x n gr w8.heap.size w h 0 0 (movA' x n h) nv ov wr) (fun _ _ hv _ _ _ _ => n - (intOf hv).toNat)
  case atStart => exact ⟨0, by omega, rfl, 0, nd, _, _, GG, T, KK, rfl, rfl, N9.out, R9.out, S9.out, B9.out⟩
  clear S9 B9 R9 N9 HSUM HR HM8 HB8 hM2
  obtain ⟨h, hh, rfl, L, z, oa, oc, G, N, K, rfl, rfl, hz, hR, hS, hB⟩ := hrel
  have HZ1 := Lib.hid hz; have HR1 := Lib.hid hR; have HS1 := Lib.hid hS; have HB2 := Lib.hid hB
  clear hz hR hS hB
  rename World => wo
  by_cases hlt : h < n
  rotate_left
  · obtain rfl : n = h := by omega
    have hL : (movA' x n n).length = L := by have := HS1.out.len; rw [List.length_map] at this; exact this
    subst hL
    go_wp2_with fail
    go_ret2
    exact ⟨.inr ⟨HX.out, oa, oc, rfl, HS1.out.out.mono HBS.out⟩, HB2.out⟩
  have i1 : (h : Int) < (n : Int) := by omega
  go_wp2_with fail
  go_loopw [9, 11, 13, 14, 15] (fun nv ov tv _ _ wr => ∃ o : Nat, o ≤ n ∧ tv = .int .i64 (o : Int) ∧ LI T q x n gr w8.heap.size w h o 0 (movA' x n h ++ movH x n h o) nv ov wr) (fun _ _ tv _ _ _ => n - (intOf tv).toNat)
  case atStart => exact ⟨0, by omega, rfl, L, z, oa, oc, G, N, K, rfl, rfl, HZ1.out, HR1.out, by rw [movH_zero, List.append_nil]; exact HS1.out, HB2.out⟩
  clear HZ1 HR1 HS1 HB2
  obtain ⟨o, ho, rfl, L, z, oa, oc, G, N, K, rfl, rfl, hz, hR, hS, hB⟩ := hrel
  have HZ1 := Lib.hid hz; have HR1 := Lib.hid hR; have HS1 := Lib.hid hS; have HB2 := Lib.hid hB
  clear hz hR hS hB
  by_cases hlt2 : o < n
  rotate_left
  · obtain rfl : n = o := by omega
    have HR2 : Hid (RS T q (uptoZ x (h + 1) 0 0) G N K) := RS.congr HR1.out fun i o t hi ho ht => upto_o x h (by rw [← hlen.out]; exact hi) (by rw [← hlen.out]; exact ho) (by rw [← hlen.out]; exact ht)
    go_wp2_with fail
    go_roundw
    case rel => exact ⟨h + 1, by omega, by go_num, L, z, oa, oc, G, N, K, rfl, rfl, HZ1.out, HR2.out, by rw [movA_succ]; exact HS1.out, HB2.out⟩
    case measure => simp [intOf] <;> omega
  have i2 : (o : Int) < (n : Int) := by omega
  go_wp2_with fail
  go_loopw [9, 11, 14, 15] (fun nv ov tv _ wr => ∃ t : Nat, t ≤ n ∧ tv = .int .i64 (t : Int) ∧ LI T q x n gr w8.heap.size w h o t (movA' x n h ++ movH x n h o ++ movO x h o t) nv ov wr) (fun _ _ tv _ _ => n - (intOf tv).toNat)
  case atStart => exact ⟨0, by omega, rfl, L, z, oa, oc, G, N, K, rfl, rfl, HZ1.out, HR1.out, by rw [movO_zero, List.append_nil]; exact HS1.out, HB2.out⟩
  clear HZ1 HR1 HS1 HB2
  obtain ⟨t, ht, rfl, L, z, oa, oc, G, N, K, rfl, rfl, hz, hR, hS, hB⟩ := hrel
  have HZ1 := Lib.hid hz; have HR1 := Lib.hid hR; have HS1 := Lib.hid hS; have HB2 := Lib.hid hB
  clear hz hR hS hB
  by_cases hlt3 : t < n
  rotate_left
  · obtain rfl : n = t := by omega
    have HR2 : Hid (RS T q (uptoZ x h (o + 1) 0) G N K) := RS.congr HR1.out fun i o' t hi ho ht => upto_t x h o (by rw [← hlen.out]; exact hi) (by rw [← hlen.out]; exact ho) (by rw [← hlen.out]; exact ht)
    go_wp2_with fail
    go_roundw
    case rel => exact ⟨o + 1, by omega, by go_num, L, z, oa, oc, G, N, K, rfl, rfl, HZ1.out, HR2.out, by rw [movH_succ, ← List.append_assoc]; exact HS1.out, HB2.out⟩
    case measure => simp [intOf] <;> omega
  have i3 : (t : Int) < (n : Int) := by omega
  go_upto_region 22 with fail
  go_cut [99] from 82 to 154 (fun v wz => v = .bool (decide (h = o ∨ h = t ∨ o = t)) ∧ Hid (wz = wr))
  case first =>
    by_cases e1 : h = o
    · have HDD := Lib.hid (decide_eq_true (p := h = o ∨ h = t ∨ o = t) (.inl e1))
      have g1 : ((h : Int) == (o : Int)) = true := by simp; omega
      clear e1
      go_wp2_with fail
      go_meet
      exact ⟨by rw [HDD.out], rfl⟩
    have g1 : ((h : Int) == (o : Int)) = false := by simp; omega
    by_cases e2 : h = t
    · have HDD := Lib.hid (decide_eq_true (p := h = o ∨ h = t ∨ o = t) (.inr (.inl e2)))
      have g2 : ((h : Int) == (t : Int)) = true := by simp; omega
      clear e1 e2
      go_wp2_with fail
      go_meet
      exact ⟨by rw [HDD.out], rfl⟩
    have g2 : ((h : Int) == (t : Int)) = false := by simp; omega
    by_cases e3 : o = t
    · have HDD := Lib.hid (decide_eq_true (p := h = o ∨ h = t ∨ o = t) (.inr (.inr e3)))
      have g3 : ((o : Int) == (t : Int)) = true := by simp; omega
      clear e1 e2 e3
      go_wp2_with fail
      go_meet
      exact ⟨by rw [HDD.out], rfl⟩
    have g3 : ((o : Int) == (t : Int)) = false := by simp; omega
    have HDD := Lib.hid (decide_eq_false (p := h = o ∨ h = t ∨ o = t) (by omega))
    clear e1 e2 e3
    go_wp2_with fail
    go_meet
    exact ⟨by rw [HDD.out], rfl⟩
  rename World => wy
  obtain ⟨rfl, hw⟩ := hcut
  obtain rfl : wy = wr := hw.out
  clear hw
  have hT1 : h < T.length := by rw [hlen.out]; exact hlt
  have hT2 : o < T.length := by rw [hlen.out]; exact hlt2
  have hT3 : t < T.length := by rw [hlen.out]; exact hlt3
  by_cases hE : h = o ∨ h = t ∨ o = t
  · rw [decide_eq_true hE]
    have hx0 := HX.out.self HV.out hT1 hT2 hT3 hE
    have HR2 : Hid (RS T q (uptoZ x h o (t + 1)) G N K) := by
      show RS _ _ _ _ _ _
      rw [uptoZ_next, hx0, addZ_zero]; exact HR1.out
    have HMO : Hid (movO x h o (t + 1) = movO x h o t) := by
      show _ = _
      rw [movO_succ]; unfold movX; rw [if_pos hx0, List.append_nil]
    clear hE hx0 hT1 hT2 hT3
    go_wp2_with fail
    go_roundw
    case rel => exact ⟨t + 1, by omega, by go_num, L, z, oa, oc, G, N, K, rfl, rfl, HZ1.out, HR2.out, by rw [HMO.out]; exact HS1.out, HB2.out⟩
    case measure => simp [intOf] <;> omega
  rw [decide_eq_false hE]
  have hth : t ≠ h := fun e => hE (.inr (.inl e.symm))
  have hto : t ≠ o := fun e => hE (.inr (.inr e.symm))
  have HTH := Lib.hid (show t ≠ h ∧ t ≠ o from ⟨hth, hto⟩)
  clear hE hth hto
  obtain ⟨p0, p1, p2, p3⟩ := RS.place HX.out HR1.out hT1 hT2 hT3
  have HT3 := Lib.hid (show h < T.length ∧ o < T.length ∧ t < T.length from ⟨hT1, hT2, hT3⟩)
  clear hT1 hT2 hT3
  have v1 := RS.bdG HR1.out HT3.out.1
  have v3 := RS.bdK HR1.out HT3.out.2.2
  have v2 := at2_small HR1.out.vtN h o
  have vz := sumR_bd12 (k := T.length) (f := fun d => G.getD d 0) (c := 13194139533312) HV.out.1 (by decide) fun i hi => RS.bdG HR1.out hi
  rw [← HZ1.out] at vz
  obtain ⟨Gh, hGh⟩ : ∃ v, v = G.getD h 0 := ⟨_, rfl⟩
  obtain ⟨Nh, hNh⟩ : ∃ v, v = at2 N h o := ⟨_, rfl⟩
  obtain ⟨Kt, hKt⟩ : ∃ v, v = K.getD t 0 := ⟨_, rfl⟩
  obtain ⟨X, hX⟩ : ∃ v, v = x h o t := ⟨_, rfl⟩
  have HGH2 := Lib.hid hGh; have HNH := Lib.hid hNh; have HKT := Lib.hid hKt; have HXX := Lib.hid hX
  rw [← hX] at p0 p1 p2 p3; rw [← hGh] at p1 v1; rw [← hNh] at p2 v2; rw [← hKt] at p3 v3
  clear hX
  obtain ⟨ga, gc, ha, hc, ka, kc, ⟨m0, m1, m2, m3⟩, r1, r2, r3⟩ := HS1.out.cells
  have hGl : G.length = n := r1.len
  have hKl : K.length = n := r3.len
  obtain ⟨gb, go', rfl, c1⟩ := r1.cell h _ (get_some (show h < G.length by rw [hGl]; exact hlt) 0)
  obtain ⟨kb, ko, rfl, c3⟩ := r3.cell t _ (get_some (show t < K.length by rw [hKl]; exact hlt3) 0)
  obtain ⟨m, ra, rn, rc, b1, o1, hm, rfl, c2, hr⟩ := r2.row hlt
  have hml : m.length = n := by rw [← r2.len]; exact HR1.out.vtN.len (List.mem_of_getElem? hm)
  obtain ⟨b3, o3, rfl, c4⟩ := hr.cell o _ (get_some (show o < m.length by rw [hml]; exact hlt2) 0)
  obtain rfl : rn = n := by rw [← hr.len]; exact hml
  have hmx : m.getD o 0 = at2 N h o := by unfold at2; rw [getD_of hm]
  rw [hmx, ← hNh] at c4; rw [← hGh] at c1; rw [← hKt] at c3
  unfold vi at c1 c3 c4
  obtain ⟨M, hM3⟩ : ∃ M, min Gh (min Nh Kt) = M := ⟨_, rfl⟩
  have HM3 := Lib.hid hM3
  have pM : X ≤ M ∧ M ≤ Gh ∧ M ≤ Nh ∧ M ≤ Kt := by omega
  have HBD := Lib.hid (show 0 ≤ X ∧ (X ≤ M ∧ M ≤ Gh ∧ M ≤ Nh ∧ M ≤ Kt) ∧ (0 ≤ Gh ∧ Gh ≤ 13194139533312) ∧ (0 ≤ Kt ∧ Kt ≤ 13194139533312) ∧ (0 ≤ z ∧ z ≤ 12 * 13194139533312) from ⟨p0, pM, v1, v3, vz⟩)
  clear hGh hNh hKt hM3 hGl hKl hm hr hml hmx r1 r2 r3 p0 p1 p2 p3 v1 v2 v3 vz pM
  go_wp2_with fail
  go_still_tail 18, (by kernel_rfl)
  change wpList _ _ _ _ _ wy.drew
  refine wpList_min3s rfl (.tmp 104) (.tmp 112) (.tmp 117) 3 rfl Gh Nh Kt rfl rfl rfl ?_
  rw [HM3.out]
  clear m0 m1 m2 m3 c1 c2 c3 c4
  have HS2 := Lib.hid (HS1.out.fw (below_refl wy).drew)
  have HB3 := Lib.hid (Below.drew HB2.out)
  generalize wy.drew = wd at HS2 HB3 ⊢
  go_wp2_with fail
  go_loopw [15] (fun xv wr => ∃ y : Int, xv = .int .i64 y ∧ X ≤ y ∧ y ≤ M ∧ Hid (SInv gr w8.heap.size rn G N K oa L oc ((movA' x rn h ++ movH x rn h o ++ movO x h o t).map mzOf) wr) ∧ Hid (Below w.heap.size w wr)) (fun xv _ => (intOf xv).toNat)
  case atStart => exact ⟨M, rfl, HBD.out.2.1.1, Int.le_refl _, HS2.out, HB3.out⟩
  clear HS2 HB3 HS1 HB2
  obtain ⟨y, rfl, hy1, hy2, hS, hB⟩ := hrel
  have HS1 := Lib.hid hS; have HB2 := Lib.hid hB
  clear hS hB
  rename World => wr
  have HXX2 : Hid (0 ≤ X) := HBD.out.1
  by_cases hy : 0 < y
  rotate_left
  · -- nothing can move
    have hX0 : X = 0 := by have := HXX2.out; omega
    have hx0 : x h o t = 0 := by rw [← HXX.out]; exact hX0
    have HR2 : Hid (RS T q (uptoZ x h o (t + 1)) G N K) := by
      show RS _ _ _ _ _ _
      rw [uptoZ_next, hx0, addZ_zero]; exact HR1.out
    have HMO : Hid (movO x h o (t + 1) = movO x h o t) := by
      show _ = _
      rw [movO_succ]; unfold movX; rw [if_pos hx0, List.append_nil]
    have e1 := decide_eq_false hy
    clear hX0 hx0 hy hy1 hy2
    go_wp2_with fail
    go_roundw
    case rel => exact ⟨t + 1, by omega, by go_num, L, z, oa, oc, G, N, K, rfl, rfl, HZ1.out, HR2.out, by rw [HMO.out]; exact HS1.out, HB2.out⟩
    case measure => simp [intOf] <;> omega
  have e1 := decide_eq_true hy
  have hbd := HBD.out
  have q1 : y ≤ G.getD h 0 := by rw [← HGH2.out]; omega
  have q2 : y ≤ at2 N h o := by rw [← HNH.out]; omega
  have q3 : y ≤ K.getD t 0 := by rw [← HKT.out]; omega
  have hRm := HR1.out.move (a := h) (b := o) (c := t) (x := y) HT3.out.1 HT3.out.2.1 HT3.out.2.2 HTH.out.1 HTH.out.2 (by omega) q1 q2 q3
  have hGl : G.length = rn := by rw [HR1.out.gl]; exact hlen.out
  have hsum : (sumR T.length fun d => (G.set h (G.getD h 0 - y)).getD d 0) = z - y := by
    rw [sumR_set HT3.out.1 (by rw [hlen.out]; exact hGl), ← HZ1.out]; omega
  obtain ⟨G', hG'⟩ : ∃ v, v = G.set h (G.getD h 0 - y) := ⟨_, rfl⟩
  obtain ⟨N', hN'⟩ : ∃ v, v = N.set h ((N.getD h []).set o (at2 N h o - y)) := ⟨_, rfl⟩
  obtain ⟨K', hK'⟩ : ∃ v, v = K.set t (K.getD t 0 - y) := ⟨_, rfl⟩
  rw [← hG'] at hRm hsum; rw [← hN'] at hRm; rw [← hK'] at hRm
  have HRM := Lib.hid hRm; have HSM := Lib.hid hsum; have HG' := Lib.hid hG'; have HN' := Lib.hid hN'; have HK' := Lib.hid hK'
  have HQ1 := Lib.hid q1; have HQ2 := Lib.hid q2; have HQ3 := Lib.hid q3
  have k1 := iwq (a := z - y) (by omega)
  have k2 := w64q (a := z - y) (by omega)
  have k3 := iwq (a := y - 1) (by omega)
  have k4 := w64q (a := y - 1) (by omega)
  obtain ⟨ga, gc, ha, hc, ka, kc, ⟨m0, m1, m2, m3⟩, r1, r2, r3⟩ := HS1.out.cells
  have HRD := Lib.hid (show Rd vi wr ga rn gc G ∧ RdT wr ha rn hc N ∧ Rd vi wr ka rn kc K from ⟨r1, r2, r3⟩)
  have HY := Lib.hid (show 0 ≤ y from by omega)
  have HYX := Lib.hid (show X ≤ y ∧ y ≤ M from ⟨hy1, hy2⟩)
  clear hRm hsum hGl hG' hN' hK' q1 q2 q3 hbd r1 r2 r3 hy hy1 hy2
  go_wp2_with fail
  go_at_call 48
  refine (moved_any _ _ _ _ _ _ _ G N K _ HRD.out.1 HRD.out.2.1 HRD.out.2.2 HR1.out.vtN h o t y hlt hlt2 hlt3 HY.out HQ1.out HQ2.out HQ3.out (RS.bdG HR1.out HT3.out.1).2 (RS.bdK HR1.out HT3.out.2.2).2).mono ?_
  clear m0 m1 m2 m3
  rintro e w5 ⟨g1', d1', gz', zc', g2', d2', rfl, a1, a2, a3, b5⟩
  rw [← HG'.out] at a1; rw [← HN'.out] at a2; rw [← HK'.out] at a3
  have A1 := Lib.hid a1; have A2 := Lib.hid a2; have A3 := Lib.hid a3; have B5 := Lib.hid b5
  clear a1 a2 a3 b5
  go_wp2_with fail
  go_at_call 47
  refine (flow_any _ _ _ _ _ _ _ G' N' K' _ A1.out.rd A2.out.rdt A3.out.rd HRM.out.vtN (fun d hd => RS.bdG HRM.out (by rw [hlen.out]; exact hd)) (fun d hd => RS.bdK HRM.out (by rw [hlen.out]; exact hd))).mono ?_
  rintro e w6 ⟨v', rfl, hv, b6⟩
  have hv' : FlowV T.length (fun d => G'.getD d 0) (at2 N') (fun d => K'.getD d 0) v' := by rw [hlen.out]; exact hv
  have HFL := Lib.hid (HRM.out.flow hv')
  have B6 := Lib.hid (bt B5.out b6)
  clear hv hv' b6
  by_cases hvn : v' < z - y
  · have hne : X < y := by
      refine Classical.byContradiction fun hc => ?_
      have e : y = x h o t := by rw [← HXX.out]; have := HYX.out; omega
      have hR3 := HRM.out
      rw [e] at hR3
      have := HFL.out.2 (hR3.does HX.out)
      rw [HSM.out] at this
      exact this hvn
    have e2 := decide_eq_true hvn
    have HS4 := Lib.hid (HS1.out.fw B6.out); have HB4 := Lib.hid (bt HB2.out B6.out)
    have hyy := HYX.out
    have hx0' := HXX2.out
    clear hvn HFL
    go_wp2_with fail
    clear k1 k2 k3 k4
    go_roundw
    case rel => exact ⟨y - 1, rfl, by omega, by omega, HS4.out, HB4.out⟩
    case measure => simp [intOf] <;> omega
  have hyX : y = X := by
    have h1 : ∃ y', Relx T.length (fun d => G'.getD d 0) (at2 N') (fun d => K'.getD d 0) y' := HFL.out.1 (by rw [HSM.out]; exact hvn)
    have h2 := HRM.out.fits HX.out HT3.out.1 HT3.out.2.1 HT3.out.2.2 h1
    rw [← HXX.out] at h2
    have := HYX.out; omega
  have HYE := Lib.hid hyX
  have e2 := decide_eq_false hvn
  have HS4 := Lib.hid (HS1.out.fw B6.out); have HB4 := Lib.hid (bt HB2.out B6.out)
  clear hvn HFL hyX k3 k4 A1 A2 A3 B5 B6 HRD
  obtain ⟨ga2, gc2, ha2, hc2, ka2, kc2, ⟨m0, m1, m2, m3⟩, r1, r2, r3⟩ := HS4.out.cells
  have HRD := Lib.hid (show Rd vi w6 ga2 rn gc2 G ∧ RdT w6 ha2 rn hc2 N ∧ Rd vi w6 ka2 rn kc2 K from ⟨r1, r2, r3⟩)
  clear r1 r2 r3
  go_wp2_with fail
  go_at_call 48
  refine (moved_any _ _ _ _ _ _ _ G N K _ HRD.out.1 HRD.out.2.1 HRD.out.2.2 HR1.out.vtN h o t y hlt hlt2 hlt3 HY.out HQ1.out HQ2.out HQ3.out (RS.bdG HR1.out HT3.out.1).2 (RS.bdK HR1.out HT3.out.2.2).2).mono ?_
  clear m0 m1 m2 m3
  rintro e w7 ⟨g1'', d1'', gz'', zc'', g2'', d2'', rfl, a1, a2, a3, b7⟩
  rw [← HG'.out] at a1; rw [← HN'.out] at a2; rw [← HK'.out] at a3
  have HS5 := Lib.hid (HS4.out.moved b7 a1 a2 a3)
  have hlt6 := HS4.out.lt
  obtain ⟨ga3, gc3, ha3, hc3, ka3, kc3, ⟨m0, m1, m2, m3⟩, _⟩ := (HS4.out.fw b7).cells
  have HB5 := Lib.hid ((((bt HB4.out b7).setCell (p := ⟨gr, 0, none⟩) HGR.out (.slice (some ⟨g1'', 0, none⟩) rn d1'')).setCell (p := ⟨gr, 1, none⟩) HGR.out (.slice (some ⟨gz'', 0, none⟩) rn zc'')).setCell (p := ⟨gr, 2, none⟩) HGR.out (.slice (some ⟨g2'', 0, none⟩) rn d2''))
  clear a1 a2 a3 b7 hlt6 HS4 HB4 HRD
  go_upto_region 28 with fail
  clear m0 m1 m2 m3
  generalize (((w7.setCell ⟨gr, 0, none⟩ (.slice (some ⟨g1'', 0, none⟩) rn d1'')).setCell ⟨gr, 1, none⟩ (.slice (some ⟨gz'', 0, none⟩) rn zc'')).setCell ⟨gr, 2, none⟩ (.slice (some ⟨g2'', 0, none⟩) rn d2'')) = wz at HS5 HB5 ⊢
  have hba := below_alloc (.cells #[.int .i64 (h : Int), .int .i64 (t : Int), .int .i64 (o : Int), .int .i64 y] 48) (below_refl wz)
  have HNW := Lib.hid (heap_alloc_new wz (.cells #[.int .i64 (h : Int), .int .i64 (t : Int), .int .i64 (o : Int), .int .i64 y] 48))
  have HS6 := Lib.hid (HS5.out.fw hba)
  have HOA := Lib.hid HS6.out.out
  have HW8 : Hid (w8.heap.size ≤ (wz.alloc (.cells #[.int .i64 (h : Int), .int .i64 (t : Int), .int .i64 (o : Int), .int .i64 y] 48)).heap.size) := HS6.out.base
  have HB6 := Lib.hid (bt HB5.out hba)
  have hyx : y = x h o t := by rw [HYE.out, HXX.out]
  have HR2 : Hid (RS T q (uptoZ x h o (t + 1)) G' N' K') := by
    show RS _ _ _ _ _ _
    rw [uptoZ_next, ← hyx]; exact HRM.out
  have HMS : Hid ((movA' x rn h ++ movH x rn h o ++ movO x h o (t + 1)).map mzOf = (movA' x rn h ++ movH x rn h o ++ movO x h o t).map mzOf ++ [(⟨(h : Int), (t : Int), (o : Int), y⟩ : Mz)]) := by
    show _ = _
    have hne : ¬ x h o t = 0 := by rw [← hyx]; have := HY.out; have : 0 < y := of_decide_eq_true e1; omega
    rw [movO_succ, ← List.append_assoc, List.map_append]
    unfold movX
    rw [if_neg hne, ← hyx]
    rfl
  have hLl : L ≤ 100000 := by
    have h0 := HS6.out.len
    rw [List.length_map, List.length_append, List.length_append] at h0
    have h1 := movA_len x rn h; have h2 := movH_len x rn h o; have h3 := movO_len x h o t
    have h4 : h * (rn * rn) ≤ 12 * (12 * 12) := Nat.mul_le_mul (by omega) (Nat.mul_le_mul (by omega) (by omega))
    have h5 : o * rn ≤ 12 * 12 := Nat.mul_le_mul (by omega) (by omega)
    omega
  have HLL := Lib.hid hLl
  obtain ⟨im, him, hzm0, hzm1, hzm2⟩ := info_parts infoRMv
  have um := Try.underlying43
  clear hba hyx hLl
  go_wp2_with (first
    | (at_builtin; refine wpList_pushA rfl (.tmp 147) (.tmp 153) 43 rfl vmz 4 vmz_len vmz_one w8.heap.size 48 im (.agg #[.int .i64 0, .int .i64 0, .int .i64 0, .int .i64 0]) 32 um him hzm0 hzm1 hzm2 rfl (by omega) oa L oc _ rfl HOA.out wz.heap.size (⟨(h : Int), (t : Int), (o : Int), y⟩ : Mz) _ rfl _ _ rfl HNW.out HLL.out (by omega) HW8.out ?_; intro g5 c5 w9 hown hgr hl; have HS7 := Lib.hid (HS6.out.push hown hgr hl); have B9 : Hid (Below w.heap.size w w9) := HB6.out.grown hgr HB6.out.size (fun k hk => Nat.le_trans HBS.out (HOA.out.lt k hk).1); clear hown hgr hl)
    | fail)
  clear k1 k2
  go_roundw
  case rel => exact ⟨t + 1, by omega, by go_num, L + 1, z - y, _, c5, G', N', K', rfl, rfl, HSM.out.symm, HR2.out, by rw [HMS.out]; exact HS7.out, B9.out⟩
  case measure => simp [intOf] <;> omega
end Go.Proofs.Ytpecepfnmkpmmaa
