/- quota: push. -/
import Derived.Test.YtpecepfnmkpmmaaNe
namespace Quo
def bott (g : Net) (way : List Nat) : Nat → Int
  | 0 => g.room (elC way 0)
  | j + 1 => min (bott g way j) (g.room (elC way j))
def shift (x : Int) (g : Net) (k : Nat) : Net := (g.setRoom k (g.room k - x)).setRoom (k ^^^ 1) ((g.setRoom k (g.room k - x)).room (k ^^^ 1) + x)
/-- No number of the network is great. -/
def Small (g : Net) (c : Int) : Prop := ∀ a ∈ g.arcs, -c ≤ a.2 ∧ a.2 ≤ c
instance (g : Net) (c : Int) : Decidable (Small g c) := by unfold Small; infer_instance
def lim : Int := 35184372088832
def pushF (s t : Nat) : Nat → Net → Int → Option (Net × Int)
  | 0, _, _ => none
  | f + 1, g, sum => if Small g lim ∧ -(1000 * lim) ≤ sum ∧ sum ≤ 1000 * lim then
      match routeF g s t 1000 with
      | none => none
      | some [] => some (g, sum)
      | some (k :: way) => if (∀ i ∈ k :: way, i < g.arcs.length) ∧ way.length < 1000 then pushF s t f ((k :: way).foldl (shift (bott g (k :: way) (way.length + 1))) g) (sum + bott g (k :: way) (way.length + 1)) else none
    else none
theorem setRoom_len (g : Net) (k : Nat) (r : Int) : (g.setRoom k r).arcs.length = g.arcs.length := by unfold Net.setRoom; simp
theorem setRoom_tip (g : Net) (k : Nat) (r : Int) (i : Nat) : (g.setRoom k r).tip i = g.tip i := by
  unfold Net.setRoom Net.tip
  show ((g.arcs.set k _).getD i (0, 0)).1 = _
  rw [List.getD_eq_getElem?_getD, List.getElem?_set]
  by_cases e : k = i
  · subst e
    rw [if_pos rfl]
    by_cases h : k < g.arcs.length
    · rw [if_pos h]; rfl
    · rw [if_neg h, List.getD_eq_getElem?_getD, List.getElem?_eq_none (by omega)]
  · rw [if_neg e, List.getD_eq_getElem?_getD]
theorem setRoom_room (g : Net) (k : Nat) (r : Int) (i : Nat) (hk : k < g.arcs.length) : (g.setRoom k r).room i = if i = k then r else g.room i := by
  unfold Net.setRoom Net.room
  show ((g.arcs.set k _).getD i (0, 0)).2 = _
  rw [List.getD_eq_getElem?_getD, List.getElem?_set]
  by_cases e : k = i
  · subst e
    rw [if_pos rfl, if_pos hk, if_pos rfl]; rfl
  · rw [if_neg e, if_neg (fun h => e h.symm), List.getD_eq_getElem?_getD]
theorem NetOk.setRoom {g : Net} (h : NetOk g) (k : Nat) (r : Int) : NetOk (g.setRoom k r) :=
  ⟨h.nodes, by rw [setRoom_len]; exact h.arcs, fun i hi => by rw [setRoom_len] at hi ⊢; exact h.even i hi, fun i hi => by rw [setRoom_len] at hi; rw [setRoom_tip]; exact h.tips i hi, fun m hm i hi => by rw [setRoom_len]; exact h.out m hm i hi, h.rows⟩
theorem NetOk.shift {g : Net} (h : NetOk g) (x : Int) (k : Nat) : NetOk (shift x g k) := (h.setRoom _ _).setRoom _ _
theorem shift_len (x : Int) (g : Net) (k : Nat) : (shift x g k).arcs.length = g.arcs.length := by unfold shift; rw [setRoom_len, setRoom_len]
theorem shift_out (x : Int) (g : Net) (k : Nat) : (shift x g k).out = g.out := rfl
theorem shifts_ok {g : Net} (h : NetOk g) (x : Int) : ∀ (l : List Nat) , NetOk (l.foldl (Quo.shift x) g) ∧ (l.foldl (Quo.shift x) g).arcs.length = g.arcs.length ∧ (l.foldl (Quo.shift x) g).out = g.out := by
  intro l
  induction l generalizing g with
  | nil => exact ⟨h, rfl, rfl⟩
  | cons k l ih =>
    have := ih (h.shift x k)
    rw [shift_len, shift_out] at this
    exact this
theorem room_small {g : Net} {c : Int} (h : Small g c) {k : Nat} (hk : k < g.arcs.length) : -c ≤ g.room k ∧ g.room k ≤ c := h _ (List.mem_of_getElem? (get_some hk (0, 0)))
theorem small_of {g : Net} {c : Int} (h : ∀ k, k < g.arcs.length → -c ≤ g.room k ∧ g.room k ≤ c) : Small g c := by
  intro a ha
  obtain ⟨i, hi⟩ := List.mem_iff_getElem?.1 ha
  have := h i (List.getElem?_eq_some_iff.1 hi).1
  unfold Net.room at this
  rwa [getD_of hi] at this
theorem shift_small {g : Net} {c x d : Int} (h : Small g c) (hx : -d ≤ x ∧ x ≤ d) {k : Nat} (hk : k < g.arcs.length) (hk1 : k ^^^ 1 < g.arcs.length) : Small (shift x g k) (c + 2 * d) := by
  refine small_of fun i hi => ?_
  rw [shift_len] at hi
  have h0 := room_small h hi
  have h1 := room_small h hk
  have h2 := room_small h hk1
  unfold shift
  rw [setRoom_room _ _ _ _ (by rw [setRoom_len]; exact hk1), setRoom_room _ _ _ _ hk, setRoom_room _ _ _ _ hk]
  split
  · split <;> omega
  · split <;> omega
theorem shifts_small {g : Net} {x d : Int} (hok : NetOk g) (hx : -d ≤ x ∧ x ≤ d) : ∀ (l : List Nat) (c : Int), Small g c → (∀ k ∈ l, k < g.arcs.length) → Small (l.foldl (Quo.shift x) g) (c + 2 * d * l.length) := by
  intro l
  induction l generalizing g with
  | nil => intro c h _; simpa using h
  | cons k l ih =>
    intro c h hl
    have hk := hl k (List.mem_cons_self ..)
    have h1 := shift_small h hx hk (hok.even k hk)
    have := ih (hok.shift x k) (c + 2 * d) h1 (fun i hi => by rw [shift_len]; exact hl i (List.mem_cons_of_mem _ hi))
    rw [List.length_cons]
    have e : c + 2 * d + 2 * d * (l.length : Int) = c + 2 * d * ((l.length + 1 : Nat) : Int) := by
      rw [Int.natCast_add, Int.mul_add]; simp; omega
    rw [← e]
    exact this
theorem bott_small {g : Net} {c : Int} (h : Small g c) {way : List Nat} (hw : ∀ k ∈ way, k < g.arcs.length) (h0 : 0 < way.length) : ∀ j, j ≤ way.length → -c ≤ bott g way j ∧ bott g way j ≤ c := by
  intro j
  induction j with
  | zero => intro _; exact room_small h (hw _ (elC_mem h0))
  | succ j ih =>
    intro hj
    have h1 := ih (by omega)
    have h2 := room_small h (hw _ (elC_mem (show j < way.length by omega)))
    unfold bott
    omega
end Quo

namespace Go.Proofs.Ytpecepfnmkpmmaa
open Go.RowKit Go.Kin Quo
set_option maxRecDepth 100000
set_option linter.unusedVariables false
/-- A way, as the call holds it: nil, or a slice of the call's own. -/
def WayM (w : World) (wa : Option Addr) (wc : Nat) (way : List Nat) : Prop := Own vi 0 3 w wa way.length wc (way.map Int.ofNat) ∧ (way = [] → wa = none ∧ wc = 0)
theorem route_way (bg s t : Nat) (B : Nat) (X : List Nat) (g : Net) (w : World) (h : NetM w B X bg g) (ho : NetOk g) (hs : s < g.out.length) (ht : t < g.out.length) (hne : t ≠ s) (way : List Nat) (hw : routeF g s t 1000 = some way) :
    Calls Try.prog 61 #[.pointer (some ⟨bg, 0, none⟩), .int .i64 (s : Int), .int .i64 (t : Int)] w fun e w' => Below w.heap.size w w' ∧ ∃ wa wc, e = .returned (.slice wa way.length wc) ∧ WayM w' wa wc way := by
  refine (route_any bg s t B X g w h ho hs ht hne 1000 (by omega) way hw).mono fun e w' hh => ?_
  obtain ⟨hb, ⟨rfl, rfl⟩ | ⟨a, c, h1, rfl, h2⟩⟩ := hh
  · exact ⟨hb, none, 0, rfl, ⟨rfl, .inl ⟨rfl, rfl, rfl⟩⟩, fun _ => ⟨rfl, rfl⟩⟩
  · exact ⟨hb, a, c, rfl, h2.mono (Nat.zero_le _), fun e => absurd e h1⟩

/-- The arcs do not lie in a block of numbers. -/
theorem arc_ne {w : World} {B : Nat} {X : List Nat} {bg : Nat} {g : Net} (h : NetM w B X bg g) {k : Nat} (hk : k < g.arcs.length) {ag n ac : Nat} (ha : w.cell? ⟨bg, 0, none⟩ = some (.slice (some ⟨ag, 0, none⟩) n ac)) (_ : True ∨ n = g.arcs.length) {gw : Nat} {cur : Array Value} (hw : w.heap[gw]? = some (.cells cur 3 (0, 0))) : gw ≠ ag := by
  obtain ⟨aa, ac', oo, oc, L, h1, h2, _⟩ := h
  rw [cell_of_row w bg 0 _ _ _ h1] at ha
  have e : aa = some ⟨ag, 0, none⟩ := by
    have := Option.some.inj ha
    injection this
  obtain ⟨_, _, cur', hc⟩ := h2.blt e
  rintro rfl
  rw [show ((⟨gw, 0, none⟩ : Addr)).block = gw from rfl, hw] at hc
  cases hc
set_option maxHeartbeats 4000000 in
theorem push_any (bg s t : Nat) (B : Nat) (X : List Nat) (g : Net) (w : World) (h : NetM w B X bg g) (ho : NetOk g) (hs : s < g.out.length) (ht : t < g.out.length) (hne : t ≠ s) (hX : ∀ x ∈ X, x < w.heap.size) (hB : B ≤ w.heap.size) (f : Nat) (g' : Net) (tot : Int) (hp : pushF s t f g 0 = some (g', tot)) :
    Calls Try.prog 46 #[.pointer (some ⟨bg, 0, none⟩), .int .i64 (s : Int), .int .i64 (t : Int)] w fun e w' => e = .returned (.int .i64 tot) ∧ NetM w' B X bg g' ∧ NetOk g' ∧ g'.out = g.out ∧ g'.arcs.length = g.arcs.length ∧ Fr B X w w' := by
  have hq : ∀ (w : World) (a : Option Addr) (l c : Nat), (binOp .neq 26 (.slice a l c) (.slice none 0 0)).run Try.prog w = .ok (.bool (!a.isNone)) w := fun w a l c => run_neq_slice_nil_any w _ _ a l c 0 0 Try.underlying26
  obtain ⟨f, rfl⟩ : ∃ k, f = k + 1 := ⟨f - 1, by cases f with | zero => (unfold pushF at hp; cases hp) | succ f => omega⟩
  obtain ⟨way, hway⟩ : ∃ way, routeF g s t 1000 = some way := by
    unfold pushF at hp
    split at hp
    · cases hr : routeF g s t 1000 with
      | none => rw [hr] at hp; cases hp
      | some way => exact ⟨way, rfl⟩
    · cases hp
  have HN := Lib.hid h; have HOK := Lib.hid ho; have HP := Lib.hid hp; have HWY := Lib.hid hway; have HX := Lib.hid hX
  clear h ho hp hway hX
  go_enter Try.func46, Try.ntmps46
  go_wp2_with (go_at_call 61; refine (route_way bg s t B X g _ HN.out HOK.out hs ht hne way HWY.out).mono ?_; rintro e w1 ⟨hb1, wa, wc, rfl, hw1⟩; have HB1 := Lib.hid hb1; have HW1 := Lib.hid hw1; clear hb1 hw1)
  have HN1 := Lib.hid (HN.out.fw HB1.out)
  go_loopg [7, 8] (f + 1) (fun k y z wr => ∃ (g1 : Net) (sum : Int) (way : List Nat) (wa : Option Addr) (wc : Nat), y = .int .i64 sum ∧ z = .slice wa way.length wc ∧ Hid (WayM wr wa wc way) ∧ Hid (routeF g1 s t 1000 = some way) ∧ Hid (pushF s t k g1 sum = some (g', tot)) ∧ Hid (NetM wr B X bg g1) ∧ Hid (NetOk g1) ∧ Hid (g1.out = g.out ∧ g1.arcs.length = g.arcs.length) ∧ Hid (Fr B X w wr))
  case atStart => exact ⟨g, 0, way, wa, wc, rfl, rfl, HW1.out, HWY.out, HP.out, HN1.out, HOK.out, ⟨rfl, rfl⟩, Fr.of_below HB1.out⟩
  case round =>
    obtain ⟨g1, sum, way, wa, wc, rfl, rfl, hW, hwy, hp, hN, hOK, hsh, hfr⟩ := hrel
    rename World => wo
    have hgk : gk ≠ 0 := by
      rintro rfl
      have := hp.out
      unfold pushF at this
      cases this
    obtain ⟨k, rfl⟩ : ∃ k, gk = k + 1 := ⟨gk - 1, by omega⟩
    clear hgk
    have hp2 := hp.out
    unfold pushF at hp2
    split at hp2
    case isFalse => cases hp2
    case isTrue hc =>
    rw [hwy.out] at hp2
    cases way with
    | nil =>
      obtain ⟨rfl, rfl⟩ := hW.out.2 rfl
      have hp3 : some (g1, sum) = some (g', tot) := hp2
      cases hp3
      have HC := Lib.hid hc
      clear hc hp2
      go_wp2_with fail
      go_ret
      exact ⟨rfl, hN.out, hOK.out, hsh.out.1, hsh.out.2, hfr.out⟩
    | cons k0 way0 =>
      replace hp2 : (if (∀ i ∈ k0 :: way0, i < g1.arcs.length) ∧ way0.length < 1000 then pushF s t k ((k0 :: way0).foldl (shift (bott g1 (k0 :: way0) (way0.length + 1))) g1) (sum + bott g1 (k0 :: way0) (way0.length + 1)) else none) = some (g', tot) := hp2
      split at hp2
      case isFalse => cases hp2
      case isTrue hc2 =>
      obtain ⟨way, hway⟩ : ∃ way, way = k0 :: way0 := ⟨_, rfl⟩
      obtain ⟨L, hL⟩ : ∃ L, L = way.length := ⟨_, rfl⟩
      have hL2 : L = way0.length + 1 := by rw [hL, hway]; rfl
      obtain ⟨x, hx⟩ : ∃ x, x = bott g1 way L := ⟨_, rfl⟩
      rw [← hL2, ← hway, ← hx] at hp2
      rw [← hway] at hW hwy hc2
      rw [show (k0 :: way0).length = L by rw [hL2]; rfl]
      have hLpos : 0 < L := by omega
      have hL1000 : L ≤ 1000 := by have := hc2.2; omega
      have hown := hW.out.1
      rw [← hL] at hown
      obtain ⟨gw, rfl⟩ := own_some hown hLpos
      have HW := Lib.hid hown
      have HWM := Lib.hid hc2.1
      have HP2 := Lib.hid hp2; have HXX := Lib.hid hx; have HLL := Lib.hid hL; have HC := Lib.hid hc
      have hk0 : way[0]? = some (elC way 0) := elC_some (by rw [← hL]; exact hLpos)
      obtain ⟨k00, hk00⟩ : ∃ k00, k00 = elC way 0 := ⟨_, rfl⟩
      rw [← hk00] at hk0
      have hk0l := hc2.1 k00 (List.mem_of_getElem? hk0)
      obtain ⟨gw', e2, _, c1, _, _⟩ := hown.cell (i := 0) (x := (k00 : Int)) (by rw [List.getElem?_map, hk0]; rfl)
      cases e2
      unfold vi at c1
      obtain ⟨ag, ac, a1, a2, a3, _⟩ := hN.out.arcAt (k := k00) hk0l
      have HB0 : Hid (bott g1 way 0 = g1.room k00) := by show g1.room (elC way 0) = _; rw [← hk00]
      obtain ⟨r0, hr0⟩ : ∃ r0, r0 = g1.room k00 := ⟨_, rfl⟩
      rw [← hr0] at a3 HB0
      have i1 : (0 : Int) < (L : Int) := by omega
      have i2 : (k00 : Int) < (g1.arcs.length : Int) := by omega
      have hal := hOK.out.arcs
      clear hway hL hL2 hx hc2 hc hown hp2 hk0 hk00 hk0l hr0 hW
      go_wp2_with fail
      go_quiet (fail)
      have hbq := fdrewN (below_refl wo) nq
      have HWq := Lib.hid (HW.out.fw hbq); have HNq := Lib.hid (hN.out.fw hbq); have HFq : Hid (Fr B X w (wo.drewN nq)) := hfr.out.trans (Fr.of_below hbq)
      go_wp2_with fail
      clear c1 a1 a2 a3
      generalize wo.drewN nq = wq at *
      go_loopw [9, 36] (fun y z wr => ∃ j : Nat, j ≤ L ∧ z = .int .i64 (j : Int) ∧ y = .int .i64 (bott g1 way j) ∧ wr = wq) (fun _ z _ => L - (intOf z).toNat)
      case atStart => exact ⟨0, by omega, rfl, by rw [HB0.out], by trivial⟩
      case round =>
        obtain ⟨j, hj, rfl, rfl, rfl⟩ := hrel
        by_cases hlt : j < L
        · have i3 : (j : Int) < (L : Int) := by omega
          have hkj : way[j]? = some (elC way j) := elC_some (by rw [← HLL.out]; exact hlt)
          obtain ⟨kj, hkj2⟩ : ∃ kj, kj = elC way j := ⟨_, rfl⟩
          rw [← hkj2] at hkj
          have hkl := HWM.out kj (List.mem_of_getElem? hkj)
          obtain ⟨gw', e2, _, c1, _, _⟩ := HWq.out.cell (i := j) (x := (kj : Int)) (by rw [List.getElem?_map, hkj]; rfl)
          cases e2
          unfold vi at c1
          obtain ⟨ag, ac, a1, a2, a3, _⟩ := HNq.out.arcAt (k := kj) hkl
          have i4 : (kj : Int) < (g1.arcs.length : Int) := by omega
          obtain ⟨rj, hrj⟩ : ∃ rj, rj = g1.room kj := ⟨_, rfl⟩
          rw [← hrj] at a3
          obtain ⟨y, hy⟩ : ∃ y, y = bott g1 way j := ⟨_, rfl⟩
          obtain ⟨y1, hy1⟩ : ∃ y1, y1 = bott g1 way (j + 1) := ⟨_, rfl⟩
          have HY1 := Lib.hid hy1
          have HMN : Hid (min y rj = y1) := by
            have : bott g1 way (j + 1) = min (bott g1 way j) (g1.room (elC way j)) := rfl
            rw [← hkj2, ← hy, ← hrj, ← hy1] at this
            exact this.symm
          rw [← hy]
          clear hkj hkj2 hkl hrj hy hy1
          go_wp2_with (refine wpList_min2 rfl (.tmp 40) (.tmp 48) 3 rfl y rj rfl rfl ?_; rw [HMN.out])
          refine ⟨⟨j + 1, by omega, by go_num, by rw [HY1.out], by trivial⟩, ?_⟩
          simp [intOf]; omega
        · have hjL : j = L := by omega
          subst hjL
          rw [← HXX.out]
          have hsm := HC.out
          have hxb : -lim ≤ x ∧ x ≤ lim := by rw [HXX.out, HLL.out]; exact bott_small hsm.1 HWM.out (by rw [← HLL.out]; exact hLpos) _ (Nat.le_refl _)
          have HSM := Lib.hid hsm; have HXB := Lib.hid hxb
          clear hsm hxb
          go_wp2_with fail
          go_loopw [53] (fun z wr => ∃ u : Nat, u ≤ j ∧ z = .int .i64 (u : Int) ∧ Hid (Own vi 0 3 wr (some ⟨gw, 0, none⟩) j wc (way.map Int.ofNat)) ∧ Hid (NetM wr B X bg ((way.take u).foldl (shift x) g1)) ∧ Hid (Fr B X w wr)) (fun z _ => j - (intOf z).toNat)
          case atStart => exact ⟨0, by omega, rfl, HWq.out, HNq.out, HFq.out⟩
          case round =>
            obtain ⟨u, hu, rfl, hW, hN3, hfr3⟩ := hrel
            by_cases hlt3 : u < j
            · have i3 : (u : Int) < (j : Int) := by omega
              have hkj : way[u]? = some (elC way u) := elC_some (by rw [← HLL.out]; exact hlt3)
              obtain ⟨kj, hkj2⟩ : ∃ kj, kj = elC way u := ⟨_, rfl⟩
              rw [← hkj2] at hkj
              have hkl := HWM.out kj (List.mem_of_getElem? hkj)
              obtain ⟨G, hG⟩ : ∃ G, G = (way.take u).foldl (shift x) g1 := ⟨_, rfl⟩
              have hGs := shifts_ok hOK.out x (way.take u)
              rw [← hG] at hGs hN3
              have hnext : (way.take (u + 1)).foldl (shift x) g1 = shift x G kj := by
                rw [List.take_add_one, hkj, hG]; simp
              have hsml := shifts_small hOK.out HXB.out (way.take u) lim HSM.out.1 (fun i hi => HWM.out i (List.mem_of_mem_take hi))
              rw [← hG] at hsml
              have htl : (way.take u).length = u := by rw [List.length_take, ← HLL.out]; omega
              rw [htl] at hsml
              have hkG : kj < G.arcs.length := by rw [hGs.2.1]; exact hkl
              obtain ⟨gw', e2, _, c1, _, ⟨curw, hcw⟩⟩ := hW.out.cell (i := u) (x := (kj : Int)) (by rw [List.getElem?_map, hkj]; rfl)
              cases e2
              unfold vi at c1
              obtain ⟨ag, ac, a1, a2, a3, a4, a5, a6, a7, hset⟩ := hN3.out.arcAt (k := kj) hkG
              obtain ⟨KX, hKX⟩ : ∃ KX, KX = kj ^^^ 1 := ⟨_, rfl⟩
              have hKXl : KX < G.arcs.length := by rw [hKX]; exact hGs.1.even kj hkG
              have QX := xor_one kj KX hKX (by have := hGs.1.arcs; omega)
              obtain ⟨hN4, hd1⟩ := hset (G.room kj - x)
              obtain ⟨ag2, ac2, b1, b2, b3, b4, b5, b6, b7, hset2⟩ := hN4.arcAt (k := KX) (by rw [setRoom_len]; exact hKXl)
              rw [setRoom_len] at b1
              rw [hd1] at b1
              cases b1
              obtain ⟨r1, hr1⟩ : ∃ r1, r1 = G.room kj := ⟨_, rfl⟩
              obtain ⟨r2, hr2⟩ : ∃ r2, r2 = (G.setRoom kj (G.room kj - x)).room KX := ⟨_, rfl⟩
              have HSET2 := Lib.hid (hset2 (r2 + x)).1
              have hsh2 : (G.setRoom kj (G.room kj - x)).setRoom KX (r2 + x) = shift x G kj := by
                unfold shift
                rw [← hKX, ← hr2]
              rw [hsh2] at HSET2
              rw [← hr2] at b3
              rw [← hr1] at a3 b3 hd1 b4 HSET2
              have hb1 := room_small hsml hkG
              have hb2 := room_small hsml hKXl
              have hr2b : -(70368744177664 * 1001) ≤ r2 ∧ r2 ≤ 70368744177664 * 1001 := by
                rw [hr2, setRoom_room _ _ _ _ hkG]
                have hxb := HXB.out
                unfold lim at hb1 hb2 hxb
                split <;> omega
              have hxb := HXB.out
              unfold lim at hb1 hb2 hxb
              rw [← hr1] at hb1
              have q1 : IntKind.i64.wrap (r1 - x) = r1 - x := by rw [IntKind.wrap_i64]; omega
              have q2 : wrap64 (r1 - x) = r1 - x := by unfold wrap64; omega
              have q3 : IntKind.i64.wrap (r2 + x) = r2 + x := by rw [IntKind.wrap_i64]; omega
              have q4 : wrap64 (r2 + x) = r2 + x := by unfold wrap64; omega
              have i4 : (kj : Int) < (g1.arcs.length : Int) := by omega
              have i5 : (KX : Int) < (g1.arcs.length : Int) := by rw [hGs.2.1] at hKXl; omega
              rw [hGs.2.1] at a1 hd1
              have hW2 : Own vi 0 3 ((wr.setCell ⟨ag, kj * 2 + 1, none⟩ (.int .i64 (r1 - x))).setCell ⟨ag, KX * 2 + 1, none⟩ (.int .i64 (r2 + x))) (some ⟨gw, 0, none⟩) j wc (way.map Int.ofNat) := by
                obtain ⟨_, _, _, _, _, _, _, _, _, _⟩ := hN3.out.arcAt (k := kj) hkG
                refine (hW.out.other (p := ⟨ag, kj * 2 + 1, none⟩) (fun z hz => ?_) _).other (p := ⟨ag, KX * 2 + 1, none⟩) (fun z hz => ?_) _
                · cases hz; exact fun e => arc_ne hN3.out hkG a1 (.inl True.intro) hcw e
                · cases hz; exact fun e => arc_ne hN3.out hkG a1 (.inl True.intro) hcw e
              have HW2 := Lib.hid hW2
              have HF2 : Hid (Fr B X w ((wr.setCell ⟨ag, kj * 2 + 1, none⟩ (.int .i64 (r1 - x))).setCell ⟨ag, KX * 2 + 1, none⟩ (.int .i64 (r2 + x)))) := (hfr3.out.setCell (p := ⟨ag, kj * 2 + 1, none⟩) a5 a6 _).setCell (p := ⟨ag, KX * 2 + 1, none⟩) a5 a6 _
              have HNX := Lib.hid hnext
              clear hset hset2 hN4 hsh2 hr1 hr2 hb1 hb2 hr2b hxb hkG hKXl hKX hsml htl hGs hG hkj hkj2 hkl hcw hW2 hnext a6 a7 b5 b6 b7 a2 b2
              go_wp2_with fail
              clear q1 q2 q3 q4
              refine ⟨⟨u + 1, by omega, by go_num, HW2.out, ?_, HF2.out⟩, ?_⟩
              · rw [HNX.out]; exact HSET2.out
              · simp [intOf]; omega
            · have huj : u = j := by omega
              subst huj
              have hfull : way.take u = way := List.take_of_length_le (by rw [← HLL.out]; exact Nat.le_refl _)
              rw [hfull] at hN3
              obtain ⟨G, hG⟩ : ∃ G, G = way.foldl (shift x) g1 := ⟨_, rfl⟩
              have hGs := shifts_ok hOK.out x way
              have hpk := HP2.out
              rw [← hG] at hGs hN3 hpk
              have hsh3 := hsh.out
              have hGo : G.out = g.out := hGs.2.2.trans hsh3.1
              have hGl : G.arcs.length = g.arcs.length := hGs.2.1.trans hsh3.2
              obtain ⟨way2, hway2⟩ : ∃ way2, routeF G s t 1000 = some way2 := by
                obtain ⟨k', rfl⟩ : ∃ k', k = k' + 1 := ⟨k - 1, by cases k with | zero => (unfold pushF at hpk; cases hpk) | succ f => omega⟩
                unfold pushF at hpk
                split at hpk
                · cases hr : routeF G s t 1000 with
                  | none => rw [hr] at hpk; cases hpk
                  | some way => exact ⟨way, rfl⟩
                · cases hpk
              have hsb := HSM.out.2
              have hxb := HXB.out
              unfold lim at hsb hxb
              have q5 : wrap64 (sum + x) = sum + x := by unfold wrap64; omega
              have HQ5 := Lib.hid q5
              have HPK := Lib.hid hpk; have HOG := Lib.hid hGs.1; have HGO := Lib.hid hGo; have HGL := Lib.hid hGl; have HW2Y := Lib.hid hway2
              have hs2 : s < G.out.length := by rw [hGo]; exact hs
              have ht2 : t < G.out.length := by rw [hGo]; exact ht
              clear hpk hGs hsh3 hGo hGl hway2 hsb hxb hG hfull
              go_wp2_with (go_at_call 61; refine (route_way bg s t B X G _ hN3.out HOG.out hs2 ht2 hne way2 HW2Y.out).mono ?_; rintro e w9 ⟨hb9, wa9, wc9, rfl, hw9⟩; have HB9 := Lib.hid hb9; have HW9 := Lib.hid hw9; clear hb9 hw9)
              go_roundg k
              case measure => omega
              case rel => exact ⟨G, sum + x, way2, wa9, wc9, by first | rfl | rw [HQ5.out], rfl, HW9.out, HW2Y.out, HPK.out, hN3.out.fw HB9.out, HOG.out, ⟨HGO.out, HGL.out⟩, hfr3.out.trans (Fr.of_below HB9.out)⟩
end Go.Proofs.Ytpecepfnmkpmmaa
