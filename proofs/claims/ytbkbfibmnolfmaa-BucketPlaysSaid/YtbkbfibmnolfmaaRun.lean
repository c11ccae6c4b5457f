/- The contract of Run. -/
import Derived.Test.YtbkbfibmnolfmaaRefGo
namespace Go.Proofs.Ytbkbfibmnolfmaa
open Go.RowKit

/-- Slices of pairs of numbers. -/
def QCells (w : World) (b off : Nat) (l : List (Int × Int)) : Prop :=
  b < w.heap.size ∧ ∀ k, k < l.length → w.cell? ⟨b, off + k * 2, none⟩ = some (.int .i64 (pe l k).1) ∧ w.cell? ⟨b, off + k * 2 + 1, none⟩ = some (.int .i64 (pe l k).2)
def QA (w : World) (v : Value) (l : List (Int × Int)) : Prop :=
  (l = [] ∧ ∃ o c, v = .slice o 0 c) ∨ ∃ b off cap, v = .slice (some ⟨b, off, none⟩) l.length cap ∧ QCells w b off l
theorem QA.shape {w : World} {v : Value} {l : List (Int × Int)} (h : QA w v l) : ∃ o c, v = .slice o l.length c := by
  rcases h with ⟨rfl, o, c, rfl⟩ | ⟨b, off, cap, rfl, _⟩ <;> exact ⟨_, _, rfl⟩
theorem QA.row {w : World} {o : Option Addr} {n c : Nat} {l : List (Int × Int)} (h : QA w (.slice o n c) l) (h0 : 0 < l.length) : ∃ b off, o = some ⟨b, off, none⟩ ∧ QCells w b off l := by
  rcases h with ⟨rfl, _⟩ | ⟨b, off, cap, e, hc⟩
  · simp at h0
  · cases e
    exact ⟨b, off, rfl, hc⟩
theorem qcells_kept {S : Nat → Prop} {w w' : World} {b off : Nat} {l : List (Int × Int)} (h : QCells w b off l) (hg : Kp S w w') (hr : ¬ S b) : QCells w' b off l := by
  obtain ⟨hb, hc⟩ := h
  have e : ∀ i, w'.cell? ⟨b, i, none⟩ = w.cell? ⟨b, i, none⟩ := fun i => World.cell?_of_block (hg.block b hb hr)
  refine ⟨by have := hg.size; omega, fun k hk => ?_⟩
  simp only [e]
  exact hc k hk
theorem QA.kept {S : Nat → Prop} {w w' : World} {v : Value} {l : List (Int × Int)} (h : QA w v l) (hg : Kp S w w') (hr : ∀ j, j < w.heap.size → ¬ S j) : QA w' v l := by
  rcases h with h | ⟨b, off, cap, rfl, hc⟩
  · exact .inl h
  · exact .inr ⟨b, off, cap, rfl, qcells_kept hc hg (hr b hc.1)⟩

/-- What Run yields, from a state on. -/
def runL (ra ro : Int) : List (Int × Int) → Int → Int → Int → Int
  | [], _, _, sum => sum
  | q :: l, no, ha, sum => if q.1 < no ∨ 1099511627776 < q.1 then -1 else
      if 0 ≤ q.2 ∧ q.2 ≤ later ra ro no ha q.1 then runL ra ro l q.1 (later ra ro no ha q.1 - q.2) (sum + q.2) else runL ra ro l q.1 (later ra ro no ha q.1) sum
theorem drop_pe {l : List (Int × Int)} {k : Nat} (h : k < l.length) : l.drop k = pe l k :: l.drop (k + 1) := by
  rw [List.drop_eq_getElem_cons h]
  simp [pe, h]
theorem later_in {ra ro no ha t : Int} (h0 : 0 ≤ ra) (h1 : no ≤ t) (h2 : 0 ≤ ha ∧ ha ≤ ro) : 0 ≤ later ra ro no ha t ∧ later ra ro no ha t ≤ ro := by
  have := Int.mul_nonneg (show 0 ≤ t - no by omega) h0
  unfold later
  omega

theorem run_no (ra ro : Int) (o : Option Addr) (n c : Nat) (w : World) (h : (may ra && may ro) = false) : Calls Try.prog 12 #[.int .i64 ra, .int .i64 ro, .slice o n c] w fun e w' => e = .returned (.int .i64 (-1)) ∧ Gn w w' := by
  have H : Hid _ := h
  clear h
  go_enter Try.func12, Try.ntmps12
  go_wp2_with (first | (go_at_call 5; refine (new_no ra ro _ H.out).mono ?_; rintro y w' ⟨rfl, q, rfl⟩))
  go_ret
  exact ⟨rfl, (by with_reducible (repeat (first | exact Gn.refl _ | refine Gn.gr ?_ _ | refine Gn.alloc ?_ _ | refine Gn.drew ?_)))⟩

set_option maxHeartbeats 4000000 in
set_option maxRecDepth 100000 in
theorem run_is (ra ro : Int) (v : Value) (l : List (Int × Int)) (w : World) (h1 : may ra = true) (h2 : may ro = true) (hq : QA w v l) (hl : l.length ≤ 64) :
    Calls Try.prog 12 #[.int .i64 ra, .int .i64 ro, v] w fun e w' => e = .returned (.int .i64 (runL ra ro l 0 ro 0)) ∧ Gn w w' := by
  obtain ⟨o, c, rfl⟩ := hq.shape
  have HQ : Hid _ := hq
  clear hq
  have b1 : 0 ≤ ra ∧ ra ≤ 1048576 := by unfold may at h1; simpa using h1
  have b2 : 0 ≤ ro ∧ ro ≤ 1048576 := by unfold may at h2; simpa using h2
  have H1 : Hid _ := h1
  have H2 : Hid _ := h2
  clear h1 h2
  go_enter Try.func12, Try.ntmps12
  go_wp2_with (first | (go_at_call 5; refine (new_is ra ro _ H1.out H2.out).mono ?_; rintro y w1 ⟨tb, rfl, hot, hB, hg⟩; have B1 : Hid _ := hB; have G1 : Hid _ := hg; clear hB hg))
  go_loopw [8, 18] (fun s i wr => ∃ (k : Nat) (no ha sum : Int), k ≤ l.length ∧ i = .int .i64 k ∧ s = .int .i64 sum ∧ BB wr tb true ra ro no ha ∧ (0 ≤ no ∧ no ≤ 1099511627776) ∧ (0 ≤ ha ∧ ha ≤ ro) ∧ (0 ≤ sum ∧ sum ≤ k * 1048576) ∧
      runL ra ro l 0 ro 0 = runL ra ro (l.drop k) no ha sum ∧ Kp (fun j => w.heap.size ≤ j) w wr) (fun _ i _ => l.length - (intOf i).toNat)
  case atStart => exact ⟨0, 0, ro, 0, by omega, rfl, rfl, B1.out, by omega, by omega, by omega, rfl, Kp.of_gn _ G1.out⟩
  case round =>
    obtain ⟨k, no, ha, sum, hk, rfl, rfl, hB, n0, h0, s0, hrun, hkp⟩ := hrel
    by_cases hlt : k < l.length
    · obtain ⟨b, off, rfl, hc⟩ := QA.row HQ.out (show 0 < l.length by omega)
      have hbw := hc.1
      obtain ⟨c0, c1⟩ := (qcells_kept hc hkp (fun e => by omega)).2 k hlt
      have hbl := World.block_lt_of_cell? _ _ c0
      rw [drop_pe hlt] at hrun
      obtain ⟨t, ht⟩ : ∃ t, (pe l k).1 = t := ⟨_, rfl⟩
      obtain ⟨z, hz⟩ : ∃ z, (pe l k).2 = z := ⟨_, rfl⟩
      rw [runL, ht, hz] at hrun
      rw [ht] at c0
      rw [hz] at c1
      have hki : (k : Int) < (l.length : Int) := by omega
      have htl := hB.lt
      have HB : Hid _ := hB
      have HK : Hid _ := hkp
      have HR : Hid _ := hrun
      clear hB hkp hrun hc
      by_cases hbad : t < no ∨ 1099511627776 < t
      · go_wp2_with (first | (go_at_call 7; refine (go_no tb ra ro no ha t _ (BB.grown (show BB wr tb true ra ro no ha from HB.out) (by with_reducible (repeat (first | exact Gn.refl _ | refine Gn.gr ?_ _ | refine Gn.alloc ?_ _ | refine Gn.drew ?_)))) hbad).mono ?_; rintro y w' ⟨rfl, q, rfl⟩))
        go_ret
        exact ⟨by rw [HR.out, if_pos hbad]; rfl, ((show Kp (fun j => w.heap.size ≤ j) w wr from HK.out).gn (by with_reducible (repeat (first | exact Gn.refl _ | refine Gn.gr ?_ _ | refine Gn.alloc ?_ _ | refine Gn.drew ?_)))).to_gn (fun _ h => h)⟩
      · have hbx : (wr.alloc (.cells #[.int .i64 t, .int .i64 z] 38)).cell? ⟨wr.heap.size, 1, none⟩ = some (.int .i64 z) := by simp
        have hgo := go_is tb ra ro no ha t (wr.alloc (.cells #[.int .i64 t, .int .i64 z] 38)) (BB.grown (show BB wr tb true ra ro no ha from HB.out) (by with_reducible (repeat (first | exact Gn.refl _ | refine Gn.gr ?_ _ | refine Gn.alloc ?_ _ | refine Gn.drew ?_)))) (by omega) (by omega) b1 b2 h0
        have hli := later_in (ra := ra) (no := no) (t := t) b1.1 (by omega) h0
        obtain ⟨h2', hh2⟩ : ∃ h, later ra ro no ha t = h := ⟨_, rfl⟩
        have hrun := HR.out
        rw [if_neg hbad, hh2] at hrun
        rw [hh2] at hgo hli
        have HGO : Hid _ := hgo
        clear hgo HR
        by_cases htk : 0 ≤ z ∧ z ≤ h2'
        · rw [if_pos htk] at hrun
          have HR : Hid _ := hrun
          have HBX : Hid _ := hbx
          clear hrun hbx
          go_wp2_with (first
            | (go_at_call 7; refine Calls.mono HGO.out ?_; rintro y w2 ⟨rfl, hB, hK⟩; have c1a := hK.cell HBX.out (fun e => by omega); have hxl := World.block_lt_of_cell? w2 _ c1a; have B2 : Hid _ := hB; have K2 : Hid _ := (Kp.of_gn (fun j => j = tb) (show Gn wr _ from (by with_reducible (repeat (first | exact Gn.refl _ | refine Gn.gr ?_ _ | refine Gn.alloc ?_ _ | refine Gn.drew ?_))))).trans hK; clear hB hK)
            | (go_at_call 8; refine (take_is tb ra ro t h2' z _ (BB.grown (show BB w2 tb true ra ro t h2' from B2.out) (by with_reducible (repeat (first | exact Gn.refl _ | refine Gn.gr ?_ _ | refine Gn.alloc ?_ _ | refine Gn.drew ?_)))) htk.1 htk.2 (by omega)).mono ?_; rintro y w3 ⟨rfl, hB, hK⟩; have k3 := (Kp.of_gn (fun j => j = tb) (show Gn w2 _ from (by with_reducible (repeat (first | exact Gn.refl _ | refine Gn.gr ?_ _ | refine Gn.alloc ?_ _ | refine Gn.drew ?_))))).trans hK; have c1b := k3.cell c1a (fun e => by omega); have hxl3 := World.block_lt_of_cell? w3 _ c1b; have B3 : Hid _ := hB; have K3 : Hid _ := k3; clear hB hK k3))
          go_roundw
          case rel =>
            exact ⟨k + 1, t, h2' - z, sum + z, by omega, by go_num, rfl, BB.grown (show BB w3 tb true ra ro t (h2' - z) from B3.out) (by with_reducible (repeat (first | exact Gn.refl _ | refine Gn.gr ?_ _ | refine Gn.alloc ?_ _ | refine Gn.drew ?_))), by omega, by omega, by omega, HR.out,
              ((show Kp (fun j => w.heap.size ≤ j) w wr from HK.out).trans ((K2.out.trans K3.out).mono (S' := fun j => w.heap.size ≤ j) (fun j _ e => by subst e; exact hot))).gn (by with_reducible (repeat (first | exact Gn.refl _ | refine Gn.gr ?_ _ | refine Gn.alloc ?_ _ | refine Gn.drew ?_)))⟩
          case measure => simp [intOf]; omega
        · rw [if_neg htk] at hrun
          have HR : Hid _ := hrun
          have HBX : Hid _ := hbx
          clear hrun hbx
          go_wp2_with (first
            | (go_at_call 7; refine Calls.mono HGO.out ?_; rintro y w2 ⟨rfl, hB, hK⟩; have c1a := hK.cell HBX.out (fun e => by omega); have hxl := World.block_lt_of_cell? w2 _ c1a; have B2 : Hid _ := hB; have K2 : Hid _ := (Kp.of_gn (fun j => j = tb) (show Gn wr _ from (by with_reducible (repeat (first | exact Gn.refl _ | refine Gn.gr ?_ _ | refine Gn.alloc ?_ _ | refine Gn.drew ?_))))).trans hK; clear hB hK)
            | (go_at_call 8; refine (take_no tb true ra ro t h2' z _ (BB.grown (show BB w2 tb true ra ro t h2' from B2.out) (by with_reducible (repeat (first | exact Gn.refl _ | refine Gn.gr ?_ _ | refine Gn.alloc ?_ _ | refine Gn.drew ?_)))) (by omega)).mono ?_; rintro y w' ⟨rfl, q, rfl⟩))
          go_roundw
          case rel =>
            exact ⟨k + 1, t, h2', sum, by omega, by go_num, rfl, BB.grown (show BB w2 tb true ra ro t h2' from B2.out) (by with_reducible (repeat (first | exact Gn.refl _ | refine Gn.gr ?_ _ | refine Gn.alloc ?_ _ | refine Gn.drew ?_))), by omega, by omega, by omega, HR.out,
              ((show Kp (fun j => w.heap.size ≤ j) w wr from HK.out).trans (K2.out.mono (S' := fun j => w.heap.size ≤ j) (fun j _ e => by subst e; exact hot))).gn (by with_reducible (repeat (first | exact Gn.refl _ | refine Gn.gr ?_ _ | refine Gn.alloc ?_ _ | refine Gn.drew ?_)))⟩
          case measure => simp [intOf]; omega
    · have hge : k = l.length := by omega
      subst hge
      rw [List.drop_length] at hrun
      have HK : Hid _ := hkp
      have HR : Hid _ := hrun
      clear hkp hB hrun
      go_wp2
      go_ret
      exact ⟨by rw [HR.out]; rfl, ((show Kp (fun j => w.heap.size ≤ j) w wr from HK.out).gn (by with_reducible (repeat (first | exact Gn.refl _ | refine Gn.gr ?_ _ | refine Gn.alloc ?_ _ | refine Gn.drew ?_)))).to_gn (fun _ h => h)⟩
end Go.Proofs.Ytbkbfibmnolfmaa
