/- Union, Meet, Less; sets that nobody made. -/
import Derived.Test.YtoaefmnjndklkaaDoorV47
namespace Go.Proofs.YtoaefmnjndklkaaDoor
open Go.RowKit

theorem both29 (w : World) (sa ga sb gb N : Nat) (m n : Nat → Bool) (h : ST w sa ga N m) (h' : ST w sb gb N n) (hN : N ≤ 4096) :
    Calls Tryd.prog 28 #[.pointer (some ⟨sa, 0, none⟩), .pointer (some ⟨sb, 0, none⟩), .func (Fn.func 29) #[] #[]] w fun e w' => ∃ sc, e = .returned (.pointer (some ⟨sc, 0, none⟩)) ∧ w.heap.size ≤ sc ∧ Gn w w' ∧ ∃ g, ST w' sc g N (mb29 m n) ∧ w.heap.size ≤ g := by
  obtain ⟨ca, wa, a1, hca, hcsa, hla, hma⟩ := h.cells
  obtain ⟨cb, wb, b1, hcb, hcsb, hlb, hmb⟩ := h'.cells
  have a0 := h.c0
  have b0 := h'.c0
  obtain ⟨sl, gl⟩ := h.lt
  obtain ⟨sl', gl'⟩ := h'.lt
  have HBD : Hid ((∀ j, m j = true → j < N) ∧ (∀ j, n j = true → j < N)) := ⟨fun j e => h.bound e, fun j e => h'.bound e⟩
  have HMA : Hid (WM wa m) := hma
  have HMB : Hid (WM wb n) := hmb
  obtain ⟨L, hL⟩ : ∃ L, N / 64 + 1 = L := ⟨_, rfl⟩
  rw [hL] at a1 b1 hca hcb hcsa hcsb hla hlb
  have HLL : Hid (N / 64 + 1 = L) := hL
  have HLa : Hid (wa.length = L) := hla
  have HLb : Hid (wb.length = L) := hlb
  have hL0 : 0 < L := by omega
  have hL65 : L ≤ 65 := by omega
  have HJ : Hid (∀ w', Gn w w' → Calls Tryd.prog 35 #[.slice (some ⟨ga, 0, none⟩) L ca, .slice (some ⟨gb, 0, none⟩) L cb, .func (Fn.func 29) #[] #[]] w' fun e w'' => ∃ v, e = .returned v ∧ WR w'' w'.heap.size v (zw op29 wa wb L) ∧ Gn w' w'') := fun w' hg =>
    joined29 w' ga gb ca cb L wa wb hL0 hL65 hca hcb (Nat.lt_of_lt_of_le gl hg.size) (Nat.lt_of_lt_of_le gl' hg.size) (fun i hi => ⟨gn_cell hg (hcsa i hi).1, (hma i (by omega)).1⟩) (fun i hi => ⟨gn_cell hg (hcsb i hi).1, (hmb i (by omega)).1⟩)
  have z1 : ((L : Int) == 0) = false := by simp; omega
  have z2 : decide ((L : Int) = 0) = false := by simp; omega
  clear h h' hcsa hcsb hma hmb hla hlb hL hca hcb
  go_enter Tryd.func28, Tryd.ntmps28
  go_wp2
  refine wp_region_gr (by kernel_rfl) (by kernel_rfl) ?_
  repeat (go_big_quiet_step (fail))
  refine wpQuiet_nil ?_
  rintro _ ⟨q1, rfl⟩
  have HG1 : Hid (Gn w (w.gr q1)) := (Gn.refl _).gr q1
  replace a0 := gn_cell HG1.out a0
  replace a1 := gn_cell HG1.out a1
  replace b1 := gn_cell HG1.out b1
  have hs1 := HG1.out.size
  have sl1 : sa < (w.gr q1).heap.size := by omega
  have sl2 : sb < (w.gr q1).heap.size := by omega
  generalize w.gr q1 = wq at *
  go_wp2
  refine wp_region_z 99 17 (by kernel_rfl) rfl ?_
  refine wpMix_pick 0 (by kernel_rfl) rfl (by kernel_rfl) (by with_reducible (repeat (first | exact Gn.refl _ | refine Gn.gr ?_ _ | refine Gn.alloc ?_ _ | refine Gn.drew ?_))) (by kernel_rfl) (fun K hK => ?_); go_simp; first | (refine hK _ ?_; clear hK K) | (apply Exists.intro; refine ⟨fun _ => ?_, hK _ ?_⟩; first | (fail); clear hK K)
  refine wpMix_pick 1 (by kernel_rfl) rfl (by kernel_rfl) (by with_reducible (repeat (first | exact Gn.refl _ | refine Gn.gr ?_ _ | refine Gn.alloc ?_ _ | refine Gn.drew ?_))) (by kernel_rfl) (fun K hK => ?_); go_simp; first | (refine hK _ ?_; clear hK K) | (apply Exists.intro; refine ⟨fun _ => ?_, hK _ ?_⟩; first | (fail); clear hK K)
  refine wpMix_pick 2 (by kernel_rfl) rfl (by kernel_rfl) (by with_reducible (repeat (first | exact Gn.refl _ | refine Gn.gr ?_ _ | refine Gn.alloc ?_ _ | refine Gn.drew ?_))) (by kernel_rfl) (fun K hK => ?_); go_simp; first | (refine hK _ ?_; clear hK K) | (apply Exists.intro; refine ⟨fun _ => ?_, hK _ ?_⟩; first | (fail); clear hK K)
  refine wpMix_pick 3 (by kernel_rfl) rfl (by kernel_rfl) (by with_reducible (repeat (first | exact Gn.refl _ | refine Gn.gr ?_ _ | refine Gn.alloc ?_ _ | refine Gn.drew ?_))) (by kernel_rfl) (fun K hK => ?_); go_simp; first | (refine hK _ ?_; clear hK K) | (apply Exists.intro; refine ⟨fun _ => ?_, hK _ ?_⟩; first | (fail); clear hK K)
  refine wpMix_pick 4 (by kernel_rfl) rfl (by kernel_rfl) (by with_reducible (repeat (first | exact Gn.refl _ | refine Gn.gr ?_ _ | refine Gn.alloc ?_ _ | refine Gn.drew ?_))) (by kernel_rfl) (fun K hK => ?_); go_simp; first | (refine hK _ ?_; clear hK K) | (apply Exists.intro; refine ⟨fun _ => ?_, hK _ ?_⟩; first | (fail); clear hK K)
  refine wpMix_pick 5 (by kernel_rfl) rfl (by kernel_rfl) (by with_reducible (repeat (first | exact Gn.refl _ | refine Gn.gr ?_ _ | refine Gn.alloc ?_ _ | refine Gn.drew ?_))) (by kernel_rfl) (fun K hK => ?_); go_simp; first | (refine hK _ ?_; clear hK K) | (apply Exists.intro; refine ⟨fun _ => ?_, hK _ ?_⟩; first | (fail); clear hK K)
  refine wpMix_pick 6 (by kernel_rfl) rfl (by kernel_rfl) (by with_reducible (repeat (first | exact Gn.refl _ | refine Gn.gr ?_ _ | refine Gn.alloc ?_ _ | refine Gn.drew ?_))) (by kernel_rfl) (fun K hK => ?_); go_simp; first | (refine hK _ ?_; clear hK K) | (apply Exists.intro; refine ⟨fun _ => ?_, hK _ ?_⟩; first | (fail); clear hK K)
  refine wpMix_pick 7 (by kernel_rfl) rfl (by kernel_rfl) (by with_reducible (repeat (first | exact Gn.refl _ | refine Gn.gr ?_ _ | refine Gn.alloc ?_ _ | refine Gn.drew ?_))) (by kernel_rfl) (fun K hK => ?_); go_simp; first | (refine hK _ ?_; clear hK K) | (apply Exists.intro; refine ⟨fun _ => ?_, hK _ ?_⟩; first | (fail); clear hK K)
  refine wpMix_pick 8 (by kernel_rfl) rfl (by kernel_rfl) (by with_reducible (repeat (first | exact Gn.refl _ | refine Gn.gr ?_ _ | refine Gn.alloc ?_ _ | refine Gn.drew ?_))) (by kernel_rfl) (fun K hK => ?_); go_simp; first | (refine hK _ ?_; clear hK K) | (apply Exists.intro; refine ⟨fun _ => ?_, hK _ ?_⟩; first | (fail); clear hK K)
  refine wpMix_pick 9 (by kernel_rfl) rfl (by kernel_rfl) (by with_reducible (repeat (first | exact Gn.refl _ | refine Gn.gr ?_ _ | refine Gn.alloc ?_ _ | refine Gn.drew ?_))) (by kernel_rfl) (fun K hK => ?_); go_simp; first | (refine hK _ ?_; clear hK K) | (apply Exists.intro; refine ⟨fun _ => ?_, hK _ ?_⟩; first | (fail); clear hK K)
  refine wpMix_pick 10 (by kernel_rfl) rfl (by kernel_rfl) (by with_reducible (repeat (first | exact Gn.refl _ | refine Gn.gr ?_ _ | refine Gn.alloc ?_ _ | refine Gn.drew ?_))) (by kernel_rfl) (fun K hK => ?_); go_simp; first | (refine hK _ ?_; clear hK K) | (apply Exists.intro; refine ⟨fun _ => ?_, hK _ ?_⟩; first | (fail); clear hK K)
  refine wpMix_pick 11 (by kernel_rfl) rfl (by kernel_rfl) (by with_reducible (repeat (first | exact Gn.refl _ | refine Gn.gr ?_ _ | refine Gn.alloc ?_ _ | refine Gn.drew ?_))) (by kernel_rfl) (fun K hK => ?_); go_simp; first | (refine hK _ ?_; clear hK K) | (apply Exists.intro; refine ⟨fun _ => ?_, hK _ ?_⟩; first | (fail); clear hK K)
  refine wpMix_pick 12 (by kernel_rfl) rfl (by kernel_rfl) (by with_reducible (repeat (first | exact Gn.refl _ | refine Gn.gr ?_ _ | refine Gn.alloc ?_ _ | refine Gn.drew ?_))) (by kernel_rfl) (fun K hK => ?_); go_simp; first | (refine hK _ ?_; clear hK K) | (apply Exists.intro; refine ⟨fun _ => ?_, hK _ ?_⟩; first | (fail); clear hK K)
  refine wpMix_one (i := 13) (by kernel_rfl) rfl ?_
  intro p13
  go_wp2_with (go_at_call 35; refine Calls.mono (HJ.out _ (HG1.out.gr _)) ?_; rintro _ w2 ⟨v2, rfl, h1, h2⟩; have HG2 : Hid (Gn w w2) := (HG1.out.gr p13).trans h2; have HW2 : Hid (WR w2 w.heap.size v2 (zw op29 wa wb L)) := ⟨h1.1, fun k e => Nat.le_trans (HG1.out.gr p13).size (h1.2 k e)⟩; have HGq : Hid (Gn wq w2) := ((Gn.refl _).gr p13).trans h2; clear h1 h2)
  refine ⟨HGq.out, ?_⟩
  obtain ⟨gz, cz, rfl⟩ := own_some HW2.out.1 (by rw [zw_len]; exact hL0)
  refine wpMix_one (i := 14) (by kernel_rfl) rfl ?_
  intro p14
  go_wp2
  refine ⟨HGq.out.gr _, ?_⟩
  refine wpMix_one (i := 15) (by kernel_rfl) rfl ?_
  intro p15
  go_wp2
  refine ⟨(HGq.out.gr _).alloc _, ?_⟩
  refine wpMix_one (i := 16) (by kernel_rfl) rfl ?_
  intro p16
  go_wp2
  refine ⟨((HGq.out.gr _).alloc _).gr _, ?_⟩
  refine wpMix_done (by kernel_rfl) ?_
  intro pz
  go_wp2
  go_ret
  have hsz : (w2.gr ⟨p15.d, p14.os ++ p15.os⟩).heap.size = w2.heap.size + (p14.os.size + p15.os.size) := by rw [size_gr]; simp
  rw [← hsz]
  have HG3 : Hid (Gn w (w2.gr ⟨p15.d, p14.os ++ p15.os⟩)) := HG2.out.gr _
  have HW3 : Hid (WR (w2.gr ⟨p15.d, p14.os ++ p15.os⟩) w.heap.size (.slice (some ⟨gz, 0, none⟩) (zw op29 wa wb L).length cz) (zw op29 wa wb L)) := HW2.out.gn ((Gn.refl _).gr _)
  clear hsz
  generalize w2.gr ⟨p15.d, p14.os ++ p15.os⟩ = w3 at *
  have hgz := (HW3.out.1.lt _ rfl).2
  have hlen := zw_len op29 wa wb L
  have HGf : Hid (Gn (w3.alloc (.cells #[.int .i64 N, .slice (some ⟨gz, 0, none⟩) (zw op29 wa wb L).length cz] 45)) (((w3.alloc (.cells #[.int .i64 N, .slice (some ⟨gz, 0, none⟩) (zw op29 wa wb L).length cz] 45)).gr p16).gr pz)) := ((Gn.refl _).gr _).gr _
  have HB3 : Hid ((w3.alloc (.cells #[.int .i64 N, .slice (some ⟨gz, 0, none⟩) (zw op29 wa wb L).length cz] 45)).heap[w3.heap.size]? = some (.cells #[.int .i64 N, .slice (some ⟨gz, 0, none⟩) (zw op29 wa wb L).length cz] 45 (0, 0))) := heap_alloc_new w3 _
  have HGa : Hid (Gn w3 (w3.alloc (.cells #[.int .i64 N, .slice (some ⟨gz, 0, none⟩) (zw op29 wa wb L).length cz] 45))) := (Gn.refl _).alloc _
  generalize ((w3.alloc (.cells #[.int .i64 N, .slice (some ⟨gz, 0, none⟩) (zw op29 wa wb L).length cz] 45)).gr p16).gr pz = wf at *
  generalize (w3.alloc (.cells #[.int .i64 N, .slice (some ⟨gz, 0, none⟩) (zw op29 wa wb L).length cz] 45)) = wl at *
  refine ⟨w3.heap.size, rfl, HG3.out.size, HG3.out.trans (HGa.out.trans HGf.out), gz, ⟨cz, zw op29 wa wb L, ?_, ?_, by rw [hlen, HLL.out], fun i hi => ⟨?_, fun j hj => ?_⟩, fun j hj => ?_, Nat.ne_of_gt hgz⟩, HW3.out.2 _ rfl⟩
  · have hl := (Kp.of_gn (fun _ => False) HGf.out).block w3.heap.size (lt_of_block HB3.out) (fun e => e)
    rw [hl, HB3.out, hlen, HLL.out]
  · have hh := own_gn HW3.out.1 (HGa.out.trans HGf.out)
    rw [hlen] at hh
    rw [HLL.out]
    exact hh
  · rw [hlen] at hi
    rw [wn_zw hi]
    exact lt29 (HMA.out i (by rw [HLa.out]; exact hi)).1 (HMB.out i (by rw [HLb.out]; exact hi)).1
  · rw [hlen] at hi
    rw [wn_zw hi]
    exact bit29 (HMB.out i (by rw [HLb.out]; exact hi)).1 hj ((HMA.out i (by rw [HLa.out]; exact hi)).2 j hj) ((HMB.out i (by rw [HLb.out]; exact hi)).2 j hj)
  · unfold mb29 at hj
    simp only [Bool.or_eq_true] at hj; exact hj.elim (HBD.out.1 j) (HBD.out.2 j)
theorem union_ok (w : World) (sa ga sb gb N : Nat) (m n : Nat → Bool) (h : ST w sa ga N m) (h' : ST w sb gb N n) (hN : N ≤ 4096) :
    Calls Tryd.prog 12 #[.pointer (some ⟨sa, 0, none⟩), .pointer (some ⟨sb, 0, none⟩)] w fun e w' => ∃ sc, e = .returned (.pointer (some ⟨sc, 0, none⟩)) ∧ w.heap.size ≤ sc ∧ Gn w w' ∧ ∃ g, ST w' sc g N (mb29 m n) ∧ w.heap.size ≤ g := by
  have H : Hid (Calls Tryd.prog 28 #[.pointer (some ⟨sa, 0, none⟩), .pointer (some ⟨sb, 0, none⟩), .func (Fn.func 29) #[] #[]] w fun e w' => ∃ sc, e = .returned (.pointer (some ⟨sc, 0, none⟩)) ∧ w.heap.size ≤ sc ∧ Gn w w' ∧ ∃ g, ST w' sc g N (mb29 m n) ∧ w.heap.size ≤ g) := both29 w sa ga sb gb N m n h h' hN
  clear h h'
  go_enter Tryd.func12, Tryd.ntmps12
  go_wp2_with (go_at_call 28; refine Calls.mono H.out ?_; rintro _ w2 ⟨sc, rfl, h1, h2, g, h3, h4⟩; have HS : Hid (ST w2 sc g N (mb29 m n)) := h3; have HG2 : Hid (Gn w w2) := h2; clear h2 h3)
  go_ret
  exact ⟨sc, rfl, h1, HG2.out, g, HS.out, h4⟩
theorem both30 (w : World) (sa ga sb gb N : Nat) (m n : Nat → Bool) (h : ST w sa ga N m) (h' : ST w sb gb N n) (hN : N ≤ 4096) :
    Calls Tryd.prog 28 #[.pointer (some ⟨sa, 0, none⟩), .pointer (some ⟨sb, 0, none⟩), .func (Fn.func 30) #[] #[]] w fun e w' => ∃ sc, e = .returned (.pointer (some ⟨sc, 0, none⟩)) ∧ w.heap.size ≤ sc ∧ Gn w w' ∧ ∃ g, ST w' sc g N (mb30 m n) ∧ w.heap.size ≤ g := by
  obtain ⟨ca, wa, a1, hca, hcsa, hla, hma⟩ := h.cells
  obtain ⟨cb, wb, b1, hcb, hcsb, hlb, hmb⟩ := h'.cells
  have a0 := h.c0
  have b0 := h'.c0
  obtain ⟨sl, gl⟩ := h.lt
  obtain ⟨sl', gl'⟩ := h'.lt
  have HBD : Hid ((∀ j, m j = true → j < N) ∧ (∀ j, n j = true → j < N)) := ⟨fun j e => h.bound e, fun j e => h'.bound e⟩
  have HMA : Hid (WM wa m) := hma
  have HMB : Hid (WM wb n) := hmb
  obtain ⟨L, hL⟩ : ∃ L, N / 64 + 1 = L := ⟨_, rfl⟩
  rw [hL] at a1 b1 hca hcb hcsa hcsb hla hlb
  have HLL : Hid (N / 64 + 1 = L) := hL
  have HLa : Hid (wa.length = L) := hla
  have HLb : Hid (wb.length = L) := hlb
  have hL0 : 0 < L := by omega
  have hL65 : L ≤ 65 := by omega
  have HJ : Hid (∀ w', Gn w w' → Calls Tryd.prog 35 #[.slice (some ⟨ga, 0, none⟩) L ca, .slice (some ⟨gb, 0, none⟩) L cb, .func (Fn.func 30) #[] #[]] w' fun e w'' => ∃ v, e = .returned v ∧ WR w'' w'.heap.size v (zw op30 wa wb L) ∧ Gn w' w'') := fun w' hg =>
    joined30 w' ga gb ca cb L wa wb hL0 hL65 hca hcb (Nat.lt_of_lt_of_le gl hg.size) (Nat.lt_of_lt_of_le gl' hg.size) (fun i hi => ⟨gn_cell hg (hcsa i hi).1, (hma i (by omega)).1⟩) (fun i hi => ⟨gn_cell hg (hcsb i hi).1, (hmb i (by omega)).1⟩)
  have z1 : ((L : Int) == 0) = false := by simp; omega
  have z2 : decide ((L : Int) = 0) = false := by simp; omega
  clear h h' hcsa hcsb hma hmb hla hlb hL hca hcb
  go_enter Tryd.func28, Tryd.ntmps28
  go_wp2
  refine wp_region_gr (by kernel_rfl) (by kernel_rfl) ?_
  repeat (go_big_quiet_step (fail))
  refine wpQuiet_nil ?_
  rintro _ ⟨q1, rfl⟩
  have HG1 : Hid (Gn w (w.gr q1)) := (Gn.refl _).gr q1
  replace a0 := gn_cell HG1.out a0
  replace a1 := gn_cell HG1.out a1
  replace b1 := gn_cell HG1.out b1
  have hs1 := HG1.out.size
  have sl1 : sa < (w.gr q1).heap.size := by omega
  have sl2 : sb < (w.gr q1).heap.size := by omega
  generalize w.gr q1 = wq at *
  go_wp2
  refine wp_region_z 99 17 (by kernel_rfl) rfl ?_
  refine wpMix_pick 0 (by kernel_rfl) rfl (by kernel_rfl) (by with_reducible (repeat (first | exact Gn.refl _ | refine Gn.gr ?_ _ | refine Gn.alloc ?_ _ | refine Gn.drew ?_))) (by kernel_rfl) (fun K hK => ?_); go_simp; first | (refine hK _ ?_; clear hK K) | (apply Exists.intro; refine ⟨fun _ => ?_, hK _ ?_⟩; first | (fail); clear hK K)
  refine wpMix_pick 1 (by kernel_rfl) rfl (by kernel_rfl) (by with_reducible (repeat (first | exact Gn.refl _ | refine Gn.gr ?_ _ | refine Gn.alloc ?_ _ | refine Gn.drew ?_))) (by kernel_rfl) (fun K hK => ?_); go_simp; first | (refine hK _ ?_; clear hK K) | (apply Exists.intro; refine ⟨fun _ => ?_, hK _ ?_⟩; first | (fail); clear hK K)
  refine wpMix_pick 2 (by kernel_rfl) rfl (by kernel_rfl) (by with_reducible (repeat (first | exact Gn.refl _ | refine Gn.gr ?_ _ | refine Gn.alloc ?_ _ | refine Gn.drew ?_))) (by kernel_rfl) (fun K hK => ?_); go_simp; first | (refine hK _ ?_; clear hK K) | (apply Exists.intro; refine ⟨fun _ => ?_, hK _ ?_⟩; first | (fail); clear hK K)
  refine wpMix_pick 3 (by kernel_rfl) rfl (by kernel_rfl) (by with_reducible (repeat (first | exact Gn.refl _ | refine Gn.gr ?_ _ | refine Gn.alloc ?_ _ | refine Gn.drew ?_))) (by kernel_rfl) (fun K hK => ?_); go_simp; first | (refine hK _ ?_; clear hK K) | (apply Exists.intro; refine ⟨fun _ => ?_, hK _ ?_⟩; first | (fail); clear hK K)
  refine wpMix_pick 4 (by kernel_rfl) rfl (by kernel_rfl) (by with_reducible (repeat (first | exact Gn.refl _ | refine Gn.gr ?_ _ | refine Gn.alloc ?_ _ | refine Gn.drew ?_))) (by kernel_rfl) (fun K hK => ?_); go_simp; first | (refine hK _ ?_; clear hK K) | (apply Exists.intro; refine ⟨fun _ => ?_, hK _ ?_⟩; first | (fail); clear hK K)
  refine wpMix_pick 5 (by kernel_rfl) rfl (by kernel_rfl) (by with_reducible (repeat (first | exact Gn.refl _ | refine Gn.gr ?_ _ | refine Gn.alloc ?_ _ | refine Gn.drew ?_))) (by kernel_rfl) (fun K hK => ?_); go_simp; first | (refine hK _ ?_; clear hK K) | (apply Exists.intro; refine ⟨fun _ => ?_, hK _ ?_⟩; first | (fail); clear hK K)
  refine wpMix_pick 6 (by kernel_rfl) rfl (by kernel_rfl) (by with_reducible (repeat (first | exact Gn.refl _ | refine Gn.gr ?_ _ | refine Gn.alloc ?_ _ | refine Gn.drew ?_))) (by kernel_rfl) (fun K hK => ?_); go_simp; first | (refine hK _ ?_; clear hK K) | (apply Exists.intro; refine ⟨fun _ => ?_, hK _ ?_⟩; first | (fail); clear hK K)
  refine wpMix_pick 7 (by kernel_rfl) rfl (by kernel_rfl) (by with_reducible (repeat (first | exact Gn.refl _ | refine Gn.gr ?_ _ | refine Gn.alloc ?_ _ | refine Gn.drew ?_))) (by kernel_rfl) (fun K hK => ?_); go_simp; first | (refine hK _ ?_; clear hK K) | (apply Exists.intro; refine ⟨fun _ => ?_, hK _ ?_⟩; first | (fail); clear hK K)
  refine wpMix_pick 8 (by kernel_rfl) rfl (by kernel_rfl) (by with_reducible (repeat (first | exact Gn.refl _ | refine Gn.gr ?_ _ | refine Gn.alloc ?_ _ | refine Gn.drew ?_))) (by kernel_rfl) (fun K hK => ?_); go_simp; first | (refine hK _ ?_; clear hK K) | (apply Exists.intro; refine ⟨fun _ => ?_, hK _ ?_⟩; first | (fail); clear hK K)
  refine wpMix_pick 9 (by kernel_rfl) rfl (by kernel_rfl) (by with_reducible (repeat (first | exact Gn.refl _ | refine Gn.gr ?_ _ | refine Gn.alloc ?_ _ | refine Gn.drew ?_))) (by kernel_rfl) (fun K hK => ?_); go_simp; first | (refine hK _ ?_; clear hK K) | (apply Exists.intro; refine ⟨fun _ => ?_, hK _ ?_⟩; first | (fail); clear hK K)
  refine wpMix_pick 10 (by kernel_rfl) rfl (by kernel_rfl) (by with_reducible (repeat (first | exact Gn.refl _ | refine Gn.gr ?_ _ | refine Gn.alloc ?_ _ | refine Gn.drew ?_))) (by kernel_rfl) (fun K hK => ?_); go_simp; first | (refine hK _ ?_; clear hK K) | (apply Exists.intro; refine ⟨fun _ => ?_, hK _ ?_⟩; first | (fail); clear hK K)
  refine wpMix_pick 11 (by kernel_rfl) rfl (by kernel_rfl) (by with_reducible (repeat (first | exact Gn.refl _ | refine Gn.gr ?_ _ | refine Gn.alloc ?_ _ | refine Gn.drew ?_))) (by kernel_rfl) (fun K hK => ?_); go_simp; first | (refine hK _ ?_; clear hK K) | (apply Exists.intro; refine ⟨fun _ => ?_, hK _ ?_⟩; first | (fail); clear hK K)
  refine wpMix_pick 12 (by kernel_rfl) rfl (by kernel_rfl) (by with_reducible (repeat (first | exact Gn.refl _ | refine Gn.gr ?_ _ | refine Gn.alloc ?_ _ | refine Gn.drew ?_))) (by kernel_rfl) (fun K hK => ?_); go_simp; first | (refine hK _ ?_; clear hK K) | (apply Exists.intro; refine ⟨fun _ => ?_, hK _ ?_⟩; first | (fail); clear hK K)
  refine wpMix_one (i := 13) (by kernel_rfl) rfl ?_
  intro p13
  go_wp2_with (go_at_call 35; refine Calls.mono (HJ.out _ (HG1.out.gr _)) ?_; rintro _ w2 ⟨v2, rfl, h1, h2⟩; have HG2 : Hid (Gn w w2) := (HG1.out.gr p13).trans h2; have HW2 : Hid (WR w2 w.heap.size v2 (zw op30 wa wb L)) := ⟨h1.1, fun k e => Nat.le_trans (HG1.out.gr p13).size (h1.2 k e)⟩; have HGq : Hid (Gn wq w2) := ((Gn.refl _).gr p13).trans h2; clear h1 h2)
  refine ⟨HGq.out, ?_⟩
  obtain ⟨gz, cz, rfl⟩ := own_some HW2.out.1 (by rw [zw_len]; exact hL0)
  refine wpMix_one (i := 14) (by kernel_rfl) rfl ?_
  intro p14
  go_wp2
  refine ⟨HGq.out.gr _, ?_⟩
  refine wpMix_one (i := 15) (by kernel_rfl) rfl ?_
  intro p15
  go_wp2
  refine ⟨(HGq.out.gr _).alloc _, ?_⟩
  refine wpMix_one (i := 16) (by kernel_rfl) rfl ?_
  intro p16
  go_wp2
  refine ⟨((HGq.out.gr _).alloc _).gr _, ?_⟩
  refine wpMix_done (by kernel_rfl) ?_
  intro pz
  go_wp2
  go_ret
  have hsz : (w2.gr ⟨p15.d, p14.os ++ p15.os⟩).heap.size = w2.heap.size + (p14.os.size + p15.os.size) := by rw [size_gr]; simp
  rw [← hsz]
  have HG3 : Hid (Gn w (w2.gr ⟨p15.d, p14.os ++ p15.os⟩)) := HG2.out.gr _
  have HW3 : Hid (WR (w2.gr ⟨p15.d, p14.os ++ p15.os⟩) w.heap.size (.slice (some ⟨gz, 0, none⟩) (zw op30 wa wb L).length cz) (zw op30 wa wb L)) := HW2.out.gn ((Gn.refl _).gr _)
  clear hsz
  generalize w2.gr ⟨p15.d, p14.os ++ p15.os⟩ = w3 at *
  have hgz := (HW3.out.1.lt _ rfl).2
  have hlen := zw_len op30 wa wb L
  have HGf : Hid (Gn (w3.alloc (.cells #[.int .i64 N, .slice (some ⟨gz, 0, none⟩) (zw op30 wa wb L).length cz] 45)) (((w3.alloc (.cells #[.int .i64 N, .slice (some ⟨gz, 0, none⟩) (zw op30 wa wb L).length cz] 45)).gr p16).gr pz)) := ((Gn.refl _).gr _).gr _
  have HB3 : Hid ((w3.alloc (.cells #[.int .i64 N, .slice (some ⟨gz, 0, none⟩) (zw op30 wa wb L).length cz] 45)).heap[w3.heap.size]? = some (.cells #[.int .i64 N, .slice (some ⟨gz, 0, none⟩) (zw op30 wa wb L).length cz] 45 (0, 0))) := heap_alloc_new w3 _
  have HGa : Hid (Gn w3 (w3.alloc (.cells #[.int .i64 N, .slice (some ⟨gz, 0, none⟩) (zw op30 wa wb L).length cz] 45))) := (Gn.refl _).alloc _
  generalize ((w3.alloc (.cells #[.int .i64 N, .slice (some ⟨gz, 0, none⟩) (zw op30 wa wb L).length cz] 45)).gr p16).gr pz = wf at *
  generalize (w3.alloc (.cells #[.int .i64 N, .slice (some ⟨gz, 0, none⟩) (zw op30 wa wb L).length cz] 45)) = wl at *
  refine ⟨w3.heap.size, rfl, HG3.out.size, HG3.out.trans (HGa.out.trans HGf.out), gz, ⟨cz, zw op30 wa wb L, ?_, ?_, by rw [hlen, HLL.out], fun i hi => ⟨?_, fun j hj => ?_⟩, fun j hj => ?_, Nat.ne_of_gt hgz⟩, HW3.out.2 _ rfl⟩
  · have hl := (Kp.of_gn (fun _ => False) HGf.out).block w3.heap.size (lt_of_block HB3.out) (fun e => e)
    rw [hl, HB3.out, hlen, HLL.out]
  · have hh := own_gn HW3.out.1 (HGa.out.trans HGf.out)
    rw [hlen] at hh
    rw [HLL.out]
    exact hh
  · rw [hlen] at hi
    rw [wn_zw hi]
    exact lt30 (HMA.out i (by rw [HLa.out]; exact hi)).1 (HMB.out i (by rw [HLb.out]; exact hi)).1
  · rw [hlen] at hi
    rw [wn_zw hi]
    exact bit30 (HMB.out i (by rw [HLb.out]; exact hi)).1 hj ((HMA.out i (by rw [HLa.out]; exact hi)).2 j hj) ((HMB.out i (by rw [HLb.out]; exact hi)).2 j hj)
  · unfold mb30 at hj
    simp only [Bool.and_eq_true] at hj; exact HBD.out.1 j hj.1
theorem meet_ok (w : World) (sa ga sb gb N : Nat) (m n : Nat → Bool) (h : ST w sa ga N m) (h' : ST w sb gb N n) (hN : N ≤ 4096) :
    Calls Tryd.prog 13 #[.pointer (some ⟨sa, 0, none⟩), .pointer (some ⟨sb, 0, none⟩)] w fun e w' => ∃ sc, e = .returned (.pointer (some ⟨sc, 0, none⟩)) ∧ w.heap.size ≤ sc ∧ Gn w w' ∧ ∃ g, ST w' sc g N (mb30 m n) ∧ w.heap.size ≤ g := by
  have H : Hid (Calls Tryd.prog 28 #[.pointer (some ⟨sa, 0, none⟩), .pointer (some ⟨sb, 0, none⟩), .func (Fn.func 30) #[] #[]] w fun e w' => ∃ sc, e = .returned (.pointer (some ⟨sc, 0, none⟩)) ∧ w.heap.size ≤ sc ∧ Gn w w' ∧ ∃ g, ST w' sc g N (mb30 m n) ∧ w.heap.size ≤ g) := both30 w sa ga sb gb N m n h h' hN
  clear h h'
  go_enter Tryd.func13, Tryd.ntmps13
  go_wp2_with (go_at_call 28; refine Calls.mono H.out ?_; rintro _ w2 ⟨sc, rfl, h1, h2, g, h3, h4⟩; have HS : Hid (ST w2 sc g N (mb30 m n)) := h3; have HG2 : Hid (Gn w w2) := h2; clear h2 h3)
  go_ret
  exact ⟨sc, rfl, h1, HG2.out, g, HS.out, h4⟩
theorem both31 (w : World) (sa ga sb gb N : Nat) (m n : Nat → Bool) (h : ST w sa ga N m) (h' : ST w sb gb N n) (hN : N ≤ 4096) :
    Calls Tryd.prog 28 #[.pointer (some ⟨sa, 0, none⟩), .pointer (some ⟨sb, 0, none⟩), .func (Fn.func 31) #[] #[]] w fun e w' => ∃ sc, e = .returned (.pointer (some ⟨sc, 0, none⟩)) ∧ w.heap.size ≤ sc ∧ Gn w w' ∧ ∃ g, ST w' sc g N (mb31 m n) ∧ w.heap.size ≤ g := by
  obtain ⟨ca, wa, a1, hca, hcsa, hla, hma⟩ := h.cells
  obtain ⟨cb, wb, b1, hcb, hcsb, hlb, hmb⟩ := h'.cells
  have a0 := h.c0
  have b0 := h'.c0
  obtain ⟨sl, gl⟩ := h.lt
  obtain ⟨sl', gl'⟩ := h'.lt
  have HBD : Hid ((∀ j, m j = true → j < N) ∧ (∀ j, n j = true → j < N)) := ⟨fun j e => h.bound e, fun j e => h'.bound e⟩
  have HMA : Hid (WM wa m) := hma
  have HMB : Hid (WM wb n) := hmb
  obtain ⟨L, hL⟩ : ∃ L, N / 64 + 1 = L := ⟨_, rfl⟩
  rw [hL] at a1 b1 hca hcb hcsa hcsb hla hlb
  have HLL : Hid (N / 64 + 1 = L) := hL
  have HLa : Hid (wa.length = L) := hla
  have HLb : Hid (wb.length = L) := hlb
  have hL0 : 0 < L := by omega
  have hL65 : L ≤ 65 := by omega
  have HJ : Hid (∀ w', Gn w w' → Calls Tryd.prog 35 #[.slice (some ⟨ga, 0, none⟩) L ca, .slice (some ⟨gb, 0, none⟩) L cb, .func (Fn.func 31) #[] #[]] w' fun e w'' => ∃ v, e = .returned v ∧ WR w'' w'.heap.size v (zw op31 wa wb L) ∧ Gn w' w'') := fun w' hg =>
    joined31 w' ga gb ca cb L wa wb hL0 hL65 hca hcb (Nat.lt_of_lt_of_le gl hg.size) (Nat.lt_of_lt_of_le gl' hg.size) (fun i hi => ⟨gn_cell hg (hcsa i hi).1, (hma i (by omega)).1⟩) (fun i hi => ⟨gn_cell hg (hcsb i hi).1, (hmb i (by omega)).1⟩)
  have z1 : ((L : Int) == 0) = false := by simp; omega
  have z2 : decide ((L : Int) = 0) = false := by simp; omega
  clear h h' hcsa hcsb hma hmb hla hlb hL hca hcb
  go_enter Tryd.func28, Tryd.ntmps28
  go_wp2
  refine wp_region_gr (by kernel_rfl) (by kernel_rfl) ?_
  repeat (go_big_quiet_step (fail))
  refine wpQuiet_nil ?_
  rintro _ ⟨q1, rfl⟩
  have HG1 : Hid (Gn w (w.gr q1)) := (Gn.refl _).gr q1
  replace a0 := gn_cell HG1.out a0
  replace a1 := gn_cell HG1.out a1
  replace b1 := gn_cell HG1.out b1
  have hs1 := HG1.out.size
  have sl1 : sa < (w.gr q1).heap.size := by omega
  have sl2 : sb < (w.gr q1).heap.size := by omega
  generalize w.gr q1 = wq at *
  go_wp2
  refine wp_region_z 99 17 (by kernel_rfl) rfl ?_
  refine wpMix_pick 0 (by kernel_rfl) rfl (by kernel_rfl) (by with_reducible (repeat (first | exact Gn.refl _ | refine Gn.gr ?_ _ | refine Gn.alloc ?_ _ | refine Gn.drew ?_))) (by kernel_rfl) (fun K hK => ?_); go_simp; first | (refine hK _ ?_; clear hK K) | (apply Exists.intro; refine ⟨fun _ => ?_, hK _ ?_⟩; first | (fail); clear hK K)
  refine wpMix_pick 1 (by kernel_rfl) rfl (by kernel_rfl) (by with_reducible (repeat (first | exact Gn.refl _ | refine Gn.gr ?_ _ | refine Gn.alloc ?_ _ | refine Gn.drew ?_))) (by kernel_rfl) (fun K hK => ?_); go_simp; first | (refine hK _ ?_; clear hK K) | (apply Exists.intro; refine ⟨fun _ => ?_, hK _ ?_⟩; first | (fail); clear hK K)
  refine wpMix_pick 2 (by kernel_rfl) rfl (by kernel_rfl) (by with_reducible (repeat (first | exact Gn.refl _ | refine Gn.gr ?_ _ | refine Gn.alloc ?_ _ | refine Gn.drew ?_))) (by kernel_rfl) (fun K hK => ?_); go_simp; first | (refine hK _ ?_; clear hK K) | (apply Exists.intro; refine ⟨fun _ => ?_, hK _ ?_⟩; first | (fail); clear hK K)
  refine wpMix_pick 3 (by kernel_rfl) rfl (by kernel_rfl) (by with_reducible (repeat (first | exact Gn.refl _ | refine Gn.gr ?_ _ | refine Gn.alloc ?_ _ | refine Gn.drew ?_))) (by kernel_rfl) (fun K hK => ?_); go_simp; first | (refine hK _ ?_; clear hK K) | (apply Exists.intro; refine ⟨fun _ => ?_, hK _ ?_⟩; first | (fail); clear hK K)
  refine wpMix_pick 4 (by kernel_rfl) rfl (by kernel_rfl) (by with_reducible (repeat (first | exact Gn.refl _ | refine Gn.gr ?_ _ | refine Gn.alloc ?_ _ | refine Gn.drew ?_))) (by kernel_rfl) (fun K hK => ?_); go_simp; first | (refine hK _ ?_; clear hK K) | (apply Exists.intro; refine ⟨fun _ => ?_, hK _ ?_⟩; first | (fail); clear hK K)
  refine wpMix_pick 5 (by kernel_rfl) rfl (by kernel_rfl) (by with_reducible (repeat (first | exact Gn.refl _ | refine Gn.gr ?_ _ | refine Gn.alloc ?_ _ | refine Gn.drew ?_))) (by kernel_rfl) (fun K hK => ?_); go_simp; first | (refine hK _ ?_; clear hK K) | (apply Exists.intro; refine ⟨fun _ => ?_, hK _ ?_⟩; first | (fail); clear hK K)
  refine wpMix_pick 6 (by kernel_rfl) rfl (by kernel_rfl) (by with_reducible (repeat (first | exact Gn.refl _ | refine Gn.gr ?_ _ | refine Gn.alloc ?_ _ | refine Gn.drew ?_))) (by kernel_rfl) (fun K hK => ?_); go_simp; first | (refine hK _ ?_; clear hK K) | (apply Exists.intro; refine ⟨fun _ => ?_, hK _ ?_⟩; first | (fail); clear hK K)
  refine wpMix_pick 7 (by kernel_rfl) rfl (by kernel_rfl) (by with_reducible (repeat (first | exact Gn.refl _ | refine Gn.gr ?_ _ | refine Gn.alloc ?_ _ | refine Gn.drew ?_))) (by kernel_rfl) (fun K hK => ?_); go_simp; first | (refine hK _ ?_; clear hK K) | (apply Exists.intro; refine ⟨fun _ => ?_, hK _ ?_⟩; first | (fail); clear hK K)
  refine wpMix_pick 8 (by kernel_rfl) rfl (by kernel_rfl) (by with_reducible (repeat (first | exact Gn.refl _ | refine Gn.gr ?_ _ | refine Gn.alloc ?_ _ | refine Gn.drew ?_))) (by kernel_rfl) (fun K hK => ?_); go_simp; first | (refine hK _ ?_; clear hK K) | (apply Exists.intro; refine ⟨fun _ => ?_, hK _ ?_⟩; first | (fail); clear hK K)
  refine wpMix_pick 9 (by kernel_rfl) rfl (by kernel_rfl) (by with_reducible (repeat (first | exact Gn.refl _ | refine Gn.gr ?_ _ | refine Gn.alloc ?_ _ | refine Gn.drew ?_))) (by kernel_rfl) (fun K hK => ?_); go_simp; first | (refine hK _ ?_; clear hK K) | (apply Exists.intro; refine ⟨fun _ => ?_, hK _ ?_⟩; first | (fail); clear hK K)
  refine wpMix_pick 10 (by kernel_rfl) rfl (by kernel_rfl) (by with_reducible (repeat (first | exact Gn.refl _ | refine Gn.gr ?_ _ | refine Gn.alloc ?_ _ | refine Gn.drew ?_))) (by kernel_rfl) (fun K hK => ?_); go_simp; first | (refine hK _ ?_; clear hK K) | (apply Exists.intro; refine ⟨fun _ => ?_, hK _ ?_⟩; first | (fail); clear hK K)
  refine wpMix_pick 11 (by kernel_rfl) rfl (by kernel_rfl) (by with_reducible (repeat (first | exact Gn.refl _ | refine Gn.gr ?_ _ | refine Gn.alloc ?_ _ | refine Gn.drew ?_))) (by kernel_rfl) (fun K hK => ?_); go_simp; first | (refine hK _ ?_; clear hK K) | (apply Exists.intro; refine ⟨fun _ => ?_, hK _ ?_⟩; first | (fail); clear hK K)
  refine wpMix_pick 12 (by kernel_rfl) rfl (by kernel_rfl) (by with_reducible (repeat (first | exact Gn.refl _ | refine Gn.gr ?_ _ | refine Gn.alloc ?_ _ | refine Gn.drew ?_))) (by kernel_rfl) (fun K hK => ?_); go_simp; first | (refine hK _ ?_; clear hK K) | (apply Exists.intro; refine ⟨fun _ => ?_, hK _ ?_⟩; first | (fail); clear hK K)
  refine wpMix_one (i := 13) (by kernel_rfl) rfl ?_
  intro p13
  go_wp2_with (go_at_call 35; refine Calls.mono (HJ.out _ (HG1.out.gr _)) ?_; rintro _ w2 ⟨v2, rfl, h1, h2⟩; have HG2 : Hid (Gn w w2) := (HG1.out.gr p13).trans h2; have HW2 : Hid (WR w2 w.heap.size v2 (zw op31 wa wb L)) := ⟨h1.1, fun k e => Nat.le_trans (HG1.out.gr p13).size (h1.2 k e)⟩; have HGq : Hid (Gn wq w2) := ((Gn.refl _).gr p13).trans h2; clear h1 h2)
  refine ⟨HGq.out, ?_⟩
  obtain ⟨gz, cz, rfl⟩ := own_some HW2.out.1 (by rw [zw_len]; exact hL0)
  refine wpMix_one (i := 14) (by kernel_rfl) rfl ?_
  intro p14
  go_wp2
  refine ⟨HGq.out.gr _, ?_⟩
  refine wpMix_one (i := 15) (by kernel_rfl) rfl ?_
  intro p15
  go_wp2
  refine ⟨(HGq.out.gr _).alloc _, ?_⟩
  refine wpMix_one (i := 16) (by kernel_rfl) rfl ?_
  intro p16
  go_wp2
  refine ⟨((HGq.out.gr _).alloc _).gr _, ?_⟩
  refine wpMix_done (by kernel_rfl) ?_
  intro pz
  go_wp2
  go_ret
  have hsz : (w2.gr ⟨p15.d, p14.os ++ p15.os⟩).heap.size = w2.heap.size + (p14.os.size + p15.os.size) := by rw [size_gr]; simp
  rw [← hsz]
  have HG3 : Hid (Gn w (w2.gr ⟨p15.d, p14.os ++ p15.os⟩)) := HG2.out.gr _
  have HW3 : Hid (WR (w2.gr ⟨p15.d, p14.os ++ p15.os⟩) w.heap.size (.slice (some ⟨gz, 0, none⟩) (zw op31 wa wb L).length cz) (zw op31 wa wb L)) := HW2.out.gn ((Gn.refl _).gr _)
  clear hsz
  generalize w2.gr ⟨p15.d, p14.os ++ p15.os⟩ = w3 at *
  have hgz := (HW3.out.1.lt _ rfl).2
  have hlen := zw_len op31 wa wb L
  have HGf : Hid (Gn (w3.alloc (.cells #[.int .i64 N, .slice (some ⟨gz, 0, none⟩) (zw op31 wa wb L).length cz] 45)) (((w3.alloc (.cells #[.int .i64 N, .slice (some ⟨gz, 0, none⟩) (zw op31 wa wb L).length cz] 45)).gr p16).gr pz)) := ((Gn.refl _).gr _).gr _
  have HB3 : Hid ((w3.alloc (.cells #[.int .i64 N, .slice (some ⟨gz, 0, none⟩) (zw op31 wa wb L).length cz] 45)).heap[w3.heap.size]? = some (.cells #[.int .i64 N, .slice (some ⟨gz, 0, none⟩) (zw op31 wa wb L).length cz] 45 (0, 0))) := heap_alloc_new w3 _
  have HGa : Hid (Gn w3 (w3.alloc (.cells #[.int .i64 N, .slice (some ⟨gz, 0, none⟩) (zw op31 wa wb L).length cz] 45))) := (Gn.refl _).alloc _
  generalize ((w3.alloc (.cells #[.int .i64 N, .slice (some ⟨gz, 0, none⟩) (zw op31 wa wb L).length cz] 45)).gr p16).gr pz = wf at *
  generalize (w3.alloc (.cells #[.int .i64 N, .slice (some ⟨gz, 0, none⟩) (zw op31 wa wb L).length cz] 45)) = wl at *
  refine ⟨w3.heap.size, rfl, HG3.out.size, HG3.out.trans (HGa.out.trans HGf.out), gz, ⟨cz, zw op31 wa wb L, ?_, ?_, by rw [hlen, HLL.out], fun i hi => ⟨?_, fun j hj => ?_⟩, fun j hj => ?_, Nat.ne_of_gt hgz⟩, HW3.out.2 _ rfl⟩
  · have hl := (Kp.of_gn (fun _ => False) HGf.out).block w3.heap.size (lt_of_block HB3.out) (fun e => e)
    rw [hl, HB3.out, hlen, HLL.out]
  · have hh := own_gn HW3.out.1 (HGa.out.trans HGf.out)
    rw [hlen] at hh
    rw [HLL.out]
    exact hh
  · rw [hlen] at hi
    rw [wn_zw hi]
    exact lt31 (HMA.out i (by rw [HLa.out]; exact hi)).1 (HMB.out i (by rw [HLb.out]; exact hi)).1
  · rw [hlen] at hi
    rw [wn_zw hi]
    exact bit31 (HMB.out i (by rw [HLb.out]; exact hi)).1 hj ((HMA.out i (by rw [HLa.out]; exact hi)).2 j hj) ((HMB.out i (by rw [HLb.out]; exact hi)).2 j hj)
  · unfold mb31 at hj
    simp only [Bool.and_eq_true] at hj; exact HBD.out.1 j hj.1
theorem less_ok (w : World) (sa ga sb gb N : Nat) (m n : Nat → Bool) (h : ST w sa ga N m) (h' : ST w sb gb N n) (hN : N ≤ 4096) :
    Calls Tryd.prog 14 #[.pointer (some ⟨sa, 0, none⟩), .pointer (some ⟨sb, 0, none⟩)] w fun e w' => ∃ sc, e = .returned (.pointer (some ⟨sc, 0, none⟩)) ∧ w.heap.size ≤ sc ∧ Gn w w' ∧ ∃ g, ST w' sc g N (mb31 m n) ∧ w.heap.size ≤ g := by
  have H : Hid (Calls Tryd.prog 28 #[.pointer (some ⟨sa, 0, none⟩), .pointer (some ⟨sb, 0, none⟩), .func (Fn.func 31) #[] #[]] w fun e w' => ∃ sc, e = .returned (.pointer (some ⟨sc, 0, none⟩)) ∧ w.heap.size ≤ sc ∧ Gn w w' ∧ ∃ g, ST w' sc g N (mb31 m n) ∧ w.heap.size ≤ g) := both31 w sa ga sb gb N m n h h' hN
  clear h h'
  go_enter Tryd.func14, Tryd.ntmps14
  go_wp2_with (go_at_call 28; refine Calls.mono H.out ?_; rintro _ w2 ⟨sc, rfl, h1, h2, g, h3, h4⟩; have HS : Hid (ST w2 sc g N (mb31 m n)) := h3; have HG2 : Hid (Gn w w2) := h2; clear h2 h3)
  go_ret
  exact ⟨sc, rfl, h1, HG2.out, g, HS.out, h4⟩
end Go.Proofs.YtoaefmnjndklkaaDoor
