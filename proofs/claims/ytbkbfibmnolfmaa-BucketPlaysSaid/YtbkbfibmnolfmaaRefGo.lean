/- The contract of the reference's Go. -/
import Derived.Test.YtbkbfibmnolfmaaRef
namespace Go.Proofs.Ytbkbfibmnolfmaa
open Go.RowKit

set_option maxHeartbeats 4000000 in
set_option maxRecDepth 100000 in
theorem rgo_is (tb : Nat) (ra ro no ha t : Int) (w : World) (h : RB w tb ra ro no ha) (h0 : 0 ≤ no ∧ no ≤ t) (h1 : t ≤ 1099511627776) (h2 : 0 ≤ ra ∧ ra ≤ 1048576) (h3 : 0 ≤ ro ∧ ro ≤ 1048576) (h4 : 0 ≤ ha ∧ ha ≤ ro) :
    Calls Try.prog 13 #[.pointer (some ⟨tb, 0, none⟩), .int .i64 t] w fun e w' => e = .returned (.int .i64 0) ∧ RB w' tb ra ro t (later ra ro no ha t) ∧ Kp (fun j => j = tb) w w' := by
  obtain ⟨tl, ⟨c0, c1, c2, c3⟩, f2, f3⟩ := h.facts
  have H : Hid _ := h
  clear h
  have d0 : decide (t < no) = false := by rw [decide_eq_false_iff_not]; omega
  have d1 : decide (1099511627776 < t) = false := by rw [decide_eq_false_iff_not]; omega
  have hA : RB (w.setCell ⟨tb, 2, none⟩ (.int .i64 t)) tb ra ro t ha := RB.set2 (show RB w tb ra ro no ha from H.out) t
  have kA : Kp (fun j => j = tb) w (w.setCell ⟨tb, 2, none⟩ (.int .i64 t)) := (Kp.refl (fun j => j = tb) w).set tb 2 _ rfl
  have HA : Hid _ := hA
  have KA : Hid _ := kA
  clear hA kA
  by_cases b4 : ra = 0
  · have e : later ra ro no ha t = ha := by unfold later; rw [b4, Int.mul_zero]; omega
    rw [e]
    have dr : decide (0 < ra) = false := by rw [decide_eq_false_iff_not]; omega
    go_enter Try.func13, Try.ntmps13
    go_wp2
    refine wp_region_gr (by kernel_rfl) (by kernel_rfl) ?_
    repeat (go_big_quiet_step (fail))
    refine wpQuiet_nil ?_
    rintro _ ⟨q4, rfl⟩
    go_wp2
    go_loopw [6] (fun i wr => i = .int .i64 0 ∧ RB wr tb ra ro t ha ∧ Kp (fun j => j = tb) w wr) (fun _ _ => 0)
    case atStart => exact ⟨rfl, RB.grown (show RB (w.setCell ⟨tb, 2, none⟩ (.int .i64 t)) tb ra ro t ha from HA.out) (by with_reducible (repeat (first | exact Gn.refl _ | refine Gn.gr ?_ _ | refine Gn.alloc ?_ _ | refine Gn.drew ?_))), Kp.gn (show Kp (fun j => j = tb) w (w.setCell ⟨tb, 2, none⟩ (.int .i64 t)) from KA.out) (by with_reducible (repeat (first | exact Gn.refl _ | refine Gn.gr ?_ _ | refine Gn.alloc ?_ _ | refine Gn.drew ?_)))⟩
    case round =>
      obtain ⟨rfl, hR, hK⟩ := hrel
      obtain ⟨tl1, ⟨x0, x1, x2, x3⟩, _⟩ := hR.facts
      have HR : Hid _ := hR
      have HK : Hid _ := hK
      clear hR hK
      go_wp2
      all_goals first
        | omega
        | (go_ret
           first
             | exact ⟨rfl, HR.out, HK.out⟩
             | (refine ⟨rfl, ?_, HK.out⟩
                have h : RB wr tb ra ro t ha := HR.out
                rw [b4] at h
                exact h))
  have dr : decide (0 < ra) = true := by rw [decide_eq_true_eq]; omega
  have hra : ¬ ra = 0 := b4
  have hq0 : 0 ≤ ro / ra := Int.ediv_nonneg (by omega) (by omega)
  have hq1 : ro / ra ≤ ro := Int.ediv_le_self _ (by omega)
  by_cases b5 : ro / ra + 1 ≤ t - no
  · have e : later ra ro no ha t = ro := by
      have g1 := Int.lt_ediv_add_one_mul_self ro (show 0 < ra by omega)
      have g2 : (ro / ra + 1) * ra ≤ (t - no) * ra := Int.mul_le_mul_of_nonneg_right b5 (by omega)
      unfold later
      omega
    rw [e]
    have d5 : decide (ro / ra + 1 ≤ t - no) = true := by rw [decide_eq_true_eq]; exact b5
    go_enter Try.func13, Try.ntmps13
    go_wp2
    refine wp_region_gr (by kernel_rfl) (by kernel_rfl) ?_
    repeat (go_big_quiet_step (fail))
    refine wpQuiet_nil ?_
    rintro _ ⟨q4, rfl⟩
    go_wp2
    all_goals first
      | omega
      | (go_ret
         exact ⟨rfl, RB.grown (RB.set3 (show RB (w.setCell ⟨tb, 2, none⟩ (.int .i64 t)) tb ra ro t ha from HA.out) _) (by with_reducible (repeat (first | exact Gn.refl _ | refine Gn.gr ?_ _ | refine Gn.alloc ?_ _ | refine Gn.drew ?_))), ((show Kp (fun j => j = tb) w (w.setCell ⟨tb, 2, none⟩ (.int .i64 t)) from KA.out).set tb 3 _ rfl).gn (by with_reducible (repeat (first | exact Gn.refl _ | refine Gn.gr ?_ _ | refine Gn.alloc ?_ _ | refine Gn.drew ?_)))⟩)
  have d5 : decide (ro / ra + 1 ≤ t - no) = false := by rw [decide_eq_false_iff_not]; exact b5
  obtain ⟨lf, hlf⟩ : ∃ lf : Nat, (lf : Int) = t - no := ⟨(t - no).toNat, by omega⟩
  have HL : Hid _ := hlf
  have hlb : lf ≤ 1048576 := by omega
  go_enter Try.func13, Try.ntmps13
  go_wp2
  refine wp_region_gr (by kernel_rfl) (by kernel_rfl) ?_
  repeat (go_big_quiet_step (fail))
  refine wpQuiet_nil ?_
  rintro _ ⟨q4, rfl⟩
  go_wp2
  all_goals first
    | omega
    | (go_loopw [6] (fun i wr => ∃ k : Nat, k ≤ lf ∧ i = .int .i64 k ∧ RB wr tb ra ro t (min ro (ha + (k : Int) * ra)) ∧ Kp (fun j => j = tb) w wr) (fun i _ => lf - (intOf i).toNat)
       case atStart => exact ⟨0, by omega, rfl, by have : min ro (ha + ((0 : Nat) : Int) * ra) = ha := by (simp; omega)
                                                   rw [this]; exact RB.grown (show RB (w.setCell ⟨tb, 2, none⟩ (.int .i64 t)) tb ra ro t ha from HA.out) (by with_reducible (repeat (first | exact Gn.refl _ | refine Gn.gr ?_ _ | refine Gn.alloc ?_ _ | refine Gn.drew ?_))), Kp.gn (show Kp (fun j => j = tb) w (w.setCell ⟨tb, 2, none⟩ (.int .i64 t)) from KA.out) (by with_reducible (repeat (first | exact Gn.refl _ | refine Gn.gr ?_ _ | refine Gn.alloc ?_ _ | refine Gn.drew ?_)))⟩
       case round =>
         obtain ⟨k, hk, rfl, hR, hK⟩ := hrel
         obtain ⟨y, hy⟩ : ∃ y, min ro (ha + (k : Int) * ra) = y := ⟨_, rfl⟩
         rw [hy] at hR
         obtain ⟨tl1, ⟨x0, x1, x2, x3⟩, g2, g3⟩ := hR.facts
         have hmu := mul_in (a := (k : Int)) (A := 1048576) (b := ra) (B := 1048576) ⟨by omega, by omega⟩ h2
         have hyb : 0 ≤ y ∧ y ≤ ro := by omega
         have HR : Hid _ := hR
         have HK : Hid _ := hK
         have HY : Hid _ := hy
         clear hR hK
         by_cases hkl : k < lf
         · have dk : decide ((k : Int) < t - no) = true := by rw [decide_eq_true_eq]; omega
           have hk1 : ((k + 1 : Nat) : Int) * ra = (k : Int) * ra + ra := by rw [Int.natCast_add, Int.add_mul]; simp
           clear hy
           rcases Int.lt_or_le (y + ra) ro with hm | hm
           all_goals
            go_wp2
            refine wp_region_z 17 18 (by kernel_rfl) rfl ?_
            refine wpMix_pick 0 (by kernel_rfl) rfl (by kernel_rfl) (by with_reducible (repeat (first | exact Gn.refl _ | refine Gn.gr ?_ _ | refine Gn.alloc ?_ _))) (by kernel_rfl) (fun K hK => ?_); go_simp; first | (refine hK _ ?_; clear hK K) | (apply Exists.intro; refine ⟨fun _ => ?_, hK _ ?_⟩; first | fail; clear hK K)
            refine wpMix_pick 1 (by kernel_rfl) rfl (by kernel_rfl) (by with_reducible (repeat (first | exact Gn.refl _ | refine Gn.gr ?_ _ | refine Gn.alloc ?_ _))) (by kernel_rfl) (fun K hK => ?_); go_simp; first | (refine hK _ ?_; clear hK K) | (apply Exists.intro; refine ⟨fun _ => ?_, hK _ ?_⟩; first | fail; clear hK K)
            refine wpMix_pick 2 (by kernel_rfl) rfl (by kernel_rfl) (by with_reducible (repeat (first | exact Gn.refl _ | refine Gn.gr ?_ _ | refine Gn.alloc ?_ _))) (by kernel_rfl) (fun K hK => ?_); go_simp; first | (refine hK _ ?_; clear hK K) | (apply Exists.intro; refine ⟨fun _ => ?_, hK _ ?_⟩; first | fail; clear hK K)
            refine wpMix_pick 3 (by kernel_rfl) rfl (by kernel_rfl) (by with_reducible (repeat (first | exact Gn.refl _ | refine Gn.gr ?_ _ | refine Gn.alloc ?_ _))) (by kernel_rfl) (fun K hK => ?_); go_simp; first | (refine hK _ ?_; clear hK K) | (apply Exists.intro; refine ⟨fun _ => ?_, hK _ ?_⟩; first | fail; clear hK K)
            refine wpMix_pick 4 (by kernel_rfl) rfl (by kernel_rfl) (by with_reducible (repeat (first | exact Gn.refl _ | refine Gn.gr ?_ _ | refine Gn.alloc ?_ _))) (by kernel_rfl) (fun K hK => ?_); go_simp; first | (refine hK _ ?_; clear hK K) | (apply Exists.intro; refine ⟨fun _ => ?_, hK _ ?_⟩; first | fail; clear hK K)
            refine wpMix_pick 5 (by kernel_rfl) rfl (by kernel_rfl) (by with_reducible (repeat (first | exact Gn.refl _ | refine Gn.gr ?_ _ | refine Gn.alloc ?_ _))) (by kernel_rfl) (fun K hK => ?_); go_simp; first | (refine hK _ ?_; clear hK K) | (apply Exists.intro; refine ⟨fun _ => ?_, hK _ ?_⟩; first | fail; clear hK K)
            refine wpMix_pick 6 (by kernel_rfl) rfl (by kernel_rfl) (by with_reducible (repeat (first | exact Gn.refl _ | refine Gn.gr ?_ _ | refine Gn.alloc ?_ _))) (by kernel_rfl) (fun K hK => ?_); go_simp; first | (refine hK _ ?_; clear hK K) | (apply Exists.intro; refine ⟨fun _ => ?_, hK _ ?_⟩; first | fail; clear hK K)
            refine wpMix_pick 7 (by kernel_rfl) rfl (by kernel_rfl) (by with_reducible (repeat (first | exact Gn.refl _ | refine Gn.gr ?_ _ | refine Gn.alloc ?_ _))) (by kernel_rfl) (fun K hK => ?_); go_simp; first | (refine hK _ ?_; clear hK K) | (apply Exists.intro; refine ⟨fun _ => ?_, hK _ ?_⟩; first | fail; clear hK K)
            refine wpMix_pick 8 (by kernel_rfl) rfl (by kernel_rfl) (by with_reducible (repeat (first | exact Gn.refl _ | refine Gn.gr ?_ _ | refine Gn.alloc ?_ _))) (by kernel_rfl) (fun K hK => ?_); go_simp; first | (refine hK _ ?_; clear hK K) | (apply Exists.intro; refine ⟨fun _ => ?_, hK _ ?_⟩; first | fail; clear hK K)
            refine wpMix_pick 9 (by kernel_rfl) rfl (by kernel_rfl) (by with_reducible (repeat (first | exact Gn.refl _ | refine Gn.gr ?_ _ | refine Gn.alloc ?_ _))) (by kernel_rfl) (fun K hK => ?_); go_simp; first | (refine hK _ ?_; clear hK K) | (apply Exists.intro; refine ⟨fun _ => ?_, hK _ ?_⟩; first | fail; clear hK K)
            refine wpMix_pick 10 (by kernel_rfl) rfl (by kernel_rfl) (by with_reducible (repeat (first | exact Gn.refl _ | refine Gn.gr ?_ _ | refine Gn.alloc ?_ _))) (by kernel_rfl) (fun K hK => ?_); go_simp; first | (refine hK _ ?_; clear hK K) | (apply Exists.intro; refine ⟨fun _ => ?_, hK _ ?_⟩; first | fail; clear hK K)
            refine wpMix_pick 11 (by kernel_rfl) rfl (by kernel_rfl) (by with_reducible (repeat (first | exact Gn.refl _ | refine Gn.gr ?_ _ | refine Gn.alloc ?_ _))) (by kernel_rfl) (fun K hK => ?_); go_simp; first | (refine hK _ ?_; clear hK K) | (apply Exists.intro; refine ⟨fun _ => ?_, hK _ ?_⟩; first | fail; clear hK K)
            refine wpMix_pick 12 (by kernel_rfl) rfl (by kernel_rfl) (by with_reducible (repeat (first | exact Gn.refl _ | refine Gn.gr ?_ _ | refine Gn.alloc ?_ _))) (by kernel_rfl) (fun K hK => ?_); go_simp; first | (refine hK _ ?_; clear hK K) | (apply Exists.intro; refine ⟨fun _ => ?_, hK _ ?_⟩; first | fail; clear hK K)
            refine wpMix_pick 13 (by kernel_rfl) rfl (by kernel_rfl) (by with_reducible (repeat (first | exact Gn.refl _ | refine Gn.gr ?_ _ | refine Gn.alloc ?_ _))) (by kernel_rfl) (fun K hK => ?_); go_simp; first | (refine hK _ ?_; clear hK K) | (apply Exists.intro; refine ⟨fun _ => ?_, hK _ ?_⟩; first | fail; clear hK K)
            refine wpMix_pick 14 (by kernel_rfl) rfl (by kernel_rfl) (by with_reducible (repeat (first | exact Gn.refl _ | refine Gn.gr ?_ _ | refine Gn.alloc ?_ _))) (by kernel_rfl) (fun K hK => ?_); go_simp; first | (refine hK _ ?_; clear hK K) | (apply Exists.intro; refine ⟨fun _ => ?_, hK _ ?_⟩; first | fail; clear hK K)
            refine wpMix_one (i := 15) (by kernel_rfl) rfl ?_
            intro p
            go_wp2
            refine ⟨(by with_reducible (repeat (first | exact Gn.refl _ | refine Gn.gr ?_ _ | refine Gn.alloc ?_ _))), ?_⟩
            refine wpMix_one (i := 16) (by kernel_rfl) rfl ?_
            intro p
            go_wp2
            refine ⟨(by with_reducible (repeat (first | exact Gn.refl _ | refine Gn.gr ?_ _ | refine Gn.alloc ?_ _))), ?_⟩
            refine wpMix_one (i := 17) (by kernel_rfl) rfl ?_
            intro p
            go_wp2
            all_goals first
             | (refine wpMix_done (by kernel_rfl) ?_
                intro p2
                go_wp2
                go_roundw
                case rel =>
                  refine ⟨k + 1, by omega, by go_num, ?_, (Kp.set (show Kp (fun j => j = tb) w wr from HK.out) tb 3 _ rfl).gn (by with_reducible (repeat (first | exact Gn.refl _ | refine Gn.gr ?_ _ | refine Gn.alloc ?_ _ | refine Gn.drew ?_)))⟩
                  have hy := HY.out
                  first
                    | (have e3 : min ro (ha + ((k + 1 : Nat) : Int) * ra) = ro := by rw [hk1]; omega
                       rw [e3]
                       exact RB.grown (RB.set3 (show RB wr tb ra ro t y from HR.out) _) (by with_reducible (repeat (first | exact Gn.refl _ | refine Gn.gr ?_ _ | refine Gn.alloc ?_ _ | refine Gn.drew ?_))))
                    | (have e3 : min ro (ha + ((k + 1 : Nat) : Int) * ra) = y + ra := by rw [hk1]; omega
                       rw [e3]
                       exact RB.grown (RB.set3 (show RB wr tb ra ro t y from HR.out) _) (by with_reducible (repeat (first | exact Gn.refl _ | refine Gn.gr ?_ _ | refine Gn.alloc ?_ _ | refine Gn.drew ?_))))
                case measure => simp [intOf]; omega)
         · have dk : decide ((k : Int) < t - no) = false := by rw [decide_eq_false_iff_not]; omega
           have hge : k = lf := by omega
           subst hge
           have e : later ra ro no ha t = y := by unfold later; rw [← hlf]; exact hy
           clear hy
           go_wp2
           all_goals first
             | omega
             | (go_ret; exact ⟨rfl, by rw [e]; exact HR.out, HK.out⟩))
end Go.Proofs.Ytbkbfibmnolfmaa
