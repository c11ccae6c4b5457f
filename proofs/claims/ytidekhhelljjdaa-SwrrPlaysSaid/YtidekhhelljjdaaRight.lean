/- The contract of Right. -/
import Derived.Test.YtidekhhelljjdaaBk
import Derived.Deep.QuietTactic
import Derived.BigQuiet
import Derived.Deep.DeepCutAuto
namespace Go.Proofs.Ytidekhhelljjdaa
open Go.RowKit

def badAt (l : List B) (k : Nat) : Bool := decide ((el l k).id < 1 ∨ 65535 < (el l k).id ∨ (el l k).wt < 0 ∨ 1000 < (el l k).wt ∨ (0 < k ∧ (el l k).id ≤ (el l (k - 1)).id))
def Right (l : List B) : Prop := ∀ k, k < l.length → badAt l k = false
instance (l : List B) : Decidable (Right l) := inferInstanceAs (Decidable (∀ k, k < l.length → badAt l k = false))

theorem right_bad {l : List B} {k : Nat} (hk : k < l.length) (h : badAt l k = true) : decide (Right l) = false := by
  rw [decide_eq_false_iff_not]
  intro hh
  rw [hh k hk] at h
  cases h
theorem right_next {l : List B} {k : Nat} (hall : ∀ j, j < k → badAt l j = false) (h : badAt l k = false) : ∀ j, j < k + 1 → badAt l j = false := by
  intro j hj
  rcases Nat.lt_succ_iff_lt_or_eq.1 hj with h1 | rfl
  · exact hall j h1
  · exact h

set_option maxHeartbeats 4000000 in
set_option maxRecDepth 100000 in
theorem right_is (v : Value) (l : List B) (w : World) (h : SL w v l) (ht : l.length ≤ 64) : Calls Try.prog 6 #[v] w fun y w' => y = .returned (.bool (decide (Right l))) ∧ Gn w w' := by
  rcases h with ⟨rfl, rfl⟩ | ⟨b, off, cap, rfl, hb, hc⟩
  · go_enter Try.func6, Try.ntmps6
    go_wp2
    go_loop [3] (fun i => i = .int .i64 0) (fun _ => 0)
    case atStart => rfl
    case round =>
      subst hrel
      go_wp2
      go_ret
      exact ⟨rfl, by repeat (first | exact Gn.refl _ | refine Gn.gr ?_ _ | refine Gn.alloc ?_ _)⟩
  · go_enter Try.func6, Try.ntmps6
    go_wp2
    go_loopw [3] (fun i wr => ∃ k : Nat, k ≤ l.length ∧ i = .int .i64 k ∧ (∀ j, j < k → badAt l j = false) ∧ Gn w wr) (fun i _ => l.length - (intOf i).toNat)
    case atStart => exact ⟨0, by omega, rfl, fun j hj => absurd hj (by omega), Gn.refl _⟩
    case round =>
      obtain ⟨k, hk, rfl, hall, p, rfl⟩ := hrel
      have hck := hc k
      have HA : Hid _ := hall
      clear hall
      by_cases hlt : k < l.length
      · obtain ⟨c0, c1, c2, c3, c4, c5⟩ := hck hlt
        have hpk := fun m (h : k = m + 1) => hc m (by omega)
        clear hck hc
        have hi : (k : Int) < (l.length : Int) := by omega
        by_cases t1 : (el l k).id < 1
        · clear hpk
          go_wp2
          refine wp_region_gr (by kernel_rfl) (by kernel_rfl) ?_
          repeat (go_big_quiet_step (fail))
          refine wpQuiet_nil ?_
          rintro _ ⟨q, rfl⟩
          go_wp2
          go_ret
          exact ⟨bool_ret (right_bad hlt (by simp only [badAt, decide_eq_true_eq]; omega)).symm, by repeat (first | exact Gn.refl _ | refine Gn.gr ?_ _ | refine Gn.alloc ?_ _)⟩
        have d1 : decide ((el l k).id < 1) = false := by simp; omega
        by_cases t2 : 65535 < (el l k).id
        · clear hpk
          go_wp2
          refine wp_region_gr (by kernel_rfl) (by kernel_rfl) ?_
          repeat (go_big_quiet_step (fail))
          refine wpQuiet_nil ?_
          rintro _ ⟨q, rfl⟩
          go_wp2
          go_ret
          exact ⟨bool_ret (right_bad hlt (by simp only [badAt, decide_eq_true_eq]; omega)).symm, by repeat (first | exact Gn.refl _ | refine Gn.gr ?_ _ | refine Gn.alloc ?_ _)⟩
        have d2 : decide (65535 < (el l k).id) = false := by simp; omega
        by_cases t3 : (el l k).wt < 0
        · clear hpk
          go_wp2
          refine wp_region_gr (by kernel_rfl) (by kernel_rfl) ?_
          repeat (go_big_quiet_step (fail))
          refine wpQuiet_nil ?_
          rintro _ ⟨q, rfl⟩
          go_wp2
          go_ret
          exact ⟨bool_ret (right_bad hlt (by simp only [badAt, decide_eq_true_eq]; omega)).symm, by repeat (first | exact Gn.refl _ | refine Gn.gr ?_ _ | refine Gn.alloc ?_ _)⟩
        have d3 : decide ((el l k).wt < 0) = false := by simp; omega
        by_cases t4 : 1000 < (el l k).wt
        · clear hpk
          go_wp2
          refine wp_region_gr (by kernel_rfl) (by kernel_rfl) ?_
          repeat (go_big_quiet_step (fail))
          refine wpQuiet_nil ?_
          rintro _ ⟨q, rfl⟩
          go_wp2
          go_ret
          exact ⟨bool_ret (right_bad hlt (by simp only [badAt, decide_eq_true_eq]; omega)).symm, by repeat (first | exact Gn.refl _ | refine Gn.gr ?_ _ | refine Gn.alloc ?_ _)⟩
        have d4 : decide (1000 < (el l k).wt) = false := by simp; omega
        by_cases t5 : k = 0
        · subst t5
          clear hpk
          simp only [Nat.zero_mul, Nat.add_zero] at c0 c1 c2 c3 c4 c5
          have hi0 : (0 : Int) < (l.length : Int) := by omega
          go_wp2
          refine wp_region_gr (by kernel_rfl) (by kernel_rfl) ?_
          repeat (go_big_quiet_step (fail))
          refine wpQuiet_nil ?_
          rintro _ ⟨q, rfl⟩
          go_wp2
          go_roundw
          case rel => exact ⟨0 + 1, by omega, by go_num, right_next HA.out (by simp only [badAt, decide_eq_false_iff_not]; omega), by repeat (first | exact Gn.refl _ | refine Gn.gr ?_ _ | refine Gn.alloc ?_ _)⟩
          case measure => simp [intOf]; omega
        obtain ⟨m, rfl⟩ : ∃ m, k = m + 1 := ⟨k - 1, by omega⟩
        obtain ⟨e0, e1, e2, e3, e4, e5⟩ := hpk m rfl
        clear hpk
        have hm : (m : Int) < (l.length : Int) := by omega
        have hp1 : decide ((0 : Int) < (m : Int) + 1) = true := by rw [decide_eq_true_eq]; omega
        by_cases t6 : (el l (m + 1)).id ≤ (el l m).id
        · skip
          go_wp2
          refine wp_region_gr (by kernel_rfl) (by kernel_rfl) ?_
          repeat (go_big_quiet_step (fail))
          refine wpQuiet_nil ?_
          rintro _ ⟨q, rfl⟩
          go_wp2
          go_ret
          exact ⟨bool_ret (right_bad hlt (by simp only [badAt, decide_eq_true_eq, Nat.add_sub_cancel]; omega)).symm, by repeat (first | exact Gn.refl _ | refine Gn.gr ?_ _ | refine Gn.alloc ?_ _)⟩
        have d6 : decide ((el l (m + 1)).id ≤ (el l m).id) = false := by simp; omega
        · skip
          go_wp2
          refine wp_region_gr (by kernel_rfl) (by kernel_rfl) ?_
          repeat (go_big_quiet_step (fail))
          refine wpQuiet_nil ?_
          rintro _ ⟨q, rfl⟩
          go_wp2
          go_roundw
          case rel => exact ⟨(m + 1) + 1, by omega, by go_num, right_next HA.out (by simp only [badAt, decide_eq_false_iff_not, Nat.add_sub_cancel]; omega), by repeat (first | exact Gn.refl _ | refine Gn.gr ?_ _ | refine Gn.alloc ?_ _)⟩
          case measure => simp [intOf]; omega
      · have hge : k = l.length := by omega
        subst hge
        go_wp2
        go_ret
        exact ⟨bool_ret (by rw [decide_eq_true (show Right l from HA.out), decide_eq_true_eq]; omega), by repeat (first | exact Gn.refl _ | refine Gn.gr ?_ _ | refine Gn.alloc ?_ _)⟩
end Go.Proofs.Ytidekhhelljjdaa
