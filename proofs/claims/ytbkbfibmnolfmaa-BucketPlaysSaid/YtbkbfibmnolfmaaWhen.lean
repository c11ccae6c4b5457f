/- The contract of When. -/
import Derived.Test.YtbkbfibmnolfmaaFns
namespace Go.Proofs.Ytbkbfibmnolfmaa
open Go.RowKit

theorem Calls.in_gr2 {P : Program} {f : FuncId} {args : Array Value} {w : World} {p a : Gr} {v : Value}
    (h : Calls P f args (w.gr ⟨a.d, p.os ++ a.os⟩) fun e w' => e = .returned v ∧ Gn (w.gr ⟨a.d, p.os ++ a.os⟩) w') :
    Calls P f args (w.gr ⟨a.d, p.os ++ a.os⟩) fun e w'' => e = .returned v ∧ ∃ q : Gr, w'' = w.gr ⟨q.d, p.os ++ q.os⟩ :=
  h.mono fun _ _ ⟨he, q, hq⟩ => ⟨he, ⟨q.d, a.os ++ q.os⟩, by rw [hq]; simp [World.gr, Array.append_assoc]⟩
theorem round_is (n m : Int) (w : World) (h0 : 0 ≤ n ∧ n ≤ 4611686018427387904) (h1 : 1 ≤ m ∧ m ≤ 4611686018427387904) : Calls Try.prog 18 #[.int .i64 n, .int .i64 m] w fun e w' => e = .returned (.int .i64 (n % m)) ∧ Gn w w' := by
  have hr0 := Int.emod_nonneg n (show m ≠ 0 by omega)
  have hr1 := Int.emod_lt_of_pos n (show 0 < m by omega)
  have d1 : decide (m < 1) = false := by rw [decide_eq_false_iff_not]; omega
  have hm : ¬ m = 0 := by omega
  go_enter Try.func18, Try.ntmps18
  go_wp2
  all_goals first
    | omega
    | (go_ret; exact ⟨rfl, (by with_reducible (repeat (first | exact Gn.refl _ | refine Gn.gr ?_ _ | refine Gn.alloc ?_ _ | refine Gn.drew ?_)))⟩)
def whenV (ra ro no ha n : Int) : Int :=
  if n < 0 ∨ ro < n then -1 else if n ≤ ha then no else if ra = 0 then -1 else if 1099511627776 < no + ((n - ha - 1) / ra + 1) then -1 else no + ((n - ha - 1) / ra + 1)
theorem when_nil (n : Int) (w : World) : Calls Try.prog 10 #[.pointer none, .int .i64 n] w fun e w' => e = .returned (.int .i64 (-1)) ∧ Gn w w' := by
  go_enter Try.func10, Try.ntmps10
  go_wp2_with (first | (go_at_call 17; refine (given_nil _).mono ?_; rintro y w' ⟨rfl, q, rfl⟩))
  go_ret
  exact ⟨rfl, (by with_reducible (repeat (first | exact Gn.refl _ | refine Gn.gr ?_ _ | refine Gn.alloc ?_ _ | refine Gn.drew ?_)))⟩
theorem up_div (x r : Int) (hr : 0 < r) : (x + r - x % r) / r = x / r + 1 := by
  have h := Int.mul_ediv_add_emod x r
  have e : x + r - x % r = (x / r + 1) * r := by rw [Int.add_mul, Int.mul_comm]; omega
  rw [e, Int.mul_ediv_cancel _ (by omega)]

set_option maxHeartbeats 4000000 in
set_option maxRecDepth 100000 in
theorem when_is (tb : Nat) (ra ro no ha n : Int) (w : World) (h : BB w tb true ra ro no ha) (h0 : 0 ≤ no ∧ no ≤ 1099511627776) (h2 : 0 ≤ ra ∧ ra ≤ 1048576) (h3 : 0 ≤ ro ∧ ro ≤ 1048576) (h4 : 0 ≤ ha ∧ ha ≤ ro) :
    Calls Try.prog 10 #[.pointer (some ⟨tb, 0, none⟩), .int .i64 n] w fun e w' => e = .returned (.int .i64 (whenV ra ro no ha n)) ∧ Gn w w' := by
  obtain ⟨tl, ⟨c0, c1, c2, c3, c4⟩, f3, f4⟩ := h.facts
  have H : Hid _ := h
  clear h
  by_cases b1 : n < 0
  · have d1 : decide (n < 0) = true := by rw [decide_eq_true_eq]; omega
    have e : whenV ra ro no ha n = -1 := by unfold whenV; rw [if_pos (by omega)]
    rw [e]
    go_enter Try.func10, Try.ntmps10
    go_wp2_with (first | (go_at_call 17; refine (given_is tb _ ra ro no ha _ (BB.grown H.out (by with_reducible (repeat (first | exact Gn.refl _ | refine Gn.gr ?_ _ | refine Gn.alloc ?_ _ | refine Gn.drew ?_))))).mono ?_; rintro y wq ⟨rfl, q, rfl⟩))
    all_goals first
      | omega
      | (go_ret; exact ⟨rfl, (by with_reducible (repeat (first | exact Gn.refl _ | refine Gn.gr ?_ _ | refine Gn.alloc ?_ _ | refine Gn.drew ?_)))⟩)
  have d1 : decide (n < 0) = false := by rw [decide_eq_false_iff_not]; omega
  by_cases b2 : ro < n
  · have d2 : decide (ro < n) = true := by rw [decide_eq_true_eq]; omega
    have e : whenV ra ro no ha n = -1 := by unfold whenV; rw [if_pos (by omega)]
    rw [e]
    go_enter Try.func10, Try.ntmps10
    go_wp2_with (first | (go_at_call 17; refine (given_is tb _ ra ro no ha _ (BB.grown H.out (by with_reducible (repeat (first | exact Gn.refl _ | refine Gn.gr ?_ _ | refine Gn.alloc ?_ _ | refine Gn.drew ?_))))).mono ?_; rintro y wq ⟨rfl, q, rfl⟩))
    all_goals first
      | omega
      | (go_ret; exact ⟨rfl, (by with_reducible (repeat (first | exact Gn.refl _ | refine Gn.gr ?_ _ | refine Gn.alloc ?_ _ | refine Gn.drew ?_)))⟩)
  have d2 : decide (ro < n) = false := by rw [decide_eq_false_iff_not]; omega
  by_cases b3 : n ≤ ha
  · have e : whenV ra ro no ha n = no := by unfold whenV; rw [if_neg (by omega), if_pos b3]
    rw [e]
    have hmx : max 0 (n - ha) = 0 := by omega
    go_enter Try.func10, Try.ntmps10
    go_wp2_with (first | (go_at_call 17; refine (given_is tb _ ra ro no ha _ (BB.grown H.out (by with_reducible (repeat (first | exact Gn.refl _ | refine Gn.gr ?_ _ | refine Gn.alloc ?_ _ | refine Gn.drew ?_))))).mono ?_; rintro y wq ⟨rfl, q, rfl⟩))
    all_goals first
      | omega
      | (go_ret; exact ⟨rfl, (by with_reducible (repeat (first | exact Gn.refl _ | refine Gn.gr ?_ _ | refine Gn.alloc ?_ _ | refine Gn.drew ?_)))⟩)
  have hmx : max 0 (n - ha) = n - ha := by omega
  by_cases b4 : ra = 0
  · have e : whenV ra ro no ha n = -1 := by unfold whenV; rw [if_neg (by omega), if_neg b3, if_pos b4]
    rw [e]
    have db : (ra == 0) = true := by rw [b4]; rfl
    have dz : (n - ha == 0) = false := by rw [beq_eq_false_iff_ne]; omega
    go_enter Try.func10, Try.ntmps10
    go_wp2_with (first | (go_at_call 17; refine (given_is tb _ ra ro no ha _ (BB.grown H.out (by with_reducible (repeat (first | exact Gn.refl _ | refine Gn.gr ?_ _ | refine Gn.alloc ?_ _ | refine Gn.drew ?_))))).mono ?_; rintro y wq ⟨rfl, q, rfl⟩))
    all_goals first
      | omega
      | (go_ret; exact ⟨rfl, (by with_reducible (repeat (first | exact Gn.refl _ | refine Gn.gr ?_ _ | refine Gn.alloc ?_ _ | refine Gn.drew ?_)))⟩)
  have dz : (n - ha == 0) = false := by rw [beq_eq_false_iff_ne]; omega
  have dr : (ra == 0) = false := by rw [beq_eq_false_iff_ne]; omega
  obtain ⟨r, hr⟩ : ∃ r, (n - ha - 1) % ra = r := ⟨_, rfl⟩
  obtain ⟨dq, hdq⟩ : ∃ dq, (n - ha - 1) / ra = dq := ⟨_, rfl⟩
  have hr0 := Int.emod_nonneg (n - ha - 1) b4
  have hr1 := Int.emod_lt_of_pos (n - ha - 1) (show 0 < ra by omega)
  have hq0 : 0 ≤ (n - ha - 1) / ra := Int.ediv_nonneg (by omega) (by omega)
  have hq1 : (n - ha - 1) / ra ≤ n - ha - 1 := Int.ediv_le_self _ (by omega)
  have hup := up_div (n - ha - 1) ra (by omega)
  rw [hr] at hr0 hr1 hup
  rw [hdq] at hq0 hq1 hup
  have hup2 : (n - ha + ra - 1 - r) / ra = dq + 1 := by rw [← hup]; congr 1; omega
  have HRD : Hid (∀ w', _) := fun w' => round_is (n - ha - 1) ra w' ⟨by omega, by omega⟩ ⟨by omega, by omega⟩
  rw [hr] at HRD
  go_enter Try.func10, Try.ntmps10
  go_wp2_with (first | (go_at_call 17; refine (given_is tb _ ra ro no ha _ (BB.grown H.out (by with_reducible (repeat (first | exact Gn.refl _ | refine Gn.gr ?_ _ | refine Gn.alloc ?_ _ | refine Gn.drew ?_))))).mono ?_; rintro y wq ⟨rfl, q, rfl⟩))
  refine wp_region_gr (by kernel_rfl) (by kernel_rfl) ?_
  repeat (go_big_quiet_step (first | (go_at_call 18; exact Calls.in_gr2 (HRD.out _))))
  refine wpQuiet_nil ?_
  rintro _ ⟨q4, rfl⟩
  by_cases b5 : 1099511627776 < no + (dq + 1)
  · have e : whenV ra ro no ha n = -1 := by unfold whenV; rw [if_neg (by omega), if_neg (show ¬ n ≤ ha by omega), if_neg b4, hdq, if_pos b5]
    rw [hup2]
    go_wp2
    all_goals first
      | omega
      | (go_ret; exact ⟨int_ret e.symm, (by with_reducible (repeat (first | exact Gn.refl _ | refine Gn.gr ?_ _ | refine Gn.alloc ?_ _ | refine Gn.drew ?_)))⟩)
      | (go_ret; exact ⟨rfl, (by with_reducible (repeat (first | exact Gn.refl _ | refine Gn.gr ?_ _ | refine Gn.alloc ?_ _ | refine Gn.drew ?_)))⟩)
  · have e : whenV ra ro no ha n = no + (dq + 1) := by unfold whenV; rw [if_neg (by omega), if_neg (show ¬ n ≤ ha by omega), if_neg b4, hdq, if_neg b5]
    rw [hup2]
    go_wp2
    all_goals first
      | omega
      | (go_ret; exact ⟨int_ret e.symm, (by with_reducible (repeat (first | exact Gn.refl _ | refine Gn.gr ?_ _ | refine Gn.alloc ?_ _ | refine Gn.drew ?_)))⟩)
      | (go_ret; exact ⟨rfl, (by with_reducible (repeat (first | exact Gn.refl _ | refine Gn.gr ?_ _ | refine Gn.alloc ?_ _ | refine Gn.drew ?_)))⟩)
end Go.Proofs.Ytbkbfibmnolfmaa
