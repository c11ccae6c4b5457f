/- What Step, the reference's functions, Same, Signbit, NaN and Inf return, for all words. -/
import Derived.Test.YthgcdoiodeagcaaFnsA
namespace Go.Proofs.Ythgcdoiodeagcaa
open Go.RowKit

def lessB (a b : Nat) : Bool := decide (key a < key b)
theorem less_eq {a b : Nat} (ha : a < 18446744073709551616) (hb : b < 18446744073709551616) : lessB a b = (!nan a && (nan b || decide (sr a < sr b))) := by
  unfold lessB
  cases na : nan a
  · cases nb : nan b
    · simp only [Bool.not_false, Bool.true_and, Bool.false_or]
      rw [Bool.eq_iff_iff, decide_eq_true_eq, decide_eq_true_eq]
      exact key_lt_num ha hb na nb
    · simp only [Bool.not_false, Bool.true_and, Bool.true_or]
      exact decide_eq_true (key_lt_nan ha na nb)
  · have := key_le hb
    rw [key_nan na]
    simp only [Bool.not_true, Bool.false_and]
    exact decide_eq_false (by omega)

section
variable (w : World)
theorem less_any (a b : Nat) (ha : a < 18446744073709551616) (hb : b < 18446744073709551616) : Calls Try.prog 6 #[.float .f64 a, .float .f64 b] w fun e w' => e = .returned (.bool (lessB a b)) ∧ w = w' := by
  go_enter Try.func6, Try.ntmps6
  go_wp2_with (go_at_call 7; refine (key_any _ _ (by assumption)).mono ?_; rintro e w' ⟨rfl, rfl⟩)
  go_ret
  exact ⟨rfl, rfl⟩
theorem rless_any (a b : Nat) (ha : a < 18446744073709551616) (hb : b < 18446744073709551616) : Calls Try.prog 18 #[.float .f64 a, .float .f64 b] w fun e w' => e = .returned (.bool (lessB a b)) ∧ w = w' := by
  rw [less_eq ha hb]
  have q1 := q_nself a
  have q2 := q_nself b
  have q3 := q_lt a b
  cases na : nan a
  · rw [na] at q1 q3
    cases nb : nan b
    · rw [nb] at q2 q3
      simp only [Bool.not_false, Bool.true_and, Bool.false_or] at q3 ⊢
      cases hd : decide (sr a < sr b)
      all_goals
        rw [hd] at q3
        clear hd
        go_enter Try.func18, Try.ntmps18
        go_wp2
        go_ret
        exact ⟨rfl, rfl⟩
    · rw [nb] at q2
      simp only [Bool.not_false, Bool.true_and, Bool.true_or]
      clear q3
      go_enter Try.func18, Try.ntmps18
      go_wp2
      go_ret
      exact ⟨rfl, rfl⟩
  · rw [na] at q1
    simp only [Bool.not_true, Bool.false_and]
    clear q3
    go_enter Try.func18, Try.ntmps18
    go_wp2
    go_ret
    exact ⟨rfl, rfl⟩
theorem rkey_any (x : Nat) (h : x < 18446744073709551616) : Calls Try.prog 19 #[.float .f64 x] w fun e w' => e = .returned (.int .u64 (key x : Int)) ∧ w = w' := by
  have q0 := q_zero x
  have q1 := q_nself x
  have q3 := q_lt x 0
  rw [show nan 0 = false by decide, show sr 0 = 0 by decide] at q3
  have h2 := run_bits x
  unfold key
  cases hn : nan x
  · rw [hn] at q0 q1 q3
    simp only [Bool.not_false, Bool.true_and] at q0 q3
    simp only [Bool.false_eq_true, if_false]
    by_cases h0 : sr x = 0
    · rw [if_pos h0]
      rw [decide_eq_true h0] at q0
      clear q3 h2 h0
      go_enter Try.func19, Try.ntmps19
      go_wp2
      go_ret
      exact ⟨rfl, rfl⟩
    · rw [if_neg h0]
      rw [decide_eq_false h0] at q0
      rcases neg_rung h with ⟨a, b⟩ | ⟨a, b⟩
      · rw [a]
        simp only [if_true]
        have := sr_neg a
        rw [decide_eq_true (by omega)] at q3
        clear b h0 this
        go_enter Try.func19, Try.ntmps19
        go_wp2
        go_ret
        exact ⟨int_ret (by omega), rfl⟩
      · have hl : x < 9223372036854775808 := by have := rung_lt x; omega
        rw [a]
        simp only [Bool.false_eq_true, if_false]
        have := sr_pos a
        rw [decide_eq_false (by omega)] at q3
        clear b h0 this
        go_enter Try.func19, Try.ntmps19
        go_wp2
        go_ret
        exact ⟨int_ret (by omega), rfl⟩
  · rw [hn] at q1
    simp only [if_true]
    clear q0 q3 h2
    go_enter Try.func19, Try.ntmps19
    go_wp2
    go_ret
    exact ⟨rfl, rfl⟩
theorem same_self (x : Nat) (hn : nan x = false) : Calls Try.prog 13 #[.float .f64 x, .float .f64 x] w fun e w' => e = .returned (.bool true) ∧ w = w' := by
  have q1 := q_nself x
  rw [hn] at q1
  have h2 := run_bits x
  go_enter Try.func13, Try.ntmps13
  go_wp2
  go_ret
  exact ⟨rfl, rfl⟩
theorem signbit_zero (_h : True) : Calls Try.prog 12 #[.float .f64 0] w fun e w' => e = .returned (.bool false) ∧ w = w' := by
  have h2 : ∀ w, (callFunc 25 #[.float .f64 0]).run Try.prog w = .ok (.value (.int .u64 0)) w := run_bits 0
  go_enter Try.func12, Try.ntmps12
  go_wp2
  go_ret
  exact ⟨rfl, rfl⟩
theorem nan_any : Calls Try.prog 8 #[] w fun e w' => e = .returned (.float .f64 9221120237041090561) ∧ w = w' := by
  have h2 : ∀ w, (callFunc 26 #[.int .u64 9221120237041090561]).run Try.prog w = .ok (.value (.float .f64 9221120237041090561)) w := run_from 9221120237041090561
  go_enter Try.func8, Try.ntmps8
  go_wp2
  go_ret
  exact ⟨rfl, rfl⟩
theorem inf_pos : Calls Try.prog 27 #[.int .i64 1] w fun e w' => e = .returned (.float .f64 9218868437227405312) ∧ w = w' := by
  have h2 : ∀ w, (callFunc 26 #[.int .u64 9218868437227405312]).run Try.prog w = .ok (.value (.float .f64 9218868437227405312)) w := run_from 9218868437227405312
  go_enter Try.func27, Try.ntmps27
  go_wp2
  go_ret
  exact ⟨rfl, rfl⟩
theorem inf_neg : Calls Try.prog 27 #[.int .i64 (-1)] w fun e w' => e = .returned (.float .f64 18442240474082181120) ∧ w = w' := by
  have h2 : ∀ w, (callFunc 26 #[.int .u64 18442240474082181120]).run Try.prog w = .ok (.value (.float .f64 18442240474082181120)) w := run_from 18442240474082181120
  go_enter Try.func27, Try.ntmps27
  go_wp2
  go_ret
  exact ⟨rfl, rfl⟩

theorem run_max0 (ts : Array TypeId) (t : TypeId) {x : Nat} (h : Cln x) (w : World) : (Builtin.max_ ts t #[.float .f64 x, .float .f64 0]).run Try.prog w = .ok (.float .f64 (if sr x < 0 then 0 else x)) w := by
  have ho := ord_def x 0
  rw [nan_of_cln h, show nan 0 = false by decide, show sr 0 = 0 by decide] at ho
  simp only [Bool.false_eq_true, if_false] at ho
  rcases Int.lt_trichotomy (sr x) 0 with h1 | h1 | h1
  · rw [Int.compare_eq_lt.2 h1] at ho
    rw [if_pos h1]
    simp [Builtin.max_, Builtin.max2, ho]
  · have hz := sr_zero h h1
    subst hz
    rw [Int.compare_eq_eq.2 h1] at ho
    simp [Builtin.max_, Builtin.max2, ho]
  · rw [Int.compare_eq_gt.2 h1] at ho
    rw [if_neg (by omega)]
    simp [Builtin.max_, Builtin.max2, ho]
theorem run_min1 (ts : Array TypeId) (t : TypeId) {x : Nat} (h : Cln x) (w : World) : (Builtin.min_ ts t #[.float .f64 x, .float .f64 4607182418800017408]).run Try.prog w = .ok (.float .f64 (if 4607182418800017408 < sr x then 4607182418800017408 else x)) w := by
  have ho := ord_def x 4607182418800017408
  rw [nan_of_cln h, show nan 4607182418800017408 = false by decide, show sr 4607182418800017408 = 4607182418800017408 by decide] at ho
  simp only [Bool.false_eq_true, if_false] at ho
  rcases Int.lt_trichotomy (sr x) 4607182418800017408 with h1 | h1 | h1
  · rw [Int.compare_eq_lt.2 h1] at ho
    rw [if_neg (by omega)]
    simp [Builtin.min_, Builtin.min2, ho]
  · have hz : x = 4607182418800017408 := sr_inj h.lt (by decide) (by rw [h1]; decide) (by decide)
    subst hz
    rw [Int.compare_eq_eq.2 h1] at ho
    simp [Builtin.min_, Builtin.min2, ho]
  · rw [Int.compare_eq_gt.2 h1] at ho
    rw [if_pos h1]
    simp [Builtin.min_, Builtin.min2, ho]
theorem held_any (s : Nat) (h : s < 18446744073709551616) : Calls Try.prog 30 #[.float .f64 s] w fun e w' => e = .returned (.float .f64 (heldV s)) ∧ w = w' := by
  have hc := cl_cln h
  have m0 := fun ts t => run_max0 ts t hc
  unfold heldV
  by_cases h1 : sr (cl s) < 0
  · simp only [if_pos h1] at m0 ⊢
    have m1 : ∀ ts t (w : World), (Builtin.min_ ts t #[.float .f64 0, .float .f64 4607182418800017408]).run Try.prog w = .ok (.float .f64 0) w := fun ts t w => by
      rw [run_min1 ts t cln0 w]; rfl
    clear h1
    go_enter Try.func30, Try.ntmps30
    go_wp2_with (go_at_call 10; refine (clean_any _ _ h).mono ?_; rintro e w' ⟨rfl, rfl⟩)
    go_ret
    exact ⟨rfl, rfl⟩
  · simp only [if_neg h1] at m0 ⊢
    have m1 := fun ts t => run_min1 ts t hc
    by_cases h2 : 4607182418800017408 < sr (cl s)
    · simp only [if_pos h2] at m1 ⊢
      clear h1 h2
      go_enter Try.func30, Try.ntmps30
      go_wp2_with (go_at_call 10; refine (clean_any _ _ h).mono ?_; rintro e w' ⟨rfl, rfl⟩)
      go_ret
      exact ⟨rfl, rfl⟩
    · simp only [if_neg h2] at m1 ⊢
      clear h1 h2
      go_enter Try.func30, Try.ntmps30
      go_wp2_with (go_at_call 10; refine (clean_any _ _ h).mono ?_; rintro e w' ⟨rfl, rfl⟩)
      go_ret
      exact ⟨rfl, rfl⟩

theorem f_sub {x y : Nat} (hx : Cln x) (hy : Cln y) (t : TypeId) (w : World) : (binOp .sub t (.float .f64 x) (.float .f64 y)).run Try.prog w = .ok (.float .f64 (subV x y)) w := run_float_arith w .sub t .f64 x y _ (sub_some hx hy).1
theorem f_add {x y : Nat} (hx : Cln x) (hy : Cln y) (t : TypeId) (w : World) : (binOp .add t (.float .f64 x) (.float .f64 y)).run Try.prog w = .ok (.float .f64 (addV x y)) w := run_float_arith w .add t .f64 x y _ (add_some hx hy).1
theorem f_mul {x y : Nat} (hx : Cln x) (hy : Cln y) (t : TypeId) (w : World) : (binOp .mul t (.float .f64 x) (.float .f64 y)).run Try.prog w = .ok (.float .f64 (mulV x y)) w := run_float_arith w .mul t .f64 x y _ (mul_some hx hy).1

theorem step_any (a x s : Nat) (ha : a < 18446744073709551616) (hx : x < 18446744073709551616) (hs : s < 18446744073709551616) :
    Calls Try.prog 11 #[.float .f64 a, .float .f64 x, .float .f64 s] w fun e w' => e = .returned (.float .f64 (step a x s)) ∧ w = w' := by
  unfold step
  cases nx : nan x
  · cases na : nan a
    · simp only [Bool.false_eq_true, if_false]
      have ca := cl_cln ha
      have cx := cl_cln hx
      have ch := held_cln s hs
      have e1 := f_sub cx ca
      have b1 := (sub_some cx ca).2.1
      have c1 := cl_cln b1
      have e2 := f_mul ch c1
      have b2 := (mul_some ch c1).2.1
      have c2 := cl_cln b2
      have e3 := f_add ca c2
      have b3 := (add_some ca c2).2.1
      clear ca cx ch c1 c2
      go_enter Try.func11, Try.ntmps11
      go_wp2_with (first | (go_at_call 24; refine (isnan_any _ _).mono ?_; rintro e w' ⟨rfl, rfl⟩) | (go_at_call 10; refine (clean_any _ _ (by assumption)).mono ?_; rintro e w' ⟨rfl, rfl⟩) | (go_at_call 30; refine (held_any _ _ (by assumption)).mono ?_; rintro e w' ⟨rfl, rfl⟩))
      go_ret
      exact ⟨rfl, rfl⟩
    · simp only [Bool.false_eq_true, if_false, if_true]
      go_enter Try.func11, Try.ntmps11
      go_wp2_with (first | (go_at_call 24; refine (isnan_any _ _).mono ?_; rintro e w' ⟨rfl, rfl⟩) | (go_at_call 10; refine (clean_any _ _ (by assumption)).mono ?_; rintro e w' ⟨rfl, rfl⟩))
      go_ret
      exact ⟨rfl, rfl⟩
  · simp only [if_true]
    go_enter Try.func11, Try.ntmps11
    go_wp2_with (first | (go_at_call 24; refine (isnan_any _ _).mono ?_; rintro e w' ⟨rfl, rfl⟩) | (go_at_call 10; refine (clean_any _ _ (by assumption)).mono ?_; rintro e w' ⟨rfl, rfl⟩))
    go_ret
    exact ⟨rfl, rfl⟩

theorem rstep_any (a x s : Nat) (ha : a < 18446744073709551616) (hx : x < 18446744073709551616) (hs : s < 18446744073709551616) :
    Calls Try.prog 15 #[.float .f64 a, .float .f64 x, .float .f64 s] w fun e w' => e = .returned (.float .f64 (step a x s)) ∧ w = w' := by
  have qx := q_nself x
  have qa := q_nself a
  have hc := cl_cln hs
  have q1 := q_lt (cl s) 0
  have q2 := q_gt (cl s) 4607182418800017408
  have q3 : (FloatKind.f64.format.order 0 4607182418800017408 == some .gt) = false := by kernel_rfl
  rw [show nan 0 = false by decide, show sr 0 = 0 by decide, nan_of_cln hc] at q1
  rw [show nan 4607182418800017408 = false by decide, show sr 4607182418800017408 = 4607182418800017408 by decide, nan_of_cln hc] at q2
  simp only [Bool.not_false, Bool.true_and] at q1 q2
  have hh : (decide (sr (cl s) < 0) = true ∧ heldV s = 0) ∨ (decide (sr (cl s) < 0) = false ∧ decide (4607182418800017408 < sr (cl s)) = true ∧ heldV s = 4607182418800017408) ∨ (decide (sr (cl s) < 0) = false ∧ decide (4607182418800017408 < sr (cl s)) = false ∧ heldV s = cl s) := by
    unfold heldV
    by_cases h1 : sr (cl s) < 0
    · exact .inl ⟨decide_eq_true h1, if_pos h1⟩
    · by_cases h2 : 4607182418800017408 < sr (cl s)
      · exact .inr (.inl ⟨decide_eq_false h1, decide_eq_true h2, by rw [if_neg h1, if_pos h2]⟩)
      · exact .inr (.inr ⟨decide_eq_false h1, decide_eq_false h2, by rw [if_neg h1, if_neg h2]⟩)
  unfold step
  have ca := cl_cln ha
  have cx := cl_cln hx
  have ch := held_cln s hs
  have e1 := f_sub cx ca
  have b1 := (sub_some cx ca).2.1
  have c1 := cl_cln b1
  have e2 := f_mul ch c1
  have b2 := (mul_some ch c1).2.1
  have c2 := cl_cln b2
  have e3 := f_add ca c2
  have b3 := (add_some ca c2).2.1
  clear ca cx ch c1 c2 hc
  rcases hh with ⟨h1, h3⟩ | ⟨h1, h2, h3⟩ | ⟨h1, h2, h3⟩
  · rw [h1] at q1
    rw [h3] at e2 b2 e3 b3 ⊢
    clear q2 h1 h3
    cases nx : nan x
    · rw [nx] at qx
      simp only [Bool.false_eq_true, if_false]
      cases na : nan a
      all_goals
        rw [na] at qa
        simp only [Bool.false_eq_true, if_false, if_true]
        clear nx na
        go_enter Try.func15, Try.ntmps15
        go_wp2_with (go_at_call 14; refine (rclean_any _ _).mono ?_; rintro e w' ⟨rfl, rfl⟩)
        go_ret
        exact ⟨rfl, rfl⟩
    · rw [nx] at qx
      simp only [if_true]
      clear nx
      go_enter Try.func15, Try.ntmps15
      go_wp2_with (go_at_call 14; refine (rclean_any _ _).mono ?_; rintro e w' ⟨rfl, rfl⟩)
      go_ret
      exact ⟨rfl, rfl⟩
  · rw [h1] at q1
    rw [h2] at q2
    rw [h3] at e2 b2 e3 b3 ⊢
    clear q3 h1 h2 h3
    cases nx : nan x
    · rw [nx] at qx
      simp only [Bool.false_eq_true, if_false]
      cases na : nan a
      all_goals
        rw [na] at qa
        simp only [Bool.false_eq_true, if_false, if_true]
        clear nx na
        go_enter Try.func15, Try.ntmps15
        go_wp2_with (go_at_call 14; refine (rclean_any _ _).mono ?_; rintro e w' ⟨rfl, rfl⟩)
        go_ret
        exact ⟨rfl, rfl⟩
    · rw [nx] at qx
      simp only [if_true]
      clear nx
      go_enter Try.func15, Try.ntmps15
      go_wp2_with (go_at_call 14; refine (rclean_any _ _).mono ?_; rintro e w' ⟨rfl, rfl⟩)
      go_ret
      exact ⟨rfl, rfl⟩
  · rw [h1] at q1
    rw [h2] at q2
    rw [h3] at e2 b2 e3 b3 ⊢
    clear q3 h1 h2 h3
    cases nx : nan x
    · rw [nx] at qx
      simp only [Bool.false_eq_true, if_false]
      cases na : nan a
      all_goals
        rw [na] at qa
        simp only [Bool.false_eq_true, if_false, if_true]
        clear nx na
        go_enter Try.func15, Try.ntmps15
        go_wp2_with (go_at_call 14; refine (rclean_any _ _).mono ?_; rintro e w' ⟨rfl, rfl⟩)
        go_ret
        exact ⟨rfl, rfl⟩
    · rw [nx] at qx
      simp only [if_true]
      clear nx
      go_enter Try.func15, Try.ntmps15
      go_wp2_with (go_at_call 14; refine (rclean_any _ _).mono ?_; rintro e w' ⟨rfl, rfl⟩)
      go_ret
      exact ⟨rfl, rfl⟩
end
end Go.Proofs.Ythgcdoiodeagcaa
