/- What Less, Key, Clean and Go's functions under them return, for all words. -/
import Derived.Test.YthgcdoiodeagcaaF2
import Derived.Test.YthgcdoiodeagcaaGr
import Derived.WalkLawsBesides
import Derived.Outline
import Derived.Laws.BitsAllLaws
namespace Go.Proofs.Ythgcdoiodeagcaa
open Go.RowKit

theorem ord_def (x y : Nat) : FloatKind.f64.format.order x y = if nan x then none else if nan y then none else some (compare (sr x) (sr y)) := by
  show Ieee.double.order x y = _
  cases hx : nan x
  · cases hy : nan y
    · simp only [Bool.false_eq_true, if_false]; exact order_num hx hy
    · simp only [Bool.false_eq_true, if_false, if_true]; exact order_nan_r x hy
  · simp only [if_true]; exact order_nan_l y hx
theorem q_eq (x y : Nat) : (FloatKind.f64.format.order x y == some .eq) = (!nan x && (!nan y && decide (sr x = sr y))) := by
  rw [ord_def]
  cases nan x <;> cases nan y <;> simp
  rw [Bool.eq_iff_iff]; simp
theorem q_ne (x y : Nat) : (FloatKind.f64.format.order x y != some .eq) = !(!nan x && (!nan y && decide (sr x = sr y))) := by
  show (!(FloatKind.f64.format.order x y == some .eq)) = _
  rw [q_eq]
theorem q_lt (x y : Nat) : (FloatKind.f64.format.order x y == some .lt) = (!nan x && (!nan y && decide (sr x < sr y))) := by
  rw [ord_def]
  cases nan x <;> cases nan y <;> simp
  rw [Bool.eq_iff_iff]; simp [Int.compare_eq_lt]
theorem q_gt (x y : Nat) : (FloatKind.f64.format.order x y == some .gt) = (!nan x && (!nan y && decide (sr y < sr x))) := by
  rw [ord_def]
  cases nan x <;> cases nan y <;> simp
  rw [Bool.eq_iff_iff]; simp [Int.compare_eq_gt]
theorem q_self (x : Nat) : (FloatKind.f64.format.order x x == some .eq) = !nan x := by rw [q_eq]; cases nan x <;> simp
theorem q_nself (x : Nat) : (FloatKind.f64.format.order x x != some .eq) = nan x := by rw [q_ne]; cases nan x <;> simp

theorem run_bits (b : Nat) (w : World) : (callFunc 25 #[.float .f64 b]).run Try.prog w = .ok (.value (.int .u64 (b : Int))) w := by
  rw [run_callFunc_extern (P := Try.prog) (f := 25) (e := Extern.MathFloatBits.float64bits) Try.func25 (by kernel_rfl) (by kernel_rfl) (by kernel_rfl) (by kernel_rfl)]
  rfl
theorem run_from (n : Int) (w : World) : (callFunc 26 #[.int .u64 n]).run Try.prog w = .ok (.value (.float .f64 n.toNat)) w := by
  rw [run_callFunc_extern (P := Try.prog) (f := 26) (e := Extern.MathFloatBits.float64frombits) Try.func26 (by kernel_rfl) (by kernel_rfl) (by kernel_rfl) (by kernel_rfl)]
  rfl

theorem and63 (x : Nat) : x &&& 9223372036854775808 = if x / 9223372036854775808 % 2 = 1 then 9223372036854775808 else 0 := by
  apply Nat.eq_of_testBit_eq
  intro i
  rw [Nat.testBit_and, show (9223372036854775808 : Nat) = 2 ^ 63 from rfl, Nat.testBit_two_pow]
  by_cases hi : 63 = i
  · subst hi
    rw [Nat.testBit_eq_decide_div_mod_eq]
    by_cases h1 : x / 2 ^ 63 % 2 = 1
    · rw [if_pos h1, Nat.testBit_two_pow]; simp [h1]
    · rw [if_neg h1]; simp [h1]
  · have : decide (63 = i) = false := by simp [hi]
    rw [this, Bool.and_false]
    split
    · rw [Nat.testBit_two_pow, this]
    · simp
theorem and_sign {x : Nat} (h : x < 18446744073709551616) : bits .and .u64 (x : Int) 9223372036854775808 = if neg x then 9223372036854775808 else 0 := by
  rw [show (9223372036854775808 : Int) = ((9223372036854775808 : Nat) : Int) from rfl, u64_and_nat _ _ h (by omega), and63]
  unfold neg
  by_cases h1 : x / 9223372036854775808 % 2 = 1
  · rw [if_pos h1, h1]; rfl
  · have h0 : x / 9223372036854775808 % 2 = 0 := by omega
    rw [if_neg h1, h0]; rfl
theorem not_word {x : Nat} (h : x < 18446744073709551616) : bits .xor .u64 IntKind.u64.max (x : Int) = ((18446744073709551615 - x : Nat) : Int) := by
  show IntKind.u64.wrap ((BitVec.ofInt 64 IntKind.u64.max ^^^ BitVec.ofInt 64 (x : Int)).toNat : Int) = _
  have e : BitVec.ofInt 64 IntKind.u64.max = BitVec.allOnes 64 := by decide
  rw [e, BitVec.allOnes_xor, BitVec.toNat_not, ofInt_u64 x h, IntKind.wrap_u64]
  omega
theorem or_sign {x : Nat} (h : x < 9223372036854775808) : bits .or .u64 (x : Int) 9223372036854775808 = (x : Int) + 9223372036854775808 := by
  rw [show (9223372036854775808 : Int) = ((9223372036854775808 : Nat) : Int) from rfl, u64_or_nat _ _ (by omega) (by omega), Nat.or_comm, nat_join 63 _ _ rfl h]
  omega
theorem cut_sign {x : Nat} (h : x < 18446744073709551616) : bits .andNot .u64 (x : Int) 9223372036854775808 = (rung x : Int) := by
  rw [show (9223372036854775808 : Int) = ((9223372036854775808 : Nat) : Int) from rfl, u64_andNot_nat _ _ h (by omega)]
  show ((x &&& (2 ^ 63 - 1) : Nat) : Int) = _
  rw [Nat.and_two_pow_sub_one_eq_mod]; rfl

section
variable (w : World)
theorem isnan_any (x : Nat) : Calls Try.prog 24 #[.float .f64 x] w fun e w' => e = .returned (.bool (nan x)) ∧ w = w' := by
  have h1 := q_nself x
  go_enter Try.func24, Try.ntmps24
  go_wp2
  go_ret
  exact ⟨rfl, rfl⟩
theorem abs_any (x : Nat) (h : x < 18446744073709551616) : Calls Try.prog 31 #[.float .f64 x] w fun e w' => e = .returned (.float .f64 (rung x)) ∧ w = w' := by
  have h1 := cut_sign h
  have h2 := run_bits x
  have h3 := run_from (rung x)
  go_enter Try.func31, Try.ntmps31
  go_wp2
  go_ret
  exact ⟨by simp, rfl⟩
def infB (x : Nat) : Bool := decide (rung x = 9218868437227405312)
theorem isinf_any (x : Nat) (h : x < 18446744073709551616) : Calls Try.prog 28 #[.float .f64 x, .int .i64 0] w fun e w' => e = .returned (.bool (infB x)) ∧ w = w' := by
  have h1 : (FloatKind.f64.format.order (rung x) 9218868437227405311 == some .gt) = infB x := by
    rw [q_gt]
    have a : rung (rung x) = rung x := by unfold rung; omega
    have b : neg (rung x) = false := by unfold neg rung; simp
    have c : nan (rung x) = nan x := by unfold nan; rw [a]
    rw [c, sr_pos b, a, show sr 9218868437227405311 = 9218868437227405311 by decide, show nan 9218868437227405311 = false by decide]
    unfold infB
    cases hn : nan x
    · have := nan_iff.1 hn
      simp only [Bool.not_false, Bool.true_and]
      rw [Bool.eq_iff_iff, decide_eq_true_eq, decide_eq_true_eq]; omega
    · have : rung x ≠ 9218868437227405312 := by unfold nan at hn; have := of_decide_eq_true hn; omega
      simp [this]
  go_enter Try.func28, Try.ntmps28
  go_wp2_with (go_at_call 31; refine (abs_any _ _ h).mono ?_; rintro e w' ⟨rfl, rfl⟩)
  go_ret
  exact ⟨rfl, rfl⟩
theorem copysign_any (x : Nat) (h : x < 18446744073709551616) : Calls Try.prog 29 #[.float .f64 9218868437227405311, .float .f64 x] w fun e w' => e = .returned (.float .f64 (if neg x then 18442240474082181119 else 9218868437227405311)) ∧ w = w' := by
  have h1 : bits .andNot .u64 9218868437227405311 9223372036854775808 = 9218868437227405311 := cut_sign (x := 9218868437227405311) (by decide)
  have h2 := run_bits x
  have h2' : ∀ w, (callFunc 25 #[.float .f64 9218868437227405311]).run Try.prog w = .ok (.value (.int .u64 9218868437227405311)) w := run_bits 9218868437227405311
  have h4 := and_sign h
  cases hn : neg x
  · rw [hn] at h4
    simp only [Bool.false_eq_true, if_false] at h4 ⊢
    have h3 := run_from 9218868437227405311
    have h5 : bits .or .u64 9218868437227405311 0 = 9218868437227405311 := by decide +kernel
    go_enter Try.func29, Try.ntmps29
    go_wp2
    go_ret
    exact ⟨rfl, rfl⟩
  · rw [hn] at h4
    simp only [if_true] at h4 ⊢
    have h3 := run_from 18442240474082181119
    have h5 : bits .or .u64 9218868437227405311 9223372036854775808 = 18442240474082181119 := by decide +kernel
    go_enter Try.func29, Try.ntmps29
    go_wp2
    go_ret
    exact ⟨rfl, rfl⟩
theorem q_zero (x : Nat) : (FloatKind.f64.format.order x 0 == some .eq) = (!nan x && decide (sr x = 0)) := by
  rw [q_eq, show nan 0 = false by decide, show sr 0 = 0 by decide]; simp
theorem q_gtmax (x : Nat) : (FloatKind.f64.format.order x 9218868437227405311 == some .gt) = (!nan x && decide (sr x = 9218868437227405312)) := by
  rw [q_gt, show nan 9218868437227405311 = false by decide, show sr 9218868437227405311 = 9218868437227405311 by decide]
  cases hn : nan x
  · have := sr_bd2 hn
    simp only [Bool.not_false, Bool.true_and]
    rw [Bool.eq_iff_iff, decide_eq_true_eq, decide_eq_true_eq]; omega
  · rfl
theorem q_ltmin (x : Nat) : (FloatKind.f64.format.order x 18442240474082181119 == some .lt) = (!nan x && decide (sr x = -9218868437227405312)) := by
  rw [q_lt, show nan 18442240474082181119 = false by decide, show sr 18442240474082181119 = -9218868437227405311 by decide]
  cases hn : nan x
  · have := sr_bd2 hn
    simp only [Bool.not_false, Bool.true_and]
    rw [Bool.eq_iff_iff, decide_eq_true_eq, decide_eq_true_eq]; omega
  · rfl
theorem inf_sr {x : Nat} (h : x < 18446744073709551616) : infB x = (decide (sr x = 9218868437227405312) || decide (sr x = -9218868437227405312)) := by
  unfold infB
  rw [Bool.eq_iff_iff, Bool.or_eq_true, decide_eq_true_eq, decide_eq_true_eq, decide_eq_true_eq]
  have hr := rung_lt x
  rcases neg_rung h with ⟨a, _⟩ | ⟨a, _⟩
  · rw [sr_neg a]; omega
  · rw [sr_pos a]; omega

theorem clean_any (x : Nat) (h : x < 18446744073709551616) : Calls Try.prog 10 #[.float .f64 x] w fun e w' => e = .returned (.float .f64 (cl x)) ∧ w = w' := by
  have q0 := q_zero x
  have hi := inf_sr h
  unfold cl
  cases hn : nan x
  · rw [hn] at q0
    simp only [Bool.not_false, Bool.true_and] at q0
    simp only [Bool.false_eq_true, if_false]
    by_cases h0 : sr x = 0
    · rw [if_pos h0]
      rw [decide_eq_true h0] at q0
      go_enter Try.func10, Try.ntmps10
      go_wp2_with (go_at_call 24; refine (isnan_any _ _).mono ?_; rintro e w' ⟨rfl, rfl⟩)
      go_ret
      exact ⟨rfl, rfl⟩
    · rw [if_neg h0]
      rw [decide_eq_false h0] at q0
      by_cases h1 : sr x = 9218868437227405312
      · rw [if_pos h1]
        rw [decide_eq_true h1, Bool.true_or] at hi
        have hg := pos_of_sr h (by omega)
        clear h0 h1
        go_enter Try.func10, Try.ntmps10
        go_wp2_with (first | (go_at_call 24; refine (isnan_any _ _).mono ?_; rintro e w' ⟨rfl, rfl⟩) | (go_at_call 28; refine (isinf_any _ _ h).mono ?_; rintro e w' ⟨rfl, rfl⟩) | (go_at_call 29; refine (copysign_any _ _ h).mono ?_; rintro e w' ⟨rfl, rfl⟩))
        go_ret
        exact ⟨rfl, rfl⟩
      · rw [if_neg h1]
        by_cases h2 : sr x = -9218868437227405312
        · rw [if_pos h2]
          rw [decide_eq_true h2, Bool.or_true] at hi
          have hg := neg_of_sr h (by omega)
          clear h0 h1 h2
          go_enter Try.func10, Try.ntmps10
          go_wp2_with (first | (go_at_call 24; refine (isnan_any _ _).mono ?_; rintro e w' ⟨rfl, rfl⟩) | (go_at_call 28; refine (isinf_any _ _ h).mono ?_; rintro e w' ⟨rfl, rfl⟩) | (go_at_call 29; refine (copysign_any _ _ h).mono ?_; rintro e w' ⟨rfl, rfl⟩))
          go_ret
          exact ⟨rfl, rfl⟩
        · rw [if_neg h2]
          rw [decide_eq_false h1, decide_eq_false h2, Bool.or_false] at hi
          clear h0 h1 h2
          go_enter Try.func10, Try.ntmps10
          go_wp2_with (first | (go_at_call 24; refine (isnan_any _ _).mono ?_; rintro e w' ⟨rfl, rfl⟩) | (go_at_call 28; refine (isinf_any _ _ h).mono ?_; rintro e w' ⟨rfl, rfl⟩))
          go_ret
          exact ⟨rfl, rfl⟩
  · simp only [if_true]
    clear hi q0
    go_enter Try.func10, Try.ntmps10
    go_wp2_with (go_at_call 24; refine (isnan_any _ _).mono ?_; rintro e w' ⟨rfl, rfl⟩)
    go_ret
    exact ⟨rfl, rfl⟩

theorem rclean_any (x : Nat) : Calls Try.prog 14 #[.float .f64 x] w fun e w' => e = .returned (.float .f64 (cl x)) ∧ w = w' := by
  have q0 := q_zero x
  have q1 := q_nself x
  have q2 := q_gtmax x
  have q3 := q_ltmin x
  unfold cl
  cases hn : nan x
  · rw [hn] at q0 q1 q2 q3
    simp only [Bool.not_false, Bool.true_and] at q0 q1 q2 q3
    simp only [Bool.false_eq_true, if_false]
    by_cases h0 : sr x = 0
    · rw [if_pos h0]
      rw [decide_eq_true h0] at q0
      clear q2 q3
      go_enter Try.func14, Try.ntmps14
      go_wp2
      go_ret
      exact ⟨rfl, rfl⟩
    · rw [if_neg h0]
      rw [decide_eq_false h0] at q0
      by_cases h1 : sr x = 9218868437227405312
      · rw [if_pos h1]
        rw [decide_eq_true h1] at q2
        clear h0 h1 q3
        go_enter Try.func14, Try.ntmps14
        go_wp2
        go_ret
        exact ⟨rfl, rfl⟩
      · rw [if_neg h1]
        rw [decide_eq_false h1] at q2
        by_cases h2 : sr x = -9218868437227405312
        · rw [if_pos h2]
          rw [decide_eq_true h2] at q3
          clear h0 h1 h2
          go_enter Try.func14, Try.ntmps14
          go_wp2
          go_ret
          exact ⟨rfl, rfl⟩
        · rw [if_neg h2]
          rw [decide_eq_false h2] at q3
          clear h0 h1 h2
          go_enter Try.func14, Try.ntmps14
          go_wp2
          go_ret
          exact ⟨rfl, rfl⟩
  · rw [hn] at q1
    simp only [if_true]
    clear q0 q2 q3
    go_enter Try.func14, Try.ntmps14
    go_wp2
    go_ret
    exact ⟨rfl, rfl⟩

theorem key_any (x : Nat) (h : x < 18446744073709551616) : Calls Try.prog 7 #[.float .f64 x] w fun e w' => e = .returned (.int .u64 (key x : Int)) ∧ w = w' := by
  have q0 := q_zero x
  have h2 := run_bits x
  have h4 := and_sign h
  unfold key
  cases hn : nan x
  · rw [hn] at q0
    simp only [Bool.not_false, Bool.true_and] at q0
    simp only [Bool.false_eq_true, if_false]
    by_cases h0 : sr x = 0
    · rw [if_pos h0]
      rw [decide_eq_true h0] at q0
      clear h4
      go_enter Try.func7, Try.ntmps7
      go_wp2_with (go_at_call 24; refine (isnan_any _ _).mono ?_; rintro e w' ⟨rfl, rfl⟩)
      go_ret
      exact ⟨rfl, rfl⟩
    · rw [if_neg h0]
      rw [decide_eq_false h0] at q0
      rcases neg_rung h with ⟨a, b⟩ | ⟨a, b⟩
      · rw [a] at h4 ⊢
        simp only [if_true] at h4 ⊢
        clear b h0
        have hsig : IntKind.u64.signed = false := rfl
        have h6 := not_word h
        go_enter Try.func7, Try.ntmps7
        go_wp2_with (go_at_call 24; refine (isnan_any _ _).mono ?_; rintro e w' ⟨rfl, rfl⟩)
        go_ret
        exact ⟨rfl, rfl⟩
      · have hl : x < 9223372036854775808 := by have := rung_lt x; omega
        have h5 := or_sign hl
        rw [a] at h4 ⊢
        simp only [Bool.false_eq_true, if_false] at h4 ⊢
        clear b h0
        go_enter Try.func7, Try.ntmps7
        go_wp2_with (go_at_call 24; refine (isnan_any _ _).mono ?_; rintro e w' ⟨rfl, rfl⟩)
        go_ret
        exact ⟨int_ret (by omega), rfl⟩
  · simp only [if_true]
    clear q0 h4
    go_enter Try.func7, Try.ntmps7
    go_wp2_with (go_at_call 24; refine (isnan_any _ _).mono ?_; rintro e w' ⟨rfl, rfl⟩)
    go_ret
    exact ⟨rfl, rfl⟩
end
end Go.Proofs.Ythgcdoiodeagcaa
