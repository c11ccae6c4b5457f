/- The functions of package clock and of its reference return what these equations on integers say, for all arguments in their kinds' ranges. -/
import Derived.Test.YtepinpajejnaoaaRows
import Derived.WalkKit
namespace Go.Proofs.Ytepinpajejnaoaa
open Go.RowKit

theorem int_ret {k : IntKind} {a b : Int} (h : a = b) : Ending.returned (.int k a) = .returned (.int k b) := by rw [h]

theorem wf_u32 {n : Int} (h : (Lit.int .u32 n).wf = true) : 0 ≤ n ∧ n ≤ 4294967295 := by
  simpa [Lit.wf, IntKind.min, IntKind.max, IntKind.signed, IntKind.bits] using h
theorem wf_u16 {n : Int} (h : (Lit.int .u16 n).wf = true) : 0 ≤ n ∧ n ≤ 65535 := by
  simpa [Lit.wf, IntKind.min, IntKind.max, IntKind.signed, IntKind.bits] using h

theorem back_iff (a n : Int) (h : 0 ≤ a ∧ a ≤ 4294967295) : ((n - (n - a) % 65536) % 4294967296 == a) = decide ((n - a) % 4294967296 < 65536) := by
  rw [Bool.eq_iff_iff, beq_iff_eq, decide_eq_true_eq]
  omega

theorem or_join (s c : Int) (h : 0 ≤ s ∧ s ≤ 4294967295) (h2 : 0 ≤ c ∧ c ≤ 65535) :
    bits BinOp.or IntKind.u32 (c * 65536) (s % 65536) = c * 65536 + s % 65536 := by
  rw [u32_or _ _ (by omega) (by omega) (by omega) (by omega), nat_join 16 _ _ (by omega) (by omega)]
  omega

theorem low_any (s : Int) (w : World) :
    Calls Try.prog 13 #[.int .u32 s] w fun e w' => e = .returned (.int .u16 (s % 65536)) ∧ w = w' := by
  go_enter Try.func13, Try.ntmps13
  go_wp2
  go_ret
  exact ⟨rfl, rfl⟩

theorem cookie_any (s : Int) (w : World) (h : 0 ≤ s ∧ s ≤ 4294967295) :
    Calls Try.prog 12 #[.int .u32 s] w fun e w' => e = .returned (.int .u16 (s / 65536)) ∧ w = w' := by
  go_enter Try.func12, Try.ntmps12
  go_wp2
  go_ret
  exact ⟨rfl, rfl⟩

theorem lend_any (s c : Int) (w : World) (h : 0 ≤ s ∧ s ≤ 4294967295) (h2 : 0 ≤ c ∧ c ≤ 65535) :
    Calls Try.prog 6 #[.int .u32 s, .int .u16 c] w fun e w' => e = .returned (.int .u32 (c * 65536 + s % 65536)) ∧ w = w' := by
  go_enter Try.func6, Try.ntmps6
  go_wp2_with (go_at_call 13; refine (low_any _ _).mono ?_; rintro e w' ⟨rfl, rfl⟩)
  go_ret
  exact ⟨int_ret (or_join s c h h2), rfl⟩

theorem rlend_any (s c : Int) (w : World) (h : 0 ≤ s ∧ s ≤ 4294967295) (h2 : 0 ≤ c ∧ c ≤ 65535) :
    Calls Try.prog 7 #[.int .u32 s, .int .u16 c] w fun e w' => e = .returned (.int .u32 (c * 65536 + s % 65536)) ∧ w = w' := by
  go_enter Try.func7, Try.ntmps7
  go_wp2
  go_ret
  exact ⟨rfl, rfl⟩

theorem ahead_any (f t : Int) (w : World) (h : 0 ≤ f ∧ f ≤ 4294967295) (h2 : 0 ≤ t ∧ t ≤ 4294967295) :
    Calls Try.prog 15 #[.int .u32 f, .int .u32 t] w fun e w' => e = .returned (.int .i64 ((t - f) % 4294967296)) ∧ w = w' := by
  go_enter Try.func15, Try.ntmps15
  go_wp2
  go_ret
  exact ⟨rfl, rfl⟩

theorem rahead_any (f t : Int) (w : World) (h : 0 ≤ f ∧ f ≤ 4294967295) (h2 : 0 ≤ t ∧ t ≤ 4294967295) :
    Calls Try.prog 16 #[.int .u32 f, .int .u32 t] w fun e w' => e = .returned (.int .i64 ((t - f) % 4294967296)) ∧ w = w' := by
  go_enter Try.func16, Try.ntmps16
  go_wp2
  all_goals go_ret
  all_goals exact ⟨int_ret (by omega), rfl⟩

theorem age_any (f t : Int) (w : World) (h : 0 ≤ f ∧ f ≤ 4294967295) (h2 : 0 ≤ t ∧ t ≤ 4294967295) :
    Calls Try.prog 10 #[.int .u32 t, .int .u32 f] w fun e w' => e = .returned (.int .i64 ((t - f) % 4294967296)) ∧ w = w' := by
  go_enter Try.func10, Try.ntmps10
  go_wp2_with (go_at_call 15; refine (ahead_any _ _ _ h h2).mono ?_; rintro e w' ⟨rfl, rfl⟩)
  go_ret
  exact ⟨rfl, rfl⟩

theorem rage_any (f t : Int) (w : World) (h : 0 ≤ f ∧ f ≤ 4294967295) (h2 : 0 ≤ t ∧ t ≤ 4294967295) :
    Calls Try.prog 11 #[.int .u32 t, .int .u32 f] w fun e w' => e = .returned (.int .i64 ((t - f) % 4294967296)) ∧ w = w' := by
  go_enter Try.func11, Try.ntmps11
  go_wp2_with (go_at_call 16; refine (rahead_any _ _ _ h h2).mono ?_; rintro e w' ⟨rfl, rfl⟩)
  go_ret
  exact ⟨rfl, rfl⟩

theorem restore_any (n l : Int) (w : World) (_h : 0 ≤ n ∧ n ≤ 4294967295) (_h2 : 0 ≤ l ∧ l ≤ 65535) :
    Calls Try.prog 8 #[.int .u32 n, .int .u16 l] w fun e w' => e = .returned (.int .u32 ((n - (n - l) % 65536) % 4294967296)) ∧ w = w' := by
  go_enter Try.func8, Try.ntmps8
  go_wp2_with (go_at_call 13; refine (low_any _ _).mono ?_; rintro e w' ⟨rfl, rfl⟩)
  go_ret
  exact ⟨int_ret (by rw [IntKind.wrap_u16]; omega), rfl⟩

theorem rrestore_any (n l : Int) (w : World) (h : 0 ≤ n ∧ n ≤ 4294967295) (h2 : 0 ≤ l ∧ l ≤ 65535) :
    Calls Try.prog 9 #[.int .u32 n, .int .u16 l] w fun e w' => e = .returned (.int .u32 ((n - (n - l) % 65536) % 4294967296)) ∧ w = w' := by
  go_enter Try.func9, Try.ntmps9
  go_wp2_with (go_at_call 11; refine (rage_any _ _ _ (by omega) (by omega)).mono ?_; rintro e w' ⟨rfl, rfl⟩)
  all_goals go_ret
  all_goals exact ⟨int_ret (by omega), rfl⟩

theorem awake_any (w : World) : Calls Try.prog 14 #[] w fun e w' => e = .returned (.bool true) ∧ w = w' := by
  go_enter Try.func14, Try.ntmps14
  go_wp2_with (first | (go_at_call 6; refine (lend_any _ _ _ (by omega) (by omega)).mono ?_; rintro e w' ⟨rfl, rfl⟩) | (go_at_call 8; refine (restore_any _ _ _ (by omega) (by omega)).mono ?_; rintro e w' ⟨rfl, rfl⟩) | (go_at_call 12; refine (cookie_any _ _ (by omega)).mono ?_; rintro e w' ⟨rfl, rfl⟩))
  go_ret
  exact ⟨rfl, rfl⟩
end Go.Proofs.Ytepinpajejnaoaa
