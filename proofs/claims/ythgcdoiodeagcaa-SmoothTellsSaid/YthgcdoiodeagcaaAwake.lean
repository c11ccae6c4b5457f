/- The chapter's example holds. -/
import Derived.Test.YthgcdoiodeagcaaFnsD
namespace Go.Proofs.Ythgcdoiodeagcaa
open Go.RowKit

def ex3 : List Nat := [4611686018427387904, 4607182418800017408, 4607182418800017408]
theorem fl_ex (w : World) : Fl (w.alloc (.cells #[.float .f64 4611686018427387904, .float .f64 4607182418800017408, .float .f64 4607182418800017408] 22)) w.heap.size 0 ex3 := by
  intro k hk
  have hb := heap_alloc_new w (.cells #[.float .f64 4611686018427387904, .float .f64 4607182418800017408, .float .f64 4607182418800017408] 22)
  have hk3 : k = 0 ∨ k = 1 ∨ k = 2 := by have : k < 3 := hk; omega
  rcases hk3 with rfl | rfl | rfl <;> (unfold World.cell?; rw [hb]; rfl)
theorem wd_ex : Wd ex3 := ⟨by decide, fun k hk => by
  have hk3 : k = 0 ∨ k = 1 ∨ k = 2 := by have : k < 3 := hk; omega
  rcases hk3 with rfl | rfl | rfl <;> decide⟩
theorem best_ex (w : World) (b c : Nat) (hf : Fl w b 0 ex3) : Calls Try.prog 20 #[.slice (some ⟨b, 0, none⟩) 3 c] w fun e w' => e = .returned (.int .i64 1) ∧ w = w' :=
  (best_any w b 0 c ex3 wd_ex hf).mono fun _ _ ⟨he, hw⟩ => ⟨he, hw⟩
theorem best_ex2 (w : World) (p : Gr) (c : Nat) : Calls Try.prog 20 #[.slice (some ⟨w.heap.size + p.os.size, 0, none⟩) 3 c] ((w.gr p).alloc (.cells #[.float .f64 4611686018427387904, .float .f64 4607182418800017408, .float .f64 4607182418800017408] 22)) fun e w' => e = .returned (.int .i64 1) ∧ ((w.gr p).alloc (.cells #[.float .f64 4611686018427387904, .float .f64 4607182418800017408, .float .f64 4607182418800017408] 22)) = w' := by
  rw [← size_gr]; exact best_ex _ _ _ (fl_ex _)
theorem step_ex (w : World) : Calls Try.prog 11 #[.float .f64 4607182418800017408, .float .f64 4613937818241073152, .float .f64 4602678819172646912] w fun e w' => e = .returned (.float .f64 4611686018427387904) ∧ w = w' :=
  (step_any w _ _ _ (by decide) (by decide) (by decide)).mono fun _ _ ⟨he, hw⟩ => ⟨by rw [he]; congr 2, hw⟩
theorem ratio_ex (w : World) : Calls Try.prog 22 #[.int .i64 1, .int .i64 0] w fun e w' => e = .returned (.float .f64 9218868437227405311) ∧ Gn w w' :=
  (ratio_any w 1 0).mono fun _ _ ⟨he, hw⟩ => ⟨by rw [he, show ratioV 1 0 = 9218868437227405311 by kernel_rfl], hw⟩
theorem less_inf (w : World) : Calls Try.prog 6 #[.float .f64 18442240474082181120, .float .f64 0] w fun e w' => e = .returned (.bool true) ∧ w = w' :=
  (less_any w _ _ (by decide) (by decide)).mono fun _ _ ⟨he, hw⟩ => ⟨by rw [he, show lessB 18442240474082181120 0 = true by kernel_rfl], hw⟩
theorem less_nan (w : World) : Calls Try.prog 6 #[.float .f64 9218868437227405312, .float .f64 9221120237041090561] w fun e w' => e = .returned (.bool true) ∧ w = w' :=
  (less_any w _ _ (by decide) (by decide)).mono fun _ _ ⟨he, hw⟩ => ⟨by rw [he, show lessB 9218868437227405312 9221120237041090561 = true by kernel_rfl], hw⟩

set_option maxHeartbeats 1000000 in
theorem awake_any (w : World) : Calls Try.prog 9 #[] w fun e w' => e = .returned (.bool true) ∧ Gn w w' := by
  have q1 : (FloatKind.f64.format.order 4611686018427387904 4611686018427387904 == some .eq) = true := by kernel_rfl
  have q2 : (FloatKind.f64.format.order 9218868437227405311 9218868437227405311 == some .eq) = true := by kernel_rfl
  go_enter Try.func9, Try.ntmps9
  go_wp2_with (first | (go_at_call 11; refine (step_ex _).mono ?_; rintro e w' ⟨rfl, rfl⟩) | (go_at_call 22; refine (ratio_ex _).mono ?_; rintro e w' ⟨rfl, p, rfl⟩) | (go_at_call 20; (with_reducible refine (best_nil _ _ _).mono ?_); rintro e w' ⟨rfl, rfl⟩) | (go_at_call 20; (with_reducible refine (best_ex2 _ _ _).mono ?_); rintro e w' ⟨rfl, rfl⟩) | (go_at_call 27; (with_reducible refine (inf_pos _).mono ?_); rintro e w' ⟨rfl, rfl⟩) | (go_at_call 27; (with_reducible refine (inf_neg _).mono ?_); rintro e w' ⟨rfl, rfl⟩) | (go_at_call 8; refine (nan_any _).mono ?_; rintro e w' ⟨rfl, rfl⟩) | (go_at_call 6; (with_reducible refine (less_inf _).mono ?_); rintro e w' ⟨rfl, rfl⟩) | (go_at_call 6; (with_reducible refine (less_nan _).mono ?_); rintro e w' ⟨rfl, rfl⟩))
  go_ret
  exact ⟨rfl, by repeat (first | exact Gn.refl _ | refine Gn.gr ?_ _ | refine Gn.alloc ?_ _)⟩
end Go.Proofs.Ythgcdoiodeagcaa
