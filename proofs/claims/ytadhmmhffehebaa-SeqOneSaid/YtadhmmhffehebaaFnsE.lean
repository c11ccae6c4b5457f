/- The helpers of the laws of chapter 49: of, same, awake. -/
import Derived.Test.YtadhmmhffehebaaFnsD
import Derived.Test.YtadhmmhffehebaaMix
namespace Go.Proofs.Ytadhmmhffehebaa
open Go.RowKit

theorem of_is (f n : Int) (w : World) : Calls Try.prog 6 #[.agg #[.int .u32 f, .int .i64 n]] w fun e w' => e = .returned (.agg #[.int .u32 f, .int .i64 n]) ∧ Gn w w' := by
  go_enter Try.func6, Try.ntmps6
  go_wp2
  exact bodyPost_ret (v := .agg #[.int .u32 f, .int .i64 n]) (by simp [results, Try.results6, go_sem]) rfl ⟨rfl, by repeat (first | exact Gn.refl _ | refine Gn.gr ?_ _ | refine Gn.alloc ?_ _)⟩

theorem same_is (f n : Int) (w : World) : Calls Try.prog 16 #[.agg #[.int .u32 f, .int .i64 n], .agg #[.int .u32 f, .int .i64 n]] w fun e w' => e = .returned (.bool true) ∧ Gn w w' := by
  go_enter Try.func16, Try.ntmps16
  go_wp2
  go_ret
  exact ⟨rfl, by repeat (first | exact Gn.refl _ | refine Gn.gr ?_ _ | refine Gn.alloc ?_ _)⟩

theorem join_awake : joinS 5 2 7 1 = (5, 3, true) := by decide
theorem in_awake7 : inB 5 3 7 = true := by decide
theorem in_awake8 : inB 5 3 8 = false := by decide
theorem before_awake1 : beforeB 4294967295 0 = true := by decide
theorem before_awake2 : beforeB 0 4294967295 = false := by decide

theorem before_any (a b : Int) (w : World) : Calls Try.prog 12 #[.int .u32 a, .int .u32 b] w fun e w' => e = .returned (.bool (beforeB a b)) ∧ w = w' := before_is _ a b w rfl
theorem in_any (f n t : Int) (w : World) : Calls Try.prog 14 #[.agg #[.int .u32 f, .int .i64 n], .int .u32 t] w fun e w' => e = .returned (.bool (inB f n t)) ∧ Gn w w' := in_is _ f n t w rfl
theorem join_any (f n g m : Int) (w : World) : Calls Try.prog 8 #[.agg #[.int .u32 f, .int .i64 n], .agg #[.int .u32 g, .int .i64 m]] w fun e w' => e = .returned (.tuple #[.agg #[.int .u32 (joinS f n g m).1, .int .i64 (joinS f n g m).2.1], .bool (joinS f n g m).2.2]) ∧ Gn w w' := join_is f n g m w
theorem meet_any (f n g m : Int) (w : World) : Calls Try.prog 5 #[.agg #[.int .u32 f, .int .i64 n], .agg #[.int .u32 g, .int .i64 m]] w fun e w' => e = .returned (.tuple #[.agg #[.int .u32 (meetS f n g m).1, .int .i64 (meetS f n g m).2.1], .bool (meetS f n g m).2.2]) ∧ Gn w w' := meet_is _ f n g m w rfl

theorem awake_is (w : World) : Calls Try.prog 18 #[] w fun e w' => e = .returned (.bool true) ∧ Gn w w' := by
  go_enter Try.func18, Try.ntmps18
  go_wp2_with (first | (go_at_call 8; refine (join_any _ _ _ _ _).mono ?_; rintro e w' ⟨rfl, p, rfl⟩; simp only [join_awake]) | (go_at_call 12; refine (before_any _ _ _).mono ?_; rintro e w' ⟨rfl, rfl⟩; simp only [before_awake1, before_awake2]) | (go_at_call 14; refine (in_any _ _ _ _).mono ?_; rintro e w' ⟨rfl, p, rfl⟩; simp only [in_awake7, in_awake8]))
  go_ret
  exact ⟨rfl, by repeat (first | exact Gn.refl _ | refine Gn.gr ?_ _ | refine Gn.alloc ?_ _)⟩
end Go.Proofs.Ytadhmmhffehebaa
