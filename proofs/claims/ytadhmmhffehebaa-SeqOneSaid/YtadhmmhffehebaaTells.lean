/- The walk of the law SeqTells: it returns true, for all spans and numbers. -/
import Derived.Test.YtadhmmhffehebaaFnsB
import Derived.Test.YtadhmmhffehebaaFnsE
namespace Go.Proofs.Ytadhmmhffehebaa
open Go.RowKit
theorem rjoin_any (f n g m : Int) (w : World) (hf : 0 ≤ f ∧ f ≤ 4294967295) (hg : 0 ≤ g ∧ g ≤ 4294967295) : Calls Try.prog 9 #[.agg #[.int .u32 f, .int .i64 n], .agg #[.int .u32 g, .int .i64 m]] w fun e w' => e = .returned (.tuple #[.agg #[.int .u32 (joinS f n g m).1, .int .i64 (joinS f n g m).2.1], .bool (joinS f n g m).2.2]) ∧ Gn w w' := rjoin_is f n g m w hf hg
theorem rmeet_any (f n g m : Int) (w : World) (hf : 0 ≤ f ∧ f ≤ 4294967295) (hg : 0 ≤ g ∧ g ≤ 4294967295) : Calls Try.prog 7 #[.agg #[.int .u32 f, .int .i64 n], .agg #[.int .u32 g, .int .i64 m]] w fun e w' => e = .returned (.tuple #[.agg #[.int .u32 (meetS f n g m).1, .int .i64 (meetS f n g m).2.1], .bool (meetS f n g m).2.2]) ∧ Gn w w' := rmeet_is f n g m w hf hg
def cutS (f n t : Int) : Int × Int × Int × Int × Bool := if inB f n t then (f, (t - f) % 4294967296, t, n - (t - f) % 4294967296, true) else (0, 0, 0, 0, false)
theorem cutV_eq (f n t : Int) : cutV f n t = .tuple #[.agg #[.int .u32 (cutS f n t).1, .int .i64 (cutS f n t).2.1], .agg #[.int .u32 (cutS f n t).2.2.1, .int .i64 (cutS f n t).2.2.2.1], .bool (cutS f n t).2.2.2.2] := by
  unfold cutV cutS
  split <;> rfl
theorem cut_any (f n t : Int) (w : World) (hf : 0 ≤ f ∧ f ≤ 4294967295) (ht : 0 ≤ t ∧ t ≤ 4294967295) : Calls Try.prog 10 #[.agg #[.int .u32 f, .int .i64 n], .int .u32 t] w fun e w' => e = .returned (.tuple #[.agg #[.int .u32 (cutS f n t).1, .int .i64 (cutS f n t).2.1], .agg #[.int .u32 (cutS f n t).2.2.1, .int .i64 (cutS f n t).2.2.2.1], .bool (cutS f n t).2.2.2.2]) ∧ Gn w w' := by
  rw [← cutV_eq]; exact cut_is f n t w hf ht
theorem rcut_any (f n t : Int) (w : World) (hf : 0 ≤ f ∧ f ≤ 4294967295) (ht : 0 ≤ t ∧ t ≤ 4294967295) : Calls Try.prog 11 #[.agg #[.int .u32 f, .int .i64 n], .int .u32 t] w fun e w' => e = .returned (.tuple #[.agg #[.int .u32 (cutS f n t).1, .int .i64 (cutS f n t).2.1], .agg #[.int .u32 (cutS f n t).2.2.1, .int .i64 (cutS f n t).2.2.2.1], .bool (cutS f n t).2.2.2.2]) ∧ Gn w w' := by
  rw [← cutV_eq]; exact rcut_is f n t w hf ht
theorem rbefore_any (a b : Int) (w : World) (ha : 0 ≤ a ∧ a ≤ 4294967295) (hb : 0 ≤ b ∧ b ≤ 4294967295) : Calls Try.prog 13 #[.int .u32 a, .int .u32 b] w fun e w' => e = .returned (.bool (beforeB a b)) ∧ w = w' := rbefore_is _ a b w rfl ha hb
theorem rin_any (f n t : Int) (w : World) (hf : 0 ≤ f ∧ f ≤ 4294967295) (ht : 0 ≤ t ∧ t ≤ 4294967295) : Calls Try.prog 15 #[.agg #[.int .u32 f, .int .i64 n], .int .u32 t] w fun e w' => e = .returned (.bool (inB f n t)) ∧ Gn w w' := rin_is _ f n t w rfl hf ht
set_option maxHeartbeats 4000000 in
theorem tells_walk (f n g m t u : Int) (w : World) (hf : 0 ≤ f ∧ f ≤ 4294967295) (hg : 0 ≤ g ∧ g ≤ 4294967295) (ht : 0 ≤ t ∧ t ≤ 4294967295) (hu : 0 ≤ u ∧ u ≤ 4294967295) :
    Calls Try.prog 3 #[.agg #[.int .u32 f, .int .i64 n], .agg #[.int .u32 g, .int .i64 m], .int .u32 t, .int .u32 u] w fun e w' => e = .returned (.bool true) ∧ Gn w w' := by
  go_enter Try.func3, Try.ntmps3
  go_wp2
  refine wp_region_mix 8 3 (by kernel_rfl) (by kernel_rfl) rfl (by kernel_rfl) ?_
  repeat (refine wpQG_step (fun K hK => ?_); go_simp; first | (refine hK _ ?_; clear hK K) | (apply Exists.intro; refine ⟨fun _ => ?_, hK _ ?_⟩; first | (go_at_call 6; exact Calls.in_qg (of_is _ _ _)) | (go_at_call 5; exact Calls.in_qg (meet_any _ _ _ _ _)); clear hK K))
  refine wpQG_done ?_
  refine wpMix_one (i := 8) (by kernel_rfl) rfl ?_
  intro p
  go_wp2
  refine ⟨(by repeat (first | exact Gn.refl _ | refine Gn.gr ?_ _ | refine Gn.alloc ?_ _)), ?_⟩
  refine wpMix_one (i := 9) (by kernel_rfl) rfl ?_
  intro p
  go_wp2
  refine ⟨(by repeat (first | exact Gn.refl _ | refine Gn.gr ?_ _ | refine Gn.alloc ?_ _)), ?_⟩
  refine wpMix_one (i := 10) (by kernel_rfl) rfl ?_
  intro p
  go_wp2
  refine ⟨(by repeat (first | exact Gn.refl _ | refine Gn.gr ?_ _ | refine Gn.alloc ?_ _)), ?_⟩
  refine wpMix_done (by kernel_rfl) ?_
  intro p
  go_wp2_with (first | (go_at_call 7; refine (rmeet_any _ _ _ _ _ hf hg).mono ?_; rintro e w' ⟨rfl, p, rfl⟩))
  refine wp_region_mix 8 3 (by kernel_rfl) (by kernel_rfl) rfl (by kernel_rfl) ?_
  repeat (refine wpQG_step (fun K hK => ?_); go_simp; first | (refine hK _ ?_; clear hK K) | (apply Exists.intro; refine ⟨fun _ => ?_, hK _ ?_⟩; first | (go_at_call 6; exact Calls.in_qg (of_is _ _ _)) | (go_at_call 8; exact Calls.in_qg (join_any _ _ _ _ _)); clear hK K))
  refine wpQG_done ?_
  refine wpMix_one (i := 8) (by kernel_rfl) rfl ?_
  intro p
  go_wp2
  refine ⟨(by repeat (first | exact Gn.refl _ | refine Gn.gr ?_ _ | refine Gn.alloc ?_ _)), ?_⟩
  refine wpMix_one (i := 9) (by kernel_rfl) rfl ?_
  intro p
  go_wp2
  refine ⟨(by repeat (first | exact Gn.refl _ | refine Gn.gr ?_ _ | refine Gn.alloc ?_ _)), ?_⟩
  refine wpMix_one (i := 10) (by kernel_rfl) rfl ?_
  intro p
  go_wp2
  refine ⟨(by repeat (first | exact Gn.refl _ | refine Gn.gr ?_ _ | refine Gn.alloc ?_ _)), ?_⟩
  refine wpMix_done (by kernel_rfl) ?_
  intro p
  go_wp2_with (first | (go_at_call 9; refine (rjoin_any _ _ _ _ _ hf hg).mono ?_; rintro e w' ⟨rfl, p, rfl⟩) | (go_at_call 6; refine (of_is _ _ _).mono ?_; rintro e w' ⟨rfl, p, rfl⟩) | (go_at_call 10; refine (cut_any _ _ _ _ hf ht).mono ?_; rintro e w' ⟨rfl, p, rfl⟩) | (go_at_call 11; refine (rcut_any _ _ _ _ hf ht).mono ?_; rintro e w' ⟨rfl, p, rfl⟩) | (go_at_call 12; refine (before_any _ _ _).mono ?_; rintro e w' ⟨rfl, rfl⟩) | (go_at_call 13; refine (rbefore_any _ _ _ ht hu).mono ?_; rintro e w' ⟨rfl, rfl⟩) | (go_at_call 14; refine (in_any _ _ _ _).mono ?_; rintro e w' ⟨rfl, p, rfl⟩) | (go_at_call 15; refine (rin_any _ _ _ _ hf ht).mono ?_; rintro e w' ⟨rfl, p, rfl⟩) | (go_at_call 16; refine (same_is _ _ _).mono ?_; rintro e w' ⟨rfl, p, rfl⟩) | (go_at_call 17; refine (end_is _ _ _).mono ?_; rintro e w' ⟨rfl, p, rfl⟩) | (go_at_call 18; refine (awake_is _).mono ?_; rintro e w' ⟨rfl, p, rfl⟩))
  dsimp only [List.append_eq, List.cons_append, List.nil_append]
  refine wp_region_gr (by kernel_rfl) (by kernel_rfl) ?_
  repeat (go_big_quiet_step (first | (go_at_call 6; exact Calls.in_gr (of_is _ _ _)) | (go_at_call 12; exact Calls.in_gr_same (before_any _ _ _)) | (go_at_call 13; exact Calls.in_gr_same (rbefore_any _ _ _ ht hu)) | (go_at_call 14; exact Calls.in_gr (in_any _ _ _ _)) | (go_at_call 15; exact Calls.in_gr (rin_any _ _ _ _ hf ht)) | (go_at_call 16; exact Calls.in_gr (same_is _ _ _)) | (go_at_call 17; exact Calls.in_gr (end_is _ _ _)) | (go_at_call 18; exact Calls.in_gr (awake_is _))))
  refine wpQuiet_nil ?_
  rintro _ ⟨p, rfl⟩
  go_wp2
  go_ret
  exact ⟨rfl, by repeat (first | exact Gn.refl _ | refine Gn.gr ?_ _ | refine Gn.alloc ?_ _)⟩
end Go.Proofs.Ytadhmmhffehebaa
