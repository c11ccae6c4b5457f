/- The contract of Diff: the numbers that one set has and the other has not, both ways. -/
import Derived.Test.YthcmhegbmpnepaaRefD
import Derived.Test.YthcmhegbmpnepaaMix
namespace Go.Proofs.Ythcmhegbmpnepaa
open Go.RowKit

set_option maxHeartbeats 400000 in
theorem diff_is (v u : Value) (l m : List B) (x z : Int) (w : World) (h : SL w v l) (hu : SL w u m) (ht : l.length ≤ 64) (hm : m.length ≤ 64) :
    Calls Try.prog 13 #[.agg #[.int .i64 x, v], .agg #[.int .i64 z, u]] w fun y w' => ∃ v1 v2, y = .returned (.tuple #[v1, v2]) ∧ IL w' v1 (ids m l) ∧ IL w' v2 (ids l m) ∧ Gn w w' := by
  have H1 : Hid (∀ w' : World, Gn w w' → _) := fun w' hg => beyond_is u v m l z x w' (hu.grown hg) (h.grown hg) hm ht
  have H2 : Hid (∀ w' : World, Gn w w' → _) := fun w' hg => beyond_is v u l m x z w' (h.grown hg) (hu.grown hg) ht hm
  clear h hu
  go_enter Try.func13, Try.ntmps13
  go_wp2
  refine wp_region_mix 0 8 (by kernel_rfl) (by kernel_rfl) rfl (by kernel_rfl) ?_
  refine wpQG_done ?_
  refine wpMix_pick 0 (by kernel_rfl) rfl (by kernel_rfl) (by with_reducible (repeat (first | exact Gn.refl _ | refine Gn.gr ?_ _ | refine Gn.alloc ?_ _))) (fun K hK => ?_); go_simp; first | (refine hK _ ?_; clear hK K) | (apply Exists.intro; refine ⟨fun _ => ?_, hK _ ?_⟩; first | fail; clear hK K)
  refine wpMix_pick 1 (by kernel_rfl) rfl (by kernel_rfl) (by with_reducible (repeat (first | exact Gn.refl _ | refine Gn.gr ?_ _ | refine Gn.alloc ?_ _))) (fun K hK => ?_); go_simp; first | (refine hK _ ?_; clear hK K) | (apply Exists.intro; refine ⟨fun _ => ?_, hK _ ?_⟩; first | fail; clear hK K)
  refine wpMix_pick 3 (by kernel_rfl) rfl (by kernel_rfl) (by with_reducible (repeat (first | exact Gn.refl _ | refine Gn.gr ?_ _ | refine Gn.alloc ?_ _))) (fun K hK => ?_); go_simp; first | (refine hK _ ?_; clear hK K) | (apply Exists.intro; refine ⟨fun _ => ?_, hK _ ?_⟩; first | fail; clear hK K)
  refine wpMix_pick 4 (by kernel_rfl) rfl (by kernel_rfl) (by with_reducible (repeat (first | exact Gn.refl _ | refine Gn.gr ?_ _ | refine Gn.alloc ?_ _))) (fun K hK => ?_); go_simp; first | (refine hK _ ?_; clear hK K) | (apply Exists.intro; refine ⟨fun _ => ?_, hK _ ?_⟩; first | fail; clear hK K)
  refine wpMix_one (i := 2) (by kernel_rfl) rfl ?_
  intro p
  go_wp2_with (first | (go_at_call 24; refine (H1.out _ (by with_reducible (repeat (first | exact Gn.refl _ | refine Gn.gr ?_ _ | refine Gn.alloc ?_ _)))).mono ?_; rintro y w1 ⟨v1, rfl, i1, g1⟩; have I1 : Hid _ := i1; have G1 : Hid (Gn _ w1) := (Gn.gr (Gn.refl _) _).trans g1; clear i1 g1))
  refine ⟨(by with_reducible (repeat (first | exact Gn.refl _ | refine Gn.gr ?_ _ | refine Gn.alloc ?_ _ | refine Gn.trans ?_ G1.out))), ?_⟩
  refine wpMix_one (i := 5) (by kernel_rfl) rfl ?_
  intro p
  go_wp2_with (first | (go_at_call 24; refine (H2.out _ (by with_reducible (repeat (first | exact Gn.refl _ | refine Gn.gr ?_ _ | refine Gn.alloc ?_ _ | refine Gn.trans ?_ G1.out)))).mono ?_; rintro y w2 ⟨v2, rfl, i2, g2⟩; have I2 : Hid _ := i2; have G2 : Hid (Gn w1 w2) := (Gn.gr (Gn.refl _) _).trans g2; clear i2 g2))
  refine ⟨(by with_reducible (repeat (first | exact Gn.refl _ | exact G2.out | refine Gn.gr ?_ _ | refine Gn.alloc ?_ _ | refine Gn.trans ?_ G2.out | refine Gn.trans ?_ G1.out))), ?_⟩
  refine wpMix_one (i := 6) (by kernel_rfl) rfl ?_
  intro p
  go_wp2
  refine ⟨(by with_reducible (repeat (first | exact Gn.refl _ | exact G2.out | refine Gn.gr ?_ _ | refine Gn.alloc ?_ _ | refine Gn.trans ?_ G2.out | refine Gn.trans ?_ G1.out))), ?_⟩
  refine wpMix_one (i := 7) (by kernel_rfl) rfl ?_
  intro p
  go_wp2
  refine ⟨(by with_reducible (repeat (first | exact Gn.refl _ | exact G2.out | refine Gn.gr ?_ _ | refine Gn.alloc ?_ _ | refine Gn.trans ?_ G2.out | refine Gn.trans ?_ G1.out))), ?_⟩
  refine wpMix_done (by kernel_rfl) ?_
  intro p
  go_wp2
  exact bodyPost_ret (v := .tuple #[v1, v2]) (by simp [results, Try.results13, go_sem]) rfl ⟨_, _, rfl, IL.grown I1.out (by with_reducible (repeat (first | exact Gn.refl _ | exact G2.out | refine Gn.gr ?_ _ | refine Gn.alloc ?_ _ | refine Gn.trans ?_ G2.out | refine Gn.trans ?_ G1.out))), IL.grown I2.out (by with_reducible (repeat (first | exact Gn.refl _ | exact G2.out | refine Gn.gr ?_ _ | refine Gn.alloc ?_ _ | refine Gn.trans ?_ G2.out | refine Gn.trans ?_ G1.out))), (by with_reducible (repeat (first | exact Gn.refl _ | exact G2.out | refine Gn.gr ?_ _ | refine Gn.alloc ?_ _ | refine Gn.trans ?_ G2.out | refine Gn.trans ?_ G1.out)))⟩
end Go.Proofs.Ythcmhegbmpnepaa
