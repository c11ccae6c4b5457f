/- The chapter's example returns true. -/
import Derived.Test.YtbkbfibmnolfmaaWhen
namespace Go.Proofs.Ytbkbfibmnolfmaa
open Go.RowKit

theorem take_nil (n : Int) (w : World) : Calls Try.prog 8 #[.pointer none, .int .i64 n] w fun e w' => e = .returned (.bool false) ∧ Gn w w' := by
  go_enter Try.func8, Try.ntmps8
  go_wp2_with (first | (go_at_call 17; refine (given_nil _).mono ?_; rintro y w' ⟨rfl, q, rfl⟩))
  go_ret
  exact ⟨rfl, (by with_reducible (repeat (first | exact Gn.refl _ | refine Gn.gr ?_ _ | refine Gn.alloc ?_ _ | refine Gn.drew ?_)))⟩
theorem when3 (tb : Nat) (w : World) (h : BB w tb true 2 5 2 4) : Calls Try.prog 10 #[.pointer (some ⟨tb, 0, none⟩), .int .i64 5] w fun e w' => e = .returned (.int .i64 3) ∧ Gn w w' := by
  have := when_is tb 2 5 2 4 5 w h (by omega) (by omega) (by omega) (by omega)
  rwa [show whenV 2 5 2 4 5 = 3 by decide] at this
theorem go4 (tb : Nat) (w : World) (h : BB w tb true 2 5 0 0) : Calls Try.prog 7 #[.pointer (some ⟨tb, 0, none⟩), .int .i64 2] w fun e w' => e = .returned (.int .i64 0) ∧ BB w' tb true 2 5 2 4 ∧ Kp (fun j => j = tb) w w' := by
  have := go_is tb 2 5 0 0 2 w h (by omega) (by omega) (by omega) (by omega) (by omega)
  rwa [show later 2 5 0 0 2 = 4 by decide] at this
theorem take5 (tb : Nat) (w : World) (h : BB w tb true 2 5 0 5) : Calls Try.prog 8 #[.pointer (some ⟨tb, 0, none⟩), .int .i64 5] w fun e w' => e = .returned (.bool true) ∧ BB w' tb true 2 5 0 0 ∧ Kp (fun j => j = tb) w w' :=
  take_is tb 2 5 0 5 5 w h (by omega) (by omega) (by omega)

set_option maxHeartbeats 4000000 in
set_option maxRecDepth 100000 in
theorem awake_is (w : World) : Calls Try.prog 6 #[] w fun y w' => y = .returned (.bool true) ∧ Gn w w' := by
  have t1 : Hid True := trivial
  have t2 : Hid True := trivial
  have t3 : Hid True := trivial
  have t4 : Hid True := trivial
  have t5 : Hid True := trivial
  have t6 : Hid True := trivial
  go_enter Try.func6, Try.ntmps6
  go_wp2_with (first
    | (go_at_call 5; clear t1; refine (new_is 2 5 _ (by decide) (by decide)).mono ?_; rintro y w1 ⟨tb, rfl, hot, hB, hg⟩; have B1 : Hid _ := hB; have G1 : Hid _ := hg; clear hB hg)
    | (go_at_call 8; clear t2; refine (take5 tb _ (BB.grown (show BB w1 tb true 2 5 0 5 from B1.out) (by with_reducible (repeat (first | exact Gn.refl _ | refine Gn.gr ?_ _ | refine Gn.alloc ?_ _ | refine Gn.drew ?_))))).mono ?_; rintro y w2 ⟨rfl, hB, hk⟩; have B2 : Hid _ := hB; have K2 : Hid _ := hk; clear hB hk)
    | (go_at_call 7; clear t3; refine (go4 tb _ (BB.grown (show BB w2 tb true 2 5 0 0 from B2.out) (by with_reducible (repeat (first | exact Gn.refl _ | refine Gn.gr ?_ _ | refine Gn.alloc ?_ _ | refine Gn.drew ?_))))).mono ?_; rintro y w3 ⟨rfl, hB, hk⟩; have B3 : Hid _ := hB; have K3 : Hid _ := hk; clear hB hk)
    | (go_at_call 9; clear t4; refine (have_is tb true 2 5 2 4 _ (BB.grown (show BB w3 tb true 2 5 2 4 from B3.out) (by with_reducible (repeat (first | exact Gn.refl _ | refine Gn.gr ?_ _ | refine Gn.alloc ?_ _ | refine Gn.drew ?_))))).mono ?_; rintro y w' ⟨rfl, q, rfl⟩)
    | (go_at_call 10; clear t5; refine (when3 tb _ (BB.grown (show BB w3 tb true 2 5 2 4 from B3.out) (by with_reducible (repeat (first | exact Gn.refl _ | refine Gn.gr ?_ _ | refine Gn.alloc ?_ _ | refine Gn.drew ?_))))).mono ?_; rintro y w' ⟨rfl, q, rfl⟩)
    | (go_at_call 7; clear t6; refine (go_nil _ _).mono ?_; rintro y w' ⟨rfl, q, rfl⟩)
    | (go_at_call 7; refine (go_plain w3.heap.size 0 0 0 0 _ _ (BB.grown (bb_new w3 false 0 0 0 0 _ rfl) (by with_reducible (repeat (first | exact Gn.refl _ | refine Gn.gr ?_ _ | refine Gn.alloc ?_ _ | refine Gn.drew ?_))))).mono ?_; rintro y w' ⟨rfl, q, rfl⟩)
    | (go_at_call 8; refine (take_nil _ _).mono ?_; rintro y w' ⟨rfl, q, rfl⟩)
    | (go_at_call 9; refine (have_is w3.heap.size false 0 0 0 0 _ (BB.grown (bb_new w3 false 0 0 0 0 _ rfl) (by with_reducible (repeat (first | exact Gn.refl _ | refine Gn.gr ?_ _ | refine Gn.alloc ?_ _ | refine Gn.drew ?_))))).mono ?_; rintro y w' ⟨rfl, q, rfl⟩)
    | (go_at_call 10; refine (when_nil _ _).mono ?_; rintro y w' ⟨rfl, q, rfl⟩)
    | (go_at_call 5; refine (new_no _ _ _ (by decide)).mono ?_; rintro y w' ⟨rfl, q, rfl⟩))
  go_ret
  have k : Kp (fun j => w.heap.size ≤ j) w w3 := ((Kp.of_gn _ (show Gn w w1 from G1.out)).trans (K2.out.mono (fun j _ e => by subst e; exact hot))).trans (K3.out.mono (fun j _ e => by subst e; exact hot))
  exact ⟨rfl, (k.gn (show Gn w3 _ from (by with_reducible (repeat (first | exact Gn.refl _ | refine Gn.gr ?_ _ | refine Gn.alloc ?_ _ | refine Gn.drew ?_))))).to_gn (fun _ h => h)⟩
end Go.Proofs.Ytbkbfibmnolfmaa
