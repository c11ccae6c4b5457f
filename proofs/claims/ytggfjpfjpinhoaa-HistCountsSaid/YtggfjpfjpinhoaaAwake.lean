/- The chapter's example holds. -/
import Derived.Test.YtggfjpfjpinhoaaFnsF
namespace Go.Proofs.Ytggfjpfjpinhoaa
open Go.RowKit

def Z68 : Array Value := Array.replicate 68 (.int .i64 0)
theorem zero27 (w : World) : (zeroValue 27).run Try.prog w = .ok (.agg Z68) w := by kernel_rfl
theorem part_ex {hb : Nat} {l m : Int} (w : World) (h : Hi w hb [0, 5, 6] l m) : Calls Try.prog 10 #[.pointer (some ⟨hb, 0, none⟩), .int .i64 500] w fun e w' => e = .returned (.tuple #[.int .i64 4, .int .i64 7, .bool true]) ∧ w = w' := by
  refine (part_is w h 500 (by decide) (by decide) (by decide)).mono ?_
  rintro e w' ⟨k, ⟨_, h1, h2⟩, rfl, rfl⟩
  have hp : place 3 500 = 1 := by decide
  have h1' : bW [0, 5, 6] k ≤ 1 := by have : (bW [0, 5, 6] k : Int) ≤ place 3 500 := h1; omega
  have h2' : 1 < bW [0, 5, 6] (k + 1) := by have : place 3 500 < (bW [0, 5, 6] (k + 1) : Int) := h2; omega
  have hk : k = 3 := row_one (xs := [0, 5, 6]) (a := 1) h1' h2' (by decide) (by decide)
  subst hk
  exact ⟨rfl, rfl⟩
theorem row_ex {hb : Nat} {l m : Int} (w : World) (h : Hi w hb [0, 5, 6] l m) : Calls Try.prog 15 #[.pointer (some ⟨hb, 0, none⟩), .int .i64 3] w fun e w' => e = .returned (.int .i64 2) ∧ w = w' :=
  (row_is w h 3).mono fun _ _ ⟨he, hw⟩ => ⟨by rw [he]; rfl, hw⟩

set_option maxHeartbeats 4000000 in
set_option maxRecDepth 100000 in
theorem awake_any (w : World) : Calls Try.prog 5 #[] w fun e w' => e = .returned (.bool true) ∧ Gn w w' := by
  have hz := zero27
  have t1 : Hid (1 = 1) := (rfl : 1 = 1)
  go_enter Try.func5, Try.ntmps5
  go_wp2_with (first
    | (go_at_call 6; have _t := t1; refine (put_is _ [] 0 0 0 _ (hi_new _ Z68 rfl _) (by decide) (by decide) (by decide)).mono ?_; rintro y w1 ⟨rfl, ⟨l1, m1, h1⟩, k1⟩; have H1 : Hid _ := h1; have K1 : Hid _ := k1; have t2 : Hid (2 = 2) := (rfl : 2 = 2); clear t1 _t h1 k1)
    | (go_at_call 6; have _t := t2; refine (put_is _ [0] _ _ 5 _ H1.out (by decide) (by decide) (by decide)).mono ?_; rintro y w2 ⟨rfl, ⟨l2, m2, h2⟩, k2⟩; have H2 : Hid _ := h2; have K2 : Hid _ := k2; have t3 : Hid (3 = 3) := (rfl : 3 = 3); clear t2 _t h2 k2)
    | (go_at_call 6; have _t := t3; refine (put_is _ [0, 5] _ _ 6 _ H2.out (by decide) (by decide) (by decide)).mono ?_; rintro y w3 ⟨rfl, ⟨l3, m3, h3⟩, k3⟩; have H3 : Hid _ := h3; have K3 : Hid _ := k3; have t4 : Hid (4 = 4) := (rfl : 4 = 4); clear t3 _t h3 k3)
    | (go_at_call 6; have _t := t4; refine (put_neg _ (-1) _ (by decide)).mono ?_; rintro y w4 ⟨rfl, rfl⟩; clear t4 _t; have t5 : Hid (5 = 5) := (rfl : 5 = 5))
    | (go_at_call 6; have _t := t5; refine (put_nil _ _).mono ?_; rintro y w4 ⟨rfl, rfl⟩)
    | (go_at_call 10; refine (part_ex _ H3.out).mono ?_; rintro y w4 ⟨rfl, rfl⟩)
    | (go_at_call 7; (with_reducible refine (add_nil _ ⟨_, rfl⟩ _).mono ?_); rintro y w4 ⟨⟨y', rfl⟩, q1, rfl⟩)
    | (go_at_call 7; (with_reducible refine (add_none _ _).mono ?_); rintro y w4 ⟨⟨y', rfl⟩, q2, rfl⟩)
    | (go_at_call 9; refine (bounds_nil _).mono ?_; rintro y w4 ⟨rfl, q3, rfl⟩)
    | (go_at_call 12; refine (count_nil _).mono ?_; rintro y w4 ⟨rfl, rfl⟩)
    | (go_at_call 13; refine (sum_nil _).mono ?_; rintro y w4 ⟨rfl, rfl⟩)
    | (go_at_call 15; (with_reducible refine (row_nil _ _).mono ?_); rintro y w4 ⟨rfl, rfl⟩)
    | (go_at_call 15; refine (row_ex _ (Hi.grown H3.out (by with_reducible (repeat (first | exact Gn.refl _ | refine Gn.gr ?_ _ | refine Gn.alloc ?_ _ | refine Gn.drew ?_))))).mono ?_; rintro y w4 ⟨rfl, rfl⟩)
    | (go_at_call 17; refine (rank_nil _ _ (by decide)).mono ?_; rintro y w4 ⟨rfl, rfl⟩))
  go_ret
  have k : Kp (fun j => j = w.heap.size) w w3 := (((Kp.of_gn _ ((Gn.refl w).alloc _)).trans K1.out).trans K2.out).trans K3.out
  exact ⟨rfl, Gn.gr (k.to_gn (fun j e => by omega)) _⟩
end Go.Proofs.Ytggfjpfjpinhoaa
