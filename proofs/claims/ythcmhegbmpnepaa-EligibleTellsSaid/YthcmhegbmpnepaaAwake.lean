/- The contract of the law's example. -/
import Derived.Test.YthcmhegbmpnepaaOf
namespace Go.Proofs.Ythcmhegbmpnepaa
open Go.RowKit

def L3 : List B := [⟨1, 2, 1, false, 0, 0⟩, ⟨2, 3, 2, false, 0, 0⟩, ⟨3, 1, 1, false, 0, 0⟩]
def L2 : List B := [⟨1, 2, 1, false, 0, 0⟩, ⟨3, 1, 1, false, 0, 0⟩]
theorem filt3 : L3.filter ok = L2 := by decide
def C3 : Obj := .cells #[.int .i64 1, .int .i64 2, .int .i64 1, .bool false, .int .u64 0, .int .u64 0, .int .i64 2, .int .i64 3, .int .i64 2, .bool false, .int .u64 0, .int .u64 0, .int .i64 3, .int .i64 1, .int .i64 1, .bool false, .int .u64 0, .int .u64 0] 29
theorem sl3 (w : World) : SL (w.alloc C3) (.slice (some ⟨w.heap.size, 0, none⟩) 3 3) L3 := by
  refine .inr ⟨w.heap.size, 0, 3, rfl, by rw [size_alloc]; omega, fun k hk => ?_⟩
  have h : (w.alloc C3).heap[w.heap.size]? = some C3 := by unfold World.alloc; simp
  have hk3 : k < 3 := hk
  simp only [World.cell?, h]
  match k, hk3 with
  | 0, _ => exact ⟨rfl, rfl, rfl, rfl, rfl, rfl⟩
  | 1, _ => exact ⟨rfl, rfl, rfl, rfl, rfl, rfl⟩
  | 2, _ => exact ⟨rfl, rfl, rfl, rfl, rfl, rfl⟩
theorem of3 (w : World) (n : Nat) (hn : n = w.heap.size) : Calls Try.prog 7 #[.slice (some ⟨n, 0, none⟩) 3 3, .int .i64 7] (w.alloc C3) fun y w' =>
    ∃ b off cap, y = .returned (.agg #[.int .i64 7, .slice (some ⟨b, off, none⟩) 2 cap]) ∧ Cells w' b off L2 ∧ Gn (w.alloc C3) w' := by
  subst hn
  refine (of_is _ L3 7 _ (sl3 w) (by decide)).mono ?_
  rintro y w' ⟨v', rfl, hs, hg⟩
  rw [filt3] at hs
  rcases hs with ⟨h, _⟩ | ⟨b, off, cap, rfl, hc⟩
  · cases h
  · exact ⟨b, off, cap, rfl, hc, hg⟩
theorem tame2 : Tame L2 := ⟨by decide, by intro b hb; simp [L2] at hb; rcases hb with rfl | rfl <;> decide⟩
theorem at2 (b off cap : Nat) (w : World) (hc : Cells w b off L2) : Calls Try.prog 9 #[.agg #[.int .i64 7, .slice (some ⟨b, off, none⟩) 2 cap], .int .i64 2] w fun y w' =>
    y = .returned (.tuple #[.agg #[.int .i64 3, .int .i64 1, .int .i64 1, .bool false, .int .u64 0, .int .u64 0], .bool true]) ∧ Gn w w' :=
  at_is _ L2 7 2 w (.inr ⟨b, off, cap, rfl, hc⟩) tame2
theorem weight2 (b off cap : Nat) (w : World) (hc : Cells w b off L2) : Calls Try.prog 8 #[.agg #[.int .i64 7, .slice (some ⟨b, off, none⟩) 2 cap]] w fun y w' =>
    y = .returned (.int .i64 3) ∧ Gn w w' :=
  weight_is _ L2 7 w (.inr ⟨b, off, cap, rfl, hc⟩) tame2
theorem has2 (b off cap : Nat) (w : World) (hc : Cells w b off L2) : Calls Try.prog 10 #[.agg #[.int .i64 7, .slice (some ⟨b, off, none⟩) 2 cap], .int .i64 2] w fun y w' =>
    y = .returned (.bool false) ∧ Gn w w' :=
  has_is _ L2 7 2 w (.inr ⟨b, off, cap, rfl, hc⟩) (by decide)

set_option maxHeartbeats 1000000 in
theorem awake_is (w : World) : Calls Try.prog 6 #[] w fun y w' => y = .returned (.bool true) ∧ Gn w w' := by
  go_enter Try.func6, Try.ntmps6
  go_wp2_with (first
    | (go_at_call 7; refine (of3 _ _ rfl).mono ?_; rintro y w' ⟨b, off, cap, rfl, hc, q, rfl⟩; have HC : Hid _ := hc; clear hc)
    | (go_at_call 9; refine (at2 _ _ _ _ (Cells.grown (show Cells _ b off L2 from HC.out) (by repeat (first | exact Gn.refl _ | refine Gn.gr ?_ _ | refine Gn.alloc ?_ _)))).mono ?_; rintro y w' ⟨rfl, q1, rfl⟩)
    | (go_at_call 8; refine (weight2 _ _ _ _ (Cells.grown (show Cells _ b off L2 from HC.out) (by repeat (first | exact Gn.refl _ | refine Gn.gr ?_ _ | refine Gn.alloc ?_ _)))).mono ?_; rintro y w' ⟨rfl, q2, rfl⟩)
    | (go_at_call 10; refine (has2 _ _ _ _ (Cells.grown (show Cells _ b off L2 from HC.out) (by repeat (first | exact Gn.refl _ | refine Gn.gr ?_ _ | refine Gn.alloc ?_ _)))).mono ?_; rintro y w' ⟨rfl, q3, rfl⟩))
  go_ret
  exact ⟨rfl, (by repeat (first | exact Gn.refl _ | refine Gn.gr ?_ _ | refine Gn.alloc ?_ _))⟩
end Go.Proofs.Ythcmhegbmpnepaa
