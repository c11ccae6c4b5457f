/- The reference's Pick of an empty set. -/
import Derived.Test.YtidekhhelljjdaaRNew
namespace Go.Proofs.Ytidekhhelljjdaa
open Go.RowKit

set_option maxHeartbeats 1600000 in
set_option maxRecDepth 100000 in
theorem rpick_empty (xb : Nat) (ver0 ver : Int) (o1 o2 o : Option Addr) (n1 c1 n2 c2 c : Nat) (w : World) (h : RT w xb false ver0 (.slice o1 n1 c1) (.slice o2 n2 c2)) :
    Calls Try.prog 11 #[.pointer (some ⟨xb, 0, none⟩), .int .i64 ver, .slice o 0 c] w fun y w' => y = .returned (.tuple #[.int .i64 0, .bool false]) ∧
      (∃ nb, RT w' xb true ver (.slice o 0 c) (.slice (some ⟨nb, 0, none⟩) 0 0)) ∧ Kp (fun j => j = xb) w w' := by
  obtain ⟨tl, x0, x1, x2, x3⟩ := h.facts
  have f0 := h.free 0
  have f1 := h.free 1
  have f2 := h.free 2
  have f3 := h.free 3
  have H : Hid _ := h
  clear h
  have hmk : ∀ w : World, Sem.run Try.prog (Instr.makeSlice 32 (.int .i64 0) (.int .i64 0)) w = .ok (.slice (some ⟨w.heap.size, 0, none⟩) 0 0) (w.alloc (.cells (madeCells #[.int .i64 0] 0) 3)) :=
    fun w => run_make_row' (P := Try.prog) 32 3 (.int .i64 0) 8 Try.underlying32 info_int rfl .i64 .i64 0 (by omega) (by omega) w
  go_enter Try.func11, Try.ntmps11
  go_wp2
  refine wp_loop_rounds 1 ?_
  rw [rounds_succ]
  go_wp2
  exact bodyPost_ret (v := .tuple #[.int .i64 0, .bool false]) (by simp [results, Try.results11, go_sem]) rfl ⟨rfl, ⟨w.heap.size, RT.grown (RT.set3 (RT.set2 (RT.set1 (RT.set0 (show RT w xb false ver0 _ _ from H.out) true) ver) (.slice o 0 c)) (.slice (some ⟨w.heap.size, 0, none⟩) 0 0)) (by with_reducible (repeat (first | exact Gn.refl _ | refine Gn.gr ?_ _ | refine Gn.alloc ?_ _ | refine Gn.drew ?_)))⟩,
    (((((Kp.refl (fun j => j = xb) w).set xb 0 (.bool true) rfl).set xb 1 (.int .i64 ver) rfl).set xb 2 (.slice o 0 c) rfl).set xb 3 (.slice (some ⟨w.heap.size, 0, none⟩) 0 0) rfl).gn (by with_reducible (repeat (first | exact Gn.refl _ | refine Gn.gr ?_ _ | refine Gn.alloc ?_ _ | refine Gn.drew ?_)))⟩
end Go.Proofs.Ytidekhhelljjdaa
