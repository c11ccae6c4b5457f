/- Pick of an empty set: the program's and the reference's, at every state. -/
import Derived.Test.YtidekhhelljjdaaREmp
import Derived.Test.YtidekhhelljjdaaRNext
import Derived.Test.YtidekhhelljjdaaVer
namespace Go.Proofs.Ytidekhhelljjdaa
open Go.RowKit

set_option maxHeartbeats 1600000 in
set_option maxRecDepth 100000 in
theorem rpick_empty_next (xb : Nat) (ver0 ver : Int) (o1 o2 o : Option Addr) (n1 c1 n2 c2 c : Nat) (w : World) (h : RT w xb true ver0 (.slice o1 n1 c1) (.slice o2 n2 c2)) (hver : ver0 ≠ ver) :
    Calls Try.prog 11 #[.pointer (some ⟨xb, 0, none⟩), .int .i64 ver, .slice o 0 c] w fun y w' => y = .returned (.tuple #[.int .i64 0, .bool false]) ∧
      (∃ nb, RT w' xb true ver (.slice o 0 c) (.slice (some ⟨nb, 0, none⟩) 0 0)) ∧ Kp (fun j => j = xb) w w' := by
  obtain ⟨tl, x0, x1, x2, x3⟩ := h.facts
  have f0 := h.free 0
  have f1 := h.free 1
  have f2 := h.free 2
  have f3 := h.free 3
  have H : Hid _ := h
  clear h
  have hvb : (ver0 == ver) = false := by rw [beq_eq_false_iff_ne]; exact hver
  have hvn : (ver0 != ver) = true := by rw [bne_iff_ne]; exact hver
  have hmk : ∀ w : World, Sem.run Try.prog (Instr.makeSlice 32 (.int .i64 0) (.int .i64 0)) w = .ok (.slice (some ⟨w.heap.size, 0, none⟩) 0 0) (w.alloc (.cells (madeCells #[.int .i64 0] 0) 3)) :=
    fun w => run_make_row' (P := Try.prog) 32 3 (.int .i64 0) 8 Try.underlying32 info_int rfl .i64 .i64 0 (by omega) (by omega) w
  go_enter Try.func11, Try.ntmps11
  go_wp2
  refine wp_loop_rounds 1 ?_
  rw [rounds_succ]
  go_wp2
  exact bodyPost_ret (v := .tuple #[.int .i64 0, .bool false]) (by simp [results, Try.results11, go_sem]) rfl ⟨rfl, ⟨w.heap.size, RT.grown (RT.set3 (RT.set2 (RT.set1 (RT.set0 (show RT w xb true ver0 _ _ from H.out) true) ver) (.slice o 0 c)) (.slice (some ⟨w.heap.size, 0, none⟩) 0 0)) (by with_reducible (repeat (first | exact Gn.refl _ | refine Gn.gr ?_ _ | refine Gn.alloc ?_ _ | refine Gn.drew ?_)))⟩,
    (((((Kp.refl (fun j => j = xb) w).set xb 0 (.bool true) rfl).set xb 1 (.int .i64 ver) rfl).set xb 2 (.slice o 0 c) rfl).set xb 3 (.slice (some ⟨w.heap.size, 0, none⟩) 0 0) rfl).gn (by with_reducible (repeat (first | exact Gn.refl _ | refine Gn.gr ?_ _ | refine Gn.alloc ?_ _ | refine Gn.drew ?_)))⟩

set_option maxHeartbeats 1600000 in
set_option maxRecDepth 100000 in
theorem rpick_again (xb nb : Nat) (ver : Int) (o1 : Option Addr) (c1 : Nat) (v : Value) (w : World) (h : RT w xb true ver (.slice o1 0 c1) (.slice (some ⟨nb, 0, none⟩) 0 0)) :
    Calls Try.prog 11 #[.pointer (some ⟨xb, 0, none⟩), .int .i64 ver, v] w fun y w' => y = .returned (.tuple #[.int .i64 0, .bool false]) ∧
      RT w' xb true ver (.slice o1 0 c1) (.slice (some ⟨nb, 0, none⟩) 0 0) ∧ Kp (fun j => j = xb) w w' := by
  obtain ⟨tl, x0, x1, x2, x3⟩ := h.facts
  have H : Hid _ := h
  clear h
  go_enter Try.func11, Try.ntmps11
  go_wp2
  refine wp_loop_rounds 1 ?_
  rw [rounds_succ]
  go_wp2
  exact bodyPost_ret (v := .tuple #[.int .i64 0, .bool false]) (by simp [results, Try.results11, go_sem]) rfl ⟨rfl, RT.grown (show RT w xb true ver _ _ from H.out) (by with_reducible (repeat (first | exact Gn.refl _ | refine Gn.gr ?_ _ | refine Gn.alloc ?_ _ | refine Gn.drew ?_))),
    Kp.of_gn _ (by with_reducible (repeat (first | exact Gn.refl _ | refine Gn.gr ?_ _ | refine Gn.alloc ?_ _ | refine Gn.drew ?_)))⟩

theorem weight_nil (x : Int) (o : Option Addr) (c : Nat) (w : World) : Calls Try.prog 16 #[.agg #[.int .i64 x, .slice o 0 c]] w fun e w' => e = .returned (.int .i64 0) ∧ Gn w w' := by
  go_enter Try.func16, Try.ntmps16
  go_wp2
  refine wp_loop_rounds 1 ?_
  rw [rounds_succ]
  go_wp2
  go_ret
  exact ⟨rfl, by repeat (first | exact Gn.refl _ | refine Gn.gr ?_ _ | refine Gn.alloc ?_ _)⟩

set_option maxHeartbeats 4000000 in
theorem set_nil (tb : Nat) (ver ver' W0 : Int) (sm : Bool) (sv : Value) (o : Option Addr) (c : Nat) (w : World) (h : TB w tb true sm ver W0 sv) (hs : sm = false ∨ ver ≠ ver') :
    Calls Try.prog 14 #[.pointer (some ⟨tb, 0, none⟩), .agg #[.int .i64 ver', .slice o 0 c]] w fun e w' => (∃ y, e = .returned y) ∧ TB w' tb true true ver' 0 (.slice none 0 0) ∧ Kp (fun j => j = tb) w w' := by
  have hl := h.lt
  have c0 := h.at 0
  have c1 := h.at 1
  have c2 := h.at 2
  have c3 := h.at 3
  have c4 := h.at 4
  simp only [List.getElem?_toArray, List.getElem?_cons_zero, List.getElem?_cons_succ] at c0 c1 c2 c3 c4
  have f1 := h.free 1
  have f2 := h.free 2
  have f3 := h.free 3
  have f4 := h.free 4
  have HT : Hid _ := h
  clear h
  cases sm
  · go_enter Try.func14, Try.ntmps14
    go_wp2
    refine wp_region_gr (by kernel_rfl) (by kernel_rfl) ?_
    repeat (go_big_quiet_step (fail))
    refine wpQuiet_nil ?_
    rintro _ ⟨q4, rfl⟩
    go_wp2
    obtain ⟨wq, hwq⟩ : ∃ x, ((w.alloc (.cells #[.int .i64 ver', .slice o 0 c] 36)).gr q4) = x := ⟨_, rfl⟩
    have hgq : Gn w wq := by rw [← hwq]; exact (by with_reducible (repeat (first | exact Gn.refl _ | refine Gn.gr ?_ _ | refine Gn.alloc ?_ _ | refine Gn.drew ?_)))
    have e0 : wq.cell? ⟨w.heap.size, 0, none⟩ = some (.int .i64 ver') := by rw [← hwq, cell?_gr _ _ _ _ (by simp)]; simp
    have e1 : wq.cell? ⟨w.heap.size, 1, none⟩ = some (.slice o 0 c) := by rw [← hwq, cell?_gr _ _ _ _ (by simp)]; simp
    have hslt : w.heap.size < wq.heap.size := World.block_lt_of_cell? wq _ e0
    rw [hwq]
    clear hwq
    have HG : Hid _ := hgq
    clear hgq c0 c1 c2 c3 c4 f1 f2 f3 f4
    have htw : tb ≠ w.heap.size := by omega
    go_region_held3 (fun w' => w'.cell? ⟨w.heap.size, 0, none⟩ = some (.int .i64 ver') ∧ w'.cell? ⟨w.heap.size, 1, none⟩ = some (.slice o 0 c))
      (first | go_keep | (go_split_ands; refine ⟨?_, ?_⟩ <;> (exact gn_cell hg2 (by assumption))))
      (first | (go_at_call 16; refine (weight_nil _ _ _ _).mono ?_; rintro y w' ⟨rfl, hg2⟩; have HG2 : Hid _ := hg2; obtain ⟨tl, ⟨c0, c1, c2, c3, c4⟩, f1, f2, f3, f4⟩ := TB.facts (TB.grown (TB.grown (show TB w tb true false ver W0 sv from HT.out) (Gn.drew HG.out)) hg2)))
    all_goals
      go_wp2
      refine wp_loop_rounds 1 ?_
      rw [rounds_succ]
      go_wp2
      go_end0
      exact ⟨⟨_, rfl⟩, TB.set4 (TB.set3 (TB.set2 (TB.set1 (TB.grown (TB.grown (show TB w tb true false ver W0 sv from HT.out) (Gn.drew HG.out)) HG2.out) _) _) _) _, ((((Kp.of_gn (fun j => j = tb) ((Gn.drew HG.out).trans HG2.out)).set tb 1 _ rfl).set tb 2 _ rfl).set tb 3 _ rfl).set tb 4 _ rfl⟩
  · have hnv : ver ≠ ver' := by simpa using hs
    go_enter Try.func14, Try.ntmps14
    go_wp2
    refine wp_region_gr (by kernel_rfl) (by kernel_rfl) ?_
    repeat (go_big_quiet_step (fail))
    refine wpQuiet_nil ?_
    rintro _ ⟨q4, rfl⟩
    go_wp2
    obtain ⟨wq, hwq⟩ : ∃ x, ((w.alloc (.cells #[.int .i64 ver', .slice o 0 c] 36)).gr q4) = x := ⟨_, rfl⟩
    have hgq : Gn w wq := by rw [← hwq]; exact (by with_reducible (repeat (first | exact Gn.refl _ | refine Gn.gr ?_ _ | refine Gn.alloc ?_ _ | refine Gn.drew ?_)))
    have e0 : wq.cell? ⟨w.heap.size, 0, none⟩ = some (.int .i64 ver') := by rw [← hwq, cell?_gr _ _ _ _ (by simp)]; simp
    have e1 : wq.cell? ⟨w.heap.size, 1, none⟩ = some (.slice o 0 c) := by rw [← hwq, cell?_gr _ _ _ _ (by simp)]; simp
    have hslt : w.heap.size < wq.heap.size := World.block_lt_of_cell? wq _ e0
    rw [hwq]
    clear hwq
    have HG : Hid _ := hgq
    clear hgq c0 c1 c2 c3 c4 f1 f2 f3 f4
    have htw : tb ≠ w.heap.size := by omega
    go_region_held3 (fun w' => w'.cell? ⟨w.heap.size, 0, none⟩ = some (.int .i64 ver') ∧ w'.cell? ⟨w.heap.size, 1, none⟩ = some (.slice o 0 c))
      (first | go_keep | (go_split_ands; refine ⟨?_, ?_⟩ <;> (exact gn_cell hg2 (by assumption))))
      (first | (go_at_call 16; refine (weight_nil _ _ _ _).mono ?_; rintro y w' ⟨rfl, hg2⟩; have HG2 : Hid _ := hg2; obtain ⟨tl, ⟨c0, c1, c2, c3, c4⟩, f1, f2, f3, f4⟩ := TB.facts (TB.grown (TB.grown (show TB w tb true true ver W0 sv from HT.out) (Gn.drew HG.out)) hg2)))
    all_goals
      go_wp2
      refine wp_loop_rounds 1 ?_
      rw [rounds_succ]
      go_wp2
      go_end0
      exact ⟨⟨_, rfl⟩, TB.set4 (TB.set3 (TB.set2 (TB.set1 (TB.grown (TB.grown (show TB w tb true true ver W0 sv from HT.out) (Gn.drew HG.out)) HG2.out) _) _) _) _, ((((Kp.of_gn (fun j => j = tb) ((Gn.drew HG.out).trans HG2.out)).set tb 1 _ rfl).set tb 2 _ rfl).set tb 3 _ rfl).set tb 4 _ rfl⟩
theorem pick_empty2 (tb : Nat) (sm : Bool) (ver0 W0 ver : Int) (sv0 : Value) (o : Option Addr) (c : Nat) (w : World) (h : TB w tb true sm ver0 W0 sv0) (hs : sm = false ∨ ver0 ≠ ver) :
    Calls Try.prog 9 #[.pointer (some ⟨tb, 0, none⟩), .agg #[.int .i64 ver, .slice o 0 c]] w fun y w' => y = .returned (.tuple #[.int .i64 0, .bool false]) ∧ TB w' tb true true ver 0 (.slice none 0 0) ∧ Kp (fun j => j = tb) w w' :=
  pick_none tb ver _ w _ _ _ _ h (fun w' hg => set_nil tb ver0 ver W0 sm sv0 o c w' (h.grown hg) hs) ⟨_, _, _, rfl⟩
end Go.Proofs.Ytidekhhelljjdaa
