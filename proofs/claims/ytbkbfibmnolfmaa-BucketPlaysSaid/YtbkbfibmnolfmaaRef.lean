/- The contracts of the reference's bucket. -/
import Derived.Test.YtbkbfibmnolfmaaBounds
namespace Go.Proofs.Ytbkbfibmnolfmaa
open Go.RowKit

/-- Block tb holds a bucket of the reference. -/
def RB (w : World) (tb : Nat) (ra ro no ha : Int) : Prop := w.heap[tb]? = some (.cells #[.int .i64 ra, .int .i64 ro, .int .i64 no, .int .i64 ha] 40 (0, 0))
section
variable {w w' : World} {tb : Nat} {ra ro no ha : Int}
theorem RB.lt (h : RB w tb ra ro no ha) : tb < w.heap.size := lt_of_block h
theorem RB.at (h : RB w tb ra ro no ha) (i : Nat) : w.cell? ⟨tb, i, none⟩ = (#[Value.int .i64 ra, .int .i64 ro, .int .i64 no, .int .i64 ha] : Array Value)[i]? := by
  simp [World.cell?, show w.heap[tb]? = _ from h]
theorem RB.free (h : RB w tb ra ro no ha) (i : Nat) : w.frozen? ⟨tb, i, none⟩ = false := by
  simp [World.frozen?, show w.heap[tb]? = _ from h]
theorem RB.kept {S : Nat → Prop} (h : RB w tb ra ro no ha) (hk : Kp S w w') (hs : ¬ S tb) : RB w' tb ra ro no ha := (hk.block tb h.lt hs).trans h
theorem RB.grown (h : RB w tb ra ro no ha) (hg : Gn w w') : RB w' tb ra ro no ha := h.kept (Kp.of_gn (fun _ => False) hg) (fun hh => hh)
theorem RB.set2 (h : RB w tb ra ro no ha) (x : Int) : RB (w.setCell ⟨tb, 2, none⟩ (.int .i64 x)) tb ra ro x ha := by
  unfold RB World.setCell at *; simp [Array.getElem?_modify, h]
theorem RB.set3 (h : RB w tb ra ro no ha) (x : Int) : RB (w.setCell ⟨tb, 3, none⟩ (.int .i64 x)) tb ra ro no x := by
  unfold RB World.setCell at *; simp [Array.getElem?_modify, h]
theorem RB.facts (h : RB w tb ra ro no ha) : tb < w.heap.size ∧ (w.cell? ⟨tb, 0, none⟩ = some (.int .i64 ra) ∧ w.cell? ⟨tb, 1, none⟩ = some (.int .i64 ro) ∧
    w.cell? ⟨tb, 2, none⟩ = some (.int .i64 no) ∧ w.cell? ⟨tb, 3, none⟩ = some (.int .i64 ha)) ∧ (w.frozen? ⟨tb, 2, none⟩ = false ∧ w.frozen? ⟨tb, 3, none⟩ = false) :=
  ⟨h.lt, ⟨by rw [h.at]; rfl, by rw [h.at]; rfl, by rw [h.at]; rfl, by rw [h.at]; rfl⟩, h.free 2, h.free 3⟩
end
theorem rb_new (W : World) (ra ro no ha : Int) (n : Nat) (hn : n = W.heap.size) : RB (W.alloc (.cells #[.int .i64 ra, .int .i64 ro, .int .i64 no, .int .i64 ha] 40)) n ra ro no ha := by
  subst hn
  exact heap_alloc_new W _

theorem rnew_no (ra ro : Int) (w : World) (h : (may ra && may ro) = false) : Calls Try.prog 11 #[.int .i64 ra, .int .i64 ro] w fun e w' => e = .returned (.pointer none) ∧ Gn w w' := by
  have h' : ra < 0 ∨ 1048576 < ra ∨ ro < 0 ∨ 1048576 < ro := by
    unfold may at h
    by_cases a : 0 ≤ ra <;> by_cases b : ra ≤ 1048576 <;> by_cases c : 0 ≤ ro <;> by_cases d : ro ≤ 1048576 <;> first | omega | simp_all
  go_enter Try.func11, Try.ntmps11
  go_wp2
  all_goals first
    | omega
    | (go_ret; exact ⟨rfl, (by with_reducible (repeat (first | exact Gn.refl _ | refine Gn.gr ?_ _ | refine Gn.alloc ?_ _ | refine Gn.drew ?_)))⟩)
theorem rnew_is (ra ro : Int) (w : World) (h1 : may ra = true) (h2 : may ro = true) : Calls Try.prog 11 #[.int .i64 ra, .int .i64 ro] w fun e w' => ∃ tb, e = .returned (.pointer (some ⟨tb, 0, none⟩)) ∧ w.heap.size ≤ tb ∧ RB w' tb ra ro 0 ro ∧ Gn w w' := by
  unfold may at h1 h2
  simp only [Bool.and_eq_true, decide_eq_true_eq] at h1 h2
  go_enter Try.func11, Try.ntmps11
  go_wp2
  all_goals first
    | omega
    | (go_ret; exact ⟨_, rfl, by omega, rb_new _ _ _ _ _ _ rfl, (by with_reducible (repeat (first | exact Gn.refl _ | refine Gn.gr ?_ _ | refine Gn.alloc ?_ _ | refine Gn.drew ?_)))⟩)
theorem rtake_no (tb : Nat) (ra ro no ha n : Int) (w : World) (h : RB w tb ra ro no ha) (hn : n < 0 ∨ ha < n) : Calls Try.prog 14 #[.pointer (some ⟨tb, 0, none⟩), .int .i64 n] w fun e w' => e = .returned (.bool false) ∧ Gn w w' := by
  obtain ⟨tl, ⟨c0, c1, c2, c3⟩, _⟩ := h.facts
  clear h
  go_enter Try.func14, Try.ntmps14
  go_wp2
  all_goals first
    | omega
    | (go_ret; exact ⟨rfl, (by with_reducible (repeat (first | exact Gn.refl _ | refine Gn.gr ?_ _ | refine Gn.alloc ?_ _ | refine Gn.drew ?_)))⟩)
theorem rtake_is (tb : Nat) (ra ro no ha n : Int) (w : World) (h : RB w tb ra ro no ha) (h0 : 0 ≤ n) (h1 : n ≤ ha) (h2 : ha ≤ 1048576) : Calls Try.prog 14 #[.pointer (some ⟨tb, 0, none⟩), .int .i64 n] w fun e w' =>
    e = .returned (.bool true) ∧ RB w' tb ra ro no (ha - n) ∧ Kp (fun j => j = tb) w w' := by
  obtain ⟨tl, ⟨c0, c1, c2, c3⟩, f2, f3⟩ := h.facts
  have H : Hid _ := h
  clear h
  go_enter Try.func14, Try.ntmps14
  go_wp2
  all_goals first
    | omega
    | (go_ret
       exact ⟨rfl, RB.grown (RB.set3 (show RB w tb ra ro no ha from H.out) _) (by with_reducible (repeat (first | exact Gn.refl _ | refine Gn.gr ?_ _ | refine Gn.alloc ?_ _ | refine Gn.drew ?_))), ((Kp.refl (fun j => j = tb) w).set tb 3 _ rfl).gn (by with_reducible (repeat (first | exact Gn.refl _ | refine Gn.gr ?_ _ | refine Gn.alloc ?_ _ | refine Gn.drew ?_)))⟩)
theorem rgo_no (tb : Nat) (ra ro no ha t : Int) (w : World) (h : RB w tb ra ro no ha) (ht : t < no ∨ 1099511627776 < t) : Calls Try.prog 13 #[.pointer (some ⟨tb, 0, none⟩), .int .i64 t] w fun e w' => e = .returned (.int .i64 15) ∧ Gn w w' := by
  obtain ⟨tl, ⟨c0, c1, c2, c3⟩, _⟩ := h.facts
  clear h
  by_cases h0 : t < no
  · have d0 : decide (t < no) = true := by simpa using h0
    go_enter Try.func13, Try.ntmps13
    go_wp2
    all_goals first
      | omega
      | (go_ret; exact ⟨rfl, (by with_reducible (repeat (first | exact Gn.refl _ | refine Gn.gr ?_ _ | refine Gn.alloc ?_ _ | refine Gn.drew ?_)))⟩)
  · have d0 : decide (t < no) = false := by simpa using h0
    have d1 : decide (1099511627776 < t) = true := by rw [decide_eq_true_eq]; omega
    go_enter Try.func13, Try.ntmps13
    go_wp2
    all_goals first
      | omega
      | (go_ret; exact ⟨rfl, (by with_reducible (repeat (first | exact Gn.refl _ | refine Gn.gr ?_ _ | refine Gn.alloc ?_ _ | refine Gn.drew ?_)))⟩)

set_option maxHeartbeats 4000000 in
set_option maxRecDepth 100000 in
theorem rwhen_is (tb : Nat) (ra ro no ha n : Int) (w : World) (h : RB w tb ra ro no ha) (h0 : 0 ≤ no ∧ no ≤ 1099511627776) (h2 : 0 ≤ ra ∧ ra ≤ 1048576) (h3 : 0 ≤ ro ∧ ro ≤ 1048576) (h4 : 0 ≤ ha ∧ ha ≤ ro) :
    Calls Try.prog 15 #[.pointer (some ⟨tb, 0, none⟩), .int .i64 n] w fun e w' => e = .returned (.int .i64 (whenV ra ro no ha n)) ∧ Gn w w' := by
  obtain ⟨tl, ⟨c0, c1, c2, c3⟩, _⟩ := h.facts
  clear h
  by_cases b1 : n < 0 ∨ ro < n
  · have e : whenV ra ro no ha n = -1 := by unfold whenV; rw [if_pos b1]
    rw [e]
    go_enter Try.func15, Try.ntmps15
    go_wp2
    all_goals first
      | omega
      | (go_ret; exact ⟨rfl, (by with_reducible (repeat (first | exact Gn.refl _ | refine Gn.gr ?_ _ | refine Gn.alloc ?_ _ | refine Gn.drew ?_)))⟩)
  by_cases b3 : n ≤ ha
  · have e : whenV ra ro no ha n = no := by unfold whenV; rw [if_neg b1, if_pos b3]
    rw [e]
    go_enter Try.func15, Try.ntmps15
    go_wp2
    all_goals first
      | omega
      | (go_ret; exact ⟨rfl, (by with_reducible (repeat (first | exact Gn.refl _ | refine Gn.gr ?_ _ | refine Gn.alloc ?_ _ | refine Gn.drew ?_)))⟩)
  by_cases b4 : ra = 0
  · have e : whenV ra ro no ha n = -1 := by unfold whenV; rw [if_neg b1, if_neg b3, if_pos b4]
    have db : (ra == 0) = true := by rw [b4]; rfl
    rw [e]
    go_enter Try.func15, Try.ntmps15
    go_wp2
    all_goals first
      | omega
      | (go_ret; exact ⟨rfl, (by with_reducible (repeat (first | exact Gn.refl _ | refine Gn.gr ?_ _ | refine Gn.alloc ?_ _ | refine Gn.drew ?_)))⟩)
  have dr : (ra == 0) = false := by rw [beq_eq_false_iff_ne]; omega
  have n0 : 0 ≤ n ∧ n ≤ ro ∧ ha < n := by omega
  obtain ⟨dq, hdq⟩ : ∃ dq, (n - ha - 1) / ra = dq := ⟨_, rfl⟩
  have hq0 : 0 ≤ (n - ha - 1) / ra := Int.ediv_nonneg (by omega) (by omega)
  have hq1 : (n - ha - 1) / ra ≤ n - ha - 1 := Int.ediv_le_self _ (by omega)
  have hup : (n - ha + ra - 1) / ra = dq + 1 := by
    rw [← hdq, show n - ha + ra - 1 = n - ha - 1 + 1 * ra by omega, Int.add_mul_ediv_right _ _ b4]
  rw [hdq] at hq0 hq1
  by_cases b5 : 1099511627776 < no + (dq + 1)
  · have e : whenV ra ro no ha n = -1 := by unfold whenV; rw [if_neg b1, if_neg b3, if_neg b4, hdq, if_pos b5]
    rw [e]
    clear b1 e hdq
    go_enter Try.func15, Try.ntmps15
    go_wp2
    all_goals first
      | omega
      | (refine wp_region_gr (by kernel_rfl) (by kernel_rfl) ?_
         repeat (go_big_quiet_step (fail))
         refine wpQuiet_nil ?_
         rintro _ ⟨q4, rfl⟩
         try rw [hup]
         go_wp2
         all_goals first
           | omega
           | (go_ret; exact ⟨rfl, (by with_reducible (repeat (first | exact Gn.refl _ | refine Gn.gr ?_ _ | refine Gn.alloc ?_ _ | refine Gn.drew ?_)))⟩))
  · have e : whenV ra ro no ha n = no + (dq + 1) := by unfold whenV; rw [if_neg b1, if_neg b3, if_neg b4, hdq, if_neg b5]
    rw [e]
    clear b1 e hdq
    go_enter Try.func15, Try.ntmps15
    go_wp2
    all_goals first
      | omega
      | (refine wp_region_gr (by kernel_rfl) (by kernel_rfl) ?_
         repeat (go_big_quiet_step (fail))
         refine wpQuiet_nil ?_
         rintro _ ⟨q4, rfl⟩
         try rw [hup]
         go_wp2
         all_goals first
           | omega
           | (go_ret; exact ⟨rfl, (by with_reducible (repeat (first | exact Gn.refl _ | refine Gn.gr ?_ _ | refine Gn.alloc ?_ _ | refine Gn.drew ?_)))⟩))
end Go.Proofs.Ytbkbfibmnolfmaa
