/- The contracts of the bucket's functions. -/
import Derived.Test.YtbkbfibmnolfmaaOwn
import Derived.Test.YtbkbfibmnolfmaaMixZ
namespace Go.Proofs.Ytbkbfibmnolfmaa
open Go.RowKit

theorem within_is (n : Int) (w : World) : Calls Try.prog 16 #[.int .i64 n] w fun e w' => e = .returned (.bool (decide (0 ≤ n) && decide (n ≤ 1048576))) ∧ Gn w w' := by
  by_cases h : 0 ≤ n
  · go_enter Try.func16, Try.ntmps16
    go_wp2
    go_ret
    exact ⟨bool_ret (by simp [h]), (by with_reducible (repeat (first | exact Gn.refl _ | refine Gn.gr ?_ _ | refine Gn.alloc ?_ _ | refine Gn.drew ?_)))⟩
  · have hd : decide (0 ≤ n) = false := by simpa using h
    go_enter Try.func16, Try.ntmps16
    go_wp2
    go_ret
    exact ⟨bool_ret (by simp [hd]), (by with_reducible (repeat (first | exact Gn.refl _ | refine Gn.gr ?_ _ | refine Gn.alloc ?_ _ | refine Gn.drew ?_)))⟩
theorem given_nil (w : World) : Calls Try.prog 17 #[.pointer none] w fun e w' => e = .returned (.bool false) ∧ Gn w w' := by
  go_enter Try.func17, Try.ntmps17
  go_wp2
  go_ret
  exact ⟨rfl, (by with_reducible (repeat (first | exact Gn.refl _ | refine Gn.gr ?_ _ | refine Gn.alloc ?_ _ | refine Gn.drew ?_)))⟩
theorem given_is (tb : Nat) (mk : Bool) (ra ro no ha : Int) (w : World) (h : BB w tb mk ra ro no ha) : Calls Try.prog 17 #[.pointer (some ⟨tb, 0, none⟩)] w fun e w' => e = .returned (.bool mk) ∧ Gn w w' := by
  obtain ⟨tl, ⟨c0, c1, c2, c3, c4⟩, _⟩ := h.facts
  go_enter Try.func17, Try.ntmps17
  go_wp2
  go_ret
  exact ⟨rfl, (by with_reducible (repeat (first | exact Gn.refl _ | refine Gn.gr ?_ _ | refine Gn.alloc ?_ _ | refine Gn.drew ?_)))⟩

def may (n : Int) : Bool := decide (0 ≤ n) && decide (n ≤ 1048576)
theorem new_no (ra ro : Int) (w : World) (h : (may ra && may ro) = false) : Calls Try.prog 5 #[.int .i64 ra, .int .i64 ro] w fun e w' => e = .returned (.pointer none) ∧ Gn w w' := by
  unfold may at h
  cases h1 : (decide (0 ≤ ra) && decide (ra ≤ 1048576)) <;> cases h2 : (decide (0 ≤ ro) && decide (ro ≤ 1048576))
  all_goals first
    | (rw [h1, h2] at h; exact absurd h (by decide))
    | (clear h
       go_enter Try.func5, Try.ntmps5
       go_wp2_with (first
         | (go_at_call_of 16 ra; refine (within_is ra _).mono ?_; rintro y w' ⟨rfl, q, rfl⟩; (try simp only [h1]))
         | (go_at_call_of 16 ro; refine (within_is ro _).mono ?_; rintro y w' ⟨rfl, q, rfl⟩; (try simp only [h2])))
       go_ret
       exact ⟨rfl, (by with_reducible (repeat (first | exact Gn.refl _ | refine Gn.gr ?_ _ | refine Gn.alloc ?_ _ | refine Gn.drew ?_)))⟩)
theorem bb_new (W : World) (mk : Bool) (ra ro no ha : Int) (n : Nat) (hn : n = W.heap.size) : BB (W.alloc (.cells #[.bool mk, .int .i64 ra, .int .i64 ro, .int .i64 no, .int .i64 ha] 43)) n mk ra ro no ha := by
  subst hn
  exact heap_alloc_new W _
theorem new_is (ra ro : Int) (w : World) (h1 : may ra = true) (h2 : may ro = true) : Calls Try.prog 5 #[.int .i64 ra, .int .i64 ro] w fun e w' => ∃ tb, e = .returned (.pointer (some ⟨tb, 0, none⟩)) ∧ w.heap.size ≤ tb ∧ BB w' tb true ra ro 0 ro ∧ Gn w w' := by
  unfold may at h1 h2
  go_enter Try.func5, Try.ntmps5
  go_wp2_with (first
    | (go_at_call_of 16 ra; refine (within_is ra _).mono ?_; rintro y w' ⟨rfl, q, rfl⟩; (try simp only [h1]))
    | (go_at_call_of 16 ro; refine (within_is ro _).mono ?_; rintro y w' ⟨rfl, q, rfl⟩; (try simp only [h2])))
  go_ret
  exact ⟨_, rfl, by omega, bb_new _ _ _ _ _ _ _ (by simp only [size_gr, Array.size_append]), (by with_reducible (repeat (first | exact Gn.refl _ | refine Gn.gr ?_ _ | refine Gn.alloc ?_ _ | refine Gn.drew ?_)))⟩

theorem have_nil (w : World) : Calls Try.prog 9 #[.pointer none] w fun e w' => e = .returned (.int .i64 0) ∧ Gn w w' := by
  go_enter Try.func9, Try.ntmps9
  go_wp2_with (first | (go_at_call 17; refine (given_nil _).mono ?_; rintro y w' ⟨rfl, q, rfl⟩))
  go_ret
  exact ⟨rfl, (by with_reducible (repeat (first | exact Gn.refl _ | refine Gn.gr ?_ _ | refine Gn.alloc ?_ _ | refine Gn.drew ?_)))⟩
theorem have_is (tb : Nat) (mk : Bool) (ra ro no ha : Int) (w : World) (h : BB w tb mk ra ro no ha) : Calls Try.prog 9 #[.pointer (some ⟨tb, 0, none⟩)] w fun e w' => e = .returned (.int .i64 (if mk then ha else 0)) ∧ Gn w w' := by
  obtain ⟨tl, ⟨c0, c1, c2, c3, c4⟩, _⟩ := h.facts
  have H : Hid _ := h
  clear h
  cases mk
  all_goals
    go_enter Try.func9, Try.ntmps9
    go_wp2_with (first | (go_at_call 17; refine (given_is tb _ ra ro no ha _ (BB.grown H.out (by with_reducible (repeat (first | exact Gn.refl _ | refine Gn.gr ?_ _ | refine Gn.alloc ?_ _ | refine Gn.drew ?_))))).mono ?_; rintro y w' ⟨rfl, q, rfl⟩))
    go_ret
    exact ⟨rfl, (by with_reducible (repeat (first | exact Gn.refl _ | refine Gn.gr ?_ _ | refine Gn.alloc ?_ _ | refine Gn.drew ?_)))⟩

theorem take_no (tb : Nat) (mk : Bool) (ra ro no ha n : Int) (w : World) (h : BB w tb mk ra ro no ha) (hn : mk = false ∨ n < 0 ∨ ha < n) : Calls Try.prog 8 #[.pointer (some ⟨tb, 0, none⟩), .int .i64 n] w fun e w' => e = .returned (.bool false) ∧ Gn w w' := by
  obtain ⟨tl, ⟨c0, c1, c2, c3, c4⟩, _⟩ := h.facts
  have H : Hid _ := h
  clear h
  cases mk
  · go_enter Try.func8, Try.ntmps8
    go_wp2_with (first | (go_at_call 17; refine (given_is tb _ ra ro no ha _ (BB.grown H.out (by with_reducible (repeat (first | exact Gn.refl _ | refine Gn.gr ?_ _ | refine Gn.alloc ?_ _ | refine Gn.drew ?_))))).mono ?_; rintro y w' ⟨rfl, q, rfl⟩))
    go_ret
    exact ⟨rfl, (by with_reducible (repeat (first | exact Gn.refl _ | refine Gn.gr ?_ _ | refine Gn.alloc ?_ _ | refine Gn.drew ?_)))⟩
  · by_cases h0 : n < 0
    · have d0 : decide (n < 0) = true := by simpa using h0
      go_enter Try.func8, Try.ntmps8
      go_wp2_with (first | (go_at_call 17; refine (given_is tb _ ra ro no ha _ (BB.grown H.out (by with_reducible (repeat (first | exact Gn.refl _ | refine Gn.gr ?_ _ | refine Gn.alloc ?_ _ | refine Gn.drew ?_))))).mono ?_; rintro y w' ⟨rfl, q, rfl⟩))
      all_goals first
        | omega
        | (go_ret; exact ⟨rfl, (by with_reducible (repeat (first | exact Gn.refl _ | refine Gn.gr ?_ _ | refine Gn.alloc ?_ _ | refine Gn.drew ?_)))⟩)
    · have d0 : decide (n < 0) = false := by simpa using h0
      have d1 : decide (ha < n) = true := by
        rcases hn with h | h | h
        · cases h
        · omega
        · simpa using h
      go_enter Try.func8, Try.ntmps8
      go_wp2_with (first | (go_at_call 17; refine (given_is tb _ ra ro no ha _ (BB.grown H.out (by with_reducible (repeat (first | exact Gn.refl _ | refine Gn.gr ?_ _ | refine Gn.alloc ?_ _ | refine Gn.drew ?_))))).mono ?_; rintro y w' ⟨rfl, q, rfl⟩))
      all_goals first
        | omega
        | (go_ret; exact ⟨rfl, (by with_reducible (repeat (first | exact Gn.refl _ | refine Gn.gr ?_ _ | refine Gn.alloc ?_ _ | refine Gn.drew ?_)))⟩)
theorem take_is (tb : Nat) (ra ro no ha n : Int) (w : World) (h : BB w tb true ra ro no ha) (h0 : 0 ≤ n) (h1 : n ≤ ha) (h2 : ha ≤ 1048576) : Calls Try.prog 8 #[.pointer (some ⟨tb, 0, none⟩), .int .i64 n] w fun e w' =>
    e = .returned (.bool true) ∧ BB w' tb true ra ro no (ha - n) ∧ Kp (fun j => j = tb) w w' := by
  obtain ⟨tl, ⟨c0, c1, c2, c3, c4⟩, f3, f4⟩ := h.facts
  have H : Hid _ := h
  clear h
  have d0 : decide (n < 0) = false := by simpa using h0
  have d1 : decide (ha < n) = false := by simpa using h1
  go_enter Try.func8, Try.ntmps8
  go_wp2_with (first | (go_at_call 17; refine (given_is tb _ ra ro no ha _ (BB.grown H.out (by with_reducible (repeat (first | exact Gn.refl _ | refine Gn.gr ?_ _ | refine Gn.alloc ?_ _ | refine Gn.drew ?_))))).mono ?_; rintro y w' ⟨rfl, q, rfl⟩))
  all_goals first
    | omega
    | (go_ret
       exact ⟨rfl, BB.grown (BB.set4 (show BB w tb true ra ro no ha from H.out) _) (by with_reducible (repeat (first | exact Gn.refl _ | refine Gn.gr ?_ _ | refine Gn.alloc ?_ _ | refine Gn.drew ?_))), ((Kp.refl (fun j => j = tb) w).set tb 4 _ rfl).gn (by with_reducible (repeat (first | exact Gn.refl _ | refine Gn.gr ?_ _ | refine Gn.alloc ?_ _ | refine Gn.drew ?_)))⟩)

theorem go_nil (t : Int) (w : World) : Calls Try.prog 7 #[.pointer none, .int .i64 t] w fun e w' => e = .returned (.int .i64 1) ∧ Gn w w' := by
  go_enter Try.func7, Try.ntmps7
  go_wp2_with (first | (go_at_call 17; refine (given_nil _).mono ?_; rintro y w' ⟨rfl, q, rfl⟩))
  go_ret
  exact ⟨rfl, (by with_reducible (repeat (first | exact Gn.refl _ | refine Gn.gr ?_ _ | refine Gn.alloc ?_ _ | refine Gn.drew ?_)))⟩
theorem go_plain (tb : Nat) (ra ro no ha t : Int) (w : World) (h : BB w tb false ra ro no ha) : Calls Try.prog 7 #[.pointer (some ⟨tb, 0, none⟩), .int .i64 t] w fun e w' => e = .returned (.int .i64 1) ∧ Gn w w' := by
  have H : Hid _ := h
  clear h
  go_enter Try.func7, Try.ntmps7
  go_wp2_with (first | (go_at_call 17; refine (given_is tb _ ra ro no ha _ (BB.grown H.out (by with_reducible (repeat (first | exact Gn.refl _ | refine Gn.gr ?_ _ | refine Gn.alloc ?_ _ | refine Gn.drew ?_))))).mono ?_; rintro y w' ⟨rfl, q, rfl⟩))
  go_ret
  exact ⟨rfl, (by with_reducible (repeat (first | exact Gn.refl _ | refine Gn.gr ?_ _ | refine Gn.alloc ?_ _ | refine Gn.drew ?_)))⟩
theorem go_no (tb : Nat) (ra ro no ha t : Int) (w : World) (h : BB w tb true ra ro no ha) (ht : t < no ∨ 1099511627776 < t) : Calls Try.prog 7 #[.pointer (some ⟨tb, 0, none⟩), .int .i64 t] w fun e w' => e = .returned (.int .i64 15) ∧ Gn w w' := by
  obtain ⟨tl, ⟨c0, c1, c2, c3, c4⟩, _⟩ := h.facts
  have H : Hid _ := h
  clear h
  by_cases h0 : t < no
  · have d0 : decide (t < no) = true := by simpa using h0
    go_enter Try.func7, Try.ntmps7
    go_wp2_with (first | (go_at_call 17; refine (given_is tb _ ra ro no ha _ (BB.grown H.out (by with_reducible (repeat (first | exact Gn.refl _ | refine Gn.gr ?_ _ | refine Gn.alloc ?_ _ | refine Gn.drew ?_))))).mono ?_; rintro y w' ⟨rfl, q, rfl⟩))
    all_goals first
      | omega
      | (go_ret; exact ⟨rfl, (by with_reducible (repeat (first | exact Gn.refl _ | refine Gn.gr ?_ _ | refine Gn.alloc ?_ _ | refine Gn.drew ?_)))⟩)
  · have d0 : decide (t < no) = false := by simpa using h0
    have d1 : decide (1099511627776 < t) = true := by rw [decide_eq_true_eq]; omega
    go_enter Try.func7, Try.ntmps7
    go_wp2_with (first | (go_at_call 17; refine (given_is tb _ ra ro no ha _ (BB.grown H.out (by with_reducible (repeat (first | exact Gn.refl _ | refine Gn.gr ?_ _ | refine Gn.alloc ?_ _ | refine Gn.drew ?_))))).mono ?_; rintro y w' ⟨rfl, q, rfl⟩))
    all_goals first
      | omega
      | (go_ret; exact ⟨rfl, (by with_reducible (repeat (first | exact Gn.refl _ | refine Gn.gr ?_ _ | refine Gn.alloc ?_ _ | refine Gn.drew ?_)))⟩)
def later (ra ro no ha t : Int) : Int := min ro (ha + (t - no) * ra)
theorem mul_in {a b A B : Int} (h1 : 0 ≤ a ∧ a ≤ A) (h2 : 0 ≤ b ∧ b ≤ B) : 0 ≤ a * b ∧ a * b ≤ A * B :=
  ⟨Int.mul_nonneg h1.1 h2.1, Int.le_trans (Int.mul_le_mul_of_nonneg_right h1.2 h2.1) (Int.mul_le_mul_of_nonneg_left h2.2 (by omega))⟩
set_option maxHeartbeats 2000000 in
set_option maxRecDepth 100000 in
theorem go_is (tb : Nat) (ra ro no ha t : Int) (w : World) (h : BB w tb true ra ro no ha) (h0 : 0 ≤ no ∧ no ≤ t) (h1 : t ≤ 1099511627776) (h2 : 0 ≤ ra ∧ ra ≤ 1048576) (h3 : 0 ≤ ro ∧ ro ≤ 1048576) (h4 : 0 ≤ ha ∧ ha ≤ ro) :
    Calls Try.prog 7 #[.pointer (some ⟨tb, 0, none⟩), .int .i64 t] w fun e w' => e = .returned (.int .i64 0) ∧ BB w' tb true ra ro t (later ra ro no ha t) ∧ Kp (fun j => j = tb) w w' := by
  have H : Hid _ := h
  clear h
  have d0 : decide (t < no) = false := by rw [decide_eq_false_iff_not]; omega
  have d1 : decide (1099511627776 < t) = false := by rw [decide_eq_false_iff_not]; omega
  have hP := mul_in (a := t - no) (A := 1099511627776) ⟨by omega, by omega⟩ h2
  rcases Int.lt_or_le (ha + (t - no) * ra) ro with hm | hm
  all_goals
   go_enter Try.func7, Try.ntmps7
   go_wp2_with (first | (go_at_call 17; refine (given_is tb _ ra ro no ha _ (BB.grown H.out (by with_reducible (repeat (first | exact Gn.refl _ | refine Gn.gr ?_ _ | refine Gn.alloc ?_ _ | refine Gn.drew ?_))))).mono ?_; rintro y wq ⟨rfl, hg⟩; have HB := BB.grown (show BB w tb true ra ro no ha from H.out) hg; obtain ⟨tl, ⟨c0, c1, c2, c3, c4⟩, f3, f4⟩ := HB.facts; have H2 : Hid _ := HB; have HG : Hid _ := hg; clear HB hg))
   refine wp_region_z 24 25 (by kernel_rfl) rfl ?_
   refine wpMix_pick 0 (by kernel_rfl) rfl (by kernel_rfl) (by with_reducible (repeat (first | exact Gn.refl _ | refine Gn.gr ?_ _ | refine Gn.alloc ?_ _))) (by kernel_rfl) (fun K hK => ?_); go_simp; first | (refine hK _ ?_; clear hK K) | (apply Exists.intro; refine ⟨fun _ => ?_, hK _ ?_⟩; first | fail; clear hK K)
   refine wpMix_pick 1 (by kernel_rfl) rfl (by kernel_rfl) (by with_reducible (repeat (first | exact Gn.refl _ | refine Gn.gr ?_ _ | refine Gn.alloc ?_ _))) (by kernel_rfl) (fun K hK => ?_); go_simp; first | (refine hK _ ?_; clear hK K) | (apply Exists.intro; refine ⟨fun _ => ?_, hK _ ?_⟩; first | fail; clear hK K)
   refine wpMix_pick 2 (by kernel_rfl) rfl (by kernel_rfl) (by with_reducible (repeat (first | exact Gn.refl _ | refine Gn.gr ?_ _ | refine Gn.alloc ?_ _))) (by kernel_rfl) (fun K hK => ?_); go_simp; first | (refine hK _ ?_; clear hK K) | (apply Exists.intro; refine ⟨fun _ => ?_, hK _ ?_⟩; first | fail; clear hK K)
   refine wpMix_pick 3 (by kernel_rfl) rfl (by kernel_rfl) (by with_reducible (repeat (first | exact Gn.refl _ | refine Gn.gr ?_ _ | refine Gn.alloc ?_ _))) (by kernel_rfl) (fun K hK => ?_); go_simp; first | (refine hK _ ?_; clear hK K) | (apply Exists.intro; refine ⟨fun _ => ?_, hK _ ?_⟩; first | fail; clear hK K)
   refine wpMix_pick 4 (by kernel_rfl) rfl (by kernel_rfl) (by with_reducible (repeat (first | exact Gn.refl _ | refine Gn.gr ?_ _ | refine Gn.alloc ?_ _))) (by kernel_rfl) (fun K hK => ?_); go_simp; first | (refine hK _ ?_; clear hK K) | (apply Exists.intro; refine ⟨fun _ => ?_, hK _ ?_⟩; first | fail; clear hK K)
   refine wpMix_pick 5 (by kernel_rfl) rfl (by kernel_rfl) (by with_reducible (repeat (first | exact Gn.refl _ | refine Gn.gr ?_ _ | refine Gn.alloc ?_ _))) (by kernel_rfl) (fun K hK => ?_); go_simp; first | (refine hK _ ?_; clear hK K) | (apply Exists.intro; refine ⟨fun _ => ?_, hK _ ?_⟩; first | fail; clear hK K)
   refine wpMix_pick 6 (by kernel_rfl) rfl (by kernel_rfl) (by with_reducible (repeat (first | exact Gn.refl _ | refine Gn.gr ?_ _ | refine Gn.alloc ?_ _))) (by kernel_rfl) (fun K hK => ?_); go_simp; first | (refine hK _ ?_; clear hK K) | (apply Exists.intro; refine ⟨fun _ => ?_, hK _ ?_⟩; first | fail; clear hK K)
   refine wpMix_pick 7 (by kernel_rfl) rfl (by kernel_rfl) (by with_reducible (repeat (first | exact Gn.refl _ | refine Gn.gr ?_ _ | refine Gn.alloc ?_ _))) (by kernel_rfl) (fun K hK => ?_); go_simp; first | (refine hK _ ?_; clear hK K) | (apply Exists.intro; refine ⟨fun _ => ?_, hK _ ?_⟩; first | fail; clear hK K)
   refine wpMix_pick 8 (by kernel_rfl) rfl (by kernel_rfl) (by with_reducible (repeat (first | exact Gn.refl _ | refine Gn.gr ?_ _ | refine Gn.alloc ?_ _))) (by kernel_rfl) (fun K hK => ?_); go_simp; first | (refine hK _ ?_; clear hK K) | (apply Exists.intro; refine ⟨fun _ => ?_, hK _ ?_⟩; first | fail; clear hK K)
   refine wpMix_pick 9 (by kernel_rfl) rfl (by kernel_rfl) (by with_reducible (repeat (first | exact Gn.refl _ | refine Gn.gr ?_ _ | refine Gn.alloc ?_ _))) (by kernel_rfl) (fun K hK => ?_); go_simp; first | (refine hK _ ?_; clear hK K) | (apply Exists.intro; refine ⟨fun _ => ?_, hK _ ?_⟩; first | fail; clear hK K)
   refine wpMix_pick 10 (by kernel_rfl) rfl (by kernel_rfl) (by with_reducible (repeat (first | exact Gn.refl _ | refine Gn.gr ?_ _ | refine Gn.alloc ?_ _))) (by kernel_rfl) (fun K hK => ?_); go_simp; first | (refine hK _ ?_; clear hK K) | (apply Exists.intro; refine ⟨fun _ => ?_, hK _ ?_⟩; first | fail; clear hK K)
   refine wpMix_pick 11 (by kernel_rfl) rfl (by kernel_rfl) (by with_reducible (repeat (first | exact Gn.refl _ | refine Gn.gr ?_ _ | refine Gn.alloc ?_ _))) (by kernel_rfl) (fun K hK => ?_); go_simp; first | (refine hK _ ?_; clear hK K) | (apply Exists.intro; refine ⟨fun _ => ?_, hK _ ?_⟩; first | fail; clear hK K)
   refine wpMix_pick 12 (by kernel_rfl) rfl (by kernel_rfl) (by with_reducible (repeat (first | exact Gn.refl _ | refine Gn.gr ?_ _ | refine Gn.alloc ?_ _))) (by kernel_rfl) (fun K hK => ?_); go_simp; first | (refine hK _ ?_; clear hK K) | (apply Exists.intro; refine ⟨fun _ => ?_, hK _ ?_⟩; first | fail; clear hK K)
   refine wpMix_pick 13 (by kernel_rfl) rfl (by kernel_rfl) (by with_reducible (repeat (first | exact Gn.refl _ | refine Gn.gr ?_ _ | refine Gn.alloc ?_ _))) (by kernel_rfl) (fun K hK => ?_); go_simp; first | (refine hK _ ?_; clear hK K) | (apply Exists.intro; refine ⟨fun _ => ?_, hK _ ?_⟩; first | fail; clear hK K)
   refine wpMix_pick 14 (by kernel_rfl) rfl (by kernel_rfl) (by with_reducible (repeat (first | exact Gn.refl _ | refine Gn.gr ?_ _ | refine Gn.alloc ?_ _))) (by kernel_rfl) (fun K hK => ?_); go_simp; first | (refine hK _ ?_; clear hK K) | (apply Exists.intro; refine ⟨fun _ => ?_, hK _ ?_⟩; first | fail; clear hK K)
   refine wpMix_pick 15 (by kernel_rfl) rfl (by kernel_rfl) (by with_reducible (repeat (first | exact Gn.refl _ | refine Gn.gr ?_ _ | refine Gn.alloc ?_ _))) (by kernel_rfl) (fun K hK => ?_); go_simp; first | (refine hK _ ?_; clear hK K) | (apply Exists.intro; refine ⟨fun _ => ?_, hK _ ?_⟩; first | fail; clear hK K)
   refine wpMix_pick 16 (by kernel_rfl) rfl (by kernel_rfl) (by with_reducible (repeat (first | exact Gn.refl _ | refine Gn.gr ?_ _ | refine Gn.alloc ?_ _))) (by kernel_rfl) (fun K hK => ?_); go_simp; first | (refine hK _ ?_; clear hK K) | (apply Exists.intro; refine ⟨fun _ => ?_, hK _ ?_⟩; first | fail; clear hK K)
   refine wpMix_pick 17 (by kernel_rfl) rfl (by kernel_rfl) (by with_reducible (repeat (first | exact Gn.refl _ | refine Gn.gr ?_ _ | refine Gn.alloc ?_ _))) (by kernel_rfl) (fun K hK => ?_); go_simp; first | (refine hK _ ?_; clear hK K) | (apply Exists.intro; refine ⟨fun _ => ?_, hK _ ?_⟩; first | fail; clear hK K)
   refine wpMix_pick 18 (by kernel_rfl) rfl (by kernel_rfl) (by with_reducible (repeat (first | exact Gn.refl _ | refine Gn.gr ?_ _ | refine Gn.alloc ?_ _))) (by kernel_rfl) (fun K hK => ?_); go_simp; first | (refine hK _ ?_; clear hK K) | (apply Exists.intro; refine ⟨fun _ => ?_, hK _ ?_⟩; first | fail; clear hK K)
   refine wpMix_pick 19 (by kernel_rfl) rfl (by kernel_rfl) (by with_reducible (repeat (first | exact Gn.refl _ | refine Gn.gr ?_ _ | refine Gn.alloc ?_ _))) (by kernel_rfl) (fun K hK => ?_); go_simp; first | (refine hK _ ?_; clear hK K) | (apply Exists.intro; refine ⟨fun _ => ?_, hK _ ?_⟩; first | fail; clear hK K)
   refine wpMix_pick 20 (by kernel_rfl) rfl (by kernel_rfl) (by with_reducible (repeat (first | exact Gn.refl _ | refine Gn.gr ?_ _ | refine Gn.alloc ?_ _))) (by kernel_rfl) (fun K hK => ?_); go_simp; first | (refine hK _ ?_; clear hK K) | (apply Exists.intro; refine ⟨fun _ => ?_, hK _ ?_⟩; first | fail; clear hK K)
   refine wpMix_pick 21 (by kernel_rfl) rfl (by kernel_rfl) (by with_reducible (repeat (first | exact Gn.refl _ | refine Gn.gr ?_ _ | refine Gn.alloc ?_ _))) (by kernel_rfl) (fun K hK => ?_); go_simp; first | (refine hK _ ?_; clear hK K) | (apply Exists.intro; refine ⟨fun _ => ?_, hK _ ?_⟩; first | fail; clear hK K)
   refine wpMix_one (i := 22) (by kernel_rfl) rfl ?_
   intro p
   go_wp2
   refine ⟨(by with_reducible (repeat (first | exact Gn.refl _ | refine Gn.gr ?_ _ | refine Gn.alloc ?_ _))), ?_⟩
   refine wpMix_one (i := 23) (by kernel_rfl) rfl ?_
   intro p
   go_wp2
   refine ⟨(by with_reducible (repeat (first | exact Gn.refl _ | refine Gn.gr ?_ _ | refine Gn.alloc ?_ _))), ?_⟩
   refine wpMix_one (i := 24) (by kernel_rfl) rfl ?_
   intro p
   go_wp2
   all_goals first
    | (refine wpMix_done (by kernel_rfl) ?_
       intro p2
       go_wp2
       go_ret
       first
         | (have e : later ra ro no ha t = ro := by unfold later; omega
            rw [e]
            exact ⟨rfl, BB.grown (BB.set3 (BB.set4 (show BB wq tb true ra ro no ha from H2.out) _) _) (by with_reducible (repeat (first | exact Gn.refl _ | refine Gn.gr ?_ _ | refine Gn.alloc ?_ _ | refine Gn.drew ?_))), (((Kp.of_gn (fun j => j = tb) (show Gn w wq from HG.out)).set tb 4 _ rfl).set tb 3 _ rfl).gn (by with_reducible (repeat (first | exact Gn.refl _ | refine Gn.gr ?_ _ | refine Gn.alloc ?_ _ | refine Gn.drew ?_)))⟩)
         | (have e : later ra ro no ha t = ha + (t - no) * ra := by unfold later; omega
            rw [e]
            exact ⟨rfl, BB.grown (BB.set3 (BB.set4 (show BB wq tb true ra ro no ha from H2.out) _) _) (by with_reducible (repeat (first | exact Gn.refl _ | refine Gn.gr ?_ _ | refine Gn.alloc ?_ _ | refine Gn.drew ?_))), (((Kp.of_gn (fun j => j = tb) (show Gn w wq from HG.out)).set tb 4 _ rfl).set tb 3 _ rfl).gn (by with_reducible (repeat (first | exact Gn.refl _ | refine Gn.gr ?_ _ | refine Gn.alloc ?_ _ | refine Gn.drew ?_)))⟩))
end Go.Proofs.Ytbkbfibmnolfmaa
