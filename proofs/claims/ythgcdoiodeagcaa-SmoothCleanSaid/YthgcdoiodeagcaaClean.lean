/- The walk of the law SmoothClean: it returns true, for any three words. -/
import Derived.Test.YthgcdoiodeagcaaAwake
namespace Go.Proofs.Ythgcdoiodeagcaa
open Go.RowKit

def NaN : Nat := 9221120237041090561
theorem clean_id (w : World) (v : Nat) (h : Cln v) : Calls Try.prog 10 #[.float .f64 v] w fun e w' => e = .returned (.float .f64 v) ∧ w = w' :=
  (clean_any w v h.lt).mono fun _ _ ⟨he, hw⟩ => ⟨by rw [he, cl_id h], hw⟩
theorem step_id (w : World) (v s : Nat) (h : Cln v) (hs : s < 18446744073709551616) : Calls Try.prog 11 #[.float .f64 v, .float .f64 v, .float .f64 s] w fun e w' => e = .returned (.float .f64 v) ∧ w = w' :=
  (step_any w v v s h.lt h.lt hs).mono fun _ _ ⟨he, hw⟩ => ⟨by rw [he, step_self s h hs], hw⟩
theorem step_nx (w : World) (a s v : Nat) (ha : a < 18446744073709551616) (hs : s < 18446744073709551616) (hv : cl a = v) : Calls Try.prog 11 #[.float .f64 a, .float .f64 9221120237041090561, .float .f64 s] w fun e w' => e = .returned (.float .f64 v) ∧ w = w' :=
  (step_any w a _ s ha (by decide) hs).mono fun _ _ ⟨he, hw⟩ => ⟨by rw [he, step_nan_x a s (show nan 9221120237041090561 = true by decide), hv], hw⟩
theorem step_na (w : World) (a s v : Nat) (ha : a < 18446744073709551616) (hs : s < 18446744073709551616) (hv : cl a = v) : Calls Try.prog 11 #[.float .f64 9221120237041090561, .float .f64 a, .float .f64 s] w fun e w' => e = .returned (.float .f64 v) ∧ w = w' :=
  (step_any w _ a s (by decide) ha hs).mono fun _ _ ⟨he, hw⟩ => ⟨by rw [he, step_nan_a a s (show nan 9221120237041090561 = true by decide), hv], hw⟩
theorem fl_new (w : World) (x y z : Nat) : Fl (w.alloc (.cells #[.float .f64 x, .float .f64 y, .float .f64 z] 22)) w.heap.size 0 [x, y, z] := by
  intro k hk
  have hb := heap_alloc_new w (.cells #[.float .f64 x, .float .f64 y, .float .f64 z] 22)
  have hk3 : k = 0 ∨ k = 1 ∨ k = 2 := by have : k < 3 := hk; omega
  rcases hk3 with rfl | rfl | rfl <;> (unfold World.cell?; rw [hb]; rfl)

set_option maxHeartbeats 4000000 in
set_option maxRecDepth 100000 in
theorem clean_walk (a x s : Nat) (w : World) (ha : a < 18446744073709551616) (hx : x < 18446744073709551616) (hs : s < 18446744073709551616) :
    Calls Try.prog 4 #[.float .f64 a, .float .f64 x, .float .f64 s] w fun e w' => e = .returned (.bool true) ∧ Gn w w' := by
  have C0 := cl_cln ha
  have HC : ∀ k, k < 3 → Cln (nth [cl a, step a x s, step x a s] k) := fun k hk => by
    have hk3 : k = 0 ∨ k = 1 ∨ k = 2 := by omega
    rcases hk3 with rfl | rfl | rfl
    · exact C0
    · exact step_cln a x s ha hx hs
    · exact step_cln x a s hx ha hs
  have HX : Hid _ := HC
  have HF : Hid _ := fl_new w (cl a) (step a x s) (step x a s)
  have HA : Hid (Cln (cl a)) := C0
  clear C0 HC
  go_enter Try.func4, Try.ntmps4
  go_wp2_with (first | (go_at_call 10; refine (clean_any _ _ ha).mono ?_; rintro e w' ⟨rfl, rfl⟩) | (go_at_call 11; refine (step_any _ _ _ _ (by assumption) (by assumption) hs).mono ?_; rintro e w' ⟨rfl, rfl⟩))
  go_loopw [8] (fun i wr => ∃ k : Nat, k ≤ 3 ∧ i = .int .i64 k ∧ Gn (w.alloc (.cells #[.float .f64 (cl a), .float .f64 (step a x s), .float .f64 (step x a s)] 22)) wr) (fun i _ => 3 - (intOf i).toNat)
  case atStart => exact ⟨0, by omega, rfl, Gn.refl _⟩
  case round =>
    obtain ⟨k, hk, rfl, hg⟩ := hrel
    have hf := fl_gn (HF.out) hg
    by_cases hlt : k < 3
    · have c := hf k hlt
      have hv := HX.out k hlt
      obtain ⟨v, e⟩ : ∃ v, nth [cl a, step a x s, step x a s] k = v := ⟨_, rfl⟩
      rw [e] at c hv
      have hbl := lt_of_cell c
      have q1 := q_nself v
      rw [nan_of_cln hv] at q1
      have hb := sr_bd hv.fin
      have q2 := q_gtmax v
      rw [decide_eq_false (show ¬ sr v = 9218868437227405312 by omega), Bool.and_false] at q2
      have q3 := q_ltmin v
      rw [decide_eq_false (show ¬ sr v = -9218868437227405312 by omega), Bool.and_false] at q3
      have hn := nan_of_cln hv
      have q4 : (FloatKind.f64.format.order v 0 == some .eq) = decide (v = 0) := by
        rw [q_zero, hn, Bool.not_false, Bool.true_and, Bool.eq_iff_iff, decide_eq_true_eq, decide_eq_true_eq]
        exact ⟨sr_zero hv, fun h => by subst h; decide⟩
      have HG : Hid _ := hg
      have hki : (k : Int) < 3 := by omega
      clear hg hf hb e
      by_cases h0 : v = 0
      · subst h0
        rw [decide_eq_true rfl] at q4
        simp only [Nat.zero_add] at c
        go_wp2
        refine wp_region_gr (by kernel_rfl) (by kernel_rfl) ?_
        repeat (go_big_quiet_step (first | (go_at_call 12; exact Calls.in_gr_same (signbit_zero _ trivial)) | (go_at_call 10; exact Calls.in_gr_same (clean_id _ _ hv)) | (go_at_call 13; exact Calls.in_gr_same (same_self _ _ hn))))
        refine wpQuiet_nil ?_
        rintro _ ⟨q4, rfl⟩
        go_wp2
        go_roundw
        case rel => exact ⟨k + 1, by omega, by go_num, Gn.gr (show Gn (w.alloc (.cells #[.float .f64 (cl a), .float .f64 (step a x s), .float .f64 (step x a s)] 22)) wr from HG.out) _⟩
        case measure => simp [intOf]; omega
      · rw [decide_eq_false h0] at q4
        simp only [Nat.zero_add] at c
        clear h0
        go_wp2
        refine wp_region_gr (by kernel_rfl) (by kernel_rfl) ?_
        repeat (go_big_quiet_step (first | (go_at_call 10; exact Calls.in_gr_same (clean_id _ _ hv)) | (go_at_call 13; exact Calls.in_gr_same (same_self _ _ hn))))
        refine wpQuiet_nil ?_
        rintro _ ⟨q4, rfl⟩
        go_wp2
        go_roundw
        case rel => exact ⟨k + 1, by omega, by go_num, Gn.gr (show Gn (w.alloc (.cells #[.float .f64 (cl a), .float .f64 (step a x s), .float .f64 (step x a s)] 22)) wr from HG.out) _⟩
        case measure => simp [intOf]; omega
    · obtain rfl : k = 3 := by omega
      have c := hf 0 (show 0 < 3 by omega)
      rw [show nth [cl a, step a x s, step x a s] 0 = cl a from rfl] at c
      obtain ⟨v, e⟩ : ∃ v, cl a = v := ⟨_, rfl⟩
      have hv := HA.out
      rw [e] at c hv
      have hbl := lt_of_cell c
      have hn := nan_of_cln hv
      have HG : Hid _ := hg
      have E : Hid (cl a = v) := e
      clear hg hf e
      go_wp2
      refine wp_region_gr (by kernel_rfl) (by kernel_rfl) ?_
      repeat (go_big_quiet_step (first | (go_at_call 11; with_reducible exact Calls.in_gr_same (step_id _ _ _ hv hs)) | (go_at_call 11; with_reducible exact Calls.in_gr_same (step_nx _ _ _ _ ha hs E.out)) | (go_at_call 11; with_reducible exact Calls.in_gr_same (step_na _ _ _ _ ha hs E.out)) | (go_at_call 13; exact Calls.in_gr_same (same_self _ _ hn)) | (go_at_call 8; exact Calls.in_gr_same (nan_any _)) | (go_at_call 9; exact Calls.in_gr (awake_any _))))
      refine wpQuiet_nil ?_
      rintro _ ⟨q4, rfl⟩
      go_wp2
      go_ret
      exact ⟨rfl, ((Gn.refl _).alloc _).trans (Gn.gr (show Gn (w.alloc (.cells #[.float .f64 (cl a), .float .f64 (step a x s), .float .f64 (step x a s)] 22)) wr from HG.out) _)⟩
end Go.Proofs.Ythgcdoiodeagcaa
