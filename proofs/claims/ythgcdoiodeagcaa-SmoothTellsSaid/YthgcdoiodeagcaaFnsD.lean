/- What the reference's Best and both Ratios return; the chapter's example. -/
import Derived.Test.YthgcdoiodeagcaaFnsC
namespace Go.Proofs.Ythgcdoiodeagcaa
open Go.RowKit

theorem lt_of_cell {w : World} {b i : Nat} {v : Value} (h : w.cell? ⟨b, i, none⟩ = some v) : b < w.heap.size := by
  rcases Nat.lt_or_ge b w.heap.size with hlt | hge
  · exact hlt
  · simp [World.cell?, Array.getElem?_eq_none hge] at h
theorem fl_gn {w w' : World} {b off : Nat} {xs : List Nat} (h : Fl w b off xs) (hg : Gn w w') : Fl w' b off xs := by
  intro k hk
  obtain ⟨p, rfl⟩ := hg
  have := h k hk
  rw [cell?_gr w p b _ (lt_of_cell this)]
  exact this
def ratioV (n m : Int) : Nat := match Ieee.double.div (floatOfInt .f64 n) (floatOfInt .f64 m) with
  | some r => cl r
  | none => 0
theorem f_quo {x y r : Nat} (h : Ieee.double.div x y = some r) (t : TypeId) (w : World) : (binOp .quo t (.float .f64 x) (.float .f64 y)).run Try.prog w = .ok (.float .f64 r) w := run_float_arith w .quo t .f64 x y r h
theorem f_quo_none {x y : Nat} (h : Ieee.double.div x y = none) (w : World) : ∃ nb, nan nb = true ∧ nb < 18446744073709551616 ∧ ∀ t, (binOp .quo t (.float .f64 x) (.float .f64 y)).run Try.prog w = .ok (.float .f64 nb) w.drew := by
  have h' : FloatKind.f64.format.div x y = none := h
  refine ⟨Question.cut (.nanBits .f64 x y) (w.tape w.drawn (.nanBits .f64 x y)), ?_, ?_, fun t => ?_⟩
  · generalize w.tape w.drawn (.nanBits .f64 x y) = t
    show nan (t % 2 * 2 ^ 63 + 0x7ff0000000000000 + 1 + t / 2 % (2 ^ 52 - 1)) = true
    unfold nan rung
    rw [decide_eq_true_eq]
    have h1 : t / 2 % (2 ^ 52 - 1) < 4503599627370495 := Nat.mod_lt _ (by omega)
    generalize t / 2 % (2 ^ 52 - 1) = e at h1 ⊢
    have h2 : t % 2 = 0 ∨ t % 2 = 1 := by omega
    rcases h2 with h2 | h2 <;> rw [h2] <;> omega
  · generalize w.tape w.drawn (.nanBits .f64 x y) = t
    show t % 2 * 2 ^ 63 + 0x7ff0000000000000 + 1 + t / 2 % (2 ^ 52 - 1) < _
    omega
  · simp [binOp, Op.floatArith, h', Question.forced]
theorem ratio_cln (n m : Int) : Cln (ratioV n m) := by
  unfold ratioV
  cases h : Ieee.double.div (floatOfInt .f64 n) (floatOfInt .f64 m)
  · exact cln0
  · exact cl_cln (Ieee.double.div_lt h)
section
variable (w : World)
theorem ratio_any (n m : Int) : Calls Try.prog 22 #[.int .i64 n, .int .i64 m] w fun e w' => e = .returned (.float .f64 (ratioV n m)) ∧ Gn w w' := by
  unfold ratioV
  cases h : Ieee.double.div (floatOfInt .f64 n) (floatOfInt .f64 m)
  · obtain ⟨nb, h1, h2, h3⟩ := f_quo_none h w
    have hc := cl_nan h1
    clear h h1
    go_enter Try.func22, Try.ntmps22
    go_wp2_with (go_at_call 10; refine (clean_any _ _ h2).mono ?_; rintro e w' ⟨rfl, rfl⟩)
    go_ret
    exact ⟨rfl, by repeat (first | exact Gn.refl _ | refine Gn.drew ?_)⟩
  · rename_i r
    have h2 := Ieee.double.div_lt h
    have h3 := fun t w => f_quo h t w
    replace h2 : r < 18446744073709551616 := h2
    clear h
    go_enter Try.func22, Try.ntmps22
    go_wp2_with (go_at_call 10; refine (clean_any _ _ h2).mono ?_; rintro e w' ⟨rfl, rfl⟩)
    go_ret
    exact ⟨rfl, Gn.refl _⟩
theorem rratio_any (n m : Int) : Calls Try.prog 23 #[.int .i64 n, .int .i64 m] w fun e w' => e = .returned (.float .f64 (ratioV n m)) ∧ Gn w w' := by
  unfold ratioV
  cases h : Ieee.double.div (floatOfInt .f64 n) (floatOfInt .f64 m)
  · obtain ⟨nb, h1, h2, h3⟩ := f_quo_none h w
    have hc := cl_nan h1
    clear h h1
    go_enter Try.func23, Try.ntmps23
    go_wp2_with (go_at_call 14; refine (rclean_any _ _).mono ?_; rintro e w' ⟨rfl, rfl⟩)
    go_ret
    exact ⟨rfl, by repeat (first | exact Gn.refl _ | refine Gn.drew ?_)⟩
  · rename_i r
    have h3 := fun t w => f_quo h t w
    clear h
    go_enter Try.func23, Try.ntmps23
    go_wp2_with (go_at_call 14; refine (rclean_any _ _).mono ?_; rintro e w' ⟨rfl, rfl⟩)
    go_ret
    exact ⟨rfl, Gn.refl _⟩

set_option maxHeartbeats 1000000 in
theorem rbest_any (b off cap : Nat) (xs : List Nat) (h : Wd xs) (hc : Fl w b off xs) :
    Calls Try.prog 21 #[.slice (some ⟨b, off, none⟩) xs.length cap] w fun e w' => e = .returned (.int .i64 (bestI xs xs.length)) ∧ Gn w w' := by
  have hl := h.1
  have H : Hid _ := h
  have HC : Hid _ := hc
  clear h hc
  go_enter Try.func21, Try.ntmps21
  go_wp2
  go_loopw [3, 4] (fun v i wr => ∃ k : Nat, k ≤ xs.length ∧ i = .int .i64 k ∧ v = .int .i64 (bestI xs k) ∧ Gn w wr) (fun _ i _ => xs.length - (intOf i).toNat)
  case atStart => exact ⟨0, by omega, rfl, rfl, Gn.refl _⟩
  case round =>
    obtain ⟨k, hk, rfl, rfl, hg⟩ := hrel
    by_cases hlt : k < xs.length
    · have hf := fl_gn (show Fl w b off xs from HC.out) hg
      have c := hf k hlt
      have b2 := H.out.2 k hlt
      have hki : (k : Int) < (xs.length : Int) := by omega
      have hbl := lt_of_cell c
      by_cases k0 : k = 0
      · subst k0
        rw [show bestI xs 0 = -1 from rfl]
        simp only [Nat.add_zero] at c
        have HG : Hid _ := hg
        clear hg hf
        go_wp2
        refine wp_region_gr (by kernel_rfl) (by kernel_rfl) ?_
        repeat (go_big_quiet_step (fail))
        refine wpQuiet_nil ?_
        rintro _ ⟨q4, rfl⟩
        go_wp2
        go_roundw
        case rel => exact ⟨0 + 1, by omega, by go_num, by simp [bestI, bst], Gn.gr (show Gn w wr from HG.out) _⟩
        case measure => simp [intOf]; omega
      · have hm := bst_lt xs k (by omega)
        have hs := bestI_succ (xs := xs) (k := k) (by omega)
        have e0 : bestI xs k = (bst xs k : Int) := by unfold bestI; rw [if_neg k0]
        rw [e0]
        obtain ⟨m, hmm⟩ : ∃ m, bst xs k = m := ⟨_, rfl⟩
        rw [hmm] at hm hs ⊢
        have c2 := hf m (by omega)
        have b3 := H.out.2 m (by omega)
        have dm : decide ((m : Int) < 0) = false := by rw [decide_eq_false_iff_not]; omega
        have hmi : (m : Int) < (xs.length : Int) := by omega
        have HS : Hid _ := hs
        have HG : Hid _ := hg
        clear hs e0 hmm hg hf
        cases hd : lessB (nth xs k) (nth xs m)
        all_goals
          go_wp2
          refine wp_region_gr (by kernel_rfl) (by kernel_rfl) ?_
          repeat (go_big_quiet_step ((go_at_call 18; exact Calls.in_gr_same (rless_any _ _ _ b2 b3))))
          refine wpQuiet_nil ?_
          rintro _ ⟨q4, rfl⟩
          go_wp2
          go_roundw
          case rel => exact ⟨k + 1, by omega, by go_num, by rw [HS.out, hd]; rfl, Gn.gr (show Gn w wr from HG.out) _⟩
          case measure => simp [intOf]; omega
    · obtain rfl : xs.length = k := by omega
      have HG : Hid _ := hg
      clear hg
      go_wp2
      go_ret
      exact ⟨rfl, HG.out⟩
end
end Go.Proofs.Ythgcdoiodeagcaa
