/- The reference's Meet returns what the function meetS says, for all spans. -/
import Derived.Test.YtadhmmhffehebaaFnsA
namespace Go.Proofs.Ytadhmmhffehebaa
open Go.RowKit

theorem meetS_down {f n g m : Int} (hb : apartB f n g m = true) (hu : apartI f g < 0) :
    (n ≤ apartI f g + m ∧ 0 < n ∧ meetS f n g m = (f, n, true)) ∨ (n ≤ apartI f g + m ∧ n ≤ 0 ∧ meetS f n g m = (0, 0, false)) ∨
    (apartI f g + m < n ∧ 0 < apartI f g + m ∧ meetS f n g m = (f, apartI f g + m, true)) ∨ (apartI f g + m < n ∧ apartI f g + m ≤ 0 ∧ meetS f n g m = (0, 0, false)) := by
  have e : meetS f n g m = if 0 < min (apartI f g + m) n then (f, min (apartI f g + m) n, true) else (0, 0, false) := by
    simp only [meetS, hb, if_true]; rw [if_neg (by omega), Int.add_comm m]
  have hc : (n ≤ apartI f g + m ∧ 0 < n) ∨ (n ≤ apartI f g + m ∧ n ≤ 0) ∨ (apartI f g + m < n ∧ 0 < apartI f g + m) ∨ (apartI f g + m < n ∧ apartI f g + m ≤ 0) := by omega
  rw [e]
  rcases hc with ⟨h1, h2⟩ | ⟨h1, h2⟩ | ⟨h1, h2⟩ | ⟨h1, h2⟩
  · exact .inl ⟨h1, h2, by rw [Int.min_eq_right h1, if_pos h2]⟩
  · exact .inr (.inl ⟨h1, h2, by rw [Int.min_eq_right h1, if_neg (by omega)]⟩)
  · exact .inr (.inr (.inl ⟨h1, h2, by rw [Int.min_eq_left (by omega), if_pos h2]⟩))
  · exact .inr (.inr (.inr ⟨h1, h2, by rw [Int.min_eq_left (by omega), if_neg (by omega)]⟩))

theorem rmeet_pos (f n g m : Int) (w : World) (hf : 0 ≤ f ∧ f ≤ 4294967295) (hg : 0 ≤ g ∧ g ≤ 4294967295) (hb : apartB f n g m = true) (hu : 0 < apartI f g) :
    Calls Try.prog 7 #[.agg #[.int .u32 f, .int .i64 n], .agg #[.int .u32 g, .int .i64 m]] w fun e w' => e = .returned (spanV (meetS f n g m)) ∧ Gn w w' := by
  have hs := apartB_spec hb
  have ho : nearB f g = true := by simp [nearB]; omega
  have hn : mayB n = true := by simp [mayB]; omega
  have hm : mayB m = true := by simp [mayB]; omega
  have hF : Hid (g = (f + apartI f g) % 4294967296) := by show g = _; unfold apartI; omega
  rcases meetS_up hb (by omega) with ⟨h1, h2, h3⟩ | ⟨h1, h2, h3⟩ | ⟨h1, h2, h3⟩ | ⟨h1, h2, h3⟩
  all_goals
      rw [h3]
      clear h3 hb
      go_enter Try.func7, Try.ntmps7
      go_wp2_with (first | (go_at_call 20; refine (off_is _ _ _ _ ho hf hg).mono ?_; rintro e w' ⟨rfl, rfl⟩; simp only [if_true]) | (go_at_call 21; refine (right_is true _ _ _ (by assumption)).mono ?_; rintro e w' ⟨rfl, p, rfl⟩))
      refine wp_region_gr (by kernel_rfl) (by kernel_rfl) ?_
      repeat (go_big_quiet_step (fail))
      refine wpQuiet_nil ?_
      rintro _ ⟨p, rfl⟩
      go_wp2
      exact bodyPost_ret (v := spanV _) (by simp [results, Try.results7, go_sem, spanV]; try (first | done | omega | exact hF.out.symm | exact ⟨hF.out.symm, by omega⟩)) rfl ⟨rfl, by repeat (first | exact Gn.refl _ | refine Gn.gr ?_ _ | refine Gn.alloc ?_ _)⟩

theorem rmeet_neg (f n g m : Int) (w : World) (hf : 0 ≤ f ∧ f ≤ 4294967295) (hg : 0 ≤ g ∧ g ≤ 4294967295) (hb : apartB f n g m = true) (hu : apartI f g < 0) :
    Calls Try.prog 7 #[.agg #[.int .u32 f, .int .i64 n], .agg #[.int .u32 g, .int .i64 m]] w fun e w' => e = .returned (spanV (meetS f n g m)) ∧ Gn w w' := by
  have hs := apartB_spec hb
  have ho : nearB f g = true := by simp [nearB]; omega
  have hn : mayB n = true := by simp [mayB]; omega
  have hm : mayB m = true := by simp [mayB]; omega
  rcases meetS_down hb hu with ⟨h1, h2, h3⟩ | ⟨h1, h2, h3⟩ | ⟨h1, h2, h3⟩ | ⟨h1, h2, h3⟩
  all_goals
      rw [h3]
      clear h3 hb
      go_enter Try.func7, Try.ntmps7
      go_wp2_with (first | (go_at_call 20; refine (off_is _ _ _ _ ho hf hg).mono ?_; rintro e w' ⟨rfl, rfl⟩; simp only [if_true]) | (go_at_call 21; refine (right_is true _ _ _ (by assumption)).mono ?_; rintro e w' ⟨rfl, p, rfl⟩))
      refine wp_region_gr (by kernel_rfl) (by kernel_rfl) ?_
      repeat (go_big_quiet_step (fail))
      refine wpQuiet_nil ?_
      rintro _ ⟨p, rfl⟩
      go_wp2
      exact bodyPost_ret (v := spanV _) (by simp [results, Try.results7, go_sem, spanV]; try (first | done | omega | exact rfl)) rfl ⟨rfl, by repeat (first | exact Gn.refl _ | refine Gn.gr ?_ _ | refine Gn.alloc ?_ _)⟩

theorem rmeet_zero (f n m : Int) (w : World) (hf : 0 ≤ f ∧ f ≤ 4294967295) (hb : apartB f n f m = true) :
    Calls Try.prog 7 #[.agg #[.int .u32 f, .int .i64 n], .agg #[.int .u32 f, .int .i64 m]] w fun e w' => e = .returned (spanV (meetS f n f m)) ∧ Gn w w' := by
  have hs := apartB_spec hb
  have ho : nearB f f = true := by simp [nearB]; omega
  have hn : mayB n = true := by simp [mayB]; omega
  have hm : mayB m = true := by simp [mayB]; omega
  have h0 : apartI f f = 0 := by unfold apartI; omega
  have hf1 : f % 4294967296 = f := by omega
  have hmeet := meetS_up hb (by omega)
  rw [h0, Int.sub_zero] at hmeet
  rcases hmeet with ⟨h1, h2, h3⟩ | ⟨h1, h2, h3⟩ | ⟨h1, h2, h3⟩ | ⟨h1, h2, h3⟩
  all_goals
      rw [h3]
      clear h3 hb
      go_enter Try.func7, Try.ntmps7
      go_wp2_with (first | (go_at_call 20; refine (off_is _ _ _ _ ho hf hf).mono ?_; rintro e w' ⟨rfl, rfl⟩; simp only [if_true, h0]) | (go_at_call 21; refine (right_is true _ _ _ (by assumption)).mono ?_; rintro e w' ⟨rfl, p, rfl⟩))
      refine wp_region_gr (by kernel_rfl) (by kernel_rfl) ?_
      repeat (go_big_quiet_step (fail))
      refine wpQuiet_nil ?_
      rintro _ ⟨p, rfl⟩
      go_wp2
      exact bodyPost_ret (v := spanV _) (by simp [results, Try.results7, go_sem, spanV]; try (first | done | omega)) rfl ⟨rfl, by repeat (first | exact Gn.refl _ | refine Gn.gr ?_ _ | refine Gn.alloc ?_ _)⟩

theorem rmeet_near (f n g m : Int) (w : World) (hf : 0 ≤ f ∧ f ≤ 4294967295) (hg : 0 ≤ g ∧ g ≤ 4294967295) (hb : apartB f n g m = true) :
    Calls Try.prog 7 #[.agg #[.int .u32 f, .int .i64 n], .agg #[.int .u32 g, .int .i64 m]] w fun e w' => e = .returned (spanV (meetS f n g m)) ∧ Gn w w' := by
  by_cases h1 : 0 < apartI f g
  · exact rmeet_pos f n g m w hf hg hb h1
  · by_cases h2 : apartI f g < 0
    · exact rmeet_neg f n g m w hf hg hb h2
    · obtain rfl : f = g := by
        have h0 : apartI f g = 0 := by omega
        unfold apartI at h0
        omega
      exact rmeet_zero f n m w hf hb

theorem rmeet_far (f n g m : Int) (w : World) (hf : 0 ≤ f ∧ f ≤ 4294967295) (hg : 0 ≤ g ∧ g ≤ 4294967295) (hb : apartB f n g m = false) :
    Calls Try.prog 7 #[.agg #[.int .u32 f, .int .i64 n], .agg #[.int .u32 g, .int .i64 m]] w fun e w' => e = .returned (spanV (meetS f n g m)) ∧ Gn w w' := by
  rw [meetS_no hb]
  have hc : nearB f g = false ∨ (nearB f g = true ∧ mayB n = false) ∨ (nearB f g = true ∧ mayB n = true ∧ mayB m = false) := by
    rw [show apartB f n g m = (nearB f g && mayB n && mayB m) from rfl] at hb
    cases h1 : nearB f g <;> cases h2 : mayB n <;> cases h3 : mayB m <;> simp_all
  rcases hc with h1 | ⟨h1, h2⟩ | ⟨h1, h2, h3⟩
  all_goals
    clear hb
    go_enter Try.func7, Try.ntmps7
    go_wp2_with (first | (go_at_call 20; refine (off_is _ _ _ _ h1 hf hg).mono ?_; rintro e w' ⟨rfl, rfl⟩; simp only [if_true, if_false, Bool.false_eq_true]) | (go_at_call 21; refine (right_is _ _ _ _ (by assumption)).mono ?_; rintro e w' ⟨rfl, p, rfl⟩))
    exact bodyPost_ret (v := spanV _) (by simp [results, Try.results7, go_sem, spanV]; try rfl) rfl ⟨rfl, by repeat (first | exact Gn.refl _ | refine Gn.gr ?_ _ | refine Gn.alloc ?_ _)⟩

theorem rmeet_is (f n g m : Int) (w : World) (hf : 0 ≤ f ∧ f ≤ 4294967295) (hg : 0 ≤ g ∧ g ≤ 4294967295) :
    Calls Try.prog 7 #[.agg #[.int .u32 f, .int .i64 n], .agg #[.int .u32 g, .int .i64 m]] w fun e w' => e = .returned (spanV (meetS f n g m)) ∧ Gn w w' := by
  cases hb : apartB f n g m
  · exact rmeet_far f n g m w hf hg hb
  · exact rmeet_near f n g m w hf hg hb
end Go.Proofs.Ytadhmmhffehebaa
