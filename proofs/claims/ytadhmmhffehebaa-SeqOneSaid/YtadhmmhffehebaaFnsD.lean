/- The reference's Join returns what the function joinS says, for all spans in their kinds' ranges. -/
import Derived.Test.YtadhmmhffehebaaFnsC
namespace Go.Proofs.Ytadhmmhffehebaa
open Go.RowKit

theorem rjoin_up_0 (f n g m : Int) (w : World) (hf : 0 ≤ f ∧ f ≤ 4294967295) (hg : 0 ≤ g ∧ g ≤ 4294967295) (hb : apartB f n g m = true) (hu : 0 ≤ apartI f g) (hn : 0 < n) (hm : 0 < m) (hc : n < apartI f g) (h3 : joinS f n g m = (0, 0, false)) :
    Calls Try.prog 9 #[.agg #[.int .u32 f, .int .i64 n], .agg #[.int .u32 g, .int .i64 m]] w fun e w' => e = .returned (spanV (joinS f n g m)) ∧ Gn w w' := by
  have hs := apartB_spec hb
  have ho : nearB f g = true := by simp [nearB]; omega
  have h5 : mayB n = true := by simp [mayB]; omega
  have h6 : mayB m = true := by simp [mayB]; omega
  have e1 : (n == 0) = false := by simp; omega
  have e2 : (m == 0) = false := by simp; omega
  rw [h3]
  clear h3 hb
  go_enter Try.func9, Try.ntmps9
  go_wp2_with (first | (go_at_call 20; refine (off_is _ _ _ _ ho hf hg).mono ?_; rintro e w' ⟨rfl, rfl⟩; simp only [if_true, if_false, Bool.false_eq_true]) | (go_at_call 21; refine (right_is _ _ _ _ (by assumption)).mono ?_; rintro e w' ⟨rfl, p, rfl⟩))
  exact bodyPost_ret (v := spanV _) (by simp [results, Try.results9, go_sem, spanV]; try (first | done | omega)) rfl ⟨rfl, by repeat (first | exact Gn.refl _ | refine Gn.gr ?_ _ | refine Gn.alloc ?_ _)⟩

theorem rjoin_up_1 (f n g m : Int) (w : World) (hf : 0 ≤ f ∧ f ≤ 4294967295) (hg : 0 ≤ g ∧ g ≤ 4294967295) (hb : apartB f n g m = true) (hu : 0 ≤ apartI f g) (hn : 0 < n) (hm : 0 < m) (hc : apartI f g ≤ n ∧ n < apartI f g + m ∧ 1073741824 < apartI f g + m) (h3 : joinS f n g m = (0, 0, false)) :
    Calls Try.prog 9 #[.agg #[.int .u32 f, .int .i64 n], .agg #[.int .u32 g, .int .i64 m]] w fun e w' => e = .returned (spanV (joinS f n g m)) ∧ Gn w w' := by
  have hs := apartB_spec hb
  have ho : nearB f g = true := by simp [nearB]; omega
  have h5 : mayB n = true := by simp [mayB]; omega
  have h6 : mayB m = true := by simp [mayB]; omega
  have e1 : (n == 0) = false := by simp; omega
  have e2 : (m == 0) = false := by simp; omega
  rw [h3]
  clear h3 hb
  go_enter Try.func9, Try.ntmps9
  go_wp2_with (first | (go_at_call 20; refine (off_is _ _ _ _ ho hf hg).mono ?_; rintro e w' ⟨rfl, rfl⟩; simp only [if_true, if_false, Bool.false_eq_true]) | (go_at_call 21; refine (right_is _ _ _ _ (by assumption)).mono ?_; rintro e w' ⟨rfl, p, rfl⟩))
  refine wp_region_gr (by kernel_rfl) (by kernel_rfl) ?_
  repeat (go_big_quiet_step (fail))
  refine wpQuiet_nil ?_
  rintro _ ⟨p, rfl⟩
  go_wp2
  exact bodyPost_ret (v := spanV _) (by simp [results, Try.results9, go_sem, spanV]; try (first | done | omega)) rfl ⟨rfl, by repeat (first | exact Gn.refl _ | refine Gn.gr ?_ _ | refine Gn.alloc ?_ _)⟩

theorem rjoin_up_2 (f n g m : Int) (w : World) (hf : 0 ≤ f ∧ f ≤ 4294967295) (hg : 0 ≤ g ∧ g ≤ 4294967295) (hb : apartB f n g m = true) (hu : 0 ≤ apartI f g) (hn : 0 < n) (hm : 0 < m) (hc : apartI f g ≤ n ∧ n < apartI f g + m ∧ apartI f g + m ≤ 1073741824) (h3 : joinS f n g m = (f, apartI f g + m, true)) :
    Calls Try.prog 9 #[.agg #[.int .u32 f, .int .i64 n], .agg #[.int .u32 g, .int .i64 m]] w fun e w' => e = .returned (spanV (joinS f n g m)) ∧ Gn w w' := by
  have hs := apartB_spec hb
  have ho : nearB f g = true := by simp [nearB]; omega
  have h5 : mayB n = true := by simp [mayB]; omega
  have h6 : mayB m = true := by simp [mayB]; omega
  have e1 : (n == 0) = false := by simp; omega
  have e2 : (m == 0) = false := by simp; omega
  rw [h3]
  clear h3 hb
  go_enter Try.func9, Try.ntmps9
  go_wp2_with (first | (go_at_call 20; refine (off_is _ _ _ _ ho hf hg).mono ?_; rintro e w' ⟨rfl, rfl⟩; simp only [if_true, if_false, Bool.false_eq_true]) | (go_at_call 21; refine (right_is _ _ _ _ (by assumption)).mono ?_; rintro e w' ⟨rfl, p, rfl⟩))
  refine wp_region_gr (by kernel_rfl) (by kernel_rfl) ?_
  repeat (go_big_quiet_step (fail))
  refine wpQuiet_nil ?_
  rintro _ ⟨p, rfl⟩
  go_wp2
  exact bodyPost_ret (v := spanV _) (by simp [results, Try.results9, go_sem, spanV]; try (first | done | omega)) rfl ⟨rfl, by repeat (first | exact Gn.refl _ | refine Gn.gr ?_ _ | refine Gn.alloc ?_ _)⟩

theorem rjoin_up_3 (f n g m : Int) (w : World) (hf : 0 ≤ f ∧ f ≤ 4294967295) (hg : 0 ≤ g ∧ g ≤ 4294967295) (hb : apartB f n g m = true) (hu : 0 ≤ apartI f g) (hn : 0 < n) (hm : 0 < m) (hc : apartI f g ≤ n ∧ apartI f g + m ≤ n ∧ n ≤ 1073741824) (h3 : joinS f n g m = (f, n, true)) :
    Calls Try.prog 9 #[.agg #[.int .u32 f, .int .i64 n], .agg #[.int .u32 g, .int .i64 m]] w fun e w' => e = .returned (spanV (joinS f n g m)) ∧ Gn w w' := by
  have hs := apartB_spec hb
  have ho : nearB f g = true := by simp [nearB]; omega
  have h5 : mayB n = true := by simp [mayB]; omega
  have h6 : mayB m = true := by simp [mayB]; omega
  have e1 : (n == 0) = false := by simp; omega
  have e2 : (m == 0) = false := by simp; omega
  rw [h3]
  clear h3 hb
  go_enter Try.func9, Try.ntmps9
  go_wp2_with (first | (go_at_call 20; refine (off_is _ _ _ _ ho hf hg).mono ?_; rintro e w' ⟨rfl, rfl⟩; simp only [if_true, if_false, Bool.false_eq_true]) | (go_at_call 21; refine (right_is _ _ _ _ (by assumption)).mono ?_; rintro e w' ⟨rfl, p, rfl⟩))
  refine wp_region_gr (by kernel_rfl) (by kernel_rfl) ?_
  repeat (go_big_quiet_step (fail))
  refine wpQuiet_nil ?_
  rintro _ ⟨p, rfl⟩
  go_wp2
  exact bodyPost_ret (v := spanV _) (by simp [results, Try.results9, go_sem, spanV]; try (first | done | omega)) rfl ⟨rfl, by repeat (first | exact Gn.refl _ | refine Gn.gr ?_ _ | refine Gn.alloc ?_ _)⟩

theorem rjoin_down_0 (f n g m : Int) (w : World) (hf : 0 ≤ f ∧ f ≤ 4294967295) (hg : 0 ≤ g ∧ g ≤ 4294967295) (hb : apartB f n g m = true) (hu : apartI f g < 0) (hn : 0 < n) (hm : 0 < m) (hc : apartI f g + m < 0) (h3 : joinS f n g m = (0, 0, false)) :
    Calls Try.prog 9 #[.agg #[.int .u32 f, .int .i64 n], .agg #[.int .u32 g, .int .i64 m]] w fun e w' => e = .returned (spanV (joinS f n g m)) ∧ Gn w w' := by
  have hs := apartB_spec hb
  have ho : nearB f g = true := by simp [nearB]; omega
  have h5 : mayB n = true := by simp [mayB]; omega
  have h6 : mayB m = true := by simp [mayB]; omega
  have e1 : (n == 0) = false := by simp; omega
  have e2 : (m == 0) = false := by simp; omega
  rw [h3]
  clear h3 hb
  go_enter Try.func9, Try.ntmps9
  go_wp2_with (first | (go_at_call 20; refine (off_is _ _ _ _ ho hf hg).mono ?_; rintro e w' ⟨rfl, rfl⟩; simp only [if_true, if_false, Bool.false_eq_true]) | (go_at_call 21; refine (right_is _ _ _ _ (by assumption)).mono ?_; rintro e w' ⟨rfl, p, rfl⟩))
  exact bodyPost_ret (v := spanV _) (by simp [results, Try.results9, go_sem, spanV]; try (first | done | omega)) rfl ⟨rfl, by repeat (first | exact Gn.refl _ | refine Gn.gr ?_ _ | refine Gn.alloc ?_ _)⟩

theorem rjoin_down_1 (f n g m : Int) (w : World) (hf : 0 ≤ f ∧ f ≤ 4294967295) (hg : 0 ≤ g ∧ g ≤ 4294967295) (hb : apartB f n g m = true) (hu : apartI f g < 0) (hn : 0 < n) (hm : 0 < m) (hc : 0 ≤ apartI f g + m ∧ n < apartI f g + m) (h3 : joinS f n g m = (g, m, true)) :
    Calls Try.prog 9 #[.agg #[.int .u32 f, .int .i64 n], .agg #[.int .u32 g, .int .i64 m]] w fun e w' => e = .returned (spanV (joinS f n g m)) ∧ Gn w w' := by
  have hs := apartB_spec hb
  have ho : nearB f g = true := by simp [nearB]; omega
  have h5 : mayB n = true := by simp [mayB]; omega
  have h6 : mayB m = true := by simp [mayB]; omega
  have e1 : (n == 0) = false := by simp; omega
  have e2 : (m == 0) = false := by simp; omega
  rw [h3]
  clear h3 hb
  go_enter Try.func9, Try.ntmps9
  go_wp2_with (first | (go_at_call 20; refine (off_is _ _ _ _ ho hf hg).mono ?_; rintro e w' ⟨rfl, rfl⟩; simp only [if_true, if_false, Bool.false_eq_true]) | (go_at_call 21; refine (right_is _ _ _ _ (by assumption)).mono ?_; rintro e w' ⟨rfl, p, rfl⟩))
  refine wp_region_gr (by kernel_rfl) (by kernel_rfl) ?_
  repeat (go_big_quiet_step (fail))
  refine wpQuiet_nil ?_
  rintro _ ⟨p, rfl⟩
  go_wp2
  exact bodyPost_ret (v := spanV _) (by simp [results, Try.results9, go_sem, spanV]; try (first | done | omega)) rfl ⟨rfl, by repeat (first | exact Gn.refl _ | refine Gn.gr ?_ _ | refine Gn.alloc ?_ _)⟩

theorem rjoin_down_2 (f n g m : Int) (w : World) (hf : 0 ≤ f ∧ f ≤ 4294967295) (hg : 0 ≤ g ∧ g ≤ 4294967295) (hb : apartB f n g m = true) (hu : apartI f g < 0) (hn : 0 < n) (hm : 0 < m) (hc : 0 ≤ apartI f g + m ∧ apartI f g + m ≤ n ∧ 1073741824 < n - apartI f g) (h3 : joinS f n g m = (0, 0, false)) :
    Calls Try.prog 9 #[.agg #[.int .u32 f, .int .i64 n], .agg #[.int .u32 g, .int .i64 m]] w fun e w' => e = .returned (spanV (joinS f n g m)) ∧ Gn w w' := by
  have hs := apartB_spec hb
  have ho : nearB f g = true := by simp [nearB]; omega
  have h5 : mayB n = true := by simp [mayB]; omega
  have h6 : mayB m = true := by simp [mayB]; omega
  have e1 : (n == 0) = false := by simp; omega
  have e2 : (m == 0) = false := by simp; omega
  rw [h3]
  clear h3 hb
  go_enter Try.func9, Try.ntmps9
  go_wp2_with (first | (go_at_call 20; refine (off_is _ _ _ _ ho hf hg).mono ?_; rintro e w' ⟨rfl, rfl⟩; simp only [if_true, if_false, Bool.false_eq_true]) | (go_at_call 21; refine (right_is _ _ _ _ (by assumption)).mono ?_; rintro e w' ⟨rfl, p, rfl⟩))
  refine wp_region_gr (by kernel_rfl) (by kernel_rfl) ?_
  repeat (go_big_quiet_step (fail))
  refine wpQuiet_nil ?_
  rintro _ ⟨p, rfl⟩
  go_wp2
  exact bodyPost_ret (v := spanV _) (by simp [results, Try.results9, go_sem, spanV]; try (first | done | omega)) rfl ⟨rfl, by repeat (first | exact Gn.refl _ | refine Gn.gr ?_ _ | refine Gn.alloc ?_ _)⟩

theorem rjoin_down_3 (f n g m : Int) (w : World) (hf : 0 ≤ f ∧ f ≤ 4294967295) (hg : 0 ≤ g ∧ g ≤ 4294967295) (hb : apartB f n g m = true) (hu : apartI f g < 0) (hn : 0 < n) (hm : 0 < m) (hc : 0 ≤ apartI f g + m ∧ apartI f g + m ≤ n ∧ n - apartI f g ≤ 1073741824) (h3 : joinS f n g m = (g, n - apartI f g, true)) :
    Calls Try.prog 9 #[.agg #[.int .u32 f, .int .i64 n], .agg #[.int .u32 g, .int .i64 m]] w fun e w' => e = .returned (spanV (joinS f n g m)) ∧ Gn w w' := by
  have hs := apartB_spec hb
  have ho : nearB f g = true := by simp [nearB]; omega
  have h5 : mayB n = true := by simp [mayB]; omega
  have h6 : mayB m = true := by simp [mayB]; omega
  have e1 : (n == 0) = false := by simp; omega
  have e2 : (m == 0) = false := by simp; omega
  rw [h3]
  clear h3 hb
  go_enter Try.func9, Try.ntmps9
  go_wp2_with (first | (go_at_call 20; refine (off_is _ _ _ _ ho hf hg).mono ?_; rintro e w' ⟨rfl, rfl⟩; simp only [if_true, if_false, Bool.false_eq_true]) | (go_at_call 21; refine (right_is _ _ _ _ (by assumption)).mono ?_; rintro e w' ⟨rfl, p, rfl⟩))
  refine wp_region_gr (by kernel_rfl) (by kernel_rfl) ?_
  repeat (go_big_quiet_step (fail))
  refine wpQuiet_nil ?_
  rintro _ ⟨p, rfl⟩
  go_wp2
  exact bodyPost_ret (v := spanV _) (by simp [results, Try.results9, go_sem, spanV]; try (first | done | omega)) rfl ⟨rfl, by repeat (first | exact Gn.refl _ | refine Gn.gr ?_ _ | refine Gn.alloc ?_ _)⟩

theorem rjoin_no (f n g m : Int) (w : World) (hf : 0 ≤ f ∧ f ≤ 4294967295) (hg : 0 ≤ g ∧ g ≤ 4294967295) (h : ¬ (apartB f n g m = true ∧ 0 < n ∧ 0 < m)) :
    Calls Try.prog 9 #[.agg #[.int .u32 f, .int .i64 n], .agg #[.int .u32 g, .int .i64 m]] w fun e w' => e = .returned (spanV (joinS f n g m)) ∧ Gn w w' := by
  rw [joinS_no h]
  have hc : (∃ b, nearB f g = b ∧ b = false) ∨ (nearB f g = true ∧ mayB n = false) ∨ (nearB f g = true ∧ mayB n = true ∧ mayB m = false) ∨ (nearB f g = true ∧ mayB n = true ∧ mayB m = true ∧ n = 0) ∨ (nearB f g = true ∧ mayB n = true ∧ mayB m = true ∧ 0 < n ∧ m = 0) := by
    rw [show apartB f n g m = (nearB f g && mayB n && mayB m) from rfl] at h
    cases h1 : nearB f g
    · exact .inl ⟨false, rfl, rfl⟩
    · refine .inr ?_
      rw [h1] at h
      cases h2 : mayB n
      · exact .inl ⟨rfl, rfl⟩
      · refine .inr ?_
        rw [h2] at h
        cases h3 : mayB m
        · exact .inl ⟨rfl, rfl, rfl⟩
        · rw [h3] at h
          simp only [mayB, decide_eq_true_eq] at h2 h3
          simp only [Bool.and_self, true_and] at h ⊢
          omega
  clear h
  rcases hc with ⟨b, ho, rfl⟩ | ⟨ho, h2⟩ | ⟨ho, h2, h3⟩ | ⟨ho, h2, h3, rfl⟩ | ⟨ho, h2, h3, h4, rfl⟩
  all_goals
    go_enter Try.func9, Try.ntmps9
    go_wp2_with (first | (go_at_call 20; refine (off_is _ _ _ _ ho hf hg).mono ?_; rintro e w' ⟨rfl, rfl⟩; simp only [if_true, if_false, Bool.false_eq_true]) | (go_at_call 21; refine (right_is _ _ _ _ (by assumption)).mono ?_; rintro e w' ⟨rfl, p, rfl⟩))
    exact bodyPost_ret (v := spanV _) (by simp [results, Try.results9, go_sem, spanV]; try (first | done | omega)) rfl ⟨rfl, by repeat (first | exact Gn.refl _ | refine Gn.gr ?_ _ | refine Gn.alloc ?_ _)⟩

theorem rjoin_is (f n g m : Int) (w : World) (hf : 0 ≤ f ∧ f ≤ 4294967295) (hg : 0 ≤ g ∧ g ≤ 4294967295) :
    Calls Try.prog 9 #[.agg #[.int .u32 f, .int .i64 n], .agg #[.int .u32 g, .int .i64 m]] w fun e w' => e = .returned (spanV (joinS f n g m)) ∧ Gn w w' := by
  by_cases h : apartB f n g m = true ∧ 0 < n ∧ 0 < m
  · obtain ⟨hb, hn, hm⟩ := h
    by_cases hu : 0 ≤ apartI f g
    · rcases joinS_up hb hu hn hm with ⟨h1, h3⟩ | ⟨h1, h2, h4, h3⟩ | ⟨h1, h2, h4, h3⟩ | ⟨h1, h2, h4, h3⟩
      · exact rjoin_up_0 f n g m w hf hg hb hu hn hm h1 h3
      · exact rjoin_up_1 f n g m w hf hg hb hu hn hm ⟨h1, h2, h4⟩ h3
      · exact rjoin_up_2 f n g m w hf hg hb hu hn hm ⟨h1, h2, h4⟩ h3
      · exact rjoin_up_3 f n g m w hf hg hb hu hn hm ⟨h1, h2, h4⟩ h3
    · have hu : apartI f g < 0 := by omega
      rcases joinS_down hb hu hn hm with ⟨h1, h3⟩ | ⟨h1, h2, h3⟩ | ⟨h1, h2, h4, h3⟩ | ⟨h1, h2, h4, h3⟩
      · exact rjoin_down_0 f n g m w hf hg hb hu hn hm h1 h3
      · exact rjoin_down_1 f n g m w hf hg hb hu hn hm ⟨h1, h2⟩ h3
      · exact rjoin_down_2 f n g m w hf hg hb hu hn hm ⟨h1, h2, h4⟩ h3
      · exact rjoin_down_3 f n g m w hf hg hb hu hn hm ⟨h1, h2, h4⟩ h3
  · exact rjoin_no f n g m w hf hg h

end Go.Proofs.Ytadhmmhffehebaa
