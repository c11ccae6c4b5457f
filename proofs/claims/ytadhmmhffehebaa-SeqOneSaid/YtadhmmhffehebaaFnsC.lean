/- Join, Cut, Before, End of package seq and of its reference return what the functions below say, for all spans in their kinds' ranges. -/
import Derived.Test.YtadhmmhffehebaaFnsA
namespace Go.Proofs.Ytadhmmhffehebaa
open Go.RowKit

/-- the least span that has both -/
def joinS (f n g m : Int) : Int × Int × Bool :=
  if apartB f n g m = true ∧ 0 < n ∧ 0 < m then
    if 0 ≤ apartI f g then
      if apartI f g ≤ n ∧ max n (apartI f g + m) ≤ 1073741824 then (f, max n (apartI f g + m), true) else (0, 0, false)
    else
      if 0 ≤ apartI f g + m ∧ max m (n - apartI f g) ≤ 1073741824 then (g, max m (n - apartI f g), true) else (0, 0, false)
  else (0, 0, false)

theorem joinS_no {f n g m : Int} (h : ¬ (apartB f n g m = true ∧ 0 < n ∧ 0 < m)) : joinS f n g m = (0, 0, false) := by unfold joinS; rw [if_neg h]
theorem joinS_up {f n g m : Int} (hb : apartB f n g m = true) (hu : 0 ≤ apartI f g) (hn : 0 < n) (hm : 0 < m) :
    (n < apartI f g ∧ joinS f n g m = (0, 0, false)) ∨
    (apartI f g ≤ n ∧ n < apartI f g + m ∧ 1073741824 < apartI f g + m ∧ joinS f n g m = (0, 0, false)) ∨
    (apartI f g ≤ n ∧ n < apartI f g + m ∧ apartI f g + m ≤ 1073741824 ∧ joinS f n g m = (f, apartI f g + m, true)) ∨
    (apartI f g ≤ n ∧ apartI f g + m ≤ n ∧ n ≤ 1073741824 ∧ joinS f n g m = (f, n, true)) := by
  have hs := apartB_spec hb
  have e : joinS f n g m = if apartI f g ≤ n ∧ max n (apartI f g + m) ≤ 1073741824 then (f, max n (apartI f g + m), true) else (0, 0, false) := by
    unfold joinS; rw [if_pos ⟨hb, hn, hm⟩, if_pos hu]
  have hc : n < apartI f g ∨ (apartI f g ≤ n ∧ n < apartI f g + m ∧ 1073741824 < apartI f g + m) ∨ (apartI f g ≤ n ∧ n < apartI f g + m ∧ apartI f g + m ≤ 1073741824) ∨ (apartI f g ≤ n ∧ apartI f g + m ≤ n ∧ n ≤ 1073741824) := by omega
  rw [e]
  rcases hc with h | ⟨h1, h2, h3⟩ | ⟨h1, h2, h3⟩ | ⟨h1, h2, h3⟩
  · exact .inl ⟨h, by rw [if_neg (by omega)]⟩
  · exact .inr (.inl ⟨h1, h2, h3, by rw [if_neg (by omega)]⟩)
  · exact .inr (.inr (.inl ⟨h1, h2, h3, by rw [if_pos (by omega), Int.max_eq_right (by omega)]⟩))
  · exact .inr (.inr (.inr ⟨h1, h2, h3, by rw [if_pos (by omega), Int.max_eq_left (by omega)]⟩))
theorem joinS_down {f n g m : Int} (hb : apartB f n g m = true) (hu : apartI f g < 0) (hn : 0 < n) (hm : 0 < m) :
    (apartI f g + m < 0 ∧ joinS f n g m = (0, 0, false)) ∨
    (0 ≤ apartI f g + m ∧ n < apartI f g + m ∧ joinS f n g m = (g, m, true)) ∨
    (0 ≤ apartI f g + m ∧ apartI f g + m ≤ n ∧ 1073741824 < n - apartI f g ∧ joinS f n g m = (0, 0, false)) ∨
    (0 ≤ apartI f g + m ∧ apartI f g + m ≤ n ∧ n - apartI f g ≤ 1073741824 ∧ joinS f n g m = (g, n - apartI f g, true)) := by
  have hs := apartB_spec hb
  have e : joinS f n g m = if 0 ≤ apartI f g + m ∧ max m (n - apartI f g) ≤ 1073741824 then (g, max m (n - apartI f g), true) else (0, 0, false) := by
    unfold joinS; rw [if_pos ⟨hb, hn, hm⟩, if_neg (by omega)]
  have hc : apartI f g + m < 0 ∨ (0 ≤ apartI f g + m ∧ n < apartI f g + m) ∨ (0 ≤ apartI f g + m ∧ apartI f g + m ≤ n ∧ 1073741824 < n - apartI f g) ∨ (0 ≤ apartI f g + m ∧ apartI f g + m ≤ n ∧ n - apartI f g ≤ 1073741824) := by omega
  rw [e]
  rcases hc with h | ⟨h1, h2⟩ | ⟨h1, h2, h3⟩ | ⟨h1, h2, h3⟩
  · exact .inl ⟨h, by rw [if_neg (by omega)]⟩
  · exact .inr (.inl ⟨h1, h2, by rw [if_pos (by omega), Int.max_eq_left (by omega)]⟩)
  · exact .inr (.inr (.inl ⟨h1, h2, h3, by rw [if_neg (by omega)]⟩))
  · exact .inr (.inr (.inr ⟨h1, h2, h3, by rw [if_pos (by omega), Int.max_eq_right (by omega)]⟩))
theorem joinS_swap {f n g m : Int} (hb : apartB f n g m = true) (hu : apartI f g < 0) : joinS f n g m = joinS g m f n := by
  have hs := apartB_spec hb
  have hw := apartI_swap ⟨hs.1, hs.2.1⟩
  unfold joinS
  simp only [hb, apartB_swap hb, hw, true_and]
  by_cases h : 0 < n ∧ 0 < m
  · rw [if_pos h, if_pos (show 0 < m ∧ 0 < n from ⟨h.2, h.1⟩), if_neg (show ¬ 0 ≤ apartI f g by omega), if_pos (show 0 ≤ -apartI f g by omega)]
    rw [show -apartI f g + n = n - apartI f g from by omega]
    by_cases h2 : 0 ≤ apartI f g + m ∧ max m (n - apartI f g) ≤ 1073741824
    · rw [if_pos h2, if_pos (by omega)]
    · rw [if_neg h2, if_neg (by omega)]
  · rw [if_neg h, if_neg (by omega)]

theorem join_no (f n g m : Int) (w : World) (h : ¬ (apartB f n g m = true ∧ 0 < n ∧ 0 < m)) :
    Calls Try.prog 8 #[.agg #[.int .u32 f, .int .i64 n], .agg #[.int .u32 g, .int .i64 m]] w fun e w' => e = .returned (spanV (joinS f n g m)) ∧ Gn w w' := by
  rw [joinS_no h]
  have hc : apartB f n g m = false ∨ (apartB f n g m = true ∧ n = 0) ∨ (apartB f n g m = true ∧ 0 < n ∧ m = 0) := by
    cases hb : apartB f n g m
    · exact .inl rfl
    · have hs := apartB_spec hb
      simp only [hb, true_and] at h
      refine .inr ?_
      simp only [true_and]
      omega
  clear h
  rcases hc with hb | ⟨hb, rfl⟩ | ⟨hb, h1, rfl⟩
  all_goals
    go_enter Try.func8, Try.ntmps8
    go_wp2_with (go_at_call 19; refine (apart_is _ _ _ _ _ _ hb).mono ?_; rintro e w' ⟨rfl, p, rfl⟩)
    exact bodyPost_ret (v := spanV _) (by simp [results, Try.results8, go_sem, spanV]; try (first | done | omega)) rfl ⟨rfl, by repeat (first | exact Gn.refl _ | refine Gn.gr ?_ _ | refine Gn.alloc ?_ _)⟩

theorem join_up (f n g m : Int) (w : World) (hb : apartB f n g m = true) (hu : 0 ≤ apartI f g) (hn : 0 < n) (hm : 0 < m) :
    Calls Try.prog 8 #[.agg #[.int .u32 f, .int .i64 n], .agg #[.int .u32 g, .int .i64 m]] w fun e w' => e = .returned (spanV (joinS f n g m)) ∧ Gn w w' := by
  have hs := apartB_spec hb
  have e1 : (n == 0) = false := by simp; omega
  have e2 : (m == 0) = false := by simp; omega
  rcases joinS_up hb hu hn hm with ⟨h1, h3⟩ | ⟨h1, h2, h4, h3⟩ | ⟨h1, h2, h4, h3⟩ | ⟨h1, h2, h4, h3⟩
  all_goals
    rw [h3]
    clear h3
    go_enter Try.func8, Try.ntmps8
    go_wp2_with (go_at_call 19; refine (apart_is _ _ _ _ _ _ hb).mono ?_; rintro e w' ⟨rfl, p, rfl⟩)
    exact bodyPost_ret (v := spanV _) (by simp [results, Try.results8, go_sem, spanV]; try (first | done | omega)) rfl ⟨rfl, by repeat (first | exact Gn.refl _ | refine Gn.gr ?_ _ | refine Gn.alloc ?_ _)⟩

theorem join_is (f n g m : Int) (w : World) :
    Calls Try.prog 8 #[.agg #[.int .u32 f, .int .i64 n], .agg #[.int .u32 g, .int .i64 m]] w fun e w' => e = .returned (spanV (joinS f n g m)) ∧ Gn w w' := by
  by_cases h : apartB f n g m = true ∧ 0 < n ∧ 0 < m
  · obtain ⟨hb, hn, hm⟩ := h
    by_cases hu : 0 ≤ apartI f g
    · exact join_up f n g m w hb hu hn hm
    · have hs := apartB_spec hb
      have hneg : apartI f g < 0 := by omega
      have e1 : (n == 0) = false := by simp; omega
      have e2 : (m == 0) = false := by simp; omega
      rw [joinS_swap hb hneg]
      have hc := fun w => join_up g m f n w (apartB_swap hb) (by have := apartI_swap ⟨hs.1, hs.2.1⟩; omega) hm hn
      have H : Hid (∀ w, _) := hc
      clear hc hu
      go_enter Try.func8, Try.ntmps8
      go_wp2_with (first | (go_at_call 19; refine (apart_is _ _ _ _ _ _ hb).mono ?_; rintro e w' ⟨rfl, p, rfl⟩) | (go_at_call 8; refine (H.out _).mono ?_; rintro e w' ⟨rfl, p, rfl⟩; simp only [spanV]))
      exact bodyPost_ret (v := spanV _) (by simp [results, Try.results8, go_sem, spanV]; try (first | done | omega)) rfl ⟨rfl, by repeat (first | exact Gn.refl _ | refine Gn.gr ?_ _ | refine Gn.alloc ?_ _)⟩
  · exact join_no f n g m w h

def beforeB (a b : Int) : Bool := decide (0 < (b - a) % 4294967296 ∧ (b - a) % 4294967296 < 2147483648)
theorem before_is (r : Bool) (a b : Int) (w : World) (h : beforeB a b = r) : Calls Try.prog 12 #[.int .u32 a, .int .u32 b] w fun e w' => e = .returned (.bool r) ∧ w = w' := by
  subst h
  have e : decide (0 < wrap32 ((b - a) % 4294967296)) = beforeB a b := by unfold wrap32 beforeB; congr 1; rw [eq_iff_iff]; omega
  have H : Hid _ := e
  clear e
  go_enter Try.func12, Try.ntmps12
  go_wp2
  go_ret
  exact ⟨bool_ret H.out, rfl⟩
theorem rbefore_is (r : Bool) (a b : Int) (w : World) (h : beforeB a b = r) (ha : 0 ≤ a ∧ a ≤ 4294967295) (hb : 0 ≤ b ∧ b ≤ 4294967295) : Calls Try.prog 13 #[.int .u32 a, .int .u32 b] w fun e w' => e = .returned (.bool r) ∧ w = w' := by
  subst h
  have hc : (b - a) % 4294967296 < 1 ∨ (1 ≤ (b - a) % 4294967296 ∧ (b - a) % 4294967296 ≤ 2147483647) ∨ 2147483647 < (b - a) % 4294967296 := by omega
  rcases hc with h | ⟨h, h2⟩ | h
  all_goals
    go_enter Try.func13, Try.ntmps13
    go_wp2_with (go_at_call 23; refine (rahead_any _ _ _ ha hb).mono ?_; rintro e w' ⟨rfl, rfl⟩)
    go_ret
    refine ⟨bool_ret ?_, rfl⟩
    first | (unfold beforeB; rw [Bool.eq_iff_iff]; simp; omega) | (unfold beforeB; simp; omega)
theorem end_is (f n : Int) (w : World) : Calls Try.prog 17 #[.agg #[.int .u32 f, .int .i64 n]] w fun e w' => e = .returned (.int .u32 ((f + n) % 4294967296)) ∧ Gn w w' := by
  go_enter Try.func17, Try.ntmps17
  go_wp2
  go_ret
  exact ⟨int_ret (by omega), (Gn.refl _).alloc _⟩

/-- a span cut in two -/
def cutV (f n t : Int) : Value := if inB f n t then .tuple #[.agg #[.int .u32 f, .int .i64 ((t - f) % 4294967296)], .agg #[.int .u32 t, .int .i64 (n - (t - f) % 4294967296)], .bool true]
  else .tuple #[.agg #[.int .u32 0, .int .i64 0], .agg #[.int .u32 0, .int .i64 0], .bool false]
theorem inB_spec {f n t : Int} (h : inB f n t = true) : 0 ≤ n ∧ n ≤ 1073741824 ∧ (t - f) % 4294967296 < n := by
  simp [inB, mayB] at h
  omega
theorem cut_is (f n t : Int) (w : World) (hf : 0 ≤ f ∧ f ≤ 4294967295) (ht : 0 ≤ t ∧ t ≤ 4294967295) :
    Calls Try.prog 10 #[.agg #[.int .u32 f, .int .i64 n], .int .u32 t] w fun e w' => e = .returned (cutV f n t) ∧ Gn w w' := by
  cases hi : inB f n t
  · rw [show cutV f n t = _ from if_neg (by simp [hi])]
    go_enter Try.func10, Try.ntmps10
    go_wp2_with (go_at_call 14; refine (in_is _ _ _ _ _ hi).mono ?_; rintro e w' ⟨rfl, p, rfl⟩)
    exact bodyPost_ret (v := .tuple #[.agg #[.int .u32 0, .int .i64 0], .agg #[.int .u32 0, .int .i64 0], .bool false]) (by simp [results, Try.results10, go_sem]) rfl ⟨rfl, by repeat (first | exact Gn.refl _ | refine Gn.gr ?_ _ | refine Gn.alloc ?_ _)⟩
  · rw [show cutV f n t = _ from if_pos hi]
    have hs := inB_spec hi
    go_enter Try.func10, Try.ntmps10
    go_wp2_with (first | (go_at_call 14; refine (in_is _ _ _ _ _ hi).mono ?_; rintro e w' ⟨rfl, p, rfl⟩) | (go_at_call 22; refine (ahead_any _ _ _).mono ?_; rintro e w' ⟨rfl, rfl⟩))
    go_region
    go_wp2
    exact bodyPost_ret (v := (.tuple #[.agg #[.int .u32 f, .int .i64 ((t - f) % 4294967296)], .agg #[.int .u32 t, .int .i64 (n - (t - f) % 4294967296)], .bool true])) (by simp [results, Try.results10, go_sem]) rfl ⟨rfl, by repeat (first | exact Gn.refl _ | refine Gn.gr ?_ _ | refine Gn.alloc ?_ _)⟩
theorem rcut_is (f n t : Int) (w : World) (hf : 0 ≤ f ∧ f ≤ 4294967295) (ht : 0 ≤ t ∧ t ≤ 4294967295) :
    Calls Try.prog 11 #[.agg #[.int .u32 f, .int .i64 n], .int .u32 t] w fun e w' => e = .returned (cutV f n t) ∧ Gn w w' := by
  cases hi : inB f n t
  · rw [show cutV f n t = _ from if_neg (by simp [hi])]
    go_enter Try.func11, Try.ntmps11
    go_wp2_with (go_at_call 15; refine (rin_is _ _ _ _ _ hi hf ht).mono ?_; rintro e w' ⟨rfl, p, rfl⟩)
    exact bodyPost_ret (v := .tuple #[.agg #[.int .u32 0, .int .i64 0], .agg #[.int .u32 0, .int .i64 0], .bool false]) (by simp [results, Try.results11, go_sem]) rfl ⟨rfl, by repeat (first | exact Gn.refl _ | refine Gn.gr ?_ _ | refine Gn.alloc ?_ _)⟩
  · rw [show cutV f n t = _ from if_pos hi]
    have hs := inB_spec hi
    go_enter Try.func11, Try.ntmps11
    go_wp2_with (first | (go_at_call 15; refine (rin_is _ _ _ _ _ hi hf ht).mono ?_; rintro e w' ⟨rfl, p, rfl⟩) | (go_at_call 23; refine (rahead_any _ _ _ hf ht).mono ?_; rintro e w' ⟨rfl, rfl⟩))
    go_region
    go_wp2
    exact bodyPost_ret (v := (.tuple #[.agg #[.int .u32 f, .int .i64 ((t - f) % 4294967296)], .agg #[.int .u32 t, .int .i64 (n - (t - f) % 4294967296)], .bool true])) (by simp [results, Try.results11, go_sem]) rfl ⟨rfl, by repeat (first | exact Gn.refl _ | refine Gn.gr ?_ _ | refine Gn.alloc ?_ _)⟩
end Go.Proofs.Ytadhmmhffehebaa
