/- The functions of package seq and of its reference, as equations. -/
import Derived.Test.YtadhmmhffehebaaGr
namespace Go.Proofs.Ytadhmmhffehebaa
open Go.RowKit

theorem ahead_any (f t : Int) (w : World) :
    Calls Try.prog 22 #[.int .u32 f, .int .u32 t] w fun e w' => e = .returned (.int .i64 ((t - f) % 4294967296)) ∧ w = w' := by
  go_enter Try.func22, Try.ntmps22
  go_wp2
  go_ret
  exact ⟨rfl, rfl⟩

theorem rahead_any (f t : Int) (w : World) (h : 0 ≤ f ∧ f ≤ 4294967295) (h2 : 0 ≤ t ∧ t ≤ 4294967295) :
    Calls Try.prog 23 #[.int .u32 f, .int .u32 t] w fun e w' => e = .returned (.int .i64 ((t - f) % 4294967296)) ∧ w = w' := by
  go_enter Try.func23, Try.ntmps23
  go_wp2
  all_goals go_ret
  all_goals exact ⟨int_ret (by omega), rfl⟩

def mayB (n : Int) : Bool := decide (0 ≤ n ∧ n ≤ 1073741824)

theorem may_is (b : Bool) (f n : Int) (w : World) (h : mayB n = b) :
    Calls Try.prog 24 #[.agg #[.int .u32 f, .int .i64 n]] w fun e w' => e = .returned (.bool b) ∧ Gn w w' := by
  subst h
  go_enter Try.func24, Try.ntmps24
  go_wp2
  all_goals go_ret
  all_goals refine ⟨bool_ret ?_, (Gn.refl _).alloc _⟩
  all_goals (unfold mayB; simp; omega)

theorem right_is (b : Bool) (f n : Int) (w : World) (h : mayB n = b) :
    Calls Try.prog 21 #[.agg #[.int .u32 f, .int .i64 n]] w fun e w' => e = .returned (.bool b) ∧ Gn w w' := by
  subst h
  go_enter Try.func21, Try.ntmps21
  go_wp2
  all_goals go_ret
  all_goals refine ⟨bool_ret ?_, (Gn.refl _).alloc _⟩
  all_goals (unfold mayB; simp; omega)

def inB (f n t : Int) : Bool := mayB n && decide ((t - f) % 4294967296 < n)

theorem in_is (b : Bool) (f n t : Int) (w : World) (h : inB f n t = b) :
    Calls Try.prog 14 #[.agg #[.int .u32 f, .int .i64 n], .int .u32 t] w fun e w' => e = .returned (.bool b) ∧ Gn w w' := by
  subst h
  cases hm : mayB n
  · go_enter Try.func14, Try.ntmps14
    go_wp2
    refine wp_region_gr (by kernel_rfl) (by kernel_rfl) ?_
    repeat (go_big_quiet_step (first | (go_at_call 24; exact Calls.in_gr (may_is _ _ _ _ hm)) | (go_at_call 22; exact Calls.in_gr_same (ahead_any _ _ _))))
    refine wpQuiet_nil ?_
    rintro _ ⟨p, rfl⟩
    go_wp2
    go_ret
    exact ⟨bool_ret (by simp [inB, hm]), ((Gn.refl _).alloc _).gr _⟩
  · go_enter Try.func14, Try.ntmps14
    go_wp2
    refine wp_region_gr (by kernel_rfl) (by kernel_rfl) ?_
    repeat (go_big_quiet_step (first | (go_at_call 24; exact Calls.in_gr (may_is _ _ _ _ hm)) | (go_at_call 22; exact Calls.in_gr_same (ahead_any _ _ _))))
    refine wpQuiet_nil ?_
    rintro _ ⟨p, rfl⟩
    go_wp2
    go_ret
    exact ⟨bool_ret (by simp [inB, hm]), ((Gn.refl _).alloc _).gr _⟩

theorem rin_is (b : Bool) (f n t : Int) (w : World) (h : inB f n t = b) (hf : 0 ≤ f ∧ f ≤ 4294967295) (ht : 0 ≤ t ∧ t ≤ 4294967295) :
    Calls Try.prog 15 #[.agg #[.int .u32 f, .int .i64 n], .int .u32 t] w fun e w' => e = .returned (.bool b) ∧ Gn w w' := by
  subst h
  cases hm : mayB n
  all_goals
    go_enter Try.func15, Try.ntmps15
    go_wp2
    refine wp_region_gr (by kernel_rfl) (by kernel_rfl) ?_
    repeat (go_big_quiet_step (first | (go_at_call 21; exact Calls.in_gr (right_is _ _ _ _ hm)) | (go_at_call 23; exact Calls.in_gr_same (rahead_any _ _ _ hf ht))))
    refine wpQuiet_nil ?_
    rintro _ ⟨p, rfl⟩
    go_wp2
    go_ret
    exact ⟨bool_ret (by simp [inB, hm]), ((Gn.refl _).alloc _).gr _⟩

/-- how far: the difference as a signed number -/
def apartI (f g : Int) : Int := (g - f + 2147483648) % 4294967296 - 2147483648
def apartB (f n g m : Int) : Bool := decide (-1073741824 < apartI f g ∧ apartI f g < 1073741824) && mayB n && mayB m

theorem apartI_bd (f g : Int) : -2147483648 ≤ apartI f g ∧ apartI f g ≤ 2147483647 := by unfold apartI; omega

theorem apart_is (b : Bool) (f n g m : Int) (w : World) (h : apartB f n g m = b) :
    Calls Try.prog 19 #[.agg #[.int .u32 f, .int .i64 n], .agg #[.int .u32 g, .int .i64 m]] w fun e w' => e = .returned (.tuple #[.int .i64 (apartI f g), .bool b]) ∧ Gn w w' := by
  subst h
  have e : IntKind.i32.wrap ((g - f) % 4294967296) = apartI f g := by rw [IntKind.wrap_i32]; unfold apartI; omega
  have bd := apartI_bd f g
  have hc : (-1073741824 < apartI f g ∧ apartI f g < 1073741824) ∨ apartI f g ≤ -1073741824 ∨ 1073741824 ≤ apartI f g := by omega
  rcases hc with ⟨h1, h2⟩ | h1 | h1 <;> cases hn : mayB n <;> cases hm : mayB m
  all_goals
    go_enter Try.func19, Try.ntmps19
    go_wp2_with (go_at_call 24; refine (may_is _ _ _ _ (by assumption)).mono ?_; rintro e w' ⟨rfl, p, rfl⟩)
    go_ret2
    exact ⟨by first | (simp [apartB, *]; done) | (simp [apartB, *]; omega), by repeat (first | exact Gn.refl _ | refine Gn.gr ?_ _ | refine Gn.alloc ?_ _)⟩

/-- what both spans have: where it begins, how many, and whether there is any -/
def meetS (f n g m : Int) : Int × Int × Bool :=
  if apartB f n g m then
    if 0 ≤ apartI f g then
      if 0 < min (n - apartI f g) m then (g, min (n - apartI f g) m, true) else (0, 0, false)
    else
      if 0 < min (m + apartI f g) n then (f, min (m + apartI f g) n, true) else (0, 0, false)
  else (0, 0, false)

def spanV (s : Int × Int × Bool) : Value := .tuple #[.agg #[.int .u32 s.1, .int .i64 s.2.1], .bool s.2.2]

theorem apartB_spec {f n g m : Int} (h : apartB f n g m = true) : -1073741824 < apartI f g ∧ apartI f g < 1073741824 ∧ 0 ≤ n ∧ n ≤ 1073741824 ∧ 0 ≤ m ∧ m ≤ 1073741824 := by
  simp [apartB, mayB] at h
  omega

theorem meet_no (f n g m : Int) (w : World) (hb : apartB f n g m = false) :
    Calls Try.prog 5 #[.agg #[.int .u32 f, .int .i64 n], .agg #[.int .u32 g, .int .i64 m]] w fun e w' => e = .returned (.tuple #[.agg #[.int .u32 0, .int .i64 0], .bool false]) ∧ Gn w w' := by
  go_enter Try.func5, Try.ntmps5
  go_wp2_with (go_at_call 19; refine (apart_is _ _ _ _ _ _ hb).mono ?_; rintro e w' ⟨rfl, p, rfl⟩)
  exact bodyPost_ret (v := .tuple #[.agg #[.int .u32 0, .int .i64 0], .bool false]) (by simp [results, Try.results5, go_sem]) rfl ⟨rfl, by repeat (first | exact Gn.refl _ | refine Gn.gr ?_ _ | refine Gn.alloc ?_ _)⟩

theorem meetS_no {f n g m : Int} (hb : apartB f n g m = false) : meetS f n g m = (0, 0, false) := by simp [meetS, hb]
theorem meetS_up {f n g m : Int} (hb : apartB f n g m = true) (hu : 0 ≤ apartI f g) :
    (m < n - apartI f g ∧ 0 < m ∧ meetS f n g m = (g, m, true)) ∨ (m < n - apartI f g ∧ m ≤ 0 ∧ meetS f n g m = (0, 0, false)) ∨
    (n - apartI f g ≤ m ∧ 0 < n - apartI f g ∧ meetS f n g m = (g, n - apartI f g, true)) ∨ (n - apartI f g ≤ m ∧ n - apartI f g ≤ 0 ∧ meetS f n g m = (0, 0, false)) := by
  have e : meetS f n g m = if 0 < min (n - apartI f g) m then (g, min (n - apartI f g) m, true) else (0, 0, false) := by simp [meetS, hb, hu]
  have hc : (m < n - apartI f g ∧ 0 < m) ∨ (m < n - apartI f g ∧ m ≤ 0) ∨ (n - apartI f g ≤ m ∧ 0 < n - apartI f g) ∨ (n - apartI f g ≤ m ∧ n - apartI f g ≤ 0) := by omega
  rw [e]
  rcases hc with ⟨h1, h2⟩ | ⟨h1, h2⟩ | ⟨h1, h2⟩ | ⟨h1, h2⟩
  · exact .inl ⟨h1, h2, by rw [Int.min_eq_right (by omega), if_pos h2]⟩
  · exact .inr (.inl ⟨h1, h2, by rw [Int.min_eq_right (by omega), if_neg (by omega)]⟩)
  · exact .inr (.inr (.inl ⟨h1, h2, by rw [Int.min_eq_left h1, if_pos h2]⟩))
  · exact .inr (.inr (.inr ⟨h1, h2, by rw [Int.min_eq_left h1, if_neg (by omega)]⟩))

theorem meet_up (f n g m : Int) (w : World) (hb : apartB f n g m = true) (hu : 0 ≤ apartI f g) :
    Calls Try.prog 5 #[.agg #[.int .u32 f, .int .i64 n], .agg #[.int .u32 g, .int .i64 m]] w fun e w' => e = .returned (spanV (meetS f n g m)) ∧ Gn w w' := by
  have hs := apartB_spec hb
  rcases meetS_up hb hu with ⟨h1, h2, h3⟩ | ⟨h1, h2, h3⟩ | ⟨h1, h2, h3⟩ | ⟨h1, h2, h3⟩
  all_goals
    rw [h3]
    clear h3
    go_enter Try.func5, Try.ntmps5
    go_wp2_with (go_at_call 19; refine (apart_is _ _ _ _ _ _ hb).mono ?_; rintro e w' ⟨rfl, p, rfl⟩)
    exact bodyPost_ret (by simp [results, Try.results5, go_sem, spanV]; try rfl) rfl ⟨rfl, by repeat (first | exact Gn.refl _ | refine Gn.gr ?_ _ | refine Gn.alloc ?_ _)⟩

theorem apartI_swap {f g : Int} (h : -1073741824 < apartI f g ∧ apartI f g < 1073741824) : apartI g f = - apartI f g := by
  unfold apartI at *
  omega
theorem apartB_swap {f n g m : Int} (hb : apartB f n g m = true) : apartB g m f n = true := by
  have hs := apartB_spec hb
  have := apartI_swap ⟨hs.1, hs.2.1⟩
  simp [apartB, mayB]
  omega
theorem meetS_swap {f n g m : Int} (hb : apartB f n g m = true) (hu : apartI f g < 0) : meetS f n g m = meetS g m f n := by
  have hs := apartB_spec hb
  have hw := apartI_swap ⟨hs.1, hs.2.1⟩
  simp only [meetS, hb, apartB_swap hb, if_true, hw]
  rw [if_neg (show ¬ 0 ≤ apartI f g by omega), if_pos (show 0 ≤ -apartI f g by omega), show m - -apartI f g = m + apartI f g from by omega]

theorem meet_is (r : Int × Int × Bool) (f n g m : Int) (w : World) (h : meetS f n g m = r) :
    Calls Try.prog 5 #[.agg #[.int .u32 f, .int .i64 n], .agg #[.int .u32 g, .int .i64 m]] w fun e w' => e = .returned (spanV r) ∧ Gn w w' := by
  subst h
  cases hb : apartB f n g m
  · rw [meetS_no hb]; exact meet_no f n g m w hb
  · by_cases hu : 0 ≤ apartI f g
    · exact meet_up f n g m w hb hu
    · have hs := apartB_spec hb
      have hn : apartI f g < 0 := by omega
      rw [meetS_swap hb hn]
      have hc := fun w => meet_up g m f n w (apartB_swap hb) (by have := apartI_swap ⟨hs.1, hs.2.1⟩; omega)
      have H : Hid (∀ w, _) := hc
      clear hc hu
      go_enter Try.func5, Try.ntmps5
      go_wp2_with (first | (go_at_call 19; refine (apart_is _ _ _ _ _ _ hb).mono ?_; rintro e w' ⟨rfl, p, rfl⟩) | (go_at_call 5; refine (H.out _).mono ?_; rintro e w' ⟨rfl, p, rfl⟩; simp only [spanV]))
      exact bodyPost_ret (by simp [results, Try.results5, go_sem, spanV]; try rfl) rfl ⟨rfl, by repeat (first | exact Gn.refl _ | refine Gn.gr ?_ _ | refine Gn.alloc ?_ _)⟩

/-- the reference's distance: the same number, where it is near -/
def nearB (f g : Int) : Bool := decide (-1073741824 < apartI f g ∧ apartI f g < 1073741824)
theorem off_is (b : Bool) (f g : Int) (w : World) (h : nearB f g = b) (hf : 0 ≤ f ∧ f ≤ 4294967295) (hg : 0 ≤ g ∧ g ≤ 4294967295) :
    Calls Try.prog 20 #[.int .u32 f, .int .u32 g] w fun e w' => e = .returned (.tuple #[.int .i64 (if b then apartI f g else 0), .bool b]) ∧ w = w' := by
  have e : apartI f g = (g - f + 2147483648) % 4294967296 - 2147483648 := rfl
  have H : Hid _ := e
  clear e
  have hc : ((g - f) % 4294967296 < 1073741824 ∧ (g - f) % 4294967296 = apartI f g ∧ nearB f g = true) ∨
      (3221225472 < (g - f) % 4294967296 ∧ (g - f) % 4294967296 - 4294967296 = apartI f g ∧ nearB f g = true) ∨
      ((1073741824 ≤ (g - f) % 4294967296 ∧ (g - f) % 4294967296 ≤ 3221225472) ∧ True ∧ nearB f g = false) := by
    have := H.out
    simp only [nearB, decide_eq_true_eq, decide_eq_false_iff_not, true_and]
    generalize apartI f g = D at *
    omega
  rcases hc with ⟨h1, h2, h3⟩ | ⟨h1, h2, h3⟩ | ⟨h1, h2, h3⟩
  all_goals
    have H2 : Hid _ := h2
    clear h2
    obtain rfl : _ = b := h3.symm.trans h
    have H3 : Hid _ := h3
    clear h3 h
    go_enter Try.func20, Try.ntmps20
    go_wp2_with (go_at_call 23; refine (rahead_any _ _ _ hf hg).mono ?_; rintro e w' ⟨rfl, rfl⟩)
    go_ret2
    refine ⟨?_, rfl⟩
    first | (rw [← H2.out]; rfl) | rfl

end Go.Proofs.Ytadhmmhffehebaa
