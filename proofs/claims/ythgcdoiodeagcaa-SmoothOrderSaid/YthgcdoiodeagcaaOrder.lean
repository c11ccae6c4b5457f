/- The walk of the law SmoothOrder: it returns true, for any three words. -/
import Derived.Test.YthgcdoiodeagcaaAwake
namespace Go.Proofs.Ythgcdoiodeagcaa
open Go.RowKit

theorem lessB_t {a b : Nat} (h : key a < key b) : lessB a b = true := decide_eq_true h
theorem lessB_f {a b : Nat} (h : ¬ key a < key b) : lessB a b = false := decide_eq_false h
theorem q_key_eq {a b : Nat} (ha : a < 18446744073709551616) (hb : b < 18446744073709551616) (na : nan a = false) (nb : nan b = false) : (FloatKind.f64.format.order a b == some .eq) = (key a == key b) := by
  rw [q_eq, na, nb, Bool.eq_iff_iff]
  simp only [Bool.not_false, Bool.true_and, decide_eq_true_eq, beq_iff_eq]
  exact (key_eq_num ha hb na nb).symm
theorem q_key_lt {a b : Nat} (ha : a < 18446744073709551616) (hb : b < 18446744073709551616) (na : nan a = false) (nb : nan b = false) : (FloatKind.f64.format.order a b == some .lt) = lessB a b := by
  rw [q_lt, na, nb]
  unfold lessB
  rw [Bool.eq_iff_iff]
  simp only [Bool.not_false, Bool.true_and, decide_eq_true_eq]
  exact (key_lt_num ha hb na nb).symm

set_option maxHeartbeats 4000000 in
set_option maxRecDepth 100000 in
theorem order_walk (a b c : Nat) (w : World) (ha : a < 18446744073709551616) (hb : b < 18446744073709551616) (hc : c < 18446744073709551616) :
    Calls Try.prog 3 #[.float .f64 a, .float .f64 b, .float .f64 c] w fun e w' => e = .returned (.bool true) ∧ Gn w w' := by
  have n1 : lessB a a = false := lessB_f (by omega)
  have n2 : lessB 9221120237041090561 a = false := lessB_f (by
    have := key_le ha
    rw [show key 9221120237041090561 = 18446744073709551615 by decide]; omega)
  have hN : (9221120237041090561 : Nat) < 18446744073709551616 := by decide
  have qa := q_self a
  have qb := q_self b
  have q1 := q_key_lt ha hb
  have q2 := q_key_eq ha hb
  have T : (∃ x y z, lessB a b = x ∧ lessB b a = y ∧ (key a == key b) = z ∧ (((key a : Int)) == (key b : Int)) = z ∧ decide (key a < key b) = x ∧ ((x = true ∧ y = false ∧ z = false) ∨ (x = false ∧ y = true ∧ z = false) ∨ (x = false ∧ y = false ∧ z = true))) := by
    rcases Nat.lt_trichotomy (key a) (key b) with h | h | h
    · exact ⟨true, false, false, lessB_t h, lessB_f (by omega), by simp; omega, by simp; omega, decide_eq_true h, .inl ⟨rfl, rfl, rfl⟩⟩
    · exact ⟨false, false, true, lessB_f (by omega), lessB_f (by omega), by simp; omega, by simp; omega, decide_eq_false (by omega), .inr (.inr ⟨rfl, rfl, rfl⟩)⟩
    · exact ⟨false, true, false, lessB_f (by omega), lessB_t h, by simp; omega, by simp; omega, decide_eq_false (by omega), .inr (.inl ⟨rfl, rfl, rfl⟩)⟩
  obtain ⟨x, y, z, t1, t2, t3, t4, t5, hx⟩ := T
  rw [t1] at q1
  rw [t3] at q2
  have T2 : x = true → lessB b c = true → lessB a c = true := fun h1 h2 => by
    rw [← t1] at h1
    have h3 : key a < key b := of_decide_eq_true h1
    have h4 : key b < key c := of_decide_eq_true h2
    exact lessB_t (by omega)
  rcases hx with ⟨rfl, rfl, rfl⟩ | ⟨rfl, rfl, rfl⟩ | ⟨rfl, rfl, rfl⟩
  · cases hbc : lessB b c
    · clear T2
      cases na : nan a
      · rw [na] at qa
        cases nb : nan b
        · rw [nb] at qb
          replace q1 := q1 na nb
          replace q2 := q2 na nb
          clear na nb
          go_enter Try.func3, Try.ntmps3
          go_wp2_with (first | (go_at_call 6; refine (less_any _ _ _ (by assumption) (by assumption)).mono ?_; rintro e w' ⟨rfl, rfl⟩) | (go_at_call 7; refine (key_any _ _ (by assumption)).mono ?_; rintro e w' ⟨rfl, rfl⟩) | (go_at_call 8; refine (nan_any _).mono ?_; rintro e w' ⟨rfl, rfl⟩) | (go_at_call 9; refine (awake_any _).mono ?_; rintro e w' ⟨rfl, p, rfl⟩))
          go_ret
          exact ⟨rfl, Gn.gr (Gn.refl _) _⟩
        · rw [nb] at qb
          clear na nb q1 q2
          go_enter Try.func3, Try.ntmps3
          go_wp2_with (first | (go_at_call 6; refine (less_any _ _ _ (by assumption) (by assumption)).mono ?_; rintro e w' ⟨rfl, rfl⟩) | (go_at_call 7; refine (key_any _ _ (by assumption)).mono ?_; rintro e w' ⟨rfl, rfl⟩) | (go_at_call 8; refine (nan_any _).mono ?_; rintro e w' ⟨rfl, rfl⟩) | (go_at_call 9; refine (awake_any _).mono ?_; rintro e w' ⟨rfl, p, rfl⟩))
          go_ret
          exact ⟨rfl, Gn.gr (Gn.refl _) _⟩
      · rw [na] at qa
        clear na q1 q2 qb
        go_enter Try.func3, Try.ntmps3
        go_wp2_with (first | (go_at_call 6; refine (less_any _ _ _ (by assumption) (by assumption)).mono ?_; rintro e w' ⟨rfl, rfl⟩) | (go_at_call 7; refine (key_any _ _ (by assumption)).mono ?_; rintro e w' ⟨rfl, rfl⟩) | (go_at_call 8; refine (nan_any _).mono ?_; rintro e w' ⟨rfl, rfl⟩) | (go_at_call 9; refine (awake_any _).mono ?_; rintro e w' ⟨rfl, p, rfl⟩))
        go_ret
        exact ⟨rfl, Gn.gr (Gn.refl _) _⟩
    · have t6 := T2 rfl hbc
      clear T2
      cases na : nan a
      · rw [na] at qa
        cases nb : nan b
        · rw [nb] at qb
          replace q1 := q1 na nb
          replace q2 := q2 na nb
          clear na nb
          go_enter Try.func3, Try.ntmps3
          go_wp2_with (first | (go_at_call 6; refine (less_any _ _ _ (by assumption) (by assumption)).mono ?_; rintro e w' ⟨rfl, rfl⟩) | (go_at_call 7; refine (key_any _ _ (by assumption)).mono ?_; rintro e w' ⟨rfl, rfl⟩) | (go_at_call 8; refine (nan_any _).mono ?_; rintro e w' ⟨rfl, rfl⟩) | (go_at_call 9; refine (awake_any _).mono ?_; rintro e w' ⟨rfl, p, rfl⟩))
          go_ret
          exact ⟨rfl, Gn.gr (Gn.refl _) _⟩
        · rw [nb] at qb
          clear na nb q1 q2
          go_enter Try.func3, Try.ntmps3
          go_wp2_with (first | (go_at_call 6; refine (less_any _ _ _ (by assumption) (by assumption)).mono ?_; rintro e w' ⟨rfl, rfl⟩) | (go_at_call 7; refine (key_any _ _ (by assumption)).mono ?_; rintro e w' ⟨rfl, rfl⟩) | (go_at_call 8; refine (nan_any _).mono ?_; rintro e w' ⟨rfl, rfl⟩) | (go_at_call 9; refine (awake_any _).mono ?_; rintro e w' ⟨rfl, p, rfl⟩))
          go_ret
          exact ⟨rfl, Gn.gr (Gn.refl _) _⟩
      · rw [na] at qa
        clear na q1 q2 qb
        go_enter Try.func3, Try.ntmps3
        go_wp2_with (first | (go_at_call 6; refine (less_any _ _ _ (by assumption) (by assumption)).mono ?_; rintro e w' ⟨rfl, rfl⟩) | (go_at_call 7; refine (key_any _ _ (by assumption)).mono ?_; rintro e w' ⟨rfl, rfl⟩) | (go_at_call 8; refine (nan_any _).mono ?_; rintro e w' ⟨rfl, rfl⟩) | (go_at_call 9; refine (awake_any _).mono ?_; rintro e w' ⟨rfl, p, rfl⟩))
        go_ret
        exact ⟨rfl, Gn.gr (Gn.refl _) _⟩
  · cases hbc : lessB b c
    · clear T2
      cases na : nan a
      · rw [na] at qa
        cases nb : nan b
        · rw [nb] at qb
          replace q1 := q1 na nb
          replace q2 := q2 na nb
          clear na nb
          go_enter Try.func3, Try.ntmps3
          go_wp2_with (first | (go_at_call 6; refine (less_any _ _ _ (by assumption) (by assumption)).mono ?_; rintro e w' ⟨rfl, rfl⟩) | (go_at_call 7; refine (key_any _ _ (by assumption)).mono ?_; rintro e w' ⟨rfl, rfl⟩) | (go_at_call 8; refine (nan_any _).mono ?_; rintro e w' ⟨rfl, rfl⟩) | (go_at_call 9; refine (awake_any _).mono ?_; rintro e w' ⟨rfl, p, rfl⟩))
          go_ret
          exact ⟨rfl, Gn.gr (Gn.refl _) _⟩
        · rw [nb] at qb
          clear na nb q1 q2
          go_enter Try.func3, Try.ntmps3
          go_wp2_with (first | (go_at_call 6; refine (less_any _ _ _ (by assumption) (by assumption)).mono ?_; rintro e w' ⟨rfl, rfl⟩) | (go_at_call 7; refine (key_any _ _ (by assumption)).mono ?_; rintro e w' ⟨rfl, rfl⟩) | (go_at_call 8; refine (nan_any _).mono ?_; rintro e w' ⟨rfl, rfl⟩) | (go_at_call 9; refine (awake_any _).mono ?_; rintro e w' ⟨rfl, p, rfl⟩))
          go_ret
          exact ⟨rfl, Gn.gr (Gn.refl _) _⟩
      · rw [na] at qa
        clear na q1 q2 qb
        go_enter Try.func3, Try.ntmps3
        go_wp2_with (first | (go_at_call 6; refine (less_any _ _ _ (by assumption) (by assumption)).mono ?_; rintro e w' ⟨rfl, rfl⟩) | (go_at_call 7; refine (key_any _ _ (by assumption)).mono ?_; rintro e w' ⟨rfl, rfl⟩) | (go_at_call 8; refine (nan_any _).mono ?_; rintro e w' ⟨rfl, rfl⟩) | (go_at_call 9; refine (awake_any _).mono ?_; rintro e w' ⟨rfl, p, rfl⟩))
        go_ret
        exact ⟨rfl, Gn.gr (Gn.refl _) _⟩
    · clear T2
      cases na : nan a
      · rw [na] at qa
        cases nb : nan b
        · rw [nb] at qb
          replace q1 := q1 na nb
          replace q2 := q2 na nb
          clear na nb
          go_enter Try.func3, Try.ntmps3
          go_wp2_with (first | (go_at_call 6; refine (less_any _ _ _ (by assumption) (by assumption)).mono ?_; rintro e w' ⟨rfl, rfl⟩) | (go_at_call 7; refine (key_any _ _ (by assumption)).mono ?_; rintro e w' ⟨rfl, rfl⟩) | (go_at_call 8; refine (nan_any _).mono ?_; rintro e w' ⟨rfl, rfl⟩) | (go_at_call 9; refine (awake_any _).mono ?_; rintro e w' ⟨rfl, p, rfl⟩))
          go_ret
          exact ⟨rfl, Gn.gr (Gn.refl _) _⟩
        · rw [nb] at qb
          clear na nb q1 q2
          go_enter Try.func3, Try.ntmps3
          go_wp2_with (first | (go_at_call 6; refine (less_any _ _ _ (by assumption) (by assumption)).mono ?_; rintro e w' ⟨rfl, rfl⟩) | (go_at_call 7; refine (key_any _ _ (by assumption)).mono ?_; rintro e w' ⟨rfl, rfl⟩) | (go_at_call 8; refine (nan_any _).mono ?_; rintro e w' ⟨rfl, rfl⟩) | (go_at_call 9; refine (awake_any _).mono ?_; rintro e w' ⟨rfl, p, rfl⟩))
          go_ret
          exact ⟨rfl, Gn.gr (Gn.refl _) _⟩
      · rw [na] at qa
        clear na q1 q2 qb
        go_enter Try.func3, Try.ntmps3
        go_wp2_with (first | (go_at_call 6; refine (less_any _ _ _ (by assumption) (by assumption)).mono ?_; rintro e w' ⟨rfl, rfl⟩) | (go_at_call 7; refine (key_any _ _ (by assumption)).mono ?_; rintro e w' ⟨rfl, rfl⟩) | (go_at_call 8; refine (nan_any _).mono ?_; rintro e w' ⟨rfl, rfl⟩) | (go_at_call 9; refine (awake_any _).mono ?_; rintro e w' ⟨rfl, p, rfl⟩))
        go_ret
        exact ⟨rfl, Gn.gr (Gn.refl _) _⟩
  · cases hbc : lessB b c
    · clear T2
      cases na : nan a
      · rw [na] at qa
        cases nb : nan b
        · rw [nb] at qb
          replace q1 := q1 na nb
          replace q2 := q2 na nb
          clear na nb
          go_enter Try.func3, Try.ntmps3
          go_wp2_with (first | (go_at_call 6; refine (less_any _ _ _ (by assumption) (by assumption)).mono ?_; rintro e w' ⟨rfl, rfl⟩) | (go_at_call 7; refine (key_any _ _ (by assumption)).mono ?_; rintro e w' ⟨rfl, rfl⟩) | (go_at_call 8; refine (nan_any _).mono ?_; rintro e w' ⟨rfl, rfl⟩) | (go_at_call 9; refine (awake_any _).mono ?_; rintro e w' ⟨rfl, p, rfl⟩))
          go_ret
          exact ⟨rfl, Gn.gr (Gn.refl _) _⟩
        · rw [nb] at qb
          clear na nb q1 q2
          go_enter Try.func3, Try.ntmps3
          go_wp2_with (first | (go_at_call 6; refine (less_any _ _ _ (by assumption) (by assumption)).mono ?_; rintro e w' ⟨rfl, rfl⟩) | (go_at_call 7; refine (key_any _ _ (by assumption)).mono ?_; rintro e w' ⟨rfl, rfl⟩) | (go_at_call 8; refine (nan_any _).mono ?_; rintro e w' ⟨rfl, rfl⟩) | (go_at_call 9; refine (awake_any _).mono ?_; rintro e w' ⟨rfl, p, rfl⟩))
          go_ret
          exact ⟨rfl, Gn.gr (Gn.refl _) _⟩
      · rw [na] at qa
        clear na q1 q2 qb
        go_enter Try.func3, Try.ntmps3
        go_wp2_with (first | (go_at_call 6; refine (less_any _ _ _ (by assumption) (by assumption)).mono ?_; rintro e w' ⟨rfl, rfl⟩) | (go_at_call 7; refine (key_any _ _ (by assumption)).mono ?_; rintro e w' ⟨rfl, rfl⟩) | (go_at_call 8; refine (nan_any _).mono ?_; rintro e w' ⟨rfl, rfl⟩) | (go_at_call 9; refine (awake_any _).mono ?_; rintro e w' ⟨rfl, p, rfl⟩))
        go_ret
        exact ⟨rfl, Gn.gr (Gn.refl _) _⟩
    · clear T2
      cases na : nan a
      · rw [na] at qa
        cases nb : nan b
        · rw [nb] at qb
          replace q1 := q1 na nb
          replace q2 := q2 na nb
          clear na nb
          go_enter Try.func3, Try.ntmps3
          go_wp2_with (first | (go_at_call 6; refine (less_any _ _ _ (by assumption) (by assumption)).mono ?_; rintro e w' ⟨rfl, rfl⟩) | (go_at_call 7; refine (key_any _ _ (by assumption)).mono ?_; rintro e w' ⟨rfl, rfl⟩) | (go_at_call 8; refine (nan_any _).mono ?_; rintro e w' ⟨rfl, rfl⟩) | (go_at_call 9; refine (awake_any _).mono ?_; rintro e w' ⟨rfl, p, rfl⟩))
          go_ret
          exact ⟨rfl, Gn.gr (Gn.refl _) _⟩
        · rw [nb] at qb
          clear na nb q1 q2
          go_enter Try.func3, Try.ntmps3
          go_wp2_with (first | (go_at_call 6; refine (less_any _ _ _ (by assumption) (by assumption)).mono ?_; rintro e w' ⟨rfl, rfl⟩) | (go_at_call 7; refine (key_any _ _ (by assumption)).mono ?_; rintro e w' ⟨rfl, rfl⟩) | (go_at_call 8; refine (nan_any _).mono ?_; rintro e w' ⟨rfl, rfl⟩) | (go_at_call 9; refine (awake_any _).mono ?_; rintro e w' ⟨rfl, p, rfl⟩))
          go_ret
          exact ⟨rfl, Gn.gr (Gn.refl _) _⟩
      · rw [na] at qa
        clear na q1 q2 qb
        go_enter Try.func3, Try.ntmps3
        go_wp2_with (first | (go_at_call 6; refine (less_any _ _ _ (by assumption) (by assumption)).mono ?_; rintro e w' ⟨rfl, rfl⟩) | (go_at_call 7; refine (key_any _ _ (by assumption)).mono ?_; rintro e w' ⟨rfl, rfl⟩) | (go_at_call 8; refine (nan_any _).mono ?_; rintro e w' ⟨rfl, rfl⟩) | (go_at_call 9; refine (awake_any _).mono ?_; rintro e w' ⟨rfl, p, rfl⟩))
        go_ret
        exact ⟨rfl, Gn.gr (Gn.refl _) _⟩
end Go.Proofs.Ythgcdoiodeagcaa
