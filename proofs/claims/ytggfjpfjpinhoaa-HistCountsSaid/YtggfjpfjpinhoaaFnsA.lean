/- The chapter's functions that only read: widths, masks, and what a counted histogram answers. -/
import Derived.Test.YtggfjpfjpinhoaaKp
import Derived.Test.YtggfjpfjpinhoaaMixZ
import Derived.Test.YtggfjpfjpinhoaaP44
import Derived.Test.YtggfjpfjpinhoaaShelf
namespace Go.Proofs.Ytggfjpfjpinhoaa
open Go.RowKit

theorem width_any (x : Int) (w : World) (h : 0 ≤ x ∧ x ≤ 18446744073709551615) : Calls Try.prog 19 #[.int .u64 x] w fun e w' => e = .returned (.int .i64 (wd x)) ∧ w = w' := by
  go_enter Try.func19, Try.ntmps19
  go_wp2_with (go_at_call 23; refine (Try.bits_Len64 _ _ h.1 h.2).mono ?_; rintro e w' ⟨rfl, rfl⟩)
  go_ret
  exact ⟨rfl, rfl⟩
theorem rwidth_any (x : Int) (w : World) (h : 0 ≤ x ∧ x ≤ 18446744073709551615) : Calls Try.prog 21 #[.int .u64 x] w fun e w' => e = .returned (.int .i64 (wd x)) ∧ w = w' := by
  obtain ⟨n, rfl⟩ := Int.eq_ofNat_of_zero_le h.1
  have hn : n < 2 ^ 64 := by show n < 18446744073709551616; omega
  go_enter Try.func21, Try.ntmps21
  go_wp2
  go_loop [0, 3] (fun v i => ∃ m k : Nat, m ≤ n ∧ v = .int .u64 m ∧ i = .int .i64 k ∧ k ≤ 64 ∧ k + Lib.bitLen m = Lib.bitLen n) (fun v _ => (intOf v).toNat)
  case atStart => exact ⟨n, 0, Nat.le_refl _, rfl, rfl, by omega, by omega⟩
  case round =>
    obtain ⟨m, k, hm, rfl, rfl, hk, he⟩ := hrel
    have H : Hid _ := he
    have hm2 : (m : Int) ≤ 18446744073709551615 := by omega
    clear he
    have hl : Lib.bitLen n ≤ 64 := Lib.bitLen_le n 64 (by omega) hn
    have HL : Hid _ := hl
    clear hl
    by_cases h0 : 0 < m
    · have hh := Lib.bitLen_half m (by omega) (by show m < 18446744073709551616; omega)
      have HH : Hid _ := hh
      clear hh
      go_wp2
      go_round
      case rel => exact ⟨m / 2, k + 1, by omega, by go_num, by go_num, by have := H.out; have := HH.out; have := HL.out; omega, by have := H.out; have := HH.out; omega⟩
      case measure => simp [intOf]; omega
    · obtain rfl : m = 0 := by omega
      go_wp2
      go_ret
      refine ⟨int_ret ?_, rfl⟩
      have := H.out
      have e0 : Lib.bitLen 0 = 0 := by decide
      show (k : Int) = ((Lib.bitLen (n : Int).toNat : Nat) : Int)
      rw [Int.toNat_natCast]
      omega
end Go.Proofs.Ytggfjpfjpinhoaa
