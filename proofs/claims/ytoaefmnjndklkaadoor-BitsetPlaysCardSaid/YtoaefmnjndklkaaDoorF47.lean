/- The functions on words: mask, count of ones, trailing zeros. -/
import Derived.Test.YtoaefmnjndklkaaDoorKp
import Derived.Test.YtoaefmnjndklkaaDoorP47
import Derived.Shelf.Spec.TrailingZeros
namespace Go.Proofs.YtoaefmnjndklkaaDoor
open Go.RowKit

theorem mask_eq : ∀ k, k < 64 → bits BinOp.xor IntKind.u64 IntKind.u64.max (IntKind.u64.wrap (18446744073709551615 * 2 ^ k)) = ((2 ^ k - 1 : Nat) : Int) := by decide +kernel
theorem mask_is (k : Nat) (hk : k ≤ 64) (w : World) : Calls Tryd.prog 26 #[.int .i64 (k : Int)] w fun e w' => e = .returned (.int .u64 ((2 ^ k - 1 : Nat) : Int)) ∧ w = w' := by
  have h0 : ¬ (k : Int) < 0 := by omega
  have h1 : ¬ (64 : Int) < (k : Int) := by omega
  by_cases h : k = 64
  · subst h
    go_enter Tryd.func26, Tryd.ntmps26
    go_wp2
    go_ret
    exact ⟨rfl, rfl⟩
  · have hk2 : k < 64 := by omega
    have HE := mask_eq k hk2
    have hk3 : (k : Int) < 64 := by omega
    clear h
    go_enter Tryd.func26, Tryd.ntmps26
    go_wp2
    go_ret
    exact ⟨rfl, rfl⟩
theorem and_nat (a b : Nat) (ha : a < 18446744073709551616) (hb : b < 18446744073709551616) : bits .and .u64 (a : Int) (b : Int) = ((a &&& b : Nat) : Int) := bits_and_u64_nat a b ha hb
theorem u64_in (n : Nat) (h : n < 18446744073709551616) : IntKind.u64.wrap (n : Int) = (n : Int) := by rw [IntKind.wrap_u64]; omega
theorem and_127 (n : Nat) (h : n < 9223372036854775808) : bits .and .i64 (n : Int) 127 = ((n % 128 : Nat) : Int) := by
  have h1 : (BitVec.ofInt 64 (n : Int)).toNat = n := by
    rw [BitVec.ofInt_natCast, BitVec.toNat_ofNat]; exact Nat.mod_eq_of_lt (by omega)
  have h2 : (BitVec.ofInt 64 (127 : Int)).toNat = 2 ^ 7 - 1 := by decide
  show IntKind.i64.wrap ((BitVec.ofInt 64 (n : Int) &&& BitVec.ofInt 64 (127 : Int)).toNat : Int) = _
  rw [BitVec.toNat_and, h1, h2, Nat.and_two_pow_sub_one_eq_mod, IntKind.wrap_i64]
  omega
theorem ones_is (x : Nat) (hx : x < 18446744073709551616) (w : World) : Calls Tryd.prog 25 #[.int .u64 (x : Int)] w fun e w' => e = .returned (.int .i64 (pc x)) ∧ w = w' := by
  obtain ⟨a, ha⟩ : ∃ a, o1 8 x = a := ⟨_, rfl⟩
  obtain ⟨b, hb⟩ : ∃ b, o2 8 a = b := ⟨_, rfl⟩
  obtain ⟨r, hr⟩ : ∃ r, o3 8 b = r := ⟨_, rfl⟩
  obtain ⟨t, ht⟩ : ∃ t, r + r / 256 = t := ⟨_, rfl⟩
  obtain ⟨u, hu⟩ : ∃ u, t + t / 65536 = u := ⟨_, rfl⟩
  obtain ⟨v, hv⟩ : ∃ v, u + u / 4294967296 = v := ⟨_, rfl⟩
  obtain ⟨b1, b2, b3, b4⟩ := ones_sum x r t u v (by rw [ha, hb, hr]) ht.symm hu.symm hv.symm
  have a1 : a < 18446744073709551616 := ha ▸ o1_lt x
  have a2 : b < 7378697629483820647 := hb ▸ o2_lt a
  have a3 : r < 18446744073709551616 := hr ▸ o3_lt b
  have hpc : pc x ≤ 64 := cnt_le _ _
  have E1 : Hid (IntKind.u64.wrap (bits .and .u64 ((x : Int) / 2) 6148914691236517205 + bits .and .u64 (x : Int) 6148914691236517205) = (a : Int)) := by
    have e : (x : Int) / 2 = ((x / 2 : Nat) : Int) := by omega
    show _ = _
    rw [e, show (6148914691236517205 : Int) = ((6148914691236517205 : Nat) : Int) from rfl, and_nat _ _ (by omega) (by omega), and_nat _ _ hx (by omega)]
    unfold o1 at ha
    rw [rep85] at ha
    rw [← ha] at a1 ⊢
    exact u64_in _ a1
  have E2 : Hid (IntKind.u64.wrap (bits .and .u64 ((a : Int) / 4) 3689348814741910323 + bits .and .u64 (a : Int) 3689348814741910323) = (b : Int)) := by
    have e : (a : Int) / 4 = ((a / 4 : Nat) : Int) := by omega
    show _ = _
    rw [e, show (3689348814741910323 : Int) = ((3689348814741910323 : Nat) : Int) from rfl, and_nat _ _ (by omega) (by omega), and_nat _ _ a1 (by omega)]
    unfold o2 at hb
    rw [rep51] at hb
    rw [← hb] at a2 ⊢
    exact u64_in _ (by omega)
  have E3 : Hid (bits .and .u64 ((b : Int) / 16 + (b : Int)) 1085102592571150095 = (r : Int)) := by
    have e : (b : Int) / 16 + (b : Int) = ((b / 16 + b : Nat) : Int) := by omega
    show _ = _
    rw [e, show (1085102592571150095 : Int) = ((1085102592571150095 : Nat) : Int) from rfl, and_nat _ _ (by omega) (by omega)]
    unfold o3 at hr
    rw [rep15] at hr
    rw [← hr]
  have E4 : Hid (IntKind.u64.wrap ((r : Int) + (r : Int) / 256) = (t : Int)) := by
    have e : (r : Int) + (r : Int) / 256 = (t : Int) := by omega
    show _ = _
    rw [e]
    exact u64_in _ b1
  have E5 : Hid (IntKind.u64.wrap ((t : Int) + (t : Int) / 65536) = (u : Int)) := by
    have e : (t : Int) + (t : Int) / 65536 = (u : Int) := by omega
    show _ = _
    rw [e]
    exact u64_in _ b2
  have E6 : Hid (IntKind.u64.wrap ((u : Int) + (u : Int) / 4294967296) = (v : Int)) := by
    have e : (u : Int) + (u : Int) / 4294967296 = (v : Int) := by omega
    show _ = _
    rw [e]
    exact u64_in _ (by omega)
  have E7 : Hid (bits .and .i64 (v : Int) 127 = (pc x : Int)) := by
    show _ = _
    rw [and_127 v b3, b4]
  have hv3 : (v : Int) < 9223372036854775808 := by omega
  clear ha hb hr ht hu hv
  have hxi : (x : Int) < 18446744073709551616 := by omega
  go_enter Tryd.func25, Tryd.ntmps25
  have e1 := E1.out
  go_upto_region 2 with (fail)
  clear e1
  have e2 := E2.out
  go_upto_region 3 with (fail)
  clear e2
  have e3 := E3.out
  go_upto_region 4 with (fail)
  clear e3
  have e4 := E4.out
  go_upto_region 5 with (fail)
  clear e4
  have e5 := E5.out
  go_upto_region 6 with (fail)
  clear e5
  have e6 := E6.out
  go_upto_region 7 with (fail)
  clear e6
  have e7 := E7.out
  go_wp2
  go_ret
  exact ⟨rfl, rfl⟩
theorem tz_core (x k idx : Nat) (w : World) (hx0 : ((x : Int) == 0) = false)
    (key : IntKind.u64.wrap (bits BinOp.and IntKind.u64 (x : Int) (IntKind.u64.wrap (-(x : Int))) * 285870213051353865) / 288230376151711744 = (idx : Int))
    (hi : idx < 64) (hk : k < 64) (hcell : w.cell? ⟨0, idx, none⟩ = some (.int .u8 k)) :
    Calls Tryd.prog 27 #[.int .u64 x] w fun e w' => e = .returned (.int .i64 k) ∧ w = w' := by
  go_enter Tryd.func27, Tryd.ntmps27
  go_wp2_with (simp only [key])
  go_ret
  exact ⟨rfl, rfl⟩
/-- x is not 0: the number of its trailing zeros. -/
theorem tz_is (x : Nat) (hx : x < 18446744073709551616) (h0 : x ≠ 0) (w : World) (hT : TabAt 0 Lib.deBruijn64tab w) :
    Calls Tryd.prog 27 #[.int .u64 x] w fun e w' => e = .returned (.int .i64 (Lib.ctz 64 x)) ∧ w = w' := by
  obtain ⟨hlow, hk⟩ := Lib.lowest_bit 64 x h0 hx
  obtain ⟨hi, htab⟩ := Lib.deBruijn64_at _ hk
  have hcell := hT _ hi
  rw [htab] at hcell
  exact tz_core x _ _ w (by simp; omega) (tz64_key x _ hx h0 hlow) hi hk hcell
end Go.Proofs.YtoaefmnjndklkaaDoor
