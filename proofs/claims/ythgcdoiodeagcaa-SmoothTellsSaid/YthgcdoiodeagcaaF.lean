/- Facts of IEEE doubles as words: which words are no numbers, how two words stand to each other, and which sums, differences and products of finite words are what. -/
import Ieee.Arith
namespace Go.Proofs.Ythgcdoiodeagcaa
open Ieee

def neg (x : Nat) : Bool := x / 9223372036854775808 % 2 == 1
def rung (x : Nat) : Nat := x % 9223372036854775808
def nan (x : Nat) : Bool := decide (9218868437227405312 < rung x)
def sr (x : Nat) : Int := if neg x then -(rung x : Int) else rung x
def mag (r : Nat) : Nat := if r < 4503599627370496 then r else (4503599627370496 + r % 4503599627370496) <<< (r / 4503599627370496 - 1)
def sm (x : Nat) : Int := signed (neg x) (mag (rung x)) 0

theorem d_lp : double.leastPlace = -1074 := by decide
theorem d_bin : double.binade = 4503599627370496 := by decide
theorem d_inf : double.infRung = 9218868437227405312 := by decide
theorem d_sw : double.signWeight = 9223372036854775808 := by decide
theorem d_fb : double.fractionBits = 52 := rfl

theorem mag_lt {r s : Nat} (h : r < s) : mag r < mag s := by
  unfold mag
  by_cases h1 : s < 4503599627370496
  · rw [if_pos h1, if_pos (by omega)]; exact h
  · rw [if_neg h1]
    by_cases h2 : r < 4503599627370496
    · rw [if_pos h2]
      have : 4503599627370496 + s % 4503599627370496 ≤ (4503599627370496 + s % 4503599627370496) <<< (s / 4503599627370496 - 1) := by
        rw [Nat.shiftLeft_eq]; exact Nat.le_mul_of_pos_right _ (Nat.two_pow_pos _)
      omega
    · rw [if_neg h2, Nat.shiftLeft_eq, Nat.shiftLeft_eq]
      by_cases h3 : r / 4503599627370496 = s / 4503599627370496
      · rw [h3]
        exact Nat.mul_lt_mul_of_pos_right (by omega) (Nat.two_pow_pos _)
      · have h4 : r / 4503599627370496 < s / 4503599627370496 := Nat.lt_of_le_of_ne (Nat.div_le_div_right (by omega)) h3
        obtain ⟨k, hk⟩ : ∃ k, s / 4503599627370496 - 1 = (r / 4503599627370496 - 1) + 1 + k := ⟨s / 4503599627370496 - 1 - (r / 4503599627370496 - 1) - 1, by
          have : 1 ≤ r / 4503599627370496 := by omega
          omega⟩
        rw [hk]
        generalize r / 4503599627370496 - 1 = e
        have h5 : (4503599627370496 + r % 4503599627370496) * 2 ^ e < (4503599627370496 * 2) * 2 ^ e := Nat.mul_lt_mul_of_pos_right (by omega) (Nat.two_pow_pos _)
        have h6 : (4503599627370496 * 2) * 2 ^ e = 4503599627370496 * 2 ^ (e + 1) := by rw [Nat.pow_succ, Nat.mul_assoc, Nat.mul_comm 2]
        have h7 : 4503599627370496 * 2 ^ (e + 1) ≤ (4503599627370496 + s % 4503599627370496) * 2 ^ (e + 1 + k) :=
          Nat.mul_le_mul (by omega) (Nat.pow_le_pow_right (by omega) (by omega))
        omega

theorem mag_zero : mag 0 = 0 := by decide
theorem mag_cmp (r s : Nat) : compare (mag r) (mag s) = compare r s := by
  rcases Nat.lt_trichotomy r s with h | h | h
  · rw [Nat.compare_eq_lt.2 h, Nat.compare_eq_lt.2 (mag_lt h)]
  · subst h; simp
  · rw [Nat.compare_eq_gt.2 h, Nat.compare_eq_gt.2 (mag_lt h)]
theorem mag_inj {r s : Nat} (h : mag r = mag s) : r = s := by
  rcases Nat.lt_trichotomy r s with h1 | h1 | h1
  · have := mag_lt h1; omega
  · exact h1
  · have := mag_lt h1; omega
theorem mag_pos {r : Nat} (h : 0 < r) : 0 < mag r := by have := mag_lt h; rw [mag_zero] at this; exact this

theorem signed_scale (s : Bool) (m a b : Nat) : signed s m (a + b) = signed s m a * 2 ^ b := by
  unfold signed
  have : (m <<< (a + b) : Nat) = (m <<< a) * 2 ^ b := by rw [Nat.shiftLeft_eq, Nat.shiftLeft_eq, Nat.pow_add, Nat.mul_assoc]
  rw [this]
  cases s <;> simp [Int.neg_mul]

theorem sm_def (x : Nat) : sm x = if neg x then -(mag (rung x) : Int) else mag (rung x) := by unfold sm signed; simp

theorem cmp_iff {a b c d : Int} (h1 : a < b ↔ c < d) (h2 : a = b ↔ c = d) : compare a b = compare c d := by
  rcases Int.lt_trichotomy a b with h | h | h
  · rw [Int.compare_eq_lt.2 h, Int.compare_eq_lt.2 (h1.1 h)]
  · rw [Int.compare_eq_eq.2 h, Int.compare_eq_eq.2 (h2.1 h)]
  · have : d < c := by
      rcases Int.lt_trichotomy c d with k | k | k
      · have := h1.2 k; omega
      · have := h2.2 k; omega
      · exact k
    rw [Int.compare_eq_gt.2 h, Int.compare_eq_gt.2 this]

theorem sm_sr (x y : Nat) : compare (sm x) (sm y) = compare (sr x) (sr y) := by
  have key : ∀ a b : Nat, (mag a < mag b ↔ a < b) ∧ (mag a = mag b ↔ a = b) := fun a b => ⟨⟨fun h => by
      rcases Nat.lt_trichotomy a b with h1 | h1 | h1
      · exact h1
      · subst h1; omega
      · have := mag_lt h1; omega, mag_lt⟩, ⟨mag_inj, fun h => by rw [h]⟩⟩
  rw [sm_def, sm_def]
  unfold sr
  have k1 := key (rung x) (rung y)
  have k2 := key (rung y) (rung x)
  have k3 := key (rung x) 0
  have k4 := key (rung y) 0
  rw [mag_zero] at k3 k4
  cases neg x <;> cases neg y <;> simp only [Bool.false_eq_true, if_true, if_false] <;> apply cmp_iff
  · exact ⟨fun h => by have := k1.1.1 (by omega); omega, fun h => by have := k1.1.2 (by omega); omega⟩
  · exact ⟨fun h => by have := k1.2.1 (by omega); omega, fun h => by have := k1.2.2 (by omega); omega⟩
  · exact ⟨fun h => by omega, fun h => by omega⟩
  · exact ⟨fun h => by have := k3.2.1 (by omega); have := k4.2.1 (by omega); omega, fun h => by have := k3.2.2 (by omega); have := k4.2.2 (by omega); omega⟩
  · refine ⟨fun h => ?_, fun h => ?_⟩
    · rcases Nat.eq_zero_or_pos (rung x) with h0 | h0
      · rcases Nat.eq_zero_or_pos (rung y) with h1 | h1
        · have := k3.2.2 h0; have := k4.2.2 h1; omega
        · omega
      · omega
    · rcases Nat.eq_zero_or_pos (rung x) with h0 | h0
      · rcases Nat.eq_zero_or_pos (rung y) with h1 | h1
        · omega
        · have := mag_pos h1; omega
      · have := mag_pos h0; omega
  · exact ⟨fun h => by have := k3.2.1 (by omega); have := k4.2.1 (by omega); omega, fun h => by have := k3.2.2 (by omega); have := k4.2.2 (by omega); omega⟩
  · exact ⟨fun h => by have := k2.1.1 (by omega); omega, fun h => by have := k2.1.2 (by omega); omega⟩
  · exact ⟨fun h => by have := k1.2.1 (by omega); omega, fun h => by have := k1.2.2 (by omega); omega⟩

/-- a finite word, read -/
theorem read_fin {x : Nat} (h : rung x < 9218868437227405312) : ∃ (m k : Nat), double.read x = .number (neg x) m (-1074 + (k : Int)) ∧ m <<< k = mag (rung x) := by
  unfold Format.read
  simp only [d_lp, d_bin, d_inf, d_sw]
  show ∃ m k, (if rung x < _ then _ else _) = _ ∧ _
  by_cases h1 : rung x < 4503599627370496
  · exact ⟨rung x, 0, by rw [if_pos h1]; rfl, by unfold mag; rw [if_pos h1]; rfl⟩
  · exact ⟨_, rung x / 4503599627370496 - 1, by rw [if_neg h1, if_pos (show x % 9223372036854775808 < _ from h)]; rfl, by unfold mag; rw [if_neg h1]; rfl⟩
theorem read_inf {x : Nat} (h : rung x = 9218868437227405312) : double.read x = .infinity (neg x) := by
  unfold Format.read
  simp only [d_lp, d_bin, d_inf, d_sw]
  have h' : x % 9223372036854775808 = 9218868437227405312 := h
  rw [h', if_neg (by decide), if_neg (by decide), if_pos rfl]; rfl
theorem read_nan {x : Nat} (h : nan x = true) : ∃ t, double.read x = .nan (neg x) t := by
  unfold nan at h
  have h' : 9218868437227405312 < x % 9223372036854775808 := of_decide_eq_true h
  unfold Format.read
  simp only [d_lp, d_bin, d_inf, d_sw]
  exact ⟨_, by rw [if_neg (by omega), if_neg (by omega), if_neg (by omega)]; rfl⟩

theorem signed_mag (s : Bool) (m k : Nat) : signed s m k = signed s (m <<< k) 0 := by unfold signed; simp

theorem cmp_scale (a b : Int) (k : Nat) : compare (a * 2 ^ k) (b * 2 ^ k) = compare a b := by
  have hp : (0 : Int) < 2 ^ k := Int.pow_pos (by omega)
  exact cmp_iff ⟨fun h => Int.lt_of_mul_lt_mul_right h (Int.le_of_lt hp), fun h => Int.mul_lt_mul_of_pos_right h hp⟩ ⟨fun h => Int.eq_of_mul_eq_mul_right (by omega) h, fun h => by rw [h]⟩

/-- how two words that are numbers stand to each other -/
theorem order_num {x y : Nat} (hx : nan x = false) (hy : nan y = false) : double.order x y = some (compare (sr x) (sr y)) := by
  have hx' : rung x ≤ 9218868437227405312 := by unfold nan at hx; have := of_decide_eq_false hx; omega
  have hy' : rung y ≤ 9218868437227405312 := by unfold nan at hy; have := of_decide_eq_false hy; omega
  rw [← sm_sr]
  unfold Format.order
  by_cases fx : rung x < 9218868437227405312 <;> by_cases fy : rung y < 9218868437227405312
  · obtain ⟨m, k, e, hm⟩ := read_fin fx
    obtain ⟨n, l, e', hn⟩ := read_fin fy
    rw [e, e']
    simp only [Datum.order]
    congr 1
    unfold sm
    rw [← hm, ← hn, ← signed_mag, ← signed_mag]
    rcases Nat.le_total k l with hkl | hkl
    · have e1 : min (-1074 + (k : Int)) (-1074 + (l : Int)) = -1074 + (k : Int) := by omega
      have e2 : (-1074 + (l : Int) - (-1074 + (k : Int))).toNat = l - k := by omega
      rw [e1, e2]
      have e3 : (-1074 + (k : Int) - (-1074 + (k : Int))).toNat = 0 := by omega
      rw [e3]
      have a1 := signed_scale (neg x) m 0 k
      have a2 := signed_scale (neg y) n (l - k) k
      rw [Nat.zero_add] at a1
      rw [show l - k + k = l by omega] at a2
      rw [a1, a2, cmp_scale]
    · have e1 : min (-1074 + (k : Int)) (-1074 + (l : Int)) = -1074 + (l : Int) := by omega
      have e2 : (-1074 + (k : Int) - (-1074 + (l : Int))).toNat = k - l := by omega
      rw [e1, e2]
      have e3 : (-1074 + (l : Int) - (-1074 + (l : Int))).toNat = 0 := by omega
      rw [e3]
      have a1 := signed_scale (neg y) n 0 l
      have a2 := signed_scale (neg x) m (k - l) l
      rw [Nat.zero_add] at a1
      rw [show k - l + l = k by omega] at a2
      rw [a1, a2, cmp_scale]
  · obtain ⟨m, k, e, hm⟩ := read_fin fx
    have fy' : rung y = 9218868437227405312 := by omega
    rw [e, read_inf fy']
    simp only [Datum.order]
    have hlt := mag_lt fx
    rw [sm_def, sm_def, fy']
    congr 1
    cases neg x <;> cases neg y <;> simp only [Bool.false_eq_true, if_true, if_false] <;> symm <;> first | (rw [Int.compare_eq_lt]; omega) | (rw [Int.compare_eq_gt]; omega)
  · obtain ⟨m, k, e, hm⟩ := read_fin fy
    have fx' : rung x = 9218868437227405312 := by omega
    rw [e, read_inf fx']
    simp only [Datum.order]
    have hlt := mag_lt fy
    rw [sm_def, sm_def, fx']
    congr 1
    cases neg x <;> cases neg y <;> simp only [Bool.false_eq_true, if_true, if_false] <;> symm <;> first | (rw [Int.compare_eq_lt]; omega) | (rw [Int.compare_eq_gt]; omega)
  · have fx' : rung x = 9218868437227405312 := by omega
    have fy' : rung y = 9218868437227405312 := by omega
    have hp : 0 < mag 9218868437227405312 := mag_pos (by omega)
    rw [read_inf fx', read_inf fy']
    simp only [Datum.order]
    rw [sm_def, sm_def, fx', fy']
    congr 1
    cases neg x <;> cases neg y <;> simp only [Bool.false_eq_true, if_true, if_false] <;> symm <;> first | (rw [Int.compare_eq_lt]; omega) | (rw [Int.compare_eq_gt]; omega) | (rw [show compare (true.toNat) (false.toNat) = Ordering.gt by rfl]; rw [Int.compare_eq_gt]; omega) | (rw [show compare (false.toNat) (true.toNat) = Ordering.lt by rfl]; rw [Int.compare_eq_lt]; omega) | simp

theorem order_nan_l {x : Nat} (y : Nat) (h : nan x = true) : double.order x y = none := by
  obtain ⟨t, e⟩ := read_nan h
  unfold Format.order; rw [e]; rfl
theorem order_nan_r (x : Nat) {y : Nat} (h : nan y = true) : double.order x y = none := by
  obtain ⟨t, e⟩ := read_nan h
  unfold Format.order; rw [e]; cases double.read x <;> rfl

/-- what a number's word is, nearest -/
theorem write_rung (s : Bool) (m : Nat) (p : Int) : ∃ r, r ≤ 9218868437227405312 ∧ double.write (.number s m p) = if s then 9223372036854775808 + r else r := by
  unfold Format.write Format.nearest Format.word
  simp only [d_inf, d_sw]
  split
  · exact ⟨0, by omega, rfl⟩
  · exact ⟨_, Nat.min_le_right _ _, rfl⟩
end Go.Proofs.Ythgcdoiodeagcaa
