/- Rank and Part of a histogram. -/
import Derived.Test.YtggfjpfjpinhoaaFnsB
namespace Go.Proofs.Ytggfjpfjpinhoaa
open Go.RowKit

def rankI (xs : List Int) (n : Int) : Int := if 0 ≤ n then (bW xs (wd n) : Int) else 0
section
variable (w : World)
theorem rank_neg (v : Value) (n : Int) (hn : n < 0) : Calls Try.prog 17 #[v, .int .i64 n] w fun e w' => e = .returned (.int .i64 0) ∧ w = w' := by
  go_enter Try.func17, Try.ntmps17
  go_wp2
  go_ret
  exact ⟨rfl, rfl⟩
theorem rank_nil (n : Int) (h0 : 0 ≤ n ∧ n ≤ 9223372036854775807) : Calls Try.prog 17 #[.pointer none, .int .i64 n] w fun e w' => e = .returned (.int .i64 0) ∧ w = w' := by
  have hw := wd_63 h0.1 h0.2
  go_enter Try.func17, Try.ntmps17
  go_wp2_with (go_at_call 19; refine (width_any _ _ (by omega)).mono ?_; rintro e w' ⟨rfl, rfl⟩)
  go_loop [5, 12] (fun s i => ∃ k : Nat, k ≤ wd n ∧ i = .int .i64 k ∧ s = .int .i64 0) (fun _ i => wd n - (intOf i).toNat)
  case atStart => exact ⟨0, by omega, rfl, rfl⟩
  case round =>
    obtain ⟨k, hk, rfl, rfl⟩ := hrel
    by_cases hlt : k < wd n
    · have d1 : decide (k < wd n) = true := by rw [decide_eq_true_eq]; omega
      go_wp2_with (go_at_call 15; refine (row_nil _ _).mono ?_; rintro e w' ⟨rfl, rfl⟩)
      go_round
      case rel => exact ⟨k + 1, by omega, by go_num, rfl⟩
      case measure => simp [intOf]; omega
    · have d1 : decide (k < wd n) = false := by rw [decide_eq_false_iff_not]; omega
      go_wp2
      go_ret
      exact ⟨rfl, rfl⟩
theorem rank_is {hb : Nat} {xs : List Int} {l m : Int} (h : Hi w hb xs l m) (n : Int) (h1 : n ≤ 9223372036854775807) : Calls Try.prog 17 #[.pointer (some ⟨hb, 0, none⟩), .int .i64 n] w fun e w' => e = .returned (.int .i64 (rankI xs n)) ∧ w = w' := by
  unfold rankI
  by_cases h0 : 0 ≤ n
  · rw [if_pos h0]
    have hw := wd_63 h0 h1
    have hlen := h.len
    have H : Hid _ := h
    clear h
    go_enter Try.func17, Try.ntmps17
    go_wp2_with (go_at_call 19; refine (width_any _ _ (by omega)).mono ?_; rintro e w' ⟨rfl, rfl⟩)
    go_loop [5, 12] (fun s i => ∃ k : Nat, k ≤ wd n ∧ i = .int .i64 k ∧ s = .int .i64 (bW xs k : Int)) (fun _ i => wd n - (intOf i).toNat)
    case atStart => exact ⟨0, by omega, rfl, by rw [bW_zero]; rfl⟩
    case round =>
      obtain ⟨k, hk, rfl, rfl⟩ := hrel
      by_cases hlt : k < wd n
      · have d1 : decide (k < wd n) = true := by rw [decide_eq_true_eq]; omega
        have e1 : Hid (rowI xs (k : Int) = (cW xs k : Int)) := by show rowI xs k = _; unfold rowI; rw [if_pos (by omega), Int.toNat_natCast]
        have b1 := bW_le xs k
        have b2 := cW_le xs k
        have b3 : Hid _ := bW_succ xs k
        go_wp2_with (go_at_call 15; refine (row_is _ H.out _).mono ?_; rw [e1.out]; rintro e w' ⟨rfl, rfl⟩)
        go_round
        case rel => exact ⟨k + 1, by omega, by go_num, by rw [b3.out]; go_num⟩
        case measure => simp [intOf]; omega
      · have d1 : decide (k < wd n) = false := by rw [decide_eq_false_iff_not]; omega
        obtain rfl : k = wd n := by omega
        go_wp2
        go_ret
        exact ⟨rfl, rfl⟩
  · rw [if_neg h0]
    exact rank_neg w _ n (by omega)

theorem part_bad {hb : Nat} {xs : List Int} {l m : Int} (h : Hi w hb xs l m) (p : Int) (hp : xs.length = 0 ∨ p < 0 ∨ 1000 < p) : Calls Try.prog 10 #[.pointer (some ⟨hb, 0, none⟩), .int .i64 p] w fun e w' => e = .returned (.tuple #[.int .i64 0, .int .i64 0, .bool false]) ∧ w = w' := by
  have H : Hid _ := h
  clear h
  by_cases h0 : xs.length = 0
  · have hz : ((xs.length : Int) == 0) = true := by simp; exact List.length_eq_zero_iff.1 h0
    clear h0 hp
    go_enter Try.func10, Try.ntmps10
    go_wp2_with (go_at_call 12; refine (count_is _ H.out).mono ?_; rintro e w' ⟨rfl, rfl⟩)
    exact bodyPost_ret (v := .tuple #[.int .i64 0, .int .i64 0, .bool false]) (by simp [results, Try.results10, go_sem]) rfl ⟨rfl, rfl⟩
  · have hz : ((xs.length : Int) == 0) = false := by simp; intro h; exact h0 (by rw [h]; rfl)
    have hp2 : p < 0 ∨ (0 ≤ p ∧ 1000 < p) := by omega
    clear h0 hp
    rcases hp2 with hp | ⟨hp1, hp2⟩
    all_goals
      go_enter Try.func10, Try.ntmps10
      go_wp2_with (go_at_call 12; refine (count_is _ H.out).mono ?_; rintro e w' ⟨rfl, rfl⟩)
      exact bodyPost_ret (v := .tuple #[.int .i64 0, .int .i64 0, .bool false]) (by simp [results, Try.results10, go_sem]) rfl ⟨rfl, rfl⟩

def place (n : Nat) (p : Int) : Int := p * ((n : Int) - 1) / 1000
theorem place_bd {n : Nat} {p : Int} (hn : 0 < n) (h0 : 0 ≤ p) (h1 : p ≤ 1000) : 0 ≤ p * ((n : Int) - 1) ∧ p * ((n : Int) - 1) ≤ 1000 * ((n : Int) - 1) ∧ 0 ≤ place n p ∧ place n p ≤ (n : Int) - 1 := by
  have a := Int.mul_nonneg h0 (show 0 ≤ (n : Int) - 1 by omega)
  have b := Int.mul_le_mul_of_nonneg_right h1 (show 0 ≤ (n : Int) - 1 by omega)
  unfold place
  omega
theorem place_mono {n : Nat} {p q : Int} (hn : 0 < n) (h : p ≤ q) : place n p ≤ place n q := by
  have b := Int.mul_le_mul_of_nonneg_right h (show 0 ≤ (n : Int) - 1 by omega)
  unfold place
  omega
/-- The row of a place. -/
def InRow (xs : List Int) (p : Int) (k : Nat) : Prop := k < 64 ∧ (bW xs k : Int) ≤ place xs.length p ∧ place xs.length p < (bW xs (k + 1) : Int)
set_option maxHeartbeats 1000000 in
theorem part_is {hb : Nat} {xs : List Int} {l m : Int} (h : Hi w hb xs l m) (p : Int) (h0 : 0 < xs.length) (hp0 : 0 ≤ p) (hp1 : p ≤ 1000) :
    Calls Try.prog 10 #[.pointer (some ⟨hb, 0, none⟩), .int .i64 p] w fun e w' => ∃ k, InRow xs p k ∧ e = .returned (.tuple #[.int .i64 (loK k), .int .i64 (hiK k), .bool true]) ∧ w = w' := by
  obtain ⟨q1, q2, q3, q4⟩ := place_bd h0 hp0 hp1
  obtain ⟨hl, ⟨c0, _⟩, _⟩ := h.facts
  have hlen := h.len
  have H : Hid _ := h
  have hz : ((xs.length : Int) == 0) = false := by simp; intro h; rw [h] at h0; simp at h0
  have h64 := bW_64 h.ok
  obtain ⟨a, ha⟩ : ∃ a, place xs.length p = a := ⟨_, rfl⟩
  have ha' : p * ((xs.length : Int) - 1) / 1000 = a := ha
  rw [ha] at q3 q4
  have HA : Hid _ := ha
  have H64 : Hid _ := h64
  clear h ha h64
  go_enter Try.func10, Try.ntmps10
  go_wp2_with (go_at_call 12; refine (count_is _ H.out).mono ?_; rintro e w' ⟨rfl, rfl⟩)
  clear ha'
  go_loop [7, 29] (fun s i => ∃ k : Nat, k ≤ 64 ∧ i = .int .i64 k ∧ (bW xs k : Int) ≤ a ∧ s = .int .i64 (a - (bW xs k : Int))) (fun _ i => 64 - (intOf i).toNat)
  case atStart => exact ⟨0, by omega, rfl, by rw [bW_zero]; omega, by rw [bW_zero]; simp; exact HA.out⟩
  case round =>
    obtain ⟨k, hk, rfl, hka, rfl⟩ := hrel
    have hk6 : k < 64 := by
      rcases Nat.lt_or_ge k 64 with h | h
      · exact h
      · have : k = 64 := by omega
        subst this
        have := H64.out
        omega
    obtain ⟨c, _⟩ := (show Hi w hb xs l m from H.out).row hk6
    have b1 := bW_le xs k
    have b2 := cW_le xs k
    have b3 : Hid _ := bW_succ xs k
    have hp : 0 ≤ hiK k ∧ hiK k ≤ 9223372036854775807 := by
      have : 2 ^ k ≤ 2 ^ 63 := Nat.pow_le_pow_right (by omega) (by omega)
      have h3 : (2 : Nat) ^ 63 = 9223372036854775808 := by decide
      have := hiK_pos k
      unfold hiK at *; omega
    by_cases hlt : a - (bW xs k : Int) - (cW xs k : Int) < 0
    · go_wp2_with (go_at_call 20; refine (mask_any _ _ (by omega)).mono ?_; rintro e w' ⟨rfl, rfl⟩)
      exact bodyPost_ret (v := .tuple #[.int .i64 (loK k), .int .i64 (hiK k), .bool true]) (by simp [results, Try.results10, go_sem, loK]) rfl ⟨k, ⟨hk6, by rw [HA.out]; exact hka, by rw [HA.out, b3.out]; omega⟩, rfl, rfl⟩
    · go_wp2
      go_round
      case rel => exact ⟨k + 1, by omega, by go_num, by rw [b3.out]; omega, by rw [b3.out]; congr 1; omega⟩
      case measure => simp [intOf]; omega
end
end Go.Proofs.Ytggfjpfjpinhoaa
