/- What Run, Best, Ratio and their references return, for all slices of words; the chapter's example. -/
import Derived.Test.YthgcdoiodeagcaaFnsB
import Derived.LoopTactic
namespace Go.Proofs.Ythgcdoiodeagcaa
open Go.RowKit

def nth (xs : List Nat) (k : Nat) : Nat := xs.getD k 0
/-- A slice value reads as a list of words. -/
def Fl (w : World) (b off : Nat) (xs : List Nat) : Prop := ∀ k, k < xs.length → w.cell? ⟨b, off + k, none⟩ = some (.float .f64 (nth xs k))
def Wd (xs : List Nat) : Prop := xs.length ≤ 9223372036854775807 ∧ ∀ k, k < xs.length → nth xs k < 18446744073709551616
def run (a s : Nat) (xs : List Nat) : Nat → Nat
  | 0 => a
  | k + 1 => step (run a s xs k) (nth xs k) s
def bst (xs : List Nat) : Nat → Nat
  | 0 => 0
  | k + 1 => if k = 0 then 0 else if lessB (nth xs k) (nth xs (bst xs k)) then k else bst xs k
def bestI (xs : List Nat) (k : Nat) : Int := if k = 0 then -1 else (bst xs k : Int)
theorem run_lt {a s : Nat} {xs : List Nat} (ha : a < 18446744073709551616) (hs : s < 18446744073709551616) (h : Wd xs) : ∀ k, k ≤ xs.length → run a s xs k < 18446744073709551616
  | 0, _ => ha
  | k + 1, hk => (step_cln _ _ _ (run_lt ha hs h k (by omega)) (h.2 k (by omega)) hs).lt
theorem bst_lt (xs : List Nat) : ∀ k, 0 < k → bst xs k < k
  | k + 1, _ => by
    unfold bst
    split
    · omega
    · have := bst_lt xs k (by omega)
      split <;> omega
theorem bestI_succ {xs : List Nat} {k : Nat} (h : 0 < k) : bestI xs (k + 1) = if lessB (nth xs k) (nth xs (bst xs k)) then (k : Int) else bst xs k := by
  unfold bestI
  rw [if_neg (by omega)]
  conv => lhs; unfold bst
  rw [if_neg (by omega)]
  split <;> rfl

section
variable (w : World)
set_option maxHeartbeats 400000 in
theorem run_any (a s : Nat) (b off cap : Nat) (xs : List Nat) (ha : a < 18446744073709551616) (hs : s < 18446744073709551616) (h : Wd xs) (hc : Fl w b off xs) :
    Calls Try.prog 16 #[.float .f64 a, .float .f64 s, .slice (some ⟨b, off, none⟩) xs.length cap] w fun e w' => e = .returned (.float .f64 (run a s xs xs.length)) ∧ w = w' := by
  have hl := h.1
  have H : Hid _ := h
  have HC : Hid _ := hc
  clear h hc
  go_enter Try.func16, Try.ntmps16
  go_wp2
  go_loop [0, 11] (fun v i => ∃ k : Nat, k ≤ xs.length ∧ i = .int .i64 k ∧ v = .float .f64 (run a s xs k)) (fun _ i => xs.length - (intOf i).toNat)
  case atStart => exact ⟨0, by omega, rfl, rfl⟩
  case round =>
    obtain ⟨k, hk, rfl, rfl⟩ := hrel
    by_cases hlt : k < xs.length
    · have c := HC.out k hlt
      have b1 := run_lt ha hs H.out k hk
      have b2 := H.out.2 k hlt
      go_wp2_with (go_at_call 11; refine (step_any _ _ _ _ b1 b2 hs).mono ?_; rintro e w' ⟨rfl, rfl⟩)
      go_round
      case rel => exact ⟨k + 1, by omega, by go_num, rfl⟩
      case measure => simp [intOf]; omega
    · obtain rfl : xs.length = k := by omega
      go_wp2
      go_ret
      exact ⟨rfl, rfl⟩
theorem run_nil (a s cap : Nat) (o : Option Addr) : Calls Try.prog 16 #[.float .f64 a, .float .f64 s, .slice o 0 cap] w fun e w' => e = .returned (.float .f64 a) ∧ w = w' := by
  go_enter Try.func16, Try.ntmps16
  go_wp2
  refine wp_loop_rounds 1 ?_
  rw [rounds_succ]
  go_wp2
  go_ret
  exact ⟨rfl, rfl⟩
set_option maxHeartbeats 400000 in
theorem rrun_any (a s : Nat) (b off cap : Nat) (xs : List Nat) (ha : a < 18446744073709551616) (hs : s < 18446744073709551616) (h : Wd xs) (hc : Fl w b off xs) :
    Calls Try.prog 17 #[.float .f64 a, .float .f64 s, .slice (some ⟨b, off, none⟩) xs.length cap] w fun e w' => e = .returned (.float .f64 (run a s xs xs.length)) ∧ w = w' := by
  have hl := h.1
  have H : Hid _ := h
  have HC : Hid _ := hc
  clear h hc
  go_enter Try.func17, Try.ntmps17
  go_wp2
  go_loop [0, 7] (fun v i => ∃ k : Nat, k ≤ xs.length ∧ i = .int .i64 k ∧ v = .float .f64 (run a s xs k)) (fun _ i => xs.length - (intOf i).toNat)
  case atStart => exact ⟨0, by omega, rfl, rfl⟩
  case round =>
    obtain ⟨k, hk, rfl, rfl⟩ := hrel
    by_cases hlt : k < xs.length
    · have c := HC.out k hlt
      have b1 := run_lt ha hs H.out k hk
      have b2 := H.out.2 k hlt
      go_wp2_with (go_at_call 15; refine (rstep_any _ _ _ _ b1 b2 hs).mono ?_; rintro e w' ⟨rfl, rfl⟩)
      go_round
      case rel => exact ⟨k + 1, by omega, by go_num, rfl⟩
      case measure => simp [intOf]; omega
    · obtain rfl : xs.length = k := by omega
      go_wp2
      go_ret
      exact ⟨rfl, rfl⟩
theorem rrun_nil (a s cap : Nat) (o : Option Addr) : Calls Try.prog 17 #[.float .f64 a, .float .f64 s, .slice o 0 cap] w fun e w' => e = .returned (.float .f64 a) ∧ w = w' := by
  go_enter Try.func17, Try.ntmps17
  go_wp2
  refine wp_loop_rounds 1 ?_
  rw [rounds_succ]
  go_wp2
  go_ret
  exact ⟨rfl, rfl⟩

set_option maxHeartbeats 1000000 in
theorem best_any (b off cap : Nat) (xs : List Nat) (h : Wd xs) (hc : Fl w b off xs) :
    Calls Try.prog 20 #[.slice (some ⟨b, off, none⟩) xs.length cap] w fun e w' => e = .returned (.int .i64 (bestI xs xs.length)) ∧ w = w' := by
  have hl := h.1
  have H : Hid _ := h
  have HC : Hid _ := hc
  clear h hc
  go_enter Try.func20, Try.ntmps20
  go_wp2
  go_loop [3, 8] (fun v i => ∃ k : Nat, k ≤ xs.length ∧ i = .int .i64 k ∧ v = .int .i64 (bestI xs k)) (fun _ i => xs.length - (intOf i).toNat)
  case atStart => exact ⟨0, by omega, rfl, rfl⟩
  case round =>
    obtain ⟨k, hk, rfl, rfl⟩ := hrel
    by_cases hlt : k < xs.length
    · have c := HC.out k hlt
      have b2 := H.out.2 k hlt
      by_cases k0 : k = 0
      · subst k0
        rw [show bestI xs 0 = -1 from rfl]
        simp only [Nat.add_zero] at c
        go_wp2
        go_round
        case rel => exact ⟨0 + 1, by omega, by go_num, by simp [bestI, bst]⟩
        case measure => simp [intOf]; omega
      · have hm := bst_lt xs k (by omega)
        have hs := bestI_succ (xs := xs) (k := k) (by omega)
        have e0 : bestI xs k = (bst xs k : Int) := by unfold bestI; rw [if_neg k0]
        rw [e0]
        obtain ⟨m, hmm⟩ : ∃ m, bst xs k = m := ⟨_, rfl⟩
        rw [hmm] at hm hs ⊢
        have c2 := HC.out m (by omega)
        have b3 := H.out.2 m (by omega)
        have dm : decide ((m : Int) < 0) = false := by rw [decide_eq_false_iff_not]; omega
        have hmi : (m : Int) < (xs.length : Int) := by omega
        have HS : Hid _ := hs
        clear hs e0 hmm
        cases hd : lessB (nth xs k) (nth xs m)
        all_goals
          go_wp2_with (go_at_call 6; refine (less_any _ _ _ b2 b3).mono ?_; rintro e w' ⟨rfl, rfl⟩)
          go_round
          case rel => exact ⟨k + 1, by omega, by go_num, by rw [HS.out, hd]; rfl⟩
          case measure => simp [intOf]; omega
    · obtain rfl : xs.length = k := by omega
      go_wp2
      go_ret
      exact ⟨rfl, rfl⟩
theorem best_nil (cap : Nat) (o : Option Addr) : Calls Try.prog 20 #[.slice o 0 cap] w fun e w' => e = .returned (.int .i64 (-1)) ∧ w = w' := by
  go_enter Try.func20, Try.ntmps20
  go_wp2
  refine wp_loop_rounds 1 ?_
  rw [rounds_succ]
  go_wp2
  go_ret
  exact ⟨rfl, rfl⟩
theorem rbest_nil (cap : Nat) (o : Option Addr) : Calls Try.prog 21 #[.slice o 0 cap] w fun e w' => e = .returned (.int .i64 (-1)) ∧ w = w' := by
  go_enter Try.func21, Try.ntmps21
  go_wp2
  refine wp_loop_rounds 1 ?_
  rw [rounds_succ]
  go_wp2
  go_ret
  exact ⟨rfl, rfl⟩
end
end Go.Proofs.Ythgcdoiodeagcaa
