/- Masks. -/
import Derived.Test.YtggfjpfjpinhoaaFnsA
namespace Go.Proofs.Ytggfjpfjpinhoaa
open Go.RowKit

theorem mask_bits : ∀ k : Fin 64, bits BinOp.xor IntKind.u64 IntKind.u64.max (IntKind.u64.wrap (18446744073709551615 * 2 ^ k.val)) = hiK k.val := by decide +kernel
theorem mask_or : ∀ k : Fin 64, bits BinOp.or IntKind.u64 (hiK k.val * 2) 1 = hiK (k.val + 1) := by decide +kernel
theorem mask_any (k : Nat) (w : World) (h : k ≤ 63) : Calls Try.prog 20 #[.int .i64 k] w fun e w' => e = .returned (.int .u64 (hiK k)) ∧ w = w' := by
  have hsig : IntKind.u64.signed = false := rfl
  have hm := mask_bits ⟨k, by omega⟩
  go_enter Try.func20, Try.ntmps20
  go_wp2
  go_ret
  exact ⟨rfl, rfl⟩
theorem rmask_any (k : Nat) (w : World) (h : k ≤ 63) : Calls Try.prog 22 #[.int .i64 k] w fun e w' => e = .returned (.int .u64 (hiK k)) ∧ w = w' := by
  go_enter Try.func22, Try.ntmps22
  go_wp2
  go_loop [3, 4] (fun v i => ∃ m : Nat, m ≤ k ∧ i = .int .i64 m ∧ v = .int .u64 (hiK m)) (fun _ i => k - (intOf i).toNat)
  case atStart => exact ⟨0, by omega, rfl, rfl⟩
  case round =>
    obtain ⟨m, hm, rfl, rfl⟩ := hrel
    by_cases hlt : m < k
    · have d1 : decide (m < k) = true := by rw [decide_eq_true_eq]; omega
      have hp : hiK m ≤ 4611686018427387903 := by
        have : 2 ^ m ≤ 2 ^ 62 := Nat.pow_le_pow_right (by omega) (by omega)
        have h3 : (2 : Nat) ^ 62 = 4611686018427387904 := by decide
        unfold hiK; omega
      have hq := hiK_pos m
      go_wp2
      go_round
      case rel =>
        have := mask_or ⟨m, by omega⟩
        exact ⟨m + 1, by omega, by go_num, by rw [this]⟩
      case measure => simp [intOf]; omega
    · obtain rfl : m = k := by omega
      have d1 : decide (m < m) = false := by rw [decide_eq_false_iff_not]; omega
      go_wp2
      go_ret
      exact ⟨rfl, rfl⟩

/-- The cells of a histogram that counted xs. -/
def hf (xs : List Int) (l m : Int) (k : Nat) : Int := if k < 64 then (cW xs k : Int) else if k = 64 then (xs.length : Int) else if k = 65 then sat (sm xs) else if k = 66 then l else m
structure Hi (w : World) (hb : Nat) (xs : List Int) (l m : Int) : Prop where
  nums : Nums w hb 68 (hf xs l m)
  ends : Ends xs l m
  ok : Ok xs
  len : xs.length ≤ 1000
theorem Hi.kept {S : Nat → Prop} {w w' : World} {hb : Nat} {xs : List Int} {l m : Int} (h : Hi w hb xs l m) (hk : Kp S w w') (hs : ¬ S hb) : Hi w' hb xs l m := ⟨h.nums.kept hk hs, h.ends, h.ok, h.len⟩
theorem Hi.grown {w w' : World} {hb : Nat} {xs : List Int} {l m : Int} (h : Hi w hb xs l m) (hg : Gn w w') : Hi w' hb xs l m := ⟨h.nums.grown hg, h.ends, h.ok, h.len⟩
theorem Hi.facts {w : World} {hb : Nat} {xs : List Int} {l m : Int} (h : Hi w hb xs l m) : hb < w.heap.size ∧ (w.cell? ⟨hb, 64, none⟩ = some (.int .i64 (xs.length : Int)) ∧ w.cell? ⟨hb, 65, none⟩ = some (.int .i64 (sat (sm xs))) ∧
    w.cell? ⟨hb, 66, none⟩ = some (.int .i64 l) ∧ w.cell? ⟨hb, 67, none⟩ = some (.int .i64 m)) ∧ (w.frozen? ⟨hb, 64, none⟩ = false ∧ w.frozen? ⟨hb, 65, none⟩ = false ∧ w.frozen? ⟨hb, 66, none⟩ = false ∧ w.frozen? ⟨hb, 67, none⟩ = false) :=
  ⟨h.nums.1, ⟨(h.nums.2 64 (by omega)).1, (h.nums.2 65 (by omega)).1, (h.nums.2 66 (by omega)).1, (h.nums.2 67 (by omega)).1⟩, (h.nums.2 64 (by omega)).2, (h.nums.2 65 (by omega)).2, (h.nums.2 66 (by omega)).2, (h.nums.2 67 (by omega)).2⟩
theorem Hi.row {w : World} {hb : Nat} {xs : List Int} {l m : Int} (h : Hi w hb xs l m) {k : Nat} (hk : k < 64) : w.cell? ⟨hb, k, none⟩ = some (.int .i64 (cW xs k : Int)) ∧ w.frozen? ⟨hb, k, none⟩ = false := by
  have := h.nums.2 k (by omega)
  unfold hf at this
  rw [if_pos hk] at this
  exact this
theorem Ends.bd {xs : List Int} {l m : Int} (h : Ends xs l m) (hok : Ok xs) : (0 ≤ l ∧ l ≤ 9223372036854775807) ∧ (0 ≤ m ∧ m ≤ 9223372036854775807) := by
  rcases h with ⟨_, rfl, rfl⟩ | ⟨h1, h2, _⟩
  · omega
  · exact ⟨hok _ h1, hok _ h2⟩
section
variable (w : World)
theorem count_nil : Calls Try.prog 12 #[.pointer none] w fun e w' => e = .returned (.int .i64 0) ∧ w = w' := by
  go_enter Try.func12, Try.ntmps12
  go_wp2
  go_ret
  exact ⟨rfl, rfl⟩
theorem sum_nil : Calls Try.prog 13 #[.pointer none] w fun e w' => e = .returned (.int .i64 0) ∧ w = w' := by
  go_enter Try.func13, Try.ntmps13
  go_wp2
  go_ret
  exact ⟨rfl, rfl⟩
theorem row_nil (k : Int) : Calls Try.prog 15 #[.pointer none, .int .i64 k] w fun e w' => e = .returned (.int .i64 0) ∧ w = w' := by
  go_enter Try.func15, Try.ntmps15
  go_wp2
  go_ret
  exact ⟨rfl, rfl⟩
theorem bounds_nil : Calls Try.prog 9 #[.pointer none] w fun e w' => e = .returned (.tuple #[.int .i64 0, .int .i64 0, .bool false]) ∧ Gn w w' := by
  go_enter Try.func9, Try.ntmps9
  go_wp2_with (go_at_call 12; refine (count_nil _).mono ?_; rintro e w' ⟨rfl, rfl⟩)
  exact bodyPost_ret (v := .tuple #[.int .i64 0, .int .i64 0, .bool false]) (by simp [results, Try.results9, go_sem]) rfl ⟨rfl, Gn.refl _⟩
theorem count_is {hb : Nat} {xs : List Int} {l m : Int} (h : Hi w hb xs l m) : Calls Try.prog 12 #[.pointer (some ⟨hb, 0, none⟩)] w fun e w' => e = .returned (.int .i64 (xs.length : Int)) ∧ w = w' := by
  obtain ⟨hl, ⟨c0, c1, c2, c3⟩, _⟩ := h.facts
  clear h
  go_enter Try.func12, Try.ntmps12
  go_wp2
  go_ret
  exact ⟨rfl, rfl⟩
theorem sum_is {hb : Nat} {xs : List Int} {l m : Int} (h : Hi w hb xs l m) : Calls Try.prog 13 #[.pointer (some ⟨hb, 0, none⟩)] w fun e w' => e = .returned (.int .i64 (sat (sm xs))) ∧ w = w' := by
  obtain ⟨hl, ⟨c0, c1, c2, c3⟩, _⟩ := h.facts
  clear h
  go_enter Try.func13, Try.ntmps13
  go_wp2
  go_ret
  exact ⟨rfl, rfl⟩
def rowI (xs : List Int) (k : Int) : Int := if 0 ≤ k ∧ k < 64 then (cW xs k.toNat : Int) else 0
theorem row_is {hb : Nat} {xs : List Int} {l m : Int} (h : Hi w hb xs l m) (k : Int) : Calls Try.prog 15 #[.pointer (some ⟨hb, 0, none⟩), .int .i64 k] w fun e w' => e = .returned (.int .i64 (rowI xs k)) ∧ w = w' := by
  unfold rowI
  by_cases hk : 0 ≤ k ∧ k < 64
  · rw [if_pos hk]
    obtain ⟨n, rfl⟩ := Int.eq_ofNat_of_zero_le hk.1
    have hn : n < 64 := by omega
    obtain ⟨c, _⟩ := h.row hn
    have hl := h.nums.1
    clear h
    rw [Int.toNat_natCast]
    go_enter Try.func15, Try.ntmps15
    go_wp2
    go_ret
    exact ⟨rfl, rfl⟩
  · rw [if_neg hk]
    have hc : k < 0 ∨ (0 ≤ k ∧ 64 ≤ k) := by omega
    clear h hk
    rcases hc with hc | ⟨hc1, hc2⟩
    · go_enter Try.func15, Try.ntmps15
      go_wp2
      go_ret
      exact ⟨rfl, rfl⟩
    · go_enter Try.func15, Try.ntmps15
      go_wp2
      go_ret
      exact ⟨rfl, rfl⟩
theorem bounds_is {hb : Nat} {xs : List Int} {l m : Int} (h : Hi w hb xs l m) (h0 : 0 < xs.length) : Calls Try.prog 9 #[.pointer (some ⟨hb, 0, none⟩)] w fun e w' => e = .returned (.tuple #[.int .i64 l, .int .i64 m, .bool true]) ∧ Gn w w' := by
  obtain ⟨hl, ⟨c0, c1, c2, c3⟩, _⟩ := h.facts
  have hll := h.len
  have H : Hid _ := h
  clear h
  have hne : ((xs.length : Int) == 0) = false := by simp; intro h; subst h; simp at h0
  go_enter Try.func9, Try.ntmps9
  go_wp2_with (go_at_call 12; refine (count_is _ H.out).mono ?_; rintro e w' ⟨rfl, rfl⟩)
  refine wp_region_gr (by kernel_rfl) (by kernel_rfl) ?_
  repeat (go_big_quiet_step (fail))
  refine wpQuiet_nil ?_
  rintro _ ⟨q4, rfl⟩
  go_wp2
  exact bodyPost_ret (v := .tuple #[.int .i64 l, .int .i64 m, .bool true]) (by simp [results, Try.results9, go_sem]) rfl ⟨rfl, by with_reducible (repeat (first | exact Gn.refl _ | refine Gn.gr ?_ _ | refine Gn.drew ?_))⟩
theorem bounds_empty {hb : Nat} {l m : Int} (h : Hi w hb [] l m) : Calls Try.prog 9 #[.pointer (some ⟨hb, 0, none⟩)] w fun e w' => e = .returned (.tuple #[.int .i64 0, .int .i64 0, .bool false]) ∧ Gn w w' := by
  have H : Hid _ := h
  clear h
  go_enter Try.func9, Try.ntmps9
  go_wp2_with (go_at_call 12; refine (count_is _ H.out).mono ?_; rintro e w' ⟨rfl, rfl⟩)
  exact bodyPost_ret (v := .tuple #[.int .i64 0, .int .i64 0, .bool false]) (by simp [results, Try.results9, go_sem]) rfl ⟨rfl, Gn.refl _⟩
end
end Go.Proofs.Ytggfjpfjpinhoaa
