/- Next. -/
import Derived.Test.YtoaefmnjndklkaaDoorT47
namespace Go.Proofs.YtoaefmnjndklkaaDoor
open Go.RowKit

theorem next_stop {m : Nat → Bool} {p k y N : Nat} (hy : ∀ j, j < 64 → y.testBit j = (m (64 * k + j) && decide (p ≤ 64 * k + j))) (hl : y < 18446744073709551616) (hno : ∀ j, p ≤ j → j < 64 * k → m j = false) (hN : ∀ j, m j = true → j < N) :
    (y ≠ 0 → nx m N p = ((64 * k + Lib.ctz 64 y : Nat) : Int) ∧ Lib.ctz 64 y < 64) ∧ (y = 0 → ∀ j, p ≤ j → j < 64 * (k + 1) → m j = false) := by
  refine ⟨fun h0 => ?_, fun h0 j h1 h2 => ?_⟩
  · obtain ⟨c1, c2, c3⟩ := ctz_spec h0 hl
    generalize Lib.ctz 64 y = c at *
    rw [hy c c1] at c2
    simp only [Bool.and_eq_true, decide_eq_true_eq] at c2
    refine ⟨nx_found c2.1 (hN _ c2.1) c2.2 (fun i h1 h2 => ?_), c1⟩
    by_cases h3 : i < 64 * k
    · exact hno i h1 h3
    · have h4 := c3 (i - 64 * k) (by omega)
      rw [hy _ (by omega)] at h4
      have e : 64 * k + (i - 64 * k) = i := by omega
      rw [e, decide_eq_true h1, Bool.and_true] at h4
      exact h4
  · by_cases h3 : j < 64 * k
    · exact hno j h1 h3
    · have h4 := hy (j - 64 * k) (by omega)
      have e : 64 * k + (j - 64 * k) = j := by omega
      rw [h0, Nat.zero_testBit, e, decide_eq_true h1, Bool.and_true] at h4
      exact h4.symm
theorem mask_off {x b j : Nat} (hb : b ≤ 64) (hj : j < 64) : (x &&& (18446744073709551615 - (2 ^ b - 1))).testBit j = (x.testBit j && decide (b ≤ j)) := by
  rw [Nat.testBit_and, not_bit (mask_lt hb) hj, Nat.testBit_two_pow_sub_one]
  congr 1
  by_cases h : j < b
  · have h2 : ¬ b ≤ j := by omega
    simp [h, h2]
  · have h2 : b ≤ j := by omega
    simp [h, h2]
theorem next_pos (w : World) (sb g N : Nat) (m : Nat → Bool) (p : Nat) (h : ST w sb g N m) (hN : N ≤ 4096) (hT : TabAt 0 Lib.deBruijn64tab w) (hp : 0 < p) (hp2 : p ≤ 9223372036854775807) :
    Calls Tryd.prog 11 #[.pointer (some ⟨sb, 0, none⟩), .int .i64 (p : Int)] w fun e w' => e = .returned (.int .i64 (nx m N p)) ∧ w = w' := by
  have H : Hid (ST w sb g N m) := h
  obtain ⟨cap, ws, c1, hcap, hcs, hl, hm⟩ := h.cells
  obtain ⟨sl, gl⟩ := h.lt
  clear h
  obtain ⟨L, hL⟩ : ∃ L, N / 64 + 1 = L := ⟨_, rfl⟩
  rw [hL] at c1 hcap hcs hl
  have hL65 : L ≤ 65 := by omega
  have hNL : N < 64 * L := by omega
  have HC : Hid (∀ i, i < L → w.cell? ⟨g, i, none⟩ = some (.int .u64 (wn ws i : Nat)) ∧ w.frozen? ⟨g, i, none⟩ = false) := hcs
  have HM : Hid (WM ws m) := hm
  have HL : Hid (ws.length = L) := hl
  have HT : Hid (TabAt 0 Lib.deBruijn64tab w) := hT
  clear hcs hm hl hL hT
  obtain ⟨i0, hi0⟩ : ∃ i, p / 64 = i := ⟨_, rfl⟩
  obtain ⟨b, hb⟩ : ∃ b, p % 64 = b := ⟨_, rfl⟩
  have q1 : (p : Int) / 64 = (i0 : Int) := by omega
  have q2 : (p : Int) % 64 = (b : Int) := by omega
  have HI : Hid (64 * i0 + b = p ∧ b < 64) := by show _ ∧ _; omega
  have hi0m : (i0 : Int) ≤ 144115188075855872 := by omega
  have hp0 : (0 : Int) ≤ (p : Int) := by omega
  clear hi0 hb
  go_enter Tryd.func11, Tryd.ntmps11
  go_wp2
  go_loop [5] (fun i => ∃ k : Nat, i0 ≤ k ∧ (k ≤ L ∨ k = i0) ∧ i = .int .i64 k ∧ (∀ j, p ≤ j → j < 64 * k → m j = false)) (fun i => L - (intOf i).toNat)
  case atStart => exact ⟨i0, by omega, by omega, rfl, fun j h1 h2 => by have := HI.out; omega⟩
  case round =>
    obtain ⟨k, hk0, hk, rfl, hno⟩ := hrel
    have HNO0 : Hid (∀ j, p ≤ j → j < 64 * k → m j = false) := hno
    clear hno
    by_cases hkl : k < L
    · obtain ⟨ck, _⟩ := HC.out k hkl
      have hx := (HM.out k (by rw [HL.out]; exact hkl)).1
      have hxb := (HM.out k (by rw [HL.out]; exact hkl)).2
      generalize wn ws k = x at *
      have hkl2 : (k : Int) < (L : Int) := by omega
      by_cases hki : k = i0
      · subst hki
        have hib := HI.out
        obtain ⟨M, hM⟩ : ∃ M, 2 ^ b - 1 = M := ⟨_, rfl⟩
        have hM2 : M < 18446744073709551616 := hM ▸ mask_lt (by omega)
        have HMM : Hid (2 ^ b - 1 = M) := hM
        obtain ⟨y, hy⟩ : ∃ y, x &&& (18446744073709551615 - M) = y := ⟨_, rfl⟩
        have hylt : y < 18446744073709551616 := by rw [← hy]; exact Nat.lt_of_le_of_lt Nat.and_le_left hx
        have e1 : bits .andNot .u64 (x : Int) (M : Int) = (y : Int) := by rw [u64_andNot_nat x M hx hM2, hy]
        have HN2 : Hid ((y ≠ 0 → nx m N p = ((64 * k + Lib.ctz 64 y : Nat) : Int) ∧ Lib.ctz 64 y < 64) ∧ (y = 0 → ∀ j, p ≤ j → j < 64 * (k + 1) → m j = false)) := next_stop (fun j hj => by
          rw [← hy, ← hM, mask_off (by omega) hj, hxb j hj]
          have e : (b ≤ j) = (p ≤ 64 * k + j) := by simp only [eq_iff_iff]; omega
          simp only [e]) hylt HNO0.out (fun j hj => H.out.bound hj)
        clear hM hy hxb
        rcases Nat.eq_zero_or_pos y with hy0 | hy0
        · subst hy0
          have HNO : Hid (∀ j, p ≤ j → j < 64 * (k + 1) → m j = false) := HN2.out.2 rfl
          go_wp2_with (first | (go_at_call 26; refine Calls.mono (mask_at _ b M (by omega) (by omega) HMM.out w) ?_; rintro _ _ ⟨rfl, rfl⟩) | (go_at_call 27; refine Calls.mono (tz_is y hylt hyn w HT.out) ?_; rintro _ _ ⟨rfl, rfl⟩; obtain ⟨c, hc⟩ : ∃ c, Lib.ctz 64 y = c := ⟨_, rfl⟩; rw [hc] at r2 HR ⊢))
          go_round
          case rel => exact ⟨k + 1, by omega, by omega, by go_num, HNO.out⟩
          case measure => simp [intOf]; omega
        · have hyn : y ≠ 0 := by omega
          obtain ⟨r1, r2⟩ := HN2.out.1 hyn
          have HR : Hid (nx m N p = ((64 * k + Lib.ctz 64 y : Nat) : Int)) := r1
          have t1 : ((y : Int) == 0) = false := by simp; omega
          have t2 : ((y : Int) != 0) = true := by simp; omega
          clear r1 HN2
          go_wp2_with (first | (go_at_call 26; refine Calls.mono (mask_at _ b M (by omega) (by omega) HMM.out w) ?_; rintro _ _ ⟨rfl, rfl⟩) | (go_at_call 27; refine Calls.mono (tz_is y hylt hyn w HT.out) ?_; rintro _ _ ⟨rfl, rfl⟩; obtain ⟨c, hc⟩ : ∃ c, Lib.ctz 64 y = c := ⟨_, rfl⟩; rw [hc] at r2 HR ⊢))
          go_ret
          rw [HR.out]
          refine ⟨int_ret ?_, rfl⟩
          simp only [Int.natCast_add, Int.natCast_mul]
          omega
      · have hki2 : i0 < k := by omega
        have hib := HI.out
        have k2 : ((k : Int) == (i0 : Int)) = false := by simp; omega
        have HN2 : Hid ((x ≠ 0 → nx m N p = ((64 * k + Lib.ctz 64 x : Nat) : Int) ∧ Lib.ctz 64 x < 64) ∧ (x = 0 → ∀ j, p ≤ j → j < 64 * (k + 1) → m j = false)) := next_stop (fun j hj => by
          rw [hxb j hj, decide_eq_true (by omega), Bool.and_true]) hx HNO0.out (fun j hj => H.out.bound hj)
        obtain ⟨y, hy⟩ : ∃ y, x = y := ⟨_, rfl⟩
        rw [hy] at HN2 ck hx
        have hylt : y < 18446744073709551616 := hx
        clear hxb hy
        rcases Nat.eq_zero_or_pos y with hy0 | hy0
        · subst hy0
          have HNO : Hid (∀ j, p ≤ j → j < 64 * (k + 1) → m j = false) := HN2.out.2 rfl
          go_wp2_with ((go_at_call 27; refine Calls.mono (tz_is y hylt hyn w HT.out) ?_; rintro _ _ ⟨rfl, rfl⟩; obtain ⟨c, hc⟩ : ∃ c, Lib.ctz 64 y = c := ⟨_, rfl⟩; rw [hc] at r2 HR ⊢))
          go_round
          case rel => exact ⟨k + 1, by omega, by omega, by go_num, HNO.out⟩
          case measure => simp [intOf]; omega
        · have hyn : y ≠ 0 := by omega
          obtain ⟨r1, r2⟩ := HN2.out.1 hyn
          have HR : Hid (nx m N p = ((64 * k + Lib.ctz 64 y : Nat) : Int)) := r1
          have t1 : ((y : Int) == 0) = false := by simp; omega
          have t2 : ((y : Int) != 0) = true := by simp; omega
          clear r1 HN2
          go_wp2_with ((go_at_call 27; refine Calls.mono (tz_is y hylt hyn w HT.out) ?_; rintro _ _ ⟨rfl, rfl⟩; obtain ⟨c, hc⟩ : ∃ c, Lib.ctz 64 y = c := ⟨_, rfl⟩; rw [hc] at r2 HR ⊢))
          go_ret
          rw [HR.out]
          refine ⟨int_ret ?_, rfl⟩
          simp only [Int.natCast_add, Int.natCast_mul]
          omega
    · have HE : Hid (nx m N p = -1) := nx_none (fun i h1 h2 => HNO0.out i h1 (by omega))
      have hge : ¬ (k : Int) < (L : Int) := by omega
      go_wp2
      go_ret
      rw [HE.out]
      exact ⟨rfl, rfl⟩
theorem next_neg (w : World) (sb g N : Nat) (m : Nat → Bool) (n : Int) (h : ST w sb g N m) (hN : N ≤ 4096) (hT : TabAt 0 Lib.deBruijn64tab w) (hn : n < 0) :
    Calls Tryd.prog 11 #[.pointer (some ⟨sb, 0, none⟩), .int .i64 n] w fun e w' => e = .returned (.int .i64 (nx m N 0)) ∧ w = w' := by
  have H : Hid (ST w sb g N m) := h
  obtain ⟨cap, ws, c1, hcap, hcs, hl, hm⟩ := h.cells
  obtain ⟨sl, gl⟩ := h.lt
  clear h
  obtain ⟨L, hL⟩ : ∃ L, N / 64 + 1 = L := ⟨_, rfl⟩
  rw [hL] at c1 hcap hcs hl
  have hL65 : L ≤ 65 := by omega
  have hNL : N < 64 * L := by omega
  have HC : Hid (∀ i, i < L → w.cell? ⟨g, i, none⟩ = some (.int .u64 (wn ws i : Nat)) ∧ w.frozen? ⟨g, i, none⟩ = false) := hcs
  have HM : Hid (WM ws m) := hm
  have HL : Hid (ws.length = L) := hl
  have HT : Hid (TabAt 0 Lib.deBruijn64tab w) := hT
  clear hcs hm hl hL hT
  go_enter Tryd.func11, Tryd.ntmps11
  go_wp2
  go_loop [5] (fun i => ∃ k : Nat, 0 ≤ k ∧ (k ≤ L ∨ k = 0) ∧ i = .int .i64 k ∧ (∀ j, 0 ≤ j → j < 64 * k → m j = false)) (fun i => L - (intOf i).toNat)
  case atStart => exact ⟨0, by omega, by omega, rfl, fun j h1 h2 => by omega⟩
  case round =>
    obtain ⟨k, hk0, hk, rfl, hno⟩ := hrel
    have HNO0 : Hid (∀ j, 0 ≤ j → j < 64 * k → m j = false) := hno
    clear hno
    by_cases hkl : k < L
    · obtain ⟨ck, _⟩ := HC.out k hkl
      have hx := (HM.out k (by rw [HL.out]; exact hkl)).1
      have hxb := (HM.out k (by rw [HL.out]; exact hkl)).2
      generalize wn ws k = x at *
      have hkl2 : (k : Int) < (L : Int) := by omega
      by_cases hki : k = 0
      · subst hki
        obtain ⟨M, hM⟩ : ∃ M, 2 ^ 0 - 1 = M := ⟨_, rfl⟩
        have hM2 : M < 18446744073709551616 := hM ▸ mask_lt (by omega)
        have HMM : Hid (2 ^ 0 - 1 = M) := hM
        obtain ⟨y, hy⟩ : ∃ y, x &&& (18446744073709551615 - M) = y := ⟨_, rfl⟩
        have hylt : y < 18446744073709551616 := by rw [← hy]; exact Nat.lt_of_le_of_lt Nat.and_le_left hx
        have e1 : bits .andNot .u64 (x : Int) (M : Int) = (y : Int) := by rw [u64_andNot_nat x M hx hM2, hy]
        have HN2 : Hid ((y ≠ 0 → nx m N 0 = ((64 * 0 + Lib.ctz 64 y : Nat) : Int) ∧ Lib.ctz 64 y < 64) ∧ (y = 0 → ∀ j, 0 ≤ j → j < 64 * (0 + 1) → m j = false)) := next_stop (fun j hj => by
          rw [← hy, ← hM, mask_off (by omega) hj, hxb j hj]
          have e : (0 ≤ j) = (0 ≤ 64 * 0 + j) := by simp only [eq_iff_iff]; omega
          simp only [e]) hylt HNO0.out (fun j hj => H.out.bound hj)
        clear hM hy hxb
        rcases Nat.eq_zero_or_pos y with hy0 | hy0
        · subst hy0
          have HNO : Hid (∀ j, 0 ≤ j → j < 64 * (0 + 1) → m j = false) := HN2.out.2 rfl
          go_wp2_with (first | (go_at_call 26; refine Calls.mono (mask_at _ 0 M (by omega) (by omega) HMM.out w) ?_; rintro _ _ ⟨rfl, rfl⟩) | (go_at_call 27; refine Calls.mono (tz_is y hylt hyn w HT.out) ?_; rintro _ _ ⟨rfl, rfl⟩; obtain ⟨c, hc⟩ : ∃ c, Lib.ctz 64 y = c := ⟨_, rfl⟩; rw [hc] at r2 HR ⊢))
          go_round
          case rel => exact ⟨0 + 1, by omega, by omega, by go_num, HNO.out⟩
          case measure => simp [intOf]; omega
        · have hyn : y ≠ 0 := by omega
          obtain ⟨r1, r2⟩ := HN2.out.1 hyn
          have HR : Hid (nx m N 0 = ((64 * 0 + Lib.ctz 64 y : Nat) : Int)) := r1
          have t1 : ((y : Int) == 0) = false := by simp; omega
          have t2 : ((y : Int) != 0) = true := by simp; omega
          clear r1 HN2
          go_wp2_with (first | (go_at_call 26; refine Calls.mono (mask_at _ 0 M (by omega) (by omega) HMM.out w) ?_; rintro _ _ ⟨rfl, rfl⟩) | (go_at_call 27; refine Calls.mono (tz_is y hylt hyn w HT.out) ?_; rintro _ _ ⟨rfl, rfl⟩; obtain ⟨c, hc⟩ : ∃ c, Lib.ctz 64 y = c := ⟨_, rfl⟩; rw [hc] at r2 HR ⊢))
          go_ret
          rw [HR.out]
          refine ⟨int_ret ?_, rfl⟩
          simp only [Int.natCast_add, Int.natCast_mul]
          omega
      · have hki2 : 0 < k := by omega
        have k2 : ((k : Int) == 0) = false := by simp; omega
        have HN2 : Hid ((x ≠ 0 → nx m N 0 = ((64 * k + Lib.ctz 64 x : Nat) : Int) ∧ Lib.ctz 64 x < 64) ∧ (x = 0 → ∀ j, 0 ≤ j → j < 64 * (k + 1) → m j = false)) := next_stop (fun j hj => by
          rw [hxb j hj, decide_eq_true (by omega), Bool.and_true]) hx HNO0.out (fun j hj => H.out.bound hj)
        obtain ⟨y, hy⟩ : ∃ y, x = y := ⟨_, rfl⟩
        rw [hy] at HN2 ck hx
        have hylt : y < 18446744073709551616 := hx
        clear hxb hy
        rcases Nat.eq_zero_or_pos y with hy0 | hy0
        · subst hy0
          have HNO : Hid (∀ j, 0 ≤ j → j < 64 * (k + 1) → m j = false) := HN2.out.2 rfl
          go_wp2_with ((go_at_call 27; refine Calls.mono (tz_is y hylt hyn w HT.out) ?_; rintro _ _ ⟨rfl, rfl⟩; obtain ⟨c, hc⟩ : ∃ c, Lib.ctz 64 y = c := ⟨_, rfl⟩; rw [hc] at r2 HR ⊢))
          go_round
          case rel => exact ⟨k + 1, by omega, by omega, by go_num, HNO.out⟩
          case measure => simp [intOf]; omega
        · have hyn : y ≠ 0 := by omega
          obtain ⟨r1, r2⟩ := HN2.out.1 hyn
          have HR : Hid (nx m N 0 = ((64 * k + Lib.ctz 64 y : Nat) : Int)) := r1
          have t1 : ((y : Int) == 0) = false := by simp; omega
          have t2 : ((y : Int) != 0) = true := by simp; omega
          clear r1 HN2
          go_wp2_with ((go_at_call 27; refine Calls.mono (tz_is y hylt hyn w HT.out) ?_; rintro _ _ ⟨rfl, rfl⟩; obtain ⟨c, hc⟩ : ∃ c, Lib.ctz 64 y = c := ⟨_, rfl⟩; rw [hc] at r2 HR ⊢))
          go_ret
          rw [HR.out]
          refine ⟨int_ret ?_, rfl⟩
          simp only [Int.natCast_add, Int.natCast_mul]
          omega
    · have HE : Hid (nx m N 0 = -1) := nx_none (fun i h1 h2 => HNO0.out i h1 (by omega))
      have hge : ¬ (k : Int) < (L : Int) := by omega
      go_wp2
      go_ret
      rw [HE.out]
      exact ⟨rfl, rfl⟩
theorem next_zero (w : World) (sb g N : Nat) (m : Nat → Bool) (h : ST w sb g N m) (hN : N ≤ 4096) (hT : TabAt 0 Lib.deBruijn64tab w) :
    Calls Tryd.prog 11 #[.pointer (some ⟨sb, 0, none⟩), .int .i64 0] w fun e w' => e = .returned (.int .i64 (nx m N 0)) ∧ w = w' := by
  have H : Hid (ST w sb g N m) := h
  obtain ⟨cap, ws, c1, hcap, hcs, hl, hm⟩ := h.cells
  obtain ⟨sl, gl⟩ := h.lt
  clear h
  obtain ⟨L, hL⟩ : ∃ L, N / 64 + 1 = L := ⟨_, rfl⟩
  rw [hL] at c1 hcap hcs hl
  have hL65 : L ≤ 65 := by omega
  have hNL : N < 64 * L := by omega
  have HC : Hid (∀ i, i < L → w.cell? ⟨g, i, none⟩ = some (.int .u64 (wn ws i : Nat)) ∧ w.frozen? ⟨g, i, none⟩ = false) := hcs
  have HM : Hid (WM ws m) := hm
  have HL : Hid (ws.length = L) := hl
  have HT : Hid (TabAt 0 Lib.deBruijn64tab w) := hT
  clear hcs hm hl hL hT
  go_enter Tryd.func11, Tryd.ntmps11
  go_wp2
  go_loop [5] (fun i => ∃ k : Nat, 0 ≤ k ∧ (k ≤ L ∨ k = 0) ∧ i = .int .i64 k ∧ (∀ j, 0 ≤ j → j < 64 * k → m j = false)) (fun i => L - (intOf i).toNat)
  case atStart => exact ⟨0, by omega, by omega, rfl, fun j h1 h2 => by omega⟩
  case round =>
    obtain ⟨k, hk0, hk, rfl, hno⟩ := hrel
    have HNO0 : Hid (∀ j, 0 ≤ j → j < 64 * k → m j = false) := hno
    clear hno
    by_cases hkl : k < L
    · obtain ⟨ck, _⟩ := HC.out k hkl
      have hx := (HM.out k (by rw [HL.out]; exact hkl)).1
      have hxb := (HM.out k (by rw [HL.out]; exact hkl)).2
      generalize wn ws k = x at *
      have hkl2 : (k : Int) < (L : Int) := by omega
      by_cases hki : k = 0
      · subst hki
        obtain ⟨M, hM⟩ : ∃ M, 2 ^ 0 - 1 = M := ⟨_, rfl⟩
        have hM2 : M < 18446744073709551616 := hM ▸ mask_lt (by omega)
        have HMM : Hid (2 ^ 0 - 1 = M) := hM
        obtain ⟨y, hy⟩ : ∃ y, x &&& (18446744073709551615 - M) = y := ⟨_, rfl⟩
        have hylt : y < 18446744073709551616 := by rw [← hy]; exact Nat.lt_of_le_of_lt Nat.and_le_left hx
        have e1 : bits .andNot .u64 (x : Int) (M : Int) = (y : Int) := by rw [u64_andNot_nat x M hx hM2, hy]
        have HN2 : Hid ((y ≠ 0 → nx m N 0 = ((64 * 0 + Lib.ctz 64 y : Nat) : Int) ∧ Lib.ctz 64 y < 64) ∧ (y = 0 → ∀ j, 0 ≤ j → j < 64 * (0 + 1) → m j = false)) := next_stop (fun j hj => by
          rw [← hy, ← hM, mask_off (by omega) hj, hxb j hj]
          have e : (0 ≤ j) = (0 ≤ 64 * 0 + j) := by simp only [eq_iff_iff]; omega
          simp only [e]) hylt HNO0.out (fun j hj => H.out.bound hj)
        clear hM hy hxb
        rcases Nat.eq_zero_or_pos y with hy0 | hy0
        · subst hy0
          have HNO : Hid (∀ j, 0 ≤ j → j < 64 * (0 + 1) → m j = false) := HN2.out.2 rfl
          go_wp2_with (first | (go_at_call 26; refine Calls.mono (mask_at _ 0 M (by omega) (by omega) HMM.out w) ?_; rintro _ _ ⟨rfl, rfl⟩) | (go_at_call 27; refine Calls.mono (tz_is y hylt hyn w HT.out) ?_; rintro _ _ ⟨rfl, rfl⟩; obtain ⟨c, hc⟩ : ∃ c, Lib.ctz 64 y = c := ⟨_, rfl⟩; rw [hc] at r2 HR ⊢))
          go_round
          case rel => exact ⟨0 + 1, by omega, by omega, by go_num, HNO.out⟩
          case measure => simp [intOf]; omega
        · have hyn : y ≠ 0 := by omega
          obtain ⟨r1, r2⟩ := HN2.out.1 hyn
          have HR : Hid (nx m N 0 = ((64 * 0 + Lib.ctz 64 y : Nat) : Int)) := r1
          have t1 : ((y : Int) == 0) = false := by simp; omega
          have t2 : ((y : Int) != 0) = true := by simp; omega
          clear r1 HN2
          go_wp2_with (first | (go_at_call 26; refine Calls.mono (mask_at _ 0 M (by omega) (by omega) HMM.out w) ?_; rintro _ _ ⟨rfl, rfl⟩) | (go_at_call 27; refine Calls.mono (tz_is y hylt hyn w HT.out) ?_; rintro _ _ ⟨rfl, rfl⟩; obtain ⟨c, hc⟩ : ∃ c, Lib.ctz 64 y = c := ⟨_, rfl⟩; rw [hc] at r2 HR ⊢))
          go_ret
          rw [HR.out]
          refine ⟨int_ret ?_, rfl⟩
          simp only [Int.natCast_add, Int.natCast_mul]
          omega
      · have hki2 : 0 < k := by omega
        have k2 : ((k : Int) == 0) = false := by simp; omega
        have HN2 : Hid ((x ≠ 0 → nx m N 0 = ((64 * k + Lib.ctz 64 x : Nat) : Int) ∧ Lib.ctz 64 x < 64) ∧ (x = 0 → ∀ j, 0 ≤ j → j < 64 * (k + 1) → m j = false)) := next_stop (fun j hj => by
          rw [hxb j hj, decide_eq_true (by omega), Bool.and_true]) hx HNO0.out (fun j hj => H.out.bound hj)
        obtain ⟨y, hy⟩ : ∃ y, x = y := ⟨_, rfl⟩
        rw [hy] at HN2 ck hx
        have hylt : y < 18446744073709551616 := hx
        clear hxb hy
        rcases Nat.eq_zero_or_pos y with hy0 | hy0
        · subst hy0
          have HNO : Hid (∀ j, 0 ≤ j → j < 64 * (k + 1) → m j = false) := HN2.out.2 rfl
          go_wp2_with ((go_at_call 27; refine Calls.mono (tz_is y hylt hyn w HT.out) ?_; rintro _ _ ⟨rfl, rfl⟩; obtain ⟨c, hc⟩ : ∃ c, Lib.ctz 64 y = c := ⟨_, rfl⟩; rw [hc] at r2 HR ⊢))
          go_round
          case rel => exact ⟨k + 1, by omega, by omega, by go_num, HNO.out⟩
          case measure => simp [intOf]; omega
        · have hyn : y ≠ 0 := by omega
          obtain ⟨r1, r2⟩ := HN2.out.1 hyn
          have HR : Hid (nx m N 0 = ((64 * k + Lib.ctz 64 y : Nat) : Int)) := r1
          have t1 : ((y : Int) == 0) = false := by simp; omega
          have t2 : ((y : Int) != 0) = true := by simp; omega
          clear r1 HN2
          go_wp2_with ((go_at_call 27; refine Calls.mono (tz_is y hylt hyn w HT.out) ?_; rintro _ _ ⟨rfl, rfl⟩; obtain ⟨c, hc⟩ : ∃ c, Lib.ctz 64 y = c := ⟨_, rfl⟩; rw [hc] at r2 HR ⊢))
          go_ret
          rw [HR.out]
          refine ⟨int_ret ?_, rfl⟩
          simp only [Int.natCast_add, Int.natCast_mul]
          omega
    · have HE : Hid (nx m N 0 = -1) := nx_none (fun i h1 h2 => HNO0.out i h1 (by omega))
      have hge : ¬ (k : Int) < (L : Int) := by omega
      go_wp2
      go_ret
      rw [HE.out]
      exact ⟨rfl, rfl⟩
theorem next_any (w : World) (sb g N : Nat) (m : Nat → Bool) (n : Int) (h : ST w sb g N m) (hN : N ≤ 4096) (hT : TabAt 0 Lib.deBruijn64tab w) (hn : n ≤ 9223372036854775807) :
    Calls Tryd.prog 11 #[.pointer (some ⟨sb, 0, none⟩), .int .i64 n] w fun e w' => e = .returned (.int .i64 (nx m N n.toNat)) ∧ w = w' := by
  by_cases h0 : n < 0
  · have e : n.toNat = 0 := by omega
    rw [e]
    exact next_neg w sb g N m n h hN hT h0
  by_cases h1 : n = 0
  · subst h1
    exact next_zero w sb g N m h hN hT
  · obtain ⟨p, rfl⟩ : ∃ p : Nat, n = p := ⟨n.toNat, by omega⟩
    have e : ((p : Int)).toNat = p := by omega
    rw [e]
    exact next_pos w sb g N m p h hN hT (by omega) (by omega)
end Go.Proofs.YtoaefmnjndklkaaDoor
