/- Rank, Len. -/
import Derived.Test.YtoaefmnjndklkaaDoorS47
namespace Go.Proofs.YtoaefmnjndklkaaDoor
open Go.RowKit

def intOf : Value → Int
  | .int _ x => x
  | _ => 0
theorem cnt_min {m : Nat → Bool} {c k d : Nat} (hd : d = min (c - 64 * k) 64) : cnt m (min c (64 * (k + 1))) = cnt m (min c (64 * k)) + cnt (fun j => m (64 * k + j)) d := by
  by_cases h : c ≤ 64 * k
  · have e1 : min c (64 * (k + 1)) = c := by omega
    have e2 : min c (64 * k) = c := by omega
    have e3 : d = 0 := by omega
    rw [e1, e2, e3]; rfl
  · have e1 : min c (64 * (k + 1)) = 64 * k + d := by omega
    have e2 : min c (64 * k) = 64 * k := by omega
    rw [e1, e2, cnt_add]
theorem mask_at (z : Int) (d M : Nat) (hz : z = (d : Int)) (hd : d ≤ 64) (hM : 2 ^ d - 1 = M) (w : World) : Calls Tryd.prog 26 #[.int .i64 z] w fun e w' => e = .returned (.int .u64 (M : Int)) ∧ w = w' := by
  subst hz
  subst hM
  exact mask_is d hd w
theorem mask_lt {d : Nat} (hd : d ≤ 64) : 2 ^ d - 1 < 18446744073709551616 := by
  have : 2 ^ d ≤ 2 ^ 64 := Nat.pow_le_pow_right (by omega) hd
  have e : 2 ^ 64 = 18446744073709551616 := by decide
  omega
theorem rank_in (w : World) (sb g N : Nat) (m : Nat → Bool) (c : Nat) (h : ST w sb g N m) (hN : N ≤ 4096) (hc : c ≤ N) (hcp : 0 < c) :
    Calls Tryd.prog 10 #[.pointer (some ⟨sb, 0, none⟩), .int .i64 (c : Int)] w fun e w' => e = .returned (.int .i64 (cnt m c)) ∧ w = w' := by
  have H : Hid (ST w sb g N m) := h
  obtain ⟨cap, ws, c1, hcap, hcs, hl, hm⟩ := h.cells
  have c0 := h.c0
  obtain ⟨sl, gl⟩ := h.lt
  clear h
  obtain ⟨L, hL⟩ : ∃ L, N / 64 + 1 = L := ⟨_, rfl⟩
  rw [hL] at c1 hcap hcs hl
  have hL65 : L ≤ 65 := by omega
  have hNL : N < 64 * L := by omega
  have HC : Hid (∀ i, i < L → w.cell? ⟨g, i, none⟩ = some (.int .u64 (wn ws i : Nat)) ∧ w.frozen? ⟨g, i, none⟩ = false) := hcs
  have HM : Hid (WM ws m) := hm
  have HL : Hid (ws.length = L) := hl
  clear hcs hm hl hL
  have hci : (c : Int) ≤ (N : Int) := by omega
  have hc0 : (0 : Int) ≤ (c : Int) := by omega
  go_enter Tryd.func10, Tryd.ntmps10
  go_wp2
  go_loop [5, 22] (fun s i => ∃ k : Nat, k ≤ L ∧ i = .int .i64 k ∧ s = .int .i64 (cnt m (min c (64 * k)) : Nat)) (fun _ i => L - (intOf i).toNat)
  case atStart => exact ⟨0, by omega, rfl, by rw [Nat.mul_zero, Nat.min_zero]; rfl⟩
  case round =>
    obtain ⟨k, hk, rfl, rfl⟩ := hrel
    have hs1 := cnt_le m (min c (64 * k))
    have hs2 : cnt m (min c (64 * k)) ≤ 4160 := by omega
    by_cases hkl : k < L
    · obtain ⟨ck, _⟩ := HC.out k hkl
      obtain ⟨d, hd⟩ : ∃ d, d = min (c - 64 * k) 64 := ⟨_, rfl⟩
      have HS : Hid (cnt m (min c (64 * (k + 1))) = cnt m (min c (64 * k)) + cnt (fun j => m (64 * k + j)) d) := cnt_min hd
      have hd64 : d ≤ 64 := by omega
      have HW : Hid (pc (wn ws k &&& (2 ^ d - 1)) = cnt (fun j => m (64 * k + j)) d) := cnt_word HM.out (by rw [HL.out]; exact hkl) hd64
      have hx := (HM.out k (by rw [HL.out]; exact hkl)).1
      have hc2 := cnt_le (fun j => m (64 * k + j)) d
      generalize wn ws k = x at *
      generalize cnt m (min c (64 * k)) = s0 at *
      generalize cnt (fun j => m (64 * k + j)) d = q at *
      obtain ⟨M, hM⟩ : ∃ M, 2 ^ d - 1 = M := ⟨_, rfl⟩
      have hM2 : M < 18446744073709551616 := hM ▸ mask_lt hd64
      have HMM : Hid (2 ^ d - 1 = M) := hM
      have hkl2 : (k : Int) < (L : Int) := by omega
      have hdd : (c ≤ 64 * k ∧ d = 0) ∨ (64 * k < c ∧ c ≤ 64 * k + 64 ∧ d + 64 * k = c) ∨ (64 * k + 64 < c ∧ d = 64) := by omega
      obtain ⟨y, hy⟩ : ∃ y, x &&& M = y := ⟨_, rfl⟩
      have hy2 : y < 18446744073709551616 := by rw [← hy]; exact Nat.lt_of_le_of_lt Nat.and_le_left hx
      have HY : Hid (bits .and .u64 (x : Int) (M : Int) = (y : Int)) := by
        show _ = _
        rw [and_nat x M hx hM2, hy]
      have HP : Hid (pc y = q) := by
        have := HW.out
        rw [HMM.out, hy] at this
        exact this
      clear hd hM hy HW
      have e1 := HY.out
      rcases hdd with ⟨g1, g2⟩ | ⟨g1, g2, g3⟩ | ⟨g1, g2⟩
      all_goals
        go_wp2_with (first | (go_at_call 26; refine Calls.mono (mask_at _ d M (by omega) hd64 HMM.out w) ?_; rintro _ _ ⟨rfl, rfl⟩) | (go_at_call 25; refine Calls.mono (ones_is y hy2 w) ?_; rintro _ _ ⟨rfl, rfl⟩; rw [HP.out]))
        go_round
        case rel => exact ⟨k + 1, by omega, by go_num, by rw [HS.out]; go_num⟩
        case measure => simp [intOf]; omega
    · obtain rfl : k = L := by omega
      have HE : Hid (min c (64 * k) = c) := by show _ = _; omega
      go_wp2
      go_ret
      rw [HE.out]
      exact ⟨rfl, rfl⟩
theorem rank_all (w : World) (sb g c : Nat) (m : Nat → Bool) (n : Int) (h : ST w sb g c m) (hN : c ≤ 4096) (hn : (c : Int) < n) (hcp : 0 < c) :
    Calls Tryd.prog 10 #[.pointer (some ⟨sb, 0, none⟩), .int .i64 n] w fun e w' => e = .returned (.int .i64 (cnt m c)) ∧ w = w' := by
  have H : Hid (ST w sb g c m) := h
  obtain ⟨cap, ws, c1, hcap, hcs, hl, hm⟩ := h.cells
  have c0 := h.c0
  obtain ⟨sl, gl⟩ := h.lt
  clear h
  obtain ⟨L, hL⟩ : ∃ L, c / 64 + 1 = L := ⟨_, rfl⟩
  rw [hL] at c1 hcap hcs hl
  have hL65 : L ≤ 65 := by omega
  have hNL : c < 64 * L := by omega
  have HC : Hid (∀ i, i < L → w.cell? ⟨g, i, none⟩ = some (.int .u64 (wn ws i : Nat)) ∧ w.frozen? ⟨g, i, none⟩ = false) := hcs
  have HM : Hid (WM ws m) := hm
  have HL : Hid (ws.length = L) := hl
  clear hcs hm hl hL
  have hc0 : (0 : Int) ≤ (c : Int) := by omega
  go_enter Tryd.func10, Tryd.ntmps10
  go_wp2
  go_loop [5, 22] (fun s i => ∃ k : Nat, k ≤ L ∧ i = .int .i64 k ∧ s = .int .i64 (cnt m (min c (64 * k)) : Nat)) (fun _ i => L - (intOf i).toNat)
  case atStart => exact ⟨0, by omega, rfl, by rw [Nat.mul_zero, Nat.min_zero]; rfl⟩
  case round =>
    obtain ⟨k, hk, rfl, rfl⟩ := hrel
    have hs1 := cnt_le m (min c (64 * k))
    have hs2 : cnt m (min c (64 * k)) ≤ 4160 := by omega
    by_cases hkl : k < L
    · obtain ⟨ck, _⟩ := HC.out k hkl
      obtain ⟨d, hd⟩ : ∃ d, d = min (c - 64 * k) 64 := ⟨_, rfl⟩
      have HS : Hid (cnt m (min c (64 * (k + 1))) = cnt m (min c (64 * k)) + cnt (fun j => m (64 * k + j)) d) := cnt_min hd
      have hd64 : d ≤ 64 := by omega
      have HW : Hid (pc (wn ws k &&& (2 ^ d - 1)) = cnt (fun j => m (64 * k + j)) d) := cnt_word HM.out (by rw [HL.out]; exact hkl) hd64
      have hx := (HM.out k (by rw [HL.out]; exact hkl)).1
      have hc2 := cnt_le (fun j => m (64 * k + j)) d
      generalize wn ws k = x at *
      generalize cnt m (min c (64 * k)) = s0 at *
      generalize cnt (fun j => m (64 * k + j)) d = q at *
      obtain ⟨M, hM⟩ : ∃ M, 2 ^ d - 1 = M := ⟨_, rfl⟩
      have hM2 : M < 18446744073709551616 := hM ▸ mask_lt hd64
      have HMM : Hid (2 ^ d - 1 = M) := hM
      have hkl2 : (k : Int) < (L : Int) := by omega
      have hdd : (c ≤ 64 * k ∧ d = 0) ∨ (64 * k < c ∧ c ≤ 64 * k + 64 ∧ d + 64 * k = c) ∨ (64 * k + 64 < c ∧ d = 64) := by omega
      obtain ⟨y, hy⟩ : ∃ y, x &&& M = y := ⟨_, rfl⟩
      have hy2 : y < 18446744073709551616 := by rw [← hy]; exact Nat.lt_of_le_of_lt Nat.and_le_left hx
      have HY : Hid (bits .and .u64 (x : Int) (M : Int) = (y : Int)) := by
        show _ = _
        rw [and_nat x M hx hM2, hy]
      have HP : Hid (pc y = q) := by
        have := HW.out
        rw [HMM.out, hy] at this
        exact this
      clear hd hM hy HW
      have e1 := HY.out
      rcases hdd with ⟨g1, g2⟩ | ⟨g1, g2, g3⟩ | ⟨g1, g2⟩
      all_goals
        go_wp2_with (first | (go_at_call 26; refine Calls.mono (mask_at _ d M (by omega) hd64 HMM.out w) ?_; rintro _ _ ⟨rfl, rfl⟩) | (go_at_call 25; refine Calls.mono (ones_is y hy2 w) ?_; rintro _ _ ⟨rfl, rfl⟩; rw [HP.out]))
        go_round
        case rel => exact ⟨k + 1, by omega, by go_num, by rw [HS.out]; go_num⟩
        case measure => simp [intOf]; omega
    · obtain rfl : k = L := by omega
      have HE : Hid (min c (64 * k) = c) := by show _ = _; omega
      go_wp2
      go_ret
      rw [HE.out]
      exact ⟨rfl, rfl⟩
theorem rank_zero (w : World) (sb g N : Nat) (m : Nat → Bool) (n : Int) (h : ST w sb g N m) (hN : N ≤ 4096) (hn : n ≤ 0) :
    Calls Tryd.prog 10 #[.pointer (some ⟨sb, 0, none⟩), .int .i64 n] w fun e w' => e = .returned (.int .i64 0) ∧ w = w' := by
  have H : Hid (ST w sb g N m) := h
  obtain ⟨cap, ws, c1, hcap, hcs, hl, hm⟩ := h.cells
  have c0 := h.c0
  obtain ⟨sl, gl⟩ := h.lt
  clear h
  obtain ⟨L, hL⟩ : ∃ L, N / 64 + 1 = L := ⟨_, rfl⟩
  rw [hL] at c1 hcap hcs hl
  have hL65 : L ≤ 65 := by omega
  have hNL : N < 64 * L := by omega
  have HC : Hid (∀ i, i < L → w.cell? ⟨g, i, none⟩ = some (.int .u64 (wn ws i : Nat)) ∧ w.frozen? ⟨g, i, none⟩ = false) := hcs
  have HM : Hid (WM ws m) := hm
  have HL : Hid (ws.length = L) := hl
  clear hcs hm hl hL
  have hnN : n ≤ (N : Int) := by omega
  have HZ : ∀ x : Int, bits .and .u64 x 0 = 0 := fun x => by simp [bits, IntKind.wrap_u64]
  have HO := fun w => ones_is 0 (by omega) w
  have HP : Hid (pc 0 = 0) := by show pc 0 = 0; decide
  rw [HP.out] at HO
  have HO2 : Hid (∀ w, Calls Tryd.prog 25 #[.int .u64 0] w fun e w' => e = .returned (.int .i64 0) ∧ w = w') := HO
  clear HO
  go_enter Tryd.func10, Tryd.ntmps10
  go_wp2
  go_loop [5, 22] (fun s i => ∃ k : Nat, k ≤ L ∧ i = .int .i64 k ∧ s = .int .i64 0) (fun _ i => L - (intOf i).toNat)
  case atStart => exact ⟨0, by omega, rfl, rfl⟩
  case round =>
    obtain ⟨k, hk, rfl, rfl⟩ := hrel
    by_cases hkl : k < L
    · obtain ⟨ck, _⟩ := HC.out k hkl
      have hx := (HM.out k (by rw [HL.out]; exact hkl)).1
      generalize wn ws k = x at *
      have hkl2 : (k : Int) < (L : Int) := by omega
      have g1 : (0 : Int) - (k : Int) * 64 ≤ 0 := by omega
      go_wp2_with (first | (go_at_call 26; refine Calls.mono (mask_at _ 0 0 (by omega) (by omega) rfl w) ?_; rintro _ _ ⟨rfl, rfl⟩) | (go_at_call 25; refine Calls.mono (HO2.out w) ?_; rintro _ _ ⟨rfl, rfl⟩))
      go_round
      case rel => exact ⟨k + 1, by omega, by go_num, rfl⟩
      case measure => simp [intOf]; omega
    · obtain rfl : k = L := by omega
      go_wp2
      go_ret
      exact ⟨rfl, rfl⟩
theorem rank_none (w : World) (sb g : Nat) (m : Nat → Bool) (n : Int) (h : ST w sb g 0 m) (hn : 0 < n) :
    Calls Tryd.prog 10 #[.pointer (some ⟨sb, 0, none⟩), .int .i64 n] w fun e w' => e = .returned (.int .i64 0) ∧ w = w' := by
  have H : Hid (ST w sb g 0 m) := h
  obtain ⟨cap, ws, c1, hcap, hcs, hl, hm⟩ := h.cells
  have c0 := h.c0
  obtain ⟨sl, gl⟩ := h.lt
  clear h
  obtain ⟨L, hL⟩ : ∃ L, 0 / 64 + 1 = L := ⟨_, rfl⟩
  rw [hL] at c1 hcap hcs hl
  have hL65 : L ≤ 65 := by omega
  have HC : Hid (∀ i, i < L → w.cell? ⟨g, i, none⟩ = some (.int .u64 (wn ws i : Nat)) ∧ w.frozen? ⟨g, i, none⟩ = false) := hcs
  have HM : Hid (WM ws m) := hm
  have HL : Hid (ws.length = L) := hl
  clear hcs hm hl hL
  have HZ : ∀ x : Int, bits .and .u64 x 0 = 0 := fun x => by simp [bits, IntKind.wrap_u64]
  have HO := fun w => ones_is 0 (by omega) w
  have HP : Hid (pc 0 = 0) := by show pc 0 = 0; decide
  rw [HP.out] at HO
  have HO2 : Hid (∀ w, Calls Tryd.prog 25 #[.int .u64 0] w fun e w' => e = .returned (.int .i64 0) ∧ w = w') := HO
  clear HO
  go_enter Tryd.func10, Tryd.ntmps10
  go_wp2
  go_loop [5, 22] (fun s i => ∃ k : Nat, k ≤ L ∧ i = .int .i64 k ∧ s = .int .i64 0) (fun _ i => L - (intOf i).toNat)
  case atStart => exact ⟨0, by omega, rfl, rfl⟩
  case round =>
    obtain ⟨k, hk, rfl, rfl⟩ := hrel
    by_cases hkl : k < L
    · obtain ⟨ck, _⟩ := HC.out k hkl
      have hx := (HM.out k (by rw [HL.out]; exact hkl)).1
      generalize wn ws k = x at *
      have hkl2 : (k : Int) < (L : Int) := by omega
      have g1 : (0 : Int) - (k : Int) * 64 ≤ 0 := by omega
      go_wp2_with (first | (go_at_call 26; refine Calls.mono (mask_at _ 0 0 (by omega) (by omega) rfl w) ?_; rintro _ _ ⟨rfl, rfl⟩) | (go_at_call 25; refine Calls.mono (HO2.out w) ?_; rintro _ _ ⟨rfl, rfl⟩))
      go_round
      case rel => exact ⟨k + 1, by omega, by go_num, rfl⟩
      case measure => simp [intOf]; omega
    · obtain rfl : k = L := by omega
      go_wp2
      go_ret
      exact ⟨rfl, rfl⟩
/-- How many are below n. -/
def below (m : Nat → Bool) (N : Nat) (n : Int) : Nat := cnt m (max 0 (min n (N : Int))).toNat
theorem rank_any (w : World) (sb g N : Nat) (m : Nat → Bool) (n : Int) (h : ST w sb g N m) (hN : N ≤ 4096) :
    Calls Tryd.prog 10 #[.pointer (some ⟨sb, 0, none⟩), .int .i64 n] w fun e w' => e = .returned (.int .i64 (below m N n)) ∧ w = w' := by
  unfold below
  by_cases h0 : n ≤ 0
  · have e : (max 0 (min n (N : Int))).toNat = 0 := by omega
    rw [e]
    exact rank_zero w sb g N m n h hN h0
  · by_cases h1 : n ≤ N
    · obtain ⟨c, rfl⟩ : ∃ c : Nat, n = c := ⟨n.toNat, by omega⟩
      have e : (max 0 (min (c : Int) (N : Int))).toNat = c := by omega
      rw [e]
      exact rank_in w sb g N m c h hN (by omega) (by omega)
    · have e : (max 0 (min n (N : Int))).toNat = N := by omega
      rw [e]
      by_cases hz : N = 0
      · subst hz
        have e2 : cnt m 0 = 0 := rfl
        rw [e2]
        exact rank_none w sb g m n h (by omega)
      · exact rank_all w sb g N m n h hN (by omega) (by omega)
theorem len_any (w : World) (sb g N : Nat) (m : Nat → Bool) (h : ST w sb g N m) (hN : N ≤ 4096) :
    Calls Tryd.prog 15 #[.pointer (some ⟨sb, 0, none⟩)] w fun e w' => e = .returned (.int .i64 (cnt m N)) ∧ w = w' := by
  have c0 := h.c0
  have sl := h.lt.1
  have HR : Hid (Calls Tryd.prog 10 #[.pointer (some ⟨sb, 0, none⟩), .int .i64 (N : Int)] w fun e w' => e = .returned (.int .i64 (cnt m N)) ∧ w = w') := by
    have := rank_any w sb g N m N h hN
    have e : below m N N = cnt m N := by unfold below; congr 1; omega
    rw [e] at this
    exact this
  clear h
  go_enter Tryd.func15, Tryd.ntmps15
  go_wp2_with (go_at_call 10; refine Calls.mono HR.out ?_; rintro _ _ ⟨rfl, rfl⟩)
  go_ret
  exact ⟨rfl, rfl⟩
end Go.Proofs.YtoaefmnjndklkaaDoor
