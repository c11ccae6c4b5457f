/- What both sets answer, in the same words. -/
import Derived.Test.YtoaefmnjndklkaaDoorPL47
namespace Go.Proofs.YtoaefmnjndklkaaDoor
open Go.ChangeShapes Go.WideShapes Go.RowKit Go.Deep

theorem hidIt {p : Prop} (h : p) : Hid p := h
theorem len_any2 (w : World) (sb g N : Nat) (m : Nat → Bool) (h : ST w sb g N m) (hN : N ≤ 4096) :
    Calls Tryd.prog 15 #[.pointer (some ⟨sb, 0, none⟩)] w fun e w' => e = .returned (.int .i64 ((nums m N).length : Int)) ∧ w = w' := by
  have e : (nums m N).length = cnt m N := by unfold nums; rw [ints_len, lst_len]
  rw [e]
  exact len_any w sb g N m h hN
theorem list_any2 (w : World) (sb g N : Nat) (m : Nat → Bool) (h : ST w sb g N m) (hN : N ≤ 4096) (hT : TabAt 0 Lib.deBruijn64tab w) :
    Calls Tryd.prog 20 #[.pointer (some ⟨sb, 0, none⟩)] w fun e w' => ∃ v, e = .returned v ∧ IR w' w.heap.size v (nums m N) ∧ Gn w w' := list_any w sb g N m h hN hT
theorem rnext2 (w : World) (xb : Nat) (P : Nat → Prop) (N : Nat) (m : Nat → Bool) (n : Int) (h : RS w xb P N (nums m N)) (hN : N ≤ 4096) :
    Calls Tryd.prog 21 #[.pointer (some ⟨xb, 0, none⟩), .int .i64 n] w fun e w' => e = .returned (.int .i64 (nx m N n.toNat)) ∧ w = w' := by
  rw [← find_nums]
  exact rnext_any w xb P N _ n h (by have := nums_len m N; omega)
theorem rrank2 (w : World) (xb : Nat) (P : Nat → Prop) (N : Nat) (m : Nat → Bool) (n : Int) (h : RS w xb P N (nums m N)) (hN : N ≤ 4096) :
    Calls Tryd.prog 22 #[.pointer (some ⟨xb, 0, none⟩), .int .i64 n] w fun e w' => e = .returned (.int .i64 (below m N n)) ∧ w = w' := by
  rw [← less_nums]
  exact rrank_any w xb P N _ n h (by have := nums_len m N; omega)
theorem rnth2 (w : World) (xb : Nat) (P : Nat → Prop) (N : Nat) (m : Nat → Bool) (n : Int) (h : RS w xb P N (nums m N)) (hN : N ≤ 4096) :
    Calls Tryd.prog 23 #[.pointer (some ⟨xb, 0, none⟩), .int .i64 n] w fun e w' => e = .returned (.int .i64 (atI (nums m N) n)) ∧ w = w' :=
  rnth_any w xb P N _ n h (by have := nums_len m N; omega)
theorem nth2 (w : World) (sb g N : Nat) (m : Nat → Bool) (n : Int) (h : ST w sb g N m) (hN : N ≤ 4096) (hT : TabAt 0 Lib.deBruijn64tab w) (hn : n ≤ 9223372036854775807) :
    Calls Tryd.prog 9 #[.pointer (some ⟨sb, 0, none⟩), .int .i64 n] w fun e w' => e = .returned (.int .i64 (atI (nums m N) n)) ∧ w = w' := by
  rw [at_nums]
  by_cases h0 : n < 0
  · rw [if_pos h0]
    exact nth_neg w sb n h0
  · rw [if_neg h0]
    obtain ⟨K, rfl⟩ : ∃ K : Nat, n = K := ⟨n.toNat, by omega⟩
    exact nth_at w sb g N m K h hN hT (by omega)
theorem nxu_ge {m : Nat → Bool} : ∀ {f n : Nat}, nxu m f n = -1 ∨ (n : Int) ≤ nxu m f n
  | 0, _ => .inl rfl
  | f + 1, n => by
    unfold nxu
    by_cases h : m n = true
    · rw [if_pos h]; exact .inr (Int.le_refl _)
    · rw [if_neg h]
      rcases nxu_ge (m := m) (f := f) (n := n + 1) with h1 | h1
      · exact .inl h1
      · exact .inr (by omega)
theorem hasB_pos {m : Nat → Bool} {N : Nat} {n : Int} (hb : ∀ j, m j = true → j < N) (h : 0 ≤ n) : hasB m n = decide (nx m N n.toNat = n) := by
  obtain ⟨k, rfl⟩ : ∃ k : Nat, n = k := ⟨n.toNat, by omega⟩
  unfold hasB nx
  simp only [Int.toNat_natCast]
  rw [decide_eq_true h, Bool.true_and]
  by_cases hm : m k = true
  · have hk := hb k hm
    obtain ⟨f, hf⟩ : ∃ f, N - k = f + 1 := ⟨N - k - 1, by omega⟩
    have e : nxu m (N - k) k = k := by rw [hf]; unfold nxu; rw [if_pos hm]
    rw [hm]
    exact (decide_eq_true e).symm
  · have hmf : m k = false := by simpa using hm
    rw [hmf]
    symm
    rw [decide_eq_false_iff_not]
    intro he
    cases hf : N - k with
    | zero => rw [hf] at he; unfold nxu at he; omega
    | succ f =>
      rw [hf] at he
      unfold nxu at he
      rw [if_neg hm] at he
      rcases nxu_ge (m := m) (f := f) (n := k + 1) with h1 | h1 <;> omega
theorem hasB_neg {m : Nat → Bool} {n : Int} (h : n < 0) : hasB m n = false := by
  unfold hasB
  rw [decide_eq_false (by omega), Bool.false_and]
theorem has_pos (w : World) (sb g N : Nat) (m : Nat → Bool) (n : Int) (h : ST w sb g N m) (hN : N ≤ 4096) (hb : ∀ j, m j = true → j < N) (hn : 0 ≤ n) :
    Calls Tryd.prog 8 #[.pointer (some ⟨sb, 0, none⟩), .int .i64 n] w fun e w' => e = .returned (.bool (decide (nx m N n.toNat = n))) ∧ w = w' := by
  rw [← hasB_pos hb hn]
  exact has_any w sb g N m n h hN
theorem has_neg (w : World) (sb g N : Nat) (m : Nat → Bool) (n : Int) (h : ST w sb g N m) (hN : N ≤ 4096) (hn : n < 0) :
    Calls Tryd.prog 8 #[.pointer (some ⟨sb, 0, none⟩), .int .i64 n] w fun e w' => e = .returned (.bool false) ∧ w = w' := by
  have := has_any w sb g N m n h hN
  rw [hasB_neg hn] at this
  exact this
/-- The union with a set of half the size: there is one only where half the size is the size. -/
theorem union_half (w : World) (sa ga sb gb N : Nat) (m n : Nat → Bool) (h : ST w sa ga N m) (h' : ST w sb gb (N / 2) n) (hN : N ≤ 4096) :
    Calls Tryd.prog 12 #[.pointer (some ⟨sa, 0, none⟩), .pointer (some ⟨sb, 0, none⟩)] w fun e w' => ∃ r, e = .returned (.pointer r) ∧ (N = 0 ∧ (∃ sc, r = some ⟨sc, 0, none⟩) ∨ 0 < N ∧ r = none) ∧ Gn w w' := by
  rcases Nat.eq_zero_or_pos N with rfl | hp
  · refine Calls.mono (union_ok w sa ga sb gb 0 m n h h' hN) ?_
    rintro _ w' ⟨sc, rfl, _, h2, _⟩
    exact ⟨_, rfl, .inl ⟨rfl, sc, rfl⟩, h2⟩
  · refine Calls.mono (union_ne w sa ga sb gb N (N / 2) m n h h' (by omega)) ?_
    rintro _ w' ⟨rfl, h2⟩
    exact ⟨_, rfl, .inr ⟨hp, rfl⟩, h2⟩
end Go.Proofs.YtoaefmnjndklkaaDoor
