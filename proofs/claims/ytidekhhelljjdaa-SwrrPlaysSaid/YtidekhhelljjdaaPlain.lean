/- The law of the turns, in plain numbers. -/
import Derived.Test.YtidekhhelljjdaaPick
import Derived.Test.YtidekhhelljjdaaRight
namespace Go.Proofs.Ytidekhhelljjdaa

/-- The numbers behind k turns, and how often each was picked. -/
def N (l : List B) : Nat → Nat → Int
  | 0 => fun _ => 0
  | k + 1 => nx l (N l k)
def C (l : List B) : Nat → Nat → Int
  | 0 => fun _ => 0
  | k + 1 => fun j => C l k j + if j = best l (N l k) then 1 else 0
def wt (l : List B) (j : Nat) : Int := (el l j).wt

def sm (f : Nat → Int) : Nat → Int
  | 0 => 0
  | n + 1 => sm f n + f n
theorem sm_congr {f g : Nat → Int} {n : Nat} (h : ∀ j, j < n → f j = g j) : sm f n = sm g n := by
  induction n with
  | zero => rfl
  | succ n ih => rw [sm, sm, ih (fun j hj => h j (by omega)), h n (by omega)]
theorem sm_add (f g : Nat → Int) (n : Nat) : sm (fun j => f j + g j) n = sm f n + sm g n := by
  induction n with
  | zero => rfl
  | succ n ih => rw [sm, sm, sm, ih]; omega
theorem sm_one (m : Nat) (x : Int) (n : Nat) : sm (fun j => if j = m then x else 0) n = if m < n then x else 0 := by
  induction n with
  | zero => simp [sm]
  | succ n ih =>
    rw [sm, ih]
    by_cases h : n = m
    · subst h
      rw [if_neg (by omega), if_pos rfl, if_pos (by omega)]
      omega
    · rw [if_neg h]
      by_cases h2 : m < n
      · rw [if_pos h2, if_pos (by omega)]; omega
      · rw [if_neg h2, if_neg (by omega)]; omega
theorem sm_nonpos {f : Nat → Int} {n : Nat} (h : ∀ j, j < n → f j ≤ 0) : sm f n ≤ 0 := by
  induction n with
  | zero => exact Int.le_refl 0
  | succ n ih =>
    have := ih (fun j hj => h j (by omega))
    have := h n (by omega)
    rw [sm]; omega
theorem sm_low {f : Nat → Int} {n : Nat} {A : Int} (hA : 0 ≤ A) (h : ∀ j, j < n → -A ≤ f j) : -((n : Int) * A) ≤ sm f n ∧ ∀ j, j < n → f j - (n : Int) * A ≤ sm f n := by
  induction n with
  | zero => exact ⟨by simp [sm], fun j hj => absurd hj (by omega)⟩
  | succ n ih =>
    obtain ⟨h1, h2⟩ := ih (fun j hj => h j (by omega))
    have h3 := h n (by omega)
    have e : ((n + 1 : Nat) : Int) * A = (n : Int) * A + A := by rw [Int.natCast_add, Int.add_mul]; simp
    rw [sm, e]
    refine ⟨by omega, fun j hj => ?_⟩
    rcases Nat.lt_succ_iff_lt_or_eq.1 hj with h4 | rfl
    · have := h2 j h4; omega
    · omega
theorem sm_le_eq {f g : Nat → Int} {n : Nat} (h : ∀ j, j < n → f j ≤ g j) : sm f n ≤ sm g n ∧ (sm f n = sm g n → ∀ j, j < n → f j = g j) := by
  induction n with
  | zero => exact ⟨Int.le_refl _, fun _ j hj => absurd hj (by omega)⟩
  | succ n ih =>
    obtain ⟨h1, h2⟩ := ih (fun j hj => h j (by omega))
    have h3 := h n (by omega)
    rw [sm, sm]
    refine ⟨by omega, fun e j hj => ?_⟩
    rcases Nat.lt_succ_iff_lt_or_eq.1 hj with h4 | rfl
    · exact h2 (by omega) j h4
    · omega
theorem sum_take' {l : List B} {k : Nat} (h : k < l.length) : sumW (l.take (k + 1)) = sumW (l.take k) + (el l k).wt := by
  rw [take_el h, sumW_append]; simp [sumW]
theorem sm_wt (l : List B) : ∀ n, n ≤ l.length → sm (wt l) n = sumW (l.take n)
  | 0, _ => by simp [sm, sumW]
  | n + 1, h => by rw [sm, sm_wt l n (by omega), sum_take' (by omega)]; rfl
theorem sm_W (l : List B) : sm (wt l) l.length = sumW l := by rw [sm_wt l _ (Nat.le_refl _), List.take_length]

theorem nx_eq (l : List B) (ns : Nat → Int) (j : Nat) : nx l ns j = (ns j + wt l j) + if j = best l ns then -sumW l else 0 := by
  unfold nx plus wt
  split <;> omega
theorem best_lt {l : List B} (h : 0 < l.length) (ns : Nat → Int) : best l ns < l.length := bst_lt _ h
theorem N_eq (l : List B) (k j : Nat) : N l k j = (k : Int) * wt l j - C l k j * sumW l := by
  induction k with
  | zero => simp [N, C]
  | succ k ih =>
    show nx l (N l k) j = _
    rw [nx_eq, ih]
    show _ = ((k + 1 : Nat) : Int) * wt l j - (C l k j + if j = best l (N l k) then 1 else 0) * sumW l
    rw [Int.natCast_add, Int.add_mul, Int.add_mul]
    split <;> simp <;> omega
theorem sm_N {l : List B} (h : 0 < l.length) (k : Nat) : sm (N l k) l.length = 0 := by
  induction k with
  | zero =>
    show sm (fun _ => 0) _ = 0
    have := sm_one l.length 0 l.length
    simpa using this
  | succ k ih =>
    have e : sm (N l (k + 1)) l.length = sm (fun j => (N l k j + wt l j) + if j = best l (N l k) then -sumW l else 0) l.length := sm_congr (fun j _ => nx_eq l (N l k) j)
    rw [e, sm_add, sm_add, ih, sm_W, sm_one, if_pos (best_lt h _)]
    omega
theorem N_low {l : List B} (h : 0 < l.length) (hw : ∀ j, j < l.length → 1 ≤ wt l j) (hW : 0 < sumW l) (k : Nat) : ∀ j, j < l.length → -sumW l < N l k j := by
  induction k with
  | zero => intro j _; show -sumW l < 0; omega
  | succ k ih =>
    intro j hj
    show _ < nx l (N l k) j
    rw [nx_eq]
    have h1 := ih j hj
    have h2 := hw j hj
    split
    · rename_i hb
      have hpos : 0 < N l k j + wt l j := by
        rcases Int.lt_or_le 0 (N l k j + wt l j) with h3 | h3
        · exact h3
        · exfalso
          have hall : ∀ i, i < l.length → (fun j => N l k j + wt l j) i ≤ 0 := fun i hi => by
            have := bst_ge (plus l (N l k)) l.length i hi
            have e : bst (plus l (N l k)) l.length = j := hb.symm
            rw [e] at this
            show N l k i + wt l i ≤ 0
            have e1 : plus l (N l k) i = N l k i + wt l i := rfl
            have e2 : plus l (N l k) j = N l k j + wt l j := rfl
            omega
          have := sm_nonpos hall
          rw [sm_add, sm_N h, sm_W] at this
          omega
      omega
    · omega
theorem N_bd {l : List B} (ht : Tame l) (h : 0 < l.length) (hw : ∀ j, j < l.length → 1 ≤ wt l j) (hW : 0 < sumW l) (k : Nat) : ∀ j, j < l.length → -64000 ≤ N l k j ∧ N l k j ≤ 4096000 := by
  intro j hj
  have hs := ht.sum l.length (Nat.le_refl _)
  rw [List.take_length] at hs
  have hl := ht.1
  have h1 := N_low h hw hW k
  have h2 := (sm_low (by omega) (fun i hi => by have := h1 i hi; omega) : _ ∧ ∀ j, j < l.length → N l k j - (l.length : Int) * sumW l ≤ sm (N l k) l.length).2 j hj
  rw [sm_N h] at h2
  have h3 : (l.length : Int) * sumW l ≤ 64 * sumW l := Int.mul_le_mul_of_nonneg_right (by omega) (by omega)
  have h4 := h1 j hj
  omega
theorem sm_C {l : List B} (h : 0 < l.length) (k : Nat) : sm (C l k) l.length = k := by
  induction k with
  | zero =>
    show sm (fun _ => 0) _ = 0
    have := sm_one l.length 0 l.length
    simpa using this
  | succ k ih =>
    show sm (fun j => C l k j + if j = best l (N l k) then 1 else 0) l.length = _
    rw [sm_add, ih, sm_one, if_pos (best_lt h _)]
    omega
/-- Behind as many turns as the weight of all. -/
theorem C_all {l : List B} (h : 0 < l.length) (hw : ∀ j, j < l.length → 1 ≤ wt l j) {W : Nat} (hW : (W : Int) = sumW l) (h0 : 0 < W) : ∀ j, j < l.length → C l W j = wt l j := by
  refine (sm_le_eq (fun j hj => ?_)).2 (by rw [sm_C h, sm_W, hW])
  have h1 := N_low h hw (by omega) W j hj
  rw [N_eq, hW] at h1
  rcases Int.lt_or_le (wt l j) (C l W j) with h2 | h2
  · exfalso
    have h3 : (wt l j + 1) * sumW l ≤ C l W j * sumW l := Int.mul_le_mul_of_nonneg_right (by omega) (by omega)
    rw [Int.add_mul, Int.mul_comm (wt l j)] at h3
    omega
  · exact h2
theorem N_all {l : List B} (h : 0 < l.length) (hw : ∀ j, j < l.length → 1 ≤ wt l j) {W : Nat} (hW : (W : Int) = sumW l) (h0 : 0 < W) : ∀ j, j < l.length → N l W j = 0 := by
  intro j hj
  rw [N_eq, C_all h hw hW h0 j hj, hW, Int.mul_comm]
  omega
theorem C_nonneg (l : List B) (k j : Nat) : 0 ≤ C l k j ∧ C l k j ≤ k := by
  induction k with
  | zero => simp [C]
  | succ k ih =>
    simp only [C]
    split <;> omega
end Go.Proofs.Ytidekhhelljjdaa
