/- Plain: the numbers of a set in order; the next one; places; words against numbers. -/
import Derived.Test.YtoaefmnjndklkaaDoorP47
import Derived.Lib.TrailingZeros
namespace Go.Proofs.YtoaefmnjndklkaaDoor

/-- Those of the f numbers from n on that m has, rising. -/
def lu (m : Nat → Bool) : Nat → Nat → List Nat
  | 0, _ => []
  | f + 1, n => if m n then n :: lu m f (n + 1) else lu m f (n + 1)
/-- The first of them, or -1. -/
def nxu (m : Nat → Bool) : Nat → Nat → Int
  | 0, _ => -1
  | f + 1, n => if m n then n else nxu m f (n + 1)
def lst (m : Nat → Bool) (N : Nat) : List Nat := lu m N 0
def nx (m : Nat → Bool) (N n : Nat) : Int := nxu m (N - n) n
theorem lu_succ (m : Nat → Bool) (f n : Nat) : lu m (f + 1) n = if m n then n :: lu m f (n + 1) else lu m f (n + 1) := rfl
theorem lu_mem {m : Nat → Bool} : ∀ {f n j : Nat}, j ∈ lu m f n ↔ n ≤ j ∧ j < n + f ∧ m j = true
  | 0, n, j => by simp [lu]; omega
  | f + 1, n, j => by
    unfold lu
    by_cases h : m n = true
    · rw [if_pos h, List.mem_cons, lu_mem]
      constructor
      · rintro (rfl | h2)
        · exact ⟨by omega, by omega, h⟩
        · exact ⟨by omega, by omega, h2.2.2⟩
      · rintro ⟨h1, h2, h3⟩
        by_cases e : j = n
        · exact .inl e
        · exact .inr ⟨by omega, by omega, h3⟩
    · rw [if_neg h, lu_mem]
      constructor
      · rintro ⟨h1, h2, h3⟩
        exact ⟨by omega, by omega, h3⟩
      · rintro ⟨h1, h2, h3⟩
        refine ⟨?_, by omega, h3⟩
        rcases Nat.lt_or_ge n j with h4 | h4
        · omega
        · have : j = n := by omega
          subst this
          exact absurd h3 h
theorem lu_sorted {m : Nat → Bool} : ∀ {f n : Nat}, (lu m f n).Pairwise (· < ·)
  | 0, n => by simp [lu]
  | f + 1, n => by
    unfold lu
    by_cases h : m n = true
    · rw [if_pos h, List.pairwise_cons]
      exact ⟨fun j hj => by have := (lu_mem.1 hj).1; omega, lu_sorted⟩
    · rw [if_neg h]; exact lu_sorted
theorem lu_add {m : Nat → Bool} : ∀ {a b n : Nat}, lu m (a + b) n = lu m a n ++ lu m b (n + a)
  | 0, b, n => by simp [lu]
  | a + 1, b, n => by
    have e : a + 1 + b = (a + b) + 1 := by omega
    have e2 : n + (a + 1) = n + 1 + a := by omega
    rw [e, e2, lu_succ, lu_succ]
    by_cases h : m n = true
    · rw [if_pos h, if_pos h, lu_add, List.cons_append]
    · rw [if_neg h, if_neg h, lu_add]
theorem lu_congr {m m' : Nat → Bool} : ∀ {f n : Nat}, (∀ j, n ≤ j → j < n + f → m j = m' j) → lu m f n = lu m' f n
  | 0, n, _ => rfl
  | f + 1, n, h => by
    unfold lu
    rw [h n (by omega) (by omega), lu_congr (fun j h1 h2 => h j (by omega) (by omega))]
theorem lu_len {m : Nat → Bool} : ∀ {f n : Nat}, (lu m f n).length = cnt (fun j => m (n + j)) f
  | 0, n => rfl
  | f + 1, n => by
    have e : f + 1 = 1 + f := by omega
    have e2 : cnt (fun j => m (n + j)) (1 + f) = (if m n then 1 else 0) + cnt (fun j => m (n + 1 + j)) f := by
      rw [cnt_add]
      have : cnt (fun j => m (n + j)) 1 = if m n then 1 else 0 := by simp [cnt]
      rw [this]
      congr 1
      exact cnt_congr (fun j _ => by rw [Nat.add_assoc])
    rw [e, e2, Nat.add_comm 1 f]
    unfold lu
    by_cases h : m n = true
    · rw [if_pos h, if_pos h, List.length_cons, lu_len, Nat.add_comm]
    · rw [if_neg h, if_neg h, lu_len, Nat.zero_add]
theorem lst_len (m : Nat → Bool) (N : Nat) : (lst m N).length = cnt m N := by
  unfold lst
  rw [lu_len]
  exact cnt_congr (fun j _ => by rw [Nat.zero_add])
theorem lst_mem {m : Nat → Bool} {N j : Nat} : j ∈ lst m N ↔ j < N ∧ m j = true := by
  unfold lst
  rw [lu_mem]
  constructor
  · rintro ⟨_, h1, h2⟩; exact ⟨by omega, h2⟩
  · rintro ⟨h1, h2⟩; exact ⟨by omega, by omega, h2⟩
theorem lst_sorted (m : Nat → Bool) (N : Nat) : (lst m N).Pairwise (· < ·) := lu_sorted
/-- An int's list, one of its places: -1 where there is none. -/
def ati (l : List Nat) (k : Nat) : Int := match l[k]? with
  | some j => j
  | none => -1
theorem nxu_head {m : Nat → Bool} : ∀ {f n : Nat}, nxu m f n = ati (lu m f n) 0
  | 0, n => rfl
  | f + 1, n => by
    unfold nxu lu
    by_cases h : m n = true
    · rw [if_pos h, if_pos h]; rfl
    · rw [if_neg h, if_neg h]; exact nxu_head
theorem nxu_found {m : Nat → Bool} {j : Nat} (hj : m j = true) : ∀ {f n : Nat}, n ≤ j → j < n + f → (∀ i, n ≤ i → i < j → m i = false) → nxu m f n = j
  | 0, n, h1, h2, _ => by omega
  | f + 1, n, h1, h2, h => by
    unfold nxu
    by_cases e : n = j
    · subst e; rw [if_pos hj]
    · rw [if_neg (by rw [h n (by omega) (by omega)]; simp)]
      exact nxu_found hj (by omega) (by omega) (fun i h3 h4 => h i (by omega) h4)
theorem nxu_none {m : Nat → Bool} : ∀ {f n : Nat}, (∀ i, n ≤ i → i < n + f → m i = false) → nxu m f n = -1
  | 0, n, _ => rfl
  | f + 1, n, h => by
    unfold nxu
    rw [if_neg (by rw [h n (by omega) (by omega)]; simp)]
    exact nxu_none (fun i h1 h2 => h i (by omega) (by omega))
theorem nx_found {m : Nat → Bool} {N n j : Nat} (hj : m j = true) (hN : j < N) (h1 : n ≤ j) (h : ∀ i, n ≤ i → i < j → m i = false) : nx m N n = j :=
  nxu_found hj h1 (by omega) h
theorem nx_none {m : Nat → Bool} {N n : Nat} (h : ∀ i, n ≤ i → i < N → m i = false) : nx m N n = -1 :=
  nxu_none (fun i h1 h2 => h i h1 (by omega))
/-- The first of a rising list that is not below n. -/
def findN (l : List Nat) (n : Int) : Int := match l.find? (fun (j : Nat) => decide (n ≤ (j : Int))) with
  | some j => j
  | none => -1
theorem find_lu {m : Nat → Bool} {N n : Nat} : (lst m N).find? (fun (j : Nat) => decide ((n : Int) ≤ (j : Int))) = (lu m (N - n) n)[0]? := by
  by_cases hn : n ≤ N
  · have e : lst m N = lu m n 0 ++ lu m (N - n) n := by
      unfold lst
      have : N = n + (N - n) := by omega
      rw [this, lu_add, Nat.zero_add]
      congr 2
      omega
    rw [e, List.find?_append]
    have h1 : (lu m n 0).find? (fun (j : Nat) => decide ((n : Int) ≤ (j : Int))) = none := by
      rw [List.find?_eq_none]
      intro j hj
      have := (lu_mem.1 hj).2.1
      simp only [decide_eq_true_eq]
      omega
    rw [h1, Option.none_or]
    cases hl : lu m (N - n) n with
    | nil => rfl
    | cons a l =>
      have ha : a ∈ lu m (N - n) n := by rw [hl]; simp
      have := (lu_mem.1 ha).1
      rw [List.find?_cons_of_pos (by simp only [decide_eq_true_eq]; omega)]
      rfl
  · have e : N - n = 0 := by omega
    rw [e]
    show _ = none
    rw [List.find?_eq_none]
    intro j hj
    have := (lst_mem.1 hj).1
    simp only [decide_eq_true_eq]
    omega
theorem nx_find {m : Nat → Bool} {N n : Nat} : nx m N n = findN (lst m N) n := by
  unfold nx findN
  rw [nxu_head, find_lu]
  rfl
theorem findN_neg (l : List Nat) {n : Int} (h : n ≤ 0) : findN l n = findN l 0 := by
  unfold findN
  have e : (fun (j : Nat) => decide (n ≤ (j : Int))) = fun (j : Nat) => decide ((0 : Int) ≤ (j : Int)) := by
    funext j
    have h1 : n ≤ (j : Int) := by omega
    have h2 : (0 : Int) ≤ (j : Int) := by omega
    rw [decide_eq_true h1, decide_eq_true h2]
  rw [e]
/-- The number at a place of a rising list, and the next one. -/
theorem find_next : ∀ {l : List Nat} {t a : Nat}, l.Pairwise (· < ·) → l[t]? = some a → l.find? (fun (j : Nat) => decide ((((a + 1 : Nat) : Int)) ≤ (j : Int))) = l[t + 1]?
  | [], t, a, _, h => by simp at h
  | b :: l, 0, a, hs, h => by
    simp at h
    subst h
    have hs := List.pairwise_cons.1 hs
    rw [List.find?_cons_of_neg (by simp only [decide_eq_true_eq]; omega)]
    cases l with
    | nil => rfl
    | cons c l =>
      have := hs.1 c (by simp)
      rw [List.find?_cons_of_pos (by simp only [decide_eq_true_eq]; omega)]
      rfl
  | b :: l, t + 1, a, hs, h => by
    have hs := List.pairwise_cons.1 hs
    have ha : a ∈ l := List.mem_of_getElem? h
    have := hs.1 a ha
    rw [List.find?_cons_of_neg (by simp only [decide_eq_true_eq]; omega)]
    exact find_next hs.2 h
theorem ati_next {m : Nat → Bool} {N t a : Nat} (h : (lst m N)[t]? = some a) : nx m N (a + 1) = ati (lst m N) (t + 1) := by
  rw [nx_find]
  unfold findN ati
  rw [find_next (lst_sorted m N) h]
theorem ati_first (m : Nat → Bool) (N : Nat) : nx m N 0 = ati (lst m N) 0 := nxu_head
theorem ati_none {l : List Nat} {k : Nat} (h : l.length ≤ k) : ati l k = -1 := by
  unfold ati
  rw [List.getElem?_eq_none h]
theorem ati_some {l : List Nat} {k : Nat} (h : k < l.length) : ∃ a, l[k]? = some a ∧ ati l k = a := ⟨l[k], List.getElem?_eq_getElem h, by unfold ati; rw [List.getElem?_eq_getElem h]⟩

/-! ### words -/
def wn (ws : List Nat) (i : Nat) : Nat := (ws[i]?).getD 0
/-- The words say which numbers m has. -/
def WM (ws : List Nat) (m : Nat → Bool) : Prop := ∀ i, i < ws.length → wn ws i < 18446744073709551616 ∧ ∀ j, j < 64 → (wn ws i).testBit j = m (64 * i + j)
theorem cnt_word {ws : List Nat} {m : Nat → Bool} (h : WM ws m) {i k : Nat} (hi : i < ws.length) (hk : k ≤ 64) : pc (wn ws i &&& (2 ^ k - 1)) = cnt (fun j => m (64 * i + j)) k := by
  have e : pc (wn ws i &&& (2 ^ k - 1)) = cnt (wn ws i &&& (2 ^ k - 1)).testBit (k + (64 - k)) := by
    have : k + (64 - k) = 64 := by omega
    rw [this]; rfl
  rw [e, cnt_add]
  have h1 : cnt (wn ws i &&& (2 ^ k - 1)).testBit k = cnt (fun j => m (64 * i + j)) k := cnt_congr (fun j hj => by
    rw [Nat.testBit_and, Nat.testBit_two_pow_sub_one, (h i hi).2 j (by omega)]
    simp [hj])
  have h2 : cnt (fun j => (wn ws i &&& (2 ^ k - 1)).testBit (k + j)) (64 - k) = 0 := by
    have : cnt (fun j => (wn ws i &&& (2 ^ k - 1)).testBit (k + j)) (64 - k) = cnt (fun _ => false) (64 - k) := cnt_congr (fun j hj => by
      rw [Nat.testBit_and, Nat.testBit_two_pow_sub_one]
      have : ¬ k + j < k := by omega
      simp [this])
    rw [this]
    clear this
    induction (64 - k) with
    | zero => rfl
    | succ n ih => simp [cnt, ih]
  rw [h1, h2, Nat.add_zero]
theorem ctz_spec {x : Nat} (h0 : x ≠ 0) (h : x < 18446744073709551616) : Lib.ctz 64 x < 64 ∧ x.testBit (Lib.ctz 64 x) = true ∧ ∀ i, i < Lib.ctz 64 x → x.testBit i = false := by
  have e : Lib.ctz 64 x = Lib.ctzFrom 64 x := by simp [Lib.ctz, h0]
  obtain ⟨m, hm, hk⟩ := Lib.ctzFrom_spec 64 x (by omega) h
  rw [e]
  generalize Lib.ctzFrom 64 x = k at *
  refine ⟨hk, ?_, fun i hi => ?_⟩
  · rw [hm, Nat.mul_comm, Nat.testBit_mul_two_pow]
    simp
  · rw [hm, Nat.mul_comm, Nat.testBit_mul_two_pow]
    have : ¬ k ≤ i := by omega
    simp [this]
theorem zero_bits {x : Nat} (h : x < 18446744073709551616) (hb : ∀ i, i < 64 → x.testBit i = false) : x = 0 := by
  apply Nat.eq_of_testBit_eq
  intro i
  rw [Nat.zero_testBit]
  by_cases hi : i < 64
  · exact hb i hi
  · exact Nat.testBit_lt_two_pow (Nat.lt_of_lt_of_le (show x < 2 ^ 64 from h) (Nat.pow_le_pow_right (by omega) (by omega)))
end Go.Proofs.YtoaefmnjndklkaaDoor
