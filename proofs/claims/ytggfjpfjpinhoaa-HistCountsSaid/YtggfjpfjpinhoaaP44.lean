/- Widths of numbers, counts of them, sorted lists: without a program. -/
import Derived.Lib.ItoaNum
namespace Go.Proofs.Ytggfjpfjpinhoaa

def wd (x : Int) : Nat := Lib.bitLen x.toNat
theorem wd_zero : wd 0 = 0 := by decide
theorem wd_bd {x : Int} (h0 : 0 < x) (h : x < 18446744073709551616) : 1 ≤ wd x ∧ 2 ^ (wd x - 1) ≤ x.toNat ∧ x.toNat < 2 ^ wd x :=
  Lib.bitLenAux_bounds 64 x.toNat (by show x.toNat < 18446744073709551616; omega) (by omega)
theorem wd_le {x : Int} {k : Nat} (h0 : 0 ≤ x) (h : x < 18446744073709551616) : wd x ≤ k ↔ x.toNat < 2 ^ k := by
  rcases Int.lt_or_eq_of_le h0 with h1 | h1
  · obtain ⟨a, b, c⟩ := wd_bd h1 h
    constructor
    · intro hk; exact Nat.lt_of_lt_of_le c (Nat.pow_le_pow_right (by omega) hk)
    · intro hk
      rcases Nat.lt_or_ge k (wd x) with h2 | h2
      · have : 2 ^ k ≤ 2 ^ (wd x - 1) := Nat.pow_le_pow_right (by omega) (by omega)
        omega
      · exact h2
  · subst h1
    rw [wd_zero]
    exact ⟨fun _ => Nat.two_pow_pos k, fun _ => Nat.zero_le _⟩
theorem wd_lt {x : Int} {k : Nat} (h0 : 0 ≤ x) (h : x < 18446744073709551616) (hk : 1 ≤ k) : wd x < k ↔ x.toNat < 2 ^ (k - 1) := by
  rw [← wd_le h0 h]; omega
theorem wd_63 {x : Int} (h0 : 0 ≤ x) (h : x ≤ 9223372036854775807) : wd x ≤ 63 := (wd_le h0 (by omega)).2 (by show x.toNat < 9223372036854775808; omega)
theorem wd_mono {x y : Int} (h0 : 0 ≤ x) (hxy : x ≤ y) (h : y < 18446744073709551616) : wd x ≤ wd y := by
  rw [wd_le h0 (by omega)]
  have := (wd_le (x := y) (k := wd y) (by omega) h).1 (Nat.le_refl _)
  omega

/-- The least and the greatest number of a row. -/
def hiK (k : Nat) : Int := ((2 ^ k - 1 : Nat) : Int)
def loK (k : Nat) : Int := hiK k - hiK k / 2
theorem loK_zero : loK 0 = 0 := by decide
theorem hiK_zero : hiK 0 = 0 := by decide
theorem loK_succ (k : Nat) : loK (k + 1) = ((2 ^ k : Nat) : Int) := by
  have := Nat.two_pow_pos k
  unfold loK hiK
  rw [Nat.pow_succ]
  omega
theorem hiK_pos (k : Nat) : 0 ≤ hiK k := by unfold hiK; omega
theorem in_row {x : Int} {k : Nat} (h0 : 0 ≤ x) (h : x < 18446744073709551616) : (x < loK k ↔ wd x < k) ∧ ((loK k ≤ x ∧ x ≤ hiK k) ↔ wd x = k) := by
  have h2 := Nat.two_pow_pos k
  have hle : x ≤ hiK k ↔ wd x ≤ k := by rw [wd_le h0 h]; unfold hiK; omega
  have hlt : x < loK k ↔ wd x < k := by
    match k with
    | 0 => rw [loK_zero]; omega
    | k + 1 =>
      rw [loK_succ, wd_lt h0 h (by omega)]
      show _ ↔ x.toNat < 2 ^ k
      omega
  refine ⟨hlt, ?_⟩
  have : loK k ≤ x ↔ ¬ x < loK k := by omega
  rw [this, hlt, hle]
  omega
theorem wd_lo {k : Nat} (h : k ≤ 63) : wd (loK k) = k := by
  match k with
  | 0 => decide
  | k + 1 =>
    have h1 : 2 ^ k ≤ 2 ^ 62 := Nat.pow_le_pow_right (by omega) (by omega)
    have h2 := Nat.two_pow_pos k
    have h3 : (2 : Nat) ^ 62 = 4611686018427387904 := by decide
    have hx : 0 ≤ loK (k + 1) ∧ loK (k + 1) < 18446744073709551616 := by rw [loK_succ]; omega
    refine (in_row (k := k + 1) hx.1 hx.2).2.1 ⟨Int.le_refl _, ?_⟩
    rw [loK_succ]; unfold hiK; rw [Nat.pow_succ]; omega
theorem lo_hi (k : Nat) : loK k ≤ hiK k := by have := hiK_pos k; unfold loK; omega
theorem hi_mono {a b : Nat} (h : a ≤ b) : hiK a ≤ hiK b := by
  have : 2 ^ a ≤ 2 ^ b := Nat.pow_le_pow_right (by omega) h
  unfold hiK; omega
theorem lo_mono {a b : Nat} (h : a ≤ b) : loK a ≤ loK b := by have := hi_mono h; unfold loK; omega

/-- How many numbers have a width; a lesser one. -/
def cW (xs : List Int) (k : Nat) : Nat := xs.countP fun x => wd x == k
def bW (xs : List Int) (k : Nat) : Nat := xs.countP fun x => decide (wd x < k)
theorem bW_zero (xs : List Int) : bW xs 0 = 0 := by simp [bW, List.countP_eq_zero]
theorem bW_succ (xs : List Int) (k : Nat) : bW xs (k + 1) = bW xs k + cW xs k := by
  induction xs with
  | nil => rfl
  | cons a t ih =>
    simp only [bW, cW, List.countP_cons] at ih ⊢
    rcases Nat.lt_trichotomy (wd a) k with h | h | h
    · simp [show wd a < k + 1 by omega, h, show ¬ wd a = k by omega]; omega
    · simp [h]; omega
    · simp [show ¬ wd a < k + 1 by omega, show ¬ wd a < k by omega, show ¬ wd a = k by omega]; omega
theorem bW_mono (xs : List Int) {a b : Nat} (h : a ≤ b) : bW xs a ≤ bW xs b := by
  induction b with
  | zero => have : a = 0 := by omega
            subst this; exact Nat.le_refl _
  | succ b ih =>
    rcases Nat.lt_or_ge b a with h1 | h1
    · have : a = b + 1 := by omega
      subst this; exact Nat.le_refl _
    · have := ih h1; rw [bW_succ]; omega
theorem bW_le (xs : List Int) (k : Nat) : bW xs k ≤ xs.length := List.countP_le_length
theorem cW_le (xs : List Int) (k : Nat) : cW xs k ≤ xs.length := List.countP_le_length
def Ok (xs : List Int) : Prop := ∀ x ∈ xs, 0 ≤ x ∧ x ≤ 9223372036854775807
theorem bW_64 {xs : List Int} (h : Ok xs) : bW xs 64 = xs.length := by
  unfold bW
  rw [List.countP_eq_length]
  intro x hx
  have := wd_63 (h x hx).1 (h x hx).2
  simp; omega
theorem cW_none {xs : List Int} (h : Ok xs) {k : Nat} (hk : 64 ≤ k) : cW xs k = 0 := by
  unfold cW
  rw [List.countP_eq_zero]
  intro x hx
  have := wd_63 (h x hx).1 (h x hx).2
  simp; omega
theorem cW_snoc (xs : List Int) (x : Int) (k : Nat) : cW (xs ++ [x]) k = cW xs k + if k = wd x then 1 else 0 := by
  simp only [cW, List.countP_append, List.countP_singleton]
  by_cases h : k = wd x
  · subst h; simp
  · rw [if_neg h, if_neg (by simp; omega)]
theorem cW_append (xs ys : List Int) (k : Nat) : cW (xs ++ ys) k = cW xs k + cW ys k := by simp [cW]
theorem Ok.append {xs ys : List Int} (h : Ok xs) (h' : Ok ys) : Ok (xs ++ ys) := fun x hx => by
  rcases List.mem_append.1 hx with h1 | h1
  · exact h x h1
  · exact h' x h1
theorem Ok.snoc {xs : List Int} (h : Ok xs) {x : Int} (hx : 0 ≤ x ∧ x ≤ 9223372036854775807) : Ok (xs ++ [x]) := h.append fun y hy => by
  rw [List.mem_singleton] at hy; subst hy; exact hx
/-- The row in which a place lies is one. -/
theorem row_one {xs : List Int} {a k k' : Nat} (h1 : bW xs k ≤ a) (h2 : a < bW xs (k + 1)) (h3 : bW xs k' ≤ a) (h4 : a < bW xs (k' + 1)) : k = k' := by
  rcases Nat.lt_trichotomy k k' with h | h | h
  · have := bW_mono xs (show k + 1 ≤ k' by omega); omega
  · exact h
  · have := bW_mono xs (show k' + 1 ≤ k by omega); omega
theorem row_mono {xs : List Int} {a a' k k' : Nat} (h1 : bW xs k ≤ a) (haa : a ≤ a') (h4 : a' < bW xs (k' + 1)) : k ≤ k' := by
  rcases Nat.lt_or_ge k' k with h | h
  · have := bW_mono xs (show k' + 1 ≤ k by omega); omega
  · exact h

/-- What numbers come to, at most 2^62. -/
def sm (xs : List Int) : Int := xs.foldl (· + ·) 0
theorem foldl_add (xs : List Int) (a : Int) : xs.foldl (· + ·) a = a + sm xs := by
  unfold sm
  induction xs generalizing a with
  | nil => simp
  | cons x t ih => simp only [List.foldl_cons]; rw [ih (a + x), ih (0 + x)]; omega
theorem sm_append (xs ys : List Int) : sm (xs ++ ys) = sm xs + sm ys := by
  unfold sm
  rw [List.foldl_append, foldl_add]; rfl
theorem sm_snoc (xs : List Int) (x : Int) : sm (xs ++ [x]) = sm xs + x := by rw [sm_append]; simp [sm]
theorem sm_cons (xs : List Int) (x : Int) : sm (x :: xs) = x + sm xs := by
  show xs.foldl (· + ·) (0 + x) = _
  rw [foldl_add]; omega
theorem sm_nonneg {xs : List Int} (h : Ok xs) : 0 ≤ sm xs := by
  induction xs with
  | nil => simp [sm]
  | cons x t ih =>
    rw [sm_cons]
    have := h x (by simp)
    have := ih (fun y hy => h y (by simp [hy]))
    omega
def sat (x : Int) : Int := min x 4611686018427387904
theorem sat_add {a b : Int} (ha : 0 ≤ a) (hb : 0 ≤ b) : sat a + min b (4611686018427387904 - sat a) = sat (a + b) := by unfold sat; omega
theorem sat_add2 {a b : Int} (ha : 0 ≤ a) (hb : 0 ≤ b) : sat a + min (sat b) (4611686018427387904 - sat a) = sat (a + b) := by unfold sat; omega
theorem sat_bd {a : Int} (ha : 0 ≤ a) : 0 ≤ sat a ∧ sat a ≤ 4611686018427387904 := by unfold sat; omega

/-- The least and the greatest. -/
def Ends (xs : List Int) (l m : Int) : Prop := (xs = [] ∧ l = 0 ∧ m = 0) ∨ (l ∈ xs ∧ m ∈ xs ∧ ∀ x ∈ xs, l ≤ x ∧ x ≤ m)
theorem Ends.snoc {xs : List Int} {l m n : Int} (h : Ends xs l m) (hn : 0 ≤ n) : Ends (xs ++ [n]) (if xs.length = 0 ∨ n < l then n else l) (if m < n then n else m) := by
  right
  rcases h with ⟨rfl, rfl, rfl⟩ | ⟨h1, h2, h3⟩
  · rw [if_pos (by simp)]
    have : (if 0 < n then n else 0) = n := by split <;> omega
    rw [this]
    simp
  · have h0 : ¬ xs.length = 0 := by intro h; rw [List.length_eq_zero_iff] at h; subst h; simp at h1
    have hl := (h3 _ h2).1
    refine ⟨?_, ?_, fun x hx => ?_⟩
    · split
      · simp
      · exact List.mem_append_left _ h1
    · split
      · simp
      · exact List.mem_append_left _ h2
    · rcases List.mem_append.1 hx with hx | hx
      · have := h3 x hx
        split <;> split <;> omega
      · rw [List.mem_singleton] at hx; subst hx
        split <;> split <;> omega
theorem Ends.append {xs ys : List Int} {l m l' m' : Int} (h : Ends xs l m) (h' : Ends ys l' m') (hy : ys ≠ []) (hok : Ok ys) : Ends (xs ++ ys) (if xs.length = 0 ∨ l' < l then l' else l) (if m < m' then m' else m) := by
  right
  rcases h' with ⟨rfl, _⟩ | ⟨g1, g2, g3⟩
  · exact absurd rfl hy
  rcases h with ⟨rfl, rfl, rfl⟩ | ⟨h1, h2, h3⟩
  · have hm := hok m' g2
    have : (if 0 < m' then m' else 0) = m' := by split <;> omega
    rw [if_pos (by simp), this]
    simp only [List.nil_append]
    exact ⟨g1, g2, g3⟩
  · have h0 : ¬ xs.length = 0 := by intro h; rw [List.length_eq_zero_iff] at h; subst h; simp at h1
    have hl := (h3 _ h2).1
    have gl := (g3 _ g2).1
    refine ⟨?_, ?_, fun x hx => ?_⟩
    · split
      · exact List.mem_append_right _ g1
      · exact List.mem_append_left _ h1
    · split
      · exact List.mem_append_right _ g2
      · exact List.mem_append_left _ h2
    · rcases List.mem_append.1 hx with hx | hx
      · have := h3 x hx
        split <;> split <;> omega
      · have := g3 x hx
        split <;> split <;> omega

/-- Numbers from 0 on. -/
def pos (l : List Int) : List Int := l.filter fun x => decide (0 ≤ x)
theorem pos_snoc (l : List Int) (x : Int) : pos (l ++ [x]) = if 0 ≤ x then pos l ++ [x] else pos l := by
  unfold pos
  rw [List.filter_append]
  by_cases h : 0 ≤ x <;> simp [List.filter_cons, h]
theorem pos_append (l m : List Int) : pos (l ++ m) = pos l ++ pos m := by simp [pos]
theorem pos_ok {l : List Int} (h : ∀ x ∈ l, x ≤ 9223372036854775807) : Ok (pos l) := fun x hx => by
  unfold pos at hx
  rw [List.mem_filter] at hx
  exact ⟨by simpa using hx.2, h x hx.1⟩
theorem pos_len (l : List Int) : (pos l).length ≤ l.length := List.length_filter_le _ _
end Go.Proofs.Ytggfjpfjpinhoaa
