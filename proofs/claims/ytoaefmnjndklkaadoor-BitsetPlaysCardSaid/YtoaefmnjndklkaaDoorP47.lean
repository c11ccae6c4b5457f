/- Plain: how many of the first numbers a set has; the ones of a word. -/
import Derived.Test.YtoaefmnjndklkaaDoorRows
namespace Go.Proofs.YtoaefmnjndklkaaDoor

/-- How many numbers below n m has. -/
def cnt (m : Nat → Bool) : Nat → Nat
  | 0 => 0
  | n + 1 => cnt m n + if m n then 1 else 0
theorem cnt_add (m : Nat → Bool) (a : Nat) : ∀ b, cnt m (a + b) = cnt m a + cnt (fun j => m (a + j)) b
  | 0 => rfl
  | b + 1 => by
    show cnt m (a + b) + (if m (a + b) then 1 else 0) = cnt m a + (cnt (fun j => m (a + j)) b + if m (a + b) then 1 else 0)
    rw [cnt_add m a b, Nat.add_assoc]
theorem cnt_congr {m m' : Nat → Bool} : ∀ {n : Nat}, (∀ j, j < n → m j = m' j) → cnt m n = cnt m' n
  | 0, _ => rfl
  | n + 1, h => by
    simp only [cnt]
    rw [cnt_congr (fun j hj => h j (by omega)), h n (by omega)]
theorem cnt_le (m : Nat → Bool) : ∀ n, cnt m n ≤ n
  | 0 => Nat.le_refl _
  | n + 1 => by
    have := cnt_le m n
    simp only [cnt]
    split <;> omega

/-! ### a word's ones -/
def pc (x : Nat) : Nat := cnt x.testBit 64
def pc8 (x : Nat) : Nat := cnt x.testBit 8
def rep (a : Nat) : Nat → Nat
  | 0 => 0
  | n + 1 => a + 256 * rep a n
theorem rep_succ (a n : Nat) : rep a (n + 1) = a + 256 * rep a n := rfl
theorem land_byte (y a M : Nat) (ha : a < 256) : y &&& (a + 256 * M) = (y % 256 &&& a) + 256 * (y / 256 &&& M) := by
  have h1 : a + 256 * M = 2 ^ 8 * M + a := by omega
  have hb : y % 256 &&& a < 2 ^ 8 := Nat.and_lt_two_pow _ (by omega)
  have h2 : (y % 256 &&& a) + 256 * (y / 256 &&& M) = 2 ^ 8 * (y / 256 &&& M) + (y % 256 &&& a) := by omega
  rw [h1, h2]
  apply Nat.eq_of_testBit_eq
  intro i
  rw [Nat.testBit_and, Nat.testBit_two_pow_mul_add _ (by omega), Nat.testBit_two_pow_mul_add _ hb]
  by_cases hi : i < 8
  · rw [if_pos hi, if_pos hi, Nat.testBit_and]
    have : y % 256 = y % 2 ^ 8 := rfl
    rw [this, Nat.testBit_mod_two_pow]
    simp [hi]
  · rw [if_neg hi, if_neg hi, Nat.testBit_and]
    have : y / 256 = y / 2 ^ 8 := rfl
    rw [this, Nat.testBit_div_two_pow]
    have e : i - 8 + 8 = i := by omega
    rw [e]
def o1 (n x : Nat) : Nat := (x / 2 &&& rep 85 n) + (x &&& rep 85 n)
def o2 (n x : Nat) : Nat := (x / 4 &&& rep 51 n) + (x &&& rep 51 n)
def o3 (n x : Nat) : Nat := (x / 16 + x) &&& rep 15 n
def S1 (b : Nat) : Nat := (b / 2 &&& 85) + (b &&& 85)
def S2 (b : Nat) : Nat := (b / 4 &&& 51) + (b &&& 51)
theorem d1 : ∀ b, b < 256 → ∀ r, r < 2 → (b / 2 + 128 * r &&& 85) = (b / 2 &&& 85) := by decide +kernel
theorem d2 : ∀ b, b < 256 → ∀ r, r < 4 → (b / 4 + 64 * r &&& 51) = (b / 4 &&& 51) := by decide +kernel
theorem d3 : ∀ b, b < 256 → S1 b < 256 ∧ S2 (S1 b) < 69 ∧ S2 (S1 b) % 16 ≤ 4 ∧ pc8 b ≤ 8 := by decide +kernel
theorem d4 : ∀ b, b < 256 → ∀ r, r < 5 → (S2 (S1 b) / 16 + S2 (S1 b) + 16 * r &&& 15) = pc8 b := by decide +kernel
theorem o1_step (n x : Nat) : o1 (n + 1) x = S1 (x % 256) + 256 * o1 n (x / 256) := by
  simp only [o1, rep_succ, S1]
  rw [land_byte _ _ _ (by omega), land_byte _ _ _ (by omega)]
  have e1 : x / 2 % 256 = x % 256 / 2 + 128 * (x / 256 % 2) := by omega
  have e2 : x / 2 / 256 = x / 256 / 2 := by omega
  rw [e1, d1 _ (by omega) _ (by omega), e2]
  omega
theorem o2_step (n x : Nat) : o2 (n + 1) x = S2 (x % 256) + 256 * o2 n (x / 256) := by
  simp only [o2, rep_succ, S2]
  rw [land_byte _ _ _ (by omega), land_byte _ _ _ (by omega)]
  have e1 : x / 4 % 256 = x % 256 / 4 + 64 * (x / 256 % 4) := by omega
  have e2 : x / 4 / 256 = x / 256 / 4 := by omega
  rw [e1, d2 _ (by omega) _ (by omega), e2]
  omega
theorem o12_step (n x : Nat) : o2 (n + 1) (o1 (n + 1) x) = S2 (S1 (x % 256)) + 256 * o2 n (o1 n (x / 256)) := by
  rw [o1_step, o2_step]
  have h := (d3 (x % 256) (by omega)).1
  have e1 : (S1 (x % 256) + 256 * o1 n (x / 256)) % 256 = S1 (x % 256) := by omega
  have e2 : (S1 (x % 256) + 256 * o1 n (x / 256)) / 256 = o1 n (x / 256) := by omega
  rw [e1, e2]
theorem o12_nib (n x : Nat) : o2 n (o1 n x) % 16 ≤ 4 := by
  cases n with
  | zero => simp [o2, rep]
  | succ n =>
    rw [o12_step]
    have h := (d3 (x % 256) (by omega)).2.2.1
    omega
theorem o_step (n x : Nat) : o3 (n + 1) (o2 (n + 1) (o1 (n + 1) x)) = pc8 (x % 256) + 256 * o3 n (o2 n (o1 n (x / 256))) := by
  rw [o12_step]
  have h1 := o12_nib n (x / 256)
  generalize o2 n (o1 n (x / 256)) = z at *
  have h := (d3 (x % 256) (by omega)).2.1
  have h4 := d4 (x % 256) (by omega) (z % 16) (by omega)
  generalize S2 (S1 (x % 256)) = c at *
  simp only [o3, rep_succ]
  rw [land_byte _ _ _ (by omega)]
  have e1 : ((c + 256 * z) / 16 + (c + 256 * z)) % 256 = c / 16 + c + 16 * (z % 16) := by omega
  have e2 : ((c + 256 * z) / 16 + (c + 256 * z)) / 256 = z / 16 + z := by omega
  rw [e1, h4, e2]
theorem pc_step (n x : Nat) : cnt x.testBit (8 * (n + 1)) = pc8 (x % 256) + cnt (x / 256).testBit (8 * n) := by
  have e : 8 * (n + 1) = 8 + 8 * n := by omega
  rw [e, cnt_add]
  have h1 : cnt x.testBit 8 = pc8 (x % 256) := cnt_congr (fun j hj => by
    have : x % 256 = x % 2 ^ 8 := rfl
    rw [this, Nat.testBit_mod_two_pow]
    simp [hj])
  have h2 : cnt (fun j => x.testBit (8 + j)) (8 * n) = cnt (x / 256).testBit (8 * n) := cnt_congr (fun j hj => by
    have : x / 256 = x / 2 ^ 8 := rfl
    rw [this, Nat.testBit_div_two_pow, Nat.add_comm])
  rw [h1, h2]
theorem o_zero (x : Nat) : o3 0 (o2 0 (o1 0 x)) = 0 := by simp [o3, rep]
theorem sh_div {a b k : Nat} (h : a < k) : (a + k * b) / k = b := by
  rw [Nat.add_mul_div_left _ _ (by omega), Nat.div_eq_of_lt h, Nat.zero_add]
theorem lin0 (p0 p1 p2 p3 p4 p5 p6 p7 : Nat) : ((p0) + 256 * ((p1) + 256 * ((p2) + 256 * ((p3) + 256 * ((p4) + 256 * ((p5) + 256 * ((p6) + 256 * (p7)))))))) = p0 + 256 * ((p1) + 256 * ((p2) + 256 * ((p3) + 256 * ((p4) + 256 * ((p5) + 256 * ((p6) + 256 * (p7))))))) := by omega
theorem lin1 (p0 p1 p2 p3 p4 p5 p6 p7 : Nat) : ((p0) + 256 * ((p1) + 256 * ((p2) + 256 * ((p3) + 256 * ((p4) + 256 * ((p5) + 256 * ((p6) + 256 * (p7)))))))) + ((p1) + 256 * ((p2) + 256 * ((p3) + 256 * ((p4) + 256 * ((p5) + 256 * ((p6) + 256 * (p7))))))) = ((p0 + p1) + 256 * ((p1 + p2) + 256 * ((p2 + p3) + 256 * ((p3 + p4) + 256 * ((p4 + p5) + 256 * ((p5 + p6) + 256 * ((p6 + p7) + 256 * (p7)))))))) := by omega
theorem lin2 (p0 p1 p2 p3 p4 p5 p6 p7 : Nat) : ((p0 + p1) + 256 * ((p1 + p2) + 256 * ((p2 + p3) + 256 * ((p3 + p4) + 256 * ((p4 + p5) + 256 * ((p5 + p6) + 256 * ((p6 + p7) + 256 * (p7)))))))) = (p0 + p1 + 256 * (p1 + p2)) + 65536 * ((p2 + p3) + 256 * ((p3 + p4) + 256 * ((p4 + p5) + 256 * ((p5 + p6) + 256 * ((p6 + p7) + 256 * (p7)))))) := by omega
theorem lin3 (p0 p1 p2 p3 p4 p5 p6 p7 : Nat) : ((p0 + p1) + 256 * ((p1 + p2) + 256 * ((p2 + p3) + 256 * ((p3 + p4) + 256 * ((p4 + p5) + 256 * ((p5 + p6) + 256 * ((p6 + p7) + 256 * (p7)))))))) + ((p2 + p3) + 256 * ((p3 + p4) + 256 * ((p4 + p5) + 256 * ((p5 + p6) + 256 * ((p6 + p7) + 256 * (p7)))))) = ((p0 + p1 + p2 + p3) + 256 * ((p1 + p2 + p3 + p4) + 256 * ((p2 + p3 + p4 + p5) + 256 * ((p3 + p4 + p5 + p6) + 256 * ((p4 + p5 + p6 + p7) + 256 * ((p5 + p6 + p7) + 256 * ((p6 + p7) + 256 * (p7)))))))) := by omega
theorem lin4 (p0 p1 p2 p3 p4 p5 p6 p7 : Nat) : ((p0 + p1 + p2 + p3) + 256 * ((p1 + p2 + p3 + p4) + 256 * ((p2 + p3 + p4 + p5) + 256 * ((p3 + p4 + p5 + p6) + 256 * ((p4 + p5 + p6 + p7) + 256 * ((p5 + p6 + p7) + 256 * ((p6 + p7) + 256 * (p7)))))))) = (p0 + p1 + p2 + p3 + 256 * (p1 + p2 + p3 + p4 + 256 * (p2 + p3 + p4 + p5 + 256 * (p3 + p4 + p5 + p6)))) + 4294967296 * ((p4 + p5 + p6 + p7) + 256 * ((p5 + p6 + p7) + 256 * ((p6 + p7) + 256 * (p7)))) := by omega
theorem lin5 (p0 p1 p2 p3 p4 p5 p6 p7 : Nat) : ((p0 + p1 + p2 + p3) + 256 * ((p1 + p2 + p3 + p4) + 256 * ((p2 + p3 + p4 + p5) + 256 * ((p3 + p4 + p5 + p6) + 256 * ((p4 + p5 + p6 + p7) + 256 * ((p5 + p6 + p7) + 256 * ((p6 + p7) + 256 * (p7)))))))) + ((p4 + p5 + p6 + p7) + 256 * ((p5 + p6 + p7) + 256 * ((p6 + p7) + 256 * (p7)))) = (p0 + (p1 + (p2 + (p3 + (p4 + (p5 + (p6 + p7))))))) + 128 * (2 * ((p1 + p2 + p3 + p4 + p5 + p6 + p7) + 256 * ((p2 + p3 + p4 + p5 + p6 + p7) + 256 * ((p3 + p4 + p5 + p6 + p7) + 256 * ((p4 + p5 + p6 + p7) + 256 * ((p5 + p6 + p7) + 256 * ((p6 + p7) + 256 * (p7)))))))) := by omega
theorem bd1 (p0 p1 p2 p3 p4 p5 p6 p7 : Nat) (h0 : p0 ≤ 8) (h1 : p1 ≤ 8) (h2 : p2 ≤ 8) (h3 : p3 ≤ 8) (h4 : p4 ≤ 8) (h5 : p5 ≤ 8) (h6 : p6 ≤ 8) (h7 : p7 ≤ 8) : ((p0 + p1) + 256 * ((p1 + p2) + 256 * ((p2 + p3) + 256 * ((p3 + p4) + 256 * ((p4 + p5) + 256 * ((p5 + p6) + 256 * ((p6 + p7) + 256 * (p7)))))))) < 18446744073709551616 := by omega
theorem bd2 (p0 p1 p2 p3 p4 p5 p6 p7 : Nat) (h0 : p0 ≤ 8) (h1 : p1 ≤ 8) (h2 : p2 ≤ 8) (h3 : p3 ≤ 8) (h4 : p4 ≤ 8) (h5 : p5 ≤ 8) (h6 : p6 ≤ 8) (h7 : p7 ≤ 8) : ((p0 + p1 + p2 + p3) + 256 * ((p1 + p2 + p3 + p4) + 256 * ((p2 + p3 + p4 + p5) + 256 * ((p3 + p4 + p5 + p6) + 256 * ((p4 + p5 + p6 + p7) + 256 * ((p5 + p6 + p7) + 256 * ((p6 + p7) + 256 * (p7)))))))) < 18446744073709551616 := by omega
theorem bd3 (p0 p1 p2 p3 p4 p5 p6 p7 : Nat) (h0 : p0 ≤ 8) (h1 : p1 ≤ 8) (h2 : p2 ≤ 8) (h3 : p3 ≤ 8) (h4 : p4 ≤ 8) (h5 : p5 ≤ 8) (h6 : p6 ≤ 8) (h7 : p7 ≤ 8) : (p0 + (p1 + (p2 + (p3 + (p4 + (p5 + (p6 + p7))))))) + 128 * (2 * ((p1 + p2 + p3 + p4 + p5 + p6 + p7) + 256 * ((p2 + p3 + p4 + p5 + p6 + p7) + 256 * ((p3 + p4 + p5 + p6 + p7) + 256 * ((p4 + p5 + p6 + p7) + 256 * ((p5 + p6 + p7) + 256 * ((p6 + p7) + 256 * (p7)))))))) < 9223372036854775808 := by omega
/-- The sum of bytes, by shifts. -/
theorem last_sum (p0 p1 p2 p3 p4 p5 p6 p7 : Nat) (h0 : p0 ≤ 8) (h1 : p1 ≤ 8) (h2 : p2 ≤ 8) (h3 : p3 ≤ 8) (h4 : p4 ≤ 8) (h5 : p5 ≤ 8) (h6 : p6 ≤ 8) (h7 : p7 ≤ 8) (r t u v : Nat) (hr : r = ((p0) + 256 * ((p1) + 256 * ((p2) + 256 * ((p3) + 256 * ((p4) + 256 * ((p5) + 256 * ((p6) + 256 * (p7)))))))))
    (ht : t = r + r / 256) (hu : u = t + t / 65536) (hv : v = u + u / 4294967296) :
    t < 18446744073709551616 ∧ u < 18446744073709551616 ∧ v < 9223372036854775808 ∧ v % 128 = p0 + (p1 + (p2 + (p3 + (p4 + (p5 + (p6 + p7)))))) := by
  have e1 : r / 256 = ((p1) + 256 * ((p2) + 256 * ((p3) + 256 * ((p4) + 256 * ((p5) + 256 * ((p6) + 256 * (p7))))))) := by rw [hr, lin0]; exact sh_div (by omega)
  have e2 : t = ((p0 + p1) + 256 * ((p1 + p2) + 256 * ((p2 + p3) + 256 * ((p3 + p4) + 256 * ((p4 + p5) + 256 * ((p5 + p6) + 256 * ((p6 + p7) + 256 * (p7)))))))) := by rw [ht, e1, hr, lin1]
  have e3 : t / 65536 = ((p2 + p3) + 256 * ((p3 + p4) + 256 * ((p4 + p5) + 256 * ((p5 + p6) + 256 * ((p6 + p7) + 256 * (p7)))))) := by rw [e2, lin2]; exact sh_div (by clear hr ht hu hv e1 e2; omega)
  have e4 : u = ((p0 + p1 + p2 + p3) + 256 * ((p1 + p2 + p3 + p4) + 256 * ((p2 + p3 + p4 + p5) + 256 * ((p3 + p4 + p5 + p6) + 256 * ((p4 + p5 + p6 + p7) + 256 * ((p5 + p6 + p7) + 256 * ((p6 + p7) + 256 * (p7)))))))) := by rw [hu, e3, e2, lin3]
  have e5 : u / 4294967296 = ((p4 + p5 + p6 + p7) + 256 * ((p5 + p6 + p7) + 256 * ((p6 + p7) + 256 * (p7)))) := by rw [e4, lin4]; exact sh_div (by clear hr ht hu hv e1 e2 e3 e4; omega)
  have e6 : v = (p0 + (p1 + (p2 + (p3 + (p4 + (p5 + (p6 + p7))))))) + 128 * (2 * ((p1 + p2 + p3 + p4 + p5 + p6 + p7) + 256 * ((p2 + p3 + p4 + p5 + p6 + p7) + 256 * ((p3 + p4 + p5 + p6 + p7) + 256 * ((p4 + p5 + p6 + p7) + 256 * ((p5 + p6 + p7) + 256 * ((p6 + p7) + 256 * (p7)))))))) := by rw [hv, e5, e4, lin5]
  clear hr ht hu hv e1 e3 e5
  refine ⟨?_, ?_, ?_, ?_⟩
  · rw [e2]; exact bd1 _ _ _ _ _ _ _ _ h0 h1 h2 h3 h4 h5 h6 h7
  · rw [e4]; exact bd2 _ _ _ _ _ _ _ _ h0 h1 h2 h3 h4 h5 h6 h7
  · rw [e6]; exact bd3 _ _ _ _ _ _ _ _ h0 h1 h2 h3 h4 h5 h6 h7
  · rw [e6, Nat.add_mul_mod_self_left]; clear e2 e4 e6; exact Nat.mod_eq_of_lt (by omega)
theorem rep85 : rep 85 8 = 6148914691236517205 := by decide
theorem rep51 : rep 51 8 = 3689348814741910323 := by decide
theorem rep15 : rep 15 8 = 1085102592571150095 := by decide
/-- The ones of a word, as the shifts and masks reckon them. -/
theorem ones_sum (x : Nat) (r t u v : Nat) (hr : r = o3 8 (o2 8 (o1 8 x))) (ht : t = r + r / 256) (hu : u = t + t / 65536) (hv : v = u + u / 4294967296) :
    t < 18446744073709551616 ∧ u < 18446744073709551616 ∧ v < 9223372036854775808 ∧ v % 128 = pc x := by
  have sz := o_zero (x / 256 / 256 / 256 / 256 / 256 / 256 / 256 / 256)
  have s7 : o3 8 (o2 8 (o1 8 (x))) = pc8 (x % 256) + 256 * o3 7 (o2 7 (o1 7 (x / 256))) := o_step 7 _
  have s6 : o3 7 (o2 7 (o1 7 (x / 256))) = pc8 (x / 256 % 256) + 256 * o3 6 (o2 6 (o1 6 (x / 256 / 256))) := o_step 6 _
  have s5 : o3 6 (o2 6 (o1 6 (x / 256 / 256))) = pc8 (x / 256 / 256 % 256) + 256 * o3 5 (o2 5 (o1 5 (x / 256 / 256 / 256))) := o_step 5 _
  have s4 : o3 5 (o2 5 (o1 5 (x / 256 / 256 / 256))) = pc8 (x / 256 / 256 / 256 % 256) + 256 * o3 4 (o2 4 (o1 4 (x / 256 / 256 / 256 / 256))) := o_step 4 _
  have s3 : o3 4 (o2 4 (o1 4 (x / 256 / 256 / 256 / 256))) = pc8 (x / 256 / 256 / 256 / 256 % 256) + 256 * o3 3 (o2 3 (o1 3 (x / 256 / 256 / 256 / 256 / 256))) := o_step 3 _
  have s2 : o3 3 (o2 3 (o1 3 (x / 256 / 256 / 256 / 256 / 256))) = pc8 (x / 256 / 256 / 256 / 256 / 256 % 256) + 256 * o3 2 (o2 2 (o1 2 (x / 256 / 256 / 256 / 256 / 256 / 256))) := o_step 2 _
  have s1 : o3 2 (o2 2 (o1 2 (x / 256 / 256 / 256 / 256 / 256 / 256))) = pc8 (x / 256 / 256 / 256 / 256 / 256 / 256 % 256) + 256 * o3 1 (o2 1 (o1 1 (x / 256 / 256 / 256 / 256 / 256 / 256 / 256))) := o_step 1 _
  have s0 : o3 1 (o2 1 (o1 1 (x / 256 / 256 / 256 / 256 / 256 / 256 / 256))) = pc8 (x / 256 / 256 / 256 / 256 / 256 / 256 / 256 % 256) + 256 * o3 0 (o2 0 (o1 0 (x / 256 / 256 / 256 / 256 / 256 / 256 / 256 / 256))) := o_step 0 _
  have hp := last_sum (pc8 (x % 256)) (pc8 (x / 256 % 256)) (pc8 (x / 256 / 256 % 256)) (pc8 (x / 256 / 256 / 256 % 256)) (pc8 (x / 256 / 256 / 256 / 256 % 256)) (pc8 (x / 256 / 256 / 256 / 256 / 256 % 256)) (pc8 (x / 256 / 256 / 256 / 256 / 256 / 256 % 256)) (pc8 (x / 256 / 256 / 256 / 256 / 256 / 256 / 256 % 256))
    (d3 _ (by omega)).2.2.2 (d3 _ (by omega)).2.2.2 (d3 _ (by omega)).2.2.2 (d3 _ (by omega)).2.2.2 (d3 _ (by omega)).2.2.2 (d3 _ (by omega)).2.2.2 (d3 _ (by omega)).2.2.2 (d3 _ (by omega)).2.2.2 r t u v
    (by rw [hr, s7, s6, s5, s4, s3, s2, s1, s0, sz, Nat.mul_zero, Nat.add_zero]) ht hu hv
  refine ⟨hp.1, hp.2.1, hp.2.2.1, ?_⟩
  rw [hp.2.2.2]
  have c7 : cnt (Nat.testBit (x)) 64 = pc8 (x % 256) + cnt (Nat.testBit (x / 256)) 56 := pc_step 7 _
  have c6 : cnt (Nat.testBit (x / 256)) 56 = pc8 (x / 256 % 256) + cnt (Nat.testBit (x / 256 / 256)) 48 := pc_step 6 _
  have c5 : cnt (Nat.testBit (x / 256 / 256)) 48 = pc8 (x / 256 / 256 % 256) + cnt (Nat.testBit (x / 256 / 256 / 256)) 40 := pc_step 5 _
  have c4 : cnt (Nat.testBit (x / 256 / 256 / 256)) 40 = pc8 (x / 256 / 256 / 256 % 256) + cnt (Nat.testBit (x / 256 / 256 / 256 / 256)) 32 := pc_step 4 _
  have c3 : cnt (Nat.testBit (x / 256 / 256 / 256 / 256)) 32 = pc8 (x / 256 / 256 / 256 / 256 % 256) + cnt (Nat.testBit (x / 256 / 256 / 256 / 256 / 256)) 24 := pc_step 3 _
  have c2 : cnt (Nat.testBit (x / 256 / 256 / 256 / 256 / 256)) 24 = pc8 (x / 256 / 256 / 256 / 256 / 256 % 256) + cnt (Nat.testBit (x / 256 / 256 / 256 / 256 / 256 / 256)) 16 := pc_step 2 _
  have c1 : cnt (Nat.testBit (x / 256 / 256 / 256 / 256 / 256 / 256)) 16 = pc8 (x / 256 / 256 / 256 / 256 / 256 / 256 % 256) + cnt (Nat.testBit (x / 256 / 256 / 256 / 256 / 256 / 256 / 256)) 8 := pc_step 1 _
  have c0 : cnt (Nat.testBit (x / 256 / 256 / 256 / 256 / 256 / 256 / 256)) 8 = pc8 (x / 256 / 256 / 256 / 256 / 256 / 256 / 256 % 256) + cnt (Nat.testBit (x / 256 / 256 / 256 / 256 / 256 / 256 / 256 / 256)) 0 := pc_step 0 _
  have cz : cnt (Nat.testBit (x / 256 / 256 / 256 / 256 / 256 / 256 / 256 / 256)) 0 = 0 := rfl
  show _ = cnt (Nat.testBit x) 64
  rw [c7, c6, c5, c4, c3, c2, c1, c0, cz, Nat.add_zero]
theorem o1_lt (x : Nat) : o1 8 x < 18446744073709551616 := by
  unfold o1
  rw [rep85]
  have h1 : x / 2 &&& 6148914691236517205 ≤ 6148914691236517205 := Nat.and_le_right
  have h2 : x &&& 6148914691236517205 ≤ 6148914691236517205 := Nat.and_le_right
  omega
theorem o2_lt (x : Nat) : o2 8 x < 7378697629483820647 := by
  unfold o2
  rw [rep51]
  have h1 : x / 4 &&& 3689348814741910323 ≤ 3689348814741910323 := Nat.and_le_right
  have h2 : x &&& 3689348814741910323 ≤ 3689348814741910323 := Nat.and_le_right
  omega
theorem o3_lt (x : Nat) : o3 8 x < 18446744073709551616 := by
  unfold o3
  rw [rep15]
  have h1 : (x / 16 + x) &&& 1085102592571150095 ≤ 1085102592571150095 := Nat.and_le_right
  omega
end Go.Proofs.YtoaefmnjndklkaaDoor
