/- Clean words, and the average that takes a word in, without a program. -/
import Derived.Test.YthgcdoiodeagcaaF
namespace Go.Proofs.Ythgcdoiodeagcaa
open Ieee

def cl (x : Nat) : Nat := if nan x then 0 else if sr x = 0 then 0 else if sr x = 9218868437227405312 then 9218868437227405311 else if sr x = -9218868437227405312 then 18442240474082181119 else x
structure Cln (x : Nat) : Prop where
  lt : x < 18446744073709551616
  fin : rung x < 9218868437227405312
  pos : rung x = 0 → neg x = false
def subV (x y : Nat) : Nat := (double.sub x y).getD 0
def mulV (x y : Nat) : Nat := (double.mul x y).getD 0
def addV (x y : Nat) : Nat := (double.add x y).getD 0
def heldV (s : Nat) : Nat := if sr (cl s) < 0 then 0 else if 4607182418800017408 < sr (cl s) then 4607182418800017408 else cl s
def step (a x s : Nat) : Nat := if nan x then cl a else if nan a then cl x else cl (addV (cl a) (cl (mulV (heldV s) (cl (subV (cl x) (cl a))))))
def key (x : Nat) : Nat := if nan x then 18446744073709551615 else if sr x = 0 then 9223372036854775808 else if neg x then 18446744073709551615 - x else x + 9223372036854775808

theorem neg_rung {x : Nat} (h : x < 18446744073709551616) : (neg x = true ∧ x = 9223372036854775808 + rung x) ∨ (neg x = false ∧ x = rung x) := by
  unfold neg rung
  by_cases h1 : x / 9223372036854775808 % 2 = 1
  · exact .inl ⟨by simp [h1], by omega⟩
  · exact .inr ⟨by simp [h1], by omega⟩
theorem rung_lt (x : Nat) : rung x < 9223372036854775808 := by unfold rung; omega
theorem nan_iff {x : Nat} : nan x = false ↔ rung x ≤ 9218868437227405312 := by unfold nan; rw [decide_eq_false_iff_not]; omega
theorem sr_pos {x : Nat} (h : neg x = false) : sr x = rung x := by unfold sr; rw [h]; rfl
theorem sr_neg {x : Nat} (h : neg x = true) : sr x = -(rung x : Int) := by unfold sr; rw [h]; rfl
theorem nan_of_cln {x : Nat} (h : Cln x) : nan x = false := nan_iff.2 (by have := h.fin; omega)
theorem cln_lit (x : Nat) (h : (decide (x < 18446744073709551616) && decide (rung x < 9218868437227405312) && (rung x != 0 || !neg x)) = true) : Cln x := by
  simp only [Bool.and_eq_true, decide_eq_true_eq, Bool.or_eq_true, bne_iff_ne, Bool.not_eq_true'] at h
  exact ⟨h.1.1, h.1.2, fun h0 => by rcases h.2 with h2 | h2; exact absurd h0 h2; exact h2⟩
theorem cln0 : Cln 0 := cln_lit 0 (by decide)
theorem cl_cln {x : Nat} (h : x < 18446744073709551616) : Cln (cl x) := by
  unfold cl
  cases hn : nan x
  · have hr := nan_iff.1 hn
    simp only [Bool.false_eq_true, if_false]
    by_cases h0 : sr x = 0
    · rw [if_pos h0]; exact cln0
    · rw [if_neg h0]
      by_cases h1 : sr x = 9218868437227405312
      · rw [if_pos h1]; exact cln_lit _ (by decide)
      · rw [if_neg h1]
        by_cases h2 : sr x = -9218868437227405312
        · rw [if_pos h2]; exact cln_lit _ (by decide)
        · rw [if_neg h2]
          refine ⟨h, ?_, fun h3 => absurd ?_ h0⟩
          · rcases neg_rung h with ⟨a, _⟩ | ⟨a, _⟩
            · rw [sr_neg a] at h2; omega
            · rw [sr_pos a] at h1; omega
          · rcases neg_rung h with ⟨a, _⟩ | ⟨a, _⟩
            · rw [sr_neg a, h3]; rfl
            · rw [sr_pos a, h3]; rfl
  · simp only [if_true]; exact cln0
theorem sr_zero {x : Nat} (h : Cln x) (h0 : sr x = 0) : x = 0 := by
  rcases neg_rung h.lt with ⟨a, b⟩ | ⟨a, b⟩
  · rw [sr_neg a] at h0
    have := h.pos (by omega)
    rw [a] at this; cases this
  · rw [sr_pos a] at h0; omega
theorem sr_bd {x : Nat} (h : rung x < 9218868437227405312) : -9218868437227405311 ≤ sr x ∧ sr x ≤ 9218868437227405311 := by
  unfold sr; split <;> omega
theorem cl_id {x : Nat} (h : Cln x) : cl x = x := by
  unfold cl
  rw [nan_of_cln h]
  have hb := sr_bd h.fin
  simp only [Bool.false_eq_true, if_false]
  by_cases h0 : sr x = 0
  · rw [if_pos h0]; exact (sr_zero h h0).symm
  · rw [if_neg h0, if_neg (by omega), if_neg (by omega)]
theorem cl_cl {x : Nat} (h : x < 18446744073709551616) : cl (cl x) = cl x := cl_id (cl_cln h)
theorem cl_nan {x : Nat} (h : nan x = true) : cl x = 0 := by unfold cl; rw [h]; rfl
theorem neg_of_sr {x : Nat} (h : x < 18446744073709551616) (h0 : sr x < 0) : neg x = true := by
  rcases neg_rung h with ⟨a, _⟩ | ⟨a, _⟩
  · exact a
  · rw [sr_pos a] at h0; omega
theorem pos_of_sr {x : Nat} (h : x < 18446744073709551616) (h0 : 0 < sr x) : neg x = false := by
  rcases neg_rung h with ⟨a, _⟩ | ⟨a, _⟩
  · rw [sr_neg a] at h0; omega
  · exact a
theorem sr_inj {x y : Nat} (hx : x < 18446744073709551616) (hy : y < 18446744073709551616) (h : sr x = sr y) (h0 : sr y ≠ 0) : x = y := by
  rcases Int.lt_or_gt_of_ne h0 with h1 | h1
  · have a := neg_of_sr hx (by omega)
    have b := neg_of_sr hy h1
    rw [sr_neg a, sr_neg b] at h
    rcases neg_rung hx with ⟨_, c⟩ | ⟨c, _⟩
    · rcases neg_rung hy with ⟨_, d⟩ | ⟨d, _⟩
      · omega
      · rw [b] at d; cases d
    · rw [a] at c; cases c
  · have a := pos_of_sr hx (by omega)
    have b := pos_of_sr hy h1
    rw [sr_pos a, sr_pos b] at h
    rcases neg_rung hx with ⟨c, _⟩ | ⟨_, c⟩
    · rw [a] at c; cases c
    · rcases neg_rung hy with ⟨d, _⟩ | ⟨_, d⟩
      · rw [b] at d; cases d
      · omega

/-- a word that was written -/
theorem write_ok (s : Bool) (m : Nat) (p : Int) : double.write (.number s m p) < 18446744073709551616 ∧ nan (double.write (.number s m p)) = false := by
  obtain ⟨r, hr, e⟩ := write_rung s m p
  rw [e]
  cases s
  · simp only [Bool.false_eq_true, if_false]
    exact ⟨by omega, nan_iff.2 (by unfold rung; omega)⟩
  · simp only [if_true]
    exact ⟨by omega, nan_iff.2 (by unfold rung; omega)⟩
theorem sub_some {x y : Nat} (hx : Cln x) (hy : Cln y) : double.sub x y = some (subV x y) ∧ subV x y < 18446744073709551616 ∧ nan (subV x y) = false := by
  obtain ⟨m, k, e, _⟩ := read_fin hx.fin
  obtain ⟨n, l, e', _⟩ := read_fin hy.fin
  have h : ∃ s m p, double.sub x y = some (double.write (.number s m p)) := by
    unfold Format.sub; rw [e, e']; exact ⟨_, _, _, rfl⟩
  obtain ⟨s, m, p, h⟩ := h
  unfold subV
  rw [h]
  exact ⟨rfl, write_ok _ _ _⟩
theorem add_some {x y : Nat} (hx : Cln x) (hy : Cln y) : double.add x y = some (addV x y) ∧ addV x y < 18446744073709551616 ∧ nan (addV x y) = false := by
  obtain ⟨m, k, e, _⟩ := read_fin hx.fin
  obtain ⟨n, l, e', _⟩ := read_fin hy.fin
  have h : ∃ s m p, double.add x y = some (double.write (.number s m p)) := by
    unfold Format.add; rw [e, e']; exact ⟨_, _, _, rfl⟩
  obtain ⟨s, m, p, h⟩ := h
  unfold addV
  rw [h]
  exact ⟨rfl, write_ok _ _ _⟩
theorem mul_some {x y : Nat} (hx : Cln x) (hy : Cln y) : double.mul x y = some (mulV x y) ∧ mulV x y < 18446744073709551616 ∧ nan (mulV x y) = false := by
  obtain ⟨m, k, e, _⟩ := read_fin hx.fin
  obtain ⟨n, l, e', _⟩ := read_fin hy.fin
  have h : ∃ s m p, double.mul x y = some (double.write (.number s m p)) := by
    unfold Format.mul; rw [e, e']; exact ⟨_, _, _, rfl⟩
  obtain ⟨s, m, p, h⟩ := h
  unfold mulV
  rw [h]
  exact ⟨rfl, write_ok _ _ _⟩
theorem held_cln (s : Nat) (h : s < 18446744073709551616) : Cln (heldV s) := by
  unfold heldV
  split
  · exact cln0
  · split
    · exact cln_lit _ (by decide)
    · exact cl_cln h
theorem step_cln (a x s : Nat) (ha : a < 18446744073709551616) (hx : x < 18446744073709551616) (hs : s < 18446744073709551616) : Cln (step a x s) := by
  unfold step
  split
  · exact cl_cln ha
  · split
    · exact cl_cln hx
    · exact cl_cln (add_some (cl_cln ha) (cl_cln (mul_some (held_cln s hs) (cl_cln (sub_some (cl_cln hx) (cl_cln ha)).2.1)).2.1)).2.1

theorem write_zero (s : Bool) (p : Int) : double.write (.number s 0 p) = if s then 9223372036854775808 else 0 := by
  cases s <;> simp [Format.write, Format.nearest, Format.word, d_sw]
theorem cl_zero (s : Bool) : cl (if s then 9223372036854775808 else 0) = 0 := by cases s <;> decide

theorem sub_self {a : Nat} (h : Cln a) : cl (subV a a) = 0 := by
  obtain ⟨m, k, e, _⟩ := read_fin h.fin
  have h2 : double.sub a a = some (double.write (.number (neg a && !neg a) 0 (min (-1074 + (k : Int)) (-1074 + (k : Int))))) := by
    unfold Format.sub; rw [e]
    simp only [Datum.opposite, Datum.sum]
    have hz : signed (neg a) m (-1074 + (k : Int) - min (-1074 + (k : Int)) (-1074 + (k : Int))).toNat + signed (!neg a) m (-1074 + (k : Int) - min (-1074 + (k : Int)) (-1074 + (k : Int))).toNat = 0 := by
      unfold signed
      cases neg a <;> simp <;> omega
    rw [hz]
    simp
  unfold subV
  rw [h2]
  simp only [Option.getD_some]
  rw [write_zero, cl_zero]
theorem mul_zero {a : Nat} (h : Cln a) : cl (mulV a 0) = 0 := by
  obtain ⟨m, k, e, _⟩ := read_fin h.fin
  have e0 : double.read 0 = .number false 0 (-1074) := by decide
  have h2 : double.mul a 0 = some (double.write (.number (neg a ^^ false) 0 (-1074 + (k : Int) + -1074))) := by
    unfold Format.mul; rw [e, e0]
    rfl
  unfold mulV
  rw [h2]
  simp only [Option.getD_some]
  rw [write_zero, cl_zero]

theorem signed_abs (s : Bool) (m k : Nat) : (signed s m k).natAbs = m <<< k := by
  unfold signed
  generalize m <<< k = x
  cases s
  · show (x : Int).natAbs = x; omega
  · show (-(x : Int)).natAbs = x; omega
theorem signed_neg (s : Bool) {m k : Nat} (h : 0 < m <<< k) : decide (signed s m k < 0) = s := by
  unfold signed
  generalize m <<< k = x at h ⊢
  cases s
  · rw [decide_eq_false_iff_not]; simp only [Bool.false_eq_true, if_false]; omega
  · rw [decide_eq_true_eq]; simp only [if_true]; omega
theorem log2_mag {r : Nat} (h : 4503599627370496 ≤ r) : (mag r).log2 = 52 + (r / 4503599627370496 - 1) := by
  unfold mag
  rw [if_neg (by omega)]
  generalize r / 4503599627370496 - 1 = e
  have hm : r % 4503599627370496 < 4503599627370496 := Nat.mod_lt _ (by omega)
  have hne : (4503599627370496 + r % 4503599627370496) <<< e ≠ 0 := by
    rw [Nat.shiftLeft_eq]; exact Nat.ne_of_gt (Nat.mul_pos (by omega) (Nat.two_pow_pos _))
  refine (Nat.log2_eq_iff hne).2 ⟨?_, ?_⟩
  · rw [Nat.shiftLeft_eq, Nat.pow_add]
    exact Nat.mul_le_mul_right _ (by show 4503599627370496 ≤ _; omega)
  · rw [Nat.shiftLeft_eq, show 52 + e + 1 = 53 + e by omega, Nat.pow_add]
    exact Nat.mul_lt_mul_of_pos_right (by show _ < 9007199254740992; omega) (Nat.two_pow_pos _)
theorem cut_exact (s : Bool) (q d L : Nat) (hL : (q <<< d).log2 + 2 ≥ d) (h : q <<< d = L) : Toward.even.cut s L d = q := by
  subst h
  unfold Toward.cut
  rw [Nat.min_eq_left hL]
  have hg : (1 <<< d : Nat) = 2 ^ d := by rw [Nat.shiftLeft_eq, Nat.one_mul]
  have h1 : (q <<< d) % 2 ^ d = 0 := by rw [Nat.shiftLeft_eq]; exact Nat.mul_mod_left _ _
  have h2 : (q <<< d) / 2 ^ d = q := by rw [Nat.shiftLeft_eq]; exact Nat.mul_div_cancel _ (Nat.two_pow_pos _)
  simp only [hg, h1, h2]
  have hp : 2 ^ d ≠ 0 := Nat.ne_of_gt (Nat.two_pow_pos _)
  simp [hp]
/-- a word's own magnitude writes the word -/
theorem nearest_mag (s : Bool) {r : Nat} (h0 : 0 < r) (h : r < 9218868437227405312) : double.nearest s (mag r) (-1074) = double.word s r := by
  have hp := mag_pos h0
  unfold Format.nearest
  rw [if_neg (by omega), d_lp, d_fb, d_bin, d_inf]
  by_cases hs : r < 4503599627370496
  · have hm : mag r = r := by unfold mag; rw [if_pos hs]
    have hl : r.log2 < 52 := by rw [Nat.log2_lt (by omega)]; exact hs
    rw [hm]
    have hmax : max (-1074 + (r.log2 : Int) - ((52 : Nat) : Int)) (-1074) = -1074 := by omega
    simp only [hmax]
    rw [show ((-1074 : Int) - -1074).toNat = 0 by rfl, Nat.shiftLeft_zero, cut_exact s r 0 r (by omega) (by simp), Nat.zero_mul, Nat.zero_add, Nat.min_eq_left (by omega)]
  · have hl := log2_mag (show 4503599627370496 ≤ r by omega)
    have hq1 : 1 ≤ r / 4503599627370496 := by omega
    rw [hl]
    obtain ⟨e, he⟩ : ∃ e, r / 4503599627370496 - 1 = e := ⟨_, rfl⟩
    rw [he]
    have hmax : max (-1074 + ((52 + e : Nat) : Int) - ((52 : Nat) : Int)) (-1074) = -1074 + (e : Int) := by omega
    simp only [hmax]
    rw [show ((-1074 : Int) - (-1074 + (e : Int))).toNat = 0 by omega, show ((-1074 + (e : Int)) - -1074).toNat = e by omega, Nat.shiftLeft_zero]
    have hm : mag r = (4503599627370496 + r % 4503599627370496) <<< e := by unfold mag; rw [if_neg hs, he]
    have hc : Toward.even.cut s (mag r) e = 4503599627370496 + r % 4503599627370496 :=
      cut_exact s _ e (mag r) (by rw [← hm, hl, he]; omega) hm.symm
    rw [hc, show e * 4503599627370496 + (4503599627370496 + r % 4503599627370496) = r by omega, Nat.min_eq_left (by omega)]
theorem word_self {x : Nat} (h : x < 18446744073709551616) : double.word (neg x) (rung x) = x := by
  unfold Format.word
  rw [d_sw]
  rcases neg_rung h with ⟨a, b⟩ | ⟨a, b⟩
  · rw [a]; exact b.symm
  · rw [a]; exact b.symm
theorem add_zero {a : Nat} (h : Cln a) : addV a 0 = a := by
  obtain ⟨m, k, e, hm⟩ := read_fin h.fin
  have e0 : double.read 0 = .number false 0 (-1074) := by decide
  have hmin : min (-1074 + (k : Int)) (-1074) = -1074 := by omega
  have h1 : (-1074 + (k : Int) - -1074).toNat = k := by omega
  have hz : signed false 0 ((-1074 : Int) - -1074).toNat = 0 := by decide
  have h2 : double.add a 0 = some a := by
    unfold Format.add; rw [e, e0]
    simp only [Datum.sum, hmin, h1, hz, Int.add_zero, Option.map_some]
    rw [signed_abs, hm]
    by_cases hr : rung a = 0
    · have hneg := h.pos hr
      have ha0 : a = 0 := by
        rcases neg_rung h.lt with ⟨p, _⟩ | ⟨_, q⟩
        · rw [hneg] at p; cases p
        · omega
      rw [hr, mag_zero, hneg, Bool.false_and]
      have hs0 : signed false m k = 0 := by
        have : m <<< k = 0 := by rw [hm, hr, mag_zero]
        unfold signed; simp [this]
      rw [if_pos hs0, write_zero, ha0]
      rfl
    · have hpos := mag_pos (show 0 < rung a by omega)
      have hpos' : 0 < m <<< k := by rw [hm]; exact hpos
      have hne : signed (neg a) m k ≠ 0 := by
        have := signed_abs (neg a) m k
        intro hh; rw [hh] at this; simp at this; omega
      rw [if_neg hne, signed_neg _ hpos']
      show some (double.nearest _ _ _) = _
      rw [nearest_mag _ (by omega) h.fin, word_self h.lt]
  unfold addV
  rw [h2]; rfl

/-- an average that takes itself in stays -/
theorem step_self {a : Nat} (s : Nat) (h : Cln a) (hs : s < 18446744073709551616) : step a a s = a := by
  unfold step
  rw [nan_of_cln h]
  simp only [Bool.false_eq_true, if_false]
  rw [cl_id h, sub_self h, mul_zero (held_cln s hs), add_zero h, cl_id h]
theorem step_nan_x {x : Nat} (a s : Nat) (h : nan x = true) : step a x s = cl a := by unfold step; rw [if_pos h]
theorem step_nan_a {a : Nat} (x s : Nat) (h : nan a = true) : step a x s = cl x := by
  unfold step
  cases hx : nan x
  · simp [h]
  · simp [cl_nan h, cl_nan hx]

/-- keys -/
theorem key_nan {x : Nat} (h : nan x = true) : key x = 18446744073709551615 := by unfold key; rw [if_pos h]
theorem key_num {x : Nat} (h : x < 18446744073709551616) (hn : nan x = false) : (key x : Int) = if sr x < 0 then 9223372036854775807 + sr x else 9223372036854775808 + sr x := by
  have hr := nan_iff.1 hn
  unfold key
  rw [hn]
  simp only [Bool.false_eq_true, if_false]
  by_cases h0 : sr x = 0
  · rw [if_pos h0, if_neg (by omega), h0]; rfl
  · rw [if_neg h0]
    rcases neg_rung h with ⟨a, b⟩ | ⟨a, b⟩
    · have := sr_neg a
      rw [a, if_pos rfl, if_pos (by omega)]
      omega
    · have := sr_pos a
      rw [a, if_neg (by simp), if_neg (by omega)]
      omega
theorem sr_bd2 {x : Nat} (hn : nan x = false) : -9218868437227405312 ≤ sr x ∧ sr x ≤ 9218868437227405312 := by
  have hr := nan_iff.1 hn
  unfold sr; split <;> omega
theorem key_le {x : Nat} (h : x < 18446744073709551616) : key x ≤ 18446744073709551615 := by
  cases hn : nan x
  · have a := key_num h hn; have := sr_bd2 hn; split at a <;> omega
  · rw [key_nan hn]; omega
theorem key_lt_num {x y : Nat} (hx : x < 18446744073709551616) (hy : y < 18446744073709551616) (nx : nan x = false) (ny : nan y = false) : key x < key y ↔ sr x < sr y := by
  have a := key_num hx nx
  have b := key_num hy ny
  split at a <;> split at b <;> omega
theorem key_eq_num {x y : Nat} (hx : x < 18446744073709551616) (hy : y < 18446744073709551616) (nx : nan x = false) (ny : nan y = false) : key x = key y ↔ sr x = sr y := by
  have a := key_num hx nx
  have b := key_num hy ny
  split at a <;> split at b <;> omega
theorem key_lt_nan {x y : Nat} (hx : x < 18446744073709551616) (nx : nan x = false) (ny : nan y = true) : key x < key y := by
  rw [key_nan ny]
  have a := key_num hx nx
  have := sr_bd2 nx
  split at a <;> omega
end Go.Proofs.Ythgcdoiodeagcaa
