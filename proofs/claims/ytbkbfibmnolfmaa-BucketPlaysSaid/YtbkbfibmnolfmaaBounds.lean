/- The walk of the law BucketBounds. -/
import Derived.Test.YtbkbfibmnolfmaaOpen
namespace Go.Proofs.Ytbkbfibmnolfmaa
open Go.RowKit

theorem later_facts {r m no ha dt : Int} (h0 : 0 ≤ r) (h1 : 0 ≤ dt) (h2 : 0 ≤ ha ∧ ha ≤ m) : 0 ≤ later r m no ha (no + dt) ∧ later r m no ha (no + dt) ≤ m ∧ later r m no ha (no + dt) ≤ ha + r * dt ∧ ha ≤ later r m no ha (no + dt) := by
  unfold later
  have e : (no + dt - no) * r = r * dt := by rw [show no + dt - no = dt by omega, Int.mul_comm]
  rw [e]
  have := Int.mul_nonneg h0 h1
  omega
theorem later_zero {r m no ha : Int} (h2 : 0 ≤ ha ∧ ha ≤ m) : later r m no ha no = ha := by
  unfold later
  rw [Int.sub_self, Int.zero_mul]
  omega

theorem last_two {r m no ha kk T : Int} (hr : 1 ≤ r) (h2 : 0 ≤ ha ∧ ha ≤ m) (hk : ha < kk) (hm : kk ≤ m) (hT : T = no + ((kk - ha - 1) / r + 1)) :
    (later r m no ha (T - 1) < kk ∧ 0 ≤ later r m no ha (T - 1) ∧ later r m no ha (T - 1) ≤ m) ∧ kk ≤ later r m (T - 1) (later r m no ha (T - 1)) T := by
  have h3 : (kk - ha - 1) / r * r ≤ kk - ha - 1 := Int.ediv_mul_le _ (by omega)
  have h4 := Int.lt_ediv_add_one_mul_self (kk - ha - 1) (show 0 < r by omega)
  have h5 : 0 ≤ (kk - ha - 1) / r := Int.ediv_nonneg (by omega) (by omega)
  obtain ⟨q, hq⟩ : ∃ q, (kk - ha - 1) / r = q := ⟨_, rfl⟩
  rw [hq] at h3 h4 h5 hT
  rw [Int.add_mul, Int.one_mul] at h4
  have h6 := Int.mul_nonneg h5 (show 0 ≤ r by omega)
  have e1 : later r m no ha (T - 1) = ha + q * r := by
    unfold later
    rw [show T - 1 - no = q by omega]
    omega
  rw [e1]
  refine ⟨by omega, ?_⟩
  unfold later
  rw [show T - (T - 1) = 1 by omega, Int.one_mul]
  omega

/-- The law's own state. -/
structure Bk (w : World) (tb : Nat) (r m no sum ha : Int) (k : Nat) (wr : World) : Prop where
  b : BB wr tb true r m no ha
  kp : Kp (fun j => w.heap.size ≤ j) w wr
  n0 : 0 ≤ no ∧ no ≤ k * 255
  s0 : 0 ≤ sum ∧ sum + ha ≤ m + r * no
  h0 : 0 ≤ ha ∧ ha ≤ m

set_option maxHeartbeats 8000000 in
set_option maxRecDepth 100000 in
theorem bounds_walk (ra ro : Int) (v : Value) (l : List (Int × Int)) (n : Int) (w : World) (hr : 0 ≤ ra ∧ ra ≤ 65535) (hm : 0 ≤ ro ∧ ro ≤ 65535) (hn : 0 ≤ n ∧ n ≤ 65535) (hpa : PA w v l) (hl : l.length ≤ maxLen) :
    Calls Try.prog 3 #[.int .u16 ra, .int .u16 ro, v, .int .u16 n] w fun e w' => e = .returned (.bool true) ∧ Gn w w' := by
  obtain ⟨o, c, rfl⟩ := hpa.shape
  have HPA : Hid _ := hpa
  clear hpa
  unfold maxLen at hl
  have r0 : 0 ≤ ra % 1001 ∧ ra % 1001 ≤ 1000 := by omega
  have m0 : 0 ≤ ro % 1001 ∧ ro % 1001 ≤ 1000 := by omega
  have y1 : may (ra % 1001) = true := by unfold may; simp; omega
  have y2 : may (ro % 1001) = true := by unfold may; simp; omega
  have Y1 : Hid _ := y1
  have Y2 : Hid _ := y2
  clear y1 y2
  by_cases a1 : 40 < l.length
  · have d1 : decide ((40 : Int) < (l.length : Int)) = true := by rw [decide_eq_true_eq]; omega
    go_enter Try.func3, Try.ntmps3
    go_wp2_with (first
      | (go_at_call 5; refine (new_is _ _ _ Y1.out Y2.out).mono ?_; rintro y w1 ⟨tb, rfl, hot, hB, hg⟩; have G1 : Hid _ := hg; clear hB hg)
      | (go_at_call 6; refine (awake_is _).mono ?_; rintro y w' ⟨rfl, q, rfl⟩))
    all_goals first
      | omega
      | (go_ret; exact ⟨rfl, (show Gn w w1 from G1.out).trans (by with_reducible (repeat (first | exact Gn.refl _ | refine Gn.gr ?_ _ | refine Gn.alloc ?_ _ | refine Gn.drew ?_)))⟩)
  have d1 : decide ((40 : Int) < (l.length : Int)) = false := by rw [decide_eq_false_iff_not]; omega
  go_enter Try.func3, Try.ntmps3
  go_wp2_with (first
    | (go_at_call 5; refine (new_is _ _ _ Y1.out Y2.out).mono ?_; rintro y w1 ⟨tb, rfl, hot, hB, hg⟩; have B1 : Hid _ := hB; have G1 : Hid _ := hg; clear hB hg))
  generalize ra % 1001 = r at *
  generalize ro % 1001 = m at *
  have hot' : w.heap.size ≤ tb := hot
  have hst : Bk w tb r m 0 0 m 0 w1 := ⟨B1.out, Kp.of_gn _ G1.out, by omega, by omega, by omega⟩
  have HS : Hid _ := hst
  clear hst B1 G1 hot
  go_loopw [12, 13, 14] (fun a s i wr => ∃ (k : Nat) (no sum ha : Int), k ≤ l.length ∧ i = .int .i64 k ∧ a = .int .i64 no ∧ s = .int .i64 sum ∧ Bk w tb r m no sum ha k wr) (fun _ _ i _ => l.length - (intOf i).toNat)
  case atStart => exact ⟨0, 0, 0, m, by omega, rfl, rfl, rfl, HS.out⟩
  case round =>
    clear HS
    obtain ⟨k, no, sum, ha, hk, rfl, rfl, rfl, hbk⟩ := hrel
    by_cases hlt : k < l.length
    · obtain ⟨b, off, rfl, hc⟩ := PA.row HPA.out (show 0 < l.length by omega)
      have hc' := pcells_kept hc hbk.kp (fun e => by have := hc.1; omega)
      obtain ⟨c0, c1, e0, e1⟩ := hc'.2 k hlt
      have hb := hc'.1
      have hki : (k : Int) < (l.length : Int) := by omega
      obtain ⟨x, hx⟩ : ∃ x, (pe l k).1 = x := ⟨_, rfl⟩
      obtain ⟨z, hz⟩ : ∃ z, (pe l k).2 = z := ⟨_, rfl⟩
      rw [hx] at c0 e0
      rw [hz] at c1 e1
      have n0 := hbk.n0
      have s0 := hbk.s0
      have h0 := hbk.h0
      have hlf := later_facts (no := no) (dt := x) r0.1 e0.1 h0
      obtain ⟨hb2, hhb2⟩ : ∃ h, later r m no ha (no + x) = h := ⟨_, rfl⟩
      have hgo := fun w' (hg : Gn wr w') => go_is tb r m no ha (no + x) w' (hbk.b.grown hg) (by omega) (by omega) (by omega) (by omega) (by omega)
      rw [hhb2] at hlf hgo
      have HGO : Hid (∀ w', _) := hgo
      have HB0 : Hid _ := hbk
      have hbt : b ≠ tb := by have := hc.1; omega
      clear hgo hc hc' hbk
      have hmul : r * (no + x) = r * no + r * x := Int.mul_add _ _ _
      have hpb := mul_in (a := r) (A := 1000) (b := no + x) (B := 20000) ⟨by omega, by omega⟩ ⟨by omega, by omega⟩
      by_cases ht : 4 * z ≤ hb2
      · have hs2 : sum + 4 * z ≤ m + r * (no + x) := by omega
        have dd : decide (m + r * (no + x) < sum + 4 * z) = false := by rw [decide_eq_false_iff_not]; omega
        have de : decide (hb2 - 4 * z < 0) = false := by rw [decide_eq_false_iff_not]; omega
        have df : decide (m < hb2 - 4 * z) = false := by rw [decide_eq_false_iff_not]; omega
        go_wp2_with (first
          | (go_at_call 7; refine (HGO.out _ (by with_reducible (repeat (first | exact Gn.refl _ | refine Gn.gr ?_ _ | refine Gn.alloc ?_ _ | refine Gn.drew ?_)))).mono ?_; rintro y w2 ⟨rfl, hB, hK⟩; have k2 := (Kp.of_gn (fun j => j = tb) (show Gn wr _ from (by with_reducible (repeat (first | exact Gn.refl _ | refine Gn.gr ?_ _ | refine Gn.alloc ?_ _ | refine Gn.drew ?_))))).trans hK; have c1a := k2.cell c1 (fun e => hbt e); have hb2l := World.block_lt_of_cell? w2 _ c1a; have B2 : Hid _ := hB; have K2 : Hid _ := k2; clear hB hK k2)
          | (go_at_call 8; refine (take_is tb r m (no + x) hb2 (4 * z) _ (BB.grown (show BB w2 tb true r m (no + x) hb2 from B2.out) (by with_reducible (repeat (first | exact Gn.refl _ | refine Gn.gr ?_ _ | refine Gn.alloc ?_ _ | refine Gn.drew ?_)))) (by omega) ht (by omega)).mono ?_; rintro y w3 ⟨rfl, hB, hK⟩; have k3 := (Kp.of_gn (fun j => j = tb) (show Gn w2 _ from (by with_reducible (repeat (first | exact Gn.refl _ | refine Gn.gr ?_ _ | refine Gn.alloc ?_ _ | refine Gn.drew ?_))))).trans hK; have c1b := k3.cell c1a (fun e => hbt e); have hb3l := World.block_lt_of_cell? w3 _ c1b; have B3 : Hid _ := hB; have K3 : Hid _ := k3; clear hB hK k3)
          | (go_at_call 9; refine (have_is tb true r m (no + x) (hb2 - 4 * z) _ (BB.grown (show BB w3 tb true r m (no + x) (hb2 - 4 * z) from B3.out) (by with_reducible (repeat (first | exact Gn.refl _ | refine Gn.gr ?_ _ | refine Gn.alloc ?_ _ | refine Gn.drew ?_))))).mono ?_; rintro y w' ⟨rfl, qh, rfl⟩; simp only [if_true]))
        all_goals first
          | omega
          | (go_roundw
             case rel =>
               refine ⟨k + 1, no + x, sum + 4 * z, hb2 - 4 * z, by omega, by go_num, rfl, rfl, ?_⟩
               exact ⟨BB.grown (show BB w3 tb true r m (no + x) (hb2 - 4 * z) from B3.out) (by with_reducible (repeat (first | exact Gn.refl _ | refine Gn.gr ?_ _ | refine Gn.alloc ?_ _ | refine Gn.drew ?_))), ((Bk.kp HB0.out).trans ((K2.out.trans K3.out).mono (S' := fun j => w.heap.size ≤ j) (fun j _ e => by subst e; exact hot'))).gn (by with_reducible (repeat (first | exact Gn.refl _ | refine Gn.gr ?_ _ | refine Gn.alloc ?_ _ | refine Gn.drew ?_))), by omega, by omega, by omega⟩
             case measure => simp [intOf]; omega)
      · have hs2 : sum ≤ m + r * (no + x) := by omega
        have dd : decide (m + r * (no + x) < sum) = false := by rw [decide_eq_false_iff_not]; omega
        have de : decide (hb2 < 0) = false := by rw [decide_eq_false_iff_not]; omega
        have df : decide (m < hb2) = false := by rw [decide_eq_false_iff_not]; omega
        go_wp2_with (first
          | (go_at_call 7; refine (HGO.out _ (by with_reducible (repeat (first | exact Gn.refl _ | refine Gn.gr ?_ _ | refine Gn.alloc ?_ _ | refine Gn.drew ?_)))).mono ?_; rintro y w2 ⟨rfl, hB, hK⟩; have k2 := (Kp.of_gn (fun j => j = tb) (show Gn wr _ from (by with_reducible (repeat (first | exact Gn.refl _ | refine Gn.gr ?_ _ | refine Gn.alloc ?_ _ | refine Gn.drew ?_))))).trans hK; have c1a := k2.cell c1 (fun e => hbt e); have hb2l := World.block_lt_of_cell? w2 _ c1a; have B2 : Hid _ := hB; have K2 : Hid _ := k2; clear hB hK k2)
          | (go_at_call 8; refine (take_no tb true r m (no + x) hb2 (4 * z) _ (BB.grown (show BB w2 tb true r m (no + x) hb2 from B2.out) (by with_reducible (repeat (first | exact Gn.refl _ | refine Gn.gr ?_ _ | refine Gn.alloc ?_ _ | refine Gn.drew ?_)))) (.inr (.inr (by omega)))).mono ?_; rintro y w3 ⟨rfl, qt, rfl⟩)
          | (go_at_call 9; refine (have_is tb true r m (no + x) hb2 _ (BB.grown (show BB w2 tb true r m (no + x) hb2 from B2.out) (by with_reducible (repeat (first | exact Gn.refl _ | refine Gn.gr ?_ _ | refine Gn.alloc ?_ _ | refine Gn.drew ?_))))).mono ?_; rintro y w' ⟨rfl, qh, rfl⟩; simp only [if_true]))
        all_goals first
          | omega
          | (go_roundw
             case rel =>
               refine ⟨k + 1, no + x, sum, hb2, by omega, by go_num, rfl, rfl, ?_⟩
               exact ⟨BB.grown (show BB w2 tb true r m (no + x) hb2 from B2.out) (by with_reducible (repeat (first | exact Gn.refl _ | refine Gn.gr ?_ _ | refine Gn.alloc ?_ _ | refine Gn.drew ?_))), ((Bk.kp HB0.out).trans (K2.out.mono (S' := fun j => w.heap.size ≤ j) (fun j _ e => by subst e; exact hot'))).gn (by with_reducible (repeat (first | exact Gn.refl _ | refine Gn.gr ?_ _ | refine Gn.alloc ?_ _ | refine Gn.drew ?_))), by omega, by omega, by omega⟩
             case measure => simp [intOf]; omega)
    · have hge : k = l.length := by omega
      subst hge
      have n0 := hbk.n0
      have h0 := hbk.h0
      have B0 : Hid _ := hbk.b
      have K0 : Hid _ := hbk.kp
      clear hbk
      have hlen : (l.length : Int) ≤ 40 := by omega
      have k0 : 0 ≤ n % 1100 ∧ n % 1100 ≤ 1099 := by omega
      have hwn : ∀ w', Gn wr w' → _ := fun w' hg => when_is tb r m no ha (n % 1100) w' (BB.grown (show BB wr tb true r m no ha from B0.out) hg) (by omega) (by omega) (by omega) (by omega)
      obtain ⟨kk, hkk⟩ : ∃ kk, n % 1100 = kk := ⟨_, rfl⟩
      by_cases q1 : m < n % 1100
      · have e : whenV r m no ha (n % 1100) = -1 := by unfold whenV; rw [if_pos (by omega)]
        rw [e] at hwn
        have HWN : Hid (∀ w', _) := hwn
        clear hwn hkk e
        have dd : decide (m < n % 1100) = true := by rw [decide_eq_true_eq]; omega
        go_wp2_with (first
          | (go_at_call 10; refine (HWN.out _ (by with_reducible (repeat (first | exact Gn.refl _ | refine Gn.gr ?_ _ | refine Gn.alloc ?_ _ | refine Gn.drew ?_)))).mono ?_; rintro y w' ⟨rfl, qw, rfl⟩)
          | (go_at_call 6; refine (awake_is _).mono ?_; rintro y w' ⟨rfl, qa, rfl⟩))
        all_goals first
          | omega
          | (go_ret; exact ⟨rfl, ((show Kp (fun j => w.heap.size ≤ j) w wr from K0.out).gn (show Gn wr _ from (by with_reducible (repeat (first | exact Gn.refl _ | refine Gn.gr ?_ _ | refine Gn.alloc ?_ _ | refine Gn.drew ?_))))).to_gn (fun _ h => h)⟩)
      have dd : decide (m < n % 1100) = false := by rw [decide_eq_false_iff_not]; omega
      by_cases q2 : n % 1100 ≤ ha
      · have e : whenV r m no ha (n % 1100) = no := by unfold whenV; rw [if_neg (by omega), if_pos q2]
        rw [e] at hwn
        have HWN : Hid (∀ w', _) := hwn
        clear hwn hkk e
        have hgo := fun w' (hg : Gn wr w') => go_is tb r m no ha no w' (BB.grown (show BB wr tb true r m no ha from B0.out) hg) (by omega) (by omega) (by omega) (by omega) (by omega)
        rw [later_zero h0] at hgo
        have HGO : Hid (∀ w', _) := hgo
        clear hgo
        have d2 : decide (no < 0) = false := by rw [decide_eq_false_iff_not]; omega
        have d3 : decide (n % 1100 ≤ ha) = true := by rw [decide_eq_true_eq]; omega
        go_wp2_with (first
          | (go_at_call 10; refine (HWN.out _ (by with_reducible (repeat (first | exact Gn.refl _ | refine Gn.gr ?_ _ | refine Gn.alloc ?_ _ | refine Gn.drew ?_)))).mono ?_; rintro y w' ⟨rfl, qw, rfl⟩)
          | (go_at_call 7; refine (HGO.out _ (by with_reducible (repeat (first | exact Gn.refl _ | refine Gn.gr ?_ _ | refine Gn.alloc ?_ _ | refine Gn.drew ?_)))).mono ?_; rintro y w2 ⟨rfl, hB, hK⟩; have B2 : Hid _ := hB; have K2 : Hid _ := (Kp.of_gn (fun j => j = tb) (show Gn wr _ from (by with_reducible (repeat (first | exact Gn.refl _ | refine Gn.gr ?_ _ | refine Gn.alloc ?_ _ | refine Gn.drew ?_))))).trans hK; clear hB hK)
          | (go_at_call 9; refine (have_is tb true r m no ha _ (BB.grown (show BB w2 tb true r m no ha from B2.out) (by with_reducible (repeat (first | exact Gn.refl _ | refine Gn.gr ?_ _ | refine Gn.alloc ?_ _ | refine Gn.drew ?_))))).mono ?_; rintro y w' ⟨rfl, qh, rfl⟩; simp only [if_true])
          | (go_at_call 6; refine (awake_is _).mono ?_; rintro y w' ⟨rfl, qa, rfl⟩))
        all_goals first
          | omega
          | (go_ret; exact ⟨rfl, (((show Kp (fun j => w.heap.size ≤ j) w wr from K0.out).trans (K2.out.mono (S' := fun j => w.heap.size ≤ j) (fun j _ e => by subst e; exact hot'))).gn (show Gn w2 _ from (by with_reducible (repeat (first | exact Gn.refl _ | refine Gn.gr ?_ _ | refine Gn.alloc ?_ _ | refine Gn.drew ?_))))).to_gn (fun _ h => h)⟩)
      by_cases q3 : r = 0
      · have e : whenV r m no ha (n % 1100) = -1 := by unfold whenV; rw [if_neg (by omega), if_neg q2, if_pos q3]
        rw [e] at hwn
        have HWN : Hid (∀ w', _) := hwn
        clear hwn hkk e
        have db : (r == 0) = true := by rw [q3]; rfl
        have d3 : decide (ha < n % 1100) = true := by rw [decide_eq_true_eq]; omega
        go_wp2_with (first
          | (go_at_call 10; refine (HWN.out _ (by with_reducible (repeat (first | exact Gn.refl _ | refine Gn.gr ?_ _ | refine Gn.alloc ?_ _ | refine Gn.drew ?_)))).mono ?_; rintro y w' ⟨rfl, qw, rfl⟩)
          | (go_at_call 9; refine (have_is tb true r m no ha _ (BB.grown (show BB wr tb true r m no ha from B0.out) (by with_reducible (repeat (first | exact Gn.refl _ | refine Gn.gr ?_ _ | refine Gn.alloc ?_ _ | refine Gn.drew ?_))))).mono ?_; rintro y w' ⟨rfl, qh, rfl⟩; simp only [if_true])
          | (go_at_call 6; refine (awake_is _).mono ?_; rintro y w' ⟨rfl, qa, rfl⟩))
        all_goals first
          | omega
          | (go_ret; exact ⟨rfl, ((show Kp (fun j => w.heap.size ≤ j) w wr from K0.out).gn (show Gn wr _ from (by with_reducible (repeat (first | exact Gn.refl _ | refine Gn.gr ?_ _ | refine Gn.alloc ?_ _ | refine Gn.drew ?_))))).to_gn (fun _ h => h)⟩)
      obtain ⟨T, hT⟩ : ∃ T, no + ((n % 1100 - ha - 1) / r + 1) = T := ⟨_, rfl⟩
      have hq0 : 0 ≤ (n % 1100 - ha - 1) / r := Int.ediv_nonneg (by omega) (by omega)
      have hq1 : (n % 1100 - ha - 1) / r ≤ n % 1100 - ha - 1 := Int.ediv_le_self _ (by omega)
      have hT1 : no < T ∧ T ≤ 20000 := by omega
      have e : whenV r m no ha (n % 1100) = T := by unfold whenV; rw [if_neg (by omega), if_neg q2, if_neg q3, hT, if_neg (by omega)]
      rw [e] at hwn
      have HWN : Hid (∀ w', _) := hwn
      have hlt2 := last_two (show 1 ≤ r by omega) h0 (show ha < n % 1100 by omega) (show n % 1100 ≤ m by omega) hT.symm
      have hgo := fun w' (hg : Gn wr w') => go_is tb r m no ha (T - 1) w' (BB.grown (show BB wr tb true r m no ha from B0.out) hg) (by omega) (by omega) (by omega) (by omega) (by omega)
      obtain ⟨h1, hh1⟩ : ∃ h, later r m no ha (T - 1) = h := ⟨_, rfl⟩
      rw [hh1] at hlt2 hgo
      obtain ⟨h2, hh2⟩ : ∃ h, later r m (T - 1) h1 T = h := ⟨_, rfl⟩
      rw [hh2] at hlt2
      have HGO : Hid (∀ w', _) := hgo
      have HH2 : Hid _ := hh2
      clear hwn hkk e hgo hT hq0 hq1 hh1 hh2
      have d2 : decide (T < 0) = false := by rw [decide_eq_false_iff_not]; omega
      have d3 : decide (no < T) = true := by rw [decide_eq_true_eq]; omega
      have d4 : decide (n % 1100 ≤ h1) = false := by rw [decide_eq_false_iff_not]; omega
      have d5 : decide (no ≤ T) = true := by rw [decide_eq_true_eq]; omega
      have d6 : decide (n % 1100 ≤ h2) = true := by rw [decide_eq_true_eq]; omega
      have t1 : Hid True := trivial
      have t2 : Hid True := trivial
      go_wp2_with (first
        | (go_at_call 10; refine (HWN.out _ (by with_reducible (repeat (first | exact Gn.refl _ | refine Gn.gr ?_ _ | refine Gn.alloc ?_ _ | refine Gn.drew ?_)))).mono ?_; rintro y w' ⟨rfl, qw, rfl⟩)
        | (go_at_call 7; clear t1; refine (HGO.out _ (by with_reducible (repeat (first | exact Gn.refl _ | refine Gn.gr ?_ _ | refine Gn.alloc ?_ _ | refine Gn.drew ?_)))).mono ?_; rintro y w2 ⟨rfl, hB, hK⟩; have B2 : Hid _ := hB; have K2 : Hid _ := (Kp.of_gn (fun j => j = tb) (show Gn wr _ from (by with_reducible (repeat (first | exact Gn.refl _ | refine Gn.gr ?_ _ | refine Gn.alloc ?_ _ | refine Gn.drew ?_))))).trans hK; clear hB hK)
        | (go_at_call 9; clear t2; refine (have_is tb true r m (T - 1) h1 _ (BB.grown (show BB w2 tb true r m (T - 1) h1 from B2.out) (by with_reducible (repeat (first | exact Gn.refl _ | refine Gn.gr ?_ _ | refine Gn.alloc ?_ _ | refine Gn.drew ?_))))).mono ?_; rintro y w' ⟨rfl, qh, rfl⟩; simp only [if_true])
        | (go_at_call 7; refine (go_is tb r m (T - 1) h1 T _ (BB.grown (show BB w2 tb true r m (T - 1) h1 from B2.out) (by with_reducible (repeat (first | exact Gn.refl _ | refine Gn.gr ?_ _ | refine Gn.alloc ?_ _ | refine Gn.drew ?_)))) (by omega) (by omega) (by omega) (by omega) (by omega)).mono ?_; rintro y w3 ⟨rfl, hB, hK⟩; rw [HH2.out] at hB; have B3 : Hid _ := hB; have K3 : Hid _ := (Kp.of_gn (fun j => j = tb) (show Gn w2 _ from (by with_reducible (repeat (first | exact Gn.refl _ | refine Gn.gr ?_ _ | refine Gn.alloc ?_ _ | refine Gn.drew ?_))))).trans hK; clear hB hK)
        | (go_at_call 9; refine (have_is tb true r m T h2 _ (BB.grown (show BB w3 tb true r m T h2 from B3.out) (by with_reducible (repeat (first | exact Gn.refl _ | refine Gn.gr ?_ _ | refine Gn.alloc ?_ _ | refine Gn.drew ?_))))).mono ?_; rintro y w' ⟨rfl, qh, rfl⟩; simp only [if_true])
        | (go_at_call 6; refine (awake_is _).mono ?_; rintro y w' ⟨rfl, qa, rfl⟩))
      all_goals first
        | omega
        | (go_ret; exact ⟨rfl, (((show Kp (fun j => w.heap.size ≤ j) w wr from K0.out).trans ((K2.out.trans K3.out).mono (S' := fun j => w.heap.size ≤ j) (fun j _ e => by subst e; exact hot'))).gn (show Gn w3 _ from (by with_reducible (repeat (first | exact Gn.refl _ | refine Gn.gr ?_ _ | refine Gn.alloc ?_ _ | refine Gn.drew ?_))))).to_gn (fun _ h => h)⟩)
end Go.Proofs.Ytbkbfibmnolfmaa
