/- Pairs of sets; grown. -/
import Derived.Test.YtoaefmnjndklkaaDoorPB47
import Derived.Deep.RegionHeld3
namespace Go.Proofs.YtoaefmnjndklkaaDoor
open Go.RowKit

/-- A set with the numbers m, and a reference's set with the numbers m'. -/
def Pr (w0 w : World) (sb g xb N : Nat) (m m' : Nat → Bool) : Prop :=
  ST w sb g N m ∧ RS w xb (fun k => k ≠ g ∧ k ≠ sb) N (nums m' N) ∧ (xb ≠ g ∧ xb ≠ sb) ∧ (w0.heap.size ≤ g ∧ w0.heap.size ≤ xb ∧ w0.heap.size ≤ sb) ∧ (∀ j, m' j = true → j < N) ∧ Gn w0 w
section
variable {w0 w w' : World} {sb g xb N : Nat} {m m' : Nat → Bool}
theorem Pr.gn (h : Pr w0 w sb g xb N m m') (hg : Gn w w') : Pr w0 w' sb g xb N m m' := ⟨h.1.gn hg, h.2.1.gn hg, h.2.2.1, h.2.2.2.1, h.2.2.2.2.1, h.2.2.2.2.2.trans hg⟩
theorem Pr.gnw (h : Pr w0 w sb g xb N m m') : Gn w0 w := h.2.2.2.2.2
theorem Pr.one {m2 : Nat → Bool} (h : Pr w0 w sb g xb N m m') (hs : ST w' sb g N m2) (hk : Kp (fun k => k = g) w w') : Pr w0 w' sb g xb N m2 m' := by
  obtain ⟨a, b, c, d, e, f⟩ := h
  exact ⟨hs, b.kept hk (fun e => c.1 e) (fun k _ e e2 => e.1 e2), c, d, e, ((Kp.of_gn (fun k => w0.heap.size ≤ k) f).trans (hk.mono (fun k _ e => by subst e; exact d.1))).to_gn (fun k e => e)⟩
theorem Pr.two {m2 : Nat → Bool} {Q : Nat → Prop} (h : Pr w0 w sb g xb N m m') (hs : RS w' xb Q N (nums m2 N)) (hq : ∀ k, Q k → (k ≠ g ∧ k ≠ sb) ∨ w.heap.size ≤ k) (hb : ∀ j, m2 j = true → j < N) (hk : Kp (fun k => k = xb) w w') : Pr w0 w' sb g xb N m m2 := by
  obtain ⟨a, b, c, d, e, f⟩ := h
  have hl := a.lt
  refine ⟨a.kept hk (fun e => c.2 e.symm) (fun e => c.1 e.symm), hs.mono (fun k _ e => ?_), c, d, hb, ((Kp.of_gn (fun k => w0.heap.size ≤ k) f).trans (hk.mono (fun k _ e => by subst e; exact d.2.1))).to_gn (fun k e => e)⟩
  rcases hq k e with h2 | h2
  · exact h2
  · exact ⟨by omega, by omega⟩
theorem cmm_bound {n : Int} (hb : ∀ j, m j = true → j < N) : ∀ j, cmm m n j = true → j < N := fun j h => by
  unfold cmm at h
  simp only [Bool.and_eq_true] at h
  exact hb j h.1
theorem pmm_bound {n : Int} (hb : ∀ j, m j = true → j < N) : ∀ j, pmm m N n j = true → j < N := fun j h => by
  unfold pmm at h
  simp only [Bool.or_eq_true, decide_eq_true_eq] at h
  rcases h with h | h
  · exact hb j h
  · exact h.2
theorem pr_cut1 (n : Int) (h : Pr w0 w sb g xb N m m') (hN : N ≤ 4096) : Calls Tryd.prog 32 #[.pointer (some ⟨sb, 0, none⟩), .int .i64 n] w fun e w' => e = .returned (.bool (hasB m n)) ∧ Pr w0 w' sb g xb N (cmm m n) m' ∧ Kp (fun k => k = g) w w' :=
  (cut_any w sb g N m n h.1 hN).mono fun _ _ e => ⟨e.1, h.one e.2.1 e.2.2, e.2.2⟩
theorem pr_put1 (n : Int) (h : Pr w0 w sb g xb N m m') (hN : N ≤ 4096) : Calls Tryd.prog 7 #[.pointer (some ⟨sb, 0, none⟩), .int .i64 n] w fun e w' => e = .returned (.bool (okP m N n)) ∧ Pr w0 w' sb g xb N (pmm m N n) m' ∧ Kp (fun k => k = g) w w' :=
  (putp_any w sb g N m n h.1 hN).mono fun _ _ e => ⟨e.1, h.one e.2.1 e.2.2, e.2.2⟩
theorem pr_cut2 (n : Int) (h : Pr w0 w sb g xb N m m') (hN : N ≤ 4096) : Calls Tryd.prog 33 #[.pointer (some ⟨xb, 0, none⟩), .int .i64 n] w fun e w' => e = .returned (.bool (hasB m' n)) ∧ Pr w0 w' sb g xb N m (cmm m' n) ∧ Kp (fun k => k = xb) w w' :=
  (rcutp_any w xb _ N m' n h.2.1 h.2.2.2.2.1 hN).mono fun _ _ e => ⟨e.1, h.two e.2.1 (fun k e => .inr e) (cmm_bound h.2.2.2.2.1) e.2.2, e.2.2⟩
theorem pr_put2 (n : Int) (h : Pr w0 w sb g xb N m m') (hN : N ≤ 4096) : Calls Tryd.prog 17 #[.pointer (some ⟨xb, 0, none⟩), .int .i64 n] w fun e w' => e = .returned (.bool (okP m' N n)) ∧ Pr w0 w' sb g xb N m (pmm m' N n) ∧ Kp (fun k => k = xb) w w' :=
  (rputp_any w xb _ N m' n h.2.1 h.2.2.2.2.1 hN).mono fun _ _ e => ⟨e.1, by
    obtain ⟨Q, h1, h2⟩ := e.2.1
    exact h.two h1 h2 (pmm_bound h.2.2.2.2.1) e.2.2, e.2.2⟩
end
/-! ### steps -/
def pe (l : List (Int × Int)) (k : Nat) : Int × Int := (l[k]?).getD (0, 0)
def PC (w : World) (b off : Nat) (l : List (Int × Int)) : Prop := b < w.heap.size ∧ ∀ k, k < l.length → w.cell? ⟨b, off + k * 2, none⟩ = some (.int .i64 (pe l k).1) ∧ w.cell? ⟨b, off + k * 2 + 1, none⟩ = some (.int .i64 (pe l k).2)
def PA (w : World) (v : Value) (l : List (Int × Int)) : Prop := (∃ o c, l = [] ∧ v = .slice o 0 c) ∨ ∃ b off cap, v = .slice (some ⟨b, off, none⟩) l.length cap ∧ PC w b off l
theorem PA.shape {w : World} {v : Value} {l : List (Int × Int)} (h : PA w v l) : ∃ o c, v = .slice o l.length c := by
  rcases h with ⟨o, c, rfl, rfl⟩ | ⟨b, off, cap, rfl, _⟩ <;> exact ⟨_, _, rfl⟩
theorem PA.row {w : World} {v : Value} {l : List (Int × Int)} (h : PA w v l) (hp : 0 < l.length) : ∃ b off cap, v = .slice (some ⟨b, off, none⟩) l.length cap ∧ PC w b off l := by
  rcases h with ⟨_, _, rfl, _⟩ | h
  · simp at hp
  · exact h
theorem PA.gn {w w' : World} {v : Value} {l : List (Int × Int)} (h : PA w v l) (hg : Gn w w') : PA w' v l := by
  rcases h with h | ⟨b, off, cap, rfl, hb, hc⟩
  · exact .inl h
  · exact .inr ⟨b, off, cap, rfl, Nat.lt_of_lt_of_le hb hg.size, fun k hk => ⟨gn_cell hg (hc k hk).1, gn_cell hg (hc k hk).2⟩⟩
/-- What k steps leave. -/
def gstep (N : Nat) (m : Nat → Bool) (s : Int × Int) : Nat → Bool := if s.1 = 2 then cmm m s.2 else pmm m N s.2
def gr (N : Nat) (l : List (Int × Int)) : Nat → Nat → Bool
  | 0 => fun _ => false
  | k + 1 => gstep N (gr N l k) (pe l k)
def GrPost (w : World) (N : Nat) (m : Nat → Bool) (e : Ending) (w' : World) : Prop := ∃ sb g xb, e = .returned (.tuple #[.pointer (some ⟨sb, 0, none⟩), .pointer (some ⟨xb, 0, none⟩), .bool true]) ∧ Pr w w' sb g xb N m m
set_option maxHeartbeats 4000000 in
theorem grown_any (w : World) (N : Nat) (v : Value) (l : List (Int × Int)) (hv : PA w v l) (hl : l.length ≤ 40) (hN : N ≤ 4096) :
    Calls Tryd.prog 16 #[.int .i64 (N : Int), v] w (GrPost w N (gr N l l.length)) := by
  obtain ⟨o, c, rfl⟩ := hv.shape
  have HV : Hid (PA w (.slice o l.length c) l) := hv
  clear hv
  go_enter Tryd.func16, Tryd.ntmps16
  go_upto_region 2 with (go_at_call 6; refine Calls.mono (new_ok w N hN) ?_; rintro _ w1 ⟨sb, rfl, h1, h2, g, h3, h4⟩; have HS1 : Hid (ST w1 sb g N (fun _ => false)) := h3; have HG1 : Hid (Gn w w1) := h2; clear h2 h3)
  have H0 : Hid (Pr w (w1.alloc (.cells #[.int .i64 (N : Int), .slice none 0 0] 38)) sb g w1.heap.size N (fun _ => false) (fun _ => false)) := by
    have a1 := HS1.out.lt
    have a2 := HG1.out.size
    have hnil : nums (fun _ => false) N = [] := by
      apply List.eq_nil_iff_forall_not_mem.2
      intro x hx
      have := (nums_mem.1 hx).2.2
      cases this
    refine ⟨HS1.out.gn ((Gn.refl _).alloc _), ?_, ⟨by omega, by omega⟩, ⟨h4, a2, h1⟩, fun j h => (by cases h), HG1.out.alloc _⟩
    rw [hnil]
    exact ⟨_, heap_alloc_new _ _, IR.nil _ _, fun k e => by cases e⟩
  clear HS1 HG1 h1 h4
  generalize w1.heap.size = xb at *
  generalize w1.alloc _ = w2 at *
  go_wp2
  go_loopw [9] (fun i wr => ∃ k : Nat, k ≤ l.length ∧ i = .int .i64 k ∧ Pr w wr sb g xb N (gr N l k) (gr N l k)) (fun i _ => l.length - (intOf i).toNat)
  case atStart => exact ⟨0, by omega, rfl, H0.out⟩
  case round =>
    clear H0
    obtain ⟨k, hk, rfl, hP⟩ := hrel
    have HP : Hid (Pr w wr sb g xb N (gr N l k) (gr N l k)) := hP
    have HG : Hid (Gn w wr) := hP.gnw
    obtain ⟨_, _, _, ⟨hg0, hx0, hs0⟩, _⟩ := hP
    by_cases hkl : k < l.length
    · obtain ⟨b, off, cap, he, hb, hc⟩ := (HV.out.gn HG.out).row (by omega)
      cases he
      have hbw : b < w.heap.size := by
        obtain ⟨b', off', cap', he', hb', _⟩ := HV.out.row (by omega)
        cases he'
        exact hb'
      obtain ⟨d0, d1⟩ := hc k hkl
      have HS : Hid (gr N l (k + 1) = if (pe l k).1 = 2 then cmm (gr N l k) (pe l k).2 else pmm (gr N l k) N (pe l k).2) := rfl
      have hki : (k : Int) < (l.length : Int) := by omega
      generalize (pe l k).1 = kd at *
      generalize (pe l k).2 = n at *
      generalize gr N l k = m at *
      clear hc
      by_cases hkd : kd = 2
      · subst hkd
        have HS2 : Hid (gr N l (k + 1) = cmm m n) := HS.out
        go_wp2
        go_region_held3 (fun w' => w'.cell? ⟨b, off + k * 2 + 1, none⟩ = some (.int .i64 n)) (first | go_keep | assumption)
          (first
            | (go_at_call 32; refine Calls.mono (pr_cut1 n (HP.out.gn (by with_reducible (repeat (first | exact Gn.refl _ | refine Gn.gr ?_ _ | refine Gn.alloc ?_ _ | refine Gn.drew ?_)))) hN) ?_; rintro _ w3 ⟨rfl, h1, h2⟩; have HP3 : Hid (Pr w w3 sb g xb N (cmm m n) m) := h1; have d3 := h2.cell (gn_cell (by with_reducible (repeat (first | exact Gn.refl _ | refine Gn.gr ?_ _ | refine Gn.alloc ?_ _ | refine Gn.drew ?_))) d1) (fun e => by omega); clear h1 h2)
            | (go_at_call 33; refine Calls.mono (pr_cut2 n (HP3.out.gn (by with_reducible (repeat (first | exact Gn.refl _ | refine Gn.gr ?_ _ | refine Gn.alloc ?_ _ | refine Gn.drew ?_)))) hN) ?_; rintro _ w4 ⟨rfl, h1, h2⟩; have HP4 : Hid (Pr w w4 sb g xb N (cmm m n) (cmm m n)) := h1; have d4 := h2.cell (gn_cell (by with_reducible (repeat (first | exact Gn.refl _ | refine Gn.gr ?_ _ | refine Gn.alloc ?_ _ | refine Gn.drew ?_))) d3) (fun e => by omega); clear h1 h2))
        all_goals
          go_wp2
          go_roundw
          case rel => exact ⟨k + 1, by omega, by go_num, by rw [HS2.out]; exact HP4.out⟩
          case measure => simp [intOf]; omega
      · have HS2 : Hid (gr N l (k + 1) = pmm m N n) := by
          have := HS.out
          rw [if_neg hkd] at this
          exact this
        have t1 : (kd == 2) = false := by simp [hkd]
        go_wp2
        go_region_held3 (fun w' => w'.cell? ⟨b, off + k * 2 + 1, none⟩ = some (.int .i64 n)) (first | go_keep | assumption)
          (first
            | (go_at_call 7; refine Calls.mono (pr_put1 n (HP.out.gn (by with_reducible (repeat (first | exact Gn.refl _ | refine Gn.gr ?_ _ | refine Gn.alloc ?_ _ | refine Gn.drew ?_)))) hN) ?_; rintro _ w3 ⟨rfl, h1, h2⟩; have HP3 : Hid (Pr w w3 sb g xb N (pmm m N n) m) := h1; have d3 := h2.cell (gn_cell (by with_reducible (repeat (first | exact Gn.refl _ | refine Gn.gr ?_ _ | refine Gn.alloc ?_ _ | refine Gn.drew ?_))) d1) (fun e => by omega); clear h1 h2)
            | (go_at_call 17; refine Calls.mono (pr_put2 n (HP3.out.gn (by with_reducible (repeat (first | exact Gn.refl _ | refine Gn.gr ?_ _ | refine Gn.alloc ?_ _ | refine Gn.drew ?_)))) hN) ?_; rintro _ w4 ⟨rfl, h1, h2⟩; have HP4 : Hid (Pr w w4 sb g xb N (pmm m N n) (pmm m N n)) := h1; have d4 := h2.cell (gn_cell (by with_reducible (repeat (first | exact Gn.refl _ | refine Gn.gr ?_ _ | refine Gn.alloc ?_ _ | refine Gn.drew ?_))) d3) (fun e => by omega); clear h1 h2))
        all_goals
          go_wp2
          go_roundw
          case rel => exact ⟨k + 1, by omega, by go_num, by rw [HS2.out]; exact HP4.out⟩
          case measure => simp [intOf]; omega
    · obtain rfl : k = l.length := by omega
      go_wp2
      go_ret3
      exact ⟨sb, g, xb, rfl, HP.out⟩
end Go.Proofs.YtoaefmnjndklkaaDoor
