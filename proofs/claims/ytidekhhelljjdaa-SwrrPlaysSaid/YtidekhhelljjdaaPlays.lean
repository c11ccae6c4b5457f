/- The walk of the law SwrrPlays. -/
import Derived.Test.YtidekhhelljjdaaPlA
namespace Go.Proofs.Ytidekhhelljjdaa
open Go.RowKit

/-- The three arguments: lists, versions, numbers of turns. -/
def A0 (w : World) (o : Option Addr) (n : Nat) (V : Nat → Value) (L : Nat → List B) : Prop :=
  ∀ i, i < n → ∃ b off, o = some ⟨b, off, none⟩ ∧ w.cell? ⟨b, off + i, none⟩ = some (V i) ∧ SA w (V i) (L i)
def A1 (w : World) (o : Option Addr) (n : Nat) (f : Nat → Int) : Prop :=
  ∀ i, i < n → ∃ b off, o = some ⟨b, off, none⟩ ∧ w.cell? ⟨b, off + i, none⟩ = some (.int .i64 (f i))
def A2 (w : World) (o : Option Addr) (n : Nat) (g : Nat → Int) : Prop :=
  ∀ i, i < n → ∃ b off, o = some ⟨b, off, none⟩ ∧ w.cell? ⟨b, off + i, none⟩ = some (.int .u8 (g i)) ∧ 0 ≤ g i ∧ g i ≤ 255
theorem sa_kp {S : Nat → Prop} {w w' : World} {v : Value} {l : List B} (h : SA w v l) (hk : Kp S w w') (hs : ∀ j, S j → w.heap.size ≤ j) : SA w' v l := by
  rcases h with h | ⟨b, off, cap, rfl, hc⟩
  · exact .inl h
  · exact .inr ⟨b, off, cap, rfl, cells_kept hc hk (fun e => by have := hs _ e; have := hc.1; omega)⟩
theorem sa_low {w : World} {v : Value} {l : List B} (h : SA w v l) : ∀ b off n c, v = .slice (some ⟨b, off, none⟩) n c → 0 < n → b < w.heap.size := by
  intro b off n c e hn
  rcases h with ⟨_, o, c', e'⟩ | ⟨b', off', cap, e', hc⟩
  · rw [e] at e'; cases e'; omega
  · rw [e] at e'; cases e'; exact hc.1
theorem kp_low {w w' : World} {b i : Nat} {v : Value} (hk : Kp (fun j => w.heap.size ≤ j) w w') (hc : w.cell? ⟨b, i, none⟩ = some v) : w'.cell? ⟨b, i, none⟩ = some v ∧ b < w'.heap.size :=
  have hb := World.block_lt_of_cell? w _ hc
  have hb' : b < w.heap.size := hb
  ⟨hk.cell hc (fun e => by omega), by have := hk.size; omega⟩

set_option maxHeartbeats 16000000 in
set_option maxRecDepth 100000 in
theorem plays_walk (o o1 o2 : Option Addr) (n c n1 c1 n2 c2 : Nat) (V : Nat → Value) (L : Nat → List B) (f g : Nat → Int) (w : World) (h0 : A0 w o n V L) (h1 : A1 w o1 n1 f) (h2 : A2 w o2 n2 g)
    (hn : n ≤ maxLen) (hn1 : n1 ≤ maxLen) (hn2 : n2 ≤ maxLen) (hL : ∀ i, i < n → (L i).length ≤ maxLen) :
    Calls Try.prog 5 #[.slice o n c, .slice o1 n1 c1, .slice o2 n2 c2] w fun e w' => e = .returned (.bool true) ∧ Gn w w' := by
  have H0 : Hid _ := h0
  have H1 : Hid _ := h1
  have H2 : Hid _ := h2
  have HL : Hid _ := hL
  clear h0 h1 h2 hL
  unfold maxLen at hn hn1 hn2
  by_cases a1 : 6 < n
  · have d1 : decide ((6 : Int) < (n : Int)) = true := by rw [decide_eq_true_eq]; omega
    go_enter Try.func5, Try.ntmps5
    go_wp2_with (first | (go_at_call 7; refine (awake_is _).mono ?_; rintro y w' ⟨rfl, q, rfl⟩))
    all_goals first
      | omega
      | (go_ret; exact ⟨rfl, (by with_reducible (repeat (first | exact Gn.refl _ | refine Gn.gr ?_ _ | refine Gn.alloc ?_ _ | refine Gn.drew ?_)))⟩)
  have d1 : decide ((6 : Int) < (n : Int)) = false := by rw [decide_eq_false_iff_not]; omega
  by_cases a2 : n1 < n
  · have d2 : decide (n1 < n) = true := by rw [decide_eq_true_eq]; omega
    go_enter Try.func5, Try.ntmps5
    go_wp2_with (first | (go_at_call 7; refine (awake_is _).mono ?_; rintro y w' ⟨rfl, q, rfl⟩))
    all_goals first
      | omega
      | (go_ret; exact ⟨rfl, (by with_reducible (repeat (first | exact Gn.refl _ | refine Gn.gr ?_ _ | refine Gn.alloc ?_ _ | refine Gn.drew ?_)))⟩)
  have d2 : decide (n1 < n) = false := by rw [decide_eq_false_iff_not]; omega
  by_cases a3 : n2 < n
  · have d3 : decide (n2 < n) = true := by rw [decide_eq_true_eq]; omega
    go_enter Try.func5, Try.ntmps5
    go_wp2_with (first | (go_at_call 7; refine (awake_is _).mono ?_; rintro y w' ⟨rfl, q, rfl⟩))
    all_goals first
      | omega
      | (go_ret; exact ⟨rfl, (by with_reducible (repeat (first | exact Gn.refl _ | refine Gn.gr ?_ _ | refine Gn.alloc ?_ _ | refine Gn.drew ?_)))⟩)
  have d3 : decide (n2 < n) = false := by rw [decide_eq_false_iff_not]; omega
  go_enter Try.func5, Try.ntmps5
  go_wp2_with (first | (go_at_call 8; refine (new_is _).mono ?_; rintro e wn ⟨tb, rfl, hot, hTB, hgn⟩; have HS : Hid _ := pst_start hgn hot hTB; clear hTB hgn))
  generalize wn.heap.size = xb at *
  go_loopw [9] (fun i wr => ∃ k : Nat, k ≤ n ∧ i = .int .i64 k ∧ ∃ st, PSt w tb xb (fun _ => False) (k * 20) st wr) (fun i _ => n - (intOf i).toNat)
  case atStart => exact ⟨0, by omega, rfl, none, HS.out⟩
  case round =>
    clear HS
    obtain ⟨k, hk, rfl, st, hps⟩ := hrel
    by_cases hlt : k < n
    · obtain ⟨b, off, rfl, hc, hsa⟩ := H0.out k hlt
      obtain ⟨b1, off1, rfl, hc1⟩ := H1.out k (by omega)
      obtain ⟨b2, off2, rfl, hc2, hg0, hg1⟩ := H2.out k (by omega)
      obtain ⟨ok, ck, hV⟩ := hsa.shape
      have hlm := HL.out k hlt
      unfold maxLen at hlm
      rw [hV] at hc hsa
      generalize L k = l at *
      obtain ⟨e0, bl0⟩ := kp_low hps.kp hc
      obtain ⟨e1, bl1⟩ := kp_low hps.kp hc1
      obtain ⟨e2, bl2⟩ := kp_low hps.kp hc2
      have hsw := sa_kp hsa hps.kp (fun _ h => h)
      have i0 : (k : Int) < (n : Int) := by omega
      have i1 : (k : Int) < (n1 : Int) := by omega
      have i2 : (k : Int) < (n2 : Int) := by omega
      have C0 : Hid _ := hc
      have C1 : Hid _ := hc1
      have C2 : Hid _ := hc2
      have HSA : Hid _ := hsa
      have HSW : Hid _ := hsw
      have HP : Hid _ := hps
      clear hc hc1 hc2 hsa hsw hV hps
      by_cases b8 : 8 < l.length
      · have d8 : decide ((8 : Int) < (l.length : Int)) = true := by rw [decide_eq_true_eq]; omega
        have hfin := (PSt.kp HP.out).to_gn (fun _ h => h)
        have HF : Hid _ := hfin
        clear hfin
        go_wp2_with (first | (go_at_call 7; refine (awake_is _).mono ?_; rintro y w' ⟨rfl, q, rfl⟩))
        all_goals first
          | omega
          | (go_ret; exact ⟨rfl, Gn.gr HF.out _⟩)
      have d8 : decide ((8 : Int) < (l.length : Int)) = false := by rw [decide_eq_false_iff_not]; omega
      cases dR : decide (Right l)
      · have hfin := (PSt.kp HP.out).to_gn (fun _ h => h)
        have HF : Hid _ := hfin
        clear hfin
        go_wp2_with (first
          | (go_at_call 6; refine (right_sa _ l _ HSW.out (by omega)).mono ?_; rintro y w' ⟨rfl, q, rfl⟩; (try simp only [dR]))
          | (go_at_call 7; refine (awake_is _).mono ?_; rintro y w' ⟨rfl, q2, rfl⟩))
        all_goals first
          | omega
          | (go_ret; exact ⟨rfl, Gn.trans HF.out (by with_reducible (repeat (first | exact Gn.refl _ | refine Gn.gr ?_ _ | refine Gn.alloc ?_ _ | refine Gn.drew ?_)))⟩)
      have hR : Right l := by simpa using dR
      have ht : Tame l := hR.tame (by omega)
      go_wp2_with (first
          | (go_at_call 6; refine (right_sa _ l _ HSW.out (by omega)).mono ?_; rintro y w' ⟨rfl, q, rfl⟩; (try simp only [dR])))
      obtain ⟨wq, hwq⟩ : ∃ x, wr.gr q = x := ⟨_, rfl⟩
      have hgq : Gn wr wq := by rw [← hwq]; exact Gn.gr (Gn.refl _) _
      rw [hwq]
      clear hwq
      replace e0 := gn_cell hgq e0
      replace e1 := gn_cell hgq e1
      have HPQ : Hid _ := PSt.grown HP.out hgq
      clear HP HSW e2 bl0 bl1 bl2 hgq
      go_region_held3 (fun w' => w'.cell? ⟨b1, off1 + k, none⟩ = some (.int .i64 (f k)) ∧ w'.cell? ⟨b, off + k, none⟩ = some (.slice ok l.length ck)) (go_keep) (fail)
      go_wp2
      have hst : PSt w tb xb (fun j => j = wq.heap.size) (k * 20) st ((wq.alloc (.cells #[.int .i64 (f k), .slice ok l.length ck] 36)).drew) :=
        PSt.newX HPQ.out (by with_reducible (repeat (first | exact Gn.refl _ | refine Gn.gr ?_ _ | refine Gn.alloc ?_ _ | refine Gn.drew ?_))) (fun j h1 _ h3 => by omega)
      have s0 : ((wq.alloc (.cells #[.int .i64 (f k), .slice ok l.length ck] 36)).drew).cell? ⟨wq.heap.size, 0, none⟩ = some (.int .i64 (f k)) := by simp
      have s1 : ((wq.alloc (.cells #[.int .i64 (f k), .slice ok l.length ck] 36)).drew).cell? ⟨wq.heap.size, 1, none⟩ = some (.slice ok l.length ck) := by simp
      have HST : Hid _ := And.intro hst (And.intro s0 s1)
      clear hst s0 s1 HPQ e0 e1
      generalize ((wq.alloc (.cells #[.int .i64 (f k), .slice ok l.length ck] 36)).drew) = W1 at *
      generalize wq.heap.size = sb at *
      go_loopw [11] (fun i wr => ∃ m : Nat, (m : Int) ≤ g k % 21 ∧ i = .int .i64 m ∧ ∃ st, PSt w tb xb (fun j => j = sb) (k * 20 + m) st wr ∧ wr.cell? ⟨sb, 0, none⟩ = some (.int .i64 (f k)) ∧ wr.cell? ⟨sb, 1, none⟩ = some (.slice ok l.length ck)) (fun i _ => 21 - (intOf i).toNat)
      case atStart => exact ⟨0, by omega, rfl, st, HST.out⟩
      case round =>
        clear HST
        obtain ⟨m, hm, rfl, st, hps, s0, s1⟩ := hrel
        obtain ⟨e2, bl2⟩ := kp_low hps.kp C2.out
        have hsl : sb < wr.heap.size := World.block_lt_of_cell? wr _ s0
        have HP : Hid _ := hps
        have hk6 : k ≤ 6 := by omega
        clear hps
        by_cases hmt : (m : Int) < g k % 21
        · have hpick := pst_pick (v := .slice ok l.length ck) (l := l) (ver := f k) HP.out (fun j e => by subst e; exact hsl) (sa_kp HSA.out (PSt.kp HP.out) (fun _ h => h)) ht (by omega)
          obtain ⟨cc, hcc⟩ : ∃ cc, cur st l (f k) = cc := ⟨_, rfl⟩
          have hpick2 : Calls Try.prog 9 #[.pointer (some ⟨tb, 0, none⟩), .agg #[.int .i64 (f k), .slice ok l.length ck]] wr fun y w' => y = .returned (.tuple #[.int .i64 (idOf cc), .bool (okOf cc)]) ∧ PSm w tb xb (fun j => j = sb) (k * 20 + m) st l (f k) w' ∧ Kp (fun j => w.heap.size ≤ j ∧ ¬ j = sb) wr w' := by
            rw [← hcc]; exact hpick
          have HPK : Hid _ := hpick2
          have HCC : Hid _ := hcc
          have S0 : Hid _ := s0
          have S1 : Hid _ := s1
          clear hpick hpick2 hcc
          go_wp2_with (first | (go_at_call 9; refine Calls.mono HPK.out ?_; rintro y w1 ⟨rfl, hpm, hK⟩; have HM : Hid _ := hpm; have HK : Hid _ := hK; clear hpm hK))
          have d0 := (kp_low (PSm.kp HM.out) C0.out).1
          have d1 := (kp_low (PSm.kp HM.out) C1.out).1
          have hs1 : sb < w1.heap.size := by have := (Kp.size HK.out); omega
          have hpick : ∀ W, Gn w1 W → Calls Try.prog 11 #[.pointer (some ⟨xb, 0, none⟩), .int .i64 (f k), .slice ok l.length ck] W fun y w' => y = .returned (.tuple #[.int .i64 (idOf cc), .bool (okOf cc)]) ∧ PSt w tb xb (fun j => j = sb) (k * 20 + m + 1) (nxt cc (f k)) w' ∧ Kp (fun j => w.heap.size ≤ j ∧ ¬ j = sb) W w' := fun W hg => by
            rw [← HCC.out]
            exact psm_pick (PSm.grown HM.out hg) (fun j e => by subst e; have := hg.size; omega) (sa_kp HSA.out ((PSm.kp HM.out).gn hg) (fun _ h => h)) (sa_low HSA.out) ht (by omega)
          have HPK2 : Hid _ := hpick
          clear hpick HPK s0 s1
          go_region_held3 (fun w' => w'.cell? ⟨b1, off1 + k, none⟩ = some (.int .i64 (f k)) ∧ w'.cell? ⟨b, off + k, none⟩ = some (.slice ok l.length ck))
            (first | go_keep | (go_split_ands; refine ⟨?_, ?_⟩ <;> first | exact (kp_low (PSt.kp HP2.out) C1.out).1 | exact (kp_low (PSt.kp HP2.out) C0.out).1))
            (first | (go_at_call 11; refine Calls.mono (HPK2.out _ (by with_reducible (repeat (first | exact Gn.refl _ | refine Gn.gr ?_ _ | refine Gn.alloc ?_ _ | refine Gn.drew ?_)))) ?_; rintro y w2 ⟨rfl, hp2, hK2⟩; have HP2 : Hid _ := hp2; have HK2 : Hid _ := hK2; clear hp2 hK2))
          go_wp2
          obtain ⟨on, cn, x3, hsame⟩ := pst_xnum HP2.out
          have hxl := (pst_facts HP2.out).1
          have HX : Hid _ := hsame
          have bn1 : (idOf cc != idOf cc) = false := by simp
          clear hsame d0 d1
          go_region_held3 (fun w' => w'.cell? ⟨xb, 3, none⟩ = some (.slice on cc.1.length cn))
            (first | go_keep | exact gn_cell (Gn.trans HG3.out HG4.out) x3 | exact gn_cell HG3.out x3)
            (first | (go_at_call 10; refine Calls.mono (pst_numbers (PSt.grown HP2.out (by with_reducible (repeat (first | exact Gn.refl _ | refine Gn.gr ?_ _ | refine Gn.alloc ?_ _ | refine Gn.drew ?_))))) ?_; rintro y w3 ⟨v', rfl, hil, hg3⟩; have HIL : Hid _ := hil; have HG3 : Hid _ := Gn.trans (Gn.drew (Gn.refl w2)) hg3; clear hil hg3) | (go_at_call 12; refine Calls.mono (HX.out _ _ HG3.out HIL.out) ?_; rintro y w4 ⟨rfl, hg4⟩; have HG4 : Hid _ := hg4; clear hg4))
          go_wp2
          go_roundw
          case rel => exact ⟨m + 1, by omega, by go_num, nxt cc (f k), PSt.grown (show PSt w tb xb (fun j => j = sb) (k * 20 + (m + 1)) (nxt cc (f k)) w2 from HP2.out) (Gn.trans HG3.out HG4.out), gn_cell (Gn.trans HG3.out HG4.out) (Kp.cell HK2.out (gn_cell (Gn.drew (Gn.refl w1)) (Kp.cell HK.out S0.out (fun e => e.2 rfl))) (fun e => e.2 rfl)), gn_cell (Gn.trans HG3.out HG4.out) (Kp.cell HK2.out (gn_cell (Gn.drew (Gn.refl w1)) (Kp.cell HK.out S1.out (fun e => e.2 rfl))) (fun e => e.2 rfl))⟩
          case measure => simp [intOf]; omega
        · have hme : (m : Int) = g k % 21 := by omega
          have dmm : decide ((m : Int) < g k % 21) = false := by rw [decide_eq_false_iff_not]; omega
          clear s0 s1
          go_wp2_with (first | (go_at_call 13; refine Calls.mono (pst_version HP.out) ?_; rintro y w1 ⟨rfl, hg1⟩; have hpf := pst_facts (PSt.grown HP.out hg1); obtain ⟨xl, x0, x1⟩ := hpf; have HG1 : Hid _ := hg1; clear hg1))
          go_roundw
          case rel => exact ⟨k + 1, by omega, by go_num, st, PSt.more (PSt.newX HP.out HG1.out (fun j _ _ e => e.elim)) (by omega)⟩
          case measure => simp [intOf]; omega
    · obtain rfl : k = n := by omega
      have hfin := (PSt.kp hps).to_gn (fun _ h => h)
      have HF : Hid _ := hfin
      clear hfin hps
      go_wp2_with (first | (go_at_call 7; refine (awake_is _).mono ?_; rintro y w' ⟨rfl, q, rfl⟩))
      go_ret
      exact ⟨rfl, Gn.gr HF.out _⟩
end Go.Proofs.Ytidekhhelljjdaa
